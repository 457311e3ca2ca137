/- TellTwin: a twin has the same, and goes its own way; a line made of a line's mark and windows is that line. -/
import Derived.Test.YtmhbibcfbencnaaTeE
namespace Go.Proofs.Ytmhbibcfbencnaa
open Go.RowKit Go.Lib
set_option linter.unusedSimpArgs false
set_option linter.unusedVariables false
set_option maxRecDepth 100000 in
set_option maxHeartbeats 4000000 in
theorem law_TellTwin (A : Option Addr) (l : List A4) (c : Nat) (hl : l.length ≤ 9223372036854775807) (hz : ∀ y ∈ l, A4.Wf y) (A2 : Option Addr) (l2 : List A4) (c2 : Nat) (hl2 : l2.length ≤ 9223372036854775807) (hz2 : ∀ y ∈ l2, A4.Wf y) (w : World) (hA : A4Row w A l) (hA2 : A4Row w A2 l2) :
    Calls Try.prog 15 #[.slice A l.length c, .slice A2 l2.length c2] w fun e w' => e = .returned (.bool true) ∧ Below w.heap.size w w' := by
  have HA := Lib.hid hA
  have HA2 := Lib.hid hA2
  clear hA hA2
  go_enter Try.func15, Try.ntmps15
  go_wp2_with (fail)
  refine (great10_any c (HA.out) hl hz).mono ?_
  rintro e w1 ⟨g, rfl, hg, rfl⟩
  cases g with
  | true =>
    go_wp2_with (fail)
    go_wp2_with (fail)
    refine (twakes_any _).mono ?_
    rintro e w2 ⟨rfl, hB2⟩
    have HBe := Lib.hid ((Below.refl w.heap.size w).trans (hB2.mono (Below.refl w.heap.size w).size))
    clear hB2
    go_wp2_with (fail)
    go_ret
    exact ⟨rfl, HBe.out⟩
  | false =>
    have h200 := (hg rfl).1
    clear hg
    go_wp2_with (fail)
    refine (great10_any c2 (HA2.out) hl2 hz2).mono ?_
    rintro e w1 ⟨g2, rfl, hg2, rfl⟩
    cases g2 with
    | true =>
      go_wp2_with (fail)
      go_wp2_with (fail)
      refine (twakes_any _).mono ?_
      rintro e w2 ⟨rfl, hB2⟩
      have HBe := Lib.hid ((Below.refl w.heap.size w).trans (hB2.mono (Below.refl w.heap.size w).size))
      clear hB2
      go_wp2_with (fail)
      go_ret
      exact ⟨rfl, HBe.out⟩
    | false =>
      have h200b := (hg2 rfl).1
      clear hg2
      go_wp2_with (fail)
      refine (tnew_any _).mono ?_
      rintro e w1 ⟨q, p, b, rfl, hL, hq, hp, hb, hB⟩
      have HA1 := Lib.hid (HA.out.below hB)
      have HR1 := Lib.hid (HA2.out.below hB)
      have hf1 := HA.out.far hq
      have hf2 := HA.out.far hb
      have HF1 := Lib.hid (HA2.out.far hq)
      have HF2 := Lib.hid (HA2.out.far hb)
      have HB1 := Lib.hid hB
      have HN := Lib.hid (show w.heap.size ≤ q ∧ w.heap.size ≤ p ∧ w.heap.size ≤ b from ⟨hq, hp, hb⟩)
      clear hq hp hb hB
      go_wp2_with (fail)
      refine (plays10_any c hL (by simp) HA1.out hz h200 (fun h g off e => ⟨hf1 h g off e, hf2 h g off e⟩)).mono ?_
      rintro e w2 ⟨v2, rfl, hD, hL2, hK⟩
      have hok := LnOk.acts (told := []) LnOk.zero l hz
      obtain ⟨⟨mk, L, told⟩, hpl⟩ : ∃ r, plT (0, [], []) l = r := ⟨_, rfl⟩
      rw [hpl] at hD hL2 hok
      simp only at hok hL2
      have HOK := Lib.hid hok
      have HL2 := Lib.hid hL2
      have HR2 := Lib.hid (HR1.out.keep hK (fun hl g off e => by have := HF1.out hl g off e; have := HF2.out hl g off e; simp; omega))
      have HB2 := Lib.hid (HB1.out.trans (hK.below HB1.out.size (by have := HN.out; simp; omega)))
      obtain ⟨av2, cv2, rfl, _⟩ := own_shape hD
      clear hL hD hL2 hK hok hpl hf1 hf2 HA1 HR1 HB1 HF1 HF2
      go_wp2_with (fail)
      refine (topen_any HL2.out (by have := HOK.out.N; omega)).mono ?_
      rintro e w3 ⟨A3, c3, rfl, hE, hB⟩
      have HE3 := Lib.hid hE.row
      have HL3 := Lib.hid (HL2.out.below hB)
      have HR3 := Lib.hid (HR2.out.below hB)
      have HB3 := Lib.hid (HB2.out.trans (hB.mono HB2.out.size))
      clear hE hB
      clear HL2 HR2 HB2
      go_wp2_with (fail)
      refine (tat_any HL3.out).mono ?_
      rintro e w4 ⟨rfl, rfl⟩
      go_wp2_with (fail)
      refine (ttwin_any HL3.out).mono ?_
      rintro e w5 ⟨q', p', b', rfl, hT, hq, hp, hb, hB⟩
      have HT5 := Lib.hid hT
      have HG1 := Lib.hid (HE3.out.far hq)
      have HG2 := Lib.hid (HE3.out.far hb)
      have HF1 := Lib.hid (HR3.out.far hq)
      have HF2 := Lib.hid (HR3.out.far hb)
      have HL5 := Lib.hid (HL3.out.below hB)
      have HR5 := Lib.hid (HR3.out.below hB)
      have HE5 := Lib.hid (HE3.out.below hB)
      have HB5 := Lib.hid (HB3.out.trans (hB.mono HB3.out.size))
      have HN5 := Lib.hid (show w.heap.size ≤ q' ∧ w.heap.size ≤ b' ∧ q ≠ q' ∧ q ≠ b' ∧ p ≠ q' ∧ p ≠ b' ∧ b ≠ q' ∧ b ≠ b' from by have := HL3.out.lt; have := HB3.out.size; omega)
      clear hT hq hp hb hB
      clear HL3 HR3 HE3 HB3
      have hof := tof_any c3 HE5.out (by have := HOK.out.N; omega) (fun y hy => okW_kz (HOK.out.K y hy)) mk
      rw [ofF_self HOK.out] at hof
      unfold OfP at hof
      go_wp2_with (fail)
      refine hof.mono ?_
      rintro e w6 ⟨h1, _, hB⟩
      obtain ⟨q6, p6, b6, rfl, hM, hq, hp, hb⟩ := h1 (by trivial)
      try simp only at hM
      have HM6 := Lib.hid hM
      have HG3 := Lib.hid (HE5.out.far hq)
      have HG4 := Lib.hid (HE5.out.far hb)
      have HF3 := Lib.hid (HR5.out.far hq)
      have HF4 := Lib.hid (HR5.out.far hb)
      have HL6 := Lib.hid (HL5.out.below hB)
      have HT6 := Lib.hid (HT5.out.below hB)
      have HR6 := Lib.hid (HR5.out.below hB)
      have HE6 := Lib.hid (HE5.out.below hB)
      have HB6 := Lib.hid (HB5.out.trans (hB.mono HB5.out.size))
      have HN6 := Lib.hid (show w.heap.size ≤ q6 ∧ w.heap.size ≤ b6 ∧ q ≠ q6 ∧ q ≠ b6 ∧ p ≠ q6 ∧ p ≠ b6 ∧ b ≠ q6 ∧ b ≠ b6 ∧ q' ≠ q6 ∧ q' ≠ b6 ∧ p' ≠ q6 ∧ p' ≠ b6 ∧ b' ≠ q6 ∧ b' ≠ b6 from by have := HL5.out.lt; have := HT5.out.lt; have := HB5.out.size; omega)
      have HN7 := Lib.hid (show q6 ≠ q' ∧ q6 ≠ b' ∧ p6 ≠ q' ∧ p6 ≠ b' ∧ b6 ≠ q' ∧ b6 ≠ b' from by have := HT5.out.lt; omega)
      clear h1 hof hM hq hp hb hB
      clear HL5 HT5 HR5 HE5 HB5
      go_wp2_with (fail)
      refine (plays10_any c2 HT6.out HOK.out.N HR6.out hz2 h200b (fun h g off e => ⟨HF1.out h g off e, HF2.out h g off e⟩)).mono ?_
      rintro e w7 ⟨v7, rfl, hD, hT, hK⟩
      obtain ⟨⟨mk2, L2, told2⟩, hpl⟩ : ∃ r, plT (mk, L, []) l2 = r := ⟨_, rfl⟩
      have hok2 := LnOk.acts (told := []) HOK.out l2 hz2
      rw [hpl] at hD hT hok2
      simp only at hT hok2
      have HPL := Lib.hid hpl
      have HOK2 := Lib.hid hok2
      have HT7 := Lib.hid hT
      have HV7 := Lib.hid (show DocRow w6.heap.size w7 v7 told2 from hD)
      have HVN := Lib.hid (show q6 < w6.heap.size ∧ b6 < w6.heap.size from ⟨HM6.out.lt.1, HM6.out.lt.2.2⟩)
      have HVB := Lib.hid (show ∀ g, v7.ownBlock = some g → w6.heap.size ≤ g from own_base hD)
      have HL7 := Lib.hid (HL6.out.keep hK (by have := HN5.out; simp; omega) (by have := HN5.out; simp; omega) (by have := HN5.out; simp; omega))
      have HM7 := Lib.hid (HM6.out.keep hK (by have := HN7.out; simp; omega) (by have := HN7.out; simp; omega) (by have := HN7.out; simp; omega))
      have HR7 := Lib.hid (HR6.out.keep hK (fun hl g off e => by have := HF1.out hl g off e; have := HF2.out hl g off e; simp; omega))
      have HE7 := Lib.hid (HE6.out.keep hK (fun hl g off e => by have := HG1.out hl g off e; have := HG2.out hl g off e; simp; omega))
      have HB7 := Lib.hid (HB6.out.trans (hK.below HB6.out.size (by have := HN5.out; simp; omega)))
      obtain ⟨av7, cv7, rfl, _⟩ := own_shape hD
      clear hD hT hK hok2 hpl HF1 HF2 HG1 HG2
      clear HL6 HT6 HM6 HR6 HE6 HB6
      go_wp2_with (fail)
      refine (topen_any HL7.out (by have := HOK.out.N; omega)).mono ?_
      rintro e w8 ⟨A8, c8, rfl, hE, hB⟩
      have HX8 := Lib.hid hE.row
      have HL8 := Lib.hid (HL7.out.below hB)
      have HT8 := Lib.hid (HT7.out.below hB)
      have HM8 := Lib.hid (HM7.out.below hB)
      have HR8 := Lib.hid (HR7.out.below hB)
      have HE8 := Lib.hid (HE7.out.below hB)
      have HV8 := Lib.hid (DocRow.rw (own_keep HV7.out (Keep.of_below hB []) (fun _ _ => by simp)))
      have HB8 := Lib.hid (HB7.out.trans (hB.mono HB7.out.size))
      clear hE hB HV7
      clear HL7 HT7 HM7 HR7 HE7 HB7
      go_wp2_with (fail)
      have hsm := same_any c8 c3 HX8.out HE8.out (by have := HOK.out.N; omega) (by have := HOK.out.N; omega)
      rw [decide_eq_true rfl] at hsm
      refine hsm.mono ?_
      rintro e w9 ⟨rfl, hK⟩
      have HL9 := Lib.hid (HL8.out.keep hK)
      have HT9 := Lib.hid (HT8.out.keep hK)
      have HM9 := Lib.hid (HM8.out.keep hK)
      have HR9 := Lib.hid (HR8.out.keep hK (fun _ _ _ _ => by simp))
      have HV9 := Lib.hid (HV8.out.keep hK (fun _ _ _ _ => by simp))
      have HB9 := Lib.hid (HB8.out.trans (hK.below HB8.out.size (by simp)))
      clear hK hsm
      clear HL8 HT8 HM8 HR8 HV8 HB8
      clear HX8 HE8
      go_wp2_with (fail)
      refine (tat_any HL9.out).mono ?_
      rintro e w10 ⟨rfl, rfl⟩
      go_wp2_with (fail)
      refine (plays10_any c2 HM9.out HOK.out.N HR9.out hz2 h200b (fun h g off e => ⟨HF3.out h g off e, HF4.out h g off e⟩)).mono ?_
      rintro e w11 ⟨v11, rfl, hD, hM, hK⟩
      rw [HPL.out] at hD hM
      simp only at hM
      have HM11 := Lib.hid hM
      have HT11 := Lib.hid (HT9.out.keep hK (by have := HN6.out; simp; omega) (by have := HN6.out; simp; omega) (by have := HN6.out; simp; omega))
      have HV11 := Lib.hid (HV9.out.keep hK (fun hl g off e => by have := HVB.out g (by rw [e]; simp [Value.ownBlock]); have := HVN.out; simp; omega))
      have HY11 := Lib.hid (show DocRow w9.heap.size w11 v11 told2 from hD)
      have HB11 := Lib.hid (HB9.out.trans (hK.below HB9.out.size (by have := HN6.out; simp; omega)))
      obtain ⟨av11, cv11, rfl, _⟩ := own_shape hD
      clear hD hM hK HF3 HF4 HG3 HG4 HL9
      clear HT9 HM9 HR9 HV9 HB9
      go_wp2_with (fail)
      have htl : told2.length ≤ 9223372036854775807 := by have := plT_len (mk, L, []) l2 HOK.out.N HOK.out.U; rw [HPL.out] at this; simp at this; omega
      have hsm := same_any cv7 cv11 HV11.out (DocRow.rw HY11.out) htl htl
      rw [decide_eq_true rfl] at hsm
      refine hsm.mono ?_
      rintro e w12 ⟨rfl, hK⟩
      have HT12 := Lib.hid (HT11.out.keep hK)
      have HM12 := Lib.hid (HM11.out.keep hK)
      have HB12 := Lib.hid (HB11.out.trans (hK.below HB11.out.size (by simp)))
      clear hsm hK HV11 HY11 HT11 HM11 HB11 htl
      go_wp2_with (fail)
      refine (topen_any HT12.out (by have := HOK2.out.N; omega)).mono ?_
      rintro e w13 ⟨A13, c13, rfl, hE, hB⟩
      have HX13 := Lib.hid hE.row
      have HT13 := Lib.hid (HT12.out.below hB)
      have HM13 := Lib.hid (HM12.out.below hB)
      have HB13 := Lib.hid (HB12.out.trans (hB.mono HB12.out.size))
      clear hE hB
      clear HT12 HM12 HB12
      go_wp2_with (fail)
      refine (topen_any HM13.out (by have := HOK2.out.N; omega)).mono ?_
      rintro e w14 ⟨A14, c14, rfl, hE, hB⟩
      have HY14 := Lib.hid hE.row
      have HX14 := Lib.hid (HX13.out.below hB)
      have HT14 := Lib.hid (HT13.out.below hB)
      have HM14 := Lib.hid (HM13.out.below hB)
      have HB14 := Lib.hid (HB13.out.trans (hB.mono HB13.out.size))
      clear hE hB HX13
      clear HT13 HM13 HB13
      go_wp2_with (fail)
      have hsm := same_any c13 c14 HX14.out HY14.out (by have := HOK2.out.N; omega) (by have := HOK2.out.N; omega)
      rw [decide_eq_true rfl] at hsm
      refine hsm.mono ?_
      rintro e w15 ⟨rfl, hK⟩
      have HT15 := Lib.hid (HT14.out.keep hK)
      have HM15 := Lib.hid (HM14.out.keep hK)
      have HB15 := Lib.hid (HB14.out.trans (hK.below HB14.out.size (by simp)))
      clear hK hsm
      clear HT14 HM14 HB14
      clear HX14 HY14
      go_wp2_with (fail)
      refine (tat_any HT15.out).mono ?_
      rintro e w16 ⟨rfl, rfl⟩
      go_wp2_with (fail)
      refine (tat_any HM15.out).mono ?_
      rintro e w16 ⟨rfl, rfl⟩
      go_wp2_with (fail)
      refine (twakes_any _).mono ?_
      rintro e w17 ⟨rfl, hB17⟩
      have HBe := Lib.hid (HB15.out.trans (hB17.mono HB15.out.size))
      clear hB17
      go_wp2_with (fail)
      go_ret
      exact ⟨rfl, HBe.out⟩
end Go.Proofs.Ytmhbibcfbencnaa
