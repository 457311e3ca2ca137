/- StoreTwin: a twin has the same, and goes its own way; set into another store, window by window, it is the same. -/
import Derived.Test.YtmhbibcfbencnaaStY
namespace Go.Proofs.Ytmhbibcfbencnaa
open Go.RowKit Go.Lib
open Go.Sort (HoldsK)
set_option linter.unusedSimpArgs false
set_option linter.unusedVariables false
/-- A row of cells that may be written. -/
def RowW (W : World) (g n : Nat) : Prop := ∀ j, j < n → (∃ v, W.cell? ⟨g, j, none⟩ = some v) ∧ W.frozen? ⟨g, j, none⟩ = false
theorem RowW.setCell {W : World} {g n : Nat} (h : RowW W g n) (o : Nat) (v : Value) : RowW (W.setCell ⟨g, o, none⟩ v) g n := by
  intro j hj
  obtain ⟨⟨u, hu⟩, hf⟩ := h j hj
  refine ⟨?_, ?_⟩
  · by_cases e : j = o
    · subst e
      exact ⟨v, by go_simp⟩
    · exact ⟨u, by rw [World.cell?_setCell_other _ _ _ _ (by simp; try omega)]; exact hu⟩
  · simpa using hf
theorem RowW.keep {X : List Nat} {W W' : World} {g n : Nat} (h : RowW W g n) (hk : Keep X W W') (hg : g < W.heap.size) (hx : g ∉ X) : RowW W' g n := by
  have hb := hk.block g hg hx
  intro j hj
  have h1 := h j hj
  unfold World.cell? World.frozen? at h1 ⊢
  rw [hb]
  exact h1
theorem RowW.of_ots {W : World} {g : Nat} {l : List Ot} (h : HoldsK Ot.enc 10 W g 0 l.toArray) : RowW W g (l.length * 10) := by
  intro j hj
  have := h j (by simpa using hj)
  rw [Nat.zero_add] at this
  exact ⟨⟨_, this.1⟩, this.2⟩
set_option maxRecDepth 100000 in
set_option maxHeartbeats 4000000 in
theorem law_StoreTwin (A : Option Addr) (l : List A9) (c : Nat) (hl : l.length ≤ 9223372036854775807) (hz : ∀ y ∈ l, A9.Wf y) (A2 : Option Addr) (l2 : List A9) (c2 : Nat) (hl2 : l2.length ≤ 9223372036854775807) (hz2 : ∀ y ∈ l2, A9.Wf y) (w : World) (hA : A9Row w A l) (hA2 : A9Row w A2 l2) :
    Calls Try.prog 11 #[.slice A l.length c, .slice A2 l2.length c2] w fun e w' => e = .returned (.bool true) ∧ Below w.heap.size w w' := by
  have HA := Lib.hid hA
  have HA2 := Lib.hid hA2
  clear hA hA2
  go_enter Try.func11, Try.ntmps11
  go_wp2_with (fail)
  refine (great9_any c (HA.out) hl hz).mono ?_
  rintro e w1 ⟨g, rfl, hg, rfl⟩
  cases g with
  | true =>
    go_wp2_with (fail)
    go_wp2_with (fail)
    refine (wakes09 _).mono ?_
    rintro e w2 ⟨rfl, hB2⟩
    have HBe := Lib.hid ((Below.refl w.heap.size w).trans (hB2.mono (Below.refl w.heap.size w).size))
    clear hB2
    go_wp2_with (fail)
    go_ret
    exact ⟨rfl, HBe.out⟩
  | false =>
    clear hg
    go_wp2_with (fail)
    refine (great9_any c2 (HA2.out) hl2 hz2).mono ?_
    rintro e w1 ⟨g2, rfl, hg2, rfl⟩
    cases g2 with
    | true =>
      go_wp2_with (fail)
      go_wp2_with (fail)
      refine (wakes09 _).mono ?_
      rintro e w2 ⟨rfl, hB2⟩
      have HBe := Lib.hid ((Below.refl w.heap.size w).trans (hB2.mono (Below.refl w.heap.size w).size))
      clear hB2
      go_wp2_with (fail)
      go_ret
      exact ⟨rfl, HBe.out⟩
    | false =>
      clear hg2
      go_wp2_with (fail)
      refine (rnew_any _).mono ?_
      rintro e w1 ⟨p, b, rfl, hS1, hp1, hb1, hB1⟩
      have HB1 := Lib.hid hB1
      have HA1 := Lib.hid (HA.out.below hB1)
      have HM1 := Lib.hid (HA2.out.below hB1)
      have hfar := HA.out.far hb1
      have hfar2 := HA2.out.far hb1
      have HN := Lib.hid (And.intro hp1 hb1)
      clear hB1 hp1 hb1
      go_wp2_with (fail)
      refine (plays9_any c hS1 (by simp) HA1.out hz hl hfar).mono ?_
      rintro e w2 ⟨rfl, hS2, hK2⟩
      have hok := playL_ok (L := []) l (by simp) List.Pairwise.nil
      have hokw := okW_play (L := []) (by simp) List.Pairwise.nil (by simp) l hz
      obtain ⟨L, hL⟩ : ∃ L, playL [] l = L := ⟨_, rfl⟩
      rw [hL] at hS2 hok hokw
      have HU := Lib.hid hok.2
      have H32 := Lib.hid hok.1
      have HOK := Lib.hid hokw
      have HS2 := Lib.hid hS2
      have HM2 := Lib.hid (HM1.out.keep hK2 (fun hl q off hq => by simp; exact hfar2 hl q off hq))
      have HB2 := Lib.hid (((Keep.of_below HB1.out [b]).trans hK2).below (Nat.le_refl _) (by have := HN.out.2; simp; omega))
      clear hS1 hS2 hK2 hok hokw hL hfar hfar2 HA1 HB1 HM1
      go_wp2_with (fail)
      refine (rall_any HS2.out (by have := H32.out; omega)).mono ?_
      rintro e w3 ⟨A3, c3, rfl, hE3, hB3⟩
      have HW3 := Lib.hid hE3.row
      have HM3 := Lib.hid (HM2.out.below hB3)
      have HS3 := Lib.hid (HS2.out.below hB3)
      have HB3 := Lib.hid (HB2.out.trans (hB3.mono HB2.out.size))
      clear hE3 hB3
      clear HM2 HS2 HB2
      go_wp2_with (fail)
      refine (rtwin_any HS3.out).mono ?_
      rintro e w4 ⟨p', b', rfl, hT4, hp4, hb4, hB4⟩
      have HFW := Lib.hid (HW3.out.far hb4)
      have HFM := Lib.hid (HM3.out.far hb4)
      have HW4 := Lib.hid (HW3.out.below hB4)
      have HM4 := Lib.hid (HM3.out.below hB4)
      have HS4 := Lib.hid (HS3.out.below hB4)
      have HB4 := Lib.hid (HB3.out.trans (hB4.mono HB3.out.size))
      have HN4 := Lib.hid (show p ≠ b' ∧ b ≠ b' ∧ w.heap.size ≤ b' from by have := HS3.out.lt; have := HB3.out.size; omega)
      clear hB4 hp4 hb4
      clear HW3 HM3 HS3 HB3
      go_wp2_with (fail)
      refine (plays9_any c2 hT4 H32.out HM4.out hz2 hl2 HFM.out).mono ?_
      rintro e w5 ⟨rfl, hT5, hK5⟩
      have hok := playL_ok l2 H32.out HU.out
      obtain ⟨M, hM⟩ : ∃ M, playL L l2 = M := ⟨_, rfl⟩
      rw [hM] at hT5 hok
      have HMM := Lib.hid hM
      have HU2 := Lib.hid hok.2
      have H322 := Lib.hid hok.1
      have HT5 := Lib.hid hT5
      have HS5 := Lib.hid (HS4.out.keep hK5 (by have := HN4.out; simp; omega) (by have := HN4.out; simp; omega))
      have HW5 := Lib.hid (HW4.out.keep hK5 (fun hl q off hq => by simp; exact HFW.out hl q off hq))
      have HM5 := Lib.hid (HM4.out.keep hK5 (fun hl q off hq => by simp; exact HFM.out hl q off hq))
      have HB5 := Lib.hid (HB4.out.trans (hK5.below HB4.out.size (by have := HN4.out; simp; omega)))
      clear hT4 hT5 hK5 hok hM HFW HFM
      clear HW4 HM4 HS4 HB4
      go_wp2_with (fail)
      refine (rall_any HS5.out (by have := H32.out; omega)).mono ?_
      rintro e w6 ⟨A6, c6, rfl, hE6, hB6⟩
      have HE6 := Lib.hid hE6.row
      have HT6 := Lib.hid (HT5.out.below hB6)
      have HW6 := Lib.hid (HW5.out.below hB6)
      have HM6 := Lib.hid (HM5.out.below hB6)
      have HB6 := Lib.hid (HB5.out.trans (hB6.mono HB5.out.size))
      clear hE6 hB6 HS5
      clear HT5 HW5 HM5 HB5
      go_wp2_with (fail)
      have hsm := same_any c6 c3 HE6.out HW6.out (by have := H32.out; omega) (by have := H32.out; omega)
      rw [decide_eq_true rfl] at hsm
      refine hsm.mono ?_
      rintro e w7 ⟨rfl, hK7⟩
      have HT7 := Lib.hid (HT6.out.keep hK7 (by simp) (by simp))
      have HW7 := Lib.hid (HW6.out.keep hK7 (fun _ _ _ _ => by simp))
      have HM7 := Lib.hid (HM6.out.keep hK7 (fun _ _ _ _ => by simp))
      have HB7 := Lib.hid (HB6.out.trans (hK7.below HB6.out.size (by simp)))
      clear hsm hK7
      clear HT6 HW6 HM6 HB6
      clear HE6
      go_wp2_with (fail)
      refine (rnew_any _).mono ?_
      rintro e w8 ⟨pu, bu, rfl, hU8, hp8, hb8, hB8⟩
      have HFW := Lib.hid (HW7.out.far hb8)
      have HFM := Lib.hid (HM7.out.far hb8)
      have HW8 := Lib.hid (HW7.out.below hB8)
      have HM8 := Lib.hid (HM7.out.below hB8)
      have HT8 := Lib.hid (HT7.out.below hB8)
      have HB8 := Lib.hid (HB7.out.trans (hB8.mono HB7.out.size))
      have HN8 := Lib.hid (show p' ≠ bu ∧ b' ≠ bu ∧ w.heap.size ≤ bu from by have := HT7.out.lt; have := HB7.out.size; omega)
      have HU8 := Lib.hid hU8
      have hzL := Int.natCast_nonneg L.length
      have hzM : (L.length : Int) ≤ 32 := by have := H32.out; omega
      clear hB8 hp8 hb8 hU8
      clear HW7 HM7 HT7 HB7
      go_wp2_with (fail)
      go_loopw [9] (fun i wr => ∃ j : Nat, i = .int .i64 ((j : Int) - 1) ∧ j ≤ L.length ∧ SrAt wr pu bu (L.drop j) ∧ Keep [bu] w8 wr) (fun i _ => (intOf i + 1).toNat)
      case atStart => exact ⟨L.length, rfl, Nat.le_refl _, by rw [List.drop_length]; exact HU8.out, Keep.refl _ _⟩
      case round =>
        obtain ⟨j, rfl, hj, hU, hK⟩ := hrel
        have HU9 := Lib.hid hU
        have HK9 := Lib.hid hK
        clear hU hK
        cases j with
        | succ j =>
          have hje : (((j + 1 : Nat) : Int) - 1) = (j : Int) := by omega
          rw [hje]
          obtain ⟨x, hx⟩ : ∃ x, L[j]? = some x := ⟨L[j], List.getElem?_eq_getElem (by omega)⟩
          obtain ⟨q, off, rfl, hq, hat⟩ := (HW8.out.keep HK9.out (fun hl q off hq => by simp; exact HFW.out hl q off hq)) (by intro e; rw [e] at hj; simp at hj)
          have hx0 := hat j x hx
          have hset := rset_any HU9.out (by have := H32.out; simp; omega) x (by
            have hkk := ((okO_iff _).1 (HOK.out x (List.mem_of_getElem? hx)).1).1
            unfold keyB at hkk
            rw [decide_eq_true_eq] at hkk
            unfold maxLen
            omega)
          rw [set_ahead HU.out H32.out HOK.out hx] at hset
          obtain ⟨xk, xs, ⟨x1, x2, x3, x4, x5, x6, x7, x8⟩⟩ := x
          simp only [Ot.enc] at hset
          have HSET := Lib.hid hset
          obtain ⟨d0, d1, d2, d3, d4, d5, d6, d7, d8, d9⟩ := hx0
          simp only at d0 d1 d2 d3 d4 d5 d6 d7 d8 d9
          have h0j : (0 : Int) ≤ (j : Int) := Int.natCast_nonneg j
          have hjn : (j : Int) < (L.length : Int) := by omega
          clear hat hx hset hje
          go_wp2_with (fail)
          refine HSET.out.mono ?_
          rintro e w9 ⟨rfl, hU, hK⟩
          have HUX := Lib.hid hU
          have HKX := Lib.hid (HK9.out.trans hK)
          clear hU hK HSET d0 d1 d2 d3 d4 d5 d6 d7 d8 d9 HU9 HK9
          go_wp2_with (fail)
          go_roundw
          case rel => exact ⟨j, by go_num, by omega, HUX.out, HKX.out⟩
          case measure => simp [intOf]
        | zero =>
          have hje : (((0 : Nat) : Int) - 1) = -1 := rfl
          rw [hje]
          clear hje hj
          have HUa := Lib.hid HU9.out
          rw [List.drop_zero] at HUa
          have HWa := Lib.hid (HW8.out.keep HK9.out (fun hl q off hq => by simp; exact HFW.out hl q off hq))
          have HMa := Lib.hid (HM8.out.keep HK9.out (fun hl q off hq => by simp; exact HFM.out hl q off hq))
          have HTa := Lib.hid (HT8.out.keep HK9.out (by have := HN8.out; simp; omega) (by have := HN8.out; simp; omega))
          have HBa := Lib.hid (HB8.out.trans (HK9.out.below HB8.out.size (by have := HN8.out; simp; omega)))
          have HFMa : Hid (l2 ≠ [] → ∀ q off, A2 = some ⟨q, off, none⟩ → q ≠ bu) := HFM
          clear HU9 HK9 HFW HFM
          clear HW8 HM8 HT8 HB8
          go_wp2_with (fail)
          refine (rall_any HUa.out (by have := H32.out; omega)).mono ?_
          rintro e wb ⟨Ab, cb, rfl, hEb, hBb⟩
          have HEb := Lib.hid hEb.row
          have HUb := Lib.hid (HUa.out.below hBb)
          have HTb := Lib.hid (HTa.out.below hBb)
          have HWb := Lib.hid (HWa.out.below hBb)
          have HMb := Lib.hid (HMa.out.below hBb)
          have HBb := Lib.hid (HBa.out.trans (hBb.mono HBa.out.size))
          clear hEb hBb
          clear HUa HTa HWa HMa HBa
          go_wp2_with (fail)
          have hsm := same_any cb c3 HEb.out HWb.out (by have := H32.out; omega) (by have := H32.out; omega)
          rw [decide_eq_true rfl] at hsm
          refine hsm.mono ?_
          rintro e wc ⟨rfl, hKc⟩
          have HUc := Lib.hid (HUb.out.keep hKc (by simp) (by simp))
          have HTc := Lib.hid (HTb.out.keep hKc (by simp) (by simp))
          have HMc := Lib.hid (HMb.out.keep hKc (fun _ _ _ _ => by simp))
          have HBc := Lib.hid (HBb.out.trans (hKc.below HBb.out.size (by simp)))
          clear hsm hKc
          clear HUb HTb HMb HBb
          clear HEb HWb
          go_wp2_with (fail)
          refine (plays9_any c2 HUc.out H32.out HMc.out hz2 hl2 HFMa.out).mono ?_
          rintro e wd ⟨rfl, hUd, hKd⟩
          rw [HMM.out] at hUd
          have HUd := Lib.hid hUd
          have HTd := Lib.hid (HTc.out.keep hKd (by have := HN8.out; simp; omega) (by have := HN8.out; simp; omega))
          have HBd := Lib.hid (HBc.out.trans (hKd.below HBc.out.size (by have := HN8.out; simp; omega)))
          have hzm := Int.natCast_nonneg M.length
          have hzn : (M.length : Int) ≤ 32 := by have := H322.out; omega
          clear hUd hKd HFMa
          clear HUc HMc HTc HBc
          go_wp2_with (fail)
          refine (rall_any HUd.out (by have := H322.out; omega)).mono ?_
          rintro e we ⟨Ae, ce, rfl, hEe, hBe⟩
          have HEe := Lib.hid hEe.row
          have HRe : Hid (M ≠ [] → ∃ g, Ae = some ⟨g, 0, none⟩ ∧ wd.heap.size ≤ g ∧ g < we.heap.size ∧ RowW we g (M.length * 10)) := Lib.hid (fun hm => by obtain ⟨g, e1, e2, e3, e4⟩ := hEe hm; exact ⟨g, e1, e2, e3, RowW.of_ots e4⟩)
          have HNe := Lib.hid (show pu < wd.heap.size ∧ bu < wd.heap.size ∧ p' < wd.heap.size ∧ b' < wd.heap.size ∧ w.heap.size ≤ wd.heap.size from ⟨HUd.out.lt.1, HUd.out.lt.2.1, HTd.out.lt.1, HTd.out.lt.2.1, HBd.out.size⟩)
          have HUe := Lib.hid (HUd.out.below hBe)
          have HTe := Lib.hid (HTd.out.below hBe)
          have HBe := Lib.hid (HBd.out.trans (hBe.mono HBd.out.size))
          clear hEe hBe
          clear HUd HTd HBd
          go_wp2_with (fail)
          refine (rall_any HTe.out (by have := H322.out; omega)).mono ?_
          rintro e wf ⟨Af, cf, rfl, hEf, hBf⟩
          have HEf := Lib.hid hEf.row
          have HEe2 := Lib.hid (HEe.out.below hBf)
          have HUf := Lib.hid (HUe.out.below hBf)
          have HTf := Lib.hid (HTe.out.below hBf)
          have HBf := Lib.hid (HBe.out.trans (hBf.mono HBe.out.size))
          have HRf : Hid (M ≠ [] → ∃ g, Ae = some ⟨g, 0, none⟩ ∧ wd.heap.size ≤ g ∧ g < wf.heap.size ∧ RowW wf g (M.length * 10)) := Lib.hid (fun hm => by obtain ⟨g, e1, e2, e3, e4⟩ := HRe.out hm; exact ⟨g, e1, e2, Nat.lt_of_lt_of_le e3 hBf.size, e4.keep (Keep.of_below hBf []) e3 (by simp)⟩)
          clear hEf hBf HEe HRe
          clear HUe HTe HBe
          go_wp2_with (fail)
          have hsm := same_any ce cf HEe2.out HEf.out (by have := H322.out; omega) (by have := H322.out; omega)
          rw [decide_eq_true rfl] at hsm
          refine hsm.mono ?_
          rintro e wg ⟨rfl, hKg⟩
          have HUg := Lib.hid (HUf.out.keep hKg (by simp) (by simp))
          have HTg := Lib.hid (HTf.out.keep hKg (by simp) (by simp))
          have HBg := Lib.hid (HBf.out.trans (hKg.below HBf.out.size (by simp)))
          have HRg : Hid (M ≠ [] → ∃ g, Ae = some ⟨g, 0, none⟩ ∧ wd.heap.size ≤ g ∧ g < wg.heap.size ∧ RowW wg g (M.length * 10)) := Lib.hid (fun hm => by obtain ⟨g, e1, e2, e3, e4⟩ := HRf.out hm; exact ⟨g, e1, e2, Nat.lt_of_lt_of_le e3 hKg.size, e4.keep hKg e3 (by simp)⟩)
          clear hsm hKg HEe2 HEf HRf
          clear HUf HTf HBf
          go_wp2_with (fail)
          go_loopw [12] (fun i wr => ∃ j : Nat, i = .int .i64 j ∧ j ≤ M.length ∧ (M ≠ [] → ∃ g, Ae = some ⟨g, 0, none⟩ ∧ wd.heap.size ≤ g ∧ RowW wr g (M.length * 10)) ∧ SrAt wr pu bu M ∧ SrAt wr p' b' M ∧ Below w.heap.size w wr) (fun i _ => M.length - (intOf i).toNat)
          case atStart => exact ⟨0, rfl, Nat.zero_le _, fun hm => by (obtain ⟨g, e1, e2, e3, e4⟩ := HRg.out hm; exact ⟨g, e1, e2, e4⟩), HUg.out, HTg.out, HBg.out⟩
          case round =>
            clear HRg HUg HTg HBg
            obtain ⟨j, rfl, hj, hR, hU, hT, hB⟩ := hrel
            have HUh := Lib.hid hU
            have HTh := Lib.hid hT
            have HBh := Lib.hid hB
            clear hU hT hB
            have h0j : (0 : Int) ≤ (j : Int) := Int.natCast_nonneg j
            by_cases hlt : j < M.length
            · obtain ⟨g, rfl, hgw, hrw⟩ := hR (by intro e; rw [e] at hlt; simp at hlt)
              have hjn : (j : Int) < (M.length : Int) := by omega
              obtain ⟨⟨v0, r0⟩, f0⟩ := hrw (j * 10) (by omega)
              have HRW := Lib.hid hrw
              have HGW := Lib.hid hgw
              clear hR hrw hgw
              go_wp2_with (fail)
              have HR2 : Hid (∀ v, RowW (wr.setCell ⟨g, j * 10, none⟩ v) g (M.length * 10)) := Lib.hid (fun v => HRW.out.setCell _ v)
              have HK2 : Hid (∀ v, Keep [g] wr (wr.setCell ⟨g, j * 10, none⟩ v)) := Lib.hid (fun v => (Keep.refl _ wr).setCell g _ v (.inl (by simp)))
              have HU2 : Hid (∀ v, SrAt (wr.setCell ⟨g, j * 10, none⟩ v) pu bu M) := Lib.hid (fun v => HUh.out.keep (HK2.out v) (by have := HNe.out; have := HGW.out; simp; omega) (by have := HNe.out; have := HGW.out; simp; omega))
              have HT2 : Hid (∀ v, SrAt (wr.setCell ⟨g, j * 10, none⟩ v) p' b' M) := Lib.hid (fun v => HTh.out.keep (HK2.out v) (by have := HNe.out; have := HGW.out; simp; omega) (by have := HNe.out; have := HGW.out; simp; omega))
              have HB2 : Hid (∀ v, Below w.heap.size w (wr.setCell ⟨g, j * 10, none⟩ v)) := Lib.hid (fun v => HBh.out.trans ((HK2.out v).below HBh.out.size (by have := HNe.out; have := HGW.out; simp; omega)))
              clear HRW HK2 HUh HTh HBh r0 f0
              go_roundw
              case rel => exact ⟨j + 1, by go_num, by omega, fun _ => ⟨g, rfl, HGW.out, HR2.out _⟩, HU2.out _, HT2.out _, HB2.out _⟩
              case measure => simp [intOf]; omega
            · obtain rfl : j = M.length := by omega
              clear hR
              go_wp2_with (fail)
              refine (rall_any HUh.out (by have := H322.out; omega)).mono ?_
              rintro e wi ⟨Ai, ci, rfl, hEi, hBi⟩
              have HEi := Lib.hid hEi.row
              have HTi := Lib.hid (HTh.out.below hBi)
              have HBi := Lib.hid (HBh.out.trans (hBi.mono HBh.out.size))
              clear hEi hBi
              clear HUh HTh HBh
              go_wp2_with (fail)
              refine (rall_any HTi.out (by have := H322.out; omega)).mono ?_
              rintro e wj ⟨Aj, cj, rfl, hEj, hBj⟩
              have HEj := Lib.hid hEj.row
              have HEi2 := Lib.hid (HEi.out.below hBj)
              have HBj := Lib.hid (HBi.out.trans (hBj.mono HBi.out.size))
              clear hEj hBj HEi
              clear HTi HBi
              go_wp2_with (fail)
              have hsm := same_any ci cj HEi2.out HEj.out (by have := H322.out; omega) (by have := H322.out; omega)
              rw [decide_eq_true rfl] at hsm
              refine hsm.mono ?_
              rintro e wk ⟨rfl, hKk⟩
              have HBk := Lib.hid (HBj.out.trans (hKk.below HBj.out.size (by simp)))
              clear hsm hKk
              clear HBj
              clear HEi2 HEj
              go_wp2_with (fail)
              refine (wakes09 _).mono ?_
              rintro e w15 ⟨rfl, hB15⟩
              have HBe := Lib.hid (HBk.out.trans (hB15.mono HBk.out.size))
              clear hB15
              go_wp2_with (fail)
              go_ret
              exact ⟨rfl, HBe.out⟩
end Go.Proofs.Ytmhbibcfbencnaa
