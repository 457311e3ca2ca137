/- StoreRefuses. -/
import Derived.Test.YtmhbibcfbencnaaStV
namespace Go.Proofs.Ytmhbibcfbencnaa
open Go.RowKit Go.Lib
open Go.ChangeMaps (setBlock)
set_option linter.unusedSimpArgs false
set_option linter.unusedVariables false
set_option maxRecDepth 100000 in
set_option maxHeartbeats 8000000 in
theorem law_StoreRefuses (A : Option Addr) (l : List A9) (c : Nat) (hl : l.length ≤ 9223372036854775807) (hz : ∀ y ∈ l, A9.Wf y) (k : ByteArray) (hk : k.size ≤ maxLen) (t : Int) (wt : (Lit.int .i64 t).wf = true) (v : Int) (wv : (Lit.int .i64 v).wf = true) (w : World) (hA : A9Row w A l) :
    Calls Try.prog 9 #[.slice A l.length c, .string k, .int .i64 t, .int .i64 v] w fun e w' => e = .returned (.bool true) ∧ Below w.heap.size w w' := by
  have HA := Lib.hid hA
  have hzk := Int.natCast_nonneg k.size
  have hk2 := hk
  unfold maxLen at hk2
  clear hA wt wv
  go_enter Try.func9, Try.ntmps9
  go_wp2_with (fail)
  refine (great9_any c (HA.out) hl hz).mono ?_
  rintro e w1 ⟨g, rfl, hg, rfl⟩
  cases g with
  | true =>
    go_wp2_with (fail)
    refine (wakes09 _).mono ?_
    rintro e w2 ⟨rfl, hB2⟩
    have HBe := Lib.hid ((Below.refl w.heap.size w).trans (hB2.mono (Below.refl w.heap.size w).size))
    clear hB2
    go_wp2_with (fail)
    go_ret
    exact ⟨rfl, HBe.out⟩
  | false =>
    have hfine := hg rfl
    clear hg
    by_cases hkz : 100 < k.size
    · go_wp2_with (fail)
      refine (wakes09 _).mono ?_
      rintro e w2 ⟨rfl, hB2⟩
      have HBe := Lib.hid ((Below.refl w.heap.size w).trans (hB2.mono (Below.refl w.heap.size w).size))
      clear hB2
      go_wp2_with (fail)
      go_ret
      exact ⟨rfl, HBe.out⟩
    · go_wp2_with (fail)
      refine (rnew_any _).mono ?_
      rintro e w1 ⟨p, b, rfl, hS1, hp1, hb1, hB1⟩
      have HB1 := Lib.hid hB1
      have HA1 := Lib.hid (HA.out.below hB1)
      have hfar := HA.out.far hb1
      clear hB1
      go_wp2_with (fail)
      refine (plays9_any c hS1 (by simp) HA1.out hz hl hfar).mono ?_
      rintro e w2 ⟨rfl, hS2, hK2⟩
      have hok := playL_ok (L := []) l (by simp) List.Pairwise.nil
      obtain ⟨L, hL⟩ : ∃ L, playL [] l = L := ⟨_, rfl⟩
      rw [hL] at hS2 hok
      have HU := Lib.hid hok.2
      have h32 := hok.1
      have HS2 := Lib.hid hS2
      have HB2 := Lib.hid (((Keep.of_below HB1.out [b]).trans hK2).below (Nat.le_refl _) (by simpa using hb1))
      clear hS1 hS2 hK2 hok hL hfar HA1 HB1
      go_wp2_with (fail)
      refine (rall_any HS2.out (by omega)).mono ?_
      rintro e w3 ⟨A3, c3, rfl, hE3, hB3⟩
      have HE3 := Lib.hid hE3.row
      have HS3 := Lib.hid (HS2.out.below hB3)
      have HB3 := Lib.hid (HB2.out.trans (hB3.mono HB2.out.size))
      have HFAR : Hid (L ≠ [] → ∀ q off, A3 = some ⟨q, off, none⟩ → q ∉ [b]) := Lib.hid (fun hL q off hq => by obtain ⟨g', h1, h2, _⟩ := hE3 hL; rw [hq] at h1; cases h1; have := HS2.out.lt; simp; omega)
      clear hE3 hB3 HS2 HB2
      obtain ⟨s, hs⟩ : ∃ s, startI t = s := ⟨_, rfl⟩
      have hst := start_any t w3
      rw [hs] at hst
      have HST := Lib.hid hst
      obtain ⟨⟨o1, o2, o3, o4, o5, o6, o7, o8⟩, ho⟩ : ∃ x, (lkL ⟨s, k⟩ L).getD Ag.zero = x := ⟨_, rfl⟩
      obtain ⟨is, his⟩ : ∃ x, (lkL ⟨s, k⟩ L).isSome = x := ⟨_, rfl⟩
      have hget := rget_any HS3.out k s
      rw [ho, his] at hget
      simp only [Ag.val] at hget
      have HGET := Lib.hid hget
      obtain ⟨⟨e0, L2⟩, hr⟩ : ∃ r, putL L k t v = r := ⟨_, rfl⟩
      have HPUT := Lib.hid hr
      unfold putL at hr
      rw [hs, his] at hr
      have hkey := fun w => key_any k w hk
      have hrt := fun w => right_any t w
      obtain ⟨kb, hkb⟩ : ∃ x, keyB k = x := ⟨_, rfl⟩
      obtain ⟨rb, hrb⟩ : ∃ x, rightB t = x := ⟨_, rfl⟩
      rw [hkb] at hkey hr
      rw [hrb] at hrt hr
      have HK := Lib.hid hkey
      have HR := Lib.hid hrt
      clear hst hs ho his hget hkey hrt hkb hrb
      cases kb with
      | false =>
        rw [if_pos (by simp)] at hr
        simp only [Prod.mk.injEq] at hr
        obtain ⟨rfl, rfl⟩ := hr
        go_wp2_with (fail)
        refine (HST.out).mono ?_
        rintro e w4 ⟨rfl, rfl⟩
        go_wp2_with (fail)
        refine (HGET.out).mono ?_
        rintro e w4 ⟨rfl, hB4⟩
        have HE4 := Lib.hid (HE3.out.below hB4)
        have HS4 := Lib.hid (HS3.out.below hB4)
        have HB4 := Lib.hid (HB3.out.trans (hB4.mono HB3.out.size))
        clear hB4 HE3 HS3 HB3 HGET
        go_wp2_with (fail)
        have hBa : Below w4.heap.size w4 (w4.alloc (agObj o1 o2 o3 o4 o5 o6 o7 o8)) := (Below.refl _ _).alloc (Nat.le_refl _) _
        have HE5 := Lib.hid (HE4.out.below hBa)
        have HS5 := Lib.hid (HS4.out.below hBa)
        have HB5 := Lib.hid (HB4.out.trans (hBa.mono HB4.out.size))
        clear hBa HE4 HS4 HB4
        have hput := rput_any HS5.out (by omega) k hk t v
        rw [HPUT.out] at hput
        refine hput.mono ?_
        rintro e w6 ⟨rfl, hS6, hK6⟩
        simp only at hS6 ⊢
        have HS6 := Lib.hid hS6
        have HE6 := Lib.hid (HE5.out.keep hK6 (fun hL q off hq => HFAR.out hL q off hq))
        have HB6 := Lib.hid (HB5.out.trans (hK6.below HB5.out.size (by simpa using hb1)))
        clear hput hS6 hK6 HS5 HE5 HB5
        go_wp2_with (fail)
        refine (HK.out _).mono ?_
        rintro e w7 ⟨rfl, rfl⟩
        go_wp2_with (fail)
        refine (rall_any HS6.out (by omega)).mono ?_
        rintro e w7 ⟨A7, c7, rfl, hE7, hB7⟩
        have HE7 := Lib.hid hE7.row
        have HE67 := Lib.hid (HE6.out.below hB7)
        have HB7 := Lib.hid (HB6.out.trans (hB7.mono HB6.out.size))
        clear hE7 hB7 HE6 HB6 HS6
        go_wp2_with (fail)
        have hsm := same_any c7 c3 HE7.out HE67.out (by omega) (by omega)
        rw [decide_eq_true rfl] at hsm
        refine hsm.mono ?_
        rintro e w8 ⟨rfl, hK8⟩
        have HB8 := Lib.hid (HB7.out.trans (hK8.below HB7.out.size (by simp)))
        clear hsm hK8 HE7 HE67 HB7
        go_wp2_with (fail)
        refine (wakes09 _).mono ?_
        rintro e w9 ⟨rfl, hB9⟩
        have HBe := Lib.hid (HB8.out.trans (hB9.mono HB8.out.size))
        clear hB9
        go_wp2_with (fail)
        go_ret
        exact ⟨rfl, HBe.out⟩
      | true =>
        cases rb with
        | false =>
          rw [if_pos (by simp)] at hr
          simp only [Prod.mk.injEq] at hr
          obtain ⟨rfl, rfl⟩ := hr
          go_wp2_with (fail)
          refine (HST.out).mono ?_
          rintro e w4 ⟨rfl, rfl⟩
          go_wp2_with (fail)
          refine (HGET.out).mono ?_
          rintro e w4 ⟨rfl, hB4⟩
          have HE4 := Lib.hid (HE3.out.below hB4)
          have HS4 := Lib.hid (HS3.out.below hB4)
          have HB4 := Lib.hid (HB3.out.trans (hB4.mono HB3.out.size))
          clear hB4 HE3 HS3 HB3 HGET
          go_wp2_with (fail)
          have hBa : Below w4.heap.size w4 (w4.alloc (agObj o1 o2 o3 o4 o5 o6 o7 o8)) := (Below.refl _ _).alloc (Nat.le_refl _) _
          have HE5 := Lib.hid (HE4.out.below hBa)
          have HS5 := Lib.hid (HS4.out.below hBa)
          have HB5 := Lib.hid (HB4.out.trans (hBa.mono HB4.out.size))
          clear hBa HE4 HS4 HB4
          have hput := rput_any HS5.out (by omega) k hk t v
          rw [HPUT.out] at hput
          refine hput.mono ?_
          rintro e w6 ⟨rfl, hS6, hK6⟩
          simp only at hS6 ⊢
          have HS6 := Lib.hid hS6
          have HE6 := Lib.hid (HE5.out.keep hK6 (fun hL q off hq => HFAR.out hL q off hq))
          have HB6 := Lib.hid (HB5.out.trans (hK6.below HB5.out.size (by simpa using hb1)))
          clear hput hS6 hK6 HS5 HE5 HB5
          go_wp2_with (fail)
          refine (HK.out _).mono ?_
          rintro e w7 ⟨rfl, rfl⟩
          go_wp2_with (fail)
          refine (HR.out _).mono ?_
          rintro e w7 ⟨rfl, rfl⟩
          go_wp2_with (fail)
          refine (rall_any HS6.out (by omega)).mono ?_
          rintro e w7 ⟨A7, c7, rfl, hE7, hB7⟩
          have HE7 := Lib.hid hE7.row
          have HE67 := Lib.hid (HE6.out.below hB7)
          have HB7 := Lib.hid (HB6.out.trans (hB7.mono HB6.out.size))
          clear hE7 hB7 HE6 HB6 HS6
          go_wp2_with (fail)
          have hsm := same_any c7 c3 HE7.out HE67.out (by omega) (by omega)
          rw [decide_eq_true rfl] at hsm
          refine hsm.mono ?_
          rintro e w8 ⟨rfl, hK8⟩
          have HB8 := Lib.hid (HB7.out.trans (hK8.below HB7.out.size (by simp)))
          clear hsm hK8 HE7 HE67 HB7
          go_wp2_with (fail)
          refine (wakes09 _).mono ?_
          rintro e w9 ⟨rfl, hB9⟩
          have HBe := Lib.hid (HB8.out.trans (hB9.mono HB8.out.size))
          clear hB9
          go_wp2_with (fail)
          go_ret
          exact ⟨rfl, HBe.out⟩
        | true =>
          rw [if_neg (by simp)] at hr
          cases is with
          | true =>
            rw [if_neg (by simp)] at hr
            simp only [Prod.mk.injEq] at hr
            obtain ⟨rfl, hL2⟩ := hr
            clear hL2
            go_wp2_with (fail)
            refine (HST.out).mono ?_
            rintro e w4 ⟨rfl, rfl⟩
            go_wp2_with (fail)
            refine (HGET.out).mono ?_
            rintro e w4 ⟨rfl, hB4⟩
            have HE4 := Lib.hid (HE3.out.below hB4)
            have HS4 := Lib.hid (HS3.out.below hB4)
            have HB4 := Lib.hid (HB3.out.trans (hB4.mono HB3.out.size))
            clear hB4 HE3 HS3 HB3 HGET
            go_wp2_with (fail)
            have hBa : Below w4.heap.size w4 (w4.alloc (agObj o1 o2 o3 o4 o5 o6 o7 o8)) := (Below.refl _ _).alloc (Nat.le_refl _) _
            have HE5 := Lib.hid (HE4.out.below hBa)
            have HS5 := Lib.hid (HS4.out.below hBa)
            have HB5 := Lib.hid (HB4.out.trans (hBa.mono HB4.out.size))
            clear hBa HE4 HS4 HB4
            have hput := rput_any HS5.out (by omega) k hk t v
            rw [HPUT.out] at hput
            refine hput.mono ?_
            rintro e w6 ⟨rfl, hS6, hK6⟩
            simp only at hS6 ⊢
            have HS6 := Lib.hid hS6
            have HE6 := Lib.hid (HE5.out.keep hK6 (fun hL q off hq => HFAR.out hL q off hq))
            have HB6 := Lib.hid (HB5.out.trans (hK6.below HB5.out.size (by simpa using hb1)))
            clear hput hS6 hK6 HS5 HE5 HB5
            go_wp2_with (fail)
            refine (HK.out _).mono ?_
            rintro e w7 ⟨rfl, rfl⟩
            go_wp2_with (fail)
            refine (HR.out _).mono ?_
            rintro e w7 ⟨rfl, rfl⟩
            go_wp2_with (fail)
            refine (wakes09 _).mono ?_
            rintro e w9 ⟨rfl, hB9⟩
            have HBe := Lib.hid (HB6.out.trans (hB9.mono HB6.out.size))
            clear hB9
            go_wp2_with (fail)
            go_ret
            exact ⟨rfl, HBe.out⟩
          | false =>
            by_cases h32b : 32 ≤ L.length
            · have hl32 : L.length = 32 := by omega
              have hb32 : ((L.length : Int) != 32) = false := by rw [hl32]; rfl
              clear hl32
              rw [if_pos ⟨rfl, h32b⟩] at hr
              simp only [Prod.mk.injEq] at hr
              obtain ⟨rfl, rfl⟩ := hr
              go_wp2_with (fail)
              refine (HST.out).mono ?_
              rintro e w4 ⟨rfl, rfl⟩
              go_wp2_with (fail)
              refine (HGET.out).mono ?_
              rintro e w4 ⟨rfl, hB4⟩
              have HE4 := Lib.hid (HE3.out.below hB4)
              have HS4 := Lib.hid (HS3.out.below hB4)
              have HB4 := Lib.hid (HB3.out.trans (hB4.mono HB3.out.size))
              clear hB4 HE3 HS3 HB3 HGET
              go_wp2_with (fail)
              have hBa : Below w4.heap.size w4 (w4.alloc (agObj o1 o2 o3 o4 o5 o6 o7 o8)) := (Below.refl _ _).alloc (Nat.le_refl _) _
              have HE5 := Lib.hid (HE4.out.below hBa)
              have HS5 := Lib.hid (HS4.out.below hBa)
              have HB5 := Lib.hid (HB4.out.trans (hBa.mono HB4.out.size))
              clear hBa HE4 HS4 HB4
              have hput := rput_any HS5.out (by omega) k hk t v
              rw [HPUT.out] at hput
              refine hput.mono ?_
              rintro e w6 ⟨rfl, hS6, hK6⟩
              simp only at hS6 ⊢
              have HS6 := Lib.hid hS6
              have HE6 := Lib.hid (HE5.out.keep hK6 (fun hL q off hq => HFAR.out hL q off hq))
              have HB6 := Lib.hid (HB5.out.trans (hK6.below HB5.out.size (by simpa using hb1)))
              clear hput hS6 hK6 HS5 HE5 HB5
              go_wp2_with (fail)
              refine (HK.out _).mono ?_
              rintro e w7 ⟨rfl, rfl⟩
              go_wp2_with (fail)
              refine (HR.out _).mono ?_
              rintro e w7 ⟨rfl, rfl⟩
              go_wp2_with (fail)
              refine (rall_any HS6.out (by omega)).mono ?_
              rintro e w7 ⟨A7, c7, rfl, hE7, hB7⟩
              have HE7 := Lib.hid hE7.row
              have HE67 := Lib.hid (HE6.out.below hB7)
              have HB7 := Lib.hid (HB6.out.trans (hB7.mono HB6.out.size))
              clear hE7 hB7 HE6 HB6 HS6
              go_wp2_with (fail)
              have hsm := same_any c7 c3 HE7.out HE67.out (by omega) (by omega)
              rw [decide_eq_true rfl] at hsm
              refine hsm.mono ?_
              rintro e w8 ⟨rfl, hK8⟩
              have HB8 := Lib.hid (HB7.out.trans (hK8.below HB7.out.size (by simp)))
              clear hsm hK8 HE7 HE67 HB7
              go_wp2_with (fail)
              refine (wakes09 _).mono ?_
              rintro e w9 ⟨rfl, hB9⟩
              have HBe := Lib.hid (HB8.out.trans (hB9.mono HB8.out.size))
              clear hB9
              go_wp2_with (fail)
              go_ret
              exact ⟨rfl, HBe.out⟩
            · rw [if_neg (by simp; omega)] at hr
              simp only [Prod.mk.injEq] at hr
              obtain ⟨rfl, hL2⟩ := hr
              clear hL2
              go_wp2_with (fail)
              refine (HST.out).mono ?_
              rintro e w4 ⟨rfl, rfl⟩
              go_wp2_with (fail)
              refine (HGET.out).mono ?_
              rintro e w4 ⟨rfl, hB4⟩
              have HE4 := Lib.hid (HE3.out.below hB4)
              have HS4 := Lib.hid (HS3.out.below hB4)
              have HB4 := Lib.hid (HB3.out.trans (hB4.mono HB3.out.size))
              clear hB4 HE3 HS3 HB3 HGET
              go_wp2_with (fail)
              have hBa : Below w4.heap.size w4 (w4.alloc (agObj o1 o2 o3 o4 o5 o6 o7 o8)) := (Below.refl _ _).alloc (Nat.le_refl _) _
              have HE5 := Lib.hid (HE4.out.below hBa)
              have HS5 := Lib.hid (HS4.out.below hBa)
              have HB5 := Lib.hid (HB4.out.trans (hBa.mono HB4.out.size))
              clear hBa HE4 HS4 HB4
              have hput := rput_any HS5.out (by omega) k hk t v
              rw [HPUT.out] at hput
              refine hput.mono ?_
              rintro e w6 ⟨rfl, hS6, hK6⟩
              simp only at hS6 ⊢
              have HS6 := Lib.hid hS6
              have HE6 := Lib.hid (HE5.out.keep hK6 (fun hL q off hq => HFAR.out hL q off hq))
              have HB6 := Lib.hid (HB5.out.trans (hK6.below HB5.out.size (by simpa using hb1)))
              clear hput hS6 hK6 HS5 HE5 HB5
              go_wp2_with (fail)
              refine (HK.out _).mono ?_
              rintro e w7 ⟨rfl, rfl⟩
              go_wp2_with (fail)
              refine (HR.out _).mono ?_
              rintro e w7 ⟨rfl, rfl⟩
              go_wp2_with (fail)
              refine (wakes09 _).mono ?_
              rintro e w9 ⟨rfl, hB9⟩
              have HBe := Lib.hid (HB6.out.trans (hB9.mono HB6.out.size))
              clear hB9
              go_wp2_with (fail)
              go_ret
              exact ⟨rfl, HBe.out⟩
end Go.Proofs.Ytmhbibcfbencnaa
