/- StoreApart: a value touches no other window than its own. -/
import Derived.Test.YtmhbibcfbencnaaStV
import Derived.Test.YtmhbibcfbencnaaStW
namespace Go.Proofs.Ytmhbibcfbencnaa
open Go.RowKit Go.Lib
open Go.ChangeMaps (setBlock)
set_option linter.unusedSimpArgs false
set_option linter.unusedVariables false
/-- A store of an aggregate into a new one, and what is there then. -/
def Spec.wrA (n : Nat) (a : Ag) : Spec := { p := fun _ v => v = undef, A := fun x _ w => ∀ g, x.head? = some (.pointer (some ⟨g, 0, none⟩)) → Bx w g a.c a.s a.lo a.hi a.b0 a.b1 a.b2 a.b3, G := fun _ W W' => ∃ g y, n ≤ g ∧ W' = setAg W g y }
theorem spOk_is_cell_wr (h i j : Nat) (hij : i ≠ j) (c : Value) (n m : Nat) (z : Ag) : SpOk (spOf [(h, Spec.is c), (i, Spec.cell n), (j, Spec.wrA m z)]) where
  A a b u v ha hb hab := by
    have h1 := spOf_mem ha; have h2 := spOf_mem hb; simp at h1 h2
    rcases h1 with ⟨e1, rfl⟩ | ⟨e1, rfl⟩ | ⟨e1, rfl⟩ <;> rcases h2 with ⟨e2, rfl⟩ | ⟨e2, rfl⟩ | ⟨e2, rfl⟩
    all_goals first
      | omega
      | (intro _ _ _ _ _ _ _; trivial)
      | (intro x y v w w' hA hk g hg; exact (hA g hg).keep hk (by simp))
      | (rintro x y v w w' ⟨g, h1, h2, x1, x2, x3, x4, x5, x6, x7, x8, h3⟩ hk; exact ⟨g, h1, h2, x1, x2, x3, x4, x5, x6, x7, x8, h3.keep hk (by simp)⟩)
      | (rintro x y v w w' ⟨g, h1, h2, x1, x2, x3, x4, x5, x6, x7, x8, h3⟩ ⟨g', z, h4, h5⟩
         subst h5
         by_cases e : g' = g
         · subst e; exact ⟨_, h1, h2, _, _, _, _, _, _, _, _, setAg_bx h3 z⟩
         · exact ⟨g, h1, h2, x1, x2, x3, x4, x5, x6, x7, x8, h3.keep (setAg_keep w g' z) (by simp; exact fun h => e h.symm)⟩)
  B a b u v ha hb hab := by
    have h2 := spOf_mem hb; simp at h2
    rcases h2 with ⟨e2, rfl⟩ | ⟨e2, rfl⟩ | ⟨e2, rfl⟩ <;> (intro _ _ _ _ _; trivial)
  some a u x ha := by
    have h1 := spOf_mem ha; simp at h1
    rcases h1 with ⟨_, rfl⟩ | ⟨_, rfl⟩ | ⟨_, rfl⟩
    · exact ⟨c, rfl⟩
    · exact ⟨_, n, rfl, Nat.le_refl _⟩
    · exact ⟨_, rfl⟩
set_option maxRecDepth 100000 in
set_option maxHeartbeats 2000000 in
theorem law_StoreApart (A : Option Addr) (l : List A9) (c : Nat) (hl : l.length ≤ 9223372036854775807) (hz : ∀ y ∈ l, A9.Wf y) (k : ByteArray) (hk : k.size ≤ maxLen) (k2 : ByteArray) (hk2 : k2.size ≤ maxLen) (t : Int) (wt : (Lit.int .i64 t).wf = true) (t2 : Int) (wt2 : (Lit.int .i64 t2).wf = true) (v : Int) (wv : (Lit.int .i64 v).wf = true) (v2 : Int) (wv2 : (Lit.int .i64 v2).wf = true) (w : World) (hA : A9Row w A l) :
    Calls Try.prog 12 #[.slice A l.length c, .string k, .string k2, .int .i64 t, .int .i64 t2, .int .i64 v, .int .i64 v2] w fun e w' => e = .returned (.bool true) ∧ Below w.heap.size w w' := by
  have HA := Lib.hid hA
  have hzk := Int.natCast_nonneg k.size
  have hzk2 := Int.natCast_nonneg k2.size
  have hkm := hk
  have hkm2 := hk2
  unfold maxLen at hkm hkm2
  clear hA wt wv wt2 wv2
  go_enter Try.func12, Try.ntmps12
  go_wp2_with (fail)
  refine (great9_any c (HA.out) hl hz).mono ?_
  rintro e w1 ⟨g, rfl, hg, rfl⟩
  cases g with
  | true =>
    go_wp2_with (fail)
    go_wp2_with (fail)
    refine (wakes09 _).mono ?_
    rintro e w2 ⟨rfl, hB2⟩
    have HBe := Lib.hid ((Below.refl w.heap.size w).trans (hB2.mono (Below.refl w.heap.size w).size))
    clear hB2
    go_wp2_with (fail)
    go_ret
    exact ⟨rfl, HBe.out⟩
  | false =>
    have hfine := hg rfl
    clear hg
    by_cases hkz : 100 < k.size
    · go_wp2_with (fail)
      go_wp2_with (fail)
      refine (wakes09 _).mono ?_
      rintro e w2 ⟨rfl, hB2⟩
      have HBe := Lib.hid ((Below.refl w.heap.size w).trans (hB2.mono (Below.refl w.heap.size w).size))
      clear hB2
      go_wp2_with (fail)
      go_ret
      exact ⟨rfl, HBe.out⟩
    by_cases hkz2 : 100 < k2.size
    · go_wp2_with (fail)
      go_wp2_with (fail)
      refine (wakes09 _).mono ?_
      rintro e w2 ⟨rfl, hB2⟩
      have HBe := Lib.hid ((Below.refl w.heap.size w).trans (hB2.mono (Below.refl w.heap.size w).size))
      clear hB2
      go_wp2_with (fail)
      go_ret
      exact ⟨rfl, HBe.out⟩
    go_wp2_with (fail)
    refine (rnew_any _).mono ?_
    rintro e w1 ⟨p, b, rfl, hS1, hp1, hb1, hB1⟩
    have HB1 := Lib.hid hB1
    have HA1 := Lib.hid (HA.out.below hB1)
    have hfar := HA.out.far hb1
    have HN := Lib.hid (And.intro hp1 hb1)
    clear hB1 hp1 hb1
    go_wp2_with (fail)
    refine (plays9_any c hS1 (by simp) HA1.out hz hl hfar).mono ?_
    rintro e w2 ⟨rfl, hS2, hK2⟩
    have hok := playL_ok (L := []) l (by simp) List.Pairwise.nil
    obtain ⟨L, hL⟩ : ∃ L, playL [] l = L := ⟨_, rfl⟩
    rw [hL] at hS2 hok
    have HU := Lib.hid hok.2
    have H32 := Lib.hid hok.1
    have HS2 := Lib.hid hS2
    have HB2 := Lib.hid (((Keep.of_below HB1.out [b]).trans hK2).below (Nat.le_refl _) (by have := HN.out.2; simp; omega))
    clear hS1 hS2 hK2 hok hL hfar HA1 HB1
    go_wp2_with (fail)
    refine (rtwin_any HS2.out).mono ?_
    rintro e w3 ⟨p', b', rfl, hT3, hp3, hb3, hB3⟩
    have HS3 := Lib.hid (HS2.out.below hB3)
    have HT3 := Lib.hid hT3
    have HB3 := Lib.hid (HB2.out.trans (hB3.mono HB2.out.size))
    have HN3 := Lib.hid (show p' ≠ p ∧ p' ≠ b ∧ b' ≠ p ∧ b' ≠ b ∧ w.heap.size ≤ b' from by have := HS2.out.lt; have := HB2.out.size; omega)
    clear hT3 hp3 hb3 hB3 HS2 HB2
    go_wp2_with (fail)
    refine (rall_any HS3.out (by have := H32.out; omega)).mono ?_
    rintro e w4 ⟨A4, c4, rfl, hE4, hB4⟩
    have HFAR : Hid (L ≠ [] → ∀ q off, A4 = some ⟨q, off, none⟩ → q ∉ [b]) := Lib.hid (fun hL q off hq => by obtain ⟨g', h1, h2, _⟩ := hE4 hL; rw [hq] at h1; cases h1; have := HS3.out.lt; simp; omega)
    have HE4 := Lib.hid hE4.row
    have HS4 := Lib.hid (HS3.out.below hB4)
    have HT4 := Lib.hid (HT3.out.below hB4)
    have HB4 := Lib.hid (HB3.out.trans (hB4.mono HB3.out.size))
    clear hE4 hB4 HS3 HT3 HB3
    obtain ⟨⟨e1, L1⟩, hr1⟩ : ∃ r, putL L k t v = r := ⟨_, rfl⟩
    obtain ⟨⟨e2, L2⟩, hr2⟩ : ∃ r, putL L1 k2 t2 v2 = r := ⟨_, rfl⟩
    have hput := rput_any HS4.out (by have := H32.out; omega) k hk t v
    rw [hr1] at hput
    have HP1 := Lib.hid hr1
    have HP2 := Lib.hid hr2
    have HPUT := Lib.hid hput
    clear hput hr1 hr2
    go_wp2_with (fail)
    refine HPUT.out.mono ?_
    rintro e w5 ⟨rfl, hS5, hK5⟩
    simp only at hS5 ⊢
    have HS5 := Lib.hid hS5
    have HT5 := Lib.hid (HT4.out.keep hK5 (by have := HN3.out; simp; omega) (by have := HN3.out; simp; omega))
    have HE5 := Lib.hid (HE4.out.keep hK5 (fun hL q off hq => HFAR.out hL q off hq))
    have HB5 := Lib.hid (HB4.out.trans (hK5.below HB4.out.size (by have := HN.out.2; simp; omega)))
    have H132 : Hid (L1.length ≤ 32) := Lib.hid (by have := put_len L k t v H32.out HU.out; rwa [HP1.out] at this)
    have HU1 : Hid (L1.Pairwise ltO) := Lib.hid (by have := putL_up k t v HU.out; rwa [HP1.out] at this)
    have H232 : Hid (L2.length ≤ 32) := Lib.hid (by have := put_len L1 k2 t2 v2 H132.out HU1.out; rwa [HP2.out] at this)
    clear HPUT hS5 hK5 HS4 HT4 HE4 HB4
    go_wp2_with (fail)
    refine (rall_any HS5.out (by have := H132.out; omega)).mono ?_
    rintro e w6 ⟨A6, c6, rfl, hE6, hB6⟩
    have HS6 := Lib.hid (HS5.out.below hB6)
    have HT6 := Lib.hid (HT5.out.below hB6)
    have HE6 := Lib.hid (HE5.out.below hB6)
    have HB6 := Lib.hid (HB5.out.trans (hB6.mono HB5.out.size))
    clear hE6 hB6 HS5 HT5 HE5 HB5
    have hzL := Int.natCast_nonneg L.length
    have hzL1 := Int.natCast_nonneg L1.length
    have hzM : (L.length : Int) ≤ 32 := by have := H32.out; omega
    have hzM1 : (L1.length : Int) ≤ 32 := by have := H132.out; omega
    go_wp2_with (fail)
    go_loopw [20] (fun i wr => ∃ j : Nat, i = .int .i64 j ∧ j ≤ L.length ∧ Below w6.heap.size w6 wr) (fun i _ => L.length - (intOf i).toNat)
    case atStart => exact ⟨0, rfl, Nat.zero_le _, Below.refl _ _⟩
    case round =>
      obtain ⟨j, rfl, hj, hB⟩ := hrel
      have HS := Lib.hid (HS6.out.below hB)
      have HT := Lib.hid (HT6.out.below hB)
      have HE := Lib.hid (HE6.out.below hB)
      have HB := Lib.hid (HB6.out.trans (hB.mono HB6.out.size))
      have HW := Lib.hid hB
      clear hB
      by_cases hlt : j < L.length
      · obtain ⟨x, hx⟩ : ∃ x, L[j]? = some x := ⟨L[j], List.getElem?_eq_getElem hlt⟩
        obtain ⟨q, off, rfl, hq, hat⟩ := HE.out (by intro e; rw [e] at hlt; simp at hlt)
        have hx0 := hat j x hx
        have hxm := List.mem_of_getElem? hx
        obtain ⟨ho1, ho2⟩ := putL_old HU.out k t v hxm
        rw [HP1.out] at ho1 ho2
        simp only at ho1 ho2
        obtain ⟨xk, xs, ⟨x1, x2, x3, x4, x5, x6, x7, x8⟩⟩ := x
        obtain ⟨a, ha⟩ := Option.isSome_iff_exists.1 ho1
        change lkL ⟨xs, xk⟩ L1 = some a at ha
        have hget : ∀ (W : World), SrAt W p b L1 → Calls Try.prog 25 #[.pointer (some ⟨p, 0, none⟩), .string xk, .int .i64 xs] W fun e w' => e = .returned (.tuple #[a.val, .bool true]) ∧ Below W.heap.size W w' := fun W h => by
          have := rget_any h xk xs
          rw [ha] at this
          exact this
        obtain ⟨a1, a2, a3, a4, a5, a6, a7, a8⟩ := a
        simp only [Ag.val] at hget
        have HGET := Lib.hid hget
        have HX := Lib.hid hx0
        have HA2 := Lib.hid ha
        have HO2 := Lib.hid ho2
        have h0j : (0 : Int) ≤ (j : Int) := Int.natCast_nonneg j
        have hjn : (j : Int) < (L.length : Int) := by omega
        clear hat hx hx0 hxm ho1 ho2 ha hget
        go_wp2_with (fail)
        refine wp_region_soup 17 [] (spOf [(11, Spec.is (.tuple #[.agg #[.int .i64 a1, .int .i64 a2, .int .i64 a3, .int .i64 a4, .int .i64 a5, .int .i64 a6, .int .i64 a7, .int .i64 a8], .bool true])), (15, Spec.cell wr.heap.size), (16, Spec.wrA wr.heap.size ⟨a1, a2, a3, a4, a5, a6, a7, a8⟩)]) (by kernel_rfl) (by kernel_rfl) (spOk_is_cell_wr 11 15 16 (by decide) _ _ _ _) (fun i s hs => by have h := spOf_mem hs; simp at h; rcases h with ⟨_, rfl⟩ | ⟨_, rfl⟩ | ⟨_, rfl⟩ <;> exact trivial) ?_
        simp only [List.take_succ_cons, List.take_zero, List.drop_succ_cons, List.drop_zero]
        iterate 11
          with_reducible refine soup_q ?_ ?_ ?_
          · rfl
          · rfl
          with_reducible apply Exists.intro
          with_reducible refine ⟨fun W hk _ => ?_, ?_⟩
          · obtain ⟨d0, d1, d2, d3, d4, d5, d6, d7, d8, d9⟩ := HX.out.keep hk hq (by simp)
            simp only at d0 d1 d2 d3 d4 d5 d6 d7 d8 d9
            unfold Oper.same
            go_simp
            first | rfl | exact ⟨rfl, rfl⟩
          with_reducible apply Exists.intro
          with_reducible refine ⟨?_, ?_⟩
          · go_simp
            rfl
        refine soup_s rfl rfl rfl (fun W hk _ _ => ?_) ?_
        · unfold Oper.does
          go_simp
          refine (HGET.out _ (HS.out.keep hk (by simp) (by simp))).mono ?_
          rintro e w' ⟨rfl, hb⟩
          exact ⟨_, rfl, Keep.of_below hb _, hk.then_below hb, rfl, trivial⟩
        intro v hv
        obtain rfl : v = _ := hv
        with_reducible apply Exists.intro
        with_reducible refine ⟨?_, ?_⟩
        · go_simp
          rfl
        iterate 3
          with_reducible refine soup_q ?_ ?_ ?_
          · rfl
          · rfl
          with_reducible apply Exists.intro
          with_reducible refine ⟨fun W hk _ => ?_, ?_⟩
          · obtain ⟨d0, d1, d2, d3, d4, d5, d6, d7, d8, d9⟩ := HX.out.keep hk hq (by simp)
            simp only at d0 d1 d2 d3 d4 d5 d6 d7 d8 d9
            unfold Oper.same
            go_simp
            first | rfl | exact ⟨rfl, rfl⟩
          with_reducible apply Exists.intro
          with_reducible refine ⟨?_, ?_⟩
          · go_simp
            rfl
        refine soup_s rfl rfl rfl (fun W hk _ _ => ?_) ?_
        · unfold Oper.does
          go_simp
          exact ⟨(Keep.refl _ _).alloc _, hk.alloc _, ⟨_, rfl, hk.size⟩, _, rfl, hk.size, _, _, _, _, _, _, _, _, World.alloc_heap_new W _⟩
        rintro v ⟨g, rfl, hg⟩
        with_reducible apply Exists.intro
        with_reducible refine ⟨?_, ?_⟩
        · go_simp
          rfl
        refine soup_s rfl rfl rfl (fun W hk _ hd => ?_) ?_
        · obtain ⟨g', hg1, _, y1, y2, y3, y4, y5, y6, y7, y8, hgz⟩ := hd 15 (Dep.of 3 (by kernel_rfl))
          obtain rfl : g = g' := by simpa using hg1
          obtain ⟨r0, r1, r2, r3, r4, r5, r6, r7, r8, rf⟩ := Bx.facts hgz
          have hgW : ∀ g', (some (Value.pointer (some ⟨g, 0, none⟩)) : Option Value) = some (.pointer (some ⟨g', 0, none⟩)) → Bx (setAg W g ⟨a1, a2, a3, a4, a5, a6, a7, a8⟩) g' a1 a2 a3 a4 a5 a6 a7 a8 := by
            intro g' h3
            cases h3
            exact setAg_bx hgz ⟨a1, a2, a3, a4, a5, a6, a7, a8⟩
          unfold Oper.does
          go_simp
          exact ⟨⟨g, ⟨a1, a2, a3, a4, a5, a6, a7, a8⟩, hg, rfl⟩, hk.step (setAg_keep W g ⟨a1, a2, a3, a4, a5, a6, a7, a8⟩) (fun y hy => .inr (by simp at hy; omega)), rfl, hgW⟩
        intro v hv
        obtain rfl : v = _ := hv
        with_reducible apply Exists.intro
        with_reducible refine ⟨?_, ?_⟩
        · go_simp
          rfl
        refine soup_nil (fun W2 hk hS => ?_)
        have hbx : Bx W2 g a1 a2 a3 a4 a5 a6 a7 a8 := hS 16 g rfl
        have HBX := Lib.hid hbx
        have HX2 := Lib.hid (HX.out.keep hk hq (by simp))
        have hq2 : q < W2.heap.size := Nat.lt_of_lt_of_le hq hk.size
        have HW2 := Lib.hid (HW.out.trans (hk.below HW.out.size (by simp)))
        clear hbx hk hS HX hq HS HT HE HB HW HGET
        have HGD := Lib.hid (guard_ag .neq)
        have hne := neq_ag ⟨a1, a2, a3, a4, a5, a6, a7, a8⟩ ⟨x1, x2, x3, x4, x5, x6, x7, x8⟩
        by_cases hax : (⟨a1, a2, a3, a4, a5, a6, a7, a8⟩ : Ag) = ⟨x1, x2, x3, x4, x5, x6, x7, x8⟩
        · rw [decide_eq_true hax] at hne
          simp only [Ag.val, Bool.not_true] at hne
          have HNEQ := Lib.hid hne
          clear hne hax HO2 HA2
          go_wp2_with (fail)
          refine wp_region_soup 30 [] (spOf [(25, Spec.is (.int .i64 (startI t)))]) (by kernel_rfl) (by kernel_rfl) (spOk_of (by simp [Spec.is_ok])) (pre_of (by simp [Spec.is_ok])) ?_
          simp only [List.take_succ_cons, List.take_zero, List.drop_succ_cons, List.drop_zero]
          iterate 11
            with_reducible refine soup_q ?_ ?_ ?_
            · rfl
            · rfl
            with_reducible apply Exists.intro
            with_reducible refine ⟨fun W hk _ => ?_, ?_⟩
            · obtain ⟨d0, d1, d2, d3, d4, d5, d6, d7, d8, d9⟩ := HX2.out.keep hk hq2 (by simp)
              simp only at d0 d1 d2 d3 d4 d5 d6 d7 d8 d9
              obtain ⟨r0, r1, r2, r3, r4, r5, r6, r7, r8, rf⟩ := (HBX.out.keep hk).facts
              have hneq := HNEQ.out
              have hgd := HGD.out
              unfold Oper.same
              go_simp
              first | rfl | exact ⟨rfl, rfl⟩
            with_reducible apply Exists.intro
            with_reducible refine ⟨?_, ?_⟩
            · go_simp
              rfl
          iterate 17
            with_reducible refine soup_no ?_ ?_
            · rfl
            with_reducible apply Exists.intro
            with_reducible refine ⟨?_, ?_⟩
            · go_simp
              rfl
          iterate 2
            with_reducible refine soup_q ?_ ?_ ?_
            · rfl
            · rfl
            with_reducible apply Exists.intro
            with_reducible refine ⟨fun W hk _ => ?_, ?_⟩
            · obtain ⟨d0, d1, d2, d3, d4, d5, d6, d7, d8, d9⟩ := HX2.out.keep hk hq2 (by simp)
              simp only at d0 d1 d2 d3 d4 d5 d6 d7 d8 d9
              obtain ⟨r0, r1, r2, r3, r4, r5, r6, r7, r8, rf⟩ := (HBX.out.keep hk).facts
              have hneq := HNEQ.out
              have hgd := HGD.out
              unfold Oper.same
              go_simp
              first | rfl | exact ⟨rfl, rfl⟩
            with_reducible apply Exists.intro
            with_reducible refine ⟨?_, ?_⟩
            · go_simp
              rfl
          refine soup_nil (fun W3 hk hS => ?_)
          have HW3 := Lib.hid (HW2.out.trans (hk.below HW2.out.size (by simp)))
          clear hk hS HBX HX2 HW2 HNEQ HGD
          go_wp2_with (fail)
          go_roundw
          case rel => exact ⟨j + 1, by go_num, by omega, HW3.out⟩
          case measure => simp [intOf]; omega
        · have hw : (⟨xs, xk⟩ : Wd) = ⟨startI t, k⟩ := by
            refine Classical.byContradiction fun h => hax ?_
            have h2 := HO2.out h
            change lkL ⟨xs, xk⟩ L1 = _ at h2
            rw [HA2.out] at h2
            exact Option.some.inj h2
          rw [decide_eq_false hax] at hne
          simp only [Ag.val, Bool.not_false] at hne
          have HNEQ := Lib.hid hne
          clear hne hax HO2 HA2
          simp only [Wd.mk.injEq] at hw
          obtain ⟨rfl, rfl⟩ := hw
          go_wp2_with (fail)
          refine wp_region_soup 30 [] (spOf [(25, Spec.is (.int .i64 (startI t)))]) (by kernel_rfl) (by kernel_rfl) (spOk_of (by simp [Spec.is_ok])) (pre_of (by simp [Spec.is_ok])) ?_
          simp only [List.take_succ_cons, List.take_zero, List.drop_succ_cons, List.drop_zero]
          iterate 19
            with_reducible refine soup_q ?_ ?_ ?_
            · rfl
            · rfl
            with_reducible apply Exists.intro
            with_reducible refine ⟨fun W hk _ => ?_, ?_⟩
            · obtain ⟨d0, d1, d2, d3, d4, d5, d6, d7, d8, d9⟩ := HX2.out.keep hk hq2 (by simp)
              simp only at d0 d1 d2 d3 d4 d5 d6 d7 d8 d9
              obtain ⟨r0, r1, r2, r3, r4, r5, r6, r7, r8, rf⟩ := (HBX.out.keep hk).facts
              have hneq := HNEQ.out
              have hgd := HGD.out
              unfold Oper.same
              go_simp
              first | rfl | exact ⟨rfl, rfl⟩
            with_reducible apply Exists.intro
            with_reducible refine ⟨?_, ?_⟩
            · go_simp
              rfl
          iterate 6
            with_reducible refine soup_q ?_ ?_ ?_
            · rfl
            · rfl
            with_reducible apply Exists.intro
            with_reducible refine ⟨fun W hk _ => ?_, ?_⟩
            · obtain ⟨d0, d1, d2, d3, d4, d5, d6, d7, d8, d9⟩ := HX2.out.keep hk hq2 (by simp)
              simp only at d0 d1 d2 d3 d4 d5 d6 d7 d8 d9
              obtain ⟨r0, r1, r2, r3, r4, r5, r6, r7, r8, rf⟩ := (HBX.out.keep hk).facts
              have hneq := HNEQ.out
              have hgd := HGD.out
              unfold Oper.same
              go_simp
              first | rfl | exact ⟨rfl, rfl⟩
            with_reducible apply Exists.intro
            with_reducible refine ⟨?_, ?_⟩
            · go_simp
              rfl
          refine soup_s rfl rfl rfl (fun W hk _ _ => ?_) ?_
          · unfold Oper.does
            go_simp
            refine (start_any _ _).mono ?_
            rintro e w' ⟨rfl, rfl⟩
            exact ⟨_, rfl, Keep.refl _ _, hk, rfl, trivial⟩
          intro v hv
          obtain rfl : v = _ := hv
          with_reducible apply Exists.intro
          with_reducible refine ⟨?_, ?_⟩
          · go_simp
            rfl
          iterate 4
            with_reducible refine soup_q ?_ ?_ ?_
            · rfl
            · rfl
            with_reducible apply Exists.intro
            with_reducible refine ⟨fun W hk _ => ?_, ?_⟩
            · obtain ⟨d0, d1, d2, d3, d4, d5, d6, d7, d8, d9⟩ := HX2.out.keep hk hq2 (by simp)
              simp only at d0 d1 d2 d3 d4 d5 d6 d7 d8 d9
              obtain ⟨r0, r1, r2, r3, r4, r5, r6, r7, r8, rf⟩ := (HBX.out.keep hk).facts
              have hneq := HNEQ.out
              have hgd := HGD.out
              unfold Oper.same
              go_simp
              first | rfl | exact ⟨rfl, rfl⟩
            with_reducible apply Exists.intro
            with_reducible refine ⟨?_, ?_⟩
            · go_simp
              rfl
          refine soup_nil (fun W3 hk hS => ?_)
          have HW3 := Lib.hid (HW2.out.trans (hk.below HW2.out.size (by simp)))
          clear hk hS HBX HX2 HW2 HNEQ HGD
          go_wp2_with (fail)
          go_roundw
          case rel => exact ⟨j + 1, by go_num, by omega, HW3.out⟩
          case measure => simp [intOf]; omega
      · obtain rfl : j = L.length := by omega
        have hpl := putL_len HU.out k t v
        rw [HP1.out] at hpl
        simp only at hpl
        have hn1 : (L1.length : Int) ≤ (L.length : Int) + 1 := by rw [hpl]; split <;> omega
        clear hlt hj
        by_cases h0 : e1 = 0
        · have hb0 : (e1 != 0) = false := by simp [h0]
          clear h0 hpl
          go_wp2_with (fail)
          have hput2 := rput_any HS.out (by have := H132.out; omega) k2 hk2 t2 v2
          rw [HP2.out] at hput2
          refine hput2.mono ?_
          rintro e w8 ⟨rfl, hS8, hK8⟩
          simp only at hS8 ⊢
          have HS8 := Lib.hid hS8
          have HT8 := Lib.hid (HT.out.keep hK8 (by have := HN3.out; simp; omega) (by have := HN3.out; simp; omega))
          have HB8 := Lib.hid (HB.out.trans (hK8.below HB.out.size (by have := HN.out.2; simp; omega)))
          clear hput2 hS8 hK8 HS HT HB HE HW
          by_cases hkk : k = k2
          · subst hkk
            have hkb : (k.toList == k.toList) = true := by rw [beq_bytes]; simp
            by_cases hss : startI t = startI t2
            · have hsb : (startI t == startI t2) = true := by rw [hss]; simp
              clear hss
              go_wp2_with (fail)
              refine (start_any _ _).mono ?_
              rintro e w9 ⟨rfl, rfl⟩
              go_wp2_with (fail)
              refine (start_any _ _).mono ?_
              rintro e w9 ⟨rfl, rfl⟩
              go_wp2_with (fail)
              refine (wakes09 _).mono ?_
              rintro e w15 ⟨rfl, hB15⟩
              have HBe := Lib.hid (HB8.out.trans (hB15.mono HB8.out.size))
              clear hB15
              go_wp2_with (fail)
              go_ret
              exact ⟨rfl, HBe.out⟩
            · have hsb : (startI t == startI t2) = false := by simp [hss]
              have hne : (⟨startI t, k⟩ : Wd) ≠ ⟨startI t2, k⟩ := fun h => hss (by injection h)
              clear hss
              by_cases h1 : e1 = 6
              · have hb6 : (e1 == 6) = true := by simp [h1]
                clear h1 hne
                go_wp2_with (fail)
                refine (start_any _ _).mono ?_
                rintro e w9 ⟨rfl, rfl⟩
                go_wp2_with (fail)
                refine (start_any _ _).mono ?_
                rintro e w9 ⟨rfl, rfl⟩
                go_wp2_with (fail)
                refine (wakes09 _).mono ?_
                rintro e w15 ⟨rfl, hB15⟩
                have HBe := Lib.hid (HB8.out.trans (hB15.mono HB8.out.size))
                clear hB15
                go_wp2_with (fail)
                go_ret
                exact ⟨rfl, HBe.out⟩
              have hb6 : (e1 == 6) = false := by simp [h1]
              by_cases h2 : e2 = 6
              · have hb7 : (e2 == 6) = true := by simp [h2]
                clear h1 h2 hne
                go_wp2_with (fail)
                refine (start_any _ _).mono ?_
                rintro e w9 ⟨rfl, rfl⟩
                go_wp2_with (fail)
                refine (start_any _ _).mono ?_
                rintro e w9 ⟨rfl, rfl⟩
                go_wp2_with (fail)
                refine (wakes09 _).mono ?_
                rintro e w15 ⟨rfl, hB15⟩
                have HBe := Lib.hid (HB8.out.trans (hB15.mono HB8.out.size))
                clear hB15
                go_wp2_with (fail)
                go_ret
                exact ⟨rfl, HBe.out⟩
              have hb7 : (e2 == 6) = false := by simp [h2]
              have hap := putL_apart HU.out hne (v := v) (v' := v2) (by rw [HP1.out]; exact h1) (by rw [HP1.out]; simp only; rw [HP2.out]; exact h2)
              rw [HP1.out] at hap
              simp only at hap
              rw [HP2.out] at hap
              simp only at hap
              obtain ⟨⟨e3, M1⟩, hr3⟩ : ∃ r, putL L k t2 v2 = r := ⟨_, rfl⟩
              rw [hr3] at hap
              simp only at hap
              obtain ⟨⟨e4, M2⟩, hr4⟩ : ∃ r, putL M1 k t v = r := ⟨_, rfl⟩
              rw [hr4] at hap
              simp only at hap
              obtain ⟨rfl, rfl, rfl⟩ := hap
              have HM32 : Hid (M1.length ≤ 32) := Lib.hid (by have := put_len L k t2 v2 H32.out HU.out; rwa [hr3] at this)
              have hput3 := rput_any HT8.out (by have := H32.out; omega) k hk2 t2 v2
              rw [hr3] at hput3
              have HPUT3 := Lib.hid hput3
              have HP4 := Lib.hid hr4
              clear hput3 hr3 hr4
              clear h1 h2 hne
              go_wp2_with (fail)
              refine (start_any _ _).mono ?_
              rintro e w9 ⟨rfl, rfl⟩
              go_wp2_with (fail)
              refine (start_any _ _).mono ?_
              rintro e w9 ⟨rfl, rfl⟩
              go_wp2_with (fail)
              refine HPUT3.out.mono ?_
              rintro e w10 ⟨rfl, hT10, hK10⟩
              simp only at hT10 ⊢
              have HT10 := Lib.hid hT10
              have HS10 := Lib.hid (HS8.out.keep hK10 (by have := HN3.out; simp; omega) (by have := HN3.out; simp; omega))
              have HB10 := Lib.hid (HB8.out.trans (hK10.below HB8.out.size (by have := HN3.out; simp; omega)))
              have hput4 := rput_any HT10.out (by have := HM32.out; omega) k hk t v
              rw [HP4.out] at hput4
              have HPUT4 := Lib.hid hput4
              clear hT10 hK10 hput4 HPUT3 HS8 HT8 HB8
              go_wp2_with (fail)
              refine HPUT4.out.mono ?_
              rintro e w11 ⟨rfl, hT11, hK11⟩
              simp only at hT11 ⊢
              have HT11 := Lib.hid hT11
              have HS11 := Lib.hid (HS10.out.keep hK11 (by have := HN3.out; simp; omega) (by have := HN3.out; simp; omega))
              have HB11 := Lib.hid (HB10.out.trans (hK11.below HB10.out.size (by have := HN3.out; simp; omega)))
              clear hT11 hK11 HPUT4 HS10 HT10 HB10
              go_wp2_with (fail)
              refine (rall_any HS11.out (by have := H232.out; omega)).mono ?_
              rintro e w12 ⟨A12, c12, rfl, hE12, hB12⟩
              have HE12 := Lib.hid hE12.row
              have HT12 := Lib.hid (HT11.out.below hB12)
              have HB12 := Lib.hid (HB11.out.trans (hB12.mono HB11.out.size))
              clear hE12 hB12 HS11 HT11 HB11
              go_wp2_with (fail)
              refine (rall_any HT12.out (by have := H232.out; omega)).mono ?_
              rintro e w13 ⟨A13, c13, rfl, hE13, hB13⟩
              have HE13 := Lib.hid hE13.row
              have HE12b := Lib.hid (HE12.out.below hB13)
              have HB13 := Lib.hid (HB12.out.trans (hB13.mono HB12.out.size))
              clear hE13 hB13 HE12 HT12 HB12
              go_wp2_with (fail)
              have hsm := same_any c12 c13 HE12b.out HE13.out (by have := H232.out; omega) (by have := H232.out; omega)
              rw [decide_eq_true rfl] at hsm
              refine hsm.mono ?_
              rintro e w14 ⟨rfl, hK14⟩
              have HB14 := Lib.hid (HB13.out.trans (hK14.below HB13.out.size (by simp)))
              clear hsm hK14 HE12b HE13 HB13
              go_wp2_with (fail)
              refine (wakes09 _).mono ?_
              rintro e w15 ⟨rfl, hB15⟩
              have HBe := Lib.hid (HB14.out.trans (hB15.mono HB14.out.size))
              clear hB15
              go_wp2_with (fail)
              go_ret
              exact ⟨rfl, HBe.out⟩
          · have hkb : (k.toList == k2.toList) = false := by rw [beq_bytes]; simp [hkk]
            have hne : (⟨startI t, k⟩ : Wd) ≠ ⟨startI t2, k2⟩ := fun h => hkk (by injection h)
            by_cases h1 : e1 = 6
            · have hb6 : (e1 == 6) = true := by simp [h1]
              clear h1 hne
              go_wp2_with (fail)
              refine (wakes09 _).mono ?_
              rintro e w15 ⟨rfl, hB15⟩
              have HBe := Lib.hid (HB8.out.trans (hB15.mono HB8.out.size))
              clear hB15
              go_wp2_with (fail)
              go_ret
              exact ⟨rfl, HBe.out⟩
            have hb6 : (e1 == 6) = false := by simp [h1]
            by_cases h2 : e2 = 6
            · have hb7 : (e2 == 6) = true := by simp [h2]
              clear h1 h2 hne
              go_wp2_with (fail)
              refine (wakes09 _).mono ?_
              rintro e w15 ⟨rfl, hB15⟩
              have HBe := Lib.hid (HB8.out.trans (hB15.mono HB8.out.size))
              clear hB15
              go_wp2_with (fail)
              go_ret
              exact ⟨rfl, HBe.out⟩
            have hb7 : (e2 == 6) = false := by simp [h2]
            have hap := putL_apart HU.out hne (v := v) (v' := v2) (by rw [HP1.out]; exact h1) (by rw [HP1.out]; simp only; rw [HP2.out]; exact h2)
            rw [HP1.out] at hap
            simp only at hap
            rw [HP2.out] at hap
            simp only at hap
            obtain ⟨⟨e3, M1⟩, hr3⟩ : ∃ r, putL L k2 t2 v2 = r := ⟨_, rfl⟩
            rw [hr3] at hap
            simp only at hap
            obtain ⟨⟨e4, M2⟩, hr4⟩ : ∃ r, putL M1 k t v = r := ⟨_, rfl⟩
            rw [hr4] at hap
            simp only at hap
            obtain ⟨rfl, rfl, rfl⟩ := hap
            have HM32 : Hid (M1.length ≤ 32) := Lib.hid (by have := put_len L k2 t2 v2 H32.out HU.out; rwa [hr3] at this)
            have hput3 := rput_any HT8.out (by have := H32.out; omega) k2 hk2 t2 v2
            rw [hr3] at hput3
            have HPUT3 := Lib.hid hput3
            have HP4 := Lib.hid hr4
            clear hput3 hr3 hr4
            clear h1 h2 hne
            go_wp2_with (fail)
            refine HPUT3.out.mono ?_
            rintro e w10 ⟨rfl, hT10, hK10⟩
            simp only at hT10 ⊢
            have HT10 := Lib.hid hT10
            have HS10 := Lib.hid (HS8.out.keep hK10 (by have := HN3.out; simp; omega) (by have := HN3.out; simp; omega))
            have HB10 := Lib.hid (HB8.out.trans (hK10.below HB8.out.size (by have := HN3.out; simp; omega)))
            have hput4 := rput_any HT10.out (by have := HM32.out; omega) k hk t v
            rw [HP4.out] at hput4
            have HPUT4 := Lib.hid hput4
            clear hT10 hK10 hput4 HPUT3 HS8 HT8 HB8
            go_wp2_with (fail)
            refine HPUT4.out.mono ?_
            rintro e w11 ⟨rfl, hT11, hK11⟩
            simp only at hT11 ⊢
            have HT11 := Lib.hid hT11
            have HS11 := Lib.hid (HS10.out.keep hK11 (by have := HN3.out; simp; omega) (by have := HN3.out; simp; omega))
            have HB11 := Lib.hid (HB10.out.trans (hK11.below HB10.out.size (by have := HN3.out; simp; omega)))
            clear hT11 hK11 HPUT4 HS10 HT10 HB10
            go_wp2_with (fail)
            refine (rall_any HS11.out (by have := H232.out; omega)).mono ?_
            rintro e w12 ⟨A12, c12, rfl, hE12, hB12⟩
            have HE12 := Lib.hid hE12.row
            have HT12 := Lib.hid (HT11.out.below hB12)
            have HB12 := Lib.hid (HB11.out.trans (hB12.mono HB11.out.size))
            clear hE12 hB12 HS11 HT11 HB11
            go_wp2_with (fail)
            refine (rall_any HT12.out (by have := H232.out; omega)).mono ?_
            rintro e w13 ⟨A13, c13, rfl, hE13, hB13⟩
            have HE13 := Lib.hid hE13.row
            have HE12b := Lib.hid (HE12.out.below hB13)
            have HB13 := Lib.hid (HB12.out.trans (hB13.mono HB12.out.size))
            clear hE13 hB13 HE12 HT12 HB12
            go_wp2_with (fail)
            have hsm := same_any c12 c13 HE12b.out HE13.out (by have := H232.out; omega) (by have := H232.out; omega)
            rw [decide_eq_true rfl] at hsm
            refine hsm.mono ?_
            rintro e w14 ⟨rfl, hK14⟩
            have HB14 := Lib.hid (HB13.out.trans (hK14.below HB13.out.size (by simp)))
            clear hsm hK14 HE12b HE13 HB13
            go_wp2_with (fail)
            refine (wakes09 _).mono ?_
            rintro e w15 ⟨rfl, hB15⟩
            have HBe := Lib.hid (HB14.out.trans (hB15.mono HB14.out.size))
            clear hB15
            go_wp2_with (fail)
            go_ret
            exact ⟨rfl, HBe.out⟩
        · have hb0 : (e1 != 0) = true := by simp [h0]
          have hbl : ((L1.length : Int) != (L.length : Int)) = false := by rw [hpl, if_neg (fun h => h0 h.1)]; simp
          clear h0 hpl
          go_wp2_with (fail)
          have hput2 := rput_any HS.out (by have := H132.out; omega) k2 hk2 t2 v2
          rw [HP2.out] at hput2
          refine hput2.mono ?_
          rintro e w8 ⟨rfl, hS8, hK8⟩
          simp only at hS8 ⊢
          have HS8 := Lib.hid hS8
          have HT8 := Lib.hid (HT.out.keep hK8 (by have := HN3.out; simp; omega) (by have := HN3.out; simp; omega))
          have HB8 := Lib.hid (HB.out.trans (hK8.below HB.out.size (by have := HN.out.2; simp; omega)))
          clear hput2 hS8 hK8 HS HT HB HE HW
          by_cases hkk : k = k2
          · subst hkk
            have hkb : (k.toList == k.toList) = true := by rw [beq_bytes]; simp
            by_cases hss : startI t = startI t2
            · have hsb : (startI t == startI t2) = true := by rw [hss]; simp
              clear hss
              go_wp2_with (fail)
              refine (start_any _ _).mono ?_
              rintro e w9 ⟨rfl, rfl⟩
              go_wp2_with (fail)
              refine (start_any _ _).mono ?_
              rintro e w9 ⟨rfl, rfl⟩
              go_wp2_with (fail)
              refine (wakes09 _).mono ?_
              rintro e w15 ⟨rfl, hB15⟩
              have HBe := Lib.hid (HB8.out.trans (hB15.mono HB8.out.size))
              clear hB15
              go_wp2_with (fail)
              go_ret
              exact ⟨rfl, HBe.out⟩
            · have hsb : (startI t == startI t2) = false := by simp [hss]
              have hne : (⟨startI t, k⟩ : Wd) ≠ ⟨startI t2, k⟩ := fun h => hss (by injection h)
              clear hss
              by_cases h1 : e1 = 6
              · have hb6 : (e1 == 6) = true := by simp [h1]
                clear h1 hne
                go_wp2_with (fail)
                refine (start_any _ _).mono ?_
                rintro e w9 ⟨rfl, rfl⟩
                go_wp2_with (fail)
                refine (start_any _ _).mono ?_
                rintro e w9 ⟨rfl, rfl⟩
                go_wp2_with (fail)
                refine (wakes09 _).mono ?_
                rintro e w15 ⟨rfl, hB15⟩
                have HBe := Lib.hid (HB8.out.trans (hB15.mono HB8.out.size))
                clear hB15
                go_wp2_with (fail)
                go_ret
                exact ⟨rfl, HBe.out⟩
              have hb6 : (e1 == 6) = false := by simp [h1]
              by_cases h2 : e2 = 6
              · have hb7 : (e2 == 6) = true := by simp [h2]
                clear h1 h2 hne
                go_wp2_with (fail)
                refine (start_any _ _).mono ?_
                rintro e w9 ⟨rfl, rfl⟩
                go_wp2_with (fail)
                refine (start_any _ _).mono ?_
                rintro e w9 ⟨rfl, rfl⟩
                go_wp2_with (fail)
                refine (wakes09 _).mono ?_
                rintro e w15 ⟨rfl, hB15⟩
                have HBe := Lib.hid (HB8.out.trans (hB15.mono HB8.out.size))
                clear hB15
                go_wp2_with (fail)
                go_ret
                exact ⟨rfl, HBe.out⟩
              have hb7 : (e2 == 6) = false := by simp [h2]
              have hap := putL_apart HU.out hne (v := v) (v' := v2) (by rw [HP1.out]; exact h1) (by rw [HP1.out]; simp only; rw [HP2.out]; exact h2)
              rw [HP1.out] at hap
              simp only at hap
              rw [HP2.out] at hap
              simp only at hap
              obtain ⟨⟨e3, M1⟩, hr3⟩ : ∃ r, putL L k t2 v2 = r := ⟨_, rfl⟩
              rw [hr3] at hap
              simp only at hap
              obtain ⟨⟨e4, M2⟩, hr4⟩ : ∃ r, putL M1 k t v = r := ⟨_, rfl⟩
              rw [hr4] at hap
              simp only at hap
              obtain ⟨rfl, rfl, rfl⟩ := hap
              have HM32 : Hid (M1.length ≤ 32) := Lib.hid (by have := put_len L k t2 v2 H32.out HU.out; rwa [hr3] at this)
              have hput3 := rput_any HT8.out (by have := H32.out; omega) k hk2 t2 v2
              rw [hr3] at hput3
              have HPUT3 := Lib.hid hput3
              have HP4 := Lib.hid hr4
              clear hput3 hr3 hr4
              clear h1 h2 hne
              go_wp2_with (fail)
              refine (start_any _ _).mono ?_
              rintro e w9 ⟨rfl, rfl⟩
              go_wp2_with (fail)
              refine (start_any _ _).mono ?_
              rintro e w9 ⟨rfl, rfl⟩
              go_wp2_with (fail)
              refine HPUT3.out.mono ?_
              rintro e w10 ⟨rfl, hT10, hK10⟩
              simp only at hT10 ⊢
              have HT10 := Lib.hid hT10
              have HS10 := Lib.hid (HS8.out.keep hK10 (by have := HN3.out; simp; omega) (by have := HN3.out; simp; omega))
              have HB10 := Lib.hid (HB8.out.trans (hK10.below HB8.out.size (by have := HN3.out; simp; omega)))
              have hput4 := rput_any HT10.out (by have := HM32.out; omega) k hk t v
              rw [HP4.out] at hput4
              have HPUT4 := Lib.hid hput4
              clear hT10 hK10 hput4 HPUT3 HS8 HT8 HB8
              go_wp2_with (fail)
              refine HPUT4.out.mono ?_
              rintro e w11 ⟨rfl, hT11, hK11⟩
              simp only at hT11 ⊢
              have HT11 := Lib.hid hT11
              have HS11 := Lib.hid (HS10.out.keep hK11 (by have := HN3.out; simp; omega) (by have := HN3.out; simp; omega))
              have HB11 := Lib.hid (HB10.out.trans (hK11.below HB10.out.size (by have := HN3.out; simp; omega)))
              clear hT11 hK11 HPUT4 HS10 HT10 HB10
              go_wp2_with (fail)
              refine (rall_any HS11.out (by have := H232.out; omega)).mono ?_
              rintro e w12 ⟨A12, c12, rfl, hE12, hB12⟩
              have HE12 := Lib.hid hE12.row
              have HT12 := Lib.hid (HT11.out.below hB12)
              have HB12 := Lib.hid (HB11.out.trans (hB12.mono HB11.out.size))
              clear hE12 hB12 HS11 HT11 HB11
              go_wp2_with (fail)
              refine (rall_any HT12.out (by have := H232.out; omega)).mono ?_
              rintro e w13 ⟨A13, c13, rfl, hE13, hB13⟩
              have HE13 := Lib.hid hE13.row
              have HE12b := Lib.hid (HE12.out.below hB13)
              have HB13 := Lib.hid (HB12.out.trans (hB13.mono HB12.out.size))
              clear hE13 hB13 HE12 HT12 HB12
              go_wp2_with (fail)
              have hsm := same_any c12 c13 HE12b.out HE13.out (by have := H232.out; omega) (by have := H232.out; omega)
              rw [decide_eq_true rfl] at hsm
              refine hsm.mono ?_
              rintro e w14 ⟨rfl, hK14⟩
              have HB14 := Lib.hid (HB13.out.trans (hK14.below HB13.out.size (by simp)))
              clear hsm hK14 HE12b HE13 HB13
              go_wp2_with (fail)
              refine (wakes09 _).mono ?_
              rintro e w15 ⟨rfl, hB15⟩
              have HBe := Lib.hid (HB14.out.trans (hB15.mono HB14.out.size))
              clear hB15
              go_wp2_with (fail)
              go_ret
              exact ⟨rfl, HBe.out⟩
          · have hkb : (k.toList == k2.toList) = false := by rw [beq_bytes]; simp [hkk]
            have hne : (⟨startI t, k⟩ : Wd) ≠ ⟨startI t2, k2⟩ := fun h => hkk (by injection h)
            by_cases h1 : e1 = 6
            · have hb6 : (e1 == 6) = true := by simp [h1]
              clear h1 hne
              go_wp2_with (fail)
              refine (wakes09 _).mono ?_
              rintro e w15 ⟨rfl, hB15⟩
              have HBe := Lib.hid (HB8.out.trans (hB15.mono HB8.out.size))
              clear hB15
              go_wp2_with (fail)
              go_ret
              exact ⟨rfl, HBe.out⟩
            have hb6 : (e1 == 6) = false := by simp [h1]
            by_cases h2 : e2 = 6
            · have hb7 : (e2 == 6) = true := by simp [h2]
              clear h1 h2 hne
              go_wp2_with (fail)
              refine (wakes09 _).mono ?_
              rintro e w15 ⟨rfl, hB15⟩
              have HBe := Lib.hid (HB8.out.trans (hB15.mono HB8.out.size))
              clear hB15
              go_wp2_with (fail)
              go_ret
              exact ⟨rfl, HBe.out⟩
            have hb7 : (e2 == 6) = false := by simp [h2]
            have hap := putL_apart HU.out hne (v := v) (v' := v2) (by rw [HP1.out]; exact h1) (by rw [HP1.out]; simp only; rw [HP2.out]; exact h2)
            rw [HP1.out] at hap
            simp only at hap
            rw [HP2.out] at hap
            simp only at hap
            obtain ⟨⟨e3, M1⟩, hr3⟩ : ∃ r, putL L k2 t2 v2 = r := ⟨_, rfl⟩
            rw [hr3] at hap
            simp only at hap
            obtain ⟨⟨e4, M2⟩, hr4⟩ : ∃ r, putL M1 k t v = r := ⟨_, rfl⟩
            rw [hr4] at hap
            simp only at hap
            obtain ⟨rfl, rfl, rfl⟩ := hap
            have HM32 : Hid (M1.length ≤ 32) := Lib.hid (by have := put_len L k2 t2 v2 H32.out HU.out; rwa [hr3] at this)
            have hput3 := rput_any HT8.out (by have := H32.out; omega) k2 hk2 t2 v2
            rw [hr3] at hput3
            have HPUT3 := Lib.hid hput3
            have HP4 := Lib.hid hr4
            clear hput3 hr3 hr4
            clear h1 h2 hne
            go_wp2_with (fail)
            refine HPUT3.out.mono ?_
            rintro e w10 ⟨rfl, hT10, hK10⟩
            simp only at hT10 ⊢
            have HT10 := Lib.hid hT10
            have HS10 := Lib.hid (HS8.out.keep hK10 (by have := HN3.out; simp; omega) (by have := HN3.out; simp; omega))
            have HB10 := Lib.hid (HB8.out.trans (hK10.below HB8.out.size (by have := HN3.out; simp; omega)))
            have hput4 := rput_any HT10.out (by have := HM32.out; omega) k hk t v
            rw [HP4.out] at hput4
            have HPUT4 := Lib.hid hput4
            clear hT10 hK10 hput4 HPUT3 HS8 HT8 HB8
            go_wp2_with (fail)
            refine HPUT4.out.mono ?_
            rintro e w11 ⟨rfl, hT11, hK11⟩
            simp only at hT11 ⊢
            have HT11 := Lib.hid hT11
            have HS11 := Lib.hid (HS10.out.keep hK11 (by have := HN3.out; simp; omega) (by have := HN3.out; simp; omega))
            have HB11 := Lib.hid (HB10.out.trans (hK11.below HB10.out.size (by have := HN3.out; simp; omega)))
            clear hT11 hK11 HPUT4 HS10 HT10 HB10
            go_wp2_with (fail)
            refine (rall_any HS11.out (by have := H232.out; omega)).mono ?_
            rintro e w12 ⟨A12, c12, rfl, hE12, hB12⟩
            have HE12 := Lib.hid hE12.row
            have HT12 := Lib.hid (HT11.out.below hB12)
            have HB12 := Lib.hid (HB11.out.trans (hB12.mono HB11.out.size))
            clear hE12 hB12 HS11 HT11 HB11
            go_wp2_with (fail)
            refine (rall_any HT12.out (by have := H232.out; omega)).mono ?_
            rintro e w13 ⟨A13, c13, rfl, hE13, hB13⟩
            have HE13 := Lib.hid hE13.row
            have HE12b := Lib.hid (HE12.out.below hB13)
            have HB13 := Lib.hid (HB12.out.trans (hB13.mono HB12.out.size))
            clear hE13 hB13 HE12 HT12 HB12
            go_wp2_with (fail)
            have hsm := same_any c12 c13 HE12b.out HE13.out (by have := H232.out; omega) (by have := H232.out; omega)
            rw [decide_eq_true rfl] at hsm
            refine hsm.mono ?_
            rintro e w14 ⟨rfl, hK14⟩
            have HB14 := Lib.hid (HB13.out.trans (hK14.below HB13.out.size (by simp)))
            clear hsm hK14 HE12b HE13 HB13
            go_wp2_with (fail)
            refine (wakes09 _).mono ?_
            rintro e w15 ⟨rfl, hB15⟩
            have HBe := Lib.hid (HB14.out.trans (hB15.mono HB14.out.size))
            clear hB15
            go_wp2_with (fail)
            go_ret
            exact ⟨rfl, HBe.out⟩
end Go.Proofs.Ytmhbibcfbencnaa
