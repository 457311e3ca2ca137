/- The document's store: find. -/
import Derived.Test.YtmhbibcfbencnaaRfA
namespace Go.Proofs.Ytmhbibcfbencnaa
open Go.RowKit Go.Lib
set_option linter.unusedSimpArgs false
set_option linter.unusedVariables false
theorem OtAt.all {W : World} {g : Nat} {x : Ot} (h : OtAt W g x) : W.cell? ⟨g, 0, none⟩ = some (.string x.key) ∧ W.cell? ⟨g, 1, none⟩ = some (.int .i64 x.st) ∧ W.cell? ⟨g, 2, none⟩ = some (.int .i64 x.ag.c) ∧ W.cell? ⟨g, 3, none⟩ = some (.int .i64 x.ag.s) ∧ W.cell? ⟨g, 4, none⟩ = some (.int .i64 x.ag.lo) ∧ W.cell? ⟨g, 5, none⟩ = some (.int .i64 x.ag.hi) ∧ W.cell? ⟨g, 6, none⟩ = some (.int .i64 x.ag.b0) ∧ W.cell? ⟨g, 7, none⟩ = some (.int .i64 x.ag.b1) ∧ W.cell? ⟨g, 8, none⟩ = some (.int .i64 x.ag.b2) ∧ W.cell? ⟨g, 9, none⟩ = some (.int .i64 x.ag.b3) ∧ (∀ o, W.frozen? ⟨g, o, none⟩ = false) := by
  unfold OtAt at h
  refine ⟨?_, ?_, ?_, ?_, ?_, ?_, ?_, ?_, ?_, ?_, fun o => ?_⟩
  all_goals first | (unfold World.cell?; rw [h]; rfl) | (unfold World.frozen?; rw [h]; simp)
/-- A block that holds a store of the document's. -/
def SxAt (W : World) (g : Nat) (v : Value) : Prop := W.heap[g]? = some (.cells #[v] 64 (0, 0))
theorem SxAt.cells {W : World} {g : Nat} {v : Value} (h : SxAt W g v) : W.cell? ⟨g, 0, none⟩ = some v ∧ (∀ o, W.frozen? ⟨g, o, none⟩ = false) := by
  unfold SxAt at h
  refine ⟨?_, fun o => ?_⟩
  all_goals first | (unfold World.cell?; rw [h]; rfl) | (unfold World.frozen?; rw [h]; simp)
theorem SxAt.keep {X : List Nat} {W W' : World} {g : Nat} {v : Value} (h : SxAt W g v) (hk : Keep X W W') (hx : g ∉ X := by simp) : SxAt W' g v := (hk.block g (lt_of_heap h) hx).trans h
theorem SxAt.new (W : World) (v : Value) : SxAt (W.alloc (.cells #[v] 64)) W.heap.size v := World.alloc_heap_new W _
theorem SxAt.lt {W : World} {g : Nat} {v : Value} (h : SxAt W g v) : g < W.heap.size := lt_of_heap h
theorem tw_mem {p : Ot → Bool} {L : List Ot} {x : Ot} (h : x ∈ L.takeWhile p) : p x = true := by
  induction L with
  | nil => cases h
  | cons y r ih =>
    rw [List.takeWhile_cons] at h
    split at h
    · rcases List.mem_cons.1 h with e | e
      · subst e; assumption
      · exact ih e
    · cases h
theorem tw_get {p : Ot → Bool} {L : List Ot} {j : Nat} (h : j < (L.takeWhile p).length) (hl : j < L.length) : (L.takeWhile p)[j] = L[j] := by
  have hp := List.takeWhile_prefix p (l := L)
  obtain ⟨t, ht⟩ := hp
  have e : (L.takeWhile p ++ t)[j]? = L[j]? := by rw [ht]
  rw [List.getElem?_append_left h, List.getElem?_eq_getElem h, List.getElem?_eq_getElem hl] at e
  exact Option.some.inj e
/-- Where a window is, or would be. -/
def idxL (o : Ot) (L : List Ot) : Nat := (L.takeWhile fun y => ltB y o).length
def openL (o : Ot) (L : List Ot) : Bool := match L[idxL o L]? with | some y => !ltB o y | none => false
theorem idx_le (o : Ot) (L : List Ot) : idxL o L ≤ L.length := (List.takeWhile_sublist _).length_le
theorem idx_lt {o : Ot} {L : List Ot} {j : Nat} (h : j < idxL o L) : ∃ x, L[j]? = some x ∧ ltB x o = true := by
  unfold idxL at h
  have hl : j < L.length := Nat.lt_of_lt_of_le h ((List.takeWhile_sublist _).length_le)
  refine ⟨L[j], List.getElem?_eq_getElem hl, ?_⟩
  have hm : (L.takeWhile fun y => ltB y o)[j] ∈ L.takeWhile fun y => ltB y o := List.getElem_mem h
  have h2 := tw_mem hm
  have h3 : (L.takeWhile fun y => ltB y o)[j] = L[j] := tw_get h hl
  rw [h3] at h2
  exact h2
theorem idx_end {o : Ot} {L : List Ot} {x : Ot} (h : L[idxL o L]? = some x) : ltB x o = false := by
  induction L with
  | nil => cases h
  | cons y r ih =>
    unfold idxL at h
    rw [List.takeWhile_cons] at h
    split at h
    · rw [List.length_cons, List.getElem?_cons_succ] at h
      exact ih h
    · rename_i hn
      rw [List.length_nil, List.getElem?_cons_zero] at h
      cases h
      simpa using hn
theorem lkL_far {o : Ot} {L : List Ot} (h : ∀ y ∈ L, ltO o y) : lkL (wdOf o) L = none := lkL_none.2 (fun y hy => ltO_ne (h y hy))
theorem find_cons {o y : Ot} {r : List Ot} (h : ltB y o = true) : idxL o (y :: r) = idxL o r + 1 ∧ openL o (y :: r) = openL o r := by
  have e : idxL o (y :: r) = idxL o r + 1 := by unfold idxL; rw [List.takeWhile_cons, if_pos h, List.length_cons]
  exact ⟨e, by unfold openL; rw [e, List.getElem?_cons_succ]⟩
theorem find_stop {o y : Ot} {r : List Ot} (h : ltB y o = false) : idxL o (y :: r) = 0 ∧ openL o (y :: r) = !ltB o y := by
  have e : idxL o (y :: r) = 0 := by unfold idxL; rw [List.takeWhile_cons, if_neg (by rw [h]; decide)]; rfl
  exact ⟨e, by unfold openL; rw [e]; rfl⟩
/-- What find tells. -/
theorem find_lk {o : Ot} {L : List Ot} (hu : L.Pairwise ltO) : openL o L = (lkL (wdOf o) L).isSome ∧ (∀ y, openL o L = true → L[idxL o L]? = some y → lkL (wdOf o) L = some y.ag) ∧
    insL o L = L.take (idxL o L) ++ [o] ++ L.drop (if openL o L then idxL o L + 1 else idxL o L) := by
  induction L with
  | nil => exact ⟨rfl, fun y _ h => (by cases h), rfl⟩
  | cons y r ih =>
    obtain ⟨hy, hr⟩ := List.pairwise_cons.1 hu
    by_cases h1 : ltB y o = true
    · obtain ⟨e1, e2⟩ := find_cons (r := r) h1
      obtain ⟨i1, i2, i3⟩ := ih hr
      have hne : wdOf o ≠ wdOf y := fun e => ltO_ne (ltB_iff.1 h1) e.symm
      have hl : lkL (wdOf o) (y :: r) = lkL (wdOf o) r := if_neg hne
      refine ⟨by rw [e2, hl, i1], fun z hz hg => ?_, ?_⟩
      · rw [e2] at hz; rw [e1, List.getElem?_cons_succ] at hg; rw [hl]; exact i2 z hz hg
      · have hn : ltB o y = false := ltB_false.2 (ltO_asymm (ltB_iff.1 h1))
        unfold insL
        rw [if_neg (by rw [hn]; decide), if_pos h1, i3, e1, e2]
        cases openL o r <;> rfl
    · have h1' : ltB y o = false := by simpa using h1
      obtain ⟨e1, e2⟩ := find_stop (r := r) h1'
      by_cases h2 : ltB o y = true
      · have hl : lkL (wdOf o) (y :: r) = none := lkL_far (fun z hz => by
          rcases List.mem_cons.1 hz with e | e
          · rw [e]; exact ltB_iff.1 h2
          · exact ltO_trans (ltB_iff.1 h2) (hy z e))
        rw [h2] at e2
        refine ⟨by rw [e2, hl]; rfl, fun z hz _ => (by rw [e2] at hz; cases hz), ?_⟩
        unfold insL
        rw [if_pos h2, e1, e2]
        rfl
      · have h2' : ltB o y = false := by simpa using h2
        have hw : wdOf o = wdOf y := Classical.byContradiction fun hn => by
          rcases ltO_total (x := o) (y := y) (by
            by_cases e : o.st = y.st
            · refine .inr (fun e2 => hn ?_)
              unfold wdOf
              rw [e, e2]
            · exact .inl e) with h | h
          · exact ltB_false.1 h2' h
          · exact ltB_false.1 h1' h
        have hl : lkL (wdOf o) (y :: r) = some y.ag := if_pos hw
        rw [h2'] at e2
        refine ⟨by rw [e2, hl]; rfl, fun z _ hg => ?_, ?_⟩
        · rw [e1] at hg; cases hg; exact hl
        · unfold insL
          rw [if_neg (by rw [h2']; decide), if_neg h1, e1, e2]
          rfl
set_option maxRecDepth 100000 in
set_option maxHeartbeats 4000000 in
theorem find_any {w : World} {A : Option Addr} {L : List Ot} (c : Nat) (hA : OtsRow w A L) (hL : L.length ≤ 9223372036854775807) (hw : ∀ y ∈ L, y.key.size ≤ maxLen) (o : Ot) (ho : o.key.size ≤ maxLen) :
    Calls Try.prog 65 #[.agg #[.slice A L.length c], .agg o.enc.toArray] w fun e w' => e = .returned (.tuple #[.int .i64 (idxL o L), .bool (openL o L)]) ∧ Below w.heap.size w w' := by
  obtain ⟨n, hn⟩ : ∃ n, idxL o L = n := ⟨_, rfl⟩
  obtain ⟨op, hop⟩ : ∃ x, openL o L = x := ⟨_, rfl⟩
  rw [hn, hop]
  have hnl := idx_le o L
  rw [hn] at hnl
  have HLT := Lib.hid (fun j (h : j < idxL o L) => idx_lt h)
  have HEN := Lib.hid (fun x (h : L[idxL o L]? = some x) => idx_end h)
  have HOP := Lib.hid hop
  unfold openL at HOP
  rw [hn] at HLT HEN HOP
  have HW := Lib.hid hw
  have hless : ∀ x ∈ L, ∀ W, Calls Try.prog 80 #[.agg x.enc.toArray, .agg o.enc.toArray] W fun e w' => e = .returned (.bool (ltB x o)) ∧ Below W.heap.size W w' := fun x hx W => less_any x o (hw x hx) ho W
  have hless2 : ∀ x ∈ L, ∀ W, Calls Try.prog 80 #[.agg o.enc.toArray, .agg x.enc.toArray] W fun e w' => e = .returned (.bool (ltB o x)) ∧ Below W.heap.size W w' := fun x hx W => less_any o x ho (hw x hx) W
  clear hn hop hw
  obtain ⟨ok, os, ⟨o1, o2, o3, o4, o5, o6, o7, o8⟩⟩ := o
  simp only [Ot.enc] at hless hless2 ⊢
  have HL1 := Lib.hid hless
  have HL2 := Lib.hid hless2
  clear hless hless2 ho
  have hz := Int.natCast_nonneg L.length
  obtain ⟨W1, hW1⟩ : ∃ W1, (w.alloc (.cells #[.slice A L.length c] 64)).alloc (.cells #[.string ok, .int .i64 os, .int .i64 o1, .int .i64 o2, .int .i64 o3, .int .i64 o4, .int .i64 o5, .int .i64 o6, .int .i64 o7, .int .i64 o8] 33) = W1 := ⟨_, rfl⟩
  have hs : SxAt W1 w.heap.size (.slice A L.length c) := hW1 ▸ (SxAt.new w (.slice A L.length c)).keep ((Keep.refl [] _).alloc _)
  have hx : OtAt W1 (w.heap.size + 1) ⟨ok, os, ⟨o1, o2, o3, o4, o5, o6, o7, o8⟩⟩ := by
    have := OtAt.new (w.alloc (.cells #[.slice A L.length c] 64)) ⟨ok, os, ⟨o1, o2, o3, o4, o5, o6, o7, o8⟩⟩
    rw [World.size_alloc] at this
    exact hW1 ▸ this
  have hB : Below w.heap.size w W1 := hW1 ▸ ((Below.refl _ w).alloc (Nat.le_refl _) _).alloc (by simp) _
  have HSX0 := Lib.hid hs
  have HO0 := Lib.hid hx
  have HB := Lib.hid hB
  have HA := Lib.hid (OtsRow.keep hA (Keep.of_below hB []) (fun _ _ _ _ => by simp))
  clear hs hx hB hA
  go_enter Try.func65, Try.ntmps65
  go_wp2_with (fail)
  clear hW1
  go_loopw [6] (fun i wr => ∃ j : Nat, i = .int .i64 j ∧ j ≤ n ∧ Keep [] W1 wr) (fun i _ => L.length - (intOf i).toNat)
  case atStart => exact ⟨0, rfl, Nat.zero_le _, Keep.refl _ _⟩
  case round =>
    obtain ⟨j, rfl, hj, hK⟩ := hrel
    have HSX := Lib.hid (HSX0.out.keep hK)
    have HO := Lib.hid (HO0.out.keep hK)
    have HA2 := Lib.hid (OtsRow.keep HA.out hK (fun _ _ _ _ => by simp))
    have HK := Lib.hid hK
    clear hK
    have h0j : (0 : Int) ≤ (j : Int) := Int.natCast_nonneg j
    by_cases hlt : j < L.length
    · have hjn : (j : Int) < (L.length : Int) := by omega
      obtain ⟨x, hx⟩ : ∃ x, L[j]? = some x := ⟨L[j], List.getElem?_eq_getElem hlt⟩
      obtain ⟨q, off, rfl, hq, hat⟩ := HA2.out (by intro e; rw [e] at hlt; simp at hlt)
      have HX := Lib.hid (hat j x hx)
      have HXE := Lib.hid hx
      have HL1x := Lib.hid (HL1.out x (List.mem_of_getElem? hx))
      have HL2x := Lib.hid (HL2.out x (List.mem_of_getElem? hx))
      clear hat hx HA2
      by_cases hjj : j < n
      · have HLS : Hid (∀ W, Calls Try.prog 80 #[.agg x.enc.toArray, .agg #[.string ok, .int .i64 os, .int .i64 o1, .int .i64 o2, .int .i64 o3, .int .i64 o4, .int .i64 o5, .int .i64 o6, .int .i64 o7, .int .i64 o8]] W fun e w' => e = .returned (.bool true) ∧ Below W.heap.size W w') := Lib.hid (fun W => by
          have h1 := HL1x.out W
          obtain ⟨x', h2, h3⟩ := HLT.out j hjj
          rw [HXE.out] at h2
          cases h2
          rw [h3] at h1
          exact h1)
        obtain ⟨xk, xs, ⟨x1, x2, x3, x4, x5, x6, x7, x8⟩⟩ := x
        simp only [Ot.enc] at HLS
        clear HL1x HL2x
        go_wp2_with (fail)
        refine wp_region_soup 14 [] (spOf [(12, Spec.is (.bool true))]) (by kernel_rfl) (by kernel_rfl) (spOk_of (by simp [Spec.is_ok])) (pre_of (by simp [Spec.is_ok])) ?_
        simp only [List.take_succ_cons, List.take_zero, List.drop_succ_cons, List.drop_zero]
        iterate 12
          with_reducible refine soup_q ?_ ?_ ?_
          · rfl
          · rfl
          with_reducible apply Exists.intro
          with_reducible refine ⟨fun W hk _ => ?_, ?_⟩
          · obtain ⟨s0, sf⟩ := (HSX.out.keep hk).cells
            obtain ⟨a0, a1, a2, a3, a4, a5, a6, a7, a8, a9, af⟩ := (HO.out.keep hk).all
            simp only at a0 a1 a2 a3 a4 a5 a6 a7 a8 a9
            obtain ⟨d0, d1, d2, d3, d4, d5, d6, d7, d8, d9⟩ := HX.out.keep hk hq (by simp)
            simp only at d0 d1 d2 d3 d4 d5 d6 d7 d8 d9
            unfold Oper.same
            go_simp
            first | rfl | exact ⟨rfl, rfl⟩
          with_reducible apply Exists.intro
          with_reducible refine ⟨?_, ?_⟩
          · go_simp
            rfl
        refine soup_s rfl rfl rfl (fun W hk _ _ => ?_) ?_
        · unfold Oper.does
          go_simp
          refine (HLS.out _).mono ?_
          rintro e w' ⟨rfl, hb⟩
          exact ⟨_, rfl, Keep.of_below hb _, hk.then_below hb, rfl, trivial⟩
        intro v hv
        obtain rfl : v = _ := hv
        with_reducible apply Exists.intro
        with_reducible refine ⟨?_, ?_⟩
        · go_simp
          rfl
        iterate 1
          with_reducible refine soup_q ?_ ?_ ?_
          · rfl
          · rfl
          with_reducible apply Exists.intro
          with_reducible refine ⟨fun W hk _ => ?_, ?_⟩
          · obtain ⟨s0, sf⟩ := (HSX.out.keep hk).cells
            obtain ⟨a0, a1, a2, a3, a4, a5, a6, a7, a8, a9, af⟩ := (HO.out.keep hk).all
            simp only at a0 a1 a2 a3 a4 a5 a6 a7 a8 a9
            obtain ⟨d0, d1, d2, d3, d4, d5, d6, d7, d8, d9⟩ := HX.out.keep hk hq (by simp)
            simp only at d0 d1 d2 d3 d4 d5 d6 d7 d8 d9
            unfold Oper.same
            go_simp
            first | rfl | exact ⟨rfl, rfl⟩
          with_reducible apply Exists.intro
          with_reducible refine ⟨?_, ?_⟩
          · go_simp
            rfl
        refine soup_nil (fun W3 hk hS => ?_)
        have HK3 := Lib.hid (HK.out.trans hk)
        clear hk hS
        clear HSX HO HX hq HK
        go_wp2_with (fail)
        go_roundw
        case rel => exact ⟨j + 1, by go_num, by omega, HK3.out⟩
        case measure => simp [intOf]; omega
      · obtain rfl : j = n := by omega
        have HLS : Hid (∀ W, Calls Try.prog 80 #[.agg x.enc.toArray, .agg #[.string ok, .int .i64 os, .int .i64 o1, .int .i64 o2, .int .i64 o3, .int .i64 o4, .int .i64 o5, .int .i64 o6, .int .i64 o7, .int .i64 o8]] W fun e w' => e = .returned (.bool false) ∧ Below W.heap.size W w') := Lib.hid (fun W => by
          have h1 := HL1x.out W
          rw [HEN.out x HXE.out] at h1
          exact h1)
        obtain ⟨lb, hlb⟩ : ∃ b, ltB ⟨ok, os, ⟨o1, o2, o3, o4, o5, o6, o7, o8⟩⟩ x = b := ⟨_, rfl⟩
        have HLS2 : Hid (∀ W, Calls Try.prog 80 #[.agg #[.string ok, .int .i64 os, .int .i64 o1, .int .i64 o2, .int .i64 o3, .int .i64 o4, .int .i64 o5, .int .i64 o6, .int .i64 o7, .int .i64 o8], .agg x.enc.toArray] W fun e w' => e = .returned (.bool lb) ∧ Below W.heap.size W w') := Lib.hid (fun W => by
          have h1 := HL2x.out W
          rw [hlb] at h1
          exact h1)
        obtain rfl : (!lb) = op := by
          have h1 := HOP.out
          rw [HXE.out] at h1
          simp only at h1
          rw [hlb] at h1
          exact h1
        obtain ⟨xk, xs, ⟨x1, x2, x3, x4, x5, x6, x7, x8⟩⟩ := x
        simp only [Ot.enc] at HLS HLS2
        clear HL1x HL2x hlb
        go_wp2_with (fail)
        refine wp_region_soup 14 [] (spOf [(12, Spec.is (.bool false))]) (by kernel_rfl) (by kernel_rfl) (spOk_of (by simp [Spec.is_ok])) (pre_of (by simp [Spec.is_ok])) ?_
        simp only [List.take_succ_cons, List.take_zero, List.drop_succ_cons, List.drop_zero]
        iterate 12
          with_reducible refine soup_q ?_ ?_ ?_
          · rfl
          · rfl
          with_reducible apply Exists.intro
          with_reducible refine ⟨fun W hk _ => ?_, ?_⟩
          · obtain ⟨s0, sf⟩ := (HSX.out.keep hk).cells
            obtain ⟨a0, a1, a2, a3, a4, a5, a6, a7, a8, a9, af⟩ := (HO.out.keep hk).all
            simp only at a0 a1 a2 a3 a4 a5 a6 a7 a8 a9
            obtain ⟨d0, d1, d2, d3, d4, d5, d6, d7, d8, d9⟩ := HX.out.keep hk hq (by simp)
            simp only at d0 d1 d2 d3 d4 d5 d6 d7 d8 d9
            unfold Oper.same
            go_simp
            first | rfl | exact ⟨rfl, rfl⟩
          with_reducible apply Exists.intro
          with_reducible refine ⟨?_, ?_⟩
          · go_simp
            rfl
        refine soup_s rfl rfl rfl (fun W hk _ _ => ?_) ?_
        · unfold Oper.does
          go_simp
          refine (HLS.out _).mono ?_
          rintro e w' ⟨rfl, hb⟩
          exact ⟨_, rfl, Keep.of_below hb _, hk.then_below hb, rfl, trivial⟩
        intro v hv
        obtain rfl : v = _ := hv
        with_reducible apply Exists.intro
        with_reducible refine ⟨?_, ?_⟩
        · go_simp
          rfl
        iterate 1
          with_reducible refine soup_q ?_ ?_ ?_
          · rfl
          · rfl
          with_reducible apply Exists.intro
          with_reducible refine ⟨fun W hk _ => ?_, ?_⟩
          · obtain ⟨s0, sf⟩ := (HSX.out.keep hk).cells
            obtain ⟨a0, a1, a2, a3, a4, a5, a6, a7, a8, a9, af⟩ := (HO.out.keep hk).all
            simp only at a0 a1 a2 a3 a4 a5 a6 a7 a8 a9
            obtain ⟨d0, d1, d2, d3, d4, d5, d6, d7, d8, d9⟩ := HX.out.keep hk hq (by simp)
            simp only at d0 d1 d2 d3 d4 d5 d6 d7 d8 d9
            unfold Oper.same
            go_simp
            first | rfl | exact ⟨rfl, rfl⟩
          with_reducible apply Exists.intro
          with_reducible refine ⟨?_, ?_⟩
          · go_simp
            rfl
        refine soup_nil (fun W3 hk hS => ?_)
        have HK3 := Lib.hid (HK.out.trans hk)
        have HX := Lib.hid (HX.out.keep hk hq (by simp))
        have hq := Nat.lt_of_lt_of_le hq hk.size
        clear hk hS
        clear HK
        have HSX := Lib.hid (HSX0.out.keep HK3.out)
        have HO := Lib.hid (HO0.out.keep HK3.out)
        go_wp2_with (fail)
        refine wp_region_soup 17 [] (spOf [(13, Spec.is (.bool lb))]) (by kernel_rfl) (by kernel_rfl) (spOk_of (by simp [Spec.is_ok])) (pre_of (by simp [Spec.is_ok])) ?_
        simp only [List.take_succ_cons, List.take_zero, List.drop_succ_cons, List.drop_zero]
        iterate 13
          with_reducible refine soup_q ?_ ?_ ?_
          · rfl
          · rfl
          with_reducible apply Exists.intro
          with_reducible refine ⟨fun W hk _ => ?_, ?_⟩
          · obtain ⟨s0, sf⟩ := (HSX.out.keep hk).cells
            obtain ⟨a0, a1, a2, a3, a4, a5, a6, a7, a8, a9, af⟩ := (HO.out.keep hk).all
            simp only at a0 a1 a2 a3 a4 a5 a6 a7 a8 a9
            obtain ⟨d0, d1, d2, d3, d4, d5, d6, d7, d8, d9⟩ := HX.out.keep hk hq (by simp)
            simp only at d0 d1 d2 d3 d4 d5 d6 d7 d8 d9
            unfold Oper.same
            go_simp
            first | rfl | exact ⟨rfl, rfl⟩
          with_reducible apply Exists.intro
          with_reducible refine ⟨?_, ?_⟩
          · go_simp
            rfl
        refine soup_s rfl rfl rfl (fun W hk _ _ => ?_) ?_
        · unfold Oper.does
          go_simp
          refine (HLS2.out _).mono ?_
          rintro e w' ⟨rfl, hb⟩
          exact ⟨_, rfl, Keep.of_below hb _, hk.then_below hb, rfl, trivial⟩
        intro v hv
        obtain rfl : v = _ := hv
        with_reducible apply Exists.intro
        with_reducible refine ⟨?_, ?_⟩
        · go_simp
          rfl
        iterate 3
          with_reducible refine soup_q ?_ ?_ ?_
          · rfl
          · rfl
          with_reducible apply Exists.intro
          with_reducible refine ⟨fun W hk _ => ?_, ?_⟩
          · obtain ⟨s0, sf⟩ := (HSX.out.keep hk).cells
            obtain ⟨a0, a1, a2, a3, a4, a5, a6, a7, a8, a9, af⟩ := (HO.out.keep hk).all
            simp only at a0 a1 a2 a3 a4 a5 a6 a7 a8 a9
            obtain ⟨d0, d1, d2, d3, d4, d5, d6, d7, d8, d9⟩ := HX.out.keep hk hq (by simp)
            simp only at d0 d1 d2 d3 d4 d5 d6 d7 d8 d9
            unfold Oper.same
            go_simp
            first | rfl | exact ⟨rfl, rfl⟩
          with_reducible apply Exists.intro
          with_reducible refine ⟨?_, ?_⟩
          · go_simp
            rfl
        refine soup_nil (fun W4 hk hS => ?_)
        have HK4 := Lib.hid (HK3.out.trans hk)
        clear hk hS
        clear HSX HO HX hq
        go_wp2_with (fail)
        (try simp only [Exit.inBlock, Exit.then])
        exact bodyPost_ret (v := .tuple #[.int .i64 _, .bool (!lb)]) (by simp [results, Try.results65, go_sem]) rfl ⟨rfl, HB.out.trans (HK4.out.below HB.out.size (by simp))⟩
    · obtain rfl : j = L.length := by omega
      obtain rfl : n = L.length := by omega
      obtain rfl : false = op := by
        have h1 := HOP.out
        rw [List.getElem?_eq_none (Nat.le_refl _)] at h1
        exact h1
      clear HA2
      go_wp2_with (fail)
      refine wp_region_soup 14 [] (spOf []) (by kernel_rfl) (by kernel_rfl) (spOk_of (by simp [Spec.is_ok])) (pre_of (by simp [Spec.is_ok])) ?_
      simp only [List.take_succ_cons, List.take_zero, List.drop_succ_cons, List.drop_zero]
      iterate 6
        with_reducible refine soup_q ?_ ?_ ?_
        · rfl
        · rfl
        with_reducible apply Exists.intro
        with_reducible refine ⟨fun W hk _ => ?_, ?_⟩
        · obtain ⟨s0, sf⟩ := (HSX.out.keep hk).cells
          obtain ⟨a0, a1, a2, a3, a4, a5, a6, a7, a8, a9, af⟩ := (HO.out.keep hk).all
          simp only at a0 a1 a2 a3 a4 a5 a6 a7 a8 a9
          unfold Oper.same
          go_simp
          first | rfl | exact ⟨rfl, rfl⟩
        with_reducible apply Exists.intro
        with_reducible refine ⟨?_, ?_⟩
        · go_simp
          rfl
      iterate 7
        with_reducible refine soup_no ?_ ?_
        · rfl
        with_reducible apply Exists.intro
        with_reducible refine ⟨?_, ?_⟩
        · go_simp
          rfl
      iterate 1
        with_reducible refine soup_q ?_ ?_ ?_
        · rfl
        · rfl
        with_reducible apply Exists.intro
        with_reducible refine ⟨fun W hk _ => ?_, ?_⟩
        · obtain ⟨s0, sf⟩ := (HSX.out.keep hk).cells
          obtain ⟨a0, a1, a2, a3, a4, a5, a6, a7, a8, a9, af⟩ := (HO.out.keep hk).all
          simp only at a0 a1 a2 a3 a4 a5 a6 a7 a8 a9
          unfold Oper.same
          go_simp
          first | rfl | exact ⟨rfl, rfl⟩
        with_reducible apply Exists.intro
        with_reducible refine ⟨?_, ?_⟩
        · go_simp
          rfl
      refine soup_nil (fun W3 hk hS => ?_)
      have HK3 := Lib.hid (HK.out.trans hk)
      clear hk hS
      clear HK
      have HSX := Lib.hid (HSX0.out.keep HK3.out)
      have HO := Lib.hid (HO0.out.keep HK3.out)
      go_wp2_with (fail)
      refine wp_region_soup 17 [] (spOf []) (by kernel_rfl) (by kernel_rfl) (spOk_of (by simp [Spec.is_ok])) (pre_of (by simp [Spec.is_ok])) ?_
      simp only [List.take_succ_cons, List.take_zero, List.drop_succ_cons, List.drop_zero]
      iterate 7
        with_reducible refine soup_q ?_ ?_ ?_
        · rfl
        · rfl
        with_reducible apply Exists.intro
        with_reducible refine ⟨fun W hk _ => ?_, ?_⟩
        · obtain ⟨s0, sf⟩ := (HSX.out.keep hk).cells
          obtain ⟨a0, a1, a2, a3, a4, a5, a6, a7, a8, a9, af⟩ := (HO.out.keep hk).all
          simp only at a0 a1 a2 a3 a4 a5 a6 a7 a8 a9
          unfold Oper.same
          go_simp
          first | rfl | exact ⟨rfl, rfl⟩
        with_reducible apply Exists.intro
        with_reducible refine ⟨?_, ?_⟩
        · go_simp
          rfl
      iterate 8
        with_reducible refine soup_no ?_ ?_
        · rfl
        with_reducible apply Exists.intro
        with_reducible refine ⟨?_, ?_⟩
        · go_simp
          rfl
      iterate 2
        with_reducible refine soup_q ?_ ?_ ?_
        · rfl
        · rfl
        with_reducible apply Exists.intro
        with_reducible refine ⟨fun W hk _ => ?_, ?_⟩
        · obtain ⟨s0, sf⟩ := (HSX.out.keep hk).cells
          obtain ⟨a0, a1, a2, a3, a4, a5, a6, a7, a8, a9, af⟩ := (HO.out.keep hk).all
          simp only at a0 a1 a2 a3 a4 a5 a6 a7 a8 a9
          unfold Oper.same
          go_simp
          first | rfl | exact ⟨rfl, rfl⟩
        with_reducible apply Exists.intro
        with_reducible refine ⟨?_, ?_⟩
        · go_simp
          rfl
      refine soup_nil (fun W4 hk hS => ?_)
      have HK4 := Lib.hid (HK3.out.trans hk)
      clear hk hS
      go_wp2_with (fail)
      (try simp only [Exit.inBlock, Exit.then])
      exact bodyPost_ret (v := .tuple #[.int .i64 _, .bool false]) (by simp [results, Try.results65, go_sem]) rfl ⟨rfl, HB.out.trans (HK4.out.below HB.out.size (by simp))⟩
end Go.Proofs.Ytmhbibcfbencnaa
