/- table.Same, find, packets; what a coordinator does not heed; three rounds of answers end all moves. -/
import Derived.Test.YtdnfibecobodkaaGreatCeD
import Derived.Test.YtdnfibecobodkaaGreatCeF
namespace Go.Proofs.YtdnfibecobodkaaGreat
open Go.RowKit Go.Lib
set_option linter.unusedSimpArgs false
set_option linter.unusedVariables false
set_option maxRecDepth 100000 in
set_option maxHeartbeats 4000000 in
theorem tsame_true {w : World} (ep nd : Int) {a b : Option Addr} (c d : Nat) {own : List Int} (ha : IntsAt w a own) (hb : IntsAt w b own) (hl : own.length ≤ 1000) : Calls Tryz.prog 24 #[.agg #[.int .i64 ep, .int .i64 nd, .slice a own.length c], .agg #[.int .i64 ep, .int .i64 nd, .slice b own.length d]] w fun e w' => e = .returned (.bool true) ∧ Keep [] w w' := by
  obtain ⟨w1, hw1⟩ : ∃ u, w.alloc (.cells #[.int .i64 ep, .int .i64 nd, .slice a own.length c] 28) = u := ⟨_, rfl⟩
  obtain ⟨w2, hw2⟩ : ∃ u, w1.alloc (.cells #[.int .i64 ep, .int .i64 nd, .slice b own.length d] 28) = u := ⟨_, rfl⟩
  have s1 : w1.heap.size = w.heap.size + 1 := by rw [← hw1, World.size_alloc]
  have k1 : Keep [] w w1 := by rw [← hw1]; exact (Keep.refl _ _).alloc _
  have k2 : Keep [] w1 w2 := by rw [← hw2]; exact (Keep.refl _ _).alloc _
  have b1 : w2.heap[w.heap.size]? = some (.cells #[.int .i64 ep, .int .i64 nd, .slice a own.length c] 28 (0, 0)) := (k2.block _ (by rw [s1]; omega) (by simp)).trans (by rw [← hw1]; exact World.alloc_heap_new w _)
  have b2 : w2.heap[w.heap.size + 1]? = some (.cells #[.int .i64 ep, .int .i64 nd, .slice b own.length d] 28 (0, 0)) := by rw [← hw2, ← s1]; exact World.alloc_heap_new w1 _
  obtain ⟨c0, c1, c2, c3⟩ := TbFacts b1
  obtain ⟨d0, d1, d2, d3⟩ := TbFacts b2
  have HK := Lib.hid (k1.trans k2)
  have HE := Lib.hid (equalI_any (w := w2) c d (ha.keep (k1.trans k2) (by simp)) (hb.keep (k1.trans k2) (by simp)) (by omega) (by omega))
  clear ha hb b1 b2 k1 k2
  go_enter Tryz.func24, Tryz.ntmps24
  go_wp2_with (fail)
  refine HE.out.mono ?_
  rintro e w3 ⟨rfl, hk3⟩
  have HK3 := Lib.hid (HK.out.trans hk3)
  clear hk3
  simp only [decide_true]
  go_wp2_with (fail)
  go_ret
  exact ⟨rfl, HK3.out⟩
def findMo (n : Int) (l : List Mo) : Option Mo := l.find? fun x => decide (x.x.mv = n)
theorem findMo_snoc (n : Int) {l : List Mo} {j : Nat} {x : Mo} (h : l[j]? = some x) (hn : findMo n (l.take j) = none) : findMo n (l.take (j + 1)) = if x.x.mv = n then some x else none := by
  unfold findMo at hn ⊢
  have ht : l.take (j + 1) = l.take j ++ [x] := by rw [List.take_add_one, h]; rfl
  rw [ht, List.find?_append, hn]
  by_cases hm : x.x.mv = n <;> simp [hm]
theorem findMo_full (n : Int) {l : List Mo} {j : Nat} {x : Mo} (h : l[j]? = some x) (hn : findMo n (l.take j) = none) (hx : x.x.mv = n) : findMo n l = some x := by
  have e : l = l.take (j + 1) ++ l.drop (j + 1) := (List.take_append_drop _ _).symm
  have h1 := findMo_snoc n h hn
  rw [if_pos hx] at h1
  rw [e]
  unfold findMo at h1 ⊢
  rw [List.find?_append, h1]
  rfl
def FndP (w : World) (o : Option Mo) (e : Ending) (w' : World) : Prop := e = .returned (.tuple #[.agg #[.int .i64 (o.getD Mo.zero).x.mv, .int .i64 (o.getD Mo.zero).x.part, .int .i64 (o.getD Mo.zero).x.fr, .int .i64 (o.getD Mo.zero).x.to, .int .i64 (o.getD Mo.zero).s.st, .int .i64 (o.getD Mo.zero).s.dn], .bool o.isSome]) ∧ Keep [] w w'
structure SixAt (W : World) (g : Nat) (a b c d e f : Value) : Prop where
  blk : W.heap[g]? = some (.cells #[a, b, c, d, e, f] 56 (0, 0))
theorem SixAt.facts {W : World} {g : Nat} {a b c d e f : Value} (h : SixAt W g a b c d e f) : W.cell? ⟨g, 0, none⟩ = some a ∧ W.cell? ⟨g, 1, none⟩ = some b ∧ W.cell? ⟨g, 2, none⟩ = some c ∧ W.cell? ⟨g, 3, none⟩ = some d ∧ W.cell? ⟨g, 4, none⟩ = some e ∧ W.cell? ⟨g, 5, none⟩ = some f ∧ ∀ o, W.frozen? ⟨g, o, none⟩ = false := by
  have hb := h.blk
  refine ⟨?_, ?_, ?_, ?_, ?_, ?_, fun o => ?_⟩
  all_goals first | (unfold World.cell?; rw [hb]; rfl) | (unfold World.frozen?; rw [hb]; simp)
set_option maxRecDepth 100000 in
set_option maxHeartbeats 4000000 in
theorem find_any {base : Nat} {w : World} {v : Value} {l : List Mo} (hl : MoRow base w v l) (hlen : l.length ≤ 100000) (n : Int) : Calls Tryz.prog 26 #[v, .int .i64 n] w (FndP w (findMo n l)) := by
  obtain ⟨w1, hw1⟩ : ∃ u, w.alloc (.cells #[.int .i64 0, .int .i64 0, .int .i64 0, .int .i64 0, .int .i64 0, .int .i64 0] 56) = u := ⟨_, rfl⟩
  have k1 : Keep [] w w1 := by rw [← hw1]; exact (Keep.refl _ _).alloc _
  have b1 : SixAt w1 w.heap.size (.int .i64 0) (.int .i64 0) (.int .i64 0) (.int .i64 0) (.int .i64 0) (.int .i64 0) := ⟨by rw [← hw1]; exact World.alloc_heap_new w _⟩
  have HR := Lib.hid (hl.keep k1 (by simp))
  have HB := Lib.hid b1
  have HK := Lib.hid k1
  obtain ⟨av, cv, rfl, _⟩ := own_shape hl
  obtain ⟨nl, hnl⟩ : ∃ nl, l.length = nl := ⟨_, rfl⟩
  have HNL := Lib.hid hnl
  have hbl := lt_of_heap b1.blk
  rw [hnl] at HR hlen ⊢
  clear hl k1 hnl b1
  go_enter Tryz.func26, Tryz.ntmps26
  go_wp2_with (fail)
  go_loopw [6] (fun i wr => ∃ j : Nat, i = .int .i64 j ∧ j ≤ nl ∧ findMo n (l.take j) = none ∧ wr = w1) (fun i _ => nl - (intOf i).toNat)
  case atStart => exact ⟨0, rfl, Nat.zero_le _, rfl, rfl⟩
  case round =>
    obtain ⟨j, rfl, hj, hno, hwr⟩ := hrel
    rw [hwr]
    clear hwr
    have h0j : (0 : Int) ≤ (j : Int) := Int.natCast_nonneg j
    by_cases hlt : j < nl
    · have hjn : (j : Int) < (nl : Int) := by omega
      have hlj : j < l.length := by rw [HNL.out]; exact hlt
      obtain ⟨x, hx⟩ : ∃ x, l[j]? = some x := ⟨l[j], List.getElem?_eq_getElem hlj⟩
      have hne : l ≠ [] := by intro e; rw [e] at hlj; simp at hlj
      have hr := HR.out
      rw [← HNL.out] at hr
      obtain ⟨g, c', hv', hg0, hg1, _, hcell⟩ := rows_at Mo.len hr hne
      simp only [Value.slice.injEq] at hv'
      obtain ⟨rfl, -, rfl⟩ := hv'
      have x0 := hcell j 0 _ hx (by omega)
      have x1 := hcell j 1 _ hx (by omega)
      have x2 := hcell j 2 _ hx (by omega)
      have x3 := hcell j 3 _ hx (by omega)
      have x4 := hcell j 4 _ hx (by omega)
      have x5 := hcell j 5 _ hx (by omega)
      have hsn := findMo_snoc n hx hno
      have hfu := fun h => findMo_full n hx hno h
      obtain ⟨⟨m1, m2, m3, m4⟩, ⟨st, dn⟩⟩ := x
      simp only [Mo.cells, List.getElem?_cons_zero, List.getElem?_cons_succ, Nat.add_zero] at x0 x1 x2 x3 x4 x5
      simp only at hsn hfu
      have HSN := Lib.hid hsn
      by_cases hm : m1 = n
      · have HF := Lib.hid (hfu hm)
        subst hm
        obtain ⟨z0, z1, z2, z3, z4, z5, z6⟩ := HB.out.facts
        clear hsn hfu hcell hr hno hx
        go_wp2_with (fail)
        obtain ⟨W3, hW3⟩ : ∃ u, ((((((w1.setCell ⟨w.heap.size, 0, none⟩ (.int .i64 m1)).setCell ⟨w.heap.size, 1, none⟩ (.int .i64 m2)).setCell ⟨w.heap.size, 2, none⟩ (.int .i64 m3)).setCell ⟨w.heap.size, 3, none⟩ (.int .i64 m4)).setCell ⟨w.heap.size, 4, none⟩ (.int .i64 st)).setCell ⟨w.heap.size, 5, none⟩ (.int .i64 dn)) = u := ⟨_, rfl⟩
        have hks : Keep [w.heap.size] w1 W3 := by
          rw [← hW3]
          exact ((((((Keep.refl _ _).setCell _ _ _ (.inl (by simp))).setCell _ _ _ (.inl (by simp))).setCell _ _ _ (.inl (by simp))).setCell _ _ _ (.inl (by simp))).setCell _ _ _ (.inl (by simp))).setCell _ _ _ (.inl (by simp))
        have hfin : W3.heap[w.heap.size]? = some (.cells #[.int .i64 m1, .int .i64 m2, .int .i64 m3, .int .i64 m4, .int .i64 st, .int .i64 dn] 56 (0, 0)) := by
          have h := HB.out.blk
          rw [← hW3]
          simp [World.setCell, Array.getElem?_modify, h]
        rw [hW3]
        have hlv := run_loadVar_row (P := Tryz.prog) W3 w.heap.size 56 56 _ (0, 0) _ hfin Tryz.underlying56 rfl (by kernel_rfl)
        refine bodyPost_ret (v := .tuple #[.agg #[.int .i64 m1, .int .i64 m2, .int .i64 m3, .int .i64 m4, .int .i64 st, .int .i64 dn], .bool true]) (by rw [results_cell_tmp rfl]; show ((loadVar 56 ⟨w.heap.size, 0, none⟩).run Tryz.prog W3).andThen (fun v w₂ => Result.ok (Value.tuple #[v, .bool true]) w₂) = _; rw [hlv]; rfl) rfl ?_
        rw [HF.out]
        exact ⟨rfl, HK.out.step hks (by simp)⟩
      · have hmg : ((m1 : Int) == n) = false := by simpa using hm
        clear hsn hfu hcell hr hno hx
        go_wp2_with (fail)
        go_roundw
        case rel => exact ⟨j + 1, by go_num, by omega, by rw [HSN.out, if_neg hm], trivial⟩
        case measure => go_light; simp [intOf]; omega
    · have hjn : ¬ (j : Int) < (nl : Int) := by omega
      have HF : Hid (findMo n l = none) := Lib.hid (by rw [show j = l.length from by have := HNL.out; omega, List.take_length] at hno; exact hno)
      obtain ⟨z0, z1, z2, z3, z4, z5, z6⟩ := HB.out.facts
      clear hno
      go_wp2_with (fail)
      obtain ⟨W3, hW3⟩ : ∃ u, ((((((w1.setCell ⟨w.heap.size, 0, none⟩ (.int .i64 0)).setCell ⟨w.heap.size, 1, none⟩ (.int .i64 0)).setCell ⟨w.heap.size, 2, none⟩ (.int .i64 0)).setCell ⟨w.heap.size, 3, none⟩ (.int .i64 0)).setCell ⟨w.heap.size, 4, none⟩ (.int .i64 0)).setCell ⟨w.heap.size, 5, none⟩ (.int .i64 0)) = u := ⟨_, rfl⟩
      have hks : Keep [w.heap.size] w1 W3 := by
        rw [← hW3]
        exact ((((((Keep.refl _ _).setCell _ _ _ (.inl (by simp))).setCell _ _ _ (.inl (by simp))).setCell _ _ _ (.inl (by simp))).setCell _ _ _ (.inl (by simp))).setCell _ _ _ (.inl (by simp))).setCell _ _ _ (.inl (by simp))
      have hfin : W3.heap[w.heap.size]? = some (.cells #[.int .i64 0, .int .i64 0, .int .i64 0, .int .i64 0, .int .i64 0, .int .i64 0] 56 (0, 0)) := by
        have h := HB.out.blk
        rw [← hW3]
        simp [World.setCell, Array.getElem?_modify, h]
      rw [hW3]
      have hlv := run_loadVar_row (P := Tryz.prog) W3 w.heap.size 56 56 _ (0, 0) _ hfin Tryz.underlying56 rfl (by kernel_rfl)
      refine bodyPost_ret (v := .tuple #[.agg #[.int .i64 0, .int .i64 0, .int .i64 0, .int .i64 0, .int .i64 0, .int .i64 0], .bool false]) (by rw [results_cell_tmp rfl]; show ((loadVar 56 ⟨w.heap.size, 0, none⟩).run Tryz.prog W3).andThen (fun v w₂ => Result.ok (Value.tuple #[v, .bool false]) w₂) = _; rw [hlv]; rfl) rfl ?_
      rw [HF.out]
      exact ⟨rfl, HK.out.step hks (by simp)⟩
set_option maxRecDepth 100000 in
set_option maxHeartbeats 4000000 in
theorem packets_true {b1 b2 : Nat} {w : World} {v u : Value} {l : List Pk} (hv : PRow b1 w v l) (hu : PRow b2 w u l) (hlen : l.length ≤ 100000) : Calls Tryz.prog 25 #[v, u] w fun e w' => e = .returned (.bool true) ∧ Keep [] w w' := by
  have HV := Lib.hid hv
  have HU := Lib.hid hu
  obtain ⟨av, cv, rfl, _⟩ := own_shape hv
  obtain ⟨au, cu, rfl, _⟩ := own_shape hu
  obtain ⟨nl, hnl⟩ : ∃ nl, l.length = nl := ⟨_, rfl⟩
  have HNL := Lib.hid hnl
  rw [hnl] at HV HU hlen ⊢
  clear hv hu hnl
  go_enter Tryz.func25, Tryz.ntmps25
  go_wp2_with (fail)
  go_loopw [5] (fun i wr => ∃ j : Nat, i = .int .i64 j ∧ j ≤ nl ∧ Keep [] w wr) (fun i _ => nl - (intOf i).toNat)
  case atStart => exact ⟨0, rfl, Nat.zero_le _, Keep.refl _ _⟩
  case round =>
    obtain ⟨j, rfl, hj, hk0⟩ := hrel
    have HKR := Lib.hid hk0
    have h0j : (0 : Int) ≤ (j : Int) := Int.natCast_nonneg j
    by_cases hlt : j < nl
    · have hjn : (j : Int) < (nl : Int) := by omega
      have hlj : j < l.length := by rw [HNL.out]; exact hlt
      obtain ⟨x, hx⟩ : ∃ x, l[j]? = some x := ⟨l[j], List.getElem?_eq_getElem hlj⟩
      have hne : l ≠ [] := by intro e; rw [e] at hlj; simp at hlj
      have hrv := HV.out
      have hru := HU.out
      rw [← HNL.out] at hrv hru
      obtain ⟨ga, ca, hv', hg0, hg1, _, hcell⟩ := rows_at Pk.len (PRow.keep hrv hk0 (by simp)) hne
      obtain ⟨gb, cb, hu', hh0, hh1, _, hcel2⟩ := rows_at Pk.len (PRow.keep hru hk0 (by simp)) hne
      simp only [Value.slice.injEq] at hv' hu'
      obtain ⟨rfl, -, rfl⟩ := hv'
      obtain ⟨rfl, -, rfl⟩ := hu'
      have x0 := hcell j 0 _ hx (by omega)
      have x1 := hcell j 1 _ hx (by omega)
      have x2 := hcell j 2 _ hx (by omega)
      have y0 := hcel2 j 0 _ hx (by omega)
      have y1 := hcel2 j 1 _ hx (by omega)
      have y2 := hcel2 j 2 _ hx (by omega)
      obtain ⟨to, dt⟩ := x
      simp only [Pk.cells, List.getElem?_cons_zero, List.getElem?_cons_succ, Nat.add_zero] at x0 x1 x2 y0 y1 y2
      obtain ⟨ds, hds⟩ : ∃ ds : ByteArray, ⟨dt.toArray⟩ = ds := ⟨_, rfl⟩
      rw [hds] at x2 y2
      have HX0 := Lib.hid x0
      have HX1 := Lib.hid x1
      have HX2 := Lib.hid x2
      have HY0 := Lib.hid y0
      have HY1 := Lib.hid y1
      have HY2 := Lib.hid y2
      have HGA := Lib.hid hg1
      have HGB := Lib.hid hh1
      clear hrv hru hcell hcel2 hx x0 x1 x2 y0 y1 y2 hds hk0 hne
      go_wp2_with (fail)
      refine wp_region_soup 8 [] (fun _ => none) (by kernel_rfl) (by kernel_rfl) (spOk_of (l := []) (by simp)) (pre_of (l := []) (by simp)) ?_
      simp only [List.take_succ_cons, List.take_zero, List.drop_succ_cons, List.drop_zero]
      with_reducible refine soup_q ?_ ?_ ?_
      · rfl
      · rfl
      with_reducible apply Exists.intro
      with_reducible refine ⟨fun W hk _ => ?_, ?_⟩
      · unfold Oper.same
        go_simp
        first | rfl | exact ⟨rfl, rfl⟩
      with_reducible apply Exists.intro
      with_reducible refine ⟨?_, ?_⟩
      · go_simp
        rfl
      with_reducible refine soup_q ?_ ?_ ?_
      · rfl
      · rfl
      with_reducible apply Exists.intro
      with_reducible refine ⟨fun W hk _ => ?_, ?_⟩
      · unfold Oper.same
        go_simp
        first | rfl | exact ⟨rfl, rfl⟩
      with_reducible apply Exists.intro
      with_reducible refine ⟨?_, ?_⟩
      · go_simp
        rfl
      with_reducible refine soup_q ?_ ?_ ?_
      · rfl
      · rfl
      with_reducible apply Exists.intro
      with_reducible refine ⟨fun W hk _ => ?_, ?_⟩
      · unfold Oper.same
        go_simp
        first | rfl | exact ⟨rfl, rfl⟩
      with_reducible apply Exists.intro
      with_reducible refine ⟨?_, ?_⟩
      · go_simp
        rfl
      with_reducible refine soup_q ?_ ?_ ?_
      · rfl
      · rfl
      with_reducible apply Exists.intro
      with_reducible refine ⟨fun W hk _ => ?_, ?_⟩
      · have q0 := (hk.cell _ HGA.out (by simp)).trans HX0.out
        have q1 := (hk.cell _ HGA.out (by simp)).trans HX1.out
        have q2 := (hk.cell _ HGA.out (by simp)).trans HX2.out
        unfold Oper.same
        go_simp
        first | rfl | exact ⟨rfl, rfl⟩
      with_reducible apply Exists.intro
      with_reducible refine ⟨?_, ?_⟩
      · go_simp
        rfl
      with_reducible refine soup_q ?_ ?_ ?_
      · rfl
      · rfl
      with_reducible apply Exists.intro
      with_reducible refine ⟨fun W hk _ => ?_, ?_⟩
      · unfold Oper.same
        go_simp
        first | rfl | exact ⟨rfl, rfl⟩
      with_reducible apply Exists.intro
      with_reducible refine ⟨?_, ?_⟩
      · go_simp
        rfl
      with_reducible refine soup_q ?_ ?_ ?_
      · rfl
      · rfl
      with_reducible apply Exists.intro
      with_reducible refine ⟨fun W hk _ => ?_, ?_⟩
      · unfold Oper.same
        go_simp
        first | rfl | exact ⟨rfl, rfl⟩
      with_reducible apply Exists.intro
      with_reducible refine ⟨?_, ?_⟩
      · go_simp
        rfl
      with_reducible refine soup_q ?_ ?_ ?_
      · rfl
      · rfl
      with_reducible apply Exists.intro
      with_reducible refine ⟨fun W hk _ => ?_, ?_⟩
      · unfold Oper.same
        go_simp
        first | rfl | exact ⟨rfl, rfl⟩
      with_reducible apply Exists.intro
      with_reducible refine ⟨?_, ?_⟩
      · go_simp
        rfl
      with_reducible refine soup_q ?_ ?_ ?_
      · rfl
      · rfl
      with_reducible apply Exists.intro
      with_reducible refine ⟨fun W hk _ => ?_, ?_⟩
      · have q0 := (hk.cell _ HGB.out (by simp)).trans HY0.out
        have q1 := (hk.cell _ HGB.out (by simp)).trans HY1.out
        have q2 := (hk.cell _ HGB.out (by simp)).trans HY2.out
        unfold Oper.same
        go_simp
        first | rfl | exact ⟨rfl, rfl⟩
      with_reducible apply Exists.intro
      with_reducible refine ⟨?_, ?_⟩
      · go_simp
        rfl
      refine soup_nil (fun W hk hS => ?_)
      have HKW := Lib.hid (HKR.out.trans hk)
      clear hk hS
      go_wp2_with (fail)
      go_roundw
      case rel => exact ⟨j + 1, by go_num, by omega, HKW.out⟩
      case measure => go_light; simp [intOf]; omega
    · have hjn : ¬ (j : Int) < (nl : Int) := by omega
      go_wp2_with (fail)
      go_ret
      exact ⟨rfl, HKR.out⟩
set_option linter.unusedSimpArgs false
set_option linter.unusedVariables false
theorem findMo_moves (c : Cd) (mv : Int) : findMo mv (movesF c) = (findMv mv (c.m.map (·.2))).map fun x => ⟨x, atOf x.mv c.at_⟩ := by
  unfold findMo movesF findMv
  rw [List.find?_map]
  rfl
/-- Is it what a move's own side says? -/
def ownF (l : List Mo) (k : Nat) (mv pt fr : Int) : Bool :=
  match findMo mv l with
  | none => false
  | some x => decide (x.x.part = pt) && ((decide (k = 10) && decide (x.s.st = 1) && decide (fr = x.x.to)) || (decide (k = 13) && decide (x.s.st ≠ 1) && ((decide (fr = x.x.fr) && decide (x.s.dn ≠ 1)) || (decide (fr = x.x.to) && decide (x.s.dn ≠ 2)))))
theorem dn_cases {d : Nat} (h : d ≤ 2) : d = 0 ∨ d = 1 ∨ d = 2 := by omega
/-- The same state for what is asked of it. -/
structure CdLike (c c' : Cd) : Prop where
  ep : c'.ep = c.ep
  nd : c'.nd = c.nd
  own : c'.own = c.own
  m : c'.m = c.m
  at_ : ∀ j, atOf j c'.at_ = atOf j c.at_
theorem CdLike.refl (c : Cd) : CdLike c c := ⟨rfl, rfl, rfl, rfl, fun _ => rfl⟩
theorem CdLike.moves {c c' : Cd} (h : CdLike c c') : movesF c' = movesF c := by
  unfold movesF
  rw [h.m]
  exact List.map_congr_left fun x _ => by rw [h.at_]
theorem CdLike.tick {c c' : Cd} (h : CdLike c c') : tickF c' = tickF c := by
  have e1 : ∀ x s, tickOf c' x s = tickOf c x s := fun x s => by
    unfold tickOf m11
    rw [h.ep, h.nd, h.own]
  have e2 : ∀ n, newsOf c' n = newsOf c n := fun n => by
    unfold newsOf m14
    rw [h.ep, h.nd, h.own]
  have e3 : (fun x => tickOf c' x (atOf x.mv c'.at_)) = fun x => tickOf c x (atOf x.mv c.at_) := funext fun x => by rw [e1, h.at_]
  unfold tickF
  rw [h.m, h.nd, e3]
  simp only [e2]
theorem deaf_pure {n s k : Nat} {c : Cd} (h : CdInv n s k c) (kd : Nat) (mv pt fr code : Int) : (coHandle c fr kd mv pt code).1 = ownF (movesF c) kd mv pt fr ∧ (ownF (movesF c) kd mv pt fr = false → CdLike c (coHandle c fr kd mv pt code).2) := by
  unfold ownF coHandle
  rw [findMo_moves]
  cases hx : findMv mv (c.m.map (·.2)) with
  | none => exact ⟨rfl, fun _ => CdLike.refl c⟩
  | some x =>
    obtain ⟨q, hq, rfl, _⟩ := findMv_mem hx
    have e := h.mem q hq
    simp only [Option.map_some]
    by_cases hp : q.2.part = pt
    · rw [if_neg (by simp [hp])]
      by_cases h10 : kd = 10
      · subst h10
        by_cases hst : (atOf q.2.mv c.at_).st = 1
        · by_cases hf : fr = q.2.to
          · rw [if_pos ⟨rfl, hst, hf⟩]
            simp [hp, hst, hf]
          · rw [if_neg (by simp [hf]), if_neg (by simp)]
            simp [hf]
            exact CdLike.refl c
        · rw [if_neg (by simp [hst]), if_neg (by simp)]
          simp [hst]
          exact CdLike.refl c
      · rw [if_neg (by simp [h10])]
        by_cases h13 : kd = 13
        · subst h13
          by_cases hst : (atOf q.2.mv c.at_).st = 1
          · rw [if_neg (by simp [hst])]
            simp [hst]
            exact CdLike.refl c
          · rw [if_pos ⟨rfl, hst⟩]
            have hne := e.ne
            have hfin : dnF q.2 fr (atOf q.2.mv c.at_).dn = (atOf q.2.mv c.at_).dn → CdLike c (coDone c q.2 fr).2 := by
              intro hd
              unfold coDone
              rw [hd, if_neg (by have := e.dn; omega)]
              refine ⟨rfl, rfl, rfl, rfl, fun j => ?_⟩
              simp only
              rw [atOf_put]
              split
              · rename_i hj; rw [hj]
              · rfl
            have hd1 : (coDone c q.2 fr).1 = decide (dnF q.2 fr (atOf q.2.mv c.at_).dn ≠ (atOf q.2.mv c.at_).dn) := rfl
            rw [hd1]
            generalize hD : (atOf q.2.mv c.at_).dn = d at *
            have hd2 := e.dn
            rw [hD] at hd2
            unfold dnF at hfin ⊢
            by_cases hf : fr = q.2.fr
            · have hft : ¬ fr = q.2.to := fun e2 => hne (hf.symm.trans e2)
              rw [if_pos hf] at hfin ⊢
              rcases dn_cases hd2 with rfl | rfl | rfl
              · simp [hp, hst, hf]
              · simp [hp, hst, hf, hne]
                exact hf ▸ hfin rfl
              · simp [hp, hst, hf]
            · rw [if_neg hf] at hfin ⊢
              by_cases hft : fr = q.2.to
              · rw [if_pos hft] at hfin ⊢
                rcases dn_cases hd2 with rfl | rfl | rfl
                · simp [hp, hst, hft]
                · simp [hp, hst, hft]
                · simp [hp, hst, hft, Ne.symm hne]
                  exact hft ▸ hfin rfl
              · rw [if_neg hft] at hfin ⊢
                simp [hf, hft]
                exact hfin rfl
        · rw [if_neg (by simp [h13])]
          simp [h10, h13]
          exact CdLike.refl c
    · rw [if_pos hp]
      simp [hp]
      exact CdLike.refl c
/-! Guarded operations. -/
section
variable {P : Program} {ops : Array Oper} {rest : List Oper} {o : Oper} {a : Act} {w : World} {Q : Exit → Act → World → Prop}
theorem wpList_want (hw : Region.wanted o (yielded ops a.tmps) = true) (h : ∀ K : Act → World → Prop, (∀ a w, wpList P ops Q rest a w → K a w) → o.wp P a w K Q) : wpList P ops Q (o :: rest) a w := by
  unfold wpList
  rw [if_pos hw]
  exact .inl (h _ fun _ _ h => h)
theorem wpListG_load_row (hgd : Region.wanted o (yielded ops a.tmps) = true) (ty : TypeId) (x : Operand) (ho : o.op = .load ty x)
    (g : Nat) (hx : a.eval x = .pointer (some ⟨g, 0, none⟩)) (t : TypeId) (cs : Array Value) (fr : Nat × Nat) (d : TypeDesc) (hg : w.heap[g]? = some (.cells cs t fr))
    (hu : P.underlying ty = some d) (hd : (match d with | .struct _ | .array _ _ => true | _ => false) = true) (hi : (P.info? ty).map (·.size) = some cs.size)
    (h : wpList P ops Q rest (a.put o.dst (.agg cs)) w) : wpList P ops Q (o :: rest) a w :=
  wpList_want hgd fun _ hK => wp_load_row ty x ho g hx t cs fr d hg hu hd hi (hK _ _ h)
theorem wpListG_build (hgd : Region.wanted o (yielded ops a.tmps) = true) (ty : TypeId) (x : Operand) (ho : o.op = .build ty #[(4, x)]) (v : Value) (hx : a.eval x = v) (cells : Array Value) (hc : P.built ty [(4, v)] = some cells)
    (h : wpList P ops Q rest (a.put o.dst (.agg cells)) w) : wpList P ops Q (o :: rest) a w :=
  wpList_want hgd fun _ hK => by
    unfold Oper.wp execOp
    subst hx
    simp only [ho, Sem.run_bind, run_build w ty #[(4, a.eval x)] cells hc, Result.andThen_ok, List.map_toArray, List.map_cons, List.map_nil]
    exact hK _ _ h
theorem wpListG_slice (hgd : Region.wanted o (yielded ops a.tmps) = true) (ty : TypeId) (x : Operand) (ho : o.op = .buildSlice ty 1 #[(0, x)]) (v : Value) (hx : a.eval x = v) (u : Value) (w' : World) (hr : (Instr.buildSlice ty 1 #[(0, v)]).run P w = .ok u w')
    (h : wpList P ops Q rest (a.put o.dst u) w') : wpList P ops Q (o :: rest) a w :=
  wpList_want hgd fun _ hK => by
    unfold Oper.wp execOp
    subst hx
    simp only [ho, Sem.run_bind, hr, Result.andThen_ok, List.map_toArray, List.map_cons, List.map_nil]
    exact hK _ _ h
end
def Ac.of (ms : List Value) (k : Nat) (mv pt cd : Int) : Ac := ⟨0, 0, 0, 0, ms, k, mv, pt, cd, 0, 0⟩
theorem built_act0 (v0 v1 v2 v3 v4 v5 v6 v7 v8 v9 v10 v11 v12 v13 v14 v15 v16 v17 v18 v19 v20 v21 : Value) : Tryz.prog.built 60 [(4, .agg #[v0, v1, v2, v3, v4, v5, v6, v7, v8, v9, v10, v11, v12, v13, v14, v15, v16, v17, v18, v19, v20, v21])] = some #[.int .i64 0, .int .i64 0, .int .i64 0, .int .i64 0, v0, v1, v2, v3, v4, v5, v6, v7, v8, v9, v10, v11, v12, v13, v14, v15, v16, v17, v18, v19, v20, v21, .int .i64 0, .int .i64 0] := by kernel_rfl
theorem built_act {ms : List Value} (h : ms.length = 22) (k : Nat) (mv pt cd : Int) : Tryz.prog.built 60 [(4, .agg ms.toArray)] = some (Ac.of ms k mv pt cd).cells.toArray := by
  match ms, h with
  | [v0, v1, v2, v3, v4, v5, v6, v7, v8, v9, v10, v11, v12, v13, v14, v15, v16, v17, v18, v19, v20, v21], _ => exact built_act0 v0 v1 v2 v3 v4 v5 v6 v7 v8 v9 v10 v11 v12 v13 v14 v15 v16 v17 v18 v19 v20 v21
theorem slice_act0 (v0 v1 v2 v3 v4 v5 v6 v7 v8 v9 v10 v11 v12 v13 v14 v15 v16 v17 v18 v19 v20 v21 v22 v23 v24 v25 v26 v27 : Value) (W : World) : (Instr.buildSlice 51 1 #[(0, .agg #[v0, v1, v2, v3, v4, v5, v6, v7, v8, v9, v10, v11, v12, v13, v14, v15, v16, v17, v18, v19, v20, v21, v22, v23, v24, v25, v26, v27])]).run Tryz.prog W = .ok (.slice (some ⟨W.heap.size, 0, none⟩) 1 1) (W.alloc (.cells #[v0, v1, v2, v3, v4, v5, v6, v7, v8, v9, v10, v11, v12, v13, v14, v15, v16, v17, v18, v19, v20, v21, v22, v23, v24, v25, v26, v27] 60)) := by kernel_rfl
theorem slice_act {cs : List Value} (h : cs.length = 28) (W : World) : (Instr.buildSlice 51 1 #[(0, .agg cs.toArray)]).run Tryz.prog W = .ok (.slice (some ⟨W.heap.size, 0, none⟩) 1 1) (W.alloc (.cells cs.toArray 60)) := by
  match cs, h with
  | [v0, v1, v2, v3, v4, v5, v6, v7, v8, v9, v10, v11, v12, v13, v14, v15, v16, v17, v18, v19, v20, v21, v22, v23, v24, v25, v26, v27], _ => exact slice_act0 v0 v1 v2 v3 v4 v5 v6 v7 v8 v9 v10 v11 v12 v13 v14 v15 v16 v17 v18 v19 v20 v21 v22 v23 v24 v25 v26 v27 W
theorem tn_right {n s : Nat} (hn1 : 1 ≤ n) (hn4 : n ≤ 4) (hs1 : 1 ≤ s) (hs8 : s ≤ 8) (a : Option Addr) (c : Nat) : (⟨1, n, a, c, tnL n s⟩ : Tb).right = true := by
  have hl := tnL_len n s
  unfold Tb.right
  simp only [hl, Bool.and_eq_true, decide_eq_true_eq, Bool.not_eq_true', List.any_eq_false]
  refine ⟨⟨⟨⟨⟨by omega, by omega⟩, by omega⟩, hs1⟩, hs8⟩, fun x hx => ?_⟩
  unfold tnL at hx
  obtain ⟨i, _, rfl⟩ := List.mem_map.1 hx
  have := Nat.mod_lt i (show 0 < n by omega)
  unfold outN
  simp
  omega
set_option linter.unusedSimpArgs false
set_option linter.unusedVariables false
theorem flat_le {α β : Type} {f : α → List β} {k : Nat} : ∀ (l : List α), (∀ x ∈ l, (f x).length ≤ k) → (l.flatMap f).length ≤ k * l.length
  | [], _ => by simp
  | x :: l, h => by
    have h1 := flat_le l fun y hy => h y (List.mem_cons_of_mem _ hy)
    have h2 := h x (List.mem_cons_self ..)
    rw [List.flatMap_cons, List.length_append, List.length_cons, Nat.mul_add]
    omega
theorem tickOf_le (c : Cd) (x : En) (s : St) : (tickOf c x s).length ≤ 2 := by
  unfold tickOf
  split
  · simp
  · split
    · rw [List.length_append]
      split <;> split <;> simp
    · rw [List.length_append]
      split <;> split <;> simp
theorem tick_len {c : Cd} (h : CdFine c) : (tickF c).length ≤ 1000 := by
  unfold tickF
  have h1 := flat_le (f := fun x => tickOf c x (atOf x.mv c.at_)) (k := 2) (c.m.map (·.2)) fun x _ => tickOf_le c x _
  have h2 := h.num
  have h3 := h.nd
  rw [List.length_map] at h1
  simp only [List.length_append, List.length_map, List.length_range]
  omega
theorem moves_len {c : Cd} (h : CdFine c) : (movesF c).length ≤ 400 := by
  unfold movesF
  rw [List.length_map, List.length_map]
  exact h.num
/-- Cells that may be written over. -/
structure Loose (w : World) (g n : Nat) : Prop where
  cell : ∀ o, o < n → ∃ v, w.cell? ⟨g, o, none⟩ = some v
  free : ∀ o, w.frozen? ⟨g, o, none⟩ = false
theorem Loose.set {w : World} {g n : Nat} (h : Loose w g n) (o : Nat) (v : Value) : Loose (w.setCell ⟨g, o, none⟩ v) g n :=
  ⟨fun k hk => by
    obtain ⟨u, hu⟩ := h.cell k hk
    exact cell?_setCell_some hu, fun k => (World.frozen?_setCell _ _ _ _).trans (h.free k)⟩
theorem Loose.keep {w w' : World} {X : List Nat} {g n : Nat} (h : Loose w g n) (hk : Keep X w w') (hl : g < w.heap.size) (hx : g ∉ X) : Loose w' g n :=
  ⟨fun o ho => by
    obtain ⟨u, hu⟩ := h.cell o ho
    exact ⟨u, (hk.cell o hl hx).trans hu⟩, fun o => (hk.frozen o hl hx).trans (h.free o)⟩
/-- A row's address, and that its cells may be written over. -/
def LooseRow (base : Nat) (W : World) (a : Option Addr) (m S : Nat) : Prop := m = 0 ∨ ∃ g, a = some ⟨g, 0, none⟩ ∧ base ≤ g ∧ g < W.heap.size ∧ Loose W g (m * S)
theorem loose_row {α : Type} {f : α → List Value} {S : Nat} (hS : ∀ x, (f x).length = S) {base : Nat} {W : World} {e : TypeId} {v : Value} {l : List α} (h : W.ownsRow base e S v l.length (l.flatMap f)) :
    ∃ a d m, v = .slice a m d ∧ m = l.length ∧ LooseRow base W a m S := by
  by_cases hl : l = []
  · obtain ⟨a, d, hv, _⟩ := own_shape h
    exact ⟨a, d, _, hv, rfl, .inl (by rw [hl]; rfl)⟩
  · obtain ⟨g, d, hv, h1, h2, h3, h4⟩ := rows_at hS h hl
    refine ⟨_, d, _, hv, rfl, .inr ⟨g, rfl, h1, h2, fun o ho => ?_, h3⟩⟩
    have hS0 : 0 < S := by
      rcases Nat.eq_zero_or_pos S with e | e
      · rw [e] at ho; omega
      · exact e
    have hi : o / S < l.length := Nat.div_lt_of_lt_mul (by rw [Nat.mul_comm]; exact ho)
    have hj : o % S < S := Nat.mod_lt _ hS0
    have h5 := h4 (o / S) (o % S) l[o / S] (List.getElem?_eq_getElem hi) hj
    rw [Nat.mul_comm, Nat.div_add_mod] at h5
    exact ⟨_, h5.trans (List.getElem?_eq_getElem (by rw [hS]; exact hj))⟩
theorem LooseRow.pos {base : Nat} {W : World} {a : Option Addr} {m S : Nat} (h : LooseRow base W a m S) (hm : 0 < m) : ∃ g, a = some ⟨g, 0, none⟩ ∧ base ≤ g ∧ g < W.heap.size ∧ Loose W g (m * S) := by
  rcases h with e | e
  · omega
  · exact e
theorem LooseRow.mono {base b' : Nat} {W : World} {a : Option Addr} {m S : Nat} (h : LooseRow base W a m S) (hb : b' ≤ base) : LooseRow b' W a m S := by
  rcases h with e | ⟨g, h1, h2, h3⟩
  · exact .inl e
  · exact .inr ⟨g, h1, Nat.le_trans hb h2, h3⟩
theorem LooseRow.keep {base : Nat} {W W' : World} {a : Option Addr} {m S : Nat} (h : LooseRow base W a m S) (hk : Keep [] W W') : LooseRow base W' a m S := by
  rcases h with e | ⟨g, h1, h2, h3, h4⟩
  · exact .inl e
  · exact .inr ⟨g, h1, h2, Nat.lt_of_lt_of_le h3 hk.size, h4.keep hk h3 (by simp)⟩
set_option linter.unusedSimpArgs false
set_option linter.unusedVariables false
/-- An answer to a message. -/
def ansF (c : Cd) (to : Int) (m : Mg) : Cd :=
  if m.k = 4 then (coHandle c m.to 10 m.mv m.pt 1).2 else if m.k = 11 ∨ m.k = 12 then (coHandle c to 13 m.mv m.pt 0).2 else c
def ansL (c : Cd) (l : List (Int × Mg)) : Cd := l.foldl (fun c p => ansF c p.1 p.2) c
def tickOfM (c : Cd) (x : En) (s : St) : List (Int × Mg) :=
  if s.st = 1 then [(x.fr, m4 x)]
  else if s.st = 2 then (if s.dn = 2 then [(x.fr, m11 c x)] else []) ++ (if s.dn = 0 ∨ s.dn = 1 then [(x.to, m11 c x)] else [])
  else (if s.dn = 0 ∨ s.dn = 2 then [(x.fr, m12 x)] else []) ++ (if s.dn = 0 ∨ s.dn = 1 then [(x.to, m12 x)] else [])
def newsM (c : Cd) : List (Int × Mg) := ((List.range c.nd.toNat).map fun (n : Nat) => ((n : Int), m14 c)) ++ ((List.range 4).map fun (n : Nat) => ((4 + n : Int), m14 c))
def tickM (c : Cd) : List (Int × Mg) := ((c.m.map (·.2)).flatMap fun x => tickOfM c x (atOf x.mv c.at_)) ++ newsM c
def pkOf (p : Int × Mg) : Pk := ⟨p.1, frameB p.2.enc⟩
theorem tickOf_map (c : Cd) (x : En) (s : St) : tickOf c x s = (tickOfM c x s).map pkOf := by
  unfold tickOf tickOfM
  split
  · rfl
  · split
    · rw [List.map_append]
      congr 1 <;> split <;> rfl
    · rw [List.map_append]
      congr 1 <;> split <;> rfl
theorem tick_map (c : Cd) : tickF c = (tickM c).map pkOf := by
  unfold tickF tickM newsM
  rw [List.map_append, List.map_append, List.map_flatMap, List.append_assoc]
  congr 1
  · simp only [tickOf_map]
  · congr 1 <;> (rw [List.map_map]; rfl)
theorem tickM_len {c : Cd} (h : CdFine c) : (tickM c).length ≤ 1000 := by
  have := tick_len h
  rw [tick_map, List.length_map] at this
  exact this
/-- All that goes out is a message. -/
theorem tickM_ok {c : Cd} (h : CdFine c) : ∀ p ∈ tickM c, p.2.Ok := by
  have h14 : (m14 c).Ok := by
    refine ⟨.inr (.inr (.inr ⟨rfl, rfl, rfl, rfl⟩)), Nat.zero_le _, Nat.zero_le _, Nat.zero_le _, ?_, ?_, h.len, h.own⟩
    · have := h.ep; show c.ep.toNat ≤ _; omega
    · have := h.nd; show c.nd.toNat ≤ _; omega
  intro p hp
  unfold tickM newsM at hp
  simp only [List.mem_append, List.mem_flatMap, List.mem_map, List.mem_range] at hp
  rcases hp with ⟨x, hx, hp⟩ | ⟨_, _, rfl⟩ | ⟨_, _, rfl⟩
  · have hb := h.mem x (by simpa using hx)
    have h4 : (m4 x).Ok := ⟨.inl ⟨rfl, rfl, rfl, rfl⟩, by show x.mv.toNat ≤ _; omega, by show x.part.toNat ≤ _; omega, by show x.to.toNat ≤ _; omega, Nat.zero_le _, Nat.zero_le _, Nat.zero_le _, fun y hy => by cases hy⟩
    have h12 : (m12 x).Ok := ⟨.inr (.inl ⟨rfl, rfl, rfl, rfl, rfl⟩), by show x.mv.toNat ≤ _; omega, by show x.part.toNat ≤ _; omega, Nat.zero_le _, Nat.zero_le _, Nat.zero_le _, Nat.zero_le _, fun y hy => by cases hy⟩
    have h11 : (m11 c x).Ok := by
      refine ⟨.inr (.inr (.inl ⟨rfl, rfl⟩)), by show x.mv.toNat ≤ _; omega, by show x.part.toNat ≤ _; omega, Nat.zero_le _, ?_, ?_, h.len, h.own⟩
      · have := h.ep; show c.ep.toNat ≤ _; omega
      · have := h.nd; show c.nd.toNat ≤ _; omega
    unfold tickOfM at hp
    split at hp
    · simp only [List.mem_singleton] at hp
      rw [hp]; exact h4
    · split at hp
      · rw [List.mem_append] at hp
        rcases hp with hp | hp <;> (split at hp <;> simp only [List.mem_singleton, List.not_mem_nil] at hp; try (rw [hp]; exact h11))
      · rw [List.mem_append] at hp
        rcases hp with hp | hp <;> (split at hp <;> simp only [List.mem_singleton, List.not_mem_nil] at hp; try (rw [hp]; exact h12))
  · exact h14
  · exact h14
theorem CdInv.ans {n s k : Nat} {c : Cd} (h : CdInv n s k c) (to : Int) (m : Mg) : CdInv n s (k + 1) (ansF c to m) := by
  unfold ansF
  split
  · exact h.handle _ _ _ _ _
  · split
    · exact h.handle _ _ _ _ _
    · exact h.mono (by omega)
theorem handle_len (c : Cd) (fr : Int) (kd : Nat) (mv pt code : Int) : (coHandle c fr kd mv pt code).2.m.length ≤ c.m.length := by
  unfold coHandle
  split
  · exact Nat.le_refl _
  · split
    · exact Nat.le_refl _
    · split
      · unfold coReady
        split <;> exact Nat.le_refl _
      · split
        · unfold coDone
          split
          · exact List.length_filter_le _ _
          · exact Nat.le_refl _
        · exact Nat.le_refl _
theorem ans_len (c : Cd) (to : Int) (m : Mg) : (ansF c to m).m.length ≤ c.m.length := by
  unfold ansF
  split
  · exact handle_len _ _ _ _ _ _
  · split
    · exact handle_len _ _ _ _ _ _
    · exact Nat.le_refl _
theorem CdInv.ansL {n s : Nat} : ∀ (l : List (Int × Mg)) {k : Nat} {c : Cd}, CdInv n s k c → CdInv n s (k + l.length) (ansL c l) ∧ (ansL c l).m.length ≤ c.m.length
  | [], _, _, h => ⟨h, Nat.le_refl _⟩
  | p :: l, k, c, h => by
    have h1 := CdInv.ansL l (h.ans p.1 p.2)
    refine ⟨?_, Nat.le_trans h1.2 (ans_len _ _ _)⟩
    rw [List.length_cons, show k + (l.length + 1) = k + 1 + l.length by omega]
    exact h1.1
theorem ansL_snoc (c : Cd) (l : List (Int × Mg)) (p : Int × Mg) : ansL c (l ++ [p]) = ansF (ansL c l) p.1 p.2 := by
  unfold ansL
  rw [List.foldl_append]
  rfl
theorem ansL_append (c : Cd) (l m : List (Int × Mg)) : ansL c (l ++ m) = ansL (ansL c l) m := by
  unfold ansL
  rw [List.foldl_append]
theorem CdInv.mem2 {n s k : Nat} {c : Cd} (h : CdInv n s k c) (hk : k ≤ 100000) (hl : c.m.length ≤ 1000) : CdMem c := by
  have := h.cnt
  exact ⟨h.keys, h.ats, by omega, hl, h.ord, h.dn⟩
theorem CdInv.fine2 {n s k : Nat} {c : Cd} (h : CdInv n s k c) (hk : k ≤ 400) (hn : n ≤ 4) (hs : s ≤ 8) : CdFine c := by
  have h1 := h.cnt
  have h2 := h.ep
  have h3 := h.last
  refine ⟨fun x hx => ?_, by omega, by rw [h.nd]; omega, fun x hx => ?_, by rw [h.len]; omega, by omega, h.dn⟩
  · obtain ⟨q, hq, rfl⟩ := List.mem_map.1 hx
    have e := h.mem q hq
    have := e.mv
    have := e.part
    have := e.fr
    have := e.to
    omega
  · have := h.own x hx
    omega
theorem CdInv.fit {n s k k' : Nat} {c : Cd} (h : CdInv n s k c) (hl : c.last ≤ k') (he : c.ep ≤ k' + 1) (hc : c.com + c.abo + c.m.length ≤ k') : CdInv n s k' c := by
  have h1 := h.cnt
  have h2 := h.ep
  have h3 := h.last
  exact ⟨h.keys, h.ats, h.ord, ⟨h3.1, hl⟩, ⟨h2.1, he⟩, h.nd, h.len, h.own, ⟨h1.1, h1.2.1, hc⟩, h.mem, h.dn⟩
/-! Counting. -/
theorem cnt_del (p : Int × En → Bool) : ∀ {m : List (Int × En)} {q : Int × En}, (m.map (·.1)).Nodup → q ∈ m → m.countP p = (del q.1 m).countP p + if p q then 1 else 0
  | [], q, _, hq => by cases hq
  | a :: l, q, hn, hq => by
    rw [List.map_cons, List.nodup_cons] at hn
    by_cases e : q.1 = a.1
    · have hql : q ∉ l := fun h => hn.1 (e ▸ List.mem_map_of_mem h)
      have ea : q = a := by
        rcases List.mem_cons.1 hq with h | h
        · exact h
        · exact absurd h hql
      subst ea
      have hd : del q.1 (q :: l) = l := by
        unfold del
        rw [List.filter_cons_of_neg (by simp)]
        apply List.filter_eq_self.2
        intro r hr
        simp only [decide_eq_true_eq]
        exact fun e2 => hn.1 (e2 ▸ List.mem_map_of_mem hr)
      rw [hd, List.countP_cons]
    · have hql : q ∈ l := by
        rcases List.mem_cons.1 hq with h | h
        · rw [h] at e; exact absurd rfl e
        · exact h
      have ih := cnt_del p hn.2 hql
      have hd : del q.1 (a :: l) = a :: del q.1 l := by
        unfold del
        rw [List.filter_cons_of_pos (by simpa using e)]
      rw [hd, List.countP_cons, List.countP_cons, ih]
      omega
/-- How many of the moves under way are in such a state. -/
def cntF (f : St → Bool) (c : Cd) : Nat := c.m.countP fun r => f (atOf r.2.mv c.at_)
theorem cnt_set {n s k : Nat} {c c' : Cd} (h : CdInv n s k c) {q : Int × En} (hq : q ∈ c.m) {v : St} (hm : c'.m = c.m) (ha : ∀ j, atOf j c'.at_ = if j = q.2.mv then v else atOf j c.at_) (f : St → Bool) :
    cntF f c' + (if f (atOf q.2.mv c.at_) then 1 else 0) = cntF f c + if f v then 1 else 0 := by
  have e1 := cnt_del (fun r => f (atOf r.2.mv c.at_)) h.keys hq
  have e2 := cnt_del (fun r => f (atOf r.2.mv c'.at_)) h.keys hq
  have e3 : (del q.1 c.m).countP (fun r => f (atOf r.2.mv c'.at_)) = (del q.1 c.m).countP (fun r => f (atOf r.2.mv c.at_)) := by
    apply List.countP_congr
    intro r hr
    obtain ⟨h1, h2⟩ := mem_del.1 hr
    rw [ha, if_neg (fun e => h2 (by rw [h.inj h1 hq e]))]
  have e4 : atOf q.2.mv c'.at_ = v := by rw [ha, if_pos rfl]
  unfold cntF
  rw [hm, e2, e1, e3]
  simp only [e4]
  omega
theorem cnt_rem {n s k : Nat} {c c' : Cd} (h : CdInv n s k c) {q : Int × En} (hq : q ∈ c.m) (hm : c'.m = del q.1 c.m) (ha : ∀ j, j ≠ q.2.mv → atOf j c'.at_ = atOf j c.at_) (f : St → Bool) :
    cntF f c = cntF f c' + if f (atOf q.2.mv c.at_) then 1 else 0 := by
  have e1 := cnt_del (fun r => f (atOf r.2.mv c.at_)) h.keys hq
  have e3 : (del q.1 c.m).countP (fun r => f (atOf r.2.mv c'.at_)) = (del q.1 c.m).countP (fun r => f (atOf r.2.mv c.at_)) := by
    apply List.countP_congr
    intro r hr
    obtain ⟨h1, h2⟩ := mem_del.1 hr
    rw [ha _ (fun e => h2 (by rw [h.inj h1 hq e]))]
  unfold cntF
  rw [hm, e1, e3]
/-! The end of all moves. -/
def isP (v : St) : Bool := decide (v.st = 1)
def isL (v : St) : Bool := decide (v.st ≠ 3)
def isA (v : St) : Bool := decide (v.st = 3)
structure EndJ (n s : Nat) (U : List Mo) (A B : Int) (c : Cd) : Prop where
  inv : CdInv n s 400 c
  epb : c.ep + (cntF isP c : Nat) ≤ 401
  sub : ∀ q ∈ c.m, ∃ u ∈ U, u.x = q.2
  st : ∀ q ∈ c.m, ∀ u ∈ U, u.x = q.2 → (u.s.st = 3 ↔ (atOf q.2.mv c.at_).st = 3)
  done : ∀ u ∈ U, (∃ q ∈ c.m, q.2 = u.x) ∨ c.own[u.x.part.toNat]?.getD 0 = if u.s.st = 3 then u.x.fr else u.x.to
  com : c.com + (cntF isL c : Nat) = A
  abo : c.abo + (cntF isA c : Nat) = B
/-- Whose shards are their own. -/
def Apart (U : List Mo) : Prop := ∀ u ∈ U, 0 ≤ u.x.part ∧ ∀ u' ∈ U, u.x.part = u'.x.part → u.x = u'.x
theorem CdInv.right {n s k : Nat} {c : Cd} (h : CdInv n s k c) (hn : 1 ≤ n ∧ n ≤ 4) (hs : 1 ≤ s ∧ s ≤ 8) (oa : Option Addr) (oc : Nat) : (c.tb oa oc).right = true := by
  have h1 := h.ep
  have h2 := h.nd
  have h3 := h.len
  unfold Tb.right Cd.tb
  simp only [Bool.and_eq_true, decide_eq_true_eq, Bool.not_eq_true', List.any_eq_false]
  refine ⟨⟨⟨⟨⟨by omega, by omega⟩, by omega⟩, by omega⟩, by omega⟩, fun x hx => ?_⟩
  have := h.own x hx
  unfold outN
  simp
  omega
theorem CdInv.mayOk {n s k : Nat} {c : Cd} (h : CdInv n s k c) (hn : 1 ≤ n ∧ n ≤ 4) (hs : 1 ≤ s ∧ s ≤ 8) (hk : k ≤ 1000) {q : Int × En} (hq : q ∈ c.m) (hst : (atOf q.2.mv c.at_).st = 1) : (c.tb none 0).may q.2.part q.2.to = 0 := by
  have e := h.mem q hq
  have h1 := h.ep
  have h2 := h.nd
  have h3 := h.len
  have ho := e.own
  rw [hst, if_neg (by decide)] at ho
  have hr := h.right hn hs none 0
  have e1 := e.part
  have e2 := e.to
  unfold Tb.may
  rw [if_neg, if_neg, if_neg, if_neg]
  · show ¬ c.own[q.2.part.toNat]?.getD 0 = q.2.to
    rw [ho]
    exact e.ne
  · rintro (h0 | h0)
    · omega
    · have h4 : c.nd ≤ q.2.to := h0
      omega
  · rintro (h0 | h0)
    · omega
    · have h4 : (c.own.length : Int) ≤ q.2.part := h0
      omega
  · rintro (h0 | h0)
    · rw [hr] at h0
      cases h0
    · have h4 : 2147483647 ≤ c.ep := h0
      omega
theorem EndJ.ready {n s : Nat} {U : List Mo} {A B : Int} {c : Cd} (h : EndJ n s U A B c) (hU : Apart U) (hn : 1 ≤ n ∧ n ≤ 4) (hs : 1 ≤ s ∧ s ≤ 8) {q : Int × En} (hq : q ∈ c.m) (hst : (atOf q.2.mv c.at_).st = 1) :
    EndJ n s U A B (coReady c q.2 1) ∧ (coReady c q.2 1).m = c.m ∧ ∀ j, atOf j (coReady c q.2 1).at_ = if j = q.2.mv then ⟨2, 0⟩ else atOf j c.at_ := by
  have hmay := h.inv.mayOk hn hs (by omega) hq hst
  have e := h.inv.mem q hq
  have hcr : coReady c q.2 1 = { c with ep := c.ep + 1, own := c.own.set q.2.part.toNat q.2.to, at_ := put q.2.mv ⟨2, 0⟩ c.at_ } := by
    unfold coReady mvF
    rw [if_pos hmay]
    simp [Cd.tb]
  have hi := h.inv.ready hq hst 1
  have hat : ∀ j, atOf j (coReady c q.2 1).at_ = if j = q.2.mv then ⟨2, 0⟩ else atOf j c.at_ := fun j => by rw [hcr]; exact atOf_put
  have hm : (coReady c q.2 1).m = c.m := by rw [hcr]
  have c1 := cnt_set h.inv hq hm hat isP
  have c2 := cnt_set h.inv hq hm hat isL
  have c3 := cnt_set h.inv hq hm hat isA
  rw [show isP (atOf q.2.mv c.at_) = true from by unfold isP; rw [hst]; rfl, show isP ⟨2, 0⟩ = false from rfl] at c1
  rw [show isL (atOf q.2.mv c.at_) = true from by unfold isL; rw [hst]; rfl, show isL ⟨2, 0⟩ = true from rfl] at c2
  rw [show isA (atOf q.2.mv c.at_) = false from by unfold isA; rw [hst]; rfl, show isA ⟨2, 0⟩ = false from rfl] at c3
  simp only [if_true, Bool.false_eq_true, if_false] at c1 c2 c3
  have hep : (coReady c q.2 1).ep = c.ep + 1 := by rw [hcr]
  have hcom : (coReady c q.2 1).com = c.com := by rw [hcr]
  have habo : (coReady c q.2 1).abo = c.abo := by rw [hcr]
  have hlast : (coReady c q.2 1).last = c.last := by rw [hcr]
  have hown : (coReady c q.2 1).own = c.own.set q.2.part.toNat q.2.to := by rw [hcr]
  refine ⟨⟨hi.fit (by rw [hlast]; exact h.inv.last.2) (by have := h.epb; omega) (by rw [hcom, habo, hm]; exact h.inv.cnt.2.2), ?_, fun q' hq' => ?_, fun q' hq' u hu h1 => ?_, fun u hu => ?_, ?_, ?_⟩, hm, hat⟩
  · rw [hep]
    have := h.epb
    omega
  · rw [hm] at hq'
    exact h.sub q' hq'
  · rw [hm] at hq'
    have h2 := h.st q' hq' u hu h1
    rw [hat]
    split
    · rename_i he
      rw [h2, he, hst]
      decide
    · exact h2
  · rw [hm]
    rcases h.done u hu with h1 | h1
    · exact .inl h1
    · by_cases hp : u.x.part = q.2.part
      · obtain ⟨u', hu', h3⟩ := h.sub q hq
        exact .inl ⟨q, hq, by rw [← h3]; exact ((hU u hu).2 u' hu' (by rw [hp, h3])).symm⟩
      · right
        have hne : q.2.part.toNat ≠ u.x.part.toNat := by
          have h4 := e.part
          have h5 := (hU u hu).1
          omega
        rw [hown, List.getElem?_set_ne hne]
        exact h1
  · rw [hcom]
    have := h.com
    omega
  · rw [habo]
    have := h.abo
    omega
theorem EndJ.part {n s : Nat} {U : List Mo} {A B : Int} {c : Cd} (h : EndJ n s U A B c) {q : Int × En} (hq : q ∈ c.m) (hst : (atOf q.2.mv c.at_).st ≠ 1) {fr : Int} (hd : dnF q.2 fr (atOf q.2.mv c.at_).dn ≤ 2) :
    EndJ n s U A B (coDone c q.2 fr).2 ∧ (coDone c q.2 fr).2.m = c.m ∧ ∀ j, atOf j (coDone c q.2 fr).2.at_ = if j = q.2.mv then ⟨(atOf q.2.mv c.at_).st, dnF q.2 fr (atOf q.2.mv c.at_).dn⟩ else atOf j c.at_ := by
  have e := h.inv.mem q hq
  have hst2 : (atOf q.2.mv c.at_).st = 2 ∨ (atOf q.2.mv c.at_).st = 3 := by
    rcases e.st with h1 | h1
    · exact absurd h1.1 hst
    · exact h1
  have hcd : (coDone c q.2 fr).2 = { c with at_ := put q.2.mv ⟨(atOf q.2.mv c.at_).st, dnF q.2 fr (atOf q.2.mv c.at_).dn⟩ c.at_ } := by
    unfold coDone
    simp only
    rw [if_neg (by omega)]
  have hi := h.inv.setSt hq (v := ⟨(atOf q.2.mv c.at_).st, dnF q.2 fr (atOf q.2.mv c.at_).dn⟩) hst2 hd e.own
  rw [← hcd] at hi
  have hat : ∀ j, atOf j (coDone c q.2 fr).2.at_ = if j = q.2.mv then ⟨(atOf q.2.mv c.at_).st, dnF q.2 fr (atOf q.2.mv c.at_).dn⟩ else atOf j c.at_ := fun j => by rw [hcd]; exact atOf_put
  have hm : (coDone c q.2 fr).2.m = c.m := by rw [hcd]
  have c1 := cnt_set h.inv hq hm hat isP
  have c2 := cnt_set h.inv hq hm hat isL
  have c3 := cnt_set h.inv hq hm hat isA
  rw [show isP ⟨(atOf q.2.mv c.at_).st, dnF q.2 fr (atOf q.2.mv c.at_).dn⟩ = isP (atOf q.2.mv c.at_) from rfl] at c1
  rw [show isL ⟨(atOf q.2.mv c.at_).st, dnF q.2 fr (atOf q.2.mv c.at_).dn⟩ = isL (atOf q.2.mv c.at_) from rfl] at c2
  rw [show isA ⟨(atOf q.2.mv c.at_).st, dnF q.2 fr (atOf q.2.mv c.at_).dn⟩ = isA (atOf q.2.mv c.at_) from rfl] at c3
  have hep : (coDone c q.2 fr).2.ep = c.ep := by rw [hcd]
  have hcom : (coDone c q.2 fr).2.com = c.com := by rw [hcd]
  have habo : (coDone c q.2 fr).2.abo = c.abo := by rw [hcd]
  have hown : (coDone c q.2 fr).2.own = c.own := by rw [hcd]
  refine ⟨⟨hi, ?_, fun q' hq' => ?_, fun q' hq' u hu h1 => ?_, fun u hu => ?_, ?_, ?_⟩, hm, hat⟩
  · rw [hep]
    have := h.epb
    omega
  · rw [hm] at hq'
    exact h.sub q' hq'
  · rw [hm] at hq'
    have h2 := h.st q' hq' u hu h1
    rw [hat]
    split
    · rename_i he
      rw [h2, he]
    · exact h2
  · rw [hm, hown]
    exact h.done u hu
  · rw [hcom]
    have := h.com
    omega
  · rw [habo]
    have := h.abo
    omega
theorem EndJ.over {n s : Nat} {U : List Mo} {A B : Int} {c : Cd} (h : EndJ n s U A B c) (hU : Apart U) {q : Int × En} (hq : q ∈ c.m) (hst : (atOf q.2.mv c.at_).st ≠ 1) {fr : Int} (hd : dnF q.2 fr (atOf q.2.mv c.at_).dn = 3) :
    EndJ n s U A B (coDone c q.2 fr).2 ∧ (coDone c q.2 fr).2.m = del q.1 c.m ∧ ∀ j, j ≠ q.2.mv → atOf j (coDone c q.2 fr).2.at_ = atOf j c.at_ := by
  have e := h.inv.mem q hq
  have hst2 : (atOf q.2.mv c.at_).st = 2 ∨ (atOf q.2.mv c.at_).st = 3 := by
    rcases e.st with h1 | h1
    · exact absurd h1.1 hst
    · exact h1
  have hi := h.inv.done hq hst fr
  have hat : ∀ j, j ≠ q.2.mv → atOf j (coDone c q.2 fr).2.at_ = atOf j c.at_ := fun j hj => by
    unfold coDone
    simp only
    rw [if_pos hd]
    simp only
    rw [atOf_del, if_neg hj, atOf_put, if_neg hj]
  have hm : (coDone c q.2 fr).2.m = del q.1 c.m := by
    unfold coDone
    simp only
    rw [if_pos hd, ← e.key]
  have hep : (coDone c q.2 fr).2.ep = c.ep := by unfold coDone; simp only; rw [if_pos hd]
  have hlast : (coDone c q.2 fr).2.last = c.last := by unfold coDone; simp only; rw [if_pos hd]
  have hown : (coDone c q.2 fr).2.own = c.own := by unfold coDone; simp only; rw [if_pos hd]
  have hcom : (coDone c q.2 fr).2.com = if (atOf q.2.mv c.at_).st = 2 then c.com + 1 else c.com := by unfold coDone; simp only; rw [if_pos hd]
  have habo : (coDone c q.2 fr).2.abo = if (atOf q.2.mv c.at_).st = 2 then c.abo else c.abo + 1 := by unfold coDone; simp only; rw [if_pos hd]
  have c1 := cnt_rem h.inv hq hm hat isP
  have c2 := cnt_rem h.inv hq hm hat isL
  have c3 := cnt_rem h.inv hq hm hat isA
  have hlen : (del q.1 c.m).length + 1 = c.m.length := by
    have h1 := cnt_del (fun _ => true) h.inv.keys hq
    simp only [List.countP_true, if_true] at h1
    omega
  have hcnt := h.inv.cnt.2.2
  have hfit : (coDone c q.2 fr).2.com + (coDone c q.2 fr).2.abo + (coDone c q.2 fr).2.m.length ≤ 400 := by
    rw [hcom, habo, hm]
    split <;> omega
  refine ⟨⟨hi.fit (by rw [hlast]; exact h.inv.last.2) (by rw [hep]; exact h.inv.ep.2) hfit, ?_, fun q' hq' => ?_, fun q' hq' u hu h1 => ?_, fun u hu => ?_, ?_, ?_⟩, hm, hat⟩
  · rw [hep]
    have := h.epb
    omega
  · rw [hm] at hq'
    exact h.sub q' (mem_del.1 hq').1
  · rw [hm] at hq'
    obtain ⟨h3, h4⟩ := mem_del.1 hq'
    have h2 := h.st q' h3 u hu h1
    rw [hat _ (fun e2 => h4 (by rw [h.inv.inj h3 hq e2]))]
    exact h2
  · rw [hm, hown]
    rcases h.done u hu with ⟨q', hq', h1⟩ | h1
    · by_cases hp : q' = q
      · right
        subst hp
        have h4 := h.st q' hq u hu h1.symm
        have ho := e.own
        rw [← h1, ho]
        rcases hst2 with e2 | e2
        · rw [if_pos e2, if_neg (by rw [h4, e2]; decide)]
        · rw [if_neg (by rw [e2]; decide), if_pos (h4.2 e2)]
      · left
        exact ⟨q', mem_del.2 ⟨hq', fun e2 => hp (h.inv.inj2 hq' hq (by rw [(h.inv.mem q' hq').key, e.key, e2]))⟩, h1⟩
    · exact .inr h1
  · rw [hcom]
    have := h.com
    rcases hst2 with e2 | e2
    · rw [e2, if_pos rfl]
      rw [show isL (atOf q.2.mv c.at_) = true from by unfold isL; rw [e2]; rfl, if_pos rfl] at c2
      omega
    · rw [e2, if_neg (by decide)]
      rw [show isL (atOf q.2.mv c.at_) = false from by unfold isL; rw [e2]; rfl, if_neg (by decide)] at c2
      omega
  · rw [habo]
    have := h.abo
    rcases hst2 with e2 | e2
    · rw [e2, if_pos rfl]
      rw [show isA (atOf q.2.mv c.at_) = false from by unfold isA; rw [e2]; rfl, if_neg (by decide)] at c3
      omega
    · rw [e2, if_neg (by decide)]
      rw [show isA (atOf q.2.mv c.at_) = true from by unfold isA; rw [e2]; rfl, if_pos rfl] at c3
      omega
set_option linter.unusedSimpArgs false
set_option linter.unusedVariables false
def need (v : St) : Nat := if v.st = 1 then 3 else if v.st = 2 then (if v.dn = 2 then 1 else 2) else 1
theorem need_pos (v : St) : 1 ≤ need v := by
  unfold need
  split
  · decide
  · split
    · split <;> decide
    · decide
theorem need_le (v : St) : need v ≤ 3 := by
  unfold need
  split
  · decide
  · split
    · split <;> decide
    · decide
theorem CdInv.found {n s k : Nat} {c : Cd} (h : CdInv n s k c) {q : Int × En} (hq : q ∈ c.m) : findMv q.2.mv (c.m.map (·.2)) = some q.2 := by
  cases hf : findMv q.2.mv (c.m.map (·.2)) with
  | none =>
    unfold findMv at hf
    have := List.find?_eq_none.1 hf q.2 (List.mem_map_of_mem hq)
    simp at this
  | some y =>
    obtain ⟨q', hq', h1, h2⟩ := findMv_mem hf
    rw [← h1] at h2
    rw [← h1, h.inj hq' hq h2]
theorem ans4 {n s k : Nat} {c : Cd} (h : CdInv n s k c) {q : Int × En} (hq : q ∈ c.m) (hst : (atOf q.2.mv c.at_).st = 1) (to : Int) : ansF c to (m4 q.2) = coReady c q.2 1 := by
  have e := h.mem q hq
  have e1 := e.mv
  have e2 := e.part
  have e3 := e.to
  unfold ansF
  rw [if_pos (show (m4 q.2).k = 4 from rfl)]
  show (coHandle c ((q.2.to.toNat : Nat) : Int) 10 ((q.2.mv.toNat : Nat) : Int) ((q.2.part.toNat : Nat) : Int) 1).2 = _
  rw [Int.toNat_of_nonneg (by omega), Int.toNat_of_nonneg (by omega), Int.toNat_of_nonneg (by omega)]
  unfold coHandle
  rw [h.found hq]
  simp only
  rw [if_neg (by simp), if_pos ⟨trivial, hst, trivial⟩]
theorem ans_done {n s k : Nat} {c : Cd} (h : CdInv n s k c) {q : Int × En} (hq : q ∈ c.m) (hst : (atOf q.2.mv c.at_).st ≠ 1) (to : Int) {m : Mg} (hk : m.k = 11 ∨ m.k = 12) (hm : m.mv = q.2.mv.toNat) (hp : m.pt = q.2.part.toNat) : ansF c to m = (coDone c q.2 to).2 := by
  have e := h.mem q hq
  have e1 := e.mv
  have e2 := e.part
  unfold ansF
  rw [if_neg (by omega), if_pos hk, hm, hp, Int.toNat_of_nonneg (by omega), Int.toNat_of_nonneg (by omega)]
  unfold coHandle
  rw [h.found hq]
  simp only
  rw [if_neg (by simp), if_neg (by rintro ⟨h1, _⟩; cases h1), if_pos ⟨trivial, hst⟩]
theorem dn_fr {x : En} {d : Nat} : dnF x x.fr d = d ||| 1 := by unfold dnF; rw [if_pos rfl]
theorem dn_to {x : En} {d : Nat} (h : x.fr ≠ x.to) : dnF x x.to d = d ||| 2 := by unfold dnF; rw [if_neg (fun e => h e.symm), if_pos rfl]
theorem ansL_one (c : Cd) (p : Int × Mg) : ansL c [p] = ansF c p.1 p.2 := rfl
theorem ansL_two (c : Cd) (p p' : Int × Mg) : ansL c [p, p'] = ansF (ansF c p.1 p.2) p'.1 p'.2 := rfl
theorem tickOfM_1 (c : Cd) (x : En) {t : St} (h : t.st = 1) : tickOfM c x t = [(x.fr, m4 x)] := by unfold tickOfM; rw [if_pos h]
theorem tickOfM_2 (c : Cd) (x : En) {t : St} (h : t.st = 2) : tickOfM c x t = (if t.dn = 2 then [(x.fr, m11 c x)] else []) ++ (if t.dn = 0 ∨ t.dn = 1 then [(x.to, m11 c x)] else []) := by unfold tickOfM; rw [if_neg (by omega), if_pos h]
theorem tickOfM_3 (c : Cd) (x : En) {t : St} (h : t.st = 3) : tickOfM c x t = (if t.dn = 0 ∨ t.dn = 2 then [(x.fr, m12 x)] else []) ++ (if t.dn = 0 ∨ t.dn = 1 then [(x.to, m12 x)] else []) := by unfold tickOfM; rw [if_neg (by omega), if_neg (by omega)]
/-- One move's messages are answered. -/
theorem EndJ.move {n s : Nat} {U : List Mo} {A B : Int} {c : Cd} (h : EndJ n s U A B c) (hU : Apart U) (hn : 1 ≤ n ∧ n ≤ 4) (hs : 1 ≤ s ∧ s ≤ 8) {q : Int × En} (hq : q ∈ c.m) (c0 : Cd) {t : St} (ht : atOf q.2.mv c.at_ = t) :
    EndJ n s U A B (ansL c (tickOfM c0 q.2 t)) ∧ (∀ j, j ≠ q.2.mv → atOf j (ansL c (tickOfM c0 q.2 t)).at_ = atOf j c.at_) ∧
      ((ansL c (tickOfM c0 q.2 t)).m = c.m ∧ need (atOf q.2.mv (ansL c (tickOfM c0 q.2 t)).at_) + 1 ≤ need t ∨ (ansL c (tickOfM c0 q.2 t)).m = del q.1 c.m) := by
  have e := h.inv.mem q hq
  have hd := e.dn
  have hne := e.ne
  rw [ht] at hd
  by_cases h1 : t.st = 1
  · obtain ⟨j1, j2, j3⟩ := h.ready hU hn hs hq (by rw [ht]; exact h1)
    rw [tickOfM_1 c0 q.2 h1, ansL_one, ans4 h.inv hq (by rw [ht]; exact h1)]
    refine ⟨j1, fun j hj => by rw [j3, if_neg hj], .inl ⟨j2, ?_⟩⟩
    rw [j3, if_pos rfl]
    unfold need
    rw [if_pos h1]
    decide
  · have hst : (atOf q.2.mv c.at_).st ≠ 1 := by rw [ht]; exact h1
    have h23 : t.st = 2 ∨ t.st = 3 := by
      have := e.st
      rw [ht] at this
      rcases this with h2 | h2
      · exact absurd h2.1 h1
      · exact h2
    have hdn : (atOf q.2.mv c.at_).dn = t.dn := by rw [ht]
    -- the last word of a move
    have fin : ∀ (to : Int) (m : Mg), (m.k = 11 ∨ m.k = 12) → m.mv = q.2.mv.toNat → m.pt = q.2.part.toNat → dnF q.2 to t.dn = 3 → EndJ n s U A B (ansL c [(to, m)]) ∧ (∀ j, j ≠ q.2.mv → atOf j (ansL c [(to, m)]).at_ = atOf j c.at_) ∧ ((ansL c [(to, m)]).m = c.m ∧ need (atOf q.2.mv (ansL c [(to, m)]).at_) + 1 ≤ need t ∨ (ansL c [(to, m)]).m = del q.1 c.m) := fun to m hk hm hp h3 => by
      obtain ⟨j1, j2, j3⟩ := h.over hU hq hst (fr := to) (by rw [hdn]; exact h3)
      rw [ansL_one, ans_done h.inv hq hst to hk hm hp]
      exact ⟨j1, j3, .inr j2⟩
    rcases h23 with h2 | h2
    · rw [tickOfM_2 c0 q.2 h2]
      rcases dn_cases hd with d | d | d
      · rw [d, if_neg (by decide), if_pos (.inl rfl), List.nil_append, ansL_one, ans_done h.inv hq hst _ (m := m11 c0 q.2) (.inl rfl) rfl rfl]
        have h3 : dnF q.2 q.2.to (atOf q.2.mv c.at_).dn = 2 := by rw [hdn, d, dn_to hne]; rfl
        obtain ⟨j1, j2, j3⟩ := h.part hq hst (fr := q.2.to) (by rw [h3]; exact Nat.le_refl _)
        refine ⟨j1, fun j hj => by rw [j3, if_neg hj], .inl ⟨j2, ?_⟩⟩
        rw [j3, if_pos rfl, h3, ht]
        unfold need
        rw [h2, d]
        decide
      · rw [d, if_neg (by decide), if_pos (.inr rfl), List.nil_append]
        exact fin _ _ (.inl rfl) rfl rfl (by rw [d, dn_to hne]; rfl)
      · rw [d, if_pos rfl, if_neg (by decide), List.append_nil]
        exact fin _ _ (.inl rfl) rfl rfl (by rw [d, dn_fr]; rfl)
    · rw [tickOfM_3 c0 q.2 h2]
      rcases dn_cases hd with d | d | d
      · rw [d, if_pos (.inl rfl), if_pos (.inl rfl), List.singleton_append, ansL_two]
        have h3 : dnF q.2 q.2.fr (atOf q.2.mv c.at_).dn = 1 := by rw [hdn, d, dn_fr]; rfl
        obtain ⟨j1, j2, j3⟩ := h.part hq hst (fr := q.2.fr) (by rw [h3]; decide)
        rw [ans_done h.inv hq hst _ (m := m12 q.2) (.inr rfl) rfl rfl]
        have hq2 : q ∈ (coDone c q.2 q.2.fr).2.m := by rw [j2]; exact hq
        have ht2 : atOf q.2.mv (coDone c q.2 q.2.fr).2.at_ = ⟨t.st, 1⟩ := by rw [j3, if_pos rfl, h3, ht]
        have hst2 : (atOf q.2.mv (coDone c q.2 q.2.fr).2.at_).st ≠ 1 := by rw [ht2]; exact h1
        rw [ans_done j1.inv hq2 hst2 _ (m := m12 q.2) (.inr rfl) rfl rfl]
        obtain ⟨i1, i2, i3⟩ := j1.over hU hq2 hst2 (fr := q.2.to) (by rw [ht2, dn_to hne]; exact (by decide : 1 ||| 2 = 3))
        refine ⟨i1, fun j hj => by rw [i3 j hj, j3, if_neg hj], .inr ?_⟩
        rw [i2, j2]
      · rw [d, if_neg (by decide), if_pos (.inr rfl), List.nil_append]
        exact fin _ _ (.inr rfl) rfl rfl (by rw [d, dn_to hne]; rfl)
      · rw [d, if_pos (.inr rfl), if_neg (by decide), List.append_nil]
        exact fin _ _ (.inr rfl) rfl rfl (by rw [d, dn_fr]; rfl)
/-- A row of moves is answered. -/
theorem EndJ.row {n s : Nat} {U : List Mo} {A B : Int} (hU : Apart U) (hn : 1 ≤ n ∧ n ≤ 4) (hs : 1 ≤ s ∧ s ≤ 8) (c0 : Cd) (st0 : En → St) (N : Nat) : ∀ (L : List En) {c : Cd}, EndJ n s U A B c → L.Pairwise (fun x y => x.mv < y.mv) → (∀ x ∈ L, (∃ q ∈ c.m, q.2 = x) ∧ atOf x.mv c.at_ = st0 x) →
    (∀ q ∈ c.m, need (atOf q.2.mv c.at_) ≤ N ∨ (q.2 ∈ L ∧ need (atOf q.2.mv c.at_) ≤ N + 1)) →
    EndJ n s U A B (ansL c (L.flatMap fun x => tickOfM c0 x (st0 x))) ∧ ∀ q ∈ (ansL c (L.flatMap fun x => tickOfM c0 x (st0 x))).m, need (atOf q.2.mv (ansL c (L.flatMap fun x => tickOfM c0 x (st0 x))).at_) ≤ N
  | [], c, h, _, _, hN => ⟨h, fun q hq => by
      rcases hN q hq with h1 | h1
      · exact h1
      · cases h1.1⟩
  | x :: L, c, h, hp, hL, hN => by
    rw [List.pairwise_cons] at hp
    obtain ⟨⟨q, hq, hqx⟩, ht⟩ := hL x (List.mem_cons_self ..)
    subst hqx
    obtain ⟨j1, j2, j3⟩ := h.move hU hn hs hq c0 ht
    rw [List.flatMap_cons, ansL_append]
    obtain ⟨c1, hc1⟩ : ∃ c1, ansL c (tickOfM c0 q.2 (st0 q.2)) = c1 := ⟨_, rfl⟩
    rw [hc1] at j1 j2 j3 ⊢
    have hsub : ∀ r ∈ c1.m, r ∈ c.m := fun r hr => by
      rcases j3 with h1 | h1
      · rw [h1.1] at hr; exact hr
      · rw [h1] at hr; exact (mem_del.1 hr).1
    refine EndJ.row hU hn hs c0 st0 N L j1 hp.2 (fun y hy => ?_) (fun r hr => ?_)
    · obtain ⟨⟨r, hr, hry⟩, hty⟩ := hL y (List.mem_cons_of_mem _ hy)
      have hlt := hp.1 y hy
      refine ⟨⟨r, ?_, hry⟩, by rw [j2 _ (by omega)]; exact hty⟩
      rcases j3 with h1 | h1
      · rw [h1.1]; exact hr
      · rw [h1]
        refine mem_del.2 ⟨hr, fun e => ?_⟩
        have := h.inv.inj2 hr hq (by rw [(h.inv.mem r hr).key, (h.inv.mem q hq).key, e])
        rw [this] at hry
        rw [hry] at hlt
        omega
    · have hrc := hsub r hr
      by_cases e : r = q
      · subst e
        left
        rcases j3 with h1 | h1
        · have h2 := h1.2
          rw [← ht] at h2
          rcases hN r hq with h3 | h3
          · omega
          · omega
        · rw [h1] at hr
          exact absurd rfl (mem_del.1 hr).2
      · have hmv : r.2.mv ≠ q.2.mv := fun e2 => e (h.inv.inj hrc hq e2)
        rw [j2 _ hmv]
        rcases hN r hrc with h3 | ⟨h3, h4⟩
        · exact .inl h3
        · rcases List.mem_cons.1 h3 with h5 | h5
          · exact absurd (by rw [h5]) hmv
          · exact .inr ⟨h5, h4⟩
theorem news_idle (c c0 : Cd) : ansL c (newsM c0) = c := by
  have h1 : ∀ (l : List (Int × Mg)) (c : Cd), (∀ p ∈ l, p.2.k = 14) → ansL c l = c := by
    intro l
    induction l with
    | nil => intro c _; rfl
    | cons p l ih =>
      intro c h
      have h2 : ansF c p.1 p.2 = c := by
        unfold ansF
        rw [h p (List.mem_cons_self ..), if_neg (by decide), if_neg (by decide)]
      show ansL (ansF c p.1 p.2) l = c
      rw [h2]
      exact ih c fun r hr => h r (List.mem_cons_of_mem _ hr)
  refine h1 _ c fun p hp => ?_
  unfold newsM at hp
  simp only [List.mem_append, List.mem_map, List.mem_range] at hp
  rcases hp with ⟨_, _, rfl⟩ | ⟨_, _, rfl⟩ <;> rfl
/-- A tick, all of which is answered. -/
def rndF (c : Cd) : Cd := ansL c (tickM c)
theorem EndJ.round {n s : Nat} {U : List Mo} {A B : Int} {c : Cd} (h : EndJ n s U A B c) (hU : Apart U) (hn : 1 ≤ n ∧ n ≤ 4) (hs : 1 ≤ s ∧ s ≤ 8) {N : Nat} (hN : ∀ q ∈ c.m, need (atOf q.2.mv c.at_) ≤ N + 1) :
    EndJ n s U A B (rndF c) ∧ ∀ q ∈ (rndF c).m, need (atOf q.2.mv (rndF c).at_) ≤ N := by
  have h1 := EndJ.row hU hn hs c (fun x => atOf x.mv c.at_) N (c.m.map (·.2)) h h.inv.ord (fun x hx => by
    obtain ⟨q, hq, rfl⟩ := List.mem_map.1 hx
    exact ⟨⟨q, hq, rfl⟩, rfl⟩) (fun q hq => .inr ⟨List.mem_map_of_mem hq, hN q hq⟩)
  unfold rndF tickM
  rw [ansL_append, news_idle]
  exact h1
theorem apart_moves {n s k : Nat} {c : Cd} (h : CdInv n s k c) : Apart (movesF c) := by
  intro u hu
  unfold movesF at hu ⊢
  obtain ⟨x, hx, rfl⟩ := List.mem_map.1 hu
  obtain ⟨q, hq, rfl⟩ := List.mem_map.1 hx
  refine ⟨(h.mem q hq).part.1, fun u' hu' he => ?_⟩
  obtain ⟨x', hx', rfl⟩ := List.mem_map.1 hu'
  obtain ⟨q', hq', rfl⟩ := List.mem_map.1 hx'
  rw [h.inj2 hq hq' he]
theorem EndJ.start {n s : Nat} {c : Cd} (h : CdInv n s 200 c) : EndJ n s (movesF c) (c.com + (cntF isL c : Nat)) (c.abo + (cntF isA c : Nat)) c := by
  have h1 := h.ep
  have h2 := h.cnt
  have hc : cntF isP c ≤ c.m.length := List.countP_le_length
  have e1 : ∀ q ∈ c.m, (⟨q.2, atOf q.2.mv c.at_⟩ : Mo) ∈ movesF c := fun q hq => by
    unfold movesF
    exact List.mem_map_of_mem (List.mem_map_of_mem hq)
  have e2 : ∀ u ∈ movesF c, ∃ q ∈ c.m, u = ⟨q.2, atOf q.2.mv c.at_⟩ := fun u hu => by
    unfold movesF at hu
    obtain ⟨x, hx, rfl⟩ := List.mem_map.1 hu
    obtain ⟨q, hq, rfl⟩ := List.mem_map.1 hx
    exact ⟨q, hq, rfl⟩
  refine ⟨h.mono (by omega), by omega, fun q hq => ⟨_, e1 q hq, rfl⟩, fun q hq u hu hx => ?_, fun u hu => ?_, rfl, rfl⟩
  · obtain ⟨q', hq', rfl⟩ := e2 u hu
    simp only at hx
    rw [hx]
  · obtain ⟨q', hq', rfl⟩ := e2 u hu
    exact .inl ⟨q', hq', rfl⟩
theorem cnt_moves (f : St → Bool) (c : Cd) : cntF f c = (movesF c).countP fun y => f y.s := by
  unfold cntF movesF
  rw [List.countP_map, List.countP_map]
  rfl
/-- Three rounds. -/
theorem ends_pure {n s : Nat} {c : Cd} (h : CdInv n s 200 c) (hn : 1 ≤ n ∧ n ≤ 4) (hs : 1 ≤ s ∧ s ≤ 8) :
    CdInv n s 400 (rndF c) ∧ CdInv n s 400 (rndF (rndF c)) ∧ CdInv n s 400 (rndF (rndF (rndF c))) ∧ (rndF (rndF (rndF c))).m = [] ∧
      (∀ u ∈ movesF c, (0 ≤ u.x.part ∧ u.x.part < s) ∧ (rndF (rndF (rndF c))).own[u.x.part.toNat]?.getD 0 = if u.s.st = 3 then u.x.fr else u.x.to) ∧
      (rndF (rndF (rndF c))).com = c.com + ((movesF c).countP fun y => isL y.s : Nat) ∧ (rndF (rndF (rndF c))).abo = c.abo + ((movesF c).countP fun y => isA y.s : Nat) := by
  have hU := apart_moves h
  obtain ⟨j1, k1⟩ := (EndJ.start h).round hU hn hs (N := 2) (fun q _ => need_le _)
  obtain ⟨j2, k2⟩ := j1.round hU hn hs (N := 1) k1
  obtain ⟨j3, k3⟩ := j2.round hU hn hs (N := 0) k2
  have hnil : (rndF (rndF (rndF c))).m = [] := by
    cases hm : (rndF (rndF (rndF c))).m with
    | nil => rfl
    | cons q l =>
      have := k3 q (by rw [hm]; exact List.mem_cons_self ..)
      have := need_pos (atOf q.2.mv (rndF (rndF (rndF c))).at_)
      omega
  have c1 := j3.com
  have c2 := j3.abo
  have z : ∀ f, cntF f (rndF (rndF (rndF c))) = 0 := fun f => by unfold cntF; rw [hnil]; rfl
  rw [z, cnt_moves] at c1 c2
  refine ⟨j1.inv, j2.inv, j3.inv, hnil, fun u hu => ⟨?_, ?_⟩, by omega, by omega⟩
  · unfold movesF at hu
    obtain ⟨x, hx, rfl⟩ := List.mem_map.1 hu
    obtain ⟨q, hq, rfl⟩ := List.mem_map.1 hx
    exact (h.mem q hq).part
  · rcases j3.done u hu with ⟨q, hq, _⟩ | h1
    · rw [hnil] at hq; cases hq
    · exact h1
end Go.Proofs.YtdnfibecobodkaaGreat
