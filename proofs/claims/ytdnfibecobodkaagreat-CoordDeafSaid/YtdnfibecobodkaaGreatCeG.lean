/- table.Same, find, packets. -/
import Derived.Test.YtdnfibecobodkaaGreatCeD
namespace Go.Proofs.YtdnfibecobodkaaGreat
open Go.RowKit Go.Lib
set_option linter.unusedSimpArgs false
set_option linter.unusedVariables false
set_option maxRecDepth 100000 in
set_option maxHeartbeats 4000000 in
theorem tsame_true {w : World} (ep nd : Int) {a b : Option Addr} (c d : Nat) {own : List Int} (ha : IntsAt w a own) (hb : IntsAt w b own) (hl : own.length ≤ 1000) : Calls Tryz.prog 24 #[.agg #[.int .i64 ep, .int .i64 nd, .slice a own.length c], .agg #[.int .i64 ep, .int .i64 nd, .slice b own.length d]] w fun e w' => e = .returned (.bool true) ∧ Keep [] w w' := by
  obtain ⟨w1, hw1⟩ : ∃ u, w.alloc (.cells #[.int .i64 ep, .int .i64 nd, .slice a own.length c] 28) = u := ⟨_, rfl⟩
  obtain ⟨w2, hw2⟩ : ∃ u, w1.alloc (.cells #[.int .i64 ep, .int .i64 nd, .slice b own.length d] 28) = u := ⟨_, rfl⟩
  have s1 : w1.heap.size = w.heap.size + 1 := by rw [← hw1, World.size_alloc]
  have k1 : Keep [] w w1 := by rw [← hw1]; exact (Keep.refl _ _).alloc _
  have k2 : Keep [] w1 w2 := by rw [← hw2]; exact (Keep.refl _ _).alloc _
  have b1 : w2.heap[w.heap.size]? = some (.cells #[.int .i64 ep, .int .i64 nd, .slice a own.length c] 28 (0, 0)) := (k2.block _ (by rw [s1]; omega) (by simp)).trans (by rw [← hw1]; exact World.alloc_heap_new w _)
  have b2 : w2.heap[w.heap.size + 1]? = some (.cells #[.int .i64 ep, .int .i64 nd, .slice b own.length d] 28 (0, 0)) := by rw [← hw2, ← s1]; exact World.alloc_heap_new w1 _
  obtain ⟨c0, c1, c2, c3⟩ := TbFacts b1
  obtain ⟨d0, d1, d2, d3⟩ := TbFacts b2
  have HK := Lib.hid (k1.trans k2)
  have HE := Lib.hid (equalI_any (w := w2) c d (ha.keep (k1.trans k2) (by simp)) (hb.keep (k1.trans k2) (by simp)) (by omega) (by omega))
  clear ha hb b1 b2 k1 k2
  go_enter Tryz.func24, Tryz.ntmps24
  go_wp2_with (fail)
  refine HE.out.mono ?_
  rintro e w3 ⟨rfl, hk3⟩
  have HK3 := Lib.hid (HK.out.trans hk3)
  clear hk3
  simp only [decide_true]
  go_wp2_with (fail)
  go_ret
  exact ⟨rfl, HK3.out⟩
def findMo (n : Int) (l : List Mo) : Option Mo := l.find? fun x => decide (x.x.mv = n)
theorem findMo_snoc (n : Int) {l : List Mo} {j : Nat} {x : Mo} (h : l[j]? = some x) (hn : findMo n (l.take j) = none) : findMo n (l.take (j + 1)) = if x.x.mv = n then some x else none := by
  unfold findMo at hn ⊢
  have ht : l.take (j + 1) = l.take j ++ [x] := by rw [List.take_add_one, h]; rfl
  rw [ht, List.find?_append, hn]
  by_cases hm : x.x.mv = n <;> simp [hm]
theorem findMo_full (n : Int) {l : List Mo} {j : Nat} {x : Mo} (h : l[j]? = some x) (hn : findMo n (l.take j) = none) (hx : x.x.mv = n) : findMo n l = some x := by
  have e : l = l.take (j + 1) ++ l.drop (j + 1) := (List.take_append_drop _ _).symm
  have h1 := findMo_snoc n h hn
  rw [if_pos hx] at h1
  rw [e]
  unfold findMo at h1 ⊢
  rw [List.find?_append, h1]
  rfl
def FndP (w : World) (o : Option Mo) (e : Ending) (w' : World) : Prop := e = .returned (.tuple #[.agg #[.int .i64 (o.getD Mo.zero).x.mv, .int .i64 (o.getD Mo.zero).x.part, .int .i64 (o.getD Mo.zero).x.fr, .int .i64 (o.getD Mo.zero).x.to, .int .i64 (o.getD Mo.zero).s.st, .int .i64 (o.getD Mo.zero).s.dn], .bool o.isSome]) ∧ Keep [] w w'
structure SixAt (W : World) (g : Nat) (a b c d e f : Value) : Prop where
  blk : W.heap[g]? = some (.cells #[a, b, c, d, e, f] 56 (0, 0))
theorem SixAt.facts {W : World} {g : Nat} {a b c d e f : Value} (h : SixAt W g a b c d e f) : W.cell? ⟨g, 0, none⟩ = some a ∧ W.cell? ⟨g, 1, none⟩ = some b ∧ W.cell? ⟨g, 2, none⟩ = some c ∧ W.cell? ⟨g, 3, none⟩ = some d ∧ W.cell? ⟨g, 4, none⟩ = some e ∧ W.cell? ⟨g, 5, none⟩ = some f ∧ ∀ o, W.frozen? ⟨g, o, none⟩ = false := by
  have hb := h.blk
  refine ⟨?_, ?_, ?_, ?_, ?_, ?_, fun o => ?_⟩
  all_goals first | (unfold World.cell?; rw [hb]; rfl) | (unfold World.frozen?; rw [hb]; simp)
set_option maxRecDepth 100000 in
set_option maxHeartbeats 4000000 in
theorem find_any {base : Nat} {w : World} {v : Value} {l : List Mo} (hl : MoRow base w v l) (hlen : l.length ≤ 100000) (n : Int) : Calls Tryz.prog 26 #[v, .int .i64 n] w (FndP w (findMo n l)) := by
  obtain ⟨w1, hw1⟩ : ∃ u, w.alloc (.cells #[.int .i64 0, .int .i64 0, .int .i64 0, .int .i64 0, .int .i64 0, .int .i64 0] 56) = u := ⟨_, rfl⟩
  have k1 : Keep [] w w1 := by rw [← hw1]; exact (Keep.refl _ _).alloc _
  have b1 : SixAt w1 w.heap.size (.int .i64 0) (.int .i64 0) (.int .i64 0) (.int .i64 0) (.int .i64 0) (.int .i64 0) := ⟨by rw [← hw1]; exact World.alloc_heap_new w _⟩
  have HR := Lib.hid (hl.keep k1 (by simp))
  have HB := Lib.hid b1
  have HK := Lib.hid k1
  obtain ⟨av, cv, rfl, _⟩ := own_shape hl
  obtain ⟨nl, hnl⟩ : ∃ nl, l.length = nl := ⟨_, rfl⟩
  have HNL := Lib.hid hnl
  have hbl := lt_of_heap b1.blk
  rw [hnl] at HR hlen ⊢
  clear hl k1 hnl b1
  go_enter Tryz.func26, Tryz.ntmps26
  go_wp2_with (fail)
  go_loopw [6] (fun i wr => ∃ j : Nat, i = .int .i64 j ∧ j ≤ nl ∧ findMo n (l.take j) = none ∧ wr = w1) (fun i _ => nl - (intOf i).toNat)
  case atStart => exact ⟨0, rfl, Nat.zero_le _, rfl, rfl⟩
  case round =>
    obtain ⟨j, rfl, hj, hno, hwr⟩ := hrel
    rw [hwr]
    clear hwr
    have h0j : (0 : Int) ≤ (j : Int) := Int.natCast_nonneg j
    by_cases hlt : j < nl
    · have hjn : (j : Int) < (nl : Int) := by omega
      have hlj : j < l.length := by rw [HNL.out]; exact hlt
      obtain ⟨x, hx⟩ : ∃ x, l[j]? = some x := ⟨l[j], List.getElem?_eq_getElem hlj⟩
      have hne : l ≠ [] := by intro e; rw [e] at hlj; simp at hlj
      have hr := HR.out
      rw [← HNL.out] at hr
      obtain ⟨g, c', hv', hg0, hg1, _, hcell⟩ := rows_at Mo.len hr hne
      simp only [Value.slice.injEq] at hv'
      obtain ⟨rfl, -, rfl⟩ := hv'
      have x0 := hcell j 0 _ hx (by omega)
      have x1 := hcell j 1 _ hx (by omega)
      have x2 := hcell j 2 _ hx (by omega)
      have x3 := hcell j 3 _ hx (by omega)
      have x4 := hcell j 4 _ hx (by omega)
      have x5 := hcell j 5 _ hx (by omega)
      have hsn := findMo_snoc n hx hno
      have hfu := fun h => findMo_full n hx hno h
      obtain ⟨⟨m1, m2, m3, m4⟩, ⟨st, dn⟩⟩ := x
      simp only [Mo.cells, List.getElem?_cons_zero, List.getElem?_cons_succ, Nat.add_zero] at x0 x1 x2 x3 x4 x5
      simp only at hsn hfu
      have HSN := Lib.hid hsn
      by_cases hm : m1 = n
      · have HF := Lib.hid (hfu hm)
        subst hm
        obtain ⟨z0, z1, z2, z3, z4, z5, z6⟩ := HB.out.facts
        clear hsn hfu hcell hr hno hx
        go_wp2_with (fail)
        obtain ⟨W3, hW3⟩ : ∃ u, ((((((w1.setCell ⟨w.heap.size, 0, none⟩ (.int .i64 m1)).setCell ⟨w.heap.size, 1, none⟩ (.int .i64 m2)).setCell ⟨w.heap.size, 2, none⟩ (.int .i64 m3)).setCell ⟨w.heap.size, 3, none⟩ (.int .i64 m4)).setCell ⟨w.heap.size, 4, none⟩ (.int .i64 st)).setCell ⟨w.heap.size, 5, none⟩ (.int .i64 dn)) = u := ⟨_, rfl⟩
        have hks : Keep [w.heap.size] w1 W3 := by
          rw [← hW3]
          exact ((((((Keep.refl _ _).setCell _ _ _ (.inl (by simp))).setCell _ _ _ (.inl (by simp))).setCell _ _ _ (.inl (by simp))).setCell _ _ _ (.inl (by simp))).setCell _ _ _ (.inl (by simp))).setCell _ _ _ (.inl (by simp))
        have hfin : W3.heap[w.heap.size]? = some (.cells #[.int .i64 m1, .int .i64 m2, .int .i64 m3, .int .i64 m4, .int .i64 st, .int .i64 dn] 56 (0, 0)) := by
          have h := HB.out.blk
          rw [← hW3]
          simp [World.setCell, Array.getElem?_modify, h]
        rw [hW3]
        have hlv := run_loadVar_row (P := Tryz.prog) W3 w.heap.size 56 56 _ (0, 0) _ hfin Tryz.underlying56 rfl (by kernel_rfl)
        refine bodyPost_ret (v := .tuple #[.agg #[.int .i64 m1, .int .i64 m2, .int .i64 m3, .int .i64 m4, .int .i64 st, .int .i64 dn], .bool true]) (by rw [results_cell_tmp rfl]; show ((loadVar 56 ⟨w.heap.size, 0, none⟩).run Tryz.prog W3).andThen (fun v w₂ => Result.ok (Value.tuple #[v, .bool true]) w₂) = _; rw [hlv]; rfl) rfl ?_
        rw [HF.out]
        exact ⟨rfl, HK.out.step hks (by simp)⟩
      · have hmg : ((m1 : Int) == n) = false := by simpa using hm
        clear hsn hfu hcell hr hno hx
        go_wp2_with (fail)
        go_roundw
        case rel => exact ⟨j + 1, by go_num, by omega, by rw [HSN.out, if_neg hm], trivial⟩
        case measure => go_light; simp [intOf]; omega
    · have hjn : ¬ (j : Int) < (nl : Int) := by omega
      have HF : Hid (findMo n l = none) := Lib.hid (by rw [show j = l.length from by have := HNL.out; omega, List.take_length] at hno; exact hno)
      obtain ⟨z0, z1, z2, z3, z4, z5, z6⟩ := HB.out.facts
      clear hno
      go_wp2_with (fail)
      obtain ⟨W3, hW3⟩ : ∃ u, ((((((w1.setCell ⟨w.heap.size, 0, none⟩ (.int .i64 0)).setCell ⟨w.heap.size, 1, none⟩ (.int .i64 0)).setCell ⟨w.heap.size, 2, none⟩ (.int .i64 0)).setCell ⟨w.heap.size, 3, none⟩ (.int .i64 0)).setCell ⟨w.heap.size, 4, none⟩ (.int .i64 0)).setCell ⟨w.heap.size, 5, none⟩ (.int .i64 0)) = u := ⟨_, rfl⟩
      have hks : Keep [w.heap.size] w1 W3 := by
        rw [← hW3]
        exact ((((((Keep.refl _ _).setCell _ _ _ (.inl (by simp))).setCell _ _ _ (.inl (by simp))).setCell _ _ _ (.inl (by simp))).setCell _ _ _ (.inl (by simp))).setCell _ _ _ (.inl (by simp))).setCell _ _ _ (.inl (by simp))
      have hfin : W3.heap[w.heap.size]? = some (.cells #[.int .i64 0, .int .i64 0, .int .i64 0, .int .i64 0, .int .i64 0, .int .i64 0] 56 (0, 0)) := by
        have h := HB.out.blk
        rw [← hW3]
        simp [World.setCell, Array.getElem?_modify, h]
      rw [hW3]
      have hlv := run_loadVar_row (P := Tryz.prog) W3 w.heap.size 56 56 _ (0, 0) _ hfin Tryz.underlying56 rfl (by kernel_rfl)
      refine bodyPost_ret (v := .tuple #[.agg #[.int .i64 0, .int .i64 0, .int .i64 0, .int .i64 0, .int .i64 0, .int .i64 0], .bool false]) (by rw [results_cell_tmp rfl]; show ((loadVar 56 ⟨w.heap.size, 0, none⟩).run Tryz.prog W3).andThen (fun v w₂ => Result.ok (Value.tuple #[v, .bool false]) w₂) = _; rw [hlv]; rfl) rfl ?_
      rw [HF.out]
      exact ⟨rfl, HK.out.step hks (by simp)⟩
set_option maxRecDepth 100000 in
set_option maxHeartbeats 4000000 in
theorem packets_true {b1 b2 : Nat} {w : World} {v u : Value} {l : List Pk} (hv : PRow b1 w v l) (hu : PRow b2 w u l) (hlen : l.length ≤ 100000) : Calls Tryz.prog 25 #[v, u] w fun e w' => e = .returned (.bool true) ∧ Keep [] w w' := by
  have HV := Lib.hid hv
  have HU := Lib.hid hu
  obtain ⟨av, cv, rfl, _⟩ := own_shape hv
  obtain ⟨au, cu, rfl, _⟩ := own_shape hu
  obtain ⟨nl, hnl⟩ : ∃ nl, l.length = nl := ⟨_, rfl⟩
  have HNL := Lib.hid hnl
  rw [hnl] at HV HU hlen ⊢
  clear hv hu hnl
  go_enter Tryz.func25, Tryz.ntmps25
  go_wp2_with (fail)
  go_loopw [5] (fun i wr => ∃ j : Nat, i = .int .i64 j ∧ j ≤ nl ∧ Keep [] w wr) (fun i _ => nl - (intOf i).toNat)
  case atStart => exact ⟨0, rfl, Nat.zero_le _, Keep.refl _ _⟩
  case round =>
    obtain ⟨j, rfl, hj, hk0⟩ := hrel
    have HKR := Lib.hid hk0
    have h0j : (0 : Int) ≤ (j : Int) := Int.natCast_nonneg j
    by_cases hlt : j < nl
    · have hjn : (j : Int) < (nl : Int) := by omega
      have hlj : j < l.length := by rw [HNL.out]; exact hlt
      obtain ⟨x, hx⟩ : ∃ x, l[j]? = some x := ⟨l[j], List.getElem?_eq_getElem hlj⟩
      have hne : l ≠ [] := by intro e; rw [e] at hlj; simp at hlj
      have hrv := HV.out
      have hru := HU.out
      rw [← HNL.out] at hrv hru
      obtain ⟨ga, ca, hv', hg0, hg1, _, hcell⟩ := rows_at Pk.len (PRow.keep hrv hk0 (by simp)) hne
      obtain ⟨gb, cb, hu', hh0, hh1, _, hcel2⟩ := rows_at Pk.len (PRow.keep hru hk0 (by simp)) hne
      simp only [Value.slice.injEq] at hv' hu'
      obtain ⟨rfl, -, rfl⟩ := hv'
      obtain ⟨rfl, -, rfl⟩ := hu'
      have x0 := hcell j 0 _ hx (by omega)
      have x1 := hcell j 1 _ hx (by omega)
      have x2 := hcell j 2 _ hx (by omega)
      have y0 := hcel2 j 0 _ hx (by omega)
      have y1 := hcel2 j 1 _ hx (by omega)
      have y2 := hcel2 j 2 _ hx (by omega)
      obtain ⟨to, dt⟩ := x
      simp only [Pk.cells, List.getElem?_cons_zero, List.getElem?_cons_succ, Nat.add_zero] at x0 x1 x2 y0 y1 y2
      obtain ⟨ds, hds⟩ : ∃ ds : ByteArray, ⟨dt.toArray⟩ = ds := ⟨_, rfl⟩
      rw [hds] at x2 y2
      have HX0 := Lib.hid x0
      have HX1 := Lib.hid x1
      have HX2 := Lib.hid x2
      have HY0 := Lib.hid y0
      have HY1 := Lib.hid y1
      have HY2 := Lib.hid y2
      have HGA := Lib.hid hg1
      have HGB := Lib.hid hh1
      clear hrv hru hcell hcel2 hx x0 x1 x2 y0 y1 y2 hds hk0 hne
      go_wp2_with (fail)
      refine wp_region_soup 8 [] (fun _ => none) (by kernel_rfl) (by kernel_rfl) (spOk_of (l := []) (by simp)) (pre_of (l := []) (by simp)) ?_
      simp only [List.take_succ_cons, List.take_zero, List.drop_succ_cons, List.drop_zero]
      with_reducible refine soup_q ?_ ?_ ?_
      · rfl
      · rfl
      with_reducible apply Exists.intro
      with_reducible refine ⟨fun W hk _ => ?_, ?_⟩
      · unfold Oper.same
        go_simp
        first | rfl | exact ⟨rfl, rfl⟩
      with_reducible apply Exists.intro
      with_reducible refine ⟨?_, ?_⟩
      · go_simp
        rfl
      with_reducible refine soup_q ?_ ?_ ?_
      · rfl
      · rfl
      with_reducible apply Exists.intro
      with_reducible refine ⟨fun W hk _ => ?_, ?_⟩
      · unfold Oper.same
        go_simp
        first | rfl | exact ⟨rfl, rfl⟩
      with_reducible apply Exists.intro
      with_reducible refine ⟨?_, ?_⟩
      · go_simp
        rfl
      with_reducible refine soup_q ?_ ?_ ?_
      · rfl
      · rfl
      with_reducible apply Exists.intro
      with_reducible refine ⟨fun W hk _ => ?_, ?_⟩
      · unfold Oper.same
        go_simp
        first | rfl | exact ⟨rfl, rfl⟩
      with_reducible apply Exists.intro
      with_reducible refine ⟨?_, ?_⟩
      · go_simp
        rfl
      with_reducible refine soup_q ?_ ?_ ?_
      · rfl
      · rfl
      with_reducible apply Exists.intro
      with_reducible refine ⟨fun W hk _ => ?_, ?_⟩
      · have q0 := (hk.cell _ HGA.out (by simp)).trans HX0.out
        have q1 := (hk.cell _ HGA.out (by simp)).trans HX1.out
        have q2 := (hk.cell _ HGA.out (by simp)).trans HX2.out
        unfold Oper.same
        go_simp
        first | rfl | exact ⟨rfl, rfl⟩
      with_reducible apply Exists.intro
      with_reducible refine ⟨?_, ?_⟩
      · go_simp
        rfl
      with_reducible refine soup_q ?_ ?_ ?_
      · rfl
      · rfl
      with_reducible apply Exists.intro
      with_reducible refine ⟨fun W hk _ => ?_, ?_⟩
      · unfold Oper.same
        go_simp
        first | rfl | exact ⟨rfl, rfl⟩
      with_reducible apply Exists.intro
      with_reducible refine ⟨?_, ?_⟩
      · go_simp
        rfl
      with_reducible refine soup_q ?_ ?_ ?_
      · rfl
      · rfl
      with_reducible apply Exists.intro
      with_reducible refine ⟨fun W hk _ => ?_, ?_⟩
      · unfold Oper.same
        go_simp
        first | rfl | exact ⟨rfl, rfl⟩
      with_reducible apply Exists.intro
      with_reducible refine ⟨?_, ?_⟩
      · go_simp
        rfl
      with_reducible refine soup_q ?_ ?_ ?_
      · rfl
      · rfl
      with_reducible apply Exists.intro
      with_reducible refine ⟨fun W hk _ => ?_, ?_⟩
      · unfold Oper.same
        go_simp
        first | rfl | exact ⟨rfl, rfl⟩
      with_reducible apply Exists.intro
      with_reducible refine ⟨?_, ?_⟩
      · go_simp
        rfl
      with_reducible refine soup_q ?_ ?_ ?_
      · rfl
      · rfl
      with_reducible apply Exists.intro
      with_reducible refine ⟨fun W hk _ => ?_, ?_⟩
      · have q0 := (hk.cell _ HGB.out (by simp)).trans HY0.out
        have q1 := (hk.cell _ HGB.out (by simp)).trans HY1.out
        have q2 := (hk.cell _ HGB.out (by simp)).trans HY2.out
        unfold Oper.same
        go_simp
        first | rfl | exact ⟨rfl, rfl⟩
      with_reducible apply Exists.intro
      with_reducible refine ⟨?_, ?_⟩
      · go_simp
        rfl
      refine soup_nil (fun W hk hS => ?_)
      have HKW := Lib.hid (HKR.out.trans hk)
      clear hk hS
      go_wp2_with (fail)
      go_roundw
      case rel => exact ⟨j + 1, by go_num, by omega, HKW.out⟩
      case measure => go_light; simp [intOf]; omega
    · have hjn : ¬ (j : Int) < (nl : Int) := by omega
      go_wp2_with (fail)
      go_ret
      exact ⟨rfl, HKR.out⟩
end Go.Proofs.YtdnfibecobodkaaGreat
