/- table.Move. -/
import Derived.Test.YtdnfibecobodkaaGreatCcA
namespace Go.Proofs.YtdnfibecobodkaaGreat
open Go.RowKit Go.Lib
set_option linter.unusedSimpArgs false
set_option linter.unusedVariables false
theorem IRow.set {base : Nat} {W : World} {g c : Nat} {l : List Int} (h : IRow base W (.slice (some ⟨g, 0, none⟩) l.length c) l) (i : Nat) (x : Int) : IRow base (W.setCell ⟨g, i, none⟩ (.int .i64 x)) (.slice (some ⟨g, 0, none⟩) (l.set i x).length c) (l.set i x) := by
  refine ⟨by simp, .inr ?_⟩
  rcases h.2 with ⟨hv, _⟩ | ⟨g', cap, cur, hv, hb, hg, hn, hc, hcs, htk⟩
  · cases hv
  · simp only [Value.slice.injEq, Option.some.injEq, Addr.mk.injEq, and_true, true_and] at hv
    obtain ⟨rfl, rfl⟩ := hv
    refine ⟨g, c, cur.setIfInBounds i (.int .i64 x), by simp, hb, ?_, by simpa using hn, hc, by simpa using hcs, ?_⟩
    · simp [World.setCell, Array.getElem?_modify, hg]
    · have h1 : (l.set i x).map inV = (l.map inV).set i (inV x) := by rw [List.map_set]
      rw [h1, ← htk]
      simp only [Array.toList_setIfInBounds, List.length_set, Nat.mul_one]
      rw [List.take_set]
      rfl
/-- What Move comes to: the epoch, the nodes, the owners, the error. -/
def mvF (t : Tb) (part to : Int) : Int × Int × List Int × Int :=
  if t.may part to = 0 then (t.ep + 1, t.nodes, t.owner.set part.toNat to, 0) else (0, 0, [], t.may part to)
theorem TbFacts {W : World} {b : Nat} {x y z : Value} (h : W.heap[b]? = some (.cells #[x, y, z] 28 (0, 0))) : W.cell? ⟨b, 0, none⟩ = some x ∧ W.cell? ⟨b, 1, none⟩ = some y ∧ W.cell? ⟨b, 2, none⟩ = some z ∧ (∀ o, W.frozen? ⟨b, o, none⟩ = false) := by
  refine ⟨?_, ?_, ?_, fun o => ?_⟩
  all_goals first | (unfold World.cell?; rw [h]; rfl) | (unfold World.frozen?; rw [h]; simp)
set_option maxRecDepth 100000 in
set_option maxHeartbeats 2000000 in
theorem tmove_any {w : World} (t : Tb) (hI : IntsAt w t.oa t.owner) (part to : Int) : Calls Tryz.prog 54 #[t.val, .int .i64 part, .int .i64 to] w fun e w' => ∃ a c, e = .returned (.tuple #[.agg #[.int .i64 (mvF t part to).1, .int .i64 (mvF t part to).2.1, .slice a (mvF t part to).2.2.1.length c], .int .i64 (mvF t part to).2.2.2]) ∧ IRow w.heap.size w' (.slice a (mvF t part to).2.2.1.length c) (mvF t part to).2.2.1 ∧ Keep [] w w' := by
  obtain ⟨ep, nd, oa, oc, own⟩ := t
  simp only at *
  obtain ⟨w1, hw1⟩ : ∃ u, w.alloc (.cells #[.int .i64 ep, .int .i64 nd, .slice oa own.length oc] 28) = u := ⟨_, rfl⟩
  obtain ⟨w2, hw2⟩ : ∃ u, w1.alloc (.cells #[.int .i64 0, .int .i64 0, .slice none 0 0] 28) = u := ⟨_, rfl⟩
  have s1 : w1.heap.size = w.heap.size + 1 := by rw [← hw1, World.size_alloc]
  have s2 : w2.heap.size = w.heap.size + 2 := by rw [← hw2, World.size_alloc, s1]
  have k1 : Keep [] w w1 := by rw [← hw1]; exact (Keep.refl _ _).alloc _
  have k2 : Keep [] w1 w2 := by rw [← hw2]; exact (Keep.refl _ _).alloc _
  have b1 : w2.heap[w.heap.size]? = some (.cells #[.int .i64 ep, .int .i64 nd, .slice oa own.length oc] 28 (0, 0)) := (k2.block _ (by rw [s1]; omega) (by simp)).trans (by rw [← hw1]; exact World.alloc_heap_new w _)
  have b2 : w2.heap[w.heap.size + 1]? = some (.cells #[.int .i64 0, .int .i64 0, .slice none 0 0] 28 (0, 0)) := by rw [← hw2, ← s1]; exact World.alloc_heap_new w1 _
  have hI2 := hI.keep (k1.trans k2) (by simp)
  have hmay := may_any ⟨ep, nd, oa, oc, own⟩ part to w2 hI2
  have hcp := fun W (hk : Keep [] w2 W) (hl : own.length ≤ 1000) => copy_any (w := W) ⟨ep, nd, oa, oc, own⟩ (hI2.keep hk (by simp)) hl
  unfold Tb.val at hmay hcp ⊢
  simp only at hcp
  obtain ⟨d0, d1, d2, d3⟩ := TbFacts b1
  obtain ⟨e0, hme⟩ : ∃ e0, (⟨ep, nd, oa, oc, own⟩ : Tb).may part to = e0 := ⟨_, rfl⟩
  have hm : mvF ⟨ep, nd, oa, oc, own⟩ part to = if e0 = 0 then (ep + 1, nd, own.set part.toNat to, 0) else (0, 0, [], e0) := by unfold mvF; rw [hme]
  rw [hme] at hmay
  have HMAY := Lib.hid hmay
  have HCP := Lib.hid hcp
  have HB1 := Lib.hid b1
  have HB2 := Lib.hid b2
  have HK := Lib.hid (k1.trans k2)
  have HM := Lib.hid hm
  have HS2 := Lib.hid s2
  clear hmay hcp hI2 hI k1 k2 b1 b2 hm
  by_cases he : e0 = 0
  · obtain ⟨g1, g2, g3, g4, g5, g6, g7⟩ := may_zero (hme.trans he)
    simp only at g1 g2 g3 g4 g5 g6 g7
    have hln : own.length ≤ 8 := by
      unfold Tb.right at g1
      simp only [Bool.and_eq_true, decide_eq_true_eq] at g1
      omega
    have hge1 : 1 ≤ ep := by
      unfold Tb.right at g1
      simp only [Bool.and_eq_true, decide_eq_true_eq] at g1
      omega
    rw [HM.out, if_pos he]
    simp only
    subst he
    clear hme g1 g7
    go_enter Tryz.func54, Tryz.ntmps54
    go_wp2_with (fail)
    refine HMAY.out.mono ?_
    rintro e w3 ⟨rfl, hB⟩
    have hk3 : Keep [] w2 w3 := Keep.of_below hB []
    have b1 := (hk3.block _ (lt_of_heap HB1.out) (by simp)).trans HB1.out
    have b2 := (hk3.block _ (lt_of_heap HB2.out) (by simp)).trans HB2.out
    clear d0 d1 d2 d3
    obtain ⟨d0, d1, d2, d3⟩ := TbFacts b1
    have HC3 := Lib.hid (HCP.out w3 hk3 (by omega))
    have HK3 := Lib.hid (HK.out.trans hk3)
    have HB1 := Lib.hid b1
    have HB2 := Lib.hid b2
    have hs3 : w2.heap.size ≤ w3.heap.size := hk3.size
    clear hB hk3 b1 b2
    go_wp2_with (fail)
    refine HC3.out.mono ?_
    rintro e w4 ⟨a, c, rfl, hr, hk4⟩
    have b1 := (hk4.block _ (lt_of_heap HB1.out) (by simp)).trans HB1.out
    have b2 := (hk4.block _ (lt_of_heap HB2.out) (by simp)).trans HB2.out
    clear d0 d1 d2 d3
    obtain ⟨d0, d1, d2, d3⟩ := TbFacts b1
    obtain ⟨q0, q1, q2, q3⟩ := TbFacts b2
    have hol : own ≠ [] := by intro e; rw [e] at g4; simp at g4; omega
    obtain ⟨k, rfl⟩ := Int.eq_ofNat_of_zero_le g3
    have hkl : k < own.length := by omega
    rcases hr.2 with ⟨hv, hv0⟩ | ⟨g, cap, cur, hv, hbg, hgg, hncap, hcap, hcs, htk⟩
    · exact absurd (List.length_eq_zero_iff.1 hv0) hol
    · simp only [Value.slice.injEq, true_and] at hv
      obtain ⟨rfl, rfl⟩ := hv
      have x0 : w4.cell? ⟨g, k, none⟩ = some (.int .i64 (own[k]?.getD 0)) := by
        obtain ⟨b', o', e', h2, h3⟩ := hr.at hol
        cases e'
        simpa using h3 k hkl
      have x1 : ∀ o, w4.frozen? ⟨g, o, none⟩ = false := fun o => by unfold World.frozen?; rw [hgg]; simp
      have hgn : w.heap.size + 1 < g := by have := HS2.out; omega
      have HR := Lib.hid hr
      have HK4 := Lib.hid (HK3.out.trans hk4)
      have HB2 := Lib.hid b2
      have hkl2 : (k : Int) < own.length := by omega
      clear hr hk4 b1 b2 hgg hbg htk hcs hcap hncap
      go_wp2_with (fail)
      obtain ⟨W1, hW1⟩ : ∃ u, (((w4.setCell ⟨w.heap.size, 0, none⟩ (.int .i64 ep)).setCell ⟨w.heap.size, 1, none⟩ (.int .i64 nd)).setCell ⟨w.heap.size, 2, none⟩ (.slice (some ⟨g, 0, none⟩) own.length c)).setCell ⟨w.heap.size, 0, none⟩ (.int .i64 (ep + 1)) = u := ⟨_, rfl⟩
      have hk1 : Keep [w.heap.size] w4 W1 := by
        rw [← hW1]
        exact ((((Keep.refl _ _).setCell _ _ _ (.inl (by simp))).setCell _ _ _ (.inl (by simp))).setCell _ _ _ (.inl (by simp))).setCell _ _ _ (.inl (by simp))
      rw [hW1]
      obtain ⟨W2, hW2⟩ : ∃ u, W1.setCell ⟨g, k, none⟩ (.int .i64 to) = u := ⟨_, rfl⟩
      have hr1 : IRow w.heap.size W1 (.slice (some ⟨g, 0, none⟩) own.length c) own := own_low (HR.out.keep hk1 (fun b hb => by have := own_base HR.out b hb; have := HS2.out; simp; omega)) (by have := HK3.out.size; omega)
      have hr2 := hr1.set k to
      have hk2 : Keep [g] W1 W2 := by rw [← hW2]; exact (Keep.refl _ _).setCell _ _ _ (.inl (by simp))
      rw [hW2] at hr2 ⊢
      have b2 := (hk2.block _ (Nat.lt_of_lt_of_le (lt_of_heap HB2.out) hk1.size) (by simp; omega)).trans ((hk1.block _ (lt_of_heap HB2.out) (by simp)).trans HB2.out)
      have hks : Keep [w.heap.size + 1] W2 (((W2.setCell ⟨w.heap.size + 1, 0, none⟩ (.int .i64 (ep + 1))).setCell ⟨w.heap.size + 1, 1, none⟩ (.int .i64 nd)).setCell ⟨w.heap.size + 1, 2, none⟩ (.slice (some ⟨g, 0, none⟩) own.length c)) :=
        (((Keep.refl _ _).setCell _ _ _ (.inl (by simp))).setCell _ _ _ (.inl (by simp))).setCell _ _ _ (.inl (by simp))
      have hfin : (((W2.setCell ⟨w.heap.size + 1, 0, none⟩ (.int .i64 (ep + 1))).setCell ⟨w.heap.size + 1, 1, none⟩ (.int .i64 nd)).setCell ⟨w.heap.size + 1, 2, none⟩ (.slice (some ⟨g, 0, none⟩) own.length c)).heap[w.heap.size + 1]? = some (.cells #[.int .i64 (ep + 1), .int .i64 nd, .slice (some ⟨g, 0, none⟩) own.length c] 28 (0, 0)) := by
        simp [World.setCell, Array.getElem?_modify, b2]
      obtain ⟨W3, hW3⟩ : ∃ u, (((W2.setCell ⟨w.heap.size + 1, 0, none⟩ (.int .i64 (ep + 1))).setCell ⟨w.heap.size + 1, 1, none⟩ (.int .i64 nd)).setCell ⟨w.heap.size + 1, 2, none⟩ (.slice (some ⟨g, 0, none⟩) own.length c)) = u := ⟨_, rfl⟩
      rw [hW3] at hks hfin ⊢
      have hlv := run_loadVar_row (P := Tryz.prog) W3 (w.heap.size + 1) 28 28 _ (0, 0) _ hfin Tryz.underlying28 rfl (by kernel_rfl)
      refine bodyPost_ret (v := .tuple #[.agg #[.int .i64 (ep + 1), .int .i64 nd, .slice (some ⟨g, 0, none⟩) own.length c], .int .i64 0]) (by rw [results_cell_tmp rfl]; show ((loadVar 28 ⟨w.heap.size + 1, 0, none⟩).run Tryz.prog W3).andThen (fun v w₂ => Result.ok (Value.tuple #[v, .int .i64 0]) w₂) = _; rw [hlv]; rfl) rfl ?_
      rw [Int.toNat_natCast]
      refine ⟨some ⟨g, 0, none⟩, c, by simp, hr2.keep hks (fun b hb => ?_), ?_⟩
      · obtain rfl : g = b := by simpa [Value.ownBlock] using hb
        simp
        omega
      · refine ((HK4.out.step hk1 (by simp)).step hk2 ?_).step hks (by simp)
        intro y hy
        obtain rfl : y = g := by simpa using hy
        exact .inr (by omega)
  · rw [HM.out, if_neg he]
    simp only
    have hne : ((e0 : Int) == 0) = false := by simpa using he
    clear hme he
    go_enter Tryz.func54, Tryz.ntmps54
    go_wp2_with (fail)
    refine HMAY.out.mono ?_
    rintro e w3 ⟨rfl, hB⟩
    have hk3 : Keep [] w2 w3 := Keep.of_below hB []
    have b2 := (hk3.block _ (lt_of_heap HB2.out) (by simp)).trans HB2.out
    obtain ⟨q0, q1, q2, q3⟩ := TbFacts b2
    have HB2 := Lib.hid b2
    have HK3 := Lib.hid (HK.out.trans hk3)
    clear hB hk3 b2 d0 d1 d2 d3
    go_wp2_with (fail)
    have hks : Keep [w.heap.size + 1] w3 (((w3.setCell ⟨w.heap.size + 1, 0, none⟩ (.int .i64 0)).setCell ⟨w.heap.size + 1, 1, none⟩ (.int .i64 0)).setCell ⟨w.heap.size + 1, 2, none⟩ (.slice none 0 0)) :=
      (((Keep.refl _ _).setCell _ _ _ (.inl (by simp))).setCell _ _ _ (.inl (by simp))).setCell _ _ _ (.inl (by simp))
    have b2 := HB2.out
    have hfin : (((w3.setCell ⟨w.heap.size + 1, 0, none⟩ (.int .i64 0)).setCell ⟨w.heap.size + 1, 1, none⟩ (.int .i64 0)).setCell ⟨w.heap.size + 1, 2, none⟩ (.slice none 0 0)).heap[w.heap.size + 1]? = some (.cells #[.int .i64 0, .int .i64 0, .slice none 0 0] 28 (0, 0)) := by
      simp [World.setCell, Array.getElem?_modify, b2]
    obtain ⟨W3, hW3⟩ : ∃ u, (((w3.setCell ⟨w.heap.size + 1, 0, none⟩ (.int .i64 0)).setCell ⟨w.heap.size + 1, 1, none⟩ (.int .i64 0)).setCell ⟨w.heap.size + 1, 2, none⟩ (.slice none 0 0)) = u := ⟨_, rfl⟩
    rw [hW3] at hks hfin ⊢
    have hlv := run_loadVar_row (P := Tryz.prog) W3 (w.heap.size + 1) 28 28 _ (0, 0) _ hfin Tryz.underlying28 rfl (by kernel_rfl)
    refine bodyPost_ret (v := .tuple #[.agg #[.int .i64 0, .int .i64 0, .slice none 0 0], .int .i64 e0]) (by rw [results_cell_tmp rfl]; show ((loadVar 28 ⟨w.heap.size + 1, 0, none⟩).run Tryz.prog W3).andThen (fun v w₂ => Result.ok (Value.tuple #[v, .int .i64 e0]) w₂) = _; rw [hlv]; rfl) rfl ?_
    exact ⟨none, 0, rfl, World.ownsRow_nil _ _ _ _, HK3.out.step hks (by simp)⟩
end Go.Proofs.YtdnfibecobodkaaGreat
