/- The coordinator: Ended, Table, New, Order. -/
import Derived.Test.YtdnfibecobodkaaGreatCcA
namespace Go.Proofs.YtdnfibecobodkaaGreat
open Go.RowKit Go.Lib
open Go.ChangeMaps (setBlock)
set_option linter.unusedSimpArgs false
set_option linter.unusedVariables false
/-- A new block. -/
def Spec.new (n : Nat) (cs : Array Value) (t : TypeId) : Spec := { p := fun _ v => ∃ g, v = .pointer (some ⟨g, 0, none⟩) ∧ n ≤ g, A := fun _ v w => ∃ g, v = .pointer (some ⟨g, 0, none⟩) ∧ n ≤ g ∧ w.heap[g]? = some (.cells cs t (0, 0)) }
theorem Spec.new_ok (n : Nat) (cs : Array Value) (t : TypeId) : (Spec.new n cs t).ok :=
  ⟨fun x v w w' ⟨g, h1, h2, h3⟩ hk => ⟨g, h1, h2, (hk.block g (lt_of_heap h3) (by simp)).trans h3⟩, fun _ _ _ h => h, fun _ => trivial, fun _ => ⟨_, n, rfl, Nat.le_refl _⟩⟩
set_option maxRecDepth 100000 in
theorem ended_any {w : World} {p : Nat} {oa : Option Addr} {oc bp : Nat} {om : Option Nat} {ab : Nat} {c : Cd} (h : CoAt w p oa oc bp om ab c) : Calls Tryz.prog 18 #[.pointer (some ⟨p, 0, none⟩)] w fun e w' => e = .returned (.tuple #[.int .i64 c.com, .int .i64 c.abo]) ∧ Keep [] w w' := by
  have HC := Lib.hid h
  have hpl := lt_of_heap h.blk
  clear h
  go_enter Tryz.func18, Tryz.ntmps18
  go_wp2_with (fail)
  refine (none_any HC.out).mono ?_
  rintro e w0 ⟨rfl, hw0⟩
  rw [hw0]
  clear hw0
  go_wp2_with (fail)
  refine wp_region_soup 9 [] (fun _ => none) (by kernel_rfl) (by kernel_rfl) (spOk_of (l := []) (by simp)) (pre_of (l := []) (by simp)) ?_
  simp only [List.take_succ_cons, List.take_zero, List.drop_succ_cons, List.drop_zero]
  with_reducible refine soup_q ?_ ?_ ?_
  · rfl
  · rfl
  with_reducible apply Exists.intro
  with_reducible refine ⟨fun W hk _ => ?_, ?_⟩
  · unfold Oper.same
    go_simp
    first | rfl | exact ⟨rfl, rfl⟩
  with_reducible apply Exists.intro
  with_reducible refine ⟨?_, ?_⟩
  · go_simp
    rfl
  with_reducible refine soup_q ?_ ?_ ?_
  · rfl
  · rfl
  with_reducible apply Exists.intro
  with_reducible refine ⟨fun W hk _ => ?_, ?_⟩
  · unfold Oper.same
    go_simp
    first | rfl | exact ⟨rfl, rfl⟩
  with_reducible apply Exists.intro
  with_reducible refine ⟨?_, ?_⟩
  · go_simp
    rfl
  with_reducible refine soup_q ?_ ?_ ?_
  · rfl
  · rfl
  with_reducible apply Exists.intro
  with_reducible refine ⟨fun W hk _ => ?_, ?_⟩
  · unfold Oper.same
    go_simp
    first | rfl | exact ⟨rfl, rfl⟩
  with_reducible apply Exists.intro
  with_reducible refine ⟨?_, ?_⟩
  · go_simp
    rfl
  with_reducible refine soup_q ?_ ?_ ?_
  · rfl
  · rfl
  with_reducible apply Exists.intro
  with_reducible refine ⟨fun W hk _ => ?_, ?_⟩
  · have c0 := (HC.out.kept hk).facts.2.2.2.2.2.1
    unfold Oper.same
    go_simp
    first | rfl | exact ⟨rfl, rfl⟩
  with_reducible apply Exists.intro
  with_reducible refine ⟨?_, ?_⟩
  · go_simp
    rfl
  with_reducible refine soup_q ?_ ?_ ?_
  · rfl
  · rfl
  with_reducible apply Exists.intro
  with_reducible refine ⟨fun W hk _ => ?_, ?_⟩
  · unfold Oper.same
    go_simp
    first | rfl | exact ⟨rfl, rfl⟩
  with_reducible apply Exists.intro
  with_reducible refine ⟨?_, ?_⟩
  · go_simp
    rfl
  with_reducible refine soup_q ?_ ?_ ?_
  · rfl
  · rfl
  with_reducible apply Exists.intro
  with_reducible refine ⟨fun W hk _ => ?_, ?_⟩
  · unfold Oper.same
    go_simp
    first | rfl | exact ⟨rfl, rfl⟩
  with_reducible apply Exists.intro
  with_reducible refine ⟨?_, ?_⟩
  · go_simp
    rfl
  with_reducible refine soup_q ?_ ?_ ?_
  · rfl
  · rfl
  with_reducible apply Exists.intro
  with_reducible refine ⟨fun W hk _ => ?_, ?_⟩
  · unfold Oper.same
    go_simp
    first | rfl | exact ⟨rfl, rfl⟩
  with_reducible apply Exists.intro
  with_reducible refine ⟨?_, ?_⟩
  · go_simp
    rfl
  with_reducible refine soup_q ?_ ?_ ?_
  · rfl
  · rfl
  with_reducible apply Exists.intro
  with_reducible refine ⟨fun W hk _ => ?_, ?_⟩
  · have c0 := (HC.out.kept hk).facts.2.2.2.2.2.2.1
    unfold Oper.same
    go_simp
    first | rfl | exact ⟨rfl, rfl⟩
  with_reducible apply Exists.intro
  with_reducible refine ⟨?_, ?_⟩
  · go_simp
    rfl
  with_reducible refine soup_q ?_ ?_ ?_
  · rfl
  · rfl
  with_reducible apply Exists.intro
  with_reducible refine ⟨fun W hk _ => ?_, ?_⟩
  · unfold Oper.same
    go_simp
    first | rfl | exact ⟨rfl, rfl⟩
  with_reducible apply Exists.intro
  with_reducible refine ⟨?_, ?_⟩
  · go_simp
    rfl
  refine soup_nil (fun W hk hS => ?_)
  have HK := Lib.hid hk
  clear hk hS
  go_wp2_with (fail)
  go_ret2
  exact ⟨rfl, HK.out⟩
set_option maxRecDepth 100000 in
theorem ctable_any {w : World} {p : Nat} {oa : Option Addr} {oc bp : Nat} {om : Option Nat} {ab : Nat} {c : Cd} (h : CoAt w p oa oc bp om ab c) (hl : c.own.length ≤ 1000) : Calls Tryz.prog 15 #[.pointer (some ⟨p, 0, none⟩)] w fun e w' => ∃ a d, e = .returned (.agg #[.int .i64 c.ep, .int .i64 c.nd, .slice a c.own.length d]) ∧ IRow w.heap.size w' (.slice a c.own.length d) c.own ∧ Keep [] w w' := by
  obtain ⟨w1, hw1⟩ : ∃ u, w.alloc (.cells #[.int .i64 0, .int .i64 0, .slice none 0 0] 28) = u := ⟨_, rfl⟩
  have k1 : Keep [] w w1 := by rw [← hw1]; exact (Keep.refl _ _).alloc _
  have b1 : w1.heap[w.heap.size]? = some (.cells #[.int .i64 0, .int .i64 0, .slice none 0 0] 28 (0, 0)) := by rw [← hw1]; exact World.alloc_heap_new w _
  have h1 := h.kept k1
  obtain ⟨c0, c1, c2, c3, c4, c5, c6, c7⟩ := h1.facts
  have HC := Lib.hid h1
  have hcp := copy_any (w := w1) (c.tb oa oc) h1.ints hl
  unfold Cd.tb Tb.val at hcp
  simp only at hcp
  have HCP := Lib.hid hcp
  have HB1 := Lib.hid b1
  have HK1 := Lib.hid k1
  have hsz : w.heap.size < w1.heap.size := lt_of_heap b1
  clear h h1 hcp b1 k1
  go_enter Tryz.func15, Tryz.ntmps15
  go_wp2_with (fail)
  refine (none_any HC.out).mono ?_
  rintro e w0 ⟨rfl, hw0⟩
  rw [hw0]
  clear hw0
  go_wp2_with (fail)
  refine HCP.out.mono ?_
  rintro e w2 ⟨a, d, rfl, hr, hk⟩
  have b2 := (hk.block _ hsz (by simp)).trans HB1.out
  have e0 : w2.cell? ⟨w.heap.size, 0, none⟩ = some (.int .i64 0) := by unfold World.cell?; rw [b2]; rfl
  have e1 : w2.cell? ⟨w.heap.size, 1, none⟩ = some (.int .i64 0) := by unfold World.cell?; rw [b2]; rfl
  have e2 : w2.cell? ⟨w.heap.size, 2, none⟩ = some (.slice none 0 0) := by unfold World.cell?; rw [b2]; rfl
  have e3 : ∀ o, w2.frozen? ⟨w.heap.size, o, none⟩ = false := fun o => by unfold World.frozen?; rw [b2]; simp
  have HR := Lib.hid hr
  have HK2 := Lib.hid (HK1.out.trans hk)
  have HB2 := Lib.hid b2
  clear hr hk b2 c0 c1 c2 c3 c4 c5 c6 c7
  go_wp2_with (fail)
  have hks : Keep [w.heap.size] w2 (((w2.setCell ⟨w.heap.size, 0, none⟩ (.int .i64 c.ep)).setCell ⟨w.heap.size, 1, none⟩ (.int .i64 c.nd)).setCell ⟨w.heap.size, 2, none⟩ (.slice a c.own.length d)) :=
    (((Keep.refl _ _).setCell _ _ _ (.inl (by simp))).setCell _ _ _ (.inl (by simp))).setCell _ _ _ (.inl (by simp))
  have hfin : (((w2.setCell ⟨w.heap.size, 0, none⟩ (.int .i64 c.ep)).setCell ⟨w.heap.size, 1, none⟩ (.int .i64 c.nd)).setCell ⟨w.heap.size, 2, none⟩ (.slice a c.own.length d)).heap[w.heap.size]? = some (.cells #[.int .i64 c.ep, .int .i64 c.nd, .slice a c.own.length d] 28 (0, 0)) := by
    have h := HB2.out
    simp [World.setCell, Array.getElem?_modify, h]
  refine bodyPost_ret (results_cell_row rfl _ _ w.heap.size 28 _ (0, 0) _ rfl hfin Tryz.underlying28 rfl (by kernel_rfl)) rfl ?_
  refine ⟨a, d, rfl, own_low (HR.out.keep hks (fun b hb => ?_)) (by omega), HK2.out.step hks (by simp)⟩
  have h1 := own_base HR.out b hb
  simp
  omega
set_option maxRecDepth 100000 in
theorem cnew_any {w : World} (t : Tb) (hI : IntsAt w t.oa t.owner) (hr : t.right = true) : Calls Tryz.prog 8 #[t.val] w fun e w' => ∃ p oa oc bp ab, e = .returned (.tuple #[.pointer (some ⟨p, 0, none⟩), .int .i64 0]) ∧ CoAt w' p oa oc bp none ab ⟨t.ep, t.nodes, t.owner, [], 0, [], 0, 0⟩ ∧ Keep [] w w' ∧ ∀ x ∈ cfoot p oa oc t.owner.length bp none ab, w.heap.size ≤ x := by
  have hl : t.owner.length ≤ 8 := by
    unfold Tb.right at hr
    simp only [Bool.and_eq_true, decide_eq_true_eq] at hr
    omega
  obtain ⟨ep, nd, oa0, oc0, own⟩ := t
  simp only at *
  obtain ⟨w1, hw1⟩ : ∃ u, w.alloc (.cells #[.int .i64 ep, .int .i64 nd, .slice oa0 own.length oc0] 28) = u := ⟨_, rfl⟩
  have k1 : Keep [] w w1 := by rw [← hw1]; exact (Keep.refl _ _).alloc _
  have b1 : w1.heap[w.heap.size]? = some (.cells #[.int .i64 ep, .int .i64 nd, .slice oa0 own.length oc0] 28 (0, 0)) := by rw [← hw1]; exact World.alloc_heap_new w _
  have hrt := tright_any ⟨ep, nd, oa0, oc0, own⟩ w1 (hI.keep k1 (by simp))
  have hcp := fun W (hk : Keep [] w1 W) => copy_any (w := W) ⟨ep, nd, oa0, oc0, own⟩ ((hI.keep k1 (by simp)).keep hk (by simp)) (by simp only; omega)
  have f1 : ∀ W, Keep [] w1 W → W.cell? ⟨w.heap.size, 0, none⟩ = some (.int .i64 ep) ∧ W.cell? ⟨w.heap.size, 1, none⟩ = some (.int .i64 nd) ∧ W.cell? ⟨w.heap.size, 2, none⟩ = some (.slice oa0 own.length oc0) := by
    intro W hk
    have b2 := (hk.block _ (lt_of_heap b1) (by simp)).trans b1
    refine ⟨?_, ?_, ?_⟩ <;> (unfold World.cell?; rw [b2]; rfl)
  unfold Tb.val at hrt hcp ⊢
  rw [hr] at hrt
  simp only at hcp
  have HRT := Lib.hid hrt
  have HCP := Lib.hid hcp
  have HK1 := Lib.hid k1
  have HF1 := Lib.hid f1
  have hmm := @run_makeMap Tryz.prog
  obtain ⟨d0, d1, d2⟩ := f1 w1 (Keep.refl _ _)
  clear hI hr hrt hcp k1 b1 f1
  go_enter Tryz.func8, Tryz.ntmps8
  go_wp2_with (fail)
  refine HRT.out.mono ?_
  rintro e w2 ⟨rfl, hB⟩
  have hk2 : Keep [] w1 w2 := Keep.of_below hB []
  clear d0 d1 d2
  obtain ⟨d0, d1, d2⟩ := HF1.out w2 hk2
  have HC2 := Lib.hid (HCP.out w2 hk2)
  have HK2 := Lib.hid (HK1.out.trans hk2)
  clear hB hk2
  go_wp2_with (fail)
  refine HC2.out.mono ?_
  rintro e w3 ⟨a, d, rfl, hrow, hk3⟩
  have HR := Lib.hid hrow
  have HK3 := Lib.hid (HK2.out.trans hk3)
  clear hrow hk3
  go_wp2_with (fail)
  refine (new_any w3).mono ?_
  rintro e w4 ⟨rfl, rfl⟩
  go_wp2_with (fail)
  obtain ⟨w4, hw4⟩ : ∃ u, w3.alloc (.cells #[.map none, .int .i64 0] 101) = u := ⟨_, rfl⟩
  obtain ⟨w5, hw5⟩ : ∃ u, w4.alloc (.map #[] 0) = u := ⟨_, rfl⟩
  have s4 : w4.heap.size = w3.heap.size + 1 := by rw [← hw4, World.size_alloc]
  have s5 : w5.heap.size = w3.heap.size + 1 + 1 := by rw [← hw5, World.size_alloc, s4]
  rw [hw4, hw5]
  have k4 : Keep [] w3 w4 := by rw [← hw4]; exact (Keep.refl _ _).alloc _
  have k5 : Keep [] w4 w5 := by rw [← hw5]; exact (Keep.refl _ _).alloc _
  obtain ⟨w6, hw6⟩ : ∃ u, w5.alloc (.cells #[.int .i64 ep, .int .i64 nd, .slice a own.length d, .pointer (some ⟨w3.heap.size, 0, none⟩), .map (some (w3.heap.size + 1)), .int .i64 0, .int .i64 0] 80) = u := ⟨_, rfl⟩
  have k6 : Keep [] w5 w6 := by rw [← hw6]; exact (Keep.refl _ _).alloc _
  have hco : CoAt w6 (w3.heap.size + 1 + 1) a d w3.heap.size none (w3.heap.size + 1) ⟨ep, nd, own, [], 0, [], 0, 0⟩ := by
    have h0 : IRow 0 w3 (.slice a own.length d) own := own_low HR.out (Nat.zero_le _)
    refine ⟨by rw [← hw6, ← s5]; exact World.alloc_heap_new w5 _, ((h0.keep k4 (by simp)).keep k5 (by simp)).keep k6 (by simp), ?_, ?_, by simp⟩
    · exact ((show BookAt w4 w3.heap.size none [] 0 from by rw [← hw4]; exact book_new w3).keep k5 (by simp)).keep k6 (by simp)
    · exact (show MapIs ekI St.val w5 (w3.heap.size + 1) ([] : List (Int × St)) from by rw [← hw5, ← s4]; exact MapIs.new w4).keep k6 (by simp)
  have hge : ∀ x ∈ cfoot (w3.heap.size + 1 + 1) a d own.length w3.heap.size none (w3.heap.size + 1), w.heap.size ≤ x := by
    intro x hx
    have h3 := HK3.out.size
    have h2 := HK2.out.size
    simp only [cfoot, List.mem_cons, List.mem_append] at hx
    rcases hx with rfl | rfl | rfl | e | e
    · omega
    · omega
    · omega
    · simp at e
    · have := own_base HR.out x (by simpa using e)
      omega
  rw [hw6]
  have HCO := Lib.hid hco
  have HKK := Lib.hid (((HK3.out.trans k4).trans k5).trans k6)
  clear hco k4 k5 k6 hw4 hw5 hw6
  go_ret2
  exact ⟨_, _, _, _, _, rfl, HCO.out, HKK.out, hge⟩
end Go.Proofs.YtdnfibecobodkaaGreat
