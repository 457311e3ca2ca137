/- Messages that are the same. -/
import Derived.Test.YteejdfpfdnkiiaaGreatCsB
namespace Go.Proofs.YteejdfpfdnkiiaaGreat
open Go.RowKit Go.Lib
set_option linter.unusedSimpArgs false
set_option linter.unusedVariables false
theorem msC_facts {W : World} {b k mv pt to ep nd : Nat} {sl : Value} (h : MsAt W b (msC k mv pt to ep nd sl)) : W.cell? ⟨b, 0, none⟩ = some (.int .u8 k) ∧ W.cell? ⟨b, 1, none⟩ = some (.int .i64 mv) ∧ W.cell? ⟨b, 2, none⟩ = some (.int .i64 pt) ∧ W.cell? ⟨b, 3, none⟩ = some (.int .i64 to) ∧ W.cell? ⟨b, 4, none⟩ = some (.int .i64 0) ∧ W.cell? ⟨b, 5, none⟩ = some (.int .i64 0) ∧ W.cell? ⟨b, 6, none⟩ = some (.int .i64 0) ∧ W.cell? ⟨b, 7, none⟩ = some (.int .u64 0) ∧ W.cell? ⟨b, 8, none⟩ = some (.int .i64 0) ∧ W.cell? ⟨b, 9, none⟩ = some (.int .i64 0) ∧ W.cell? ⟨b, 10, none⟩ = some (.int .i64 0) ∧ W.cell? ⟨b, 11, none⟩ = some (.int .i64 0) ∧ W.cell? ⟨b, 12, none⟩ = some (.int .u8 0) ∧ W.cell? ⟨b, 13, none⟩ = some (.string ⟨#[]⟩) ∧ W.cell? ⟨b, 14, none⟩ = some (.int .i64 0) ∧ W.cell? ⟨b, 15, none⟩ = some (.int .i64 0) ∧ W.cell? ⟨b, 16, none⟩ = some (.int .i64 0) ∧ W.cell? ⟨b, 17, none⟩ = some (.int .i64 ep) ∧ W.cell? ⟨b, 18, none⟩ = some (.int .i64 nd) ∧ W.cell? ⟨b, 19, none⟩ = some (sl) ∧ W.cell? ⟨b, 20, none⟩ = some (.slice none 0 0) ∧ W.cell? ⟨b, 21, none⟩ = some (.string ⟨#[]⟩) := ⟨h.cell 0, h.cell 1, h.cell 2, h.cell 3, h.cell 4, h.cell 5, h.cell 6, h.cell 7, h.cell 8, h.cell 9, h.cell 10, h.cell 11, h.cell 12, h.cell 13, h.cell 14, h.cell 15, h.cell 16, h.cell 17, h.cell 18, h.cell 19, h.cell 20, h.cell 21⟩
set_option maxRecDepth 100000 in
set_option maxHeartbeats 4000000 in
theorem same_ms {w : World} (k mv pt to ep nd : Nat) {a b : Option Addr} {own : List Int} (c d : Nat) (ha : IntsAt w a own) (hb : IntsAt w b own) (hl : own.length ≤ 64) : Calls Tryz.prog 83 #[.agg (msC k mv pt to ep nd (.slice a own.length c)), .agg (msC k mv pt to ep nd (.slice b own.length d))] w fun e w' => e = .returned (.bool true) ∧ Keep [] w w' := by
  obtain ⟨w1, hw1⟩ : ∃ u, w.alloc (.cells (msC k mv pt to ep nd (.slice a own.length c)) 47) = u := ⟨_, rfl⟩
  obtain ⟨w2, hw2⟩ : ∃ u, w1.alloc (.cells (msC k mv pt to ep nd (.slice b own.length d)) 47) = u := ⟨_, rfl⟩
  have s1 : w1.heap.size = w.heap.size + 1 := by rw [← hw1, World.size_alloc]
  have k1 : Keep [] w w1 := by rw [← hw1]; exact (Keep.refl _ _).alloc _
  have k2 : Keep [] w1 w2 := by rw [← hw2]; exact (Keep.refl _ _).alloc _
  have m1 : MsAt w1 w.heap.size (msC k mv pt to ep nd (.slice a own.length c)) := by rw [← hw1]; exact World.alloc_heap_new w _
  have m2 : MsAt w2 (w.heap.size + 1) (msC k mv pt to ep nd (.slice b own.length d)) := by rw [← hw2, ← s1]; exact World.alloc_heap_new w1 _
  have m1' := m1.keep k2 (by simp)
  have hit : ∀ W, (binOp .eql 45 (.agg #[.int .i64 0, .int .i64 0, .int .i64 0, .int .u8 0, .string ⟨#[]⟩, .int .i64 0, .int .i64 0, .int .i64 0]) (.agg #[.int .i64 0, .int .i64 0, .int .i64 0, .int .u8 0, .string ⟨#[]⟩, .int .i64 0, .int .i64 0, .int .i64 0])).run Tryz.prog W = .ok (.bool true) W := fun W => by kernel_rfl
  obtain ⟨c0, c1, c2, c3, c4, c5, c6, c7, c8, c9, c10, c11, c12, c13, c14, c15, c16, c17, c18, c19, c20, c21⟩ := msC_facts m1'
  obtain ⟨d0, d1, d2, d3, d4, d5, d6, d7, d8, d9, d10, d11, d12, d13, d14, d15, d16, d17, d18, d19, d20, d21⟩ := msC_facts m2
  have HK := Lib.hid (k1.trans k2)
  have HN := Lib.hid (equalI_any (w := w2) (a := none) (b := none) (l := []) (m := []) 0 0 (fun h => absurd rfl h) (fun h => absurd rfl h) (by simp) (by simp))
  have HA := Lib.hid (ha.keep HK.out (by simp))
  have HB := Lib.hid (hb.keep HK.out (by simp))
  have M1 := Lib.hid m1'
  have M2 := Lib.hid m2
  unfold msC at hw1 hw2 ⊢
  clear m1 m1' m2 k1 k2 ha hb
  go_enter Tryz.func83, Tryz.ntmps83
  go_wp2_with (fail)
  refine HN.out.mono ?_
  rintro e w3 ⟨rfl, hk3⟩
  have HK3 := Lib.hid (HK.out.trans hk3)
  obtain ⟨e0, e1, e2, e3, e4, e5, e6, e7, e8, e9, e10, e11, e12, e13, e14, e15, e16, e17, e18, e19, e20, e21⟩ := msC_facts (M1.out.keep hk3 (by simp))
  obtain ⟨f0, f1, f2, f3, f4, f5, f6, f7, f8, f9, f10, f11, f12, f13, f14, f15, f16, f17, f18, f19, f20, f21⟩ := msC_facts (M2.out.keep hk3 (by simp))
  have HE := Lib.hid (equalI_any c d (HA.out.keep hk3 (by simp)) (HB.out.keep hk3 (by simp)) (by omega) (by omega))
  have M1 := Lib.hid (M1.out.keep hk3 (by simp))
  have M2 := Lib.hid (M2.out.keep hk3 (by simp))
  clear hk3
  clear c0 c1 c2 c3 c4 c5 c6 c7 c8 c9 c10 c11 c12 c13 c14 c15 c16 c17 c18 c19 c20 c21 d0 d1 d2 d3 d4 d5 d6 d7 d8 d9 d10 d11 d12 d13 d14 d15 d16 d17 d18 d19 d20 d21
  simp only [decide_true]
  go_wp2_with (fail)
  refine HE.out.mono ?_
  rintro e w4 ⟨rfl, hk4⟩
  have HK4 := Lib.hid (HK3.out.trans hk4)
  obtain ⟨c0, c1, c2, c3, c4, c5, c6, c7, c8, c9, c10, c11, c12, c13, c14, c15, c16, c17, c18, c19, c20, c21⟩ := msC_facts (M1.out.keep hk4 (by simp))
  obtain ⟨d0, d1, d2, d3, d4, d5, d6, d7, d8, d9, d10, d11, d12, d13, d14, d15, d16, d17, d18, d19, d20, d21⟩ := msC_facts (M2.out.keep hk4 (by simp))
  clear hk4
  clear e0 e1 e2 e3 e4 e5 e6 e7 e8 e9 e10 e11 e12 e13 e14 e15 e16 e17 e18 e19 e20 e21 f0 f1 f2 f3 f4 f5 f6 f7 f8 f9 f10 f11 f12 f13 f14 f15 f16 f17 f18 f19 f20 f21
  simp only [decide_true]
  go_wp2_with (fail)
  go_ret
  exact ⟨rfl, HK4.out⟩
end Go.Proofs.YteejdfpfdnkiiaaGreat
