/- A message with the fields of its kind alone (toward CoordPlays). -/
import Derived.Test.YteejdfpfdnkiiaaGreatCqH
import Derived.Test.YteejdfpfdnkiiaaGreatPf
namespace Go.Proofs.YteejdfpfdnkiiaaGreat
open Go.RowKit Go.Lib
set_option linter.unusedSimpArgs false
set_option linter.unusedVariables false
theorem ms_frozen {W : World} {b : Nat} {cs : Array Value} (h : MsAt W b cs) (o : Nat) : W.frozen? ⟨b, o, none⟩ = false := by
  unfold MsAt at h
  unfold World.frozen?
  rw [h]
  simp
def msI (k mv pt to ep nd : Int) (sl : Value) : Array Value := #[.int .u8 k, .int .i64 mv, .int .i64 pt, .int .i64 to, .int .i64 0, .int .i64 0, .int .i64 0, .int .u64 0, .int .i64 0, .int .i64 0, .int .i64 0, .int .i64 0, .int .u8 0, .string ⟨#[]⟩, .int .i64 0, .int .i64 0, .int .i64 0, .int .i64 ep, .int .i64 nd, sl, .slice none 0 0, .string ⟨#[]⟩]
def zI : Array Value := #[.int .i64 0, .int .i64 0, .int .i64 0, .int .u8 0, .string ⟨#[]⟩, .int .i64 0, .int .i64 0, .int .i64 0]
theorem msI_facts {W : World} {b : Nat} {k mv pt to ep nd : Int} {sl : Value} (h : MsAt W b (msI k mv pt to ep nd sl)) : W.cell? ⟨b, 0, none⟩ = some (.int .u8 k) ∧ W.cell? ⟨b, 1, none⟩ = some (.int .i64 mv) ∧ W.cell? ⟨b, 2, none⟩ = some (.int .i64 pt) ∧ W.cell? ⟨b, 3, none⟩ = some (.int .i64 to) ∧ W.cell? ⟨b, 6, none⟩ = some (.int .i64 0) ∧ W.cell? ⟨b, 9, none⟩ = some (.int .i64 0) ∧ W.cell? ⟨b, 10, none⟩ = some (.int .i64 0) ∧ W.cell? ⟨b, 17, none⟩ = some (.int .i64 ep) ∧ W.cell? ⟨b, 18, none⟩ = some (.int .i64 nd) ∧ W.cell? ⟨b, 19, none⟩ = some sl := ⟨h.cell 0, h.cell 1, h.cell 2, h.cell 3, h.cell 6, h.cell 9, h.cell 10, h.cell 17, h.cell 18, h.cell 19⟩
set_option maxRecDepth 100000 in
set_option maxHeartbeats 4000000 in
theorem ronly_4 {w : World} (mv pt to : Nat) : Calls Tryz.prog 87 #[.agg (msC 4 mv pt to 0 0 (.slice none 0 0))] w fun e w' => e = .returned (.agg (msC 4 mv pt to 0 0 (.slice none 0 0))) ∧ Keep [] w w' := by
  show Calls Tryz.prog 87 #[.agg (msI 4 mv pt to 0 0 (.slice none 0 0))] w fun e w' => e = .returned (.agg (msI 4 mv pt to 0 0 (.slice none 0 0))) ∧ Keep [] w w'
  obtain ⟨w1, hw1⟩ : ∃ u, w.alloc (.cells (msI 4 mv pt to 0 0 (.slice none 0 0)) 47) = u := ⟨_, rfl⟩
  obtain ⟨w2, hw2⟩ : ∃ u, w1.alloc (.cells (msI 0 0 0 0 0 0 (.slice none 0 0)) 47) = u := ⟨_, rfl⟩
  obtain ⟨w3, hw3⟩ : ∃ u, w2.alloc (.cells (msI 0 0 0 0 0 0 (.slice none 0 0)) 47) = u := ⟨_, rfl⟩
  have s1 : w1.heap.size = w.heap.size + 1 := by rw [← hw1, World.size_alloc]
  have s2 : w2.heap.size = w.heap.size + 1 + 1 := by rw [← hw2, World.size_alloc, s1]
  have s3 : w3.heap.size = w.heap.size + 1 + 1 + 1 := by rw [← hw3, World.size_alloc, s2]
  have k1 : Keep [] w w1 := by rw [← hw1]; exact (Keep.refl _ _).alloc _
  have k2 : Keep [] w1 w2 := by rw [← hw2]; exact (Keep.refl _ _).alloc _
  have k3 : Keep [] w2 w3 := by rw [← hw3]; exact (Keep.refl _ _).alloc _
  have m0 : MsAt w1 w.heap.size (msI 4 mv pt to 0 0 (.slice none 0 0)) := by rw [← hw1]; exact World.alloc_heap_new w _
  replace m0 := m0.keep k2 (by simp <;> omega)
  have r0 : MsAt w2 (w.heap.size + 1) (msI 0 0 0 0 0 0 (.slice none 0 0)) := by rw [← hw2, ← s1]; exact World.alloc_heap_new w1 _
  have x3 : MsAt w3 (w.heap.size + 1 + 1) (msI 0 0 0 0 0 0 (.slice none 0 0)) := by rw [← hw3, ← s2]; exact World.alloc_heap_new w2 _
  obtain ⟨w4, hw4⟩ : ∃ u, w3.setRow (w.heap.size + 1 + 1) (msI 4 0 0 0 0 0 (.slice none 0 0)) = u := ⟨_, rfl⟩
  have hst3 := run_storeVar_row (P := Tryz.prog) w3 (w.heap.size + 1 + 1) 47 47 _ (msI 4 0 0 0 0 0 (.slice none 0 0)) x3 (by kernel_rfl) rfl (by simp [msI, Value.oneCell'])
  rw [hw4] at hst3
  have k4 : Keep [w.heap.size + 1 + 1] w3 w4 := by rw [← hw4]; exact (Keep.refl _ _).setRow _ _ (.inl (by simp))
  have s4 : w4.heap.size = w.heap.size + 1 + 1 + 1 := by rw [← hw4]; simpa using s3
  have x4 : MsAt w4 (w.heap.size + 1 + 1) (msI 4 0 0 0 0 0 (.slice none 0 0)) := by rw [← hw4]; exact setRow_heap w3 _ _ _ _ _ x3
  obtain ⟨w5, hw5⟩ : ∃ u, (w4.setCell ⟨w.heap.size + 1 + 1, 1, none⟩ (.int .i64 mv)).setCell ⟨w.heap.size + 1 + 1, 2, none⟩ (.int .i64 pt) = u := ⟨_, rfl⟩
  have k5 : Keep [w.heap.size + 1 + 1] w4 w5 := by rw [← hw5]; exact ((Keep.refl _ _).setCell _ _ _ (.inl (by simp))).setCell _ _ _ (.inl (by simp))
  have x5 : MsAt w5 (w.heap.size + 1 + 1) (msI 4 mv pt 0 0 0 (.slice none 0 0)) := by rw [← hw5]; exact (x4.set 1 (.int .i64 mv)).set 2 (.int .i64 pt)
  have s5 : w5.heap.size = w.heap.size + 1 + 1 + 1 := by rw [← hw5]; simpa using s4
  obtain ⟨w6, hw6⟩ : ∃ u, w5.alloc (.cells zI 45) = u := ⟨_, rfl⟩
  have s6 : w6.heap.size = w.heap.size + 1 + 1 + 1 + 1 := by rw [← hw6, World.size_alloc, s5]
  have k6 : Keep [] w5 w6 := by rw [← hw6]; exact (Keep.refl _ _).alloc _
  have i6 : w6.heap[w.heap.size + 1 + 1 + 1]? = some (.cells zI 45 (0, 0)) := by rw [← hw6, ← s5]; exact World.alloc_heap_new _ _
  obtain ⟨w7, hw7⟩ : ∃ u, w6.setRow (w.heap.size + 1 + 1 + 1) zI = u := ⟨_, rfl⟩
  have hst6 := run_storeVar_row (P := Tryz.prog) w6 (w.heap.size + 1 + 1 + 1) 45 45 _ zI i6 (by kernel_rfl) rfl (by simp [zI, Value.oneCell'])
  rw [hw7] at hst6
  have k7 : Keep [w.heap.size + 1 + 1 + 1] w6 w7 := by rw [← hw7]; exact (Keep.refl _ _).setRow _ _ (.inl (by simp))
  have x7 := (x5.keep k6 (by simp <;> omega)).keep k7 (by simp <;> omega)
  obtain ⟨w8, hw8⟩ : ∃ u, w7.setCell ⟨w.heap.size + 1 + 1, 3, none⟩ (.int .i64 to) = u := ⟨_, rfl⟩
  have k8 : Keep [w.heap.size + 1 + 1] w7 w8 := by rw [← hw8]; exact (Keep.refl _ _).setCell _ _ _ (.inl (by simp))
  have x8 : MsAt w8 (w.heap.size + 1 + 1) (msI 4 mv pt to 0 0 (.slice none 0 0)) := by rw [← hw8]; exact x7.set 3 (.int .i64 to)
  have r8 := (((((r0.keep k3 (by simp <;> omega)).keep k4 (by simp <;> omega)).keep k5 (by simp <;> omega)).keep k6 (by simp <;> omega)).keep k7 (by simp <;> omega)).keep k8 (by simp <;> omega)
  obtain ⟨w9, hw9⟩ : ∃ u, w8.setRow (w.heap.size + 1) (msI 4 mv pt to 0 0 (.slice none 0 0)) = u := ⟨_, rfl⟩
  have hst8 := run_storeVar_row (P := Tryz.prog) w8 (w.heap.size + 1) 47 47 _ (msI 4 mv pt to 0 0 (.slice none 0 0)) r8 (by kernel_rfl) rfl (by simp [msI, Value.oneCell'])
  rw [hw9] at hst8
  have r9 : w9.heap[w.heap.size + 1]? = some (.cells (msI 4 mv pt to 0 0 (.slice none 0 0)) 47 (0, 0)) := by rw [← hw9]; exact setRow_heap w8 _ _ _ _ _ r8
  have k9 : Keep [w.heap.size + 1] w8 w9 := by rw [← hw9]; exact (Keep.refl _ _).setRow _ _ (.inl (by simp))
  have HK : Hid (Keep [] w w9) := Lib.hid ((((((((k1.trans k2).trans k3).step k4 (by intro y hy; simp only [List.mem_singleton] at hy; exact .inr (by omega))).step k5 (by intro y hy; simp only [List.mem_singleton] at hy; exact .inr (by omega))).trans k6).step k7 (by intro y hy; simp only [List.mem_singleton] at hy; exact .inr (by omega))).step k8 (by intro y hy; simp only [List.mem_singleton] at hy; exact .inr (by omega))).step k9 (by intro y hy; simp only [List.mem_singleton] at hy; exact .inr (by omega)))
  have m4 := (m0.keep k3 (by simp <;> omega)).keep k4 (by simp <;> omega)
  have m5 := m4.keep k5 (by simp <;> omega)
  have m7 := (m5.keep k6 (by simp <;> omega)).keep k7 (by simp <;> omega)
  obtain ⟨a0, _⟩ := msI_facts m0
  obtain ⟨b0, b1, b2, _⟩ := msI_facts m4
  obtain ⟨c0, c1, c2, c3, c6, c9, c10, _⟩ := msI_facts m5
  obtain ⟨d0, d1, d2, d3, d6, d9, d10, d17, d18, d19⟩ := msI_facts m7
  have f4 := ms_frozen x4
  obtain ⟨p0, p1, p2, _⟩ := msI_facts x4
  obtain ⟨q0, q1, q2, q3, q6, q9, q10, q17, q18, q19⟩ := msI_facts x7
  have f7 := ms_frozen x7
  have HST3 := Lib.hid hst3
  have HST6 := Lib.hid hst6
  have HST8 := Lib.hid hst8
  have HX8 : Hid (w8.heap[w.heap.size + 1 + 1]? = some (.cells (msI 4 mv pt to 0 0 (.slice none 0 0)) 47 (0, 0))) := Lib.hid x8
  have HSZ := Lib.hid (show (Tryz.prog.info? 47).map (·.size) = some ((msI 4 mv pt to 0 0 (.slice none 0 0)) : Array Value).size by kernel_rfl)
  have HR9 := Lib.hid r9
  clear hst3 hst6 hst8 x3 x4 x5 x7 x8 r0 r8 r9 m0 m4 m5 m7 i6 k1 k2 k3 k4 k5 k6 k7 k8 k9 hw4 hw7 hw9
  unfold msI at hw1 hw2 hw3 HST3 HST8 HX8 HSZ HR9 ⊢
  unfold zI at hw6 HST6
  go_enter Tryz.func87, Tryz.ntmps87
  go_wp2_with (first | ((with_reducible refine wpList_store_all ?_ 47 (.tmp 3) (.tmp 7) ?_ (w.heap.size + 1 + 1) ?_ _ ?_ HST3.out ?_); rfl; rfl; rfl; rfl) | ((with_reducible refine wpList_store_all ?_ 45 (.tmp 4) (.tmp 28) ?_ (w.heap.size + 1 + 1 + 1) ?_ _ ?_ HST6.out ?_); rfl; rfl; rfl; rfl) | ((with_reducible refine wpList_load_row ?_ 47 (.tmp 3) ?_ (w.heap.size + 1 + 1) ?_ 47 _ (0, 0) _ HX8.out Tryz.underlying47 ?_ HSZ.out ?_); rfl; rfl; rfl; rfl) | ((with_reducible refine wpList_store_all ?_ 47 (.tmp 2) (.tmp 109) ?_ (w.heap.size + 1) ?_ _ ?_ HST8.out ?_); rfl; rfl; rfl; rfl))
  refine bodyPost_ret (results_cell_row rfl _ w9 (w.heap.size + 1) 47 _ (0, 0) _ rfl HR9.out Tryz.underlying47 rfl (by kernel_rfl)) rfl ?_
  exact ⟨rfl, HK.out⟩
set_option maxRecDepth 100000 in
set_option maxHeartbeats 4000000 in
theorem ronly_11 {w : World} (mv pt ep nd : Nat) (a : Option Addr) (n c : Nat) : Calls Tryz.prog 87 #[.agg (msC 11 mv pt 0 ep nd (.slice a n c))] w fun e w' => e = .returned (.agg (msC 11 mv pt 0 ep nd (.slice a n c))) ∧ Keep [] w w' := by
  show Calls Tryz.prog 87 #[.agg (msI 11 mv pt 0 ep nd (.slice a n c))] w fun e w' => e = .returned (.agg (msI 11 mv pt 0 ep nd (.slice a n c))) ∧ Keep [] w w'
  obtain ⟨w1, hw1⟩ : ∃ u, w.alloc (.cells (msI 11 mv pt 0 ep nd (.slice a n c)) 47) = u := ⟨_, rfl⟩
  obtain ⟨w2, hw2⟩ : ∃ u, w1.alloc (.cells (msI 0 0 0 0 0 0 (.slice none 0 0)) 47) = u := ⟨_, rfl⟩
  obtain ⟨w3, hw3⟩ : ∃ u, w2.alloc (.cells (msI 0 0 0 0 0 0 (.slice none 0 0)) 47) = u := ⟨_, rfl⟩
  have s1 : w1.heap.size = w.heap.size + 1 := by rw [← hw1, World.size_alloc]
  have s2 : w2.heap.size = w.heap.size + 1 + 1 := by rw [← hw2, World.size_alloc, s1]
  have s3 : w3.heap.size = w.heap.size + 1 + 1 + 1 := by rw [← hw3, World.size_alloc, s2]
  have k1 : Keep [] w w1 := by rw [← hw1]; exact (Keep.refl _ _).alloc _
  have k2 : Keep [] w1 w2 := by rw [← hw2]; exact (Keep.refl _ _).alloc _
  have k3 : Keep [] w2 w3 := by rw [← hw3]; exact (Keep.refl _ _).alloc _
  have m0 : MsAt w1 w.heap.size (msI 11 mv pt 0 ep nd (.slice a n c)) := by rw [← hw1]; exact World.alloc_heap_new w _
  replace m0 := m0.keep k2 (by simp <;> omega)
  have r0 : MsAt w2 (w.heap.size + 1) (msI 0 0 0 0 0 0 (.slice none 0 0)) := by rw [← hw2, ← s1]; exact World.alloc_heap_new w1 _
  have x3 : MsAt w3 (w.heap.size + 1 + 1) (msI 0 0 0 0 0 0 (.slice none 0 0)) := by rw [← hw3, ← s2]; exact World.alloc_heap_new w2 _
  obtain ⟨w4, hw4⟩ : ∃ u, w3.setRow (w.heap.size + 1 + 1) (msI 11 0 0 0 0 0 (.slice none 0 0)) = u := ⟨_, rfl⟩
  have hst3 := run_storeVar_row (P := Tryz.prog) w3 (w.heap.size + 1 + 1) 47 47 _ (msI 11 0 0 0 0 0 (.slice none 0 0)) x3 (by kernel_rfl) rfl (by simp [msI, Value.oneCell'])
  rw [hw4] at hst3
  have k4 : Keep [w.heap.size + 1 + 1] w3 w4 := by rw [← hw4]; exact (Keep.refl _ _).setRow _ _ (.inl (by simp))
  have s4 : w4.heap.size = w.heap.size + 1 + 1 + 1 := by rw [← hw4]; simpa using s3
  have x4 : MsAt w4 (w.heap.size + 1 + 1) (msI 11 0 0 0 0 0 (.slice none 0 0)) := by rw [← hw4]; exact setRow_heap w3 _ _ _ _ _ x3
  obtain ⟨w5, hw5⟩ : ∃ u, (w4.setCell ⟨w.heap.size + 1 + 1, 1, none⟩ (.int .i64 mv)).setCell ⟨w.heap.size + 1 + 1, 2, none⟩ (.int .i64 pt) = u := ⟨_, rfl⟩
  have k5 : Keep [w.heap.size + 1 + 1] w4 w5 := by rw [← hw5]; exact ((Keep.refl _ _).setCell _ _ _ (.inl (by simp))).setCell _ _ _ (.inl (by simp))
  have x5 : MsAt w5 (w.heap.size + 1 + 1) (msI 11 mv pt 0 0 0 (.slice none 0 0)) := by rw [← hw5]; exact (x4.set 1 (.int .i64 mv)).set 2 (.int .i64 pt)
  have s5 : w5.heap.size = w.heap.size + 1 + 1 + 1 := by rw [← hw5]; simpa using s4
  obtain ⟨w6, hw6⟩ : ∃ u, w5.alloc (.cells zI 45) = u := ⟨_, rfl⟩
  have s6 : w6.heap.size = w.heap.size + 1 + 1 + 1 + 1 := by rw [← hw6, World.size_alloc, s5]
  have k6 : Keep [] w5 w6 := by rw [← hw6]; exact (Keep.refl _ _).alloc _
  have i6 : w6.heap[w.heap.size + 1 + 1 + 1]? = some (.cells zI 45 (0, 0)) := by rw [← hw6, ← s5]; exact World.alloc_heap_new _ _
  obtain ⟨w7, hw7⟩ : ∃ u, w6.setRow (w.heap.size + 1 + 1 + 1) zI = u := ⟨_, rfl⟩
  have hst6 := run_storeVar_row (P := Tryz.prog) w6 (w.heap.size + 1 + 1 + 1) 45 45 _ zI i6 (by kernel_rfl) rfl (by simp [zI, Value.oneCell'])
  rw [hw7] at hst6
  have k7 : Keep [w.heap.size + 1 + 1 + 1] w6 w7 := by rw [← hw7]; exact (Keep.refl _ _).setRow _ _ (.inl (by simp))
  have x7 := (x5.keep k6 (by simp <;> omega)).keep k7 (by simp <;> omega)
  obtain ⟨w8, hw8⟩ : ∃ u, ((w7.setCell ⟨w.heap.size + 1 + 1, 17, none⟩ (.int .i64 ep)).setCell ⟨w.heap.size + 1 + 1, 18, none⟩ (.int .i64 nd)).setCell ⟨w.heap.size + 1 + 1, 19, none⟩ (.slice a n c) = u := ⟨_, rfl⟩
  have k8 : Keep [w.heap.size + 1 + 1] w7 w8 := by rw [← hw8]; exact (((Keep.refl _ _).setCell _ _ _ (.inl (by simp))).setCell _ _ _ (.inl (by simp))).setCell _ _ _ (.inl (by simp))
  have x8 : MsAt w8 (w.heap.size + 1 + 1) (msI 11 mv pt 0 ep nd (.slice a n c)) := by rw [← hw8]; exact ((x7.set 17 (.int .i64 ep)).set 18 (.int .i64 nd)).set 19 (.slice a n c)
  have r8 := (((((r0.keep k3 (by simp <;> omega)).keep k4 (by simp <;> omega)).keep k5 (by simp <;> omega)).keep k6 (by simp <;> omega)).keep k7 (by simp <;> omega)).keep k8 (by simp <;> omega)
  obtain ⟨w9, hw9⟩ : ∃ u, w8.setRow (w.heap.size + 1) (msI 11 mv pt 0 ep nd (.slice a n c)) = u := ⟨_, rfl⟩
  have hst8 := run_storeVar_row (P := Tryz.prog) w8 (w.heap.size + 1) 47 47 _ (msI 11 mv pt 0 ep nd (.slice a n c)) r8 (by kernel_rfl) rfl (by simp [msI, Value.oneCell'])
  rw [hw9] at hst8
  have r9 : w9.heap[w.heap.size + 1]? = some (.cells (msI 11 mv pt 0 ep nd (.slice a n c)) 47 (0, 0)) := by rw [← hw9]; exact setRow_heap w8 _ _ _ _ _ r8
  have k9 : Keep [w.heap.size + 1] w8 w9 := by rw [← hw9]; exact (Keep.refl _ _).setRow _ _ (.inl (by simp))
  have HK : Hid (Keep [] w w9) := Lib.hid ((((((((k1.trans k2).trans k3).step k4 (by intro y hy; simp only [List.mem_singleton] at hy; exact .inr (by omega))).step k5 (by intro y hy; simp only [List.mem_singleton] at hy; exact .inr (by omega))).trans k6).step k7 (by intro y hy; simp only [List.mem_singleton] at hy; exact .inr (by omega))).step k8 (by intro y hy; simp only [List.mem_singleton] at hy; exact .inr (by omega))).step k9 (by intro y hy; simp only [List.mem_singleton] at hy; exact .inr (by omega)))
  have m4 := (m0.keep k3 (by simp <;> omega)).keep k4 (by simp <;> omega)
  have m5 := m4.keep k5 (by simp <;> omega)
  have m7 := (m5.keep k6 (by simp <;> omega)).keep k7 (by simp <;> omega)
  obtain ⟨a0, _⟩ := msI_facts m0
  obtain ⟨b0, b1, b2, _⟩ := msI_facts m4
  obtain ⟨c0, c1, c2, c3, c6, c9, c10, _⟩ := msI_facts m5
  obtain ⟨d0, d1, d2, d3, d6, d9, d10, d17, d18, d19⟩ := msI_facts m7
  have f4 := ms_frozen x4
  obtain ⟨p0, p1, p2, _⟩ := msI_facts x4
  obtain ⟨q0, q1, q2, q3, q6, q9, q10, q17, q18, q19⟩ := msI_facts x7
  have f7 := ms_frozen x7
  have HST3 := Lib.hid hst3
  have HST6 := Lib.hid hst6
  have HST8 := Lib.hid hst8
  have HX8 : Hid (w8.heap[w.heap.size + 1 + 1]? = some (.cells (msI 11 mv pt 0 ep nd (.slice a n c)) 47 (0, 0))) := Lib.hid x8
  have HSZ := Lib.hid (show (Tryz.prog.info? 47).map (·.size) = some ((msI 11 mv pt 0 ep nd (.slice a n c)) : Array Value).size by kernel_rfl)
  have HR9 := Lib.hid r9
  clear hst3 hst6 hst8 x3 x4 x5 x7 x8 r0 r8 r9 m0 m4 m5 m7 i6 k1 k2 k3 k4 k5 k6 k7 k8 k9 hw4 hw7 hw9
  unfold msI at hw1 hw2 hw3 HST3 HST8 HX8 HSZ HR9 ⊢
  unfold zI at hw6 HST6
  go_enter Tryz.func87, Tryz.ntmps87
  go_wp2_with (first | ((with_reducible refine wpList_store_all ?_ 47 (.tmp 3) (.tmp 7) ?_ (w.heap.size + 1 + 1) ?_ _ ?_ HST3.out ?_); rfl; rfl; rfl; rfl) | ((with_reducible refine wpList_store_all ?_ 45 (.tmp 4) (.tmp 28) ?_ (w.heap.size + 1 + 1 + 1) ?_ _ ?_ HST6.out ?_); rfl; rfl; rfl; rfl) | ((with_reducible refine wpList_load_row ?_ 47 (.tmp 3) ?_ (w.heap.size + 1 + 1) ?_ 47 _ (0, 0) _ HX8.out Tryz.underlying47 ?_ HSZ.out ?_); rfl; rfl; rfl; rfl) | ((with_reducible refine wpList_store_all ?_ 47 (.tmp 2) (.tmp 109) ?_ (w.heap.size + 1) ?_ _ ?_ HST8.out ?_); rfl; rfl; rfl; rfl))
  refine bodyPost_ret (results_cell_row rfl _ w9 (w.heap.size + 1) 47 _ (0, 0) _ rfl HR9.out Tryz.underlying47 rfl (by kernel_rfl)) rfl ?_
  exact ⟨rfl, HK.out⟩
set_option maxRecDepth 100000 in
set_option maxHeartbeats 4000000 in
theorem ronly_12 {w : World} (mv pt : Nat) : Calls Tryz.prog 87 #[.agg (msC 12 mv pt 0 0 0 (.slice none 0 0))] w fun e w' => e = .returned (.agg (msC 12 mv pt 0 0 0 (.slice none 0 0))) ∧ Keep [] w w' := by
  show Calls Tryz.prog 87 #[.agg (msI 12 mv pt 0 0 0 (.slice none 0 0))] w fun e w' => e = .returned (.agg (msI 12 mv pt 0 0 0 (.slice none 0 0))) ∧ Keep [] w w'
  obtain ⟨w1, hw1⟩ : ∃ u, w.alloc (.cells (msI 12 mv pt 0 0 0 (.slice none 0 0)) 47) = u := ⟨_, rfl⟩
  obtain ⟨w2, hw2⟩ : ∃ u, w1.alloc (.cells (msI 0 0 0 0 0 0 (.slice none 0 0)) 47) = u := ⟨_, rfl⟩
  obtain ⟨w3, hw3⟩ : ∃ u, w2.alloc (.cells (msI 0 0 0 0 0 0 (.slice none 0 0)) 47) = u := ⟨_, rfl⟩
  have s1 : w1.heap.size = w.heap.size + 1 := by rw [← hw1, World.size_alloc]
  have s2 : w2.heap.size = w.heap.size + 1 + 1 := by rw [← hw2, World.size_alloc, s1]
  have s3 : w3.heap.size = w.heap.size + 1 + 1 + 1 := by rw [← hw3, World.size_alloc, s2]
  have k1 : Keep [] w w1 := by rw [← hw1]; exact (Keep.refl _ _).alloc _
  have k2 : Keep [] w1 w2 := by rw [← hw2]; exact (Keep.refl _ _).alloc _
  have k3 : Keep [] w2 w3 := by rw [← hw3]; exact (Keep.refl _ _).alloc _
  have m0 : MsAt w1 w.heap.size (msI 12 mv pt 0 0 0 (.slice none 0 0)) := by rw [← hw1]; exact World.alloc_heap_new w _
  replace m0 := m0.keep k2 (by simp <;> omega)
  have r0 : MsAt w2 (w.heap.size + 1) (msI 0 0 0 0 0 0 (.slice none 0 0)) := by rw [← hw2, ← s1]; exact World.alloc_heap_new w1 _
  have x3 : MsAt w3 (w.heap.size + 1 + 1) (msI 0 0 0 0 0 0 (.slice none 0 0)) := by rw [← hw3, ← s2]; exact World.alloc_heap_new w2 _
  obtain ⟨w4, hw4⟩ : ∃ u, w3.setRow (w.heap.size + 1 + 1) (msI 12 0 0 0 0 0 (.slice none 0 0)) = u := ⟨_, rfl⟩
  have hst3 := run_storeVar_row (P := Tryz.prog) w3 (w.heap.size + 1 + 1) 47 47 _ (msI 12 0 0 0 0 0 (.slice none 0 0)) x3 (by kernel_rfl) rfl (by simp [msI, Value.oneCell'])
  rw [hw4] at hst3
  have k4 : Keep [w.heap.size + 1 + 1] w3 w4 := by rw [← hw4]; exact (Keep.refl _ _).setRow _ _ (.inl (by simp))
  have s4 : w4.heap.size = w.heap.size + 1 + 1 + 1 := by rw [← hw4]; simpa using s3
  have x4 : MsAt w4 (w.heap.size + 1 + 1) (msI 12 0 0 0 0 0 (.slice none 0 0)) := by rw [← hw4]; exact setRow_heap w3 _ _ _ _ _ x3
  obtain ⟨w5, hw5⟩ : ∃ u, (w4.setCell ⟨w.heap.size + 1 + 1, 1, none⟩ (.int .i64 mv)).setCell ⟨w.heap.size + 1 + 1, 2, none⟩ (.int .i64 pt) = u := ⟨_, rfl⟩
  have k5 : Keep [w.heap.size + 1 + 1] w4 w5 := by rw [← hw5]; exact ((Keep.refl _ _).setCell _ _ _ (.inl (by simp))).setCell _ _ _ (.inl (by simp))
  have x5 : MsAt w5 (w.heap.size + 1 + 1) (msI 12 mv pt 0 0 0 (.slice none 0 0)) := by rw [← hw5]; exact (x4.set 1 (.int .i64 mv)).set 2 (.int .i64 pt)
  have s5 : w5.heap.size = w.heap.size + 1 + 1 + 1 := by rw [← hw5]; simpa using s4
  obtain ⟨w6, hw6⟩ : ∃ u, w5.alloc (.cells zI 45) = u := ⟨_, rfl⟩
  have s6 : w6.heap.size = w.heap.size + 1 + 1 + 1 + 1 := by rw [← hw6, World.size_alloc, s5]
  have k6 : Keep [] w5 w6 := by rw [← hw6]; exact (Keep.refl _ _).alloc _
  have i6 : w6.heap[w.heap.size + 1 + 1 + 1]? = some (.cells zI 45 (0, 0)) := by rw [← hw6, ← s5]; exact World.alloc_heap_new _ _
  obtain ⟨w7, hw7⟩ : ∃ u, w6.setRow (w.heap.size + 1 + 1 + 1) zI = u := ⟨_, rfl⟩
  have hst6 := run_storeVar_row (P := Tryz.prog) w6 (w.heap.size + 1 + 1 + 1) 45 45 _ zI i6 (by kernel_rfl) rfl (by simp [zI, Value.oneCell'])
  rw [hw7] at hst6
  have k7 : Keep [w.heap.size + 1 + 1 + 1] w6 w7 := by rw [← hw7]; exact (Keep.refl _ _).setRow _ _ (.inl (by simp))
  have x7 := (x5.keep k6 (by simp <;> omega)).keep k7 (by simp <;> omega)
  have k8 : Keep [w.heap.size + 1 + 1] w7 w7 := Keep.refl _ _
  have x8 : MsAt w7 (w.heap.size + 1 + 1) (msI 12 mv pt 0 0 0 (.slice none 0 0)) := x7
  have r8 := (((((r0.keep k3 (by simp <;> omega)).keep k4 (by simp <;> omega)).keep k5 (by simp <;> omega)).keep k6 (by simp <;> omega)).keep k7 (by simp <;> omega)).keep k8 (by simp <;> omega)
  obtain ⟨w9, hw9⟩ : ∃ u, w7.setRow (w.heap.size + 1) (msI 12 mv pt 0 0 0 (.slice none 0 0)) = u := ⟨_, rfl⟩
  have hst8 := run_storeVar_row (P := Tryz.prog) w7 (w.heap.size + 1) 47 47 _ (msI 12 mv pt 0 0 0 (.slice none 0 0)) r8 (by kernel_rfl) rfl (by simp [msI, Value.oneCell'])
  rw [hw9] at hst8
  have r9 : w9.heap[w.heap.size + 1]? = some (.cells (msI 12 mv pt 0 0 0 (.slice none 0 0)) 47 (0, 0)) := by rw [← hw9]; exact setRow_heap w7 _ _ _ _ _ r8
  have k9 : Keep [w.heap.size + 1] w7 w9 := by rw [← hw9]; exact (Keep.refl _ _).setRow _ _ (.inl (by simp))
  have HK : Hid (Keep [] w w9) := Lib.hid ((((((((k1.trans k2).trans k3).step k4 (by intro y hy; simp only [List.mem_singleton] at hy; exact .inr (by omega))).step k5 (by intro y hy; simp only [List.mem_singleton] at hy; exact .inr (by omega))).trans k6).step k7 (by intro y hy; simp only [List.mem_singleton] at hy; exact .inr (by omega))).step k8 (by intro y hy; simp only [List.mem_singleton] at hy; exact .inr (by omega))).step k9 (by intro y hy; simp only [List.mem_singleton] at hy; exact .inr (by omega)))
  have m4 := (m0.keep k3 (by simp <;> omega)).keep k4 (by simp <;> omega)
  have m5 := m4.keep k5 (by simp <;> omega)
  have m7 := (m5.keep k6 (by simp <;> omega)).keep k7 (by simp <;> omega)
  obtain ⟨a0, _⟩ := msI_facts m0
  obtain ⟨b0, b1, b2, _⟩ := msI_facts m4
  obtain ⟨c0, c1, c2, c3, c6, c9, c10, _⟩ := msI_facts m5
  obtain ⟨d0, d1, d2, d3, d6, d9, d10, d17, d18, d19⟩ := msI_facts m7
  have f4 := ms_frozen x4
  obtain ⟨p0, p1, p2, _⟩ := msI_facts x4
  obtain ⟨q0, q1, q2, q3, q6, q9, q10, q17, q18, q19⟩ := msI_facts x7
  have f7 := ms_frozen x7
  have HST3 := Lib.hid hst3
  have HST6 := Lib.hid hst6
  have HST8 := Lib.hid hst8
  have HX8 : Hid (w7.heap[w.heap.size + 1 + 1]? = some (.cells (msI 12 mv pt 0 0 0 (.slice none 0 0)) 47 (0, 0))) := Lib.hid x8
  have HSZ := Lib.hid (show (Tryz.prog.info? 47).map (·.size) = some ((msI 12 mv pt 0 0 0 (.slice none 0 0)) : Array Value).size by kernel_rfl)
  have HR9 := Lib.hid r9
  clear hst3 hst6 hst8 x3 x4 x5 x7 x8 r0 r8 r9 m0 m4 m5 m7 i6 k1 k2 k3 k4 k5 k6 k7 k8 k9 hw4 hw7 hw9
  unfold msI at hw1 hw2 hw3 HST3 HST8 HX8 HSZ HR9 ⊢
  unfold zI at hw6 HST6
  go_enter Tryz.func87, Tryz.ntmps87
  go_wp2_with (first | ((with_reducible refine wpList_store_all ?_ 47 (.tmp 3) (.tmp 7) ?_ (w.heap.size + 1 + 1) ?_ _ ?_ HST3.out ?_); rfl; rfl; rfl; rfl) | ((with_reducible refine wpList_store_all ?_ 45 (.tmp 4) (.tmp 28) ?_ (w.heap.size + 1 + 1 + 1) ?_ _ ?_ HST6.out ?_); rfl; rfl; rfl; rfl) | ((with_reducible refine wpList_load_row ?_ 47 (.tmp 3) ?_ (w.heap.size + 1 + 1) ?_ 47 _ (0, 0) _ HX8.out Tryz.underlying47 ?_ HSZ.out ?_); rfl; rfl; rfl; rfl) | ((with_reducible refine wpList_store_all ?_ 47 (.tmp 2) (.tmp 109) ?_ (w.heap.size + 1) ?_ _ ?_ HST8.out ?_); rfl; rfl; rfl; rfl))
  refine bodyPost_ret (results_cell_row rfl _ w9 (w.heap.size + 1) 47 _ (0, 0) _ rfl HR9.out Tryz.underlying47 rfl (by kernel_rfl)) rfl ?_
  exact ⟨rfl, HK.out⟩
set_option maxRecDepth 100000 in
set_option maxHeartbeats 4000000 in
theorem ronly_14 {w : World} (ep nd : Nat) (a : Option Addr) (n c : Nat) : Calls Tryz.prog 87 #[.agg (msC 14 0 0 0 ep nd (.slice a n c))] w fun e w' => e = .returned (.agg (msC 14 0 0 0 ep nd (.slice a n c))) ∧ Keep [] w w' := by
  show Calls Tryz.prog 87 #[.agg (msI 14 0 0 0 ep nd (.slice a n c))] w fun e w' => e = .returned (.agg (msI 14 0 0 0 ep nd (.slice a n c))) ∧ Keep [] w w'
  obtain ⟨w1, hw1⟩ : ∃ u, w.alloc (.cells (msI 14 0 0 0 ep nd (.slice a n c)) 47) = u := ⟨_, rfl⟩
  obtain ⟨w2, hw2⟩ : ∃ u, w1.alloc (.cells (msI 0 0 0 0 0 0 (.slice none 0 0)) 47) = u := ⟨_, rfl⟩
  obtain ⟨w3, hw3⟩ : ∃ u, w2.alloc (.cells (msI 0 0 0 0 0 0 (.slice none 0 0)) 47) = u := ⟨_, rfl⟩
  have s1 : w1.heap.size = w.heap.size + 1 := by rw [← hw1, World.size_alloc]
  have s2 : w2.heap.size = w.heap.size + 1 + 1 := by rw [← hw2, World.size_alloc, s1]
  have s3 : w3.heap.size = w.heap.size + 1 + 1 + 1 := by rw [← hw3, World.size_alloc, s2]
  have k1 : Keep [] w w1 := by rw [← hw1]; exact (Keep.refl _ _).alloc _
  have k2 : Keep [] w1 w2 := by rw [← hw2]; exact (Keep.refl _ _).alloc _
  have k3 : Keep [] w2 w3 := by rw [← hw3]; exact (Keep.refl _ _).alloc _
  have m0 : MsAt w1 w.heap.size (msI 14 0 0 0 ep nd (.slice a n c)) := by rw [← hw1]; exact World.alloc_heap_new w _
  replace m0 := m0.keep k2 (by simp <;> omega)
  have r0 : MsAt w2 (w.heap.size + 1) (msI 0 0 0 0 0 0 (.slice none 0 0)) := by rw [← hw2, ← s1]; exact World.alloc_heap_new w1 _
  have x3 : MsAt w3 (w.heap.size + 1 + 1) (msI 0 0 0 0 0 0 (.slice none 0 0)) := by rw [← hw3, ← s2]; exact World.alloc_heap_new w2 _
  obtain ⟨w4, hw4⟩ : ∃ u, w3.setRow (w.heap.size + 1 + 1) (msI 14 0 0 0 0 0 (.slice none 0 0)) = u := ⟨_, rfl⟩
  have hst3 := run_storeVar_row (P := Tryz.prog) w3 (w.heap.size + 1 + 1) 47 47 _ (msI 14 0 0 0 0 0 (.slice none 0 0)) x3 (by kernel_rfl) rfl (by simp [msI, Value.oneCell'])
  rw [hw4] at hst3
  have k4 : Keep [w.heap.size + 1 + 1] w3 w4 := by rw [← hw4]; exact (Keep.refl _ _).setRow _ _ (.inl (by simp))
  have s4 : w4.heap.size = w.heap.size + 1 + 1 + 1 := by rw [← hw4]; simpa using s3
  have x4 : MsAt w4 (w.heap.size + 1 + 1) (msI 14 0 0 0 0 0 (.slice none 0 0)) := by rw [← hw4]; exact setRow_heap w3 _ _ _ _ _ x3
  have k5 : Keep [w.heap.size + 1 + 1] w4 w4 := Keep.refl _ _
  have x5 := x4
  have s5 := s4
  obtain ⟨w6, hw6⟩ : ∃ u, w4.alloc (.cells zI 45) = u := ⟨_, rfl⟩
  have s6 : w6.heap.size = w.heap.size + 1 + 1 + 1 + 1 := by rw [← hw6, World.size_alloc, s5]
  have k6 : Keep [] w4 w6 := by rw [← hw6]; exact (Keep.refl _ _).alloc _
  have i6 : w6.heap[w.heap.size + 1 + 1 + 1]? = some (.cells zI 45 (0, 0)) := by rw [← hw6, ← s5]; exact World.alloc_heap_new _ _
  obtain ⟨w7, hw7⟩ : ∃ u, w6.setRow (w.heap.size + 1 + 1 + 1) zI = u := ⟨_, rfl⟩
  have hst6 := run_storeVar_row (P := Tryz.prog) w6 (w.heap.size + 1 + 1 + 1) 45 45 _ zI i6 (by kernel_rfl) rfl (by simp [zI, Value.oneCell'])
  rw [hw7] at hst6
  have k7 : Keep [w.heap.size + 1 + 1 + 1] w6 w7 := by rw [← hw7]; exact (Keep.refl _ _).setRow _ _ (.inl (by simp))
  have x7 := (x5.keep k6 (by simp <;> omega)).keep k7 (by simp <;> omega)
  obtain ⟨w8, hw8⟩ : ∃ u, ((w7.setCell ⟨w.heap.size + 1 + 1, 17, none⟩ (.int .i64 ep)).setCell ⟨w.heap.size + 1 + 1, 18, none⟩ (.int .i64 nd)).setCell ⟨w.heap.size + 1 + 1, 19, none⟩ (.slice a n c) = u := ⟨_, rfl⟩
  have k8 : Keep [w.heap.size + 1 + 1] w7 w8 := by rw [← hw8]; exact (((Keep.refl _ _).setCell _ _ _ (.inl (by simp))).setCell _ _ _ (.inl (by simp))).setCell _ _ _ (.inl (by simp))
  have x8 : MsAt w8 (w.heap.size + 1 + 1) (msI 14 0 0 0 ep nd (.slice a n c)) := by rw [← hw8]; exact ((x7.set 17 (.int .i64 ep)).set 18 (.int .i64 nd)).set 19 (.slice a n c)
  have r8 := (((((r0.keep k3 (by simp <;> omega)).keep k4 (by simp <;> omega)).keep k5 (by simp <;> omega)).keep k6 (by simp <;> omega)).keep k7 (by simp <;> omega)).keep k8 (by simp <;> omega)
  obtain ⟨w9, hw9⟩ : ∃ u, w8.setRow (w.heap.size + 1) (msI 14 0 0 0 ep nd (.slice a n c)) = u := ⟨_, rfl⟩
  have hst8 := run_storeVar_row (P := Tryz.prog) w8 (w.heap.size + 1) 47 47 _ (msI 14 0 0 0 ep nd (.slice a n c)) r8 (by kernel_rfl) rfl (by simp [msI, Value.oneCell'])
  rw [hw9] at hst8
  have r9 : w9.heap[w.heap.size + 1]? = some (.cells (msI 14 0 0 0 ep nd (.slice a n c)) 47 (0, 0)) := by rw [← hw9]; exact setRow_heap w8 _ _ _ _ _ r8
  have k9 : Keep [w.heap.size + 1] w8 w9 := by rw [← hw9]; exact (Keep.refl _ _).setRow _ _ (.inl (by simp))
  have HK : Hid (Keep [] w w9) := Lib.hid ((((((((k1.trans k2).trans k3).step k4 (by intro y hy; simp only [List.mem_singleton] at hy; exact .inr (by omega))).step k5 (by intro y hy; simp only [List.mem_singleton] at hy; exact .inr (by omega))).trans k6).step k7 (by intro y hy; simp only [List.mem_singleton] at hy; exact .inr (by omega))).step k8 (by intro y hy; simp only [List.mem_singleton] at hy; exact .inr (by omega))).step k9 (by intro y hy; simp only [List.mem_singleton] at hy; exact .inr (by omega)))
  have m4 := (m0.keep k3 (by simp <;> omega)).keep k4 (by simp <;> omega)
  have m5 := m4.keep k5 (by simp <;> omega)
  have m7 := (m5.keep k6 (by simp <;> omega)).keep k7 (by simp <;> omega)
  obtain ⟨a0, _⟩ := msI_facts m0
  obtain ⟨b0, b1, b2, _⟩ := msI_facts m4
  obtain ⟨c0, c1, c2, c3, c6, c9, c10, _⟩ := msI_facts m5
  obtain ⟨d0, d1, d2, d3, d6, d9, d10, d17, d18, d19⟩ := msI_facts m7
  have f4 := ms_frozen x4
  obtain ⟨p0, p1, p2, _⟩ := msI_facts x4
  obtain ⟨q0, q1, q2, q3, q6, q9, q10, q17, q18, q19⟩ := msI_facts x7
  have f7 := ms_frozen x7
  have HST3 := Lib.hid hst3
  have HST6 := Lib.hid hst6
  have HST8 := Lib.hid hst8
  have HX8 : Hid (w8.heap[w.heap.size + 1 + 1]? = some (.cells (msI 14 0 0 0 ep nd (.slice a n c)) 47 (0, 0))) := Lib.hid x8
  have HSZ := Lib.hid (show (Tryz.prog.info? 47).map (·.size) = some ((msI 14 0 0 0 ep nd (.slice a n c)) : Array Value).size by kernel_rfl)
  have HR9 := Lib.hid r9
  clear hst3 hst6 hst8 x3 x4 x5 x7 x8 r0 r8 r9 m0 m4 m5 m7 i6 k1 k2 k3 k4 k5 k6 k7 k8 k9 hw4 hw7 hw9
  unfold msI at hw1 hw2 hw3 HST3 HST8 HX8 HSZ HR9 ⊢
  unfold zI at hw6 HST6
  go_enter Tryz.func87, Tryz.ntmps87
  go_wp2_with (first | ((with_reducible refine wpList_store_all ?_ 47 (.tmp 3) (.tmp 7) ?_ (w.heap.size + 1 + 1) ?_ _ ?_ HST3.out ?_); rfl; rfl; rfl; rfl) | ((with_reducible refine wpList_store_all ?_ 45 (.tmp 4) (.tmp 28) ?_ (w.heap.size + 1 + 1 + 1) ?_ _ ?_ HST6.out ?_); rfl; rfl; rfl; rfl) | ((with_reducible refine wpList_load_row ?_ 47 (.tmp 3) ?_ (w.heap.size + 1 + 1) ?_ 47 _ (0, 0) _ HX8.out Tryz.underlying47 ?_ HSZ.out ?_); rfl; rfl; rfl; rfl) | ((with_reducible refine wpList_store_all ?_ 47 (.tmp 2) (.tmp 109) ?_ (w.heap.size + 1) ?_ _ ?_ HST8.out ?_); rfl; rfl; rfl; rfl))
  refine bodyPost_ret (results_cell_row rfl _ w9 (w.heap.size + 1) 47 _ (0, 0) _ rfl HR9.out Tryz.underlying47 rfl (by kernel_rfl)) rfl ?_
  exact ⟨rfl, HK.out⟩
end Go.Proofs.YteejdfpfdnkiiaaGreat
