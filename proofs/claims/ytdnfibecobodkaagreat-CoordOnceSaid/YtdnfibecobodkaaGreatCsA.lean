/- msg.safely: what gives up nothing. -/
import Derived.Test.YtdnfibecobodkaaGreatCrB
import Derived.Defers
import Derived.Recover
namespace Go.Proofs.YtdnfibecobodkaaGreat
open Go.RowKit Go.Lib
set_option linter.unusedSimpArgs false
set_option linter.unusedVariables false
theorem catch_idle (p : Addr) (w : World) : CallsD Tryz.prog 70 #[.pointer (some p)] .returning w fun e u' w' => e = .returned (.tuple #[]) ∧ u' = .returning ∧ w' = w := by
  refine callsD_of_wpS Tryz.func70 rfl fun c₀ cs hu => ?_
  apply wpS_seq
  apply wpS_region
  simp [wpOpsS, go_sem, recoverD, hu, Tryz.ntmps70, Exit.thenS]
  apply wpS_seq
  apply wpS_region
  simp [wpOpsS, go_sem, Exit.thenS]
  refine wpS_cond (t := false) (by simp [Act.eval, Array.replicate]) ?_
  simp only [Bool.false_eq_true, if_false]
  refine wpS_of_wp (wp_skip ?_)
  cases c₀
  simp_all [bodyPostS, results, Tryz.results70, Exit.thenS]
set_option maxRecDepth 100000 in
/-- A call of what does not give up. -/
theorem safeW_any {w : World} (p q : Nat) (R : World → World → Prop) (hR : ∀ W w', R W w' → ∃ X, Keep X W w' ∧ w.heap.size ∉ X) (h : ∀ W, Keep [] w W → Calls Tryz.prog 86 #[.pointer (some ⟨p, 0, none⟩), .pointer (some ⟨q, 0, none⟩)] W fun e w' => e = .returned (.tuple #[]) ∧ R W w') : Calls Tryz.prog 58 #[.func (.func 86) #[] #[.pointer (some ⟨p, 0, none⟩), .pointer (some ⟨q, 0, none⟩)]] w fun e w' => e = .returned (.int .i64 0) ∧ ∃ W w1, Keep [] w W ∧ w.heap.size < W.heap.size ∧ R W w1 ∧ Keep [w.heap.size] w1 w' := by
  have hmf : ∀ (fn : Fn) (first cap : Array Value) (w : World), (Instr.makeFunc fn first cap).run Tryz.prog w = .ok (.func fn first cap) w := fun _ _ _ _ => rfl
  have hk : Keep [] w (w.alloc (.cells #[.int .i64 0] 23)) := (Keep.refl _ _).alloc _
  have ho : OneAt (w.alloc (.cells #[.int .i64 0] 23)) w.heap.size (.int .i64 0) 23 := OneAt.new _ _ _
  have HC := Lib.hid (h _ hk)
  have HK := Lib.hid hk
  have HO := Lib.hid ho
  have HRR := Lib.hid hR
  clear h hk ho hR
  go_enter_defers Tryz.func58, Tryz.ntmps58
  go_wp2_with (fail)
  refine HC.out.mono ?_
  rintro e w1 ⟨rfl, hr⟩
  obtain ⟨X, hx, hn⟩ := HRR.out _ _ hr
  have ho1 := HO.out.keep hx hn
  obtain ⟨d0, d1⟩ := ho1.facts
  have HR1 := Lib.hid hr
  have HO1 := Lib.hid ho1
  clear hr hx hn ho1
  go_wp2_with (fail)
  refine leaves_cons (f := 70) (args := #[.pointer (some ⟨w.heap.size, 0, none⟩)]) (by simp) (by simp [go_sem]) ?_
  refine (catch_idle ⟨w.heap.size, 0, none⟩ _).mono ?_
  rintro e u' w'' ⟨rfl, rfl, rfl⟩
  have hcell := (HO1.out.set (.int .i64 0)).facts.1
  simp [Leaves, settle, results, Tryz.results58, go_sem, hcell]
  exact ⟨_, HK.out, by rw [World.size_alloc]; omega, w1, HR1.out, (Keep.refl _ _).setCell _ _ _ (.inl (by simp))⟩
set_option maxRecDepth 100000 in
/-- A call of what does not give up. -/
theorem safeR_any {w : World} (p q : Nat) (R : World → World → Prop) (hR : ∀ W w', R W w' → ∃ X, Keep X W w' ∧ w.heap.size ∉ X) (h : ∀ W, Keep [] w W → Calls Tryz.prog 59 #[.pointer (some ⟨p, 0, none⟩), .pointer (some ⟨q, 0, none⟩)] W fun e w' => e = .returned (.tuple #[]) ∧ R W w') : Calls Tryz.prog 58 #[.func (.func 59) #[] #[.pointer (some ⟨p, 0, none⟩), .pointer (some ⟨q, 0, none⟩)]] w fun e w' => e = .returned (.int .i64 0) ∧ ∃ W w1, Keep [] w W ∧ w.heap.size < W.heap.size ∧ R W w1 ∧ Keep [w.heap.size] w1 w' := by
  have hmf : ∀ (fn : Fn) (first cap : Array Value) (w : World), (Instr.makeFunc fn first cap).run Tryz.prog w = .ok (.func fn first cap) w := fun _ _ _ _ => rfl
  have hk : Keep [] w (w.alloc (.cells #[.int .i64 0] 23)) := (Keep.refl _ _).alloc _
  have ho : OneAt (w.alloc (.cells #[.int .i64 0] 23)) w.heap.size (.int .i64 0) 23 := OneAt.new _ _ _
  have HC := Lib.hid (h _ hk)
  have HK := Lib.hid hk
  have HO := Lib.hid ho
  have HRR := Lib.hid hR
  clear h hk ho hR
  go_enter_defers Tryz.func58, Tryz.ntmps58
  go_wp2_with (fail)
  refine HC.out.mono ?_
  rintro e w1 ⟨rfl, hr⟩
  obtain ⟨X, hx, hn⟩ := HRR.out _ _ hr
  have ho1 := HO.out.keep hx hn
  obtain ⟨d0, d1⟩ := ho1.facts
  have HR1 := Lib.hid hr
  have HO1 := Lib.hid ho1
  clear hr hx hn ho1
  go_wp2_with (fail)
  refine leaves_cons (f := 70) (args := #[.pointer (some ⟨w.heap.size, 0, none⟩)]) (by simp) (by simp [go_sem]) ?_
  refine (catch_idle ⟨w.heap.size, 0, none⟩ _).mono ?_
  rintro e u' w'' ⟨rfl, rfl, rfl⟩
  have hcell := (HO1.out.set (.int .i64 0)).facts.1
  simp [Leaves, settle, results, Tryz.results58, go_sem, hcell]
  exact ⟨_, HK.out, by rw [World.size_alloc]; omega, w1, HR1.out, (Keep.refl _ _).setCell _ _ _ (.inl (by simp))⟩
end Go.Proofs.YtdnfibecobodkaaGreat
