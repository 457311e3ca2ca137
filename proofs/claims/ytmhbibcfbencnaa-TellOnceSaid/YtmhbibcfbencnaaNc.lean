/- Aggregates and windows held against one another. -/
import Derived.Test.YtmhbibcfbencnaaStI
import Derived.WalkSpells
namespace Go.Proofs.Ytmhbibcfbencnaa
open Go.RowKit Go.Lib
set_option linter.unusedSimpArgs false
set_option linter.unusedVariables false
theorem gt31 : Try.prog.eqGuardType Try.prog.depth 31 = false := by kernel_rfl
theorem gt33 : Try.prog.eqGuardType Try.prog.depth 33 = false := by kernel_rfl
theorem guard_ag (op : BinOp) (x y : Operand) (xs ys : Array Value) (W : World) : (eqGuard op 31 x y (.agg xs) (.agg ys)).run Try.prog W = .ok () W := run_eqGuard_agg W op _ x y xs ys gt31
theorem guard_ot (op : BinOp) (x y : Operand) (xs ys : Array Value) (W : World) : (eqGuard op 33 x y (.agg xs) (.agg ys)).run Try.prog W = .ok () W := run_eqGuard_agg W op _ x y xs ys gt33
theorem eql_ag (a b : Ag) (W : World) : (binOp .eql 31 a.val b.val).run Try.prog W = .ok (.bool (decide (a = b))) W := by
  rw [show a.val = .agg _ from rfl, show b.val = .agg _ from rfl, run_eql_struct W, show (10000 : Nat) = 9996 + 4 from rfl]
  have := eq_ag 9996 a b W
  rw [show a.val = .agg _ from rfl, show b.val = .agg _ from rfl] at this
  rw [this]; rfl
theorem neq_ag (a b : Ag) (W : World) : (binOp .neq 31 a.val b.val).run Try.prog W = .ok (.bool (!decide (a = b))) W := by
  rw [show a.val = .agg _ from rfl, show b.val = .agg _ from rfl, run_neq_struct W, show (10000 : Nat) = 9996 + 4 from rfl]
  have := eq_ag 9996 a b W
  rw [show a.val = .agg _ from rfl, show b.val = .agg _ from rfl] at this
  rw [this]; rfl
theorem neq_ot (a b : Ot) (W : World) : (binOp .neq 33 a.val b.val).run Try.prog W = .ok (.bool (!decide (a = b))) W := by
  rw [show a.val = .agg _ from rfl, show b.val = .agg _ from rfl, run_neq_struct W, show (10000 : Nat) = 9994 + 6 from rfl]
  have := eq_ot 9994 a b W
  rw [show a.val = .agg _ from rfl, show b.val = .agg _ from rfl] at this
  rw [this]; rfl
theorem otAt_ten {W : World} {g : Nat} {x : Ot} (h : OtAt W g x) : W.cell? ⟨g, 0, none⟩ = some (.string x.key) ∧ W.cell? ⟨g, 1, none⟩ = some (.int .i64 x.st) ∧ W.cell? ⟨g, 2, none⟩ = some (.int .i64 x.ag.c) ∧ W.cell? ⟨g, 3, none⟩ = some (.int .i64 x.ag.s) ∧ W.cell? ⟨g, 4, none⟩ = some (.int .i64 x.ag.lo) ∧
    W.cell? ⟨g, 5, none⟩ = some (.int .i64 x.ag.hi) ∧ W.cell? ⟨g, 6, none⟩ = some (.int .i64 x.ag.b0) ∧ W.cell? ⟨g, 7, none⟩ = some (.int .i64 x.ag.b1) ∧ W.cell? ⟨g, 8, none⟩ = some (.int .i64 x.ag.b2) ∧ W.cell? ⟨g, 9, none⟩ = some (.int .i64 x.ag.b3) := by
  unfold OtAt at h
  refine ⟨?_, ?_, ?_, ?_, ?_, ?_, ?_, ?_, ?_, ?_⟩
  all_goals (unfold World.cell?; rw [h]; rfl)
end Go.Proofs.Ytmhbibcfbencnaa
