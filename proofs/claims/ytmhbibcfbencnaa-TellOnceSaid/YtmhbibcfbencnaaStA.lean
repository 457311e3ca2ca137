/- Aggregates: Plus, Bucket. -/
import Derived.Test.YtmhbibcfbencnaaProg
import Derived.WalkKit
import Derived.Below
import Derived.Lib.Hide
namespace Go.Proofs.Ytmhbibcfbencnaa
open Go.RowKit Go.Lib
set_option linter.unusedSimpArgs false
set_option linter.unusedVariables false
def plusI (a b : Int) : Int :=
  if 0 < a ∧ 0 < b ∧ IntKind.i64.wrap (a + b) < 0 then 9223372036854775807
  else if a < 0 ∧ b < 0 ∧ 0 ≤ IntKind.i64.wrap (a + b) then -9223372036854775808
  else IntKind.i64.wrap (a + b)
theorem plus_any (a b : Int) (w : World) : Calls Try.prog 85 #[.int .i64 a, .int .i64 b] w fun e w' => e = .returned (.int .i64 (plusI a b)) ∧ w = w' := by
  unfold plusI
  obtain ⟨s, hs⟩ : ∃ s, IntKind.i64.wrap (a + b) = s := ⟨_, rfl⟩
  rw [hs]
  by_cases h1 : 0 < a
  · by_cases h2 : 0 < b
    · by_cases h3 : s < 0
      · rw [if_pos ⟨h1, h2, h3⟩]
        go_enter Try.func85, Try.ntmps85
        go_wp2
        go_ret
        exact ⟨rfl, rfl⟩
      · rw [if_neg (by omega), if_neg (by omega)]
        go_enter Try.func85, Try.ntmps85
        go_wp2
        go_ret
        exact ⟨rfl, rfl⟩
    · rw [if_neg (by omega), if_neg (by omega)]
      go_enter Try.func85, Try.ntmps85
      go_wp2
      go_ret
      exact ⟨rfl, rfl⟩
  · by_cases h2 : a < 0
    · by_cases h3 : b < 0
      · by_cases h4 : s < 0
        · rw [if_neg (by omega), if_neg (by omega)]
          go_enter Try.func85, Try.ntmps85
          go_wp2
          go_ret
          exact ⟨rfl, rfl⟩
        · rw [if_neg (by omega), if_pos (by omega)]
          go_enter Try.func85, Try.ntmps85
          go_wp2
          go_ret
          exact ⟨rfl, rfl⟩
      · rw [if_neg (by omega), if_neg (by omega)]
        go_enter Try.func85, Try.ntmps85
        go_wp2
        go_ret
        exact ⟨rfl, rfl⟩
    · rw [if_neg (by omega), if_neg (by omega)]
      go_enter Try.func85, Try.ntmps85
      go_wp2
      go_ret
      exact ⟨rfl, rfl⟩
def bucketI (v : Int) : Nat := if v < 0 then 0 else if v < 10 then 1 else if v < 100 then 2 else 3
theorem idx3 (W : World) : (Instr.index 122 (.agg #[.int .i64 0, .int .i64 10, .int .i64 100]) (.int .i64 0)).run Try.prog W = .ok (.int .i64 0) W ∧
    (Instr.index 122 (.agg #[.int .i64 0, .int .i64 10, .int .i64 100]) (.int .i64 1)).run Try.prog W = .ok (.int .i64 10) W ∧
    (Instr.index 122 (.agg #[.int .i64 0, .int .i64 10, .int .i64 100]) (.int .i64 2)).run Try.prog W = .ok (.int .i64 100) W := by
  refine ⟨?_, ?_, ?_⟩ <;> simp [Instr.index, run_underlying Try.underlying122, asIntOf, go_sem]
set_option maxRecDepth 100000 in
theorem bucket_any (v : Int) (w : World) : Calls Try.prog 74 #[.int .i64 v] w fun e w' => e = .returned (.int .i64 (bucketI v)) ∧ w = w' := by
  unfold bucketI
  obtain ⟨i0, i1, i2⟩ := idx3 w
  by_cases h0 : v < 0
  · rw [if_pos h0]
    go_enter Try.func74, Try.ntmps74
    go_wp2_with (fail)
    refine wp_loop_rounds 1 ?_
    rw [rounds_succ]
    go_wp2_with (fail)
    go_ret
    exact ⟨rfl, rfl⟩
  by_cases h1 : v < 10
  · rw [if_neg h0, if_pos h1]
    go_enter Try.func74, Try.ntmps74
    go_wp2_with (fail)
    refine wp_loop_rounds 2 ?_
    rw [rounds_succ]
    go_wp2_with (fail)
    rw [rounds_succ]
    go_wp2_with (fail)
    go_ret
    exact ⟨rfl, rfl⟩
  by_cases h2 : v < 100
  · rw [if_neg h0, if_neg h1, if_pos h2]
    go_enter Try.func74, Try.ntmps74
    go_wp2_with (fail)
    refine wp_loop_rounds 3 ?_
    rw [rounds_succ]
    go_wp2_with (fail)
    rw [rounds_succ]
    go_wp2_with (fail)
    rw [rounds_succ]
    go_wp2_with (fail)
    go_ret
    exact ⟨rfl, rfl⟩
  · rw [if_neg h0, if_neg h1, if_neg h2]
    go_enter Try.func74, Try.ntmps74
    go_wp2_with (fail)
    refine wp_loop_rounds 4 ?_
    rw [rounds_succ]
    go_wp2_with (fail)
    rw [rounds_succ]
    go_wp2_with (fail)
    rw [rounds_succ]
    go_wp2_with (fail)
    rw [rounds_succ]
    go_wp2_with (fail)
    go_ret
    exact ⟨rfl, rfl⟩
end Go.Proofs.Ytmhbibcfbencnaa
