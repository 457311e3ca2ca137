/- Aggregates: is one right? -/
import Derived.Test.YtmhbibcfbencnaaStD
import Derived.Test.YtmhbibcfbencnaaStE
namespace Go.Proofs.Ytmhbibcfbencnaa
open Go.RowKit Go.Lib
set_option linter.unusedSimpArgs false
set_option linter.unusedVariables false
def mn2 (a b : Int) : Int := if b < a then b else a
def mn4 (a b c d : Int) : Int := mn2 (mn2 (mn2 a b) c) d
theorem mn4_neg (a b c d : Int) : mn4 a b c d < 0 ↔ a < 0 ∨ b < 0 ∨ c < 0 ∨ d < 0 := by
  unfold mn4 mn2
  (repeat' split) <;> omega
set_option maxHeartbeats 1000000 in
theorem min4_any {w : World} {g : Nat} {x1 x2 x3 x4 x5 x6 x7 x8 : Int} (h : Bx w g x1 x2 x3 x4 x5 x6 x7 x8) :
    Calls Try.prog 83 #[.slice (some ⟨g, 4, none⟩) 4 4] w fun e w' => e = .returned (.int .i64 (mn4 x5 x6 x7 x8)) ∧ w = w' := by
  obtain ⟨p0, p1, p2, p3, p4, p5, p6, p7, p8, _⟩ := h.facts
  clear h
  go_enter Try.func83, Try.ntmps83
  go_wp2_with (fail)
  refine wp_loop_rounds 4 ?_
  rw [rounds_succ]
  go_wp2_with (fail)
  all_goals
    rw [rounds_succ]
    go_wp2_with (fail)
    all_goals
      rw [rounds_succ]
      go_wp2_with (fail)
      all_goals
        rw [rounds_succ]
        go_wp2_with (fail)
        all_goals
          go_ret
          exact ⟨ret_i (by unfold mn4 mn2; (repeat' split) <;> omega), rfl⟩
def idx4 (v a b c d : Int) : Int := if v = a then 0 else if v = b then 1 else if v = c then 2 else if v = d then 3 else -1
set_option maxHeartbeats 1000000 in
theorem idx4_any {w : World} {g : Nat} {x1 x2 x3 x4 x5 x6 x7 x8 : Int} (v : Int) (h : Bx w g x1 x2 x3 x4 x5 x6 x7 x8) :
    Calls Try.prog 97 #[.slice (some ⟨g, 4, none⟩) 4 4, .int .i64 v] w fun e w' => e = .returned (.int .i64 (idx4 v x5 x6 x7 x8)) ∧ w = w' := by
  obtain ⟨p0, p1, p2, p3, p4, p5, p6, p7, p8, _⟩ := h.facts
  clear h
  unfold idx4
  by_cases h5 : v = x5
  · have e5 : (v == x5) = true := by simp [h5]
    rw [if_pos h5]
    clear h5
    go_enter Try.func97, Try.ntmps97
    go_wp2_with (fail)
    refine wp_loop_rounds 1 ?_
    rw [rounds_succ]
    go_wp2_with (fail)
    go_ret
    exact ⟨rfl, rfl⟩
  have e5 : (v == x5) = false := by simp [h5]
  rw [if_neg h5]
  clear h5
  by_cases h6 : v = x6
  · have e6 : (v == x6) = true := by simp [h6]
    rw [if_pos h6]
    clear h6
    go_enter Try.func97, Try.ntmps97
    go_wp2_with (fail)
    refine wp_loop_rounds 2 ?_
    rw [rounds_succ]
    go_wp2_with (fail)
    rw [rounds_succ]
    go_wp2_with (fail)
    go_ret
    exact ⟨rfl, rfl⟩
  have e6 : (v == x6) = false := by simp [h6]
  rw [if_neg h6]
  clear h6
  by_cases h7 : v = x7
  · have e7 : (v == x7) = true := by simp [h7]
    rw [if_pos h7]
    clear h7
    go_enter Try.func97, Try.ntmps97
    go_wp2_with (fail)
    refine wp_loop_rounds 3 ?_
    rw [rounds_succ]
    go_wp2_with (fail)
    rw [rounds_succ]
    go_wp2_with (fail)
    rw [rounds_succ]
    go_wp2_with (fail)
    go_ret
    exact ⟨rfl, rfl⟩
  have e7 : (v == x7) = false := by simp [h7]
  rw [if_neg h7]
  clear h7
  by_cases h8 : v = x8
  · have e8 : (v == x8) = true := by simp [h8]
    rw [if_pos h8]
    clear h8
    go_enter Try.func97, Try.ntmps97
    go_wp2_with (fail)
    refine wp_loop_rounds 4 ?_
    rw [rounds_succ]
    go_wp2_with (fail)
    rw [rounds_succ]
    go_wp2_with (fail)
    rw [rounds_succ]
    go_wp2_with (fail)
    rw [rounds_succ]
    go_wp2_with (fail)
    go_ret
    exact ⟨rfl, rfl⟩
  · have e8 : (v == x8) = false := by simp [h8]
    rw [if_neg h8]
    clear h8
    go_enter Try.func97, Try.ntmps97
    go_wp2_with (fail)
    refine wp_loop_rounds 5 ?_
    rw [rounds_succ]
    go_wp2_with (fail)
    rw [rounds_succ]
    go_wp2_with (fail)
    rw [rounds_succ]
    go_wp2_with (fail)
    rw [rounds_succ]
    go_wp2_with (fail)
    rw [rounds_succ]
    go_wp2_with (fail)
    go_ret
    exact ⟨rfl, rfl⟩
def has4 (v a b c d : Int) : Bool := decide (v = a ∨ v = b ∨ v = c ∨ v = d)
theorem has4_any {w : World} {g : Nat} {x1 x2 x3 x4 x5 x6 x7 x8 : Int} (v : Int) (h : Bx w g x1 x2 x3 x4 x5 x6 x7 x8) :
    Calls Try.prog 84 #[.slice (some ⟨g, 4, none⟩) 4 4, .int .i64 v] w fun e w' => e = .returned (.bool (has4 v x5 x6 x7 x8)) ∧ w = w' := by
  have hi := idx4_any v h
  obtain ⟨b, hb⟩ : ∃ b, has4 v x5 x6 x7 x8 = b := ⟨_, rfl⟩
  have hr : ∃ r, idx4 v x5 x6 x7 x8 = r ∧ ((b = true ∧ 0 ≤ r) ∨ (b = false ∧ r < 0)) := by
    refine ⟨_, rfl, ?_⟩
    rw [← hb]
    unfold has4 idx4
    by_cases hv : (v = x5 ∨ v = x6 ∨ v = x7 ∨ v = x8)
    · left
      refine ⟨by simp [hv], ?_⟩
      (repeat' split) <;> omega
    · right
      refine ⟨by simp [hv], ?_⟩
      (repeat' split) <;> omega
  obtain ⟨r, hr1, hr2⟩ := hr
  rw [hr1] at hi
  rw [hb]
  have HI := Lib.hid hi
  clear hi hb hr1 h
  rcases hr2 with ⟨rfl, h0⟩ | ⟨rfl, h0⟩
  all_goals
    go_enter Try.func84, Try.ntmps84
    go_wp2_with (fail)
    refine HI.out.mono ?_
    rintro e w' ⟨rfl, rfl⟩
    go_wp2_with (fail)
    go_ret
    exact ⟨by first | rfl | (simp; omega), rfl⟩
end Go.Proofs.Ytmhbibcfbencnaa
