/- Contracts of the functions of packages span and meterref08. -/
import Derived.Test.YtmhbibcfbencnaaProg
import Derived.WalkKit
import Derived.WalkSpells
import Derived.WalkLawsBesides
import Derived.Deep.QuietTactic
import Derived.BigQuiet
import Derived.Deep.Light
namespace Go.Proofs.Ytmhbibcfbencnaa
open Go.RowKit
set_option linter.unusedSimpArgs false
set_option linter.unusedVariables false

def rightB (a : Int) : Bool := decide (0 ≤ a ∧ a ≤ 1099511627776)
def startI (a : Int) : Int := if 0 ≤ a ∧ a ≤ 1099511627776 then a - a % 10 else -1
def endI (a : Int) : Int := if 0 ≤ a ∧ a ≤ 1099511627776 ∧ a % 10 = 0 then a + 10 else -1
def overB (s m : Int) : Bool := decide (0 ≤ s ∧ s ≤ 1099511627776 ∧ s % 10 = 0 ∧ 0 ≤ m ∧ m ≤ 1099511627776 ∧ s + 15 ≤ m)
def lateB (a m : Int) : Bool := decide (0 ≤ a ∧ a ≤ 1099511627776 ∧ 0 ≤ m ∧ m ≤ 1099511627776 ∧ a - a % 10 + 15 ≤ m)

theorem rightB_t {a : Int} (h0 : 0 ≤ a) (h1 : a ≤ 1099511627776) : rightB a = true := by simp [rightB, h0, h1]
theorem rightB_f {a : Int} (h : ¬ (0 ≤ a ∧ a ≤ 1099511627776)) : rightB a = false := by simp [rightB]; omega

theorem right_any (a : Int) (w : World) :
    Calls Try.prog 35 #[.int .i64 a] w fun e w' => e = .returned (.bool (rightB a)) ∧ w = w' := by
  by_cases h0 : 0 ≤ a
  · by_cases h1 : a ≤ 1099511627776
    · go_enter Try.func35, Try.ntmps35
      go_wp2
      go_ret
      exact ⟨by simp [rightB, *], rfl⟩
    · go_enter Try.func35, Try.ntmps35
      go_wp2
      go_ret
      exact ⟨by simp [rightB, *]; try omega, rfl⟩
  · go_enter Try.func35, Try.ntmps35
    go_wp2
    go_ret
    exact ⟨by simp [rightB]; omega, rfl⟩
theorem rright_any (a : Int) (w : World) :
    Calls Try.prog 63 #[.int .i64 a] w fun e w' => e = .returned (.bool (rightB a)) ∧ w = w' := by
  by_cases h0 : 0 ≤ a
  · by_cases h1 : a ≤ 1099511627776
    · go_enter Try.func63, Try.ntmps63
      go_wp2
      go_ret
      exact ⟨by simp [rightB, *], rfl⟩
    · go_enter Try.func63, Try.ntmps63
      go_wp2
      go_ret
      exact ⟨by simp [rightB, *]; try omega, rfl⟩
  · go_enter Try.func63, Try.ntmps63
    go_wp2
    go_ret
    exact ⟨by simp [rightB]; omega, rfl⟩
theorem right_t (a : Int) (w : World) (h0 : 0 ≤ a) (h1 : a ≤ 1099511627776) :
    Calls Try.prog 35 #[.int .i64 a] w fun e w' => e = .returned (.bool true) ∧ w = w' :=
  (right_any a w).mono fun _ _ ⟨h, h'⟩ => ⟨by rw [h, rightB_t h0 h1], h'⟩
theorem right_f (a : Int) (w : World) (h : ¬ (0 ≤ a ∧ a ≤ 1099511627776)) :
    Calls Try.prog 35 #[.int .i64 a] w fun e w' => e = .returned (.bool false) ∧ w = w' :=
  (right_any a w).mono fun _ _ ⟨h1, h'⟩ => ⟨by rw [h1, rightB_f h], h'⟩
theorem rright_t (a : Int) (w : World) (h0 : 0 ≤ a) (h1 : a ≤ 1099511627776) :
    Calls Try.prog 63 #[.int .i64 a] w fun e w' => e = .returned (.bool true) ∧ w = w' :=
  (rright_any a w).mono fun _ _ ⟨h, h'⟩ => ⟨by rw [h, rightB_t h0 h1], h'⟩
theorem rright_f (a : Int) (w : World) (h : ¬ (0 ≤ a ∧ a ≤ 1099511627776)) :
    Calls Try.prog 63 #[.int .i64 a] w fun e w' => e = .returned (.bool false) ∧ w = w' :=
  (rright_any a w).mono fun _ _ ⟨h1, h'⟩ => ⟨by rw [h1, rightB_f h], h'⟩
theorem start_any (a : Int) (w : World) :
    Calls Try.prog 19 #[.int .i64 a] w fun e w' => e = .returned (.int .i64 (startI a)) ∧ w = w' := by
  by_cases h : 0 ≤ a ∧ a ≤ 1099511627776
  · have fin : startI a = a - a % 10 := by simp [startI, h]
    obtain ⟨h0, h1⟩ := h
    go_enter Try.func19, Try.ntmps19
    go_wp2_with (go_at_call 35; refine (right_t _ _ h0 h1).mono ?_; rintro e w' ⟨rfl, rfl⟩)
    go_ret
    exact ⟨by rw [fin]; rfl, rfl⟩
  · have fin : startI a = -1 := by simp [startI, h]
    go_enter Try.func19, Try.ntmps19
    go_wp2_with (go_at_call 35; refine (right_f _ _ h).mono ?_; rintro e w' ⟨rfl, rfl⟩)
    go_ret
    exact ⟨by rw [fin]; rfl, rfl⟩
theorem rstart_any (a : Int) (w : World) :
    Calls Try.prog 64 #[.int .i64 a] w fun e w' => e = .returned (.int .i64 (startI a)) ∧ w = w' := by
  by_cases h : 0 ≤ a ∧ a ≤ 1099511627776
  · have fin : startI a = a / 10 * 10 := by simp [startI, h]; omega
    obtain ⟨h0, h1⟩ := h
    go_enter Try.func64, Try.ntmps64
    go_wp2_with (go_at_call 63; refine (rright_t _ _ h0 h1).mono ?_; rintro e w' ⟨rfl, rfl⟩)
    go_ret
    exact ⟨by rw [fin]; rfl, rfl⟩
  · have fin : startI a = -1 := by simp [startI, h]
    go_enter Try.func64, Try.ntmps64
    go_wp2_with (go_at_call 63; refine (rright_f _ _ h).mono ?_; rintro e w' ⟨rfl, rfl⟩)
    go_ret
    exact ⟨by rw [fin]; rfl, rfl⟩
theorem end_any (a : Int) (w : World) :
    Calls Try.prog 60 #[.int .i64 a] w fun e w' => e = .returned (.int .i64 (endI a)) ∧ w = w' := by
  by_cases h : 0 ≤ a ∧ a ≤ 1099511627776
  · have fin : endI a = if a % 10 = 0 then a + 10 else -1 := by simp [endI, h]
    obtain ⟨h0, h1⟩ := h
    go_enter Try.func60, Try.ntmps60
    go_wp2_with (go_at_call 35; refine (right_t _ _ h0 h1).mono ?_; rintro e w' ⟨rfl, rfl⟩)
    all_goals (go_ret; go_light; exact ⟨by rw [fin]; simp_all, rfl⟩)
  · have fin : endI a = -1 := by simp [endI]; omega
    go_enter Try.func60, Try.ntmps60
    go_wp2_with (go_at_call 35; refine (right_f _ _ h).mono ?_; rintro e w' ⟨rfl, rfl⟩)
    all_goals (go_ret; exact ⟨by first | rfl | (rw [fin]; rfl), rfl⟩)
theorem rend_any (a : Int) (w : World) :
    Calls Try.prog 69 #[.int .i64 a] w fun e w' => e = .returned (.int .i64 (endI a)) ∧ w = w' := by
  by_cases h : 0 ≤ a ∧ a ≤ 1099511627776
  · have fin : endI a = if startI a = a then a + 10 else -1 := by simp [endI, startI, h]; omega
    obtain ⟨h0, h1⟩ := h
    go_enter Try.func69, Try.ntmps69
    go_wp2_with (first | (go_at_call 63; refine (rright_t _ _ h0 h1).mono ?_; rintro e w' ⟨rfl, rfl⟩) | (go_at_call 64; refine (rstart_any _ _).mono ?_; rintro e w' ⟨rfl, rfl⟩))
    all_goals (go_ret; go_light; exact ⟨by rw [fin]; simp_all, rfl⟩)
  · have fin : endI a = -1 := by simp [endI]; omega
    go_enter Try.func69, Try.ntmps69
    go_wp2_with (go_at_call 63; refine (rright_f _ _ h).mono ?_; rintro e w' ⟨rfl, rfl⟩)
    all_goals (go_ret; exact ⟨by first | rfl | (rw [fin]; rfl), rfl⟩)
theorem over_pos {a m : Int} (he : 0 ≤ endI a) : overB a m = (rightB m && decide (endI a + 5 ≤ m)) := by
  unfold endI at *
  split at he
  · rename_i h
    rw [if_pos h, Bool.eq_iff_iff]
    simp only [overB, rightB, decide_eq_true_eq, Bool.and_eq_true]
    omega
  · omega
theorem over_neg {a m : Int} (he : ¬ 0 ≤ endI a) : overB a m = false := by
  unfold endI at he
  split at he
  · omega
  · simp only [overB, decide_eq_false_iff_not]; omega
theorem endI_le (a : Int) : endI a ≤ 1099511627786 := by unfold endI; split <;> omega
theorem endI_ge (a : Int) : -1 ≤ endI a := by unfold endI; split <;> omega
theorem over_any (a m : Int) (w : World) :
    Calls Try.prog 23 #[.int .i64 a, .int .i64 m] w fun e w' => e = .returned (.bool (overB a m)) ∧ w = w' := by
  have hb := endI_le a
  have hb' := endI_ge a
  by_cases he : 0 ≤ endI a
  · have fin := over_pos (m := m) he
    go_enter Try.func23, Try.ntmps23
    go_wp2_with (first | (go_at_call 35; refine (right_any _ _).mono ?_; rintro e w' ⟨rfl, rfl⟩) | (go_at_call 60; refine (end_any _ _).mono ?_; rintro e w' ⟨rfl, rfl⟩))
    all_goals (go_ret; go_light; exact ⟨by rw [fin]; simp_all, rfl⟩)
  · have fin := over_neg (m := m) he
    have he' : endI a < 0 := by omega
    go_enter Try.func23, Try.ntmps23
    go_wp2_with (first | (go_at_call 35; refine (right_any _ _).mono ?_; rintro e w' ⟨rfl, rfl⟩) | (go_at_call 60; refine (end_any _ _).mono ?_; rintro e w' ⟨rfl, rfl⟩))
    all_goals (go_ret; exact ⟨by first | rfl | (rw [fin]; rfl), rfl⟩)
theorem rover_any (a m : Int) (w : World) :
    Calls Try.prog 71 #[.int .i64 a, .int .i64 m] w fun e w' => e = .returned (.bool (overB a m)) ∧ w = w' := by
  have hb := endI_le a
  have hb' := endI_ge a
  by_cases he : 0 ≤ endI a
  · have fin := over_pos (m := m) he
    have ha : a + 10 = endI a ∧ 0 ≤ a ∧ a ≤ 1099511627776 := by
      unfold endI at *
      split at he
      · rename_i h; rw [if_pos h]; omega
      · omega
    obtain ⟨ha, ha0, ha1⟩ := ha
    have fin : overB a m = (rightB m && decide (a + 15 ≤ m)) := by rw [fin, ← ha, show a + 10 + 5 = a + 15 from by omega]
    clear ha
    go_enter Try.func71, Try.ntmps71
    go_wp2_with (first | (go_at_call 63; refine (rright_any _ _).mono ?_; rintro e w' ⟨rfl, rfl⟩) | (go_at_call 69; refine (rend_any _ _).mono ?_; rintro e w' ⟨rfl, rfl⟩))
    all_goals (go_ret; go_light; exact ⟨by rw [fin]; simp_all, rfl⟩)
  · have fin := over_neg (m := m) he
    have he' : endI a < 0 := by omega
    go_enter Try.func71, Try.ntmps71
    go_wp2_with (first | (go_at_call 63; refine (rright_any _ _).mono ?_; rintro e w' ⟨rfl, rfl⟩) | (go_at_call 69; refine (rend_any _ _).mono ?_; rintro e w' ⟨rfl, rfl⟩))
    all_goals (go_ret; exact ⟨by first | rfl | (rw [fin]; rfl), rfl⟩)
theorem late_eq {a m : Int} : lateB a m = (rightB a && overB (startI a) m) := by
  rw [Bool.eq_iff_iff]
  by_cases h : 0 ≤ a ∧ a ≤ 1099511627776
  · simp only [lateB, overB, rightB, startI, if_pos h, decide_eq_true_eq, Bool.and_eq_true]; omega
  · simp only [lateB, overB, rightB, startI, if_neg h, decide_eq_true_eq, Bool.and_eq_true]; omega
theorem late_any (a m : Int) (w : World) :
    Calls Try.prog 62 #[.int .i64 a, .int .i64 m] w fun e w' => e = .returned (.bool (lateB a m)) ∧ w = w' := by
  have fin := late_eq (a := a) (m := m)
  go_enter Try.func62, Try.ntmps62
  go_wp2_with (first | (go_at_call 35; refine (right_any _ _).mono ?_; rintro e w' ⟨rfl, rfl⟩) | (go_at_call 19; refine (start_any _ _).mono ?_; rintro e w' ⟨rfl, rfl⟩) | (go_at_call 23; refine (over_any _ _ _).mono ?_; rintro e w' ⟨rfl, rfl⟩))
  all_goals (go_ret; go_light; exact ⟨by rw [fin]; simp_all, rfl⟩)
theorem rlate_any (a m : Int) (w : World) :
    Calls Try.prog 73 #[.int .i64 a, .int .i64 m] w fun e w' => e = .returned (.bool (lateB a m)) ∧ w = w' := by
  by_cases h : 0 ≤ a ∧ a ≤ 1099511627776
  · have hs : startI a = a - a % 10 := by simp [startI, h]
    have ha := rightB_t h.1 h.2
    by_cases hm : 0 ≤ m ∧ m ≤ 1099511627776
    · have hm' := rightB_t hm.1 hm.2
      have fin : lateB a m = decide (15 ≤ m - startI a) := by rw [Bool.eq_iff_iff]; simp only [lateB, decide_eq_true_eq, hs]; omega
      have g1 : 0 ≤ startI a := by omega
      have g2 : startI a ≤ 1099511627776 := by omega
      obtain ⟨h0, h1⟩ := h
      obtain ⟨h2, h3⟩ := hm
      clear hs
      go_enter Try.func73, Try.ntmps73
      go_wp2_with (first | (go_at_call 63; refine (rright_any _ _).mono ?_; rintro e w' ⟨rfl, rfl⟩) | (go_at_call 64; refine (rstart_any _ _).mono ?_; rintro e w' ⟨rfl, rfl⟩))
      all_goals (go_ret; go_light; exact ⟨by rw [fin]; simp_all, rfl⟩)
    · have hm' := rightB_f hm
      have fin : lateB a m = false := by simp only [lateB, decide_eq_false_iff_not]; omega
      clear hs h hm
      go_enter Try.func73, Try.ntmps73
      go_wp2_with (first | (go_at_call 63; refine (rright_any _ _).mono ?_; rintro e w' ⟨rfl, rfl⟩) | (go_at_call 64; refine (rstart_any _ _).mono ?_; rintro e w' ⟨rfl, rfl⟩))
      all_goals (go_ret; go_light; exact ⟨by rw [fin]; simp_all, rfl⟩)
  · have ha := rightB_f h
    have fin : lateB a m = false := by simp only [lateB, decide_eq_false_iff_not]; omega
    clear h
    go_enter Try.func73, Try.ntmps73
    go_wp2_with (first | (go_at_call 63; refine (rright_any _ _).mono ?_; rintro e w' ⟨rfl, rfl⟩) | (go_at_call 64; refine (rstart_any _ _).mono ?_; rintro e w' ⟨rfl, rfl⟩))
    all_goals (go_ret; go_light; exact ⟨by rw [fin]; simp_all, rfl⟩)
end Go.Proofs.Ytmhbibcfbencnaa
