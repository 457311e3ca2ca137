/- SpanParts and SpanNext: where a moment's window lies; windows side by side. -/
import Derived.Test.YtbkbekdeplolnaaSpC
namespace Go.Proofs.Ytbkbekdeplolnaa
open Go.RowKit Go.Shelf
set_option linter.unusedSimpArgs false
set_option linter.unusedVariables false
theorem right_iff (a : Int) : rightB a = true ↔ 0 ≤ a ∧ a ≤ 1099511627776 := by simp [rightB]
theorem over_iff (s m : Int) : overB s m = true ↔ 0 ≤ s ∧ s ≤ 1099511627776 ∧ s % 10 = 0 ∧ 0 ≤ m ∧ m ≤ 1099511627776 ∧ s + 15 ≤ m := by simp [overB]
theorem start_facts {a : Int} (h0 : 0 ≤ a) (h1 : a ≤ 1099511627776) : 0 ≤ startI a ∧ startI a ≤ a ∧ a ≤ startI a + 9 ∧ startI a % 10 = 0 := by
  unfold startI; rw [if_pos ⟨h0, h1⟩]; omega
theorem end_of {s : Int} (h0 : 0 ≤ s) (h1 : s ≤ 1099511627776) (h : s % 10 = 0) : endI s = s + 10 := by
  unfold endI; rw [if_pos ⟨h0, h1, h⟩]
theorem late_over {a : Int} (h0 : 0 ≤ a) (h1 : a ≤ 1099511627776) (m : Int) : lateB a m = overB (startI a) m := by
  rw [late_eq, rightB_t h0 h1]; rfl
theorem late_bad {a : Int} (h : ¬ (0 ≤ a ∧ a ≤ 1099511627776)) (m : Int) : lateB a m = false := by
  rw [late_eq, rightB_f h]; rfl

set_option maxRecDepth 100000 in
set_option maxHeartbeats 8000000 in
theorem law_SpanParts (a : Int) (_ : (Lit.int .i64 a).wf = true) (m : Int) (_ : (Lit.int .i64 m).wf = true) (l : Int) (_ : (Lit.int .i64 l).wf = true) (w : World) :
    Calls Try.prog 5 #[.int .i64 a, .int .i64 m, .int .i64 l] w fun e w' => e = .returned (.bool true) ∧ Below w.heap.size w w' := by
  by_cases hA : 0 ≤ a ∧ a ≤ 1099511627776
  · obtain ⟨h0, h1⟩ := hA
    have hr := rightB_t h0 h1
    obtain ⟨s0, s1, s2, s3⟩ := start_facts h0 h1
    have hl := late_over h0 h1 m
    obtain ⟨s, hs⟩ : ∃ s, startI a = s := ⟨_, rfl⟩
    rw [hs] at s0 s1 s2 s3 hl
    have hen := end_of s0 (by omega) s3
    have s4 : s ≤ 1099511627776 := by omega
    have hm0 := right_iff m
    have hl0 := right_iff l
    have o1 := over_iff s m
    have o2 := over_iff s l
    have o3 := over_iff (s - 10) m
    have s3' : (s % 10 != 0) = false := by rw [s3]; rfl
    have hen' : (endI s != s + 10) = false := by rw [hen]; simp
    have H1 := Lib.hid hm0
    have H2 := Lib.hid hl0
    have H3 := Lib.hid o1
    have H4 := Lib.hid o2
    have H5 := Lib.hid o3
    have H6 := Lib.hid s3
    have gw : 0 ≤ m ∧ m ≤ 1099511627776 → wrap64 (m - a) = m - a := fun h => IntWalk.wrap64_in _ ⟨by omega, by omega⟩
    have H7 := Lib.hid gw
    clear hm0 hl0 o1 o2 o3 hen s3 gw
    go_enter Try.func5, Try.ntmps5
    go_wp2_with (first | (go_at_call 15; refine (right_any _ _).mono ?_; rintro e w' ⟨rfl, rfl⟩) | (go_at_call 17; refine (start_any _ _).mono ?_; rintro e w' ⟨rfl, rfl⟩) | (go_at_call 19; refine (end_any _ _).mono ?_; rintro e w' ⟨rfl, rfl⟩) | (go_at_call 21; refine (over_any _ _ _).mono ?_; rintro e w' ⟨rfl, rfl⟩) | (go_at_call 23; refine (late_any _ _ _).mono ?_; rintro e w' ⟨rfl, rfl⟩) | (go_at_call 25; refine (wakes8 _).mono ?_; rintro e w' ⟨rfl, hB⟩))
    all_goals (go_ret; go_light)
    all_goals (have g1 := H1.out; have g2 := H2.out; have g3 := H3.out; have g4 := H4.out; have g5 := H5.out; have g6 := H6.out; have g7 := H7.out; clear H1 H2 H3 H4 H5 H6 H7)
    all_goals first | exact ⟨rfl, hB⟩ | (refine ⟨?_, hB⟩; simp_all; done) | (exfalso; simp_all; omega) | (refine ⟨?_, hB⟩; simp_all; omega) | (exfalso; simp_all; done) | trace_state
  · have hr := rightB_f hA
    have hl := late_bad hA m
    have hs : startI a = -1 := by unfold startI; rw [if_neg hA]
    clear hA
    go_enter Try.func5, Try.ntmps5
    go_wp2_with (first | (go_at_call 15; refine (right_any _ _).mono ?_; rintro e w' ⟨rfl, rfl⟩) | (go_at_call 17; refine (start_any _ _).mono ?_; rintro e w' ⟨rfl, rfl⟩) | (go_at_call 23; refine (late_any _ _ _).mono ?_; rintro e w' ⟨rfl, rfl⟩) | (go_at_call 25; refine (wakes8 _).mono ?_; rintro e w' ⟨rfl, hB⟩))
    go_ret
    exact ⟨rfl, hB⟩

set_option maxRecDepth 100000 in
set_option maxHeartbeats 8000000 in
theorem law_SpanNext (a : Int) (_ : (Lit.int .i64 a).wf = true) (o : Int) (_ : (Lit.int .i64 o).wf = true) (m : Int) (_ : (Lit.int .i64 m).wf = true) (w : World) :
    Calls Try.prog 8 #[.int .i64 a, .int .i64 o, .int .i64 m] w fun e w' => e = .returned (.bool true) ∧ Below w.heap.size w w' := by
  by_cases hA : 0 ≤ a ∧ a ≤ 1099511627776
  · obtain ⟨h0, h1⟩ := hA
    have hr := rightB_t h0 h1
    obtain ⟨s0, s1, s2, s3⟩ := start_facts h0 h1
    have hl := late_over h0 h1 m
    obtain ⟨s, hs⟩ : ∃ s, startI a = s := ⟨_, rfl⟩
    rw [hs] at s0 s1 s2 s3 hl
    have hen := end_of s0 (by omega) s3
    have s4 : s ≤ 1099511627776 := by omega
    have hss : startI s = s := by unfold startI; rw [if_pos ⟨s0, s4⟩]; omega
    have hss' : (startI s != s) = false := by rw [hss]; simp
    have k1 : rightB (s + 10) = true → startI (s + 10) = s + 10 ∧ startI (s + 10 - 1) = s := by
      intro h
      rw [right_iff] at h
      unfold startI; rw [if_pos (by omega), if_pos (by omega)]; omega
    have k2 : lateB o m = true → a ≤ o → lateB a m = true := by
      rw [hl]; simp only [lateB, overB, decide_eq_true_eq]; omega
    have hm0 := right_iff m
    have o1 := over_iff s m
    have H1 := Lib.hid hm0
    have H2 := Lib.hid o1
    have H3 := Lib.hid k1
    have H4 := Lib.hid k2
    have H6 := Lib.hid s3
    have hen2 : (s + 10 != s + 10) = false := by simp
    have k3 : rightB m = true → overB s m = decide (s + 10 + 5 ≤ m) := by
      intro h; rw [right_iff] at h
      rw [Bool.eq_iff_iff, over_iff, decide_eq_true_eq]; omega
    have H8 := Lib.hid k3
    clear hm0 o1 k1 k2 k3 s3
    go_enter Try.func8, Try.ntmps8
    go_wp2_with (first | (go_at_call 15; refine (right_any _ _).mono ?_; rintro e w' ⟨rfl, rfl⟩) | (go_at_call 17; refine (start_any _ _).mono ?_; rintro e w' ⟨rfl, rfl⟩) | (go_at_call 19; refine (end_any _ _).mono ?_; rintro e w' ⟨rfl, rfl⟩) | (go_at_call 21; refine (over_any _ _ _).mono ?_; rintro e w' ⟨rfl, rfl⟩) | (go_at_call 23; refine (late_any _ _ _).mono ?_; rintro e w' ⟨rfl, rfl⟩) | (go_at_call 25; refine (wakes8 _).mono ?_; rintro e w' ⟨rfl, hB⟩))
    all_goals (go_ret; go_light)
    all_goals (have g1 := H1.out; have g2 := H2.out; have g3 := H3.out; have g4 := H4.out; have g6 := H6.out; have g8 := H8.out; clear H1 H2 H3 H4 H6 H8)
    all_goals first | exact ⟨rfl, hB⟩ | (refine ⟨?_, hB⟩; simp_all; done) | (exfalso; simp_all; omega) | (refine ⟨?_, hB⟩; simp_all; omega) | (exfalso; simp_all; done) | trace_state
  · have hr := rightB_f hA
    have he : endI a = -1 := by unfold endI; rw [if_neg (by omega)]
    clear hA
    go_enter Try.func8, Try.ntmps8
    go_wp2_with (first | (go_at_call 15; refine (right_any _ _).mono ?_; rintro e w' ⟨rfl, rfl⟩) | (go_at_call 19; refine (end_any _ _).mono ?_; rintro e w' ⟨rfl, rfl⟩) | (go_at_call 25; refine (wakes8 _).mono ?_; rintro e w' ⟨rfl, hB⟩))
    go_ret
    exact ⟨rfl, hB⟩
end Go.Proofs.Ytbkbekdeplolnaa
