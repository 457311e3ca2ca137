/- The document's aggregates: Put, Right. -/
import Derived.Test.YtmhbibcfbencnaaStY
namespace Go.Proofs.Ytmhbibcfbencnaa
open Go.RowKit Go.Lib
set_option linter.unusedSimpArgs false
set_option linter.unusedVariables false
set_option maxRecDepth 100000 in
set_option maxHeartbeats 8000000 in
theorem rfput_any (a : Ag) (v : Int) (ha : a.Wf) (hv : InR v) (w : World) : Calls Try.prog 66 #[a.val, .int .i64 v] w fun e w' => e = .returned (a.put v).val ∧ Below w.heap.size w w' := by
  have hone : InR 1 := by unfold InR; omega
  have hp1 := fun W => rplus_any a.c 1 ha.c hone W
  have hp2 := fun W => rplus_any a.s v ha.s hv W
  have hq0 := fun W => rplus_any a.b0 1 ha.b0 hone W
  have hq1 := fun W => rplus_any a.b1 1 ha.b1 hone W
  have hq2 := fun W => rplus_any a.b2 1 ha.b2 hone W
  have hq3 := fun W => rplus_any a.b3 1 ha.b3 hone W
  have hbk := rbucket_any v
  rw [Ag.put_eq ha]
  obtain ⟨a1, a2, a3, a4, a5, a6, a7, a8⟩ := a
  simp only [Ag.val] at *
  obtain ⟨n1, hn1⟩ : ∃ n, plusI a1 1 = n := ⟨_, rfl⟩
  obtain ⟨n2, hn2⟩ : ∃ n, plusI a2 v = n := ⟨_, rfl⟩
  rw [hn1] at hp1 ⊢
  rw [hn2] at hp2 ⊢
  have HP1 := Lib.hid hp1
  have HP2 := Lib.hid hp2
  clear hn1 hn2 hp1 hp2 ha hv hone
  obtain ⟨W1, hW1⟩ : ∃ W1, (w.alloc (agObj a1 a2 a3 a4 a5 a6 a7 a8)).alloc (agObj 0 0 0 0 0 0 0 0) = W1 := ⟨_, rfl⟩
  have hr0 : Bx W1 w.heap.size a1 a2 a3 a4 a5 a6 a7 a8 := hW1 ▸ (Bx.new w a1 a2 a3 a4 a5 a6 a7 a8).keep ((Keep.refl [] _).alloc _)
  have hr1 : Bx W1 (w.heap.size + 1) 0 0 0 0 0 0 0 0 := by
    have := Bx.new (w.alloc (agObj a1 a2 a3 a4 a5 a6 a7 a8)) 0 0 0 0 0 0 0 0
    rw [World.size_alloc] at this
    exact hW1 ▸ this
  have hB : Below w.heap.size w W1 := hW1 ▸ ((Below.refl _ w).alloc (Nat.le_refl _) _).alloc (by simp) _
  obtain ⟨p0, p1, p2, p3, p4, p5, p6, p7, p8, pf⟩ := hr0.facts
  obtain ⟨q0, q1, q2, q3, q4, q5, q6, q7, q8, qf⟩ := hr1.facts
  have HR1 := Lib.hid hr1
  have HB := Lib.hid hB
  clear hr0 hr1 hB
  rcases bucket_cases v with h | h | h | h
  · rw [h] at hbk
    have HBK := Lib.hid hbk
    obtain ⟨n3, hn3⟩ : ∃ n, plusI a5 1 = n := ⟨_, rfl⟩
    rw [hn3] at hq0
    have HP3 := Lib.hid hq0
    simp only [h, if_true, show ¬ ((0 : Nat) = 1) by omega, show ¬ ((0 : Nat) = 2) by omega, show ¬ ((0 : Nat) = 3) by omega, if_false]
    rw [hn3]
    clear h hn3 hbk hq0 hq1 hq2 hq3
    by_cases hc : a1 = 0
    · have hcb : (a1 == 0) = true := by simp [hc]
      rw [if_pos (.inl hc), if_pos (.inl hc)]
      clear hc
      go_enter Try.func66, Try.ntmps66
      go_wp2_with (fail)
      refine ((HP1.out _)).mono ?_
      rintro e w3 ⟨rfl, rfl⟩
      go_wp2_with (fail)
      refine ((HP2.out _)).mono ?_
      rintro e w3 ⟨rfl, rfl⟩
      go_wp2_with (fail)
      refine ((HBK.out _)).mono ?_
      rintro e w3 ⟨rfl, rfl⟩
      go_wp2_with (fail)
      refine ((HP3.out _)).mono ?_
      rintro e w3 ⟨rfl, rfl⟩
      go_wp2_with (fail)
      exact ret_ag ⟨n1, n2, v, v, n3, a6, a7, a8⟩ (Bx.keep (X := [w.heap.size]) HR1.out (by repeat (first | exact Keep.refl _ _ | refine Keep.setCell ?_ _ _ _ (.inl (by simp)))) (by simp)) (HB.out.trans (Keep.below (X := [w.heap.size]) (by repeat (first | exact Keep.refl _ _ | refine Keep.setCell ?_ _ _ _ (.inl (by simp)))) HB.out.size (by simp))) (by omega) (by intro W' hW'; obtain ⟨q0, q1, q2, q3, q4, q5, q6, q7, q8, qf⟩ := hW'.facts; simp [results, Try.results66, go_sem, q0, q1, q2, q3, q4, q5, q6, q7, Ag.val])
    · have hcb : (a1 == 0) = false := by simp [hc]
      by_cases hlo : v < a3
      · rw [if_pos (.inr hlo)]
        by_cases hhi : a4 < v
        · rw [if_pos (.inr hhi)]
          clear hc
          go_enter Try.func66, Try.ntmps66
          go_wp2_with (fail)
          refine ((HP1.out _)).mono ?_
          rintro e w3 ⟨rfl, rfl⟩
          go_wp2_with (fail)
          refine ((HP2.out _)).mono ?_
          rintro e w3 ⟨rfl, rfl⟩
          go_wp2_with (fail)
          refine ((HBK.out _)).mono ?_
          rintro e w3 ⟨rfl, rfl⟩
          go_wp2_with (fail)
          refine ((HP3.out _)).mono ?_
          rintro e w3 ⟨rfl, rfl⟩
          go_wp2_with (fail)
          exact ret_ag ⟨n1, n2, v, v, n3, a6, a7, a8⟩ (Bx.keep (X := [w.heap.size]) HR1.out (by repeat (first | exact Keep.refl _ _ | refine Keep.setCell ?_ _ _ _ (.inl (by simp)))) (by simp)) (HB.out.trans (Keep.below (X := [w.heap.size]) (by repeat (first | exact Keep.refl _ _ | refine Keep.setCell ?_ _ _ _ (.inl (by simp)))) HB.out.size (by simp))) (by omega) (by intro W' hW'; obtain ⟨q0, q1, q2, q3, q4, q5, q6, q7, q8, qf⟩ := hW'.facts; simp [results, Try.results66, go_sem, q0, q1, q2, q3, q4, q5, q6, q7, Ag.val])
        · rw [if_neg (fun g => g.elim hc hhi)]
          clear hc
          go_enter Try.func66, Try.ntmps66
          go_wp2_with (fail)
          refine ((HP1.out _)).mono ?_
          rintro e w3 ⟨rfl, rfl⟩
          go_wp2_with (fail)
          refine ((HP2.out _)).mono ?_
          rintro e w3 ⟨rfl, rfl⟩
          go_wp2_with (fail)
          refine ((HBK.out _)).mono ?_
          rintro e w3 ⟨rfl, rfl⟩
          go_wp2_with (fail)
          refine ((HP3.out _)).mono ?_
          rintro e w3 ⟨rfl, rfl⟩
          go_wp2_with (fail)
          exact ret_ag ⟨n1, n2, v, a4, n3, a6, a7, a8⟩ (Bx.keep (X := [w.heap.size]) HR1.out (by repeat (first | exact Keep.refl _ _ | refine Keep.setCell ?_ _ _ _ (.inl (by simp)))) (by simp)) (HB.out.trans (Keep.below (X := [w.heap.size]) (by repeat (first | exact Keep.refl _ _ | refine Keep.setCell ?_ _ _ _ (.inl (by simp)))) HB.out.size (by simp))) (by omega) (by intro W' hW'; obtain ⟨q0, q1, q2, q3, q4, q5, q6, q7, q8, qf⟩ := hW'.facts; simp [results, Try.results66, go_sem, q0, q1, q2, q3, q4, q5, q6, q7, Ag.val])
      · rw [if_neg (fun g => g.elim hc hlo)]
        by_cases hhi : a4 < v
        · rw [if_pos (.inr hhi)]
          clear hc
          go_enter Try.func66, Try.ntmps66
          go_wp2_with (fail)
          refine ((HP1.out _)).mono ?_
          rintro e w3 ⟨rfl, rfl⟩
          go_wp2_with (fail)
          refine ((HP2.out _)).mono ?_
          rintro e w3 ⟨rfl, rfl⟩
          go_wp2_with (fail)
          refine ((HBK.out _)).mono ?_
          rintro e w3 ⟨rfl, rfl⟩
          go_wp2_with (fail)
          refine ((HP3.out _)).mono ?_
          rintro e w3 ⟨rfl, rfl⟩
          go_wp2_with (fail)
          exact ret_ag ⟨n1, n2, a3, v, n3, a6, a7, a8⟩ (Bx.keep (X := [w.heap.size]) HR1.out (by repeat (first | exact Keep.refl _ _ | refine Keep.setCell ?_ _ _ _ (.inl (by simp)))) (by simp)) (HB.out.trans (Keep.below (X := [w.heap.size]) (by repeat (first | exact Keep.refl _ _ | refine Keep.setCell ?_ _ _ _ (.inl (by simp)))) HB.out.size (by simp))) (by omega) (by intro W' hW'; obtain ⟨q0, q1, q2, q3, q4, q5, q6, q7, q8, qf⟩ := hW'.facts; simp [results, Try.results66, go_sem, q0, q1, q2, q3, q4, q5, q6, q7, Ag.val])
        · rw [if_neg (fun g => g.elim hc hhi)]
          clear hc
          go_enter Try.func66, Try.ntmps66
          go_wp2_with (fail)
          refine ((HP1.out _)).mono ?_
          rintro e w3 ⟨rfl, rfl⟩
          go_wp2_with (fail)
          refine ((HP2.out _)).mono ?_
          rintro e w3 ⟨rfl, rfl⟩
          go_wp2_with (fail)
          refine ((HBK.out _)).mono ?_
          rintro e w3 ⟨rfl, rfl⟩
          go_wp2_with (fail)
          refine ((HP3.out _)).mono ?_
          rintro e w3 ⟨rfl, rfl⟩
          go_wp2_with (fail)
          exact ret_ag ⟨n1, n2, a3, a4, n3, a6, a7, a8⟩ (Bx.keep (X := [w.heap.size]) HR1.out (by repeat (first | exact Keep.refl _ _ | refine Keep.setCell ?_ _ _ _ (.inl (by simp)))) (by simp)) (HB.out.trans (Keep.below (X := [w.heap.size]) (by repeat (first | exact Keep.refl _ _ | refine Keep.setCell ?_ _ _ _ (.inl (by simp)))) HB.out.size (by simp))) (by omega) (by intro W' hW'; obtain ⟨q0, q1, q2, q3, q4, q5, q6, q7, q8, qf⟩ := hW'.facts; simp [results, Try.results66, go_sem, q0, q1, q2, q3, q4, q5, q6, q7, Ag.val])
  · rw [h] at hbk
    have HBK := Lib.hid hbk
    obtain ⟨n3, hn3⟩ : ∃ n, plusI a6 1 = n := ⟨_, rfl⟩
    rw [hn3] at hq1
    have HP3 := Lib.hid hq1
    simp only [h, if_true, show ¬ ((1 : Nat) = 0) by omega, show ¬ ((1 : Nat) = 2) by omega, show ¬ ((1 : Nat) = 3) by omega, if_false]
    rw [hn3]
    clear h hn3 hbk hq0 hq1 hq2 hq3
    by_cases hc : a1 = 0
    · have hcb : (a1 == 0) = true := by simp [hc]
      rw [if_pos (.inl hc), if_pos (.inl hc)]
      clear hc
      go_enter Try.func66, Try.ntmps66
      go_wp2_with (fail)
      refine ((HP1.out _)).mono ?_
      rintro e w3 ⟨rfl, rfl⟩
      go_wp2_with (fail)
      refine ((HP2.out _)).mono ?_
      rintro e w3 ⟨rfl, rfl⟩
      go_wp2_with (fail)
      refine ((HBK.out _)).mono ?_
      rintro e w3 ⟨rfl, rfl⟩
      go_wp2_with (fail)
      refine ((HP3.out _)).mono ?_
      rintro e w3 ⟨rfl, rfl⟩
      go_wp2_with (fail)
      exact ret_ag ⟨n1, n2, v, v, a5, n3, a7, a8⟩ (Bx.keep (X := [w.heap.size]) HR1.out (by repeat (first | exact Keep.refl _ _ | refine Keep.setCell ?_ _ _ _ (.inl (by simp)))) (by simp)) (HB.out.trans (Keep.below (X := [w.heap.size]) (by repeat (first | exact Keep.refl _ _ | refine Keep.setCell ?_ _ _ _ (.inl (by simp)))) HB.out.size (by simp))) (by omega) (by intro W' hW'; obtain ⟨q0, q1, q2, q3, q4, q5, q6, q7, q8, qf⟩ := hW'.facts; simp [results, Try.results66, go_sem, q0, q1, q2, q3, q4, q5, q6, q7, Ag.val])
    · have hcb : (a1 == 0) = false := by simp [hc]
      by_cases hlo : v < a3
      · rw [if_pos (.inr hlo)]
        by_cases hhi : a4 < v
        · rw [if_pos (.inr hhi)]
          clear hc
          go_enter Try.func66, Try.ntmps66
          go_wp2_with (fail)
          refine ((HP1.out _)).mono ?_
          rintro e w3 ⟨rfl, rfl⟩
          go_wp2_with (fail)
          refine ((HP2.out _)).mono ?_
          rintro e w3 ⟨rfl, rfl⟩
          go_wp2_with (fail)
          refine ((HBK.out _)).mono ?_
          rintro e w3 ⟨rfl, rfl⟩
          go_wp2_with (fail)
          refine ((HP3.out _)).mono ?_
          rintro e w3 ⟨rfl, rfl⟩
          go_wp2_with (fail)
          exact ret_ag ⟨n1, n2, v, v, a5, n3, a7, a8⟩ (Bx.keep (X := [w.heap.size]) HR1.out (by repeat (first | exact Keep.refl _ _ | refine Keep.setCell ?_ _ _ _ (.inl (by simp)))) (by simp)) (HB.out.trans (Keep.below (X := [w.heap.size]) (by repeat (first | exact Keep.refl _ _ | refine Keep.setCell ?_ _ _ _ (.inl (by simp)))) HB.out.size (by simp))) (by omega) (by intro W' hW'; obtain ⟨q0, q1, q2, q3, q4, q5, q6, q7, q8, qf⟩ := hW'.facts; simp [results, Try.results66, go_sem, q0, q1, q2, q3, q4, q5, q6, q7, Ag.val])
        · rw [if_neg (fun g => g.elim hc hhi)]
          clear hc
          go_enter Try.func66, Try.ntmps66
          go_wp2_with (fail)
          refine ((HP1.out _)).mono ?_
          rintro e w3 ⟨rfl, rfl⟩
          go_wp2_with (fail)
          refine ((HP2.out _)).mono ?_
          rintro e w3 ⟨rfl, rfl⟩
          go_wp2_with (fail)
          refine ((HBK.out _)).mono ?_
          rintro e w3 ⟨rfl, rfl⟩
          go_wp2_with (fail)
          refine ((HP3.out _)).mono ?_
          rintro e w3 ⟨rfl, rfl⟩
          go_wp2_with (fail)
          exact ret_ag ⟨n1, n2, v, a4, a5, n3, a7, a8⟩ (Bx.keep (X := [w.heap.size]) HR1.out (by repeat (first | exact Keep.refl _ _ | refine Keep.setCell ?_ _ _ _ (.inl (by simp)))) (by simp)) (HB.out.trans (Keep.below (X := [w.heap.size]) (by repeat (first | exact Keep.refl _ _ | refine Keep.setCell ?_ _ _ _ (.inl (by simp)))) HB.out.size (by simp))) (by omega) (by intro W' hW'; obtain ⟨q0, q1, q2, q3, q4, q5, q6, q7, q8, qf⟩ := hW'.facts; simp [results, Try.results66, go_sem, q0, q1, q2, q3, q4, q5, q6, q7, Ag.val])
      · rw [if_neg (fun g => g.elim hc hlo)]
        by_cases hhi : a4 < v
        · rw [if_pos (.inr hhi)]
          clear hc
          go_enter Try.func66, Try.ntmps66
          go_wp2_with (fail)
          refine ((HP1.out _)).mono ?_
          rintro e w3 ⟨rfl, rfl⟩
          go_wp2_with (fail)
          refine ((HP2.out _)).mono ?_
          rintro e w3 ⟨rfl, rfl⟩
          go_wp2_with (fail)
          refine ((HBK.out _)).mono ?_
          rintro e w3 ⟨rfl, rfl⟩
          go_wp2_with (fail)
          refine ((HP3.out _)).mono ?_
          rintro e w3 ⟨rfl, rfl⟩
          go_wp2_with (fail)
          exact ret_ag ⟨n1, n2, a3, v, a5, n3, a7, a8⟩ (Bx.keep (X := [w.heap.size]) HR1.out (by repeat (first | exact Keep.refl _ _ | refine Keep.setCell ?_ _ _ _ (.inl (by simp)))) (by simp)) (HB.out.trans (Keep.below (X := [w.heap.size]) (by repeat (first | exact Keep.refl _ _ | refine Keep.setCell ?_ _ _ _ (.inl (by simp)))) HB.out.size (by simp))) (by omega) (by intro W' hW'; obtain ⟨q0, q1, q2, q3, q4, q5, q6, q7, q8, qf⟩ := hW'.facts; simp [results, Try.results66, go_sem, q0, q1, q2, q3, q4, q5, q6, q7, Ag.val])
        · rw [if_neg (fun g => g.elim hc hhi)]
          clear hc
          go_enter Try.func66, Try.ntmps66
          go_wp2_with (fail)
          refine ((HP1.out _)).mono ?_
          rintro e w3 ⟨rfl, rfl⟩
          go_wp2_with (fail)
          refine ((HP2.out _)).mono ?_
          rintro e w3 ⟨rfl, rfl⟩
          go_wp2_with (fail)
          refine ((HBK.out _)).mono ?_
          rintro e w3 ⟨rfl, rfl⟩
          go_wp2_with (fail)
          refine ((HP3.out _)).mono ?_
          rintro e w3 ⟨rfl, rfl⟩
          go_wp2_with (fail)
          exact ret_ag ⟨n1, n2, a3, a4, a5, n3, a7, a8⟩ (Bx.keep (X := [w.heap.size]) HR1.out (by repeat (first | exact Keep.refl _ _ | refine Keep.setCell ?_ _ _ _ (.inl (by simp)))) (by simp)) (HB.out.trans (Keep.below (X := [w.heap.size]) (by repeat (first | exact Keep.refl _ _ | refine Keep.setCell ?_ _ _ _ (.inl (by simp)))) HB.out.size (by simp))) (by omega) (by intro W' hW'; obtain ⟨q0, q1, q2, q3, q4, q5, q6, q7, q8, qf⟩ := hW'.facts; simp [results, Try.results66, go_sem, q0, q1, q2, q3, q4, q5, q6, q7, Ag.val])
  · rw [h] at hbk
    have HBK := Lib.hid hbk
    obtain ⟨n3, hn3⟩ : ∃ n, plusI a7 1 = n := ⟨_, rfl⟩
    rw [hn3] at hq2
    have HP3 := Lib.hid hq2
    simp only [h, if_true, show ¬ ((2 : Nat) = 0) by omega, show ¬ ((2 : Nat) = 1) by omega, show ¬ ((2 : Nat) = 3) by omega, if_false]
    rw [hn3]
    clear h hn3 hbk hq0 hq1 hq2 hq3
    by_cases hc : a1 = 0
    · have hcb : (a1 == 0) = true := by simp [hc]
      rw [if_pos (.inl hc), if_pos (.inl hc)]
      clear hc
      go_enter Try.func66, Try.ntmps66
      go_wp2_with (fail)
      refine ((HP1.out _)).mono ?_
      rintro e w3 ⟨rfl, rfl⟩
      go_wp2_with (fail)
      refine ((HP2.out _)).mono ?_
      rintro e w3 ⟨rfl, rfl⟩
      go_wp2_with (fail)
      refine ((HBK.out _)).mono ?_
      rintro e w3 ⟨rfl, rfl⟩
      go_wp2_with (fail)
      refine ((HP3.out _)).mono ?_
      rintro e w3 ⟨rfl, rfl⟩
      go_wp2_with (fail)
      exact ret_ag ⟨n1, n2, v, v, a5, a6, n3, a8⟩ (Bx.keep (X := [w.heap.size]) HR1.out (by repeat (first | exact Keep.refl _ _ | refine Keep.setCell ?_ _ _ _ (.inl (by simp)))) (by simp)) (HB.out.trans (Keep.below (X := [w.heap.size]) (by repeat (first | exact Keep.refl _ _ | refine Keep.setCell ?_ _ _ _ (.inl (by simp)))) HB.out.size (by simp))) (by omega) (by intro W' hW'; obtain ⟨q0, q1, q2, q3, q4, q5, q6, q7, q8, qf⟩ := hW'.facts; simp [results, Try.results66, go_sem, q0, q1, q2, q3, q4, q5, q6, q7, Ag.val])
    · have hcb : (a1 == 0) = false := by simp [hc]
      by_cases hlo : v < a3
      · rw [if_pos (.inr hlo)]
        by_cases hhi : a4 < v
        · rw [if_pos (.inr hhi)]
          clear hc
          go_enter Try.func66, Try.ntmps66
          go_wp2_with (fail)
          refine ((HP1.out _)).mono ?_
          rintro e w3 ⟨rfl, rfl⟩
          go_wp2_with (fail)
          refine ((HP2.out _)).mono ?_
          rintro e w3 ⟨rfl, rfl⟩
          go_wp2_with (fail)
          refine ((HBK.out _)).mono ?_
          rintro e w3 ⟨rfl, rfl⟩
          go_wp2_with (fail)
          refine ((HP3.out _)).mono ?_
          rintro e w3 ⟨rfl, rfl⟩
          go_wp2_with (fail)
          exact ret_ag ⟨n1, n2, v, v, a5, a6, n3, a8⟩ (Bx.keep (X := [w.heap.size]) HR1.out (by repeat (first | exact Keep.refl _ _ | refine Keep.setCell ?_ _ _ _ (.inl (by simp)))) (by simp)) (HB.out.trans (Keep.below (X := [w.heap.size]) (by repeat (first | exact Keep.refl _ _ | refine Keep.setCell ?_ _ _ _ (.inl (by simp)))) HB.out.size (by simp))) (by omega) (by intro W' hW'; obtain ⟨q0, q1, q2, q3, q4, q5, q6, q7, q8, qf⟩ := hW'.facts; simp [results, Try.results66, go_sem, q0, q1, q2, q3, q4, q5, q6, q7, Ag.val])
        · rw [if_neg (fun g => g.elim hc hhi)]
          clear hc
          go_enter Try.func66, Try.ntmps66
          go_wp2_with (fail)
          refine ((HP1.out _)).mono ?_
          rintro e w3 ⟨rfl, rfl⟩
          go_wp2_with (fail)
          refine ((HP2.out _)).mono ?_
          rintro e w3 ⟨rfl, rfl⟩
          go_wp2_with (fail)
          refine ((HBK.out _)).mono ?_
          rintro e w3 ⟨rfl, rfl⟩
          go_wp2_with (fail)
          refine ((HP3.out _)).mono ?_
          rintro e w3 ⟨rfl, rfl⟩
          go_wp2_with (fail)
          exact ret_ag ⟨n1, n2, v, a4, a5, a6, n3, a8⟩ (Bx.keep (X := [w.heap.size]) HR1.out (by repeat (first | exact Keep.refl _ _ | refine Keep.setCell ?_ _ _ _ (.inl (by simp)))) (by simp)) (HB.out.trans (Keep.below (X := [w.heap.size]) (by repeat (first | exact Keep.refl _ _ | refine Keep.setCell ?_ _ _ _ (.inl (by simp)))) HB.out.size (by simp))) (by omega) (by intro W' hW'; obtain ⟨q0, q1, q2, q3, q4, q5, q6, q7, q8, qf⟩ := hW'.facts; simp [results, Try.results66, go_sem, q0, q1, q2, q3, q4, q5, q6, q7, Ag.val])
      · rw [if_neg (fun g => g.elim hc hlo)]
        by_cases hhi : a4 < v
        · rw [if_pos (.inr hhi)]
          clear hc
          go_enter Try.func66, Try.ntmps66
          go_wp2_with (fail)
          refine ((HP1.out _)).mono ?_
          rintro e w3 ⟨rfl, rfl⟩
          go_wp2_with (fail)
          refine ((HP2.out _)).mono ?_
          rintro e w3 ⟨rfl, rfl⟩
          go_wp2_with (fail)
          refine ((HBK.out _)).mono ?_
          rintro e w3 ⟨rfl, rfl⟩
          go_wp2_with (fail)
          refine ((HP3.out _)).mono ?_
          rintro e w3 ⟨rfl, rfl⟩
          go_wp2_with (fail)
          exact ret_ag ⟨n1, n2, a3, v, a5, a6, n3, a8⟩ (Bx.keep (X := [w.heap.size]) HR1.out (by repeat (first | exact Keep.refl _ _ | refine Keep.setCell ?_ _ _ _ (.inl (by simp)))) (by simp)) (HB.out.trans (Keep.below (X := [w.heap.size]) (by repeat (first | exact Keep.refl _ _ | refine Keep.setCell ?_ _ _ _ (.inl (by simp)))) HB.out.size (by simp))) (by omega) (by intro W' hW'; obtain ⟨q0, q1, q2, q3, q4, q5, q6, q7, q8, qf⟩ := hW'.facts; simp [results, Try.results66, go_sem, q0, q1, q2, q3, q4, q5, q6, q7, Ag.val])
        · rw [if_neg (fun g => g.elim hc hhi)]
          clear hc
          go_enter Try.func66, Try.ntmps66
          go_wp2_with (fail)
          refine ((HP1.out _)).mono ?_
          rintro e w3 ⟨rfl, rfl⟩
          go_wp2_with (fail)
          refine ((HP2.out _)).mono ?_
          rintro e w3 ⟨rfl, rfl⟩
          go_wp2_with (fail)
          refine ((HBK.out _)).mono ?_
          rintro e w3 ⟨rfl, rfl⟩
          go_wp2_with (fail)
          refine ((HP3.out _)).mono ?_
          rintro e w3 ⟨rfl, rfl⟩
          go_wp2_with (fail)
          exact ret_ag ⟨n1, n2, a3, a4, a5, a6, n3, a8⟩ (Bx.keep (X := [w.heap.size]) HR1.out (by repeat (first | exact Keep.refl _ _ | refine Keep.setCell ?_ _ _ _ (.inl (by simp)))) (by simp)) (HB.out.trans (Keep.below (X := [w.heap.size]) (by repeat (first | exact Keep.refl _ _ | refine Keep.setCell ?_ _ _ _ (.inl (by simp)))) HB.out.size (by simp))) (by omega) (by intro W' hW'; obtain ⟨q0, q1, q2, q3, q4, q5, q6, q7, q8, qf⟩ := hW'.facts; simp [results, Try.results66, go_sem, q0, q1, q2, q3, q4, q5, q6, q7, Ag.val])
  · rw [h] at hbk
    have HBK := Lib.hid hbk
    obtain ⟨n3, hn3⟩ : ∃ n, plusI a8 1 = n := ⟨_, rfl⟩
    rw [hn3] at hq3
    have HP3 := Lib.hid hq3
    simp only [h, if_true, show ¬ ((3 : Nat) = 0) by omega, show ¬ ((3 : Nat) = 1) by omega, show ¬ ((3 : Nat) = 2) by omega, if_false]
    rw [hn3]
    clear h hn3 hbk hq0 hq1 hq2 hq3
    by_cases hc : a1 = 0
    · have hcb : (a1 == 0) = true := by simp [hc]
      rw [if_pos (.inl hc), if_pos (.inl hc)]
      clear hc
      go_enter Try.func66, Try.ntmps66
      go_wp2_with (fail)
      refine ((HP1.out _)).mono ?_
      rintro e w3 ⟨rfl, rfl⟩
      go_wp2_with (fail)
      refine ((HP2.out _)).mono ?_
      rintro e w3 ⟨rfl, rfl⟩
      go_wp2_with (fail)
      refine ((HBK.out _)).mono ?_
      rintro e w3 ⟨rfl, rfl⟩
      go_wp2_with (fail)
      refine ((HP3.out _)).mono ?_
      rintro e w3 ⟨rfl, rfl⟩
      go_wp2_with (fail)
      exact ret_ag ⟨n1, n2, v, v, a5, a6, a7, n3⟩ (Bx.keep (X := [w.heap.size]) HR1.out (by repeat (first | exact Keep.refl _ _ | refine Keep.setCell ?_ _ _ _ (.inl (by simp)))) (by simp)) (HB.out.trans (Keep.below (X := [w.heap.size]) (by repeat (first | exact Keep.refl _ _ | refine Keep.setCell ?_ _ _ _ (.inl (by simp)))) HB.out.size (by simp))) (by omega) (by intro W' hW'; obtain ⟨q0, q1, q2, q3, q4, q5, q6, q7, q8, qf⟩ := hW'.facts; simp [results, Try.results66, go_sem, q0, q1, q2, q3, q4, q5, q6, q7, Ag.val])
    · have hcb : (a1 == 0) = false := by simp [hc]
      by_cases hlo : v < a3
      · rw [if_pos (.inr hlo)]
        by_cases hhi : a4 < v
        · rw [if_pos (.inr hhi)]
          clear hc
          go_enter Try.func66, Try.ntmps66
          go_wp2_with (fail)
          refine ((HP1.out _)).mono ?_
          rintro e w3 ⟨rfl, rfl⟩
          go_wp2_with (fail)
          refine ((HP2.out _)).mono ?_
          rintro e w3 ⟨rfl, rfl⟩
          go_wp2_with (fail)
          refine ((HBK.out _)).mono ?_
          rintro e w3 ⟨rfl, rfl⟩
          go_wp2_with (fail)
          refine ((HP3.out _)).mono ?_
          rintro e w3 ⟨rfl, rfl⟩
          go_wp2_with (fail)
          exact ret_ag ⟨n1, n2, v, v, a5, a6, a7, n3⟩ (Bx.keep (X := [w.heap.size]) HR1.out (by repeat (first | exact Keep.refl _ _ | refine Keep.setCell ?_ _ _ _ (.inl (by simp)))) (by simp)) (HB.out.trans (Keep.below (X := [w.heap.size]) (by repeat (first | exact Keep.refl _ _ | refine Keep.setCell ?_ _ _ _ (.inl (by simp)))) HB.out.size (by simp))) (by omega) (by intro W' hW'; obtain ⟨q0, q1, q2, q3, q4, q5, q6, q7, q8, qf⟩ := hW'.facts; simp [results, Try.results66, go_sem, q0, q1, q2, q3, q4, q5, q6, q7, Ag.val])
        · rw [if_neg (fun g => g.elim hc hhi)]
          clear hc
          go_enter Try.func66, Try.ntmps66
          go_wp2_with (fail)
          refine ((HP1.out _)).mono ?_
          rintro e w3 ⟨rfl, rfl⟩
          go_wp2_with (fail)
          refine ((HP2.out _)).mono ?_
          rintro e w3 ⟨rfl, rfl⟩
          go_wp2_with (fail)
          refine ((HBK.out _)).mono ?_
          rintro e w3 ⟨rfl, rfl⟩
          go_wp2_with (fail)
          refine ((HP3.out _)).mono ?_
          rintro e w3 ⟨rfl, rfl⟩
          go_wp2_with (fail)
          exact ret_ag ⟨n1, n2, v, a4, a5, a6, a7, n3⟩ (Bx.keep (X := [w.heap.size]) HR1.out (by repeat (first | exact Keep.refl _ _ | refine Keep.setCell ?_ _ _ _ (.inl (by simp)))) (by simp)) (HB.out.trans (Keep.below (X := [w.heap.size]) (by repeat (first | exact Keep.refl _ _ | refine Keep.setCell ?_ _ _ _ (.inl (by simp)))) HB.out.size (by simp))) (by omega) (by intro W' hW'; obtain ⟨q0, q1, q2, q3, q4, q5, q6, q7, q8, qf⟩ := hW'.facts; simp [results, Try.results66, go_sem, q0, q1, q2, q3, q4, q5, q6, q7, Ag.val])
      · rw [if_neg (fun g => g.elim hc hlo)]
        by_cases hhi : a4 < v
        · rw [if_pos (.inr hhi)]
          clear hc
          go_enter Try.func66, Try.ntmps66
          go_wp2_with (fail)
          refine ((HP1.out _)).mono ?_
          rintro e w3 ⟨rfl, rfl⟩
          go_wp2_with (fail)
          refine ((HP2.out _)).mono ?_
          rintro e w3 ⟨rfl, rfl⟩
          go_wp2_with (fail)
          refine ((HBK.out _)).mono ?_
          rintro e w3 ⟨rfl, rfl⟩
          go_wp2_with (fail)
          refine ((HP3.out _)).mono ?_
          rintro e w3 ⟨rfl, rfl⟩
          go_wp2_with (fail)
          exact ret_ag ⟨n1, n2, a3, v, a5, a6, a7, n3⟩ (Bx.keep (X := [w.heap.size]) HR1.out (by repeat (first | exact Keep.refl _ _ | refine Keep.setCell ?_ _ _ _ (.inl (by simp)))) (by simp)) (HB.out.trans (Keep.below (X := [w.heap.size]) (by repeat (first | exact Keep.refl _ _ | refine Keep.setCell ?_ _ _ _ (.inl (by simp)))) HB.out.size (by simp))) (by omega) (by intro W' hW'; obtain ⟨q0, q1, q2, q3, q4, q5, q6, q7, q8, qf⟩ := hW'.facts; simp [results, Try.results66, go_sem, q0, q1, q2, q3, q4, q5, q6, q7, Ag.val])
        · rw [if_neg (fun g => g.elim hc hhi)]
          clear hc
          go_enter Try.func66, Try.ntmps66
          go_wp2_with (fail)
          refine ((HP1.out _)).mono ?_
          rintro e w3 ⟨rfl, rfl⟩
          go_wp2_with (fail)
          refine ((HP2.out _)).mono ?_
          rintro e w3 ⟨rfl, rfl⟩
          go_wp2_with (fail)
          refine ((HBK.out _)).mono ?_
          rintro e w3 ⟨rfl, rfl⟩
          go_wp2_with (fail)
          refine ((HP3.out _)).mono ?_
          rintro e w3 ⟨rfl, rfl⟩
          go_wp2_with (fail)
          exact ret_ag ⟨n1, n2, a3, a4, a5, a6, a7, n3⟩ (Bx.keep (X := [w.heap.size]) HR1.out (by repeat (first | exact Keep.refl _ _ | refine Keep.setCell ?_ _ _ _ (.inl (by simp)))) (by simp)) (HB.out.trans (Keep.below (X := [w.heap.size]) (by repeat (first | exact Keep.refl _ _ | refine Keep.setCell ?_ _ _ _ (.inl (by simp)))) HB.out.size (by simp))) (by omega) (by intro W' hW'; obtain ⟨q0, q1, q2, q3, q4, q5, q6, q7, q8, qf⟩ := hW'.facts; simp [results, Try.results66, go_sem, q0, q1, q2, q3, q4, q5, q6, q7, Ag.val])
end Go.Proofs.Ytmhbibcfbencnaa
