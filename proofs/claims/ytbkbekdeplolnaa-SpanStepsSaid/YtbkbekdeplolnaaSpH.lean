/- SpanSince: the windows that are over since a mark are those that are over now and were not then. -/
import Derived.Test.YtbkbekdeplolnaaSpF
import Derived.Test.YtbkbekdeplolnaaSpG
import Derived.Sort.QuietThIn
import Derived.Sort.BigQuietIn
namespace Go.Proofs.Ytbkbekdeplolnaa
open Go.RowKit Go.Shelf
attribute [local go_sem] Oper.semAt_some
set_option linter.unusedSimpArgs false
set_option linter.unusedVariables false

/-- A moment's window is among those told just if it is over now and was not then. -/
theorem in_starts {m s x : Int} (hs0 : 0 ≤ s) (hsm : s ≤ m) (hm : m ≤ 1099511627776) (h5 : m - s ≤ 5000) (hx0 : 0 ≤ x) (hxm : x ≤ m) :
    decide (startI x ∈ startsL m s) = (lateB x m && !lateB x s) := by
  have hx1 : x ≤ 1099511627776 := by omega
  have hx : startI x = x - x % 10 := by unfold startI; rw [if_pos ⟨hx0, hx1⟩]
  have hc : cntN m s = min 1000 ((m - 5 - firstI s) / 10).toNat := by unfold cntN; rw [if_pos ⟨hs0, hsm, hm⟩]
  have hf : firstI s = if s < 15 then 0 else (s - 15) / 10 * 10 + 10 := rfl
  have hfm := firstI_mod s
  have hfg := firstI_ge s
  have hcnt : 10 * (cntN m s : Int) ≤ m - 5 - firstI s ∨ cntN m s = 0 := by rw [hc]; omega
  have hcnt2 : m - 14 - firstI s ≤ 10 * (cntN m s : Int) := by
    rw [hc]; split at hf <;> omega
  rw [Bool.eq_iff_iff]
  simp only [decide_eq_true_eq, Bool.and_eq_true, Bool.not_eq_true', lateB, decide_eq_false_iff_not, startsL, uptoI, List.mem_map, List.mem_range]
  rw [hx]
  constructor
  · rintro ⟨i, hi, he⟩
    refine ⟨by omega, ?_⟩
    split at hf <;> omega
  · rintro ⟨h1, h2⟩
    have h3 : firstI s ≤ x - x % 10 := by split at hf <;> omega
    refine ⟨((x - x % 10 - firstI s) / 10).toNat, ?_, ?_⟩ <;> omega

set_option maxRecDepth 100000 in
set_option maxHeartbeats 4000000 in
theorem since_bad (m s x : Int) (w : World) (h : ¬ (0 ≤ m ∧ m ≤ 1099511627776) ∨ (0 ≤ m ∧ m ≤ 1099511627776) ∧ ¬ (0 ≤ s ∧ s ≤ 1099511627776) ∨ (0 ≤ m ∧ m ≤ 1099511627776) ∧ (0 ≤ s ∧ s ≤ 1099511627776) ∧ m < s ∨ (0 ≤ m ∧ m ≤ 1099511627776) ∧ (0 ≤ s ∧ s ≤ 1099511627776) ∧ s ≤ m ∧ 5000 < m - s) :
    Calls Try.prog 6 #[.int .i64 m, .int .i64 s, .int .i64 x] w fun e w' => e = .returned (.bool true) ∧ Below w.heap.size w w' := by
  rcases h with h | ⟨h, h'⟩ | ⟨h, h', h2⟩ | ⟨h, h', h2, h3⟩
  · have h1 := rightB_f h
    go_enter Try.func6, Try.ntmps6
    go_wp2_with (first | (go_at_call 15; refine (right_any _ _).mono ?_; rintro e w' ⟨rfl, rfl⟩) | (go_at_call 25; refine (wakes8 _).mono ?_; rintro e w' ⟨rfl, hB⟩))
    go_ret
    exact ⟨rfl, hB⟩
  · have h1 := rightB_t h.1 h.2
    have h2 := rightB_f h'
    go_enter Try.func6, Try.ntmps6
    go_wp2_with (first | (go_at_call 15; refine (right_any _ _).mono ?_; rintro e w' ⟨rfl, rfl⟩) | (go_at_call 25; refine (wakes8 _).mono ?_; rintro e w' ⟨rfl, hB⟩))
    go_ret
    exact ⟨rfl, hB⟩
  · have h1 := rightB_t h.1 h.2
    have h2 := rightB_t h'.1 h'.2
    go_enter Try.func6, Try.ntmps6
    go_wp2_with (first | (go_at_call 15; refine (right_any _ _).mono ?_; rintro e w' ⟨rfl, rfl⟩) | (go_at_call 25; refine (wakes8 _).mono ?_; rintro e w' ⟨rfl, hB⟩))
    go_ret
    exact ⟨rfl, hB⟩
  · have h1 := rightB_t h.1 h.2
    have h2 := rightB_t h'.1 h'.2
    obtain ⟨g1, g2⟩ := h
    obtain ⟨g3, g4⟩ := h'
    go_enter Try.func6, Try.ntmps6
    go_wp2_with (first | (go_at_call 15; refine (right_any _ _).mono ?_; rintro e w' ⟨rfl, rfl⟩) | (go_at_call 25; refine (wakes8 _).mono ?_; rintro e w' ⟨rfl, hB⟩))
    go_ret
    exact ⟨rfl, hB⟩

/-- The class of worlds in which the last region runs. -/
structure S2 (w : World) (y : Int) (v : Bool) (D : Nat) (W : World) : Prop where
  a : Bx W w.heap.size (.int .i64 y)
  b : Bx W (w.heap.size + 1) (.bool v)
  k : W.heap[D]? = some (.deferred (some []))
  B : Below w.heap.size w W
theorem S2.wakes {w : World} {y : Int} {v : Bool} {D : Nat} {n : Nat} {W : World} (h : S2 w y v D W) :
    CallsIn Fence.wide n Try.prog 25 #[] W fun e W' => e = .returned (.bool true) ∧ S2 w y v D W' :=
  callsIn_wide.2 ((wakes8 W).mono fun e W' ⟨he, hb⟩ => ⟨he, h.a.below hb h.a.lt, h.b.below hb h.b.lt, (hb.block D (Array.getElem?_eq_some_iff.1 h.k).1).trans h.k, h.B.trans (hb.mono h.B.size)⟩)
theorem S2.late {w : World} {y : Int} {v : Bool} {D : Nat} {n : Nat} {W : World} (h : S2 w y v D W) (a m : Int) :
    CallsIn Fence.wide n Try.prog 23 #[.int .i64 a, .int .i64 m] W fun e W' => e = .returned (.bool (lateB a m)) ∧ S2 w y v D W' :=
  callsIn_wide.2 ((late_any a m W).mono fun e W' ⟨he, hb⟩ => ⟨he, hb ▸ h⟩)
theorem tmod_of (x : Int) : x.tmod 6000 = (if 0 ≤ x then x % 6000 else -((-x) % 6000)) := by
  split
  · rw [Int.tmod_eq_emod_of_nonneg (by omega)]
  · have : x = -(-x) := by omega
    rw [this, Int.neg_tmod, Int.tmod_eq_emod_of_nonneg (by omega)]; omega

set_option maxRecDepth 100000 in
set_option maxHeartbeats 4000000 in
theorem law_SpanSince (m : Int) (_ : (Lit.int .i64 m).wf = true) (s : Int) (_ : (Lit.int .i64 s).wf = true) (x : Int) (hx : (Lit.int .i64 x).wf = true) (w : World) :
    Calls Try.prog 6 #[.int .i64 m, .int .i64 s, .int .i64 x] w fun e w' => e = .returned (.bool true) ∧ Below w.heap.size w w' := by
  by_cases hgood : 0 ≤ s ∧ s ≤ m ∧ m ≤ 1099511627776 ∧ m - s ≤ 5000
  case neg => exact since_bad m s x w (by omega)
  obtain ⟨hs0, hsm, hm1, h5⟩ := hgood
  have hrm := rightB_t (show 0 ≤ m by omega) hm1
  have hrs := rightB_t hs0 (show s ≤ 1099511627776 by omega)
  have hnlt : ¬ m < s := by omega
  have ht := tmod_of x
  obtain ⟨t, htt⟩ : ∃ t, x.tmod 6000 = t := ⟨_, rfl⟩
  have t1 : -6000 < t := by rw [← htt, ht]; split <;> omega
  have t2 : t < 6000 := by rw [← htt, ht]; split <;> omega
  clear ht
  refine (callsIn_wide (n := 5)).1 ?_
  refine callsIn_of_wp_marks Try.func6 rfl trivial ?_ rfl
  simp only [Try.ntmps6, List.size_toArray, List.length_cons, List.length_nil, Nat.reduceAdd, Nat.reduceSub, Array.replicate_succ, Array.replicate_zero, List.push_toArray, List.append_toArray, List.nil_append, List.cons_append]
  have hfn := func_nil
  have hnc : (m < s) = False := by simpa using hsm
  obtain ⟨y, hy⟩ : ∃ y, (if t < 0 then m + t else m - t) = y := ⟨_, rfl⟩
  have hym : y ≤ m := by rw [← hy]; split <;> omega
  have hin : 0 ≤ y → decide (startI y ∈ startsL m s) = (lateB y m && !lateB y s) := fun h => in_starts hs0 hsm hm1 h5 h hym
  have Hin := Lib.hid hin
  have Hst := Lib.hid hs0
  clear hin
  by_cases ht0 : t < 0
  all_goals
    by_cases hat : y < 0
    · first | rw [if_pos ht0] at hy | rw [if_neg ht0] at hy
      have hat' := hat
      rw [← hy] at hat'
      have Hy := Lib.hid hy
      clear hy hnc
      gi_wp2_with (first | (refine wide_call' (right_any _ _) ?_; rintro e w' ⟨rfl, rfl⟩) | (refine wide_call' (starts_any _ _ _) ?_; rintro e w' ⟨rfl, rfl⟩) | (refine wide_call' (wakes8 _) ?_; rintro e w' ⟨rfl, hB⟩))
      exact ⟨_, results_tmp rfl _ _ _, rfl, ((Below.refl _ w).alloc (Nat.le_refl _) _).trans (hB.mono (by simp))⟩
    · first | rw [if_pos ht0] at hy | rw [if_neg ht0] at hy
      have hat' := hat
      rw [← hy] at hat'
      have Hy := Lib.hid hy
      clear hy hnc
      gi_wp2_with (first | (refine wide_call' (right_any _ _) ?_; rintro e w' ⟨rfl, rfl⟩) | (refine wide_call' (starts_any _ _ _) ?_; rintro e w' ⟨rfl, rfl⟩) | (refine wide_call' (wakes8 _) ?_; rintro e w' ⟨rfl, hB⟩))
      have hy := Hy.out
      simp only [hy]
      have hy0 : 0 ≤ y := by omega
      have hie := Hin.out hy0
      have HIE := Lib.hid hie
      clear hat' Hy hy hie Hin t1 t2 htt hat
      refine' wpIn_rangeFunc_ownF rfl (by omega) (gf := 44) (lb := #[.pointer (some ⟨w.heap.size + 1 + 1 + 1 + 1, 0, none⟩), .pointer (some ⟨w.heap.size + 1 + 1 + 1 + 1 + 1, 0, none⟩)]) rfl trivial (enters_of Try.func44 (by kernel_rfl) rfl)
        (starts_stops 4 _ _ m s _ ?cz1 ?cz2 ?ca ?cb) KeepC.trans keepC_put (Below.refl _ _) (fun _ => rfl)
        (fun pre W => (Bx W w.heap.size (.int .i64 y) ∧ Bx W (w.heap.size + 1) (.bool (decide (startI y ∈ pre)))) ∧ Below w.heap.size w W)
        (fun c pre W => False)
        ?hI ?hIx ?h0 _ ?assign ?body ?done ?stop
      case cz1 => simp
      case cz2 => simp
      case ca => go_simp
      case cb => go_simp
      case hI => exact OwnFrom.and (Own.from (fun pre A B row hs hg hr => ⟨hs.1.kept hg hr, hs.2.kept hg hr⟩) _) (ownFrom_below (Nat.le_refl _) (by simp; omega))
      case hIx => exact fun c pre A B row hs hg hr => hs
      case h0 => refine ⟨⟨⟨by go_simp, by go_simp⟩, ⟨by go_simp, by go_simp⟩⟩, by repeat' (first | exact Below.refl _ _ | refine Below.alloc ?_ (by simp; try omega) _)⟩
      case assign =>
        intro l x W K hK
        gi_wp2
        exact hK
      case body =>
        rintro l pre z W ⟨⟨⟨ha1, ha2⟩, ⟨hb1, hb2⟩⟩, hB⟩ hlen
        have hb : Bx W w.heap.size (.int .i64 y) := ⟨ha1, ha2⟩
        have hB2 : ∀ u, Below w.heap.size w (W.setCell ⟨w.heap.size + 1, 0, none⟩ u) := fun u => hB.setCell (p := ⟨w.heap.size + 1, 0, none⟩) (by simp) _
        have Hb := Lib.hid hb
        have HB2 := Lib.hid hB2
        clear hb hB2
        by_cases hm' : startI y ∈ pre
        · have e1 : decide (startI y ∈ pre) = true := decide_eq_true hm'
          have e2 : decide (startI y ∈ pre ++ [z]) = true := decide_eq_true (by simp [hm'])
          rw [e1] at hb1
          have E2 := Lib.hid e2
          clear e1 e2 hm'
          gi_wp2_with (first | (refine wide_call' (start_any _ _) ?_; rintro e w' ⟨rfl, rfl⟩) | (refine ⟨trivial, ?_⟩))
          exact ⟨KeepsOthers.setCell _ _ _, KeepC.of (cell_off _ _ _ _ _ _ (by omega)) (cell_off _ _ _ _ _ _ (by omega)), ⟨Hb.out.other (by omega) _ _, by rw [E2.out]; exact Bx.same ⟨hb1, hb2⟩ _⟩, HB2.out _⟩
        · have e1 : decide (startI y ∈ pre) = false := decide_eq_false hm'
          have e2 : decide (startI y ∈ pre ++ [z]) = (z == startI y) := by
            rw [Bool.eq_iff_iff, decide_eq_true_eq, beq_iff_eq]; simp [hm', eq_comm]
          rw [e1] at hb1
          have E2 := Lib.hid e2
          clear e1 e2 hm'
          gi_wp2_with (first | (refine ⟨trivial, CallsIn.inRound l (callsIn_wide.2 ((start_any _ _).mono ?_))⟩; rintro e w' ⟨rfl, rfl⟩))
          exact ⟨KeepsOthers.setCell _ _ _, KeepC.of (cell_off _ _ _ _ _ _ (by omega)) (cell_off _ _ _ _ _ _ (by omega)), ⟨Hb.out.other (by omega) _ _, by rw [E2.out]; exact Bx.same ⟨hb1, hb2⟩ _⟩, HB2.out _⟩
      case done =>
        rintro D ys W hD hS ⟨⟨ha, hb⟩, hB⟩ hK
        rw [hS, HIE.out] at hb
        clear hS HIE
        obtain ⟨v, hv⟩ : ∃ v, v = (lateB y m && !lateB y s) := ⟨_, rfl⟩
        rw [← hv] at hb
        gi_wp2
        cases v <;> cases hl1 : lateB y m <;> cases hl2 : lateB y s <;> rw [hl1, hl2] at hv
        all_goals first
          | (exfalso; revert hv; decide)
          | (clear hv
             refine wpIn_region_quiet (C := S2 w y _ D) rfl (by kernel_rfl) (by kernel_rfl) ⟨ha, hb, hK, hB.drew⟩ ?_
             iterate 15
               refine wpQuietIn_step (fun _ _ _ _ => trivial) (fun K hK => ?_)
               go_simp
               first
                 | (refine hK _ ?_; clear hK K)
                 | (apply Exists.intro; refine ⟨fun w' hw' => ?_, hK _ ?_⟩; · first | (rw [← hl1]; exact hw'.late _ _) | (rw [← hl2]; exact hw'.late _ _) | exact hw'.late _ _ | exact hw'.wakes | (rw [hw'.a.1]; exact ⟨rfl, rfl⟩) | (rw [hw'.b.1]; exact ⟨rfl, rfl⟩) | exact rfl
                    clear hK K)
             refine wpQuietIn_nil ?_
             intro W' hW'
             gi_wp2
             refine ⟨by simp, .inl ⟨_, _, rfl, run_takeDeferred hW'.k, ?_⟩⟩
             exact ⟨_, results_tmp rfl _ _ _, rfl, hW'.B.trans (belowK_b (w := w) (Nat.le_refl _) W' D _ _ (by simp at hD; omega) hW'.k rfl rfl)⟩)
      case stop =>
        rintro D c pre W hD _ h hK
        exact h.elim
end Go.Proofs.Ytbkbekdeplolnaa
