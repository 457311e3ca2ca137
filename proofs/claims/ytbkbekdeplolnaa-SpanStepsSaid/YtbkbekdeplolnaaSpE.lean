/- The reference's list of windows (meterref08.Starts). -/
import Derived.Test.YtbkbekdeplolnaaSpC
import Derived.Laws.AppendOwn
import Derived.Laws.OwnMore
import Derived.OwnWalk
import Derived.Maps.AppendAt
import Derived.LoopTactic
namespace Go.Proofs.Ytbkbekdeplolnaa
open Go.RowKit Go.Shelf
set_option linter.unusedSimpArgs false
set_option linter.unusedVariables false
theorem infoI64 : (Try.prog.info? 2).map (fun i => (i.zero, i.size, i.bytes)) = some (some (.int .i64 0), 1, 8) := by kernel_rfl

theorem ownsRow_shape {w : World} {base : Nat} {e : TypeId} {size : Nat} {v : Value} {n : Nat} {xs : List Value} (h : w.ownsRow base e size v n xs) : ∃ a c, v = .slice a n c := by
  obtain ⟨_, ⟨rfl, rfl⟩ | ⟨g, cap, cur, rfl, _⟩⟩ := h
  · exact ⟨none, 0, rfl⟩
  · exact ⟨_, _, rfl⟩
theorem ownsRow_at {w : World} {base : Nat} {e : TypeId} {size : Nat} {a : Option Addr} {n c : Nat} {xs : List Value} (h : w.ownsRow base e size (.slice a n c) n xs) (hn : 0 < n) :
    ∃ g, a = some ⟨g, 0, none⟩ ∧ base ≤ g ∧ g < w.heap.size ∧ ∀ j, j < n * size → w.cell? ⟨g, j, none⟩ = xs[j]? := by
  have h0 := h
  obtain ⟨_, ⟨h1, h2⟩ | ⟨g, cap, cur, hv, hb, hh, _⟩⟩ := h
  · omega
  · cases hv
    exact ⟨g, rfl, hb, (Array.getElem?_eq_some_iff.1 hh).1, fun j hj => h0.cellAt j hj⟩
theorem cnt_top {m s : Int} (h0 : 0 ≤ s) (h1 : s ≤ m) (h2 : m ≤ 1099511627776) : firstI s + 10 * (cntN m s : Int) ≤ m + 10 := by
  have hc : cntN m s = min 1000 ((m - 5 - firstI s) / 10).toNat := by unfold cntN; rw [if_pos ⟨h0, h1, h2⟩]
  have := firstI_le s h0
  rw [hc]; omega
set_option maxRecDepth 100000 in
set_option maxHeartbeats 2000000 in
theorem rstarts_any (m s : Int) (w : World) :
    Calls Try.prog 26 #[.int .i64 m, .int .i64 s] w fun e w' => ∃ v, e = .returned v ∧
      w'.ownsRow w.heap.size 2 1 v (cntN m s) ((startsL m s).map (Value.int .i64)) ∧ Below w.heap.size w w' := by
  by_cases hbad : 0 ≤ s ∧ s ≤ m ∧ m ≤ 1099511627776
  · obtain ⟨hs0, hsm, hm1⟩ := hbad
    have hrm := rightB_t (show 0 ≤ m by omega) hm1
    have hrs := rightB_t hs0 (show s ≤ 1099511627776 by omega)
    have hcn := cntN_le' m s
    have hfg := firstI_ge s
    have hfl := firstI_le s hs0
    have hnlt : ¬ m < s := by omega
    obtain ⟨f, hf⟩ : ∃ f, f = firstI s := ⟨_, rfl⟩
    obtain ⟨i0, hi, hz0, hz1, hz2⟩ := info_parts infoI64
    by_cases h15 : 15 ≤ s
    all_goals
      have hff : (15 ≤ s → f = (s - 15) / 10 * 10 + 10) ∧ (¬ 15 ≤ s → f = 0) := by
        rw [hf]; unfold firstI; constructor
        · intro h; rw [if_neg (by omega)]
        · intro h; rw [if_pos (by omega)]
      have HFF := Lib.hid hff
      have HF := Lib.hid hf
      clear hff hf
      go_enter Try.func26, Try.ntmps26
      go_wp2_with (go_at_call 16; refine (rright_any _ _).mono ?_; rintro e w' ⟨rfl, rfl⟩)
      go_loopw [5, 7] (fun v x wr => ∃ (k : Nat) (y : Int), x = .int .i64 y ∧ y = f + 10 * (k : Int) ∧ k ≤ cntN m s ∧ wr.ownsRow w.heap.size 2 1 v k ((uptoI f k).map (Value.int .i64)) ∧ Below w.heap.size w wr) (fun _ x _ => (m + 20 - intOf x).toNat)
      case atStart =>
        refine ⟨0, _, rfl, ?_, Nat.zero_le _, World.ownsRow_nil _ _ _ _, Below.refl _ _⟩
        first | (rw [HFF.out.1 h15]; simp; done) | (rw [HFF.out.2 h15]; simp; done)
      case round =>
        obtain ⟨k, y, rfl, hy, hk, hown, hB⟩ := hrel
        obtain ⟨av, cv, rfl⟩ := ownsRow_shape hown
        have hsz := hB.size
        have hy0 : 0 ≤ y := by have := HF.out; omega
        by_cases hlt : k < cntN m s
        · have o1 : overB y m = true := by rw [hy, HF.out, over_at hs0 hsm hm1 (by omega)]; exact decide_eq_true hlt
          have hym : y + 15 ≤ m := by simp only [overB, decide_eq_true_eq] at o1; omega
          have hk1 : (k : Int) < 1000 := by omega
          have Hy := Lib.hid hy
          clear hy o1
          go_wp2_with (at_builtin; refine wpList_append_own _ rfl _ _ 26 rfl w.heap.size 2 i0 (.int .i64 0) 1 8 Try.underlying26 hi hz0 hz1 hz2 rfl (by decide) _ _ _ rfl (hown.alloc _) ⟨wr.heap.size, 0, none⟩ 1 1 [.int .i64 y] rfl rfl ?c1 ?c2 ?c3 ?c4 ?c5 ?_)
          case c1 => exact cell_one_new _ _ _
          case c2 => simp [Value.oneCell']
          case c3 => unfold maxLen; omega
          case c4 => omega
          case c5 => simp; omega
          intro v' w1 hown' hgrow _
          go_wp2
          go_roundw
          case rel => exact ⟨k + 1, _, rfl, by have := Hy.out; omega, by omega, by rw [uptoI_succ, ← Hy.out]; simpa using hown', (hB.alloc hsz _).grown hgrow (by simp; omega) (fun g hg => by have := (hown.alloc (.cells #[.int .i64 y] 2)).lt g hg; omega)⟩
          case measure => go_light; simp [intOf]; omega
        · have hke : k = cntN m s := by omega
          have hfin : wr.ownsRow w.heap.size 2 1 (.slice av k cv) (cntN m s) ((startsL m s).map (Value.int .i64)) := by
            unfold startsL; rw [← hke, ← HF.out]; exact hown
          have HX := Lib.hid hfin
          have hym : ¬ y + 15 ≤ m ∨ ¬ (k : Int) < 1000 := by
            by_cases hk1 : (k : Int) < 1000
            · left
              have o1 : overB y m = false := by rw [hy, HF.out, over_at hs0 hsm hm1 (by omega)]; exact decide_eq_false hlt
              have hmod := firstI_mod s
              have := HF.out
              simp only [overB, decide_eq_false_iff_not] at o1; omega
            · exact .inr hk1
          have hy1 : y ≤ m + 10 := by have h7 := cnt_top hs0 hsm hm1; rw [← HF.out, ← hke] at h7; omega
          clear hy hfin hlt hke
          rcases hym with hym | hym
          all_goals
            go_wp2
            all_goals (go_ret; exact ⟨_, rfl, HX.out, hB⟩)
  · have hl : startsL m s = [] := by unfold startsL cntN; rw [if_neg hbad]; simp [uptoI]
    have hc : cntN m s = 0 := by unfold cntN; rw [if_neg hbad]
    have hfin : w.ownsRow w.heap.size 2 1 (.slice none 0 0) (cntN m s) ((startsL m s).map (Value.int .i64)) := by rw [hl, hc]; exact World.ownsRow_nil _ _ _ _
    have HX := Lib.hid hfin
    clear hl hc hfin
    by_cases hm : 0 ≤ m ∧ m ≤ 1099511627776
    · have hrm := rightB_t hm.1 hm.2
      by_cases hs : 0 ≤ s ∧ s ≤ 1099511627776
      · have hrs := rightB_t hs.1 hs.2
        have hlt : m < s := by omega
        clear hm hs hbad
        go_enter Try.func26, Try.ntmps26
        go_wp2_with (go_at_call 16; refine (rright_any _ _).mono ?_; rintro e w' ⟨rfl, rfl⟩)
        all_goals (go_ret; exact ⟨_, rfl, HX.out, Below.refl _ _⟩)
      · have hrs := rightB_f hs
        clear hm hs hbad
        go_enter Try.func26, Try.ntmps26
        go_wp2_with (go_at_call 16; refine (rright_any _ _).mono ?_; rintro e w' ⟨rfl, rfl⟩)
        all_goals (go_ret; exact ⟨_, rfl, HX.out, Below.refl _ _⟩)
    · have hrm := rightB_f hm
      clear hm hbad
      go_enter Try.func26, Try.ntmps26
      go_wp2_with (go_at_call 16; refine (rright_any _ _).mono ?_; rintro e w' ⟨rfl, rfl⟩)
      all_goals (go_ret; exact ⟨_, rfl, HX.out, Below.refl _ _⟩)
theorem rstarts_shaped (m s : Int) (w : World) :
    Calls Try.prog 26 #[.int .i64 m, .int .i64 s] w fun e w' => ∃ a c, e = .returned (.slice a (cntN m s) c) ∧
      w'.ownsRow w.heap.size 2 1 (.slice a (cntN m s) c) (cntN m s) ((startsL m s).map (Value.int .i64)) ∧ Below w.heap.size w w' := by
  refine (rstarts_any m s w).mono ?_
  rintro e w' ⟨v, rfl, hown, hB⟩
  obtain ⟨a, c, rfl⟩ := ownsRow_shape hown
  exact ⟨a, c, rfl, hown, hB⟩
end Go.Proofs.Ytbkbekdeplolnaa
