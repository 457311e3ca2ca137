/- The iterator that span.Starts hands back, and the reference's list: what both tell. -/
import Derived.Test.YtbkbekdeplolnaaSpA
import Derived.RangeFuncNested
import Derived.RangeFuncBound
import Derived.RangeFuncCalls
import Derived.RangeFuncLeaves
import Derived.RangeFuncFrom
import Derived.RangeFuncBox
import Derived.Shelf.Abstract
import Derived.Shelf.RegionOpen
import Derived.WalkKit
import Derived.OwnWalkIn
import Derived.TacticsInMore
import Derived.LoopNIn
import Derived.LoopIn
import Derived.Deep.Light
import Derived.Outline
import Derived.Lib.Hide
namespace Go.Proofs.Ytbkbekdeplolnaa
open Go.RowKit Go.Shelf
attribute [local go_sem] Oper.semAt_some
set_option linter.unusedSimpArgs false
set_option linter.unusedVariables false

def firstI (s : Int) : Int := if s < 15 then 0 else (s - 15) / 10 * 10 + 10
def cntN (m s : Int) : Nat := if 0 ≤ s ∧ s ≤ m ∧ m ≤ 1099511627776 then min 1000 ((m - 5 - firstI s) / 10).toNat else 0
def uptoI (f : Int) (k : Nat) : List Int := (List.range k).map fun (i : Nat) => f + 10 * (i : Int)
def startsL (m s : Int) : List Int := uptoI (firstI s) (cntN m s)
theorem uptoI_succ (f : Int) (k : Nat) : uptoI f (k + 1) = uptoI f k ++ [f + 10 * (k : Int)] := by simp [uptoI, List.range_succ]
theorem uptoI_length (f : Int) (k : Nat) : (uptoI f k).length = k := by simp [uptoI]
theorem uptoI_get (f : Int) (k i : Nat) (h : i < k) : (uptoI f k)[i]? = some (f + 10 * (i : Int)) := by simp [uptoI, h]
theorem firstI_ge (s : Int) : 0 ≤ firstI s := by unfold firstI; split <;> omega
theorem firstI_mod (s : Int) : firstI s % 10 = 0 := by unfold firstI; split <;> omega
theorem firstI_le (s : Int) (h : 0 ≤ s) : firstI s ≤ s + 10 := by unfold firstI; split <;> omega
theorem cntN_le (m s : Int) : cntN m s ≤ 1000 := by unfold cntN; split <;> omega
theorem cntN_le' (m s : Int) : (cntN m s : Int) ≤ 1000 := by have := cntN_le m s; omega
theorem over_at {m s : Int} {k : Nat} (h0 : 0 ≤ s) (h1 : s ≤ m) (h2 : m ≤ 1099511627776) (hk : k < 1000) :
    overB (firstI s + 10 * (k : Int)) m = decide (k < cntN m s) := by
  have hf := firstI_ge s
  have hm := firstI_mod s
  have hc : cntN m s = min 1000 ((m - 5 - firstI s) / 10).toNat := by unfold cntN; rw [if_pos ⟨h0, h1, h2⟩]
  rw [hc, Bool.eq_iff_iff]
  simp only [overB, decide_eq_true_eq]
  omega
theorem over_not {s : Int} {k : Nat} (h0 : 0 ≤ s) (h2 : s ≤ 1099511627776) :
    overB (firstI s + 10 * (k : Int)) s = false := by
  simp only [overB, decide_eq_false_iff_not]
  unfold firstI; split <;> omega
theorem over_yes {s : Int} (h0 : 15 ≤ s) (h2 : s ≤ 1099511627776) :
    overB (firstI s - 10) s = true := by
  simp only [overB, decide_eq_true_eq]
  unfold firstI; split <;> omega
theorem over_mono {a s m : Int} (h : overB a s = true) (h1 : s ≤ m) (h2 : m ≤ 1099511627776) : overB a m = true := by
  simp only [overB, decide_eq_true_eq] at *; omega
theorem start_back {s : Int} (h0 : 15 ≤ s) (h2 : s ≤ 1099511627776) : startI (s - 15) = firstI s - 10 := by
  unfold startI firstI; rw [if_pos (by omega), if_neg (by omega)]; omega

/-- WHAT A ROUND KEEPS: the two boxes that the iterator reads. -/
def KeepC (b1 b2 : Nat) (W W' : World) : Prop :=
  (∀ v, W.cell? ⟨b1, 0, none⟩ = some v → W'.cell? ⟨b1, 0, none⟩ = some v) ∧ (∀ v, W.cell? ⟨b2, 0, none⟩ = some v → W'.cell? ⟨b2, 0, none⟩ = some v)
theorem KeepC.refl (b1 b2 : Nat) (W : World) : KeepC b1 b2 W W := ⟨fun _ h => h, fun _ h => h⟩
theorem KeepC.trans {b1 b2 : Nat} {A B C : World} (h : KeepC b1 b2 A B) (k : KeepC b1 b2 B C) : KeepC b1 b2 A C :=
  ⟨fun v e => k.1 v (h.1 v e), fun v e => k.2 v (h.2 v e)⟩
theorem KeepC.put {b1 b2 : Nat} (W : World) (l : Nat) (o o' : Obj) (h : W.heap[l]? = some o) (hc : o.isCells = false) : KeepC b1 b2 W (W.putObj l o') := by
  have key : ∀ b v, W.cell? ⟨b, 0, none⟩ = some v → (W.putObj l o').cell? ⟨b, 0, none⟩ = some v := by
    intro b v e
    refine cell_kept e (grownBy_putObj' W l o') (fun r hr => ?_)
    cases hr
    exact ⟨o, h, hc⟩
  exact ⟨key b1, key b2⟩
theorem KeepC.of {b1 b2 : Nat} {W W' : World} (h1 : W'.cell? ⟨b1, 0, none⟩ = W.cell? ⟨b1, 0, none⟩) (h2 : W'.cell? ⟨b2, 0, none⟩ = W.cell? ⟨b2, 0, none⟩) : KeepC b1 b2 W W' :=
  ⟨fun v h => h1.trans h, fun v h => h2.trans h⟩

theorem starts_any (m s : Int) (w : World) :
    Calls Try.prog 27 #[.int .i64 m, .int .i64 s] w fun e w' =>
      e = .returned (.func (.func 44) #[] #[.pointer (some ⟨w.heap.size, 0, none⟩), .pointer (some ⟨w.heap.size + 1, 0, none⟩)]) ∧
      (w.alloc (.cells #[.int .i64 m] 2)).alloc (.cells #[.int .i64 s] 2) = w' := by
  go_enter Try.func27, Try.ntmps27
  go_wp2
  go_ret
  exact ⟨rfl, rfl⟩

theorem end_none {P : Program} {fn : Func} {R : Ending → World → Prop} {a : Act} {w : World} {x : Exit} (hx : x = .normal ∨ x = .ret) (hr : fn.results = #[]) (hd : a.defers = []) (hR : R (.returned (.tuple #[])) w) :
    bodyPost P fn R x a w := by
  rcases hx with rfl | rfl
  · exact ⟨hd, _, results_none hr _ _ _, hR⟩
  · exact ⟨hd, _, results_none hr _ _ _, hR⟩
theorem wide_call {P : Program} {f : FuncId} {args : Array Value} {w : World} {R R' : Ending → World → Prop} {n : Nat} (h : Calls P f args w R) (hr : ∀ e w', R e w' → R' e w') :
    Fence.wide.fn f ∧ (Fence.wide.depth.isSome = true → 1 ≤ n) ∧ CallsIn Fence.wide (n - 1) P f args w R' :=
  ⟨trivial, fun h => (by cases h), callsIn_wide.2 (h.mono hr)⟩

set_option maxRecDepth 100000 in
set_option maxHeartbeats 2000000 in
theorem starts1_in (n l b1 b2 : Nat) (m s : Int) (J Jx : List Int → World → Prop)
    (hJ1 : ∀ pre W, J pre W → W.cell? ⟨b1, 0, none⟩ = some (.int .i64 m) ∧ W.cell? ⟨b2, 0, none⟩ = some (.int .i64 s))
    (hY : ∀ pre x W, J pre W → pre.length < cntN m s → pre = uptoI (firstI s) pre.length → YieldAt Fence.wide (n - 1) Try.prog l #[.int .i64 x] W fun e W' =>
      (e = .returned (.bool true) ∧ J (pre ++ [x]) W') ∨ (e = .returned (.bool false) ∧ Jx (pre ++ [x]) W'))
    (W : World) (h0 : J [] W) :
    CallsIn Fence.wide n Try.prog 44 #[.func (.yield l) #[] #[], .pointer (some ⟨b1, 0, none⟩), .pointer (some ⟨b2, 0, none⟩)] W fun e W' => (∃ v, e = .returned v) ∧
      ((∃ ys, ys = startsL m s ∧ J ys W') ∨ (∃ pre, (∃ k, k < cntN m s ∧ pre = uptoI (firstI s) (k + 1)) ∧ Jx pre W')) := by
  obtain ⟨hb1, hb2⟩ := hJ1 _ _ h0
  by_cases hbad : 0 ≤ s ∧ s ≤ m ∧ m ≤ 1099511627776
  · obtain ⟨hs0, hsm, hm1⟩ := hbad
    have hrm := rightB_t (show 0 ≤ m by omega) hm1
    have hrs := rightB_t hs0 (show s ≤ 1099511627776 by omega)
    have hcn := cntN_le' m s
    have hfg := firstI_ge s
    have hfl := firstI_le s hs0
    refine callsIn_of_wp Try.func44 rfl trivial ?_ rfl
    simp only [Try.ntmps44, List.size_toArray, List.length_cons, List.length_nil, Nat.reduceAdd, Nat.reduceSub, Array.replicate_succ, Array.replicate_zero, List.push_toArray, List.append_toArray, List.nil_append, List.cons_append]
    have hfirst : firstI s < 15 → True := fun _ => trivial
    by_cases h15 : 15 ≤ s
    · have e0 : startI (s - 10 - 5) = firstI s - 10 := by rw [show s - 10 - 5 = s - 15 from by omega]; exact start_back h15 (by omega)
      have hf10 : 10 ≤ firstI s := by unfold firstI; split <;> omega
      have E0 := Lib.hid e0
      clear e0 hfirst
      gi_wp2_with (first | (refine wide_call (right_any _ _) ?_; rintro e w' ⟨rfl, rfl⟩) | (refine wide_call (start_any _ _) ?_; rintro e w' ⟨rfl, rfl⟩))
      gi_loopw [4, 6] (fun a c wr => ∃ (k : Nat) (x : Int), a = .int .i64 x ∧ c = .int .i64 k ∧ k ≤ cntN m s ∧ (x = firstI s + 10 * k ∨ (k = 0 ∧ 15 ≤ s ∧ x + 10 = firstI s)) ∧ J (uptoI (firstI s) k) wr) (fun a _ _ => (m + 20 - intOf a).toNat)
      case atStart => exact ⟨0, _, rfl, rfl, Nat.zero_le _, .inr ⟨rfl, h15, by rw [E0.out]; omega⟩, by simpa [uptoI] using h0⟩
      case round =>
        obtain ⟨k, x, rfl, rfl, hk, hx, hJs⟩ := hrel
        obtain ⟨hc1, hc2⟩ := hJ1 _ _ hJs
        rcases hx with hx | ⟨hk0, h15', hx⟩
        · by_cases hlt : k < cntN m s
          · obtain ⟨fn, tmps, assign, body, hy, hR⟩ := hY _ x wr hJs (by rw [uptoI_length]; exact hlt) (by rw [uptoI_length])
            have o1 : overB x m = true := by rw [hx, over_at hs0 hsm hm1 (by omega)]; exact decide_eq_true hlt
            have o2 : overB x s = false := by rw [hx]; exact over_not hs0 (by omega)
            have hk1 : (k : Int) < 1000 := by omega
            have hx0 : 0 ≤ x := by omega
            have hx1 : x ≤ 1099511637776 := by omega
            have hxm : x ≤ m := by have := o1; simp only [overB, decide_eq_true_eq] at this; omega
            have Hx := Lib.hid hx
            clear hx
            gi_wp2_with (first | (refine wide_call (over_any _ _ _) ?_; rintro e w' ⟨rfl, rfl⟩) | (refine ⟨trivial, ?_⟩))
            refine ⟨fun h => (by cases h), hR.mono ?_⟩
            rintro e W3 (⟨rfl, hJ3⟩ | ⟨rfl, hJx3⟩)
            · gi_wp2
              go_roundw
              case rel => exact ⟨k + 1, x + 10, rfl, by go_num, by omega, .inl (by have := Hx.out; omega), by rw [uptoI_succ, ← Hx.out]; exact hJ3⟩
              case measure => go_light; simp [intOf]; omega
            · gi_wp2
              refine bodyPost_ret (results_none rfl _ _ _) rfl ?_
              exact ⟨⟨_, rfl⟩, .inr ⟨_, ⟨k, hlt, rfl⟩, by rw [uptoI_succ, ← Hx.out]; exact hJx3⟩⟩
          · have hke : k = cntN m s := by omega
            have hfin : J (startsL m s) wr := by unfold startsL; rw [← hke]; exact hJs
            have HF := Lib.hid hfin
            clear hfin
            by_cases hk1 : (k : Int) < 1000
            · have o1 : overB x m = false := by rw [hx, over_at hs0 hsm hm1 (by omega)]; exact decide_eq_false hlt
              clear hx hke hlt hY
              gi_wp2_with (first | (refine wide_call (over_any _ _ _) ?_; rintro e w' ⟨rfl, rfl⟩) | (refine ⟨trivial, ?_⟩))
              refine end_none (by first | exact .inl rfl | exact .inr rfl) rfl rfl ?_
              first | exact ⟨⟨_, rfl⟩, .inl ⟨_, rfl, HF.out⟩⟩ | exact ⟨⟨_, rfl⟩, .inl HF.out⟩
            · clear hx hke hlt hY
              gi_wp2_with (first | (refine wide_call (over_any _ _ _) ?_; rintro e w' ⟨rfl, rfl⟩) | (refine ⟨trivial, ?_⟩))
              refine end_none (by first | exact .inl rfl | exact .inr rfl) rfl rfl ?_
              first | exact ⟨⟨_, rfl⟩, .inl ⟨_, rfl, HF.out⟩⟩ | exact ⟨⟨_, rfl⟩, .inl HF.out⟩
        · have o1 : overB x m = true := by rw [show x = firstI s - 10 from by omega]; exact over_mono (over_yes h15 (by omega)) hsm hm1
          have o2 : overB x s = true := by rw [show x = firstI s - 10 from by omega]; exact over_yes h15 (by omega)
          have hx0 : 0 ≤ x := by omega
          have hx1 : x ≤ 1099511637776 := by omega
          have hxm : x ≤ m := by have := o1; simp only [overB, decide_eq_true_eq] at this; omega
          have hk1 : (k : Int) < 1000 := by omega
          have Hx := Lib.hid hx
          have Hk := Lib.hid hk0
          clear hx hk0 hY
          gi_wp2_with (first | (refine wide_call (over_any _ _ _) ?_; rintro e w' ⟨rfl, rfl⟩) | (refine ⟨trivial, ?_⟩))
          go_roundw
          case rel => exact ⟨k, x + 10, rfl, rfl, hk, .inl (by have := Hx.out; have := Hk.out; omega), hJs⟩
          case measure => go_light; simp [intOf]; omega
    · have e0 : firstI s = 0 := by unfold firstI; rw [if_pos (by omega)]
      have E0 := Lib.hid e0
      clear e0 hfirst
      gi_wp2_with (first | (refine wide_call (right_any _ _) ?_; rintro e w' ⟨rfl, rfl⟩) | (refine wide_call (start_any _ _) ?_; rintro e w' ⟨rfl, rfl⟩))
      gi_loopw [4, 6] (fun a c wr => ∃ (k : Nat) (x : Int), a = .int .i64 x ∧ c = .int .i64 k ∧ k ≤ cntN m s ∧ (x = firstI s + 10 * k ∨ (k = 0 ∧ 15 ≤ s ∧ x + 10 = firstI s)) ∧ J (uptoI (firstI s) k) wr) (fun a _ _ => (m + 20 - intOf a).toNat)
      case atStart => exact ⟨0, _, rfl, rfl, Nat.zero_le _, .inl (by rw [E0.out]; simp), by simpa [uptoI] using h0⟩
      case round =>
        obtain ⟨k, x, rfl, rfl, hk, hx, hJs⟩ := hrel
        obtain ⟨hc1, hc2⟩ := hJ1 _ _ hJs
        rcases hx with hx | ⟨hk0, h15', hx⟩
        · by_cases hlt : k < cntN m s
          · obtain ⟨fn, tmps, assign, body, hy, hR⟩ := hY _ x wr hJs (by rw [uptoI_length]; exact hlt) (by rw [uptoI_length])
            have o1 : overB x m = true := by rw [hx, over_at hs0 hsm hm1 (by omega)]; exact decide_eq_true hlt
            have o2 : overB x s = false := by rw [hx]; exact over_not hs0 (by omega)
            have hk1 : (k : Int) < 1000 := by omega
            have hx0 : 0 ≤ x := by omega
            have hx1 : x ≤ 1099511637776 := by omega
            have hxm : x ≤ m := by have := o1; simp only [overB, decide_eq_true_eq] at this; omega
            have Hx := Lib.hid hx
            clear hx
            gi_wp2_with (first | (refine wide_call (over_any _ _ _) ?_; rintro e w' ⟨rfl, rfl⟩) | (refine ⟨trivial, ?_⟩))
            refine ⟨fun h => (by cases h), hR.mono ?_⟩
            rintro e W3 (⟨rfl, hJ3⟩ | ⟨rfl, hJx3⟩)
            · gi_wp2
              go_roundw
              case rel => exact ⟨k + 1, x + 10, rfl, by go_num, by omega, .inl (by have := Hx.out; omega), by rw [uptoI_succ, ← Hx.out]; exact hJ3⟩
              case measure => go_light; simp [intOf]; omega
            · gi_wp2
              refine bodyPost_ret (results_none rfl _ _ _) rfl ?_
              exact ⟨⟨_, rfl⟩, .inr ⟨_, ⟨k, hlt, rfl⟩, by rw [uptoI_succ, ← Hx.out]; exact hJx3⟩⟩
          · have hke : k = cntN m s := by omega
            have hfin : J (startsL m s) wr := by unfold startsL; rw [← hke]; exact hJs
            have HF := Lib.hid hfin
            clear hfin
            by_cases hk1 : (k : Int) < 1000
            · have o1 : overB x m = false := by rw [hx, over_at hs0 hsm hm1 (by omega)]; exact decide_eq_false hlt
              clear hx hke hlt hY
              gi_wp2_with (first | (refine wide_call (over_any _ _ _) ?_; rintro e w' ⟨rfl, rfl⟩) | (refine ⟨trivial, ?_⟩))
              refine end_none (by first | exact .inl rfl | exact .inr rfl) rfl rfl ?_
              first | exact ⟨⟨_, rfl⟩, .inl ⟨_, rfl, HF.out⟩⟩ | exact ⟨⟨_, rfl⟩, .inl HF.out⟩
            · clear hx hke hlt hY
              gi_wp2_with (first | (refine wide_call (over_any _ _ _) ?_; rintro e w' ⟨rfl, rfl⟩) | (refine ⟨trivial, ?_⟩))
              refine end_none (by first | exact .inl rfl | exact .inr rfl) rfl rfl ?_
              first | exact ⟨⟨_, rfl⟩, .inl ⟨_, rfl, HF.out⟩⟩ | exact ⟨⟨_, rfl⟩, .inl HF.out⟩
        · omega
  · have hl : startsL m s = [] := by unfold startsL cntN; rw [if_neg hbad]; simp [uptoI]
    have hj : J (startsL m s) W := by rw [hl]; exact h0
    have HJ := Lib.hid hj
    clear hj hl
    refine callsIn_of_wp Try.func44 rfl trivial ?_ rfl
    simp only [Try.ntmps44, List.size_toArray, List.length_cons, List.length_nil, Nat.reduceAdd, Nat.reduceSub, Array.replicate_succ, Array.replicate_zero, List.push_toArray, List.append_toArray, List.nil_append, List.cons_append]
    by_cases hm : 0 ≤ m ∧ m ≤ 1099511627776
    · have hrm := rightB_t hm.1 hm.2
      by_cases hs : 0 ≤ s ∧ s ≤ 1099511627776
      · have hrs := rightB_t hs.1 hs.2
        have hlt : m < s := by omega
        clear hm hs hbad
        gi_wp2_with (first | (refine wide_call (right_any _ _) ?_; rintro e w' ⟨rfl, rfl⟩) | (refine ⟨trivial, ?_⟩))
        all_goals (refine end_none (by first | exact .inl rfl | exact .inr rfl) rfl rfl ?_; exact ⟨⟨_, rfl⟩, .inl ⟨_, rfl, HJ.out⟩⟩)
      · have hrs := rightB_f hs
        clear hm hs hbad
        gi_wp2_with (first | (refine wide_call (right_any _ _) ?_; rintro e w' ⟨rfl, rfl⟩) | (refine ⟨trivial, ?_⟩))
        all_goals (refine end_none (by first | exact .inl rfl | exact .inr rfl) rfl rfl ?_; exact ⟨⟨_, rfl⟩, .inl ⟨_, rfl, HJ.out⟩⟩)
    · have hrm := rightB_f hm
      clear hm hbad
      gi_wp2_with (first | (refine wide_call (right_any _ _) ?_; rintro e w' ⟨rfl, rfl⟩) | (refine ⟨trivial, ?_⟩))
      all_goals (refine end_none (by first | exact .inl rfl | exact .inr rfl) rfl rfl ?_; exact ⟨⟨_, rfl⟩, .inl ⟨_, rfl, HJ.out⟩⟩)
end Go.Proofs.Ytbkbekdeplolnaa
