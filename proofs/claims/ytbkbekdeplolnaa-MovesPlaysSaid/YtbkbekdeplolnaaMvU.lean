/- The document's book: Of, By. -/
import Derived.Test.YtbkbekdeplolnaaMvI
namespace Go.Proofs.Ytbkbekdeplolnaa
open Go.RowKit Go.Shelf Go.Lib
open Go.ChangeMaps (setBlock)
open Go.Sort (HoldsK)
set_option linter.unusedSimpArgs false
set_option linter.unusedVariables false
def findPt (k : Int) (L : List En) : Option En := L.find? fun x => decide (x.part = k)
def refB (A : Option Addr) (n c : Nat) (last : Int) : Value := .agg #[.slice A n c, .int .i64 last]
set_option maxHeartbeats 4000000 in
theorem refOf_any {w : World} {A : Option Addr} {c base : Nat} {L : List En} {last : Int} (hE : EnsAt base w A L) (hL : L.length ≤ 1000) (k : Int) :
    Calls Try.prog 40 #[refB A L.length c last, .int .i64 k] w (ByP w (findPt k L)) := by
  have h1 : Below w.heap.size w (w.alloc (.cells #[.slice A L.length c, .int .i64 last] 58)) := (Below.refl _ w).alloc (Nat.le_refl _) _
  have h2 : Below w.heap.size w ((w.alloc (.cells #[.slice A L.length c, .int .i64 last] 58)).alloc (.cells #[.int .i64 0, .int .i64 0, .int .i64 0, .int .i64 0] 63)) := h1.alloc (by simp) _
  have hE2 := hE.below h2
  have HB := Lib.hid h2
  clear h1 h2
  have HE := Lib.hid hE2
  clear hE hE2
  unfold refB
  go_enter Try.func40, Try.ntmps40
  go_wp2_with (fail)
  go_loop [6] (fun i => ∃ j : Nat, i = .int .i64 j ∧ j ≤ L.length ∧ findPt k (L.take j) = none) (fun i => L.length - (intOf i).toNat)
  case atStart => exact ⟨0, rfl, Nat.zero_le _, rfl⟩
  case round =>
    obtain ⟨j, rfl, hj, hnone⟩ := hrel
    by_cases hlt : j < L.length
    · obtain ⟨x, hx⟩ : ∃ x, L[j]? = some x := ⟨L[j], List.getElem?_eq_getElem hlt⟩
      obtain ⟨g, rfl, hg0, hg1, h0, h1, h2, h3⟩ := ensAt_cells HE.out hx
      have ht : L.take (j + 1) = L.take j ++ [x] := by rw [List.take_add_one, hx]; rfl
      have hnx : findPt k (L.take (j + 1)) = if x.part = k then some x else none := by
        unfold findPt at hnone ⊢
        rw [ht, List.find?_append, hnone]
        by_cases hm : x.part = k <;> simp [hm]
      have hful : x.part = k → findPt k L = some x := by
        intro hm
        have e : L = L.take (j + 1) ++ L.drop (j + 1) := (List.take_append_drop _ _).symm
        unfold findPt at hnx ⊢
        rw [e, List.find?_append, hnx, if_pos hm]; rfl
      have HN := Lib.hid hnx
      have HF := Lib.hid hful
      obtain ⟨x1, x2, x3, x4⟩ := x
      simp only at h0 h1 h2 h3
      by_cases hm : x2 = k
      · have hfu := hful hm
        have HFU := Lib.hid hfu
        subst hm
        clear hfu HN HF
        clear hnx hful hnone ht hx
        go_wp2_with (fail)
        refine bodyPost_ret (v := .tuple #[(⟨x1, x2, x3, x4⟩ : En).val, .bool true]) (by simp [results, Try.results40, go_sem, En.val]) rfl ⟨by rw [HFU.out]; rfl, ?_⟩
        repeat' (first | exact HB.out | exact Below.refl _ _ | refine Below.setCell ?_ (by simp) _ | refine Below.alloc ?_ (by first | (simp; done) | (simp; omega)) _)
      · clear hnx hful hnone ht hx
        go_wp2_with (fail)
        go_round
        case rel => exact ⟨j + 1, by go_num, by omega, by rw [HN.out, if_neg hm]⟩
        case measure => go_light; simp [intOf]; omega
    · obtain rfl : j = L.length := by omega
      rw [List.take_length] at hnone
      have HN := Lib.hid hnone
      clear hnone
      go_wp2_with (fail)
      refine bodyPost_ret (v := .tuple #[En.zero.val, .bool false]) (by simp [results, Try.results40, go_sem, En.val, En.zero]) rfl ⟨by rw [HN.out]; rfl, ?_⟩
      repeat' (first | exact HB.out | exact Below.refl _ _ | refine Below.setCell ?_ (by simp) _ | refine Below.alloc ?_ (by first | (simp; done) | (simp; omega)) _)
set_option maxHeartbeats 4000000 in
theorem refBy_any {w : World} {A : Option Addr} {c base : Nat} {L : List En} {last : Int} (hE : EnsAt base w A L) (hL : L.length ≤ 1000) (k : Int) :
    Calls Try.prog 41 #[refB A L.length c last, .int .i64 k] w (ByP w (findMv k L)) := by
  have h1 : Below w.heap.size w (w.alloc (.cells #[.slice A L.length c, .int .i64 last] 58)) := (Below.refl _ w).alloc (Nat.le_refl _) _
  have h2 : Below w.heap.size w ((w.alloc (.cells #[.slice A L.length c, .int .i64 last] 58)).alloc (.cells #[.int .i64 0, .int .i64 0, .int .i64 0, .int .i64 0] 63)) := h1.alloc (by simp) _
  have hE2 := hE.below h2
  have HB := Lib.hid h2
  clear h1 h2
  have HE := Lib.hid hE2
  clear hE hE2
  unfold refB
  go_enter Try.func41, Try.ntmps41
  go_wp2_with (fail)
  go_loop [6] (fun i => ∃ j : Nat, i = .int .i64 j ∧ j ≤ L.length ∧ findMv k (L.take j) = none) (fun i => L.length - (intOf i).toNat)
  case atStart => exact ⟨0, rfl, Nat.zero_le _, rfl⟩
  case round =>
    obtain ⟨j, rfl, hj, hnone⟩ := hrel
    by_cases hlt : j < L.length
    · obtain ⟨x, hx⟩ : ∃ x, L[j]? = some x := ⟨L[j], List.getElem?_eq_getElem hlt⟩
      obtain ⟨g, rfl, hg0, hg1, h0, h1, h2, h3⟩ := ensAt_cells HE.out hx
      have ht : L.take (j + 1) = L.take j ++ [x] := by rw [List.take_add_one, hx]; rfl
      have hnx : findMv k (L.take (j + 1)) = if x.mv = k then some x else none := by
        unfold findMv at hnone ⊢
        rw [ht, List.find?_append, hnone]
        by_cases hm : x.mv = k <;> simp [hm]
      have hful : x.mv = k → findMv k L = some x := by
        intro hm
        have e : L = L.take (j + 1) ++ L.drop (j + 1) := (List.take_append_drop _ _).symm
        unfold findMv at hnx ⊢
        rw [e, List.find?_append, hnx, if_pos hm]; rfl
      have HN := Lib.hid hnx
      have HF := Lib.hid hful
      obtain ⟨x1, x2, x3, x4⟩ := x
      simp only at h0 h1 h2 h3
      by_cases hm : x1 = k
      · have hfu := hful hm
        have HFU := Lib.hid hfu
        subst hm
        clear hfu HN HF
        clear hnx hful hnone ht hx
        go_wp2_with (fail)
        refine bodyPost_ret (v := .tuple #[(⟨x1, x2, x3, x4⟩ : En).val, .bool true]) (by simp [results, Try.results41, go_sem, En.val]) rfl ⟨by rw [HFU.out]; rfl, ?_⟩
        repeat' (first | exact HB.out | exact Below.refl _ _ | refine Below.setCell ?_ (by simp) _ | refine Below.alloc ?_ (by first | (simp; done) | (simp; omega)) _)
      · clear hnx hful hnone ht hx
        go_wp2_with (fail)
        go_round
        case rel => exact ⟨j + 1, by go_num, by omega, by rw [HN.out, if_neg hm]⟩
        case measure => go_light; simp [intOf]; omega
    · obtain rfl : j = L.length := by omega
      rw [List.take_length] at hnone
      have HN := Lib.hid hnone
      clear hnone
      go_wp2_with (fail)
      refine bodyPost_ret (v := .tuple #[En.zero.val, .bool false]) (by simp [results, Try.results41, go_sem, En.val, En.zero]) rfl ⟨by rw [HN.out]; rfl, ?_⟩
      repeat' (first | exact HB.out | exact Below.refl _ _ | refine Below.setCell ?_ (by simp) _ | refine Below.alloc ?_ (by first | (simp; done) | (simp; omega)) _)
theorem same_any (x y : En) (w : World) : Calls Try.prog 42 #[x.val, y.val] w fun e w' => e = .returned (.bool (decide (x = y))) ∧ Below w.heap.size w w' := by
  obtain ⟨x1, x2, x3, x4⟩ := x
  obtain ⟨y1, y2, y3, y4⟩ := y
  simp only [En.val]
  have hB : Below w.heap.size w ((w.alloc (.cells #[.int .i64 x1, .int .i64 x2, .int .i64 x3, .int .i64 x4] 51)).alloc (.cells #[.int .i64 y1, .int .i64 y2, .int .i64 y3, .int .i64 y4] 63)) := ((Below.refl _ w).alloc (Nat.le_refl _) _).alloc (by simp) _
  have HB := Lib.hid hB
  clear hB
  have hd : decide ((⟨x1, x2, x3, x4⟩ : En) = ⟨y1, y2, y3, y4⟩) = (decide (x1 = y1) && decide (x2 = y2) && decide (x3 = y3) && decide (x4 = y4)) := by simp [Bool.and_assoc]
  rw [hd]
  by_cases h1 : x1 = y1
  · by_cases h2 : x2 = y2
    · by_cases h3 : x3 = y3
      · subst h1; subst h2; subst h3
        clear hd
        go_enter Try.func42, Try.ntmps42
        go_wp2
        go_ret
        exact ⟨by simp; rw [Bool.eq_iff_iff]; simp, HB.out⟩
      · subst h1; subst h2
        have hb : (x3 == y3) = false := by simp [h3]
        have hb2 : decide (x3 = y3) = false := by simp [h3]
        clear hd
        go_enter Try.func42, Try.ntmps42
        go_wp2
        go_ret
        exact ⟨by simp [h3], HB.out⟩
    · subst h1
      have hb : (x2 == y2) = false := by simp [h2]
      have hb2 : decide (x2 = y2) = false := by simp [h2]
      clear hd
      go_enter Try.func42, Try.ntmps42
      go_wp2
      go_ret
      exact ⟨by simp [h2], HB.out⟩
  · have hb : (x1 == y1) = false := by simp [h1]
    have hb2 : decide (x1 = y1) = false := by simp [h1]
    clear hd
    go_enter Try.func42, Try.ntmps42
    go_wp2
    go_ret
    exact ⟨by simp [h1], HB.out⟩
end Go.Proofs.Ytbkbekdeplolnaa
