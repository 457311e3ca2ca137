/- The store in memory: New, Key, Len, Get, room. -/
import Derived.Test.YtmhbibcfbencnaaStE
namespace Go.Proofs.Ytmhbibcfbencnaa
open Go.RowKit Go.Lib
open Go.ChangeMaps (setBlock)
set_option linter.unusedSimpArgs false
set_option linter.unusedVariables false
abbrev St := List (Wd × Ag)
/-- A store in memory: its block, its map. -/
structure StAt (W : World) (p b : Nat) (m : St) : Prop where
  blk : W.heap[p]? = some (.cells #[.map (some b)] 93 (0, 0))
  map : MapIs ekW Ag.val W b m
theorem StAt.keep {X : List Nat} {W W' : World} {p b : Nat} {m : St} (h : StAt W p b m) (hk : Keep X W W') (hp : p ∉ X) (hb : b ∉ X) : StAt W' p b m :=
  ⟨(hk.block p (lt_of_heap h.blk) hp).trans h.blk, h.map.keep hk hb⟩
theorem StAt.below {W W' : World} {p b : Nat} {m : St} (h : StAt W p b m) (hk : Below W.heap.size W W') : StAt W' p b m := h.keep (Keep.of_below hk []) (by simp) (by simp)
theorem StAt.lt {W : World} {p b : Nat} {m : St} (h : StAt W p b m) : p < W.heap.size ∧ b < W.heap.size ∧ p ≠ b :=
  ⟨lt_of_heap h.blk, h.map.lt, fun e => by obtain ⟨es, c, h1, _⟩ := h.map; rw [← e, h.blk] at h1; cases h1⟩
theorem StAt.cells {W : World} {p b : Nat} {m : St} (h : StAt W p b m) : W.cell? ⟨p, 0, none⟩ = some (.map (some b)) ∧ (∀ o, W.frozen? ⟨p, o, none⟩ = false) := by
  refine ⟨?_, fun o => ?_⟩
  · unfold World.cell?; rw [h.blk]; rfl
  · unfold World.frozen?; rw [h.blk]; simp
def keyB (k : ByteArray) : Bool := decide (1 ≤ k.size ∧ k.size ≤ 16)
theorem key_any (k : ByteArray) (w : World) (hk : k.size ≤ maxLen) : Calls Try.prog 43 #[.string k] w fun e w' => e = .returned (.bool (keyB k)) ∧ w = w' := by
  unfold maxLen at hk
  by_cases g1 : 1 ≤ k.size
  all_goals
    by_cases g2 : k.size ≤ 16
    all_goals
      unfold keyB
      simp only [g1, g2, true_and, and_true, false_and, and_false, decide_true, decide_false]
      go_enter Try.func43, Try.ntmps43
      go_wp2
      all_goals
        go_ret
        refine ⟨?_, rfl⟩
        first | rfl | (simp <;> omega)
theorem rkey_any (k : ByteArray) (w : World) (hk : k.size ≤ maxLen) : Calls Try.prog 44 #[.string k] w fun e w' => e = .returned (.bool (keyB k)) ∧ w = w' := by
  unfold maxLen at hk
  by_cases g1 : 1 ≤ k.size
  all_goals
    by_cases g2 : k.size ≤ 16
    all_goals
      unfold keyB
      simp only [g1, g2, true_and, and_true, false_and, and_false, decide_true, decide_false]
      go_enter Try.func44, Try.ntmps44
      go_wp2
      all_goals
        go_ret
        refine ⟨?_, rfl⟩
        first | rfl | (simp <;> omega)
theorem snew_any (w : World) : Calls Try.prog 18 #[] w fun e w' => e = .returned (.pointer (some ⟨w.heap.size + 1, 0, none⟩)) ∧ (w.alloc (.map #[] 0)).alloc (.cells #[.map (some w.heap.size)] 93) = w' := by
  have hmm := @run_makeMap Try.prog
  go_enter Try.func18, Try.ntmps18
  go_wp2
  go_ret
  exact ⟨rfl, rfl⟩
theorem slen_any {w : World} {p b : Nat} {m : St} (h : StAt w p b m) : Calls Try.prog 42 #[.pointer (some ⟨p, 0, none⟩)] w fun e w' => e = .returned (.int .i64 m.length) ∧ w = w' := by
  obtain ⟨h0, h1⟩ := h.cells
  have hl := fun ty => run_len (P := Try.prog) Try.underlying91 h.map ty
  go_enter Try.func42, Try.ntmps42
  go_wp2
  go_ret
  exact ⟨rfl, rfl⟩
theorem slen_nil (w : World) : Calls Try.prog 42 #[.pointer none] w fun e w' => e = .returned (.int .i64 0) ∧ w = w' := by
  go_enter Try.func42, Try.ntmps42
  go_wp2
  go_ret
  exact ⟨rfl, rfl⟩
theorem zeroAg (W : World) : (zeroValue 31).run Try.prog W = .ok (Ag.val Ag.zero) W := by kernel_rfl
theorem lookAg {W : World} {b : Nat} {m : St} (h : MapIs ekW Ag.val W b m) (k : Wd) :
    (Instr.lookup 91 (.map (some b)) (ekW k) true).run Try.prog W = .ok (.tuple #[((look k m).getD Ag.zero).val, .bool (look k m).isSome]) W ∧
    (Instr.lookup 91 (.map (some b)) (ekW k) false).run Try.prog W = .ok (((look k m).getD Ag.zero).val) W := by
  have := run_lookup (P := Try.prog) Try.underlying91 keyLaw_wd zeroAg h k
  rw [show ((look k m).getD Ag.zero).val = lookV Ag.val (Ag.val Ag.zero) (look k m) from by cases look k m <;> rfl]
  exact this
theorem sget_nil (k : ByteArray) (s : Int) (w : World) : Calls Try.prog 25 #[.pointer none, .string k, .int .i64 s] w fun e w' => e = .returned (.tuple #[Ag.zero.val, .bool false]) ∧ Below w.heap.size w w' := by
  go_enter Try.func25, Try.ntmps25
  go_wp2
  exact bodyPost_ret (v := .tuple #[Ag.zero.val, .bool false]) (by simp [results, Try.results25, go_sem, Ag.val, Ag.zero]) rfl ⟨rfl, (Below.refl _ _).alloc (Nat.le_refl _) _⟩
set_option maxHeartbeats 1000000 in
theorem sget_any {w : World} {p b : Nat} {m : St} (h : StAt w p b m) (k : ByteArray) (s : Int) :
    Calls Try.prog 25 #[.pointer (some ⟨p, 0, none⟩), .string k, .int .i64 s] w fun e w' => e = .returned (.tuple #[((look ⟨s, k⟩ m).getD Ag.zero).val, .bool (look ⟨s, k⟩ m).isSome]) ∧ Below w.heap.size w w' := by
  obtain ⟨h0, h1⟩ := h.cells
  have hlt := h.lt.1
  have hlk := fun o => (lookAg (h.map.alloc (W := w) o) ⟨s, k⟩).1
  obtain ⟨x, hx⟩ : ∃ x, (look ⟨s, k⟩ m).getD Ag.zero = x := ⟨_, rfl⟩
  obtain ⟨b, hb⟩ : ∃ b, (look ⟨s, k⟩ m).isSome = b := ⟨_, rfl⟩
  rw [hx, hb] at hlk ⊢
  obtain ⟨x1, x2, x3, x4, x5, x6, x7, x8⟩ := x
  simp only [Ag.val, ekW] at hlk ⊢
  clear h hx hb
  go_enter Try.func25, Try.ntmps25
  go_wp2
  exact bodyPost_ret (v := .tuple #[Ag.val ⟨x1, x2, x3, x4, x5, x6, x7, x8⟩, .bool b]) (by simp [results, Try.results25, go_sem, Ag.val]) rfl ⟨rfl, by repeat' (first | exact Below.refl _ _ | refine Below.alloc ?_ (by simp; try omega) _)⟩
end Go.Proofs.Ytmhbibcfbencnaa
