/- What a call leaves as it was; maps as lists of pairs: what the operations on a map do. -/
import Derived.Test.YtdnfibecobodkaaGreatProg
import Derived.WalkKit
import Derived.Below
import Derived.Maps.RangeRun
import Derived.RangeFuncRecord
import Derived.Lib.Hide
import Derived.Deep.Draws
namespace Go.Proofs.YtdnfibecobodkaaGreat
open Go.RowKit
set_option linter.unusedSimpArgs false
set_option linter.unusedVariables false

/-- Of the blocks that were there, those outside X are as they were. -/
structure Keep (X : List Nat) (w w' : World) : Prop where
  os : w'.os = w.os
  tape : w'.tape = w.tape
  output : w'.output = w.output
  size : w.heap.size ≤ w'.heap.size
  block : ∀ k, k < w.heap.size → k ∉ X → w'.heap[k]? = w.heap[k]?
theorem Keep.refl (X : List Nat) (w : World) : Keep X w w := ⟨rfl, rfl, rfl, Nat.le_refl _, fun _ _ _ => rfl⟩
theorem Keep.trans {X : List Nat} {a b c : World} (h : Keep X a b) (k : Keep X b c) : Keep X a c :=
  ⟨k.os.trans h.os, k.tape.trans h.tape, k.output.trans h.output, Nat.le_trans h.size k.size, fun i hi hx => (k.block i (Nat.lt_of_lt_of_le hi h.size) hx).trans (h.block i hi hx)⟩
/-- What the second step may turn are blocks of X or new ones. -/
theorem Keep.step {X Y : List Nat} {a b c : World} (h : Keep X a b) (k : Keep Y b c) (hy : ∀ y ∈ Y, y ∈ X ∨ a.heap.size ≤ y) : Keep X a c :=
  ⟨k.os.trans h.os, k.tape.trans h.tape, k.output.trans h.output, Nat.le_trans h.size k.size, fun i hi hx =>
    (k.block i (Nat.lt_of_lt_of_le hi h.size) (fun hm => by rcases hy i hm with h1 | h1; exact hx h1; omega)).trans (h.block i hi hx)⟩
theorem Keep.mono {X Y : List Nat} {a b : World} (h : Keep X a b) (hs : ∀ x ∈ X, x ∈ Y ∨ a.heap.size ≤ x) : Keep Y a b :=
  ⟨h.os, h.tape, h.output, h.size, fun i hi hx => h.block i hi (fun hm => by rcases hs i hm with h1 | h1; exact hx h1; omega)⟩
theorem Keep.drew {X : List Nat} {a b : World} (h : Keep X a b) : Keep X a b.drew := ⟨h.os, h.tape, h.output, h.size, h.block⟩
theorem Keep.drewN {X : List Nat} {a b : World} (h : Keep X a b) (n : Nat) : Keep X a (b.drewN n) := ⟨h.os, h.tape, h.output, h.size, h.block⟩
theorem Keep.alloc {X : List Nat} {a b : World} (h : Keep X a b) (o : Obj) : Keep X a (b.alloc o) :=
  ⟨h.os, h.tape, h.output, Nat.le_trans h.size (by simp), fun i hi hx => (Below.heap_alloc b o i (Nat.lt_of_lt_of_le hi h.size)).trans (h.block i hi hx)⟩
theorem Keep.setCell {X : List Nat} {a b : World} (h : Keep X a b) (q : Nat) (o : Nat) (v : Value) (hq : q ∈ X ∨ a.heap.size ≤ q) : Keep X a (b.setCell ⟨q, o, none⟩ v) :=
  ⟨h.os, h.tape, h.output, Nat.le_trans h.size (by simp [World.setCell]), fun i hi hx => (Below.heap_setCell _ _ _ _ (fun e => by have e' : i = q := e; subst e'; rcases hq with h1 | h1; exact hx h1; omega)).trans (h.block i hi hx)⟩
theorem Keep.setBlock {X : List Nat} {a b : World} (h : Keep X a b) (q : Nat) (o : Obj) (hq : q ∈ X ∨ a.heap.size ≤ q) : Keep X a (ChangeMaps.setBlock b q o) := by
  refine ⟨h.os, h.tape, h.output, Nat.le_trans h.size (by simp [ChangeMaps.setBlock]), fun i hi hx => ?_⟩
  have hne : q ≠ i := fun e => by cases e; rcases hq with h1 | h1; exact hx h1; omega
  exact (by simp [ChangeMaps.setBlock, Array.getElem?_setIfInBounds_ne hne] : (ChangeMaps.setBlock b q o).heap[i]? = b.heap[i]?).trans (h.block i hi hx)
theorem Keep.grown {X : List Nat} {a b c : World} {row : Option Nat} (h : Keep X a b) (hg : b.grownBy c row) (hr : ∀ k, row = some k → k ∈ X ∨ a.heap.size ≤ k) : Keep X a c :=
  ⟨hg.os.trans h.os, hg.tape.trans h.tape, hg.output.trans h.output, Nat.le_trans h.size hg.size, fun i hi hx =>
    (hg.block i (Nat.lt_of_lt_of_le hi h.size) (fun e => by rcases hr i e.symm with h1 | h1; exact hx h1; omega)).trans (h.block i hi hx)⟩
theorem Keep.below {X : List Nat} {a b : World} {B : Nat} (h : Keep X a b) (hB : B ≤ a.heap.size) (hX : ∀ x ∈ X, B ≤ x) : Below B a b :=
  ⟨h.os, h.tape, h.output, h.size, fun k hk => h.block k (by omega) (fun hm => by have := hX k hm; omega)⟩
theorem Keep.of_below {a b : World} (h : Below a.heap.size a b) (X : List Nat) : Keep X a b := ⟨h.os, h.tape, h.output, h.size, fun k hk _ => h.block k hk⟩
theorem Keep.then_below {X : List Nat} {a b c : World} (h : Keep X a b) (k : Below b.heap.size b c) : Keep X a c := h.trans (Keep.of_below k X)
theorem Keep.cell {X : List Nat} {a b : World} (h : Keep X a b) {q : Nat} (o : Nat) (hq : q < a.heap.size) (hx : q ∉ X) : b.cell? ⟨q, o, none⟩ = a.cell? ⟨q, o, none⟩ := World.cell?_of_block (w := a) (h.block q hq hx)
theorem Keep.frozen {X : List Nat} {a b : World} (h : Keep X a b) {q : Nat} (o : Nat) (hq : q < a.heap.size) (hx : q ∉ X) : b.frozen? ⟨q, o, none⟩ = a.frozen? ⟨q, o, none⟩ := World.frozen?_of_block (w := a) (h.block q hq hx)
theorem setBlock_at (w : World) (b : Nat) (o : Obj) (h : b < w.heap.size) : (ChangeMaps.setBlock w b o).heap[b]? = some o := by simp [ChangeMaps.setBlock, h]
theorem setBlock_ne (w : World) (b k : Nat) (o : Obj) (h : b ≠ k) : (ChangeMaps.setBlock w b o).heap[k]? = w.heap[k]? := by simp [ChangeMaps.setBlock, Array.getElem?_setIfInBounds_ne h]
theorem setBlock_size (w : World) (b : Nat) (o : Obj) : (ChangeMaps.setBlock w b o).heap.size = w.heap.size := by simp [ChangeMaps.setBlock]
theorem lt_of_heap {w : World} {b : Nat} {o : Obj} (h : w.heap[b]? = some o) : b < w.heap.size := (Array.getElem?_eq_some_iff.1 h).1

/-! ### Lists of pairs -/
section
variable {K V : Type} [DecidableEq K]
/-- Where a key stands. -/
def pos (k : K) : List K → Nat → Option Nat
  | [], _ => none
  | x :: r, i => if k = x then some i else pos k r (i + 1)
def look (k : K) : List (K × V) → Option V
  | [] => none
  | x :: r => if k = x.1 then some x.2 else look k r
def del (k : K) (m : List (K × V)) : List (K × V) := m.filter fun p => decide (k ≠ p.1)
def put (k : K) (v : V) (m : List (K × V)) : List (K × V) := if (look k m).isSome then m.map (fun p => if k = p.1 then (p.1, v) else p) else m ++ [(k, v)]
theorem pos_add (k : K) : ∀ (l : List K) (i : Nat), pos k l i = (pos k l 0).map (· + i)
  | [], i => rfl
  | x :: r, i => by
    unfold pos
    split
    · simp
    · rw [pos_add k r (i + 1), pos_add k r (0 + 1)]
      cases pos k r 0 with
      | none => rfl
      | some j => simp; omega
theorem pos_none {k : K} {m : List (K × V)} : pos k (m.map (·.1)) 0 = none ↔ look k m = none := by
  induction m with
  | nil => simp [pos, look]
  | cons x r ih =>
    simp only [List.map_cons, pos, look]
    split
    · simp
    · rw [pos_add]; simpa using ih
theorem pos_some {k : K} {m : List (K × V)} {i : Nat} (h : pos k (m.map (·.1)) 0 = some i) : ∃ v, m[i]? = some (k, v) ∧ look k m = some v := by
  induction m generalizing i with
  | nil => simp [pos] at h
  | cons x r ih =>
    simp only [List.map_cons, pos] at h
    split at h
    · rename_i e
      cases h
      exact ⟨x.2, by simp [e], by simp [look, e]⟩
    · rename_i e
      rw [pos_add] at h
      cases hp : pos k (r.map (·.1)) 0 with
      | none => simp [hp] at h
      | some j =>
        obtain ⟨v, h1, h2⟩ := ih hp
        simp [hp] at h
        subst h
        exact ⟨v, by simpa using h1, by simp [look, e, h2]⟩
theorem look_mem {k : K} {v : V} {m : List (K × V)} (h : look k m = some v) : (k, v) ∈ m := by
  induction m with
  | nil => simp [look] at h
  | cons x r ih =>
    unfold look at h
    split at h
    · rename_i e; cases h; subst e; exact List.mem_cons.2 (.inl rfl)
    · exact List.mem_cons.2 (.inr (ih h))
theorem look_of_mem {k : K} {v : V} {m : List (K × V)} (hn : (m.map (·.1)).Nodup) (h : (k, v) ∈ m) : look k m = some v := by
  induction m with
  | nil => cases h
  | cons x r ih =>
    simp only [List.map_cons, List.nodup_cons] at hn
    unfold look
    rcases List.mem_cons.1 h with e | h'
    · rw [← e]; simp
    · rw [if_neg ?_]
      · exact ih hn.2 h'
      · intro e; exact hn.1 (e ▸ List.mem_map.2 ⟨(k, v), h', rfl⟩)
theorem look_none {k : K} {m : List (K × V)} : look k m = none ↔ ∀ p ∈ m, k ≠ p.1 := by
  induction m with
  | nil => simp [look]
  | cons x r ih =>
    simp only [look, List.mem_cons, forall_eq_or_imp]
    split
    · rename_i e; simp [e]
    · rename_i e; rw [ih]; exact ⟨fun h => ⟨e, h⟩, fun h => h.2⟩
theorem eraseIdx_del {k : K} {m : List (K × V)} {i : Nat} (hn : (m.map (·.1)).Nodup) (h : pos k (m.map (·.1)) 0 = some i) : m.eraseIdx i = del k m := by
  induction m generalizing i with
  | nil => simp [pos] at h
  | cons x r ih =>
    simp only [List.map_cons, pos] at h
    simp only [List.map_cons, List.nodup_cons] at hn
    split at h
    · rename_i e
      cases h
      simp only [List.eraseIdx_zero, List.tail_cons, del]
      rw [List.filter_cons, if_neg (by simp [e])]
      symm
      rw [List.filter_eq_self]
      intro p hp
      simp only [decide_eq_true_eq]
      intro e'
      exact hn.1 (by rw [← e, e']; exact List.mem_map.2 ⟨p, hp, rfl⟩)
    · rename_i e
      rw [pos_add] at h
      cases hp : pos k (r.map (·.1)) 0 with
      | none => simp [hp] at h
      | some j =>
        simp [hp] at h
        subst h
        simp only [List.eraseIdx_cons_succ, del]
        rw [List.filter_cons, if_pos (by simpa using e), ih hn.2 hp]
        rfl
theorem del_none {k : K} {m : List (K × V)} (h : look k m = none) : del k m = m := by
  unfold del
  rw [List.filter_eq_self]
  intro p hp
  simpa using look_none.1 h p hp
theorem modify_put {k : K} {v : V} {m : List (K × V)} {i : Nat} (hn : (m.map (·.1)).Nodup) (h : pos k (m.map (·.1)) 0 = some i) : m.modify i (fun p => (p.1, v)) = m.map (fun p => if k = p.1 then (p.1, v) else p) := by
  induction m generalizing i with
  | nil => simp [pos] at h
  | cons x r ih =>
    simp only [List.map_cons, pos] at h
    simp only [List.map_cons, List.nodup_cons] at hn
    split at h
    · rename_i e
      cases h
      simp only [List.modify_zero_cons, List.map_cons, if_pos e, List.cons.injEq, true_and]
      symm
      refine (List.map_congr_left (g := id) fun p hp => ?_).trans (List.map_id r)
      rw [if_neg]; rfl
      intro e'
      exact hn.1 (by rw [← e, e']; exact List.mem_map.2 ⟨p, hp, rfl⟩)
    · rename_i e
      rw [pos_add] at h
      cases hp : pos k (r.map (·.1)) 0 with
      | none => simp [hp] at h
      | some j =>
        simp [hp] at h
        subst h
        simp only [List.modify_succ_cons, List.map_cons, if_neg e, ih hn.2 hp]
end
end Go.Proofs.YtdnfibecobodkaaGreat
