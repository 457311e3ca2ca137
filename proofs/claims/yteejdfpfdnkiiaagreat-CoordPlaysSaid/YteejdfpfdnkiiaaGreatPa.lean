/- What a call leaves as it was; maps as lists of pairs: what the operations on a map do · Maps as lists of pairs: what look-up, store, delete, len and a range over a map do · A range over a map that the round does not write: in some row all its pairs come, each once · Contracts of package table's Right and May, and of slices.ContainsFunc at its closure · Contract of table.May · The book of moves: New, Of, Last, End -/
import Derived.Test.YteejdfpfdnkiiaaGreatProg
import Derived.WalkKit
import Derived.Below
import Derived.Maps.RangeRun
import Derived.RangeFuncRecord
import Derived.Lib.Hide
import Derived.Deep.Draws
import Derived.WalkSpells
import Derived.WalkLawsBesides
import Derived.Deep.QuietTactic
import Derived.BigQuiet
import Derived.Deep.Light
import Derived.Outline
import Derived.Laws.AppendOwn
import Derived.Laws.OwnMore
import Derived.OwnWalk
import Derived.Maps.AppendAt
import Derived.LoopTactic
namespace Go.Proofs.YteejdfpfdnkiiaaGreat
section
open Go.RowKit
set_option linter.unusedSimpArgs false
set_option linter.unusedVariables false

/-- Of the blocks that were there, those outside X are as they were. -/
structure Keep (X : List Nat) (w w' : World) : Prop where
  os : w'.os = w.os
  tape : w'.tape = w.tape
  output : w'.output = w.output
  size : w.heap.size ≤ w'.heap.size
  block : ∀ k, k < w.heap.size → k ∉ X → w'.heap[k]? = w.heap[k]?
theorem Keep.refl (X : List Nat) (w : World) : Keep X w w := ⟨rfl, rfl, rfl, Nat.le_refl _, fun _ _ _ => rfl⟩
theorem Keep.trans {X : List Nat} {a b c : World} (h : Keep X a b) (k : Keep X b c) : Keep X a c :=
  ⟨k.os.trans h.os, k.tape.trans h.tape, k.output.trans h.output, Nat.le_trans h.size k.size, fun i hi hx => (k.block i (Nat.lt_of_lt_of_le hi h.size) hx).trans (h.block i hi hx)⟩
/-- What the second step may turn are blocks of X or new ones. -/
theorem Keep.step {X Y : List Nat} {a b c : World} (h : Keep X a b) (k : Keep Y b c) (hy : ∀ y ∈ Y, y ∈ X ∨ a.heap.size ≤ y) : Keep X a c :=
  ⟨k.os.trans h.os, k.tape.trans h.tape, k.output.trans h.output, Nat.le_trans h.size k.size, fun i hi hx =>
    (k.block i (Nat.lt_of_lt_of_le hi h.size) (fun hm => by rcases hy i hm with h1 | h1; exact hx h1; omega)).trans (h.block i hi hx)⟩
theorem Keep.mono {X Y : List Nat} {a b : World} (h : Keep X a b) (hs : ∀ x ∈ X, x ∈ Y ∨ a.heap.size ≤ x) : Keep Y a b :=
  ⟨h.os, h.tape, h.output, h.size, fun i hi hx => h.block i hi (fun hm => by rcases hs i hm with h1 | h1; exact hx h1; omega)⟩
theorem Keep.drew {X : List Nat} {a b : World} (h : Keep X a b) : Keep X a b.drew := ⟨h.os, h.tape, h.output, h.size, h.block⟩
theorem Keep.drewN {X : List Nat} {a b : World} (h : Keep X a b) (n : Nat) : Keep X a (b.drewN n) := ⟨h.os, h.tape, h.output, h.size, h.block⟩
theorem Keep.alloc {X : List Nat} {a b : World} (h : Keep X a b) (o : Obj) : Keep X a (b.alloc o) :=
  ⟨h.os, h.tape, h.output, Nat.le_trans h.size (by simp), fun i hi hx => (Below.heap_alloc b o i (Nat.lt_of_lt_of_le hi h.size)).trans (h.block i hi hx)⟩
theorem Keep.setCell {X : List Nat} {a b : World} (h : Keep X a b) (q : Nat) (o : Nat) (v : Value) (hq : q ∈ X ∨ a.heap.size ≤ q) : Keep X a (b.setCell ⟨q, o, none⟩ v) :=
  ⟨h.os, h.tape, h.output, Nat.le_trans h.size (by simp [World.setCell]), fun i hi hx => (Below.heap_setCell _ _ _ _ (fun e => by have e' : i = q := e; subst e'; rcases hq with h1 | h1; exact hx h1; omega)).trans (h.block i hi hx)⟩
theorem Keep.setBlock {X : List Nat} {a b : World} (h : Keep X a b) (q : Nat) (o : Obj) (hq : q ∈ X ∨ a.heap.size ≤ q) : Keep X a (ChangeMaps.setBlock b q o) := by
  refine ⟨h.os, h.tape, h.output, Nat.le_trans h.size (by simp [ChangeMaps.setBlock]), fun i hi hx => ?_⟩
  have hne : q ≠ i := fun e => by cases e; rcases hq with h1 | h1; exact hx h1; omega
  exact (by simp [ChangeMaps.setBlock, Array.getElem?_setIfInBounds_ne hne] : (ChangeMaps.setBlock b q o).heap[i]? = b.heap[i]?).trans (h.block i hi hx)
theorem Keep.grown {X : List Nat} {a b c : World} {row : Option Nat} (h : Keep X a b) (hg : b.grownBy c row) (hr : ∀ k, row = some k → k ∈ X ∨ a.heap.size ≤ k) : Keep X a c :=
  ⟨hg.os.trans h.os, hg.tape.trans h.tape, hg.output.trans h.output, Nat.le_trans h.size hg.size, fun i hi hx =>
    (hg.block i (Nat.lt_of_lt_of_le hi h.size) (fun e => by rcases hr i e.symm with h1 | h1; exact hx h1; omega)).trans (h.block i hi hx)⟩
theorem Keep.below {X : List Nat} {a b : World} {B : Nat} (h : Keep X a b) (hB : B ≤ a.heap.size) (hX : ∀ x ∈ X, B ≤ x) : Below B a b :=
  ⟨h.os, h.tape, h.output, h.size, fun k hk => h.block k (by omega) (fun hm => by have := hX k hm; omega)⟩
theorem Keep.of_below {a b : World} (h : Below a.heap.size a b) (X : List Nat) : Keep X a b := ⟨h.os, h.tape, h.output, h.size, fun k hk _ => h.block k hk⟩
theorem Keep.then_below {X : List Nat} {a b c : World} (h : Keep X a b) (k : Below b.heap.size b c) : Keep X a c := h.trans (Keep.of_below k X)
theorem Keep.cell {X : List Nat} {a b : World} (h : Keep X a b) {q : Nat} (o : Nat) (hq : q < a.heap.size) (hx : q ∉ X) : b.cell? ⟨q, o, none⟩ = a.cell? ⟨q, o, none⟩ := World.cell?_of_block (w := a) (h.block q hq hx)
theorem Keep.frozen {X : List Nat} {a b : World} (h : Keep X a b) {q : Nat} (o : Nat) (hq : q < a.heap.size) (hx : q ∉ X) : b.frozen? ⟨q, o, none⟩ = a.frozen? ⟨q, o, none⟩ := World.frozen?_of_block (w := a) (h.block q hq hx)
theorem setBlock_at (w : World) (b : Nat) (o : Obj) (h : b < w.heap.size) : (ChangeMaps.setBlock w b o).heap[b]? = some o := by simp [ChangeMaps.setBlock, h]
theorem setBlock_ne (w : World) (b k : Nat) (o : Obj) (h : b ≠ k) : (ChangeMaps.setBlock w b o).heap[k]? = w.heap[k]? := by simp [ChangeMaps.setBlock, Array.getElem?_setIfInBounds_ne h]
theorem setBlock_size (w : World) (b : Nat) (o : Obj) : (ChangeMaps.setBlock w b o).heap.size = w.heap.size := by simp [ChangeMaps.setBlock]
theorem lt_of_heap {w : World} {b : Nat} {o : Obj} (h : w.heap[b]? = some o) : b < w.heap.size := (Array.getElem?_eq_some_iff.1 h).1

/-! ### Lists of pairs -/
section
variable {K V : Type} [DecidableEq K]
/-- Where a key stands. -/
def pos (k : K) : List K → Nat → Option Nat
  | [], _ => none
  | x :: r, i => if k = x then some i else pos k r (i + 1)
def look (k : K) : List (K × V) → Option V
  | [] => none
  | x :: r => if k = x.1 then some x.2 else look k r
def del (k : K) (m : List (K × V)) : List (K × V) := m.filter fun p => decide (k ≠ p.1)
def put (k : K) (v : V) (m : List (K × V)) : List (K × V) := if (look k m).isSome then m.map (fun p => if k = p.1 then (p.1, v) else p) else m ++ [(k, v)]
theorem pos_add (k : K) : ∀ (l : List K) (i : Nat), pos k l i = (pos k l 0).map (· + i)
  | [], i => rfl
  | x :: r, i => by
    unfold pos
    split
    · simp
    · rw [pos_add k r (i + 1), pos_add k r (0 + 1)]
      cases pos k r 0 with
      | none => rfl
      | some j => simp; omega
theorem pos_none {k : K} {m : List (K × V)} : pos k (m.map (·.1)) 0 = none ↔ look k m = none := by
  induction m with
  | nil => simp [pos, look]
  | cons x r ih =>
    simp only [List.map_cons, pos, look]
    split
    · simp
    · rw [pos_add]; simpa using ih
theorem pos_some {k : K} {m : List (K × V)} {i : Nat} (h : pos k (m.map (·.1)) 0 = some i) : ∃ v, m[i]? = some (k, v) ∧ look k m = some v := by
  induction m generalizing i with
  | nil => simp [pos] at h
  | cons x r ih =>
    simp only [List.map_cons, pos] at h
    split at h
    · rename_i e
      cases h
      exact ⟨x.2, by simp [e], by simp [look, e]⟩
    · rename_i e
      rw [pos_add] at h
      cases hp : pos k (r.map (·.1)) 0 with
      | none => simp [hp] at h
      | some j =>
        obtain ⟨v, h1, h2⟩ := ih hp
        simp [hp] at h
        subst h
        exact ⟨v, by simpa using h1, by simp [look, e, h2]⟩
theorem look_mem {k : K} {v : V} {m : List (K × V)} (h : look k m = some v) : (k, v) ∈ m := by
  induction m with
  | nil => simp [look] at h
  | cons x r ih =>
    unfold look at h
    split at h
    · rename_i e; cases h; subst e; exact List.mem_cons.2 (.inl rfl)
    · exact List.mem_cons.2 (.inr (ih h))
theorem look_of_mem {k : K} {v : V} {m : List (K × V)} (hn : (m.map (·.1)).Nodup) (h : (k, v) ∈ m) : look k m = some v := by
  induction m with
  | nil => cases h
  | cons x r ih =>
    simp only [List.map_cons, List.nodup_cons] at hn
    unfold look
    rcases List.mem_cons.1 h with e | h'
    · rw [← e]; simp
    · rw [if_neg ?_]
      · exact ih hn.2 h'
      · intro e; exact hn.1 (e ▸ List.mem_map.2 ⟨(k, v), h', rfl⟩)
theorem look_none {k : K} {m : List (K × V)} : look k m = none ↔ ∀ p ∈ m, k ≠ p.1 := by
  induction m with
  | nil => simp [look]
  | cons x r ih =>
    simp only [look, List.mem_cons, forall_eq_or_imp]
    split
    · rename_i e; simp [e]
    · rename_i e; rw [ih]; exact ⟨fun h => ⟨e, h⟩, fun h => h.2⟩
theorem eraseIdx_del {k : K} {m : List (K × V)} {i : Nat} (hn : (m.map (·.1)).Nodup) (h : pos k (m.map (·.1)) 0 = some i) : m.eraseIdx i = del k m := by
  induction m generalizing i with
  | nil => simp [pos] at h
  | cons x r ih =>
    simp only [List.map_cons, pos] at h
    simp only [List.map_cons, List.nodup_cons] at hn
    split at h
    · rename_i e
      cases h
      simp only [List.eraseIdx_zero, List.tail_cons, del]
      rw [List.filter_cons, if_neg (by simp [e])]
      symm
      rw [List.filter_eq_self]
      intro p hp
      simp only [decide_eq_true_eq]
      intro e'
      exact hn.1 (by rw [← e, e']; exact List.mem_map.2 ⟨p, hp, rfl⟩)
    · rename_i e
      rw [pos_add] at h
      cases hp : pos k (r.map (·.1)) 0 with
      | none => simp [hp] at h
      | some j =>
        simp [hp] at h
        subst h
        simp only [List.eraseIdx_cons_succ, del]
        rw [List.filter_cons, if_pos (by simpa using e), ih hn.2 hp]
        rfl
theorem del_none {k : K} {m : List (K × V)} (h : look k m = none) : del k m = m := by
  unfold del
  rw [List.filter_eq_self]
  intro p hp
  simpa using look_none.1 h p hp
theorem modify_put {k : K} {v : V} {m : List (K × V)} {i : Nat} (hn : (m.map (·.1)).Nodup) (h : pos k (m.map (·.1)) 0 = some i) : m.modify i (fun p => (p.1, v)) = m.map (fun p => if k = p.1 then (p.1, v) else p) := by
  induction m generalizing i with
  | nil => simp [pos] at h
  | cons x r ih =>
    simp only [List.map_cons, pos] at h
    simp only [List.map_cons, List.nodup_cons] at hn
    split at h
    · rename_i e
      cases h
      simp only [List.modify_zero_cons, List.map_cons, if_pos e, List.cons.injEq, true_and]
      symm
      refine (List.map_congr_left (g := id) fun p hp => ?_).trans (List.map_id r)
      rw [if_neg]; rfl
      intro e'
      exact hn.1 (by rw [← e, e']; exact List.mem_map.2 ⟨p, hp, rfl⟩)
    · rename_i e
      rw [pos_add] at h
      cases hp : pos k (r.map (·.1)) 0 with
      | none => simp [hp] at h
      | some j =>
        simp [hp] at h
        subst h
        simp only [List.modify_succ_cons, List.map_cons, if_neg e, ih hn.2 hp]
end
end
section
open Go.RowKit
open Go.ChangeMaps (setBlock)
set_option linter.unusedSimpArgs false
set_option linter.unusedVariables false
section
variable {K V : Type} {P : Program} {Kt Et T : TypeId} {ek : K → Value} {ev : V → Value}
/-- Block b is a map that holds the pairs of m, in the row in which they came. -/
def MapIs (ek : K → Value) (ev : V → Value) (W : World) (b : Nat) (m : List (K × V)) : Prop :=
  ∃ (es : Array MapEntry) (clock : Nat), W.heap[b]? = some (.map es clock) ∧ es.toList.map (·.key) = m.map (fun p => ek p.1) ∧ es.toList.map (·.val) = m.map (fun p => ev p.2) ∧
    (es.toList.map (·.born)).Pairwise (· < ·) ∧ ∀ e ∈ es.toList, e.born < clock
theorem MapIs.of_block {W W' : World} {b : Nat} {m : List (K × V)} (h : MapIs ek ev W b m) (hb : W'.heap[b]? = W.heap[b]?) : MapIs ek ev W' b m := by
  obtain ⟨es, clock, h1, h2⟩ := h
  exact ⟨es, clock, hb.trans h1, h2⟩
theorem MapIs.lt {W : World} {b : Nat} {m : List (K × V)} (h : MapIs ek ev W b m) : b < W.heap.size := by
  obtain ⟨es, clock, h1, _⟩ := h
  exact lt_of_heap h1
theorem MapIs.alloc {W : World} {b : Nat} {m : List (K × V)} (h : MapIs ek ev W b m) (o : Obj) : MapIs ek ev (W.alloc o) b m := h.of_block (Below.heap_alloc W o b h.lt)
theorem MapIs.keep {X : List Nat} {W W' : World} {b : Nat} {m : List (K × V)} (h : MapIs ek ev W b m) (hk : Keep X W W') (hx : b ∉ X) : MapIs ek ev W' b m := h.of_block (hk.block b h.lt hx)
theorem MapIs.below {W W' : World} {b : Nat} {m : List (K × V)} (h : MapIs ek ev W b m) (hk : Below W.heap.size W W') : MapIs ek ev W' b m := h.of_block (hk.block b h.lt)
theorem MapIs.new (W : World) : MapIs ek ev (W.alloc (.map #[] 0)) W.heap.size ([] : List (K × V)) := ⟨#[], 0, World.alloc_heap_new W _, by simp⟩
theorem mapIs_len {es : Array MapEntry} {m : List (K × V)} (h : es.toList.map (·.key) = m.map (fun p => ek p.1)) : es.size = m.length := by
  have := congrArg List.length h
  simpa using this
theorem run_getObj {W : World} {b : Nat} {es : Array MapEntry} {clock : Nat} (h : W.heap[b]? = some (.map es clock)) : (getObj b).run P W = .ok (.map es clock) W := by
  simp [getObj, Sem.run, h]
theorem run_setObj {W : World} {b : Nat} {es : Array MapEntry} {clock : Nat} (h : W.heap[b]? = some (.map es clock)) (o : Obj) : (setObj b o).run P W = .ok () (setBlock W b o) := by
  simp [setObj, Sem.run, h, setBlock]
theorem run_under {t : TypeId} {d : TypeDesc} (h : P.underlying t = some d) (W : World) : (underlying t).run P W = .ok d W := by
  simp [underlying, program, Sem.run_bind, Sem.run, Result.andThen, h]
theorem run_len {W : World} {b : Nat} {m : List (K × V)} (hT : P.underlying T = some (.map Kt Et)) (h : MapIs ek ev W b m) (ty : TypeId) :
    (Builtin.len_ #[T] ty #[.map (some b)]).run P W = .ok (.int .i64 m.length) W := by
  obtain ⟨es, clock, hb, h1, _⟩ := h
  simp [Builtin.len_, Sem.run_bind, run_under hT, Result.andThen, run_getObj hb, Sem.run, goInt, mapIs_len h1]
variable [DecidableEq K]
/-- What a key's type must do. -/
structure KeyLaw (P : Program) (Kt : TypeId) (ek : K → Value) : Prop where
  check : ∀ (empty : Bool) (k : K) (W : World), (Instr.checkKey empty 10000 Kt (ek k)).run P W = .ok () W
  find : ∀ (k : K) (es : List MapEntry) (ks : List K) (W : World), es.map (·.key) = ks.map ek →
    (Instr.findKey Kt (ek k) es).run P W = .ok ((pos k ks 0).bind fun i => (es[i]?).map fun e => (i, e.val)) W
  same : ∀ k : K, Instr.sameBits 10000 (ek k) (ek k) = true
/-- What 'find' gives, in the words of the list. -/
theorem find_look {W : World} {es : Array MapEntry} {m : List (K × V)} (KL : KeyLaw P Kt ek) (h1 : es.toList.map (·.key) = m.map (fun p => ek p.1)) (h2 : es.toList.map (·.val) = m.map (fun p => ev p.2)) (k : K) :
    (look k m = none ∧ pos k (m.map (·.1)) 0 = none ∧ (Instr.findKey Kt (ek k) es.toList).run P W = .ok none W) ∨
    (∃ i v, look k m = some v ∧ pos k (m.map (·.1)) 0 = some i ∧ i < es.size ∧ (∃ e, es[i]? = some e ∧ e.key = ek k ∧ e.val = ev v) ∧ (Instr.findKey Kt (ek k) es.toList).run P W = .ok (some (i, ev v)) W) := by
  have hf := KL.find k es.toList (m.map (·.1)) W (by rw [h1, List.map_map]; rfl)
  cases hp : pos k (m.map (·.1)) 0 with
  | none =>
    left
    refine ⟨pos_none.1 hp, rfl, ?_⟩
    rw [hf, hp]; rfl
  | some i =>
    right
    obtain ⟨v, hi, hl⟩ := pos_some hp
    have hlen := mapIs_len h1
    have hil : i < m.length := (List.getElem?_eq_some_iff.1 hi).1
    have hie : i < es.size := by omega
    have k1 : (es.toList.map (·.key))[i]? = some (ek k) := by rw [h1, List.getElem?_map, hi]; rfl
    have k2 : (es.toList.map (·.val))[i]? = some (ev v) := by rw [h2, List.getElem?_map, hi]; rfl
    have he : es[i]? = some es[i] := Array.getElem?_eq_getElem hie
    rw [List.getElem?_map, Array.getElem?_toList, he] at k1 k2
    refine ⟨i, v, hl, rfl, hie, ⟨es[i], he, by simpa using k1, by simpa using k2⟩, ?_⟩
    rw [hf, hp]
    simp only [Option.bind_some, Array.getElem?_toList, he, Option.map_some]
    simp at k2
    rw [k2]
def lookV (ev : V → Value) (z : Value) (o : Option V) : Value := match o with | some v => ev v | none => z
theorem run_lookup {W : World} {b : Nat} {m : List (K × V)} (hT : P.underlying T = some (.map Kt Et)) (KL : KeyLaw P Kt ek) {z : Value} (hz : ∀ W, (zeroValue Et).run P W = .ok z W) (h : MapIs ek ev W b m) (k : K) :
    (Instr.lookup T (.map (some b)) (ek k) true).run P W = .ok (.tuple #[lookV ev z (look k m), .bool (look k m).isSome]) W ∧
    (Instr.lookup T (.map (some b)) (ek k) false).run P W = .ok (lookV ev z (look k m)) W := by
  obtain ⟨es, clock, hb, h1, h2, _⟩ := h
  rcases find_look (W := W) KL h1 h2 k with ⟨hl, _, hf⟩ | ⟨i, v, hl, _, _, _, hf⟩
  · constructor <;> simp [Instr.lookup, Sem.run_bind, run_under hT, Result.andThen, run_getObj hb, KL.check, hf, hz, hl, lookV, Sem.run]
  · constructor <;> simp [Instr.lookup, Sem.run_bind, run_under hT, Result.andThen, run_getObj hb, KL.check, hf, hz, hl, lookV, Sem.run]
theorem run_lookup_nil (hT : P.underlying T = some (.map Kt Et)) (KL : KeyLaw P Kt ek) {z : Value} (hz : ∀ W, (zeroValue Et).run P W = .ok z W) (k : K) (W : World) :
    (Instr.lookup T (.map none) (ek k) true).run P W = .ok (.tuple #[z, .bool false]) W ∧ (Instr.lookup T (.map none) (ek k) false).run P W = .ok z W := by
  have hf := KL.find k [] [] W rfl
  simp only [pos, Option.bind_none] at hf
  constructor <;> simp [Instr.lookup, Sem.run_bind, run_under hT, Result.andThen, KL.check, hf, hz, Sem.run]
theorem run_update {W : World} {b : Nat} {m : List (K × V)} (hT : P.underlying T = some (.map Kt Et)) (KL : KeyLaw P Kt ek) (h : MapIs ek ev W b m) (hn : (m.map (·.1)).Nodup) (k : K) (v : V) :
    ∃ o, (Instr.mapUpdate T (.map (some b)) (ek k) (ev v)).run P W = .ok () (setBlock W b o) ∧ MapIs ek ev (setBlock W b o) b (put k v m) := by
  obtain ⟨es, clock, hb, h1, h2, h3, h4⟩ := h
  have hlt := lt_of_heap hb
  rcases find_look (W := W) KL h1 h2 k with ⟨hl, _, hf⟩ | ⟨i, u, hl, hp, hi, ⟨e, he, he1, he2⟩, hf⟩
  · refine ⟨.map (es.push { key := ek k, val := ev v, born := clock }) (clock + 1), ?_, ?_⟩
    · simp [Instr.mapUpdate, Sem.run_bind, run_under hT, Result.andThen, run_getObj hb, KL.check, hf, Sem.run, run_setObj hb]
    · refine ⟨_, _, setBlock_at W b _ hlt, ?_, ?_, ?_, ?_⟩
      · simp [put, hl, h1]
      · simp [put, hl, h2]
      · simp only [Array.toList_push, List.map_append, List.map_cons, List.map_nil]
        rw [List.pairwise_append]
        refine ⟨h3, by simp, fun x hx y hy => ?_⟩
        obtain ⟨e, he, rfl⟩ := List.mem_map.1 hx
        simp at hy; subst hy
        exact h4 e he
      · intro e he
        simp only [Array.toList_push, List.mem_append, List.mem_singleton] at he
        rcases he with he | rfl
        · have := h4 e he; omega
        · simp
  · refine ⟨.map (es.modify i fun e => { e with key := ek k, val := ev v }) clock, ?_, ?_⟩
    · have hs := KL.same k
      simp [Instr.mapUpdate, Sem.run_bind, run_under hT, Result.andThen, run_getObj hb, KL.check, hf, Sem.run, run_setObj hb, he, he1, Instr.keyThatStays, hs]
    · have hkeys : (es.toList.modify i fun e => { e with key := ek k, val := ev v }).map (·.key) = es.toList.map (·.key) := by
        apply List.ext_getElem?
        intro j
        simp only [List.getElem?_map, List.getElem?_modify]
        by_cases hij : i = j
        · subst hij
          rw [Array.getElem?_toList, he]; simp [he1]
        · simp [hij]
      have hborn : (es.toList.modify i fun e => { e with key := ek k, val := ev v }).map (·.born) = es.toList.map (·.born) := by
        apply List.ext_getElem?
        intro j
        simp only [List.getElem?_map, List.getElem?_modify]
        by_cases hij : i = j
        · subst hij
          rw [Array.getElem?_toList, he]; simp
        · simp [hij]
      have hm : put k v m = m.modify i (fun p => (p.1, v)) := by
        unfold put; rw [hl]; simp only [Option.isSome_some, if_true]
        exact (modify_put hn hp).symm
      refine ⟨_, _, setBlock_at W b _ hlt, ?_, ?_, ?_, ?_⟩
      · rw [Array.toList_modify, hkeys, h1, hm]
        apply List.ext_getElem?
        intro j
        simp only [List.getElem?_map, List.getElem?_modify]
        cases hmj : m[j]? with
        | none => rfl
        | some p => by_cases hij : i = j <;> simp [hij]
      · rw [Array.toList_modify, hm]
        apply List.ext_getElem?
        intro j
        have hj := congrArg (fun l : List Value => l[j]?) h2
        simp only [List.getElem?_map, List.getElem?_modify] at hj ⊢
        by_cases hij : i = j
        · subst hij
          rw [Array.getElem?_toList, he] at hj ⊢
          cases hmj : m[i]? with
          | none => rw [hmj] at hj; simp at hj
          | some p => simp
        · simpa [hij] using hj
      · rw [Array.toList_modify, hborn]; exact h3
      · intro e' he'
        rw [Array.toList_modify] at he'
        have : e'.born ∈ (es.toList.modify i fun e => { e with key := ek k, val := ev v }).map (·.born) := List.mem_map.2 ⟨e', he', rfl⟩
        rw [hborn] at this
        obtain ⟨e2, h5, h6⟩ := List.mem_map.1 this
        rw [← h6]; exact h4 e2 h5
theorem run_delete {W : World} {b : Nat} {m : List (K × V)} (hT : P.underlying T = some (.map Kt Et)) (KL : KeyLaw P Kt ek) (h : MapIs ek ev W b m) (hn : (m.map (·.1)).Nodup) (k : K) (ts : Array TypeId) (hts : ts[0]? = some T) (ty : TypeId) :
    ∃ o, (Builtin.delete_ ts ty #[.map (some b), ek k]).run P W = .ok (.tuple #[]) (setBlock W b o) ∧ MapIs ek ev (setBlock W b o) b (del k m) := by
  obtain ⟨es, clock, hb, h1, h2, h3, h4⟩ := h
  have hlt := lt_of_heap hb
  rcases find_look (W := W) KL h1 h2 k with ⟨hl, _, hf⟩ | ⟨i, u, hl, hp, hi, ⟨e, he, he1, he2⟩, hf⟩
  · refine ⟨.map es clock, ?_, ?_⟩
    · simp [Builtin.delete_, hts, Sem.run_bind, run_under hT, Result.andThen, run_getObj hb, KL.check, hf, Sem.run, run_setObj hb]
    · rw [del_none hl]
      exact ⟨es, clock, setBlock_at W b _ hlt, h1, h2, h3, h4⟩
  · refine ⟨.map (es.eraseIdxIfInBounds i) clock, ?_, ?_⟩
    · simp [Builtin.delete_, hts, Sem.run_bind, run_under hT, Result.andThen, run_getObj hb, KL.check, hf, Sem.run, run_setObj hb]
    · have e1 : (es.eraseIdxIfInBounds i).toList = es.toList.eraseIdx i := by simp
      rw [← eraseIdx_del hn hp]
      refine ⟨_, _, setBlock_at W b _ hlt, ?_, ?_, ?_, ?_⟩
      · rw [e1, ChangeMaps.map_eraseIdx, h1, ChangeMaps.map_eraseIdx]
      · rw [e1, ChangeMaps.map_eraseIdx, h2, ChangeMaps.map_eraseIdx]
      · rw [e1, ChangeMaps.map_eraseIdx]
        exact h3.sublist (List.eraseIdx_sublist _ _)
      · intro e' he'
        rw [e1] at he'
        exact h4 e' (List.mem_of_mem_eraseIdx he')
end
/-! ### Keys of type int -/
theorem findNow_int (kd : IntKind) (k : Int) : ∀ (es : List MapEntry) (ks : List Int) (i : Nat), es.map (·.key) = ks.map (Value.int kd) →
    Instr.findNow (.int kd) (.int kd k) es i = some ((pos k ks i).bind fun j => (es[j - i]?).map fun e => (j, e.val))
  | [], [], i, _ => by simp [Instr.findNow, pos]
  | [], _ :: _, _, h => by simp at h
  | _ :: _, [], _, h => by simp at h
  | e :: es, x :: ks, i, h => by
    simp only [List.map_cons, List.cons.injEq] at h
    obtain ⟨h1, h2⟩ := h
    unfold Instr.findNow pos
    rw [h1]
    simp only [Instr.sameNow, if_true]
    by_cases hk : k = x
    · simp [hk]
    · have hb : (k == x) = false := by simpa using hk
      rw [hb, if_neg hk]
      simp only []
      rw [findNow_int kd k es ks (i + 1) h2]
      cases hp : pos k ks (i + 1) with
      | none => rfl
      | some j =>
        have hj : i + 1 ≤ j := by
          rw [pos_add] at hp
          cases hq : pos k ks 0 with
          | none => simp [hq] at hp
          | some q => simp [hq] at hp; omega
        simp only [Option.bind_some]
        rw [show j - i = (j - (i + 1)) + 1 from by omega, List.getElem?_cons_succ]
theorem keyLaw_int {P : Program} {Kt : TypeId} {kd : IntKind} (hK : P.underlying Kt = some (.int kd)) : KeyLaw P Kt (Value.int kd) where
  check empty k W := by
    unfold Instr.checkKey
    simp [Sem.run_bind, run_under hK, Result.andThen, Sem.run]
  find k es ks W h := by
    have hf := findNow_int kd k es ks 0 h
    simp [Instr.findKey, Sem.run_bind, run_under hK, Result.andThen, hf, Sem.run]
  same k := by simp [Instr.sameBits]
end
section
open Go.RowKit
open Go.ChangeMaps (setBlock)
set_option linter.unusedSimpArgs false
set_option linter.unusedVariables false
section
variable {K V : Type} {P : Program} {Kt Et T : TypeId} {ek : K → Value} {ev : V → Value}
/-- The walk over map b by the iterator it: acc has come. -/
def Rng (ek : K → Value) (ev : V → Value) (W : World) (b it : Nat) (m acc : List (K × V)) : Prop :=
  ∃ (es : Array MapEntry) (clock : Nat) (done : List Nat), W.heap[b]? = some (.map es clock) ∧ es.toList.map (·.key) = m.map (fun p => ek p.1) ∧ es.toList.map (·.val) = m.map (fun p => ev p.2) ∧
    (es.toList.map (·.born)).Pairwise (· < ·) ∧ (∀ e ∈ es.toList, e.born < clock) ∧
    W.heap[it]? = some (.mapIter (some b) clock (done.map fun i => (es[i]?.map (·.born)).getD 0).toArray clock) ∧ done.Nodup ∧ (∀ i ∈ done, i < m.length) ∧ acc.map some = done.map (fun i => m[i]?)
theorem Rng.mapIs {W : World} {b it : Nat} {m acc : List (K × V)} (h : Rng ek ev W b it m acc) : MapIs ek ev W b m := by
  obtain ⟨es, clock, done, h1, h2, h3, h4, h5, _⟩ := h
  exact ⟨es, clock, h1, h2, h3, h4, h5⟩
theorem Rng.of_blocks {W W' : World} {b it : Nat} {m acc : List (K × V)} (h : Rng ek ev W b it m acc) (hb : W'.heap[b]? = W.heap[b]?) (hi : W'.heap[it]? = W.heap[it]?) : Rng ek ev W' b it m acc := by
  obtain ⟨es, clock, done, h1, h2, h3, h4, h5, h6, h7⟩ := h
  exact ⟨es, clock, done, hb.trans h1, h2, h3, h4, h5, hi.trans h6, h7⟩
theorem Rng.lt {W : World} {b it : Nat} {m acc : List (K × V)} (h : Rng ek ev W b it m acc) : b < W.heap.size ∧ it < W.heap.size ∧ b ≠ it := by
  obtain ⟨es, clock, done, h1, h2, h3, h4, h5, h6, h7⟩ := h
  exact ⟨lt_of_heap h1, lt_of_heap h6, fun e => by rw [e, h6] at h1; cases h1⟩
theorem Rng.keep {X : List Nat} {W W' : World} {b it : Nat} {m acc : List (K × V)} (h : Rng ek ev W b it m acc) (hk : Keep X W W') (h1 : b ∉ X) (h2 : it ∉ X) : Rng ek ev W' b it m acc :=
  h.of_blocks (hk.block b h.lt.1 h1) (hk.block it h.lt.2.1 h2)
theorem run_newObj (o : Obj) (W : World) : (newObj o).run P W = .ok W.heap.size (W.alloc o) := by
  simp [newObj, Sem.run]
theorem run_range {W : World} {b : Nat} {m : List (K × V)} (hT : P.underlying T = some (.map Kt Et)) (h : MapIs ek ev W b m) :
    ∃ o, (Instr.range T (.map (some b))).run P W = .ok (.pointer (some ⟨W.heap.size, 0, none⟩)) (W.alloc o) ∧ Rng ek ev (W.alloc o) b W.heap.size m [] := by
  have hb' := h.lt
  obtain ⟨es, clock, hb, h1, h2, h3, h4⟩ := h
  refine ⟨.mapIter (some b) clock #[] clock, ?_, es, clock, [], (Below.heap_alloc W _ b hb').trans hb, h1, h2, h3, h4, World.alloc_heap_new W _, List.nodup_nil, by simp, rfl⟩
  simp [Instr.range, Sem.run_bind, run_under hT, Result.andThen, run_getObj hb, Sem.run, run_newObj]
theorem run_range_nil (hT : P.underlying T = some (.map Kt Et)) (W : World) :
    (Instr.range T (.map none)).run P W = .ok (.pointer (some ⟨W.heap.size, 0, none⟩)) (W.alloc (.mapIter none 0 #[] 0)) := by
  simp [Instr.range, Sem.run_bind, run_under hT, Result.andThen, Sem.run, run_newObj]
theorem run_next_nil {W : World} {it : Nat} {a c : Nat} {s : Array Nat} (h : W.heap[it]? = some (.mapIter none a s c)) (ty : TypeId) :
    (Instr.next (.pointer (some ⟨it, 0, none⟩)) false ty).run P W = .ok (.tuple #[.bool false]) W := by
  simp [Instr.next, getObj, Sem.run_bind, Sem.run, h, Result.andThen]
theorem nodup_of_lt {l : List Nat} (h : l.Pairwise (· < ·)) : l.Nodup := h.imp (fun h e => by omega)
theorem perm_of_full {l : List Nat} {n : Nat} (hn : l.Nodup) (hl : ∀ i ∈ l, i < n) (hall : ∀ i, i < n → i ∈ l) : l.Perm (List.range n) := by
  exact (List.perm_ext_iff_of_nodup hn List.nodup_range).2 (fun a => ⟨fun h => by simpa using hl a h, fun h => hall a (by simpa using h)⟩)
theorem nodup_le : ∀ (n : Nat) (l : List Nat), l.Nodup → (∀ i ∈ l, i < n) → l.length ≤ n
  | 0, l, _, h => by
    cases l with
    | nil => simp
    | cons x r => exact absurd (h x (.head _)) (by omega)
  | n + 1, l, hn, h => by
    have h1 := nodup_le n (l.erase n) (hn.erase n) (fun i hi => by
      have h2 := h i (List.mem_of_mem_erase hi)
      have h3 : i ≠ n := fun e => by subst e; exact (hn.mem_erase_iff.1 hi).1 rfl
      omega)
    by_cases hm : n ∈ l
    · rw [List.length_erase_of_mem hm] at h1; omega
    · rw [List.erase_of_not_mem hm] at h1; omega
theorem Rng.next {W : World} {b it : Nat} {m acc : List (K × V)} (h : Rng ek ev W b it m acc) (ty : TypeId) :
    (acc.Perm m ∧ (Instr.next (.pointer (some ⟨it, 0, none⟩)) false ty).run P W = .ok (.tuple #[.bool false]) W) ∨
    ∃ (p : K × V) (W1 : World) (o : Obj), p ∈ m ∧ acc.length < m.length ∧ (W1 = W ∨ W1 = W.drew) ∧
      (Instr.next (.pointer (some ⟨it, 0, none⟩)) false ty).run P W = .ok (.tuple #[.bool true, ek p.1, ev p.2]) (setBlock W1 it o) ∧
      Rng ek ev (setBlock W1 it o) b it m (acc ++ [p]) ∧ (Instr.entry (.pointer (some ⟨it, 0, none⟩))).run P (setBlock W1 it o) = .ok (.tuple #[ek p.1, ev p.2]) (setBlock W1 it o) := by
  have hlt := h.lt
  obtain ⟨es, clock, done, hb, h1, h2, h3, h4, hit, hn, hd, hacc⟩ := h
  have hlen : es.size = m.length := by have := congrArg List.length h1; simpa using this
  have hnb := nodup_of_lt h3
  have hinj : ∀ i j, i < es.size → j < es.size → es[i]?.map (·.born) = es[j]?.map (·.born) → i = j := by
    intro i j hi hj he
    have e1 : (es.toList.map (·.born))[i]? = (es.toList.map (·.born))[j]? := by simpa [List.getElem?_map, Array.getElem?_toList] using he
    exact (List.getElem?_inj (by simpa using hi) hnb).1 e1
  have hmemb : ∀ i, i < es.size → ((done.map fun i => (es[i]?.map (·.born)).getD 0).toArray.contains es[i]!.born = true ↔ i ∈ done) := by
    intro i hi
    have hgi : es[i]! = es[i] := getElem!_pos es i hi
    rw [hgi]
    simp only [List.contains_toArray, List.contains_iff_mem, List.mem_map]
    constructor
    · rintro ⟨j, hj, he⟩
      have hj' : j < es.size := by rw [hlen]; exact hd j hj
      have := hinj j i hj' hi (by rw [Array.getElem?_eq_getElem hj', Array.getElem?_eq_getElem hi] at *; simpa using he)
      exact this ▸ hj
    · intro hi'
      exact ⟨i, hi', by rw [Array.getElem?_eq_getElem hi]; rfl⟩
  rcases run_next_at (P := P) W ty it b clock clock _ es clock hit hb (fun x hx => h4 x hx) (Nat.le_refl _) with ⟨h0, hrun⟩ | ⟨e, he, W1, hW1, hrun⟩
  · left
    refine ⟨?_, hrun⟩
    have hall : ∀ i, i < m.length → i ∈ done := by
      intro i hi
      have hi' : i < es.size := by omega
      have hnot : es[i] ∉ (leftOf es (done.map fun i => (es[i]?.map (·.born)).getD 0).toArray) := by
        have := Array.eq_empty_of_size_eq_zero h0
        rw [this]; simp
      have hc : (done.map fun i => (es[i]?.map (·.born)).getD 0).toArray.contains es[i].born = true := by
        cases hcc : (done.map fun i => (es[i]?.map (·.born)).getD 0).toArray.contains es[i].born with
        | true => rfl
        | false =>
          exfalso
          apply hnot
          unfold leftOf
          rw [Array.mem_filter]
          exact ⟨Array.getElem_mem hi', by rw [hcc]; rfl⟩
      have hgi : es[i]! = es[i] := getElem!_pos es i hi'
      exact (hmemb i hi').1 (by rw [hgi]; exact hc)
    have hperm := perm_of_full hn hd hall
    have hp2 : (done.map fun i => m[i]?).Perm ((List.range m.length).map fun i => m[i]?) := hperm.map _
    have hp3 : (List.range m.length).map (fun i => m[i]?) = m.map some := by
      apply List.ext_getElem?
      intro j
      simp only [List.getElem?_map]
      by_cases hj : j < m.length
      · simp [hj]
      · simp [hj]
    rw [hp3, ← hacc] at hp2
    have := hp2.filterMap id
    simpa [List.filterMap_map] using this
  · right
    have hemem : e ∈ es.toList ∧ (done.map fun i => (es[i]?.map (·.born)).getD 0).toArray.contains e.born = false := by
      have he' : e ∈ leftOf es (done.map fun i => (es[i]?.map (·.born)).getD 0).toArray := by simpa using he
      unfold leftOf at he'
      rw [Array.mem_filter] at he'
      exact ⟨by simpa using he'.1, by simpa using he'.2⟩
    obtain ⟨i, hi, hie⟩ := List.getElem_of_mem hemem.1
    have hi' : i < es.size := by simpa using hi
    have hie' : es[i] = e := by simpa using hie
    have him : i < m.length := by omega
    have hgi : es[i]! = es[i] := getElem!_pos es i hi'
    have hnd : i ∉ done := fun h => by
      have := (hmemb i hi').2 h
      rw [hgi, hie', hemem.2] at this
      cases this
    have hkey : e.key = ek m[i].1 := by
      have := congrArg (fun l : List Value => l[i]?) h1
      simp only [List.getElem?_map, Array.getElem?_toList, Array.getElem?_eq_getElem hi', List.getElem?_eq_getElem him, Option.map_some, Option.some.injEq] at this
      rw [← hie']; exact this
    have hval : e.val = ev m[i].2 := by
      have := congrArg (fun l : List Value => l[i]?) h2
      simp only [List.getElem?_map, Array.getElem?_toList, Array.getElem?_eq_getElem hi', List.getElem?_eq_getElem him, Option.map_some, Option.some.injEq] at this
      rw [← hie']; exact this
    have hW1h : W1.heap = W.heap := by rcases hW1 with rfl | rfl <;> rfl
    have hpush : ((done.map fun i => (es[i]?.map (·.born)).getD 0).toArray.push e.born) = ((done ++ [i]).map fun i => (es[i]?.map (·.born)).getD 0).toArray := by
      simp [Array.getElem?_eq_getElem hi', hie']
    have hblen : acc.length = done.length := by simpa using congrArg List.length hacc
    have hlen2 : done.length < m.length := by
      have h5 : (i :: done).Nodup := List.nodup_cons.2 ⟨hnd, hn⟩
      have := nodup_le m.length (i :: done) h5 (fun x hx => by
        rcases List.mem_cons.1 hx with rfl | hx
        · exact him
        · exact hd x hx)
      simp at this
      omega
    rw [hkey, hval] at hrun
    refine ⟨m[i], W1, _, List.getElem_mem him, by omega, hW1, hrun, ?_, ?_⟩
    · refine ⟨es, clock, done ++ [i], ?_, h1, h2, h3, h4, ?_, ?_, ?_, ?_⟩
      · rw [setBlock_ne _ _ _ _ (Ne.symm hlt.2.2), hW1h]; exact hb
      · rw [setBlock_at _ _ _ (by rw [hW1h]; exact hlt.2.1), hpush]
      · rw [List.nodup_append]
        exact ⟨hn, by simp, fun a ha c hc => by simp at hc; subst hc; exact fun e => hnd (e ▸ ha)⟩
      · intro j hj
        rcases List.mem_append.1 hj with hj | hj
        · exact hd j hj
        · simp at hj; subst hj; exact him
      · rw [List.map_append, List.map_append, hacc]; simp [List.getElem?_eq_getElem him]
    · have := run_entry_at (P := P) (setBlock W1 it (.mapIter (some b) clock ((done.map fun i => (es[i]?.map (·.born)).getD 0).toArray.push e.born) clock)) it b clock _ es clock e
        (setBlock_at _ _ _ (by rw [hW1h]; exact hlt.2.1)) (by rw [setBlock_ne _ _ _ _ (Ne.symm hlt.2.2), hW1h]; exact hb) hemem.1 hnb
      rw [hkey, hval] at this
      exact this
end
end
section
open Go.RowKit
set_option linter.unusedSimpArgs false
set_option linter.unusedVariables false

/-- A table: what it holds, and how its owners lie. -/
structure Tb where
  ep : Int
  nodes : Int
  oa : Option Addr
  oc : Nat
  owner : List Int
/-- A slice of ints that is read: its cells. -/
def IntsAt (W : World) (a : Option Addr) (l : List Int) : Prop :=
  l ≠ [] → ∃ b off, a = some ⟨b, off, none⟩ ∧ b < W.heap.size ∧ ∀ j, j < l.length → W.cell? ⟨b, off + j, none⟩ = some (.int .i64 (l[j]?.getD 0))
theorem IntsAt.below {W W' : World} {a : Option Addr} {l : List Int} (h : IntsAt W a l) (hb : Below W.heap.size W W') : IntsAt W' a l := by
  intro hl
  obtain ⟨b, off, h1, h2, h3⟩ := h hl
  exact ⟨b, off, h1, Nat.lt_of_lt_of_le h2 hb.size, fun j hj => (hb.cell (p := ⟨b, off + j, none⟩) h2).trans (h3 j hj)⟩
theorem IntsAt.alloc {W : World} {a : Option Addr} {l : List Int} (h : IntsAt W a l) (o : Obj) : IntsAt (W.alloc o) a l := h.below ((Below.refl _ W).alloc (Nat.le_refl _) o)
def Tb.val (t : Tb) : Value := .agg #[.int .i64 t.ep, .int .i64 t.nodes, .slice t.oa t.owner.length t.oc]
def outN (nodes n : Int) : Bool := !(decide (0 ≤ n) && decide (n < nodes))
def Tb.right (t : Tb) : Bool := decide (1 ≤ t.ep) && decide (1 ≤ t.nodes) && decide (t.nodes ≤ 4) && decide (1 ≤ t.owner.length) && decide (t.owner.length ≤ 8) && !(t.owner.any (outN t.nodes))
def Tb.may (t : Tb) (part to : Int) : Int :=
  if t.right = false ∨ 2147483647 ≤ t.ep then 1
  else if part < 0 ∨ (t.owner.length : Int) ≤ part then 21
  else if to < 0 ∨ t.nodes ≤ to then 22
  else if t.owner[part.toNat]?.getD 0 = to then 23
  else 0

theorem right1_any (n nodes : Int) (b : Nat) (w : World) (h : w.cell? ⟨b, 1, none⟩ = some (.int .i64 nodes)) :
    Calls Tryz.prog 42 #[.int .i64 n, .pointer (some ⟨b, 0, none⟩)] w fun e w' => e = .returned (.bool (outN nodes n)) ∧ w = w' := by
  by_cases h0 : n < 0
  · go_enter Tryz.func42, Tryz.ntmps42
    go_wp2
    go_ret
    go_light
    exact ⟨by simp [outN]; omega, rfl⟩
  · by_cases h1 : nodes ≤ n
    · go_enter Tryz.func42, Tryz.ntmps42
      go_wp2
      go_ret
      go_light
      exact ⟨by simp [outN]; omega, rfl⟩
    · go_enter Tryz.func42, Tryz.ntmps42
      go_wp2
      go_ret
      go_light
      exact ⟨by simp [outN]; omega, rfl⟩
set_option maxHeartbeats 1000000 in
theorem indexFunc_any (l : List Int) (a : Option Addr) (c : Nat) (nodes : Int) (b : Nat) (w : World) (hl : l.length ≤ 1000) (hI : IntsAt w a l) (h : w.cell? ⟨b, 1, none⟩ = some (.int .i64 nodes)) :
    Calls Tryz.prog 53 #[.slice a l.length c, .func (.func 42) #[] #[.pointer (some ⟨b, 0, none⟩)]] w fun e w' =>
      (∃ r : Int, e = .returned (.int .i64 r) ∧ (decide (0 ≤ r) = l.any (outN nodes))) ∧ w = w' := by
  go_enter Tryz.func53, Tryz.ntmps53
  go_wp2_with (fail)
  go_loop [8] (fun i => ∃ k : Nat, k ≤ l.length ∧ i = .int .i64 k ∧ (l.take k).any (outN nodes) = false) (fun i => l.length - (intOf i).toNat)
  case atStart => exact ⟨0, Nat.zero_le _, rfl, rfl⟩
  case round =>
    obtain ⟨k, hk, rfl, hany⟩ := hrel
    by_cases hlt : k < l.length
    · obtain ⟨b', off, rfl, hb', hcell⟩ := hI (by intro e; rw [e] at hlt; simp at hlt)
      have hck := hcell k hlt
      have ht : l.take (k + 1) = l.take k ++ [l[k]?.getD 0] := by
        rw [List.take_add_one, List.getElem?_eq_getElem hlt]; rfl
      have hany' : (l.take (k + 1)).any (outN nodes) = outN nodes (l[k]?.getD 0) := by rw [ht, List.any_append, hany]; simp
      have hmem : outN nodes (l[k]?.getD 0) = true → l.any (outN nodes) = true := by
        intro h1
        rw [List.any_eq_true]
        refine ⟨l[k], List.getElem_mem hlt, ?_⟩
        rwa [List.getElem?_eq_getElem hlt] at h1
      obtain ⟨x, hx⟩ : ∃ x, l[k]?.getD 0 = x := ⟨_, rfl⟩
      rw [hx] at hck hany' hmem
      have HA := Lib.hid hany'
      have HM := Lib.hid hmem
      clear hany' hmem ht hcell hI hany hx
      cases hout : outN nodes x with
      | true =>
        go_wp2_with (go_at_call 42; refine (right1_any _ nodes _ _ h).mono ?_; rintro e w' ⟨rfl, rfl⟩)
        go_ret
        exact ⟨⟨_, rfl, by rw [HM.out hout]; simp⟩, rfl⟩
      | false =>
        go_wp2_with (go_at_call 42; refine (right1_any _ nodes _ _ h).mono ?_; rintro e w' ⟨rfl, rfl⟩)
        go_round
        case rel => exact ⟨k + 1, by omega, by go_num, by rw [HA.out]; exact hout⟩
        case measure => go_light; simp [intOf]; omega
    · obtain rfl : k = l.length := by omega
      rw [List.take_length] at hany
      have HA := Lib.hid hany
      clear hany
      go_wp2_with (fail)
      go_ret
      exact ⟨⟨_, rfl, by rw [HA.out]; rfl⟩, rfl⟩
theorem containsFunc_any (l : List Int) (a : Option Addr) (c : Nat) (nodes : Int) (b : Nat) (w : World) (hl : l.length ≤ 1000) (hI : IntsAt w a l) (h : w.cell? ⟨b, 1, none⟩ = some (.int .i64 nodes)) :
    Calls Tryz.prog 41 #[.slice a l.length c, .func (.func 42) #[] #[.pointer (some ⟨b, 0, none⟩)]] w fun e w' =>
      e = .returned (.bool (l.any (outN nodes))) ∧ w = w' := by
  go_enter Tryz.func41, Tryz.ntmps41
  go_wp2_with (go_at_call 53; refine (indexFunc_any l a c nodes b _ hl hI h).mono ?_; rintro e w' ⟨⟨r, rfl, hr⟩, rfl⟩; have HR := Lib.hid hr; clear hr)
  go_ret
  exact ⟨by rw [← HR.out]; rfl, rfl⟩
set_option maxHeartbeats 1000000 in
theorem tright_any (t : Tb) (w : World) (hI : IntsAt w t.oa t.owner) :
    Calls Tryz.prog 26 #[t.val] w fun e w' => e = .returned (.bool t.right) ∧ Below w.heap.size w w' := by
  obtain ⟨ep, nodes, oa, oc, l⟩ := t
  simp only [Tb.val] at *
  by_cases h1 : 1 ≤ ep ∧ 1 ≤ nodes ∧ nodes ≤ 4 ∧ 1 ≤ l.length ∧ l.length ≤ 8
  · obtain ⟨a1, a2, a3, a4, a5⟩ := h1
    have fin : Tb.right ⟨ep, nodes, oa, oc, l⟩ = !(l.any (outN nodes)) := by simp [Tb.right, a1, a2, a3, a4, a5]
    have HF := Lib.hid fin
    have HI := Lib.hid hI
    clear fin hI
    have a4' : (1 : Int) ≤ l.length := by omega
    have a5' : (l.length : Int) ≤ 8 := by omega
    go_enter Tryz.func26, Tryz.ntmps26
    go_wp2_with (go_at_call 41; refine (containsFunc_any l oa oc nodes w.heap.size _ (by omega) (HI.out.alloc _) (by go_simp)).mono ?_; rintro e w' ⟨rfl, rfl⟩)
    go_ret
    exact ⟨by rw [HF.out]; rfl, (Below.refl _ _).alloc (Nat.le_refl _) _⟩
  · have fin : Tb.right ⟨ep, nodes, oa, oc, l⟩ = false := by simp [Tb.right]; omega
    have HF := Lib.hid fin
    clear fin hI
    have h2 : ¬ 1 ≤ ep ∨ 1 ≤ ep ∧ ¬ 1 ≤ nodes ∨ (1 ≤ ep ∧ 1 ≤ nodes) ∧ ¬ nodes ≤ 4 ∨ (1 ≤ ep ∧ 1 ≤ nodes ∧ nodes ≤ 4) ∧ ¬ (1 : Int) ≤ l.length ∨ (1 ≤ ep ∧ 1 ≤ nodes ∧ nodes ≤ 4 ∧ (1 : Int) ≤ l.length) ∧ ¬ (l.length : Int) ≤ 8 := by omega
    clear h1
    rcases h2 with h | ⟨h0, h⟩ | ⟨⟨h0, h1⟩, h⟩ | ⟨⟨h0, h1, h2⟩, h⟩ | ⟨⟨h0, h1, h2, h3⟩, h⟩
    all_goals
      go_enter Tryz.func26, Tryz.ntmps26
      go_wp2_with (fail)
      go_ret
      exact ⟨by rw [HF.out]; rfl, (Below.refl _ _).alloc (Nat.le_refl _) _⟩
end
section
open Go.RowKit
set_option linter.unusedSimpArgs false
set_option linter.unusedVariables false
set_option maxHeartbeats 2000000 in
theorem may_any (t : Tb) (part to : Int) (w : World) (hI : IntsAt w t.oa t.owner) :
    Calls Tryz.prog 44 #[t.val, .int .i64 part, .int .i64 to] w fun e w' => e = .returned (.int .i64 (t.may part to)) ∧ Below w.heap.size w w' := by
  have hright : ∀ W, Below w.heap.size w W → W.heap.size = w.heap.size + 1 → Calls Tryz.prog 26 #[t.val] W fun e w' => e = .returned (.bool t.right) ∧ Below w.heap.size w w' ∧ w'.heap[w.heap.size]? = W.heap[w.heap.size]? := by
    intro W hB hs
    refine (tright_any t W (hI.below hB)).mono ?_
    rintro e w' ⟨he, hB'⟩
    exact ⟨he, hB.trans (hB'.mono (by omega)), hB'.block _ (by omega)⟩
  have hlen : 1 ≤ t.owner.length ∨ t.right = false := by
    by_cases h : 1 ≤ t.owner.length
    · exact .inl h
    · right; simp [Tb.right]; omega
  have hlen8 : t.owner.length ≤ 8 ∨ t.right = false := by
    by_cases h : t.owner.length ≤ 8
    · exact .inl h
    · right; simp [Tb.right]; omega
  obtain ⟨m, hm⟩ : ∃ m, t.may part to = m := ⟨_, rfl⟩
  have hm' := hm
  unfold Tb.may at hm'
  obtain ⟨r, hr⟩ : ∃ r, t.right = r := ⟨_, rfl⟩
  rw [hr] at hright hlen hlen8 hm'
  rw [hm]
  obtain ⟨ep, nodes, oa, oc, l⟩ := t
  simp only [Tb.val] at *
  clear hr hm
  have hB1 : Below w.heap.size w (w.alloc (.cells #[.int .i64 ep, .int .i64 nodes, .slice oa l.length oc] 24)) := (Below.refl _ w).alloc (Nat.le_refl _) _
  have hright' := hright _ hB1 (by simp)
  have HR := Lib.hid hright'
  clear hright hright'
  have hcell : ∀ (w' : World), w'.heap[w.heap.size]? = (w.alloc (.cells #[.int .i64 ep, .int .i64 nodes, .slice oa l.length oc] 24)).heap[w.heap.size]? →
      w'.cell? ⟨w.heap.size, 0, none⟩ = some (.int .i64 ep) ∧ w'.cell? ⟨w.heap.size, 1, none⟩ = some (.int .i64 nodes) ∧ w'.cell? ⟨w.heap.size, 2, none⟩ = some (.slice oa l.length oc) := by
    intro w' h
    refine ⟨(World.cell?_of_block (w := w.alloc _) h).trans (by go_simp), (World.cell?_of_block (w := w.alloc _) h).trans (by go_simp), (World.cell?_of_block (w := w.alloc _) h).trans (by go_simp)⟩
  have HC := Lib.hid hcell
  clear hcell hB1
  cases r with
  | false =>
    have HM := Lib.hid hm'
    clear hm' hlen hlen8 hI
    go_enter Tryz.func44, Tryz.ntmps44
    go_wp2_with (go_at_call 26; refine HR.out.mono ?_; rintro e w' ⟨rfl, hB, hk⟩; obtain ⟨k0, k1, k2⟩ := HC.out w' hk)
    go_ret
    exact ⟨by have := HM.out; simp at this; rw [← this]; rfl, hB⟩
  | true =>
    have hl1 : 1 ≤ l.length := by rcases hlen with h | h; exact h; cases h
    have hl8 : (l.length : Int) ≤ 8 := by rcases hlen8 with h | h; omega; cases h
    obtain ⟨b, off, rfl, hbl, hcl⟩ := hI (by intro e; rw [e] at hl1; simp at hl1)
    clear hlen hlen8
    by_cases hep : 2147483647 ≤ ep
    · have HM := Lib.hid hm'
      clear hm' hcl
      go_enter Tryz.func44, Tryz.ntmps44
      go_wp2_with (go_at_call 26; refine HR.out.mono ?_; rintro e w' ⟨rfl, hB, hk⟩; obtain ⟨k0, k1, k2⟩ := HC.out w' hk)
      go_ret
      exact ⟨by have := HM.out; rw [if_pos (.inr hep)] at this; rw [← this]; rfl, hB⟩
    · rw [if_neg (by simp [hep])] at hm'
      by_cases hp : part < 0 ∨ (l.length : Int) ≤ part
      · rw [if_pos hp] at hm'
        have HM := Lib.hid hm'
        clear hm' hcl
        rcases hp with hp | hp
        · go_enter Tryz.func44, Tryz.ntmps44
          go_wp2_with (go_at_call 26; refine HR.out.mono ?_; rintro e w' ⟨rfl, hB, hk⟩; obtain ⟨k0, k1, k2⟩ := HC.out w' hk)
          go_ret
          exact ⟨by rw [← HM.out]; rfl, hB⟩
        · have hp0 : ¬ part < 0 := by omega
          go_enter Tryz.func44, Tryz.ntmps44
          go_wp2_with (go_at_call 26; refine HR.out.mono ?_; rintro e w' ⟨rfl, hB, hk⟩; obtain ⟨k0, k1, k2⟩ := HC.out w' hk)
          go_ret
          exact ⟨by rw [← HM.out]; rfl, hB⟩
      · rw [if_neg hp] at hm'
        have hp0 : ¬ part < 0 := by omega
        have hp1 : ¬ (l.length : Int) ≤ part := by omega
        obtain ⟨k, rfl⟩ := Int.eq_ofNat_of_zero_le (show 0 ≤ part by omega)
        have hkl : k < l.length := by omega
        rw [Int.toNat_natCast] at hm'
        have hck := hcl k hkl
        obtain ⟨x, hx⟩ : ∃ x, l[k]?.getD 0 = x := ⟨_, rfl⟩
        rw [hx] at hck hm'
        clear hcl hx hp
        by_cases ht : to < 0 ∨ nodes ≤ to
        · rw [if_pos ht] at hm'
          have HM := Lib.hid hm'
          clear hm'
          rcases ht with ht | ht
          · go_enter Tryz.func44, Tryz.ntmps44
            go_wp2_with (go_at_call 26; refine HR.out.mono ?_; rintro e w' ⟨rfl, hB, hk⟩; obtain ⟨k0, k1, k2⟩ := HC.out w' hk)
            go_ret
            exact ⟨by rw [← HM.out]; rfl, hB⟩
          · by_cases ht0 : to < 0
            all_goals
              go_enter Tryz.func44, Tryz.ntmps44
              go_wp2_with (go_at_call 26; refine HR.out.mono ?_; rintro e w' ⟨rfl, hB, hk⟩; obtain ⟨k0, k1, k2⟩ := HC.out w' hk)
              go_ret
              exact ⟨by rw [← HM.out]; rfl, hB⟩
        · rw [if_neg ht] at hm'
          have ht0 : ¬ to < 0 := by omega
          have ht1 : ¬ nodes ≤ to := by omega
          clear ht
          by_cases hxt : x = to
          · rw [if_pos hxt] at hm'
            have HM := Lib.hid hm'
            have e1 : (x == to) = true := by simpa using hxt
            clear hm' hxt
            go_enter Tryz.func44, Tryz.ntmps44
            go_wp2_with (go_at_call 26; refine HR.out.mono ?_; rintro e w' ⟨rfl, hB, hk⟩; obtain ⟨k0, k1, k2⟩ := HC.out w' hk; have hck' := (hB.cell (p := ⟨b, off + k, none⟩) hbl).trans hck)
            go_ret
            exact ⟨by rw [← HM.out]; rfl, hB⟩
          · rw [if_neg hxt] at hm'
            have HM := Lib.hid hm'
            have e1 : (x == to) = false := by simpa using hxt
            clear hm' hxt
            go_enter Tryz.func44, Tryz.ntmps44
            go_wp2_with (go_at_call 26; refine HR.out.mono ?_; rintro e w' ⟨rfl, hB, hk⟩; obtain ⟨k0, k1, k2⟩ := HC.out w' hk; have hck' := (hB.cell (p := ⟨b, off + k, none⟩) hbl).trans hck)
            go_ret
            exact ⟨by rw [← HM.out]; rfl, hB⟩
end
section
open Go.RowKit
open Go.ChangeMaps (setBlock)
set_option linter.unusedSimpArgs false
set_option linter.unusedVariables false
/-- A move under way. -/
structure En where
  mv : Int
  part : Int
  fr : Int
  to : Int
  deriving DecidableEq
def En.val (x : En) : Value := .agg #[.int .i64 x.mv, .int .i64 x.part, .int .i64 x.fr, .int .i64 x.to]
def En.zero : En := ⟨0, 0, 0, 0⟩
abbrev ekI : Int → Value := Value.int .i64
/-- A map that may be nil. -/
def MapO {K V : Type} (ek : K → Value) (ev : V → Value) (W : World) (om : Option Nat) (m : List (K × V)) : Prop :=
  match om with
  | none => m = []
  | some b => MapIs ek ev W b m
theorem MapO.of {K V : Type} {ek : K → Value} {ev : V → Value} {W W' : World} {om : Option Nat} {m : List (K × V)} (h : MapO ek ev W om m) (hb : ∀ b, om = some b → W'.heap[b]? = W.heap[b]?) : MapO ek ev W' om m := by
  cases om with
  | none => exact h
  | some b => exact MapIs.of_block h (hb b rfl)
theorem MapO.lt {K V : Type} {ek : K → Value} {ev : V → Value} {W : World} {om : Option Nat} {m : List (K × V)} (h : MapO ek ev W om m) {b : Nat} (hb : om = some b) : b < W.heap.size := by
  subst hb; exact MapIs.lt h
theorem MapO.alloc {K V : Type} {ek : K → Value} {ev : V → Value} {W : World} {om : Option Nat} {m : List (K × V)} (h : MapO ek ev W om m) (o : Obj) : MapO ek ev (W.alloc o) om m :=
  h.of fun b hb => Below.heap_alloc W o b (h.lt hb)
theorem run_lookupO {K V : Type} {P : Program} {Kt Et T : TypeId} {ek : K → Value} {ev : V → Value} [DecidableEq K] {W : World} {om : Option Nat} {m : List (K × V)} (hT : P.underlying T = some (.map Kt Et)) (KL : KeyLaw P Kt ek) {z : Value} (hz : ∀ W, (zeroValue Et).run P W = .ok z W) (h : MapO ek ev W om m) (k : K) :
    (Instr.lookup T (.map om) (ek k) true).run P W = .ok (.tuple #[lookV ev z (look k m), .bool (look k m).isSome]) W ∧ (Instr.lookup T (.map om) (ek k) false).run P W = .ok (lookV ev z (look k m)) W := by
  cases om with
  | none =>
    have h' : m = [] := h
    subst h'
    exact run_lookup_nil hT KL hz k W
  | some b => exact run_lookup hT KL hz h k

/-- A book in memory: its block, its map, the last number. -/
structure BookAt (W : World) (p : Nat) (om : Option Nat) (m : List (Int × En)) (last : Int) : Prop where
  blk : W.heap[p]? = some (.cells #[.map om, .int .i64 last] 101 (0, 0))
  map : MapO ekI En.val W om m
theorem BookAt.ne {W : World} {p : Nat} {om : Option Nat} {m : List (Int × En)} {last : Int} (h : BookAt W p om m last) : om ≠ some p := by
  rintro rfl
  obtain ⟨es, clock, h1, _⟩ := h.map
  rw [h.blk] at h1
  cases h1
/-- The blocks of a book. -/
def foot (p : Nat) (om : Option Nat) : List Nat := p :: om.toList
theorem BookAt.keep {X : List Nat} {W W' : World} {p : Nat} {om : Option Nat} {m : List (Int × En)} {last : Int} (h : BookAt W p om m last) (hk : Keep X W W') (hx : ∀ b ∈ foot p om, b ∉ X) : BookAt W' p om m last :=
  ⟨(hk.block p (lt_of_heap h.blk) (hx p (.head _))).trans h.blk, h.map.of fun b hb => hk.block b (h.map.lt hb) (hx b (by subst hb; simp [foot]))⟩
theorem BookAt.below {W W' : World} {p : Nat} {om : Option Nat} {m : List (Int × En)} {last : Int} (h : BookAt W p om m last) (hk : Below W.heap.size W W') : BookAt W' p om m last :=
  h.keep (Keep.of_below hk []) (fun _ _ h => by cases h)
theorem BookAt.alloc {W : World} {p : Nat} {om : Option Nat} {m : List (Int × En)} {last : Int} (h : BookAt W p om m last) (o : Obj) : BookAt (W.alloc o) p om m last :=
  h.below ((Below.refl _ W).alloc (Nat.le_refl _) o)
theorem BookAt.cells {W : World} {p : Nat} {om : Option Nat} {m : List (Int × En)} {last : Int} (h : BookAt W p om m last) :
    W.cell? ⟨p, 0, none⟩ = some (.map om) ∧ W.cell? ⟨p, 1, none⟩ = some (.int .i64 last) ∧ (∀ o, W.frozen? ⟨p, o, none⟩ = false) ∧ p < W.heap.size := by
  refine ⟨?_, ?_, fun o => ?_, lt_of_heap h.blk⟩
  · unfold World.cell?; rw [h.blk]; rfl
  · unfold World.cell?; rw [h.blk]; rfl
  · unfold World.frozen?; rw [h.blk]; simp

theorem zeroEn (W : World) : (zeroValue 78).run Tryz.prog W = .ok (En.val En.zero) W := by kernel_rfl
theorem lookEn {W : World} {om : Option Nat} {m : List (Int × En)} (h : MapO ekI En.val W om m) (k : Int) :
    (Instr.lookup 99 (.map om) (.int .i64 k) true).run Tryz.prog W = .ok (.tuple #[((look k m).getD En.zero).val, .bool (look k m).isSome]) W := by
  have := (run_lookupO Tryz.underlying99 (keyLaw_int Tryz.underlying3) zeroEn h k).1
  rw [show ((look k m).getD En.zero).val = lookV En.val (En.val En.zero) (look k m) from by cases look k m <;> rfl]
  exact this

theorem new_any (w : World) : Calls Tryz.prog 28 #[] w fun e w' => e = .returned (.pointer (some ⟨w.heap.size, 0, none⟩)) ∧ w.alloc (.cells #[.map none, .int .i64 0] 101) = w' := by
  go_enter Tryz.func28, Tryz.ntmps28
  go_wp2
  go_ret
  exact ⟨rfl, rfl⟩
theorem book_new (w : World) : BookAt (w.alloc (.cells #[.map none, .int .i64 0] 101)) w.heap.size none [] 0 := ⟨World.alloc_heap_new w _, rfl⟩
theorem of_nil (k : Int) (w : World) : Calls Tryz.prog 31 #[.pointer none, .int .i64 k] w fun e w' => e = .returned (.tuple #[En.zero.val, .bool false]) ∧ Below w.heap.size w w' := by
  go_enter Tryz.func31, Tryz.ntmps31
  go_wp2
  exact bodyPost_ret (v := .tuple #[En.zero.val, .bool false]) (by simp [results, Tryz.results31, go_sem, En.val, En.zero]) rfl ⟨rfl, (Below.refl _ _).alloc (Nat.le_refl _) _⟩
set_option maxHeartbeats 1000000 in
theorem of_any {w : World} {p : Nat} {om : Option Nat} {m : List (Int × En)} {last : Int} (h : BookAt w p om m last) (k : Int) :
    Calls Tryz.prog 31 #[.pointer (some ⟨p, 0, none⟩), .int .i64 k] w fun e w' => e = .returned (.tuple #[((look k m).getD En.zero).val, .bool (look k m).isSome]) ∧ Below w.heap.size w w' := by
  obtain ⟨h0, h1, h2, h3⟩ := h.cells
  have hlk := fun o => lookEn (h.map.alloc (W := w) o) k
  obtain ⟨x, hx⟩ : ∃ x, (look k m).getD En.zero = x := ⟨_, rfl⟩
  obtain ⟨b, hb⟩ : ∃ b, (look k m).isSome = b := ⟨_, rfl⟩
  rw [hx, hb] at hlk ⊢
  obtain ⟨x1, x2, x3, x4⟩ := x
  simp only [En.val] at hlk ⊢
  clear h hx hb
  go_enter Tryz.func31, Tryz.ntmps31
  go_wp2
  exact bodyPost_ret (v := .tuple #[En.val ⟨x1, x2, x3, x4⟩, .bool b]) (by simp [results, Tryz.results31, go_sem, En.val]) rfl ⟨rfl, by repeat' (first | exact Below.refl _ _ | refine Below.alloc ?_ (by simp; try omega) _)⟩
end
end Go.Proofs.YteejdfpfdnkiiaaGreat
