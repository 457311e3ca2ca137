/- Maps as lists of pairs: what look-up, store, delete, len and a range over a map do. -/
import Derived.Test.YtdnfibecobodkaaGreatMem
namespace Go.Proofs.YtdnfibecobodkaaGreat
open Go.RowKit
open Go.ChangeMaps (setBlock)
set_option linter.unusedSimpArgs false
set_option linter.unusedVariables false
section
variable {K V : Type} {P : Program} {Kt Et T : TypeId} {ek : K → Value} {ev : V → Value}
/-- Block b is a map that holds the pairs of m, in the row in which they came. -/
def MapIs (ek : K → Value) (ev : V → Value) (W : World) (b : Nat) (m : List (K × V)) : Prop :=
  ∃ (es : Array MapEntry) (clock : Nat), W.heap[b]? = some (.map es clock) ∧ es.toList.map (·.key) = m.map (fun p => ek p.1) ∧ es.toList.map (·.val) = m.map (fun p => ev p.2) ∧
    (es.toList.map (·.born)).Pairwise (· < ·) ∧ ∀ e ∈ es.toList, e.born < clock
theorem MapIs.of_block {W W' : World} {b : Nat} {m : List (K × V)} (h : MapIs ek ev W b m) (hb : W'.heap[b]? = W.heap[b]?) : MapIs ek ev W' b m := by
  obtain ⟨es, clock, h1, h2⟩ := h
  exact ⟨es, clock, hb.trans h1, h2⟩
theorem MapIs.lt {W : World} {b : Nat} {m : List (K × V)} (h : MapIs ek ev W b m) : b < W.heap.size := by
  obtain ⟨es, clock, h1, _⟩ := h
  exact lt_of_heap h1
theorem MapIs.alloc {W : World} {b : Nat} {m : List (K × V)} (h : MapIs ek ev W b m) (o : Obj) : MapIs ek ev (W.alloc o) b m := h.of_block (Below.heap_alloc W o b h.lt)
theorem MapIs.keep {X : List Nat} {W W' : World} {b : Nat} {m : List (K × V)} (h : MapIs ek ev W b m) (hk : Keep X W W') (hx : b ∉ X) : MapIs ek ev W' b m := h.of_block (hk.block b h.lt hx)
theorem MapIs.below {W W' : World} {b : Nat} {m : List (K × V)} (h : MapIs ek ev W b m) (hk : Below W.heap.size W W') : MapIs ek ev W' b m := h.of_block (hk.block b h.lt)
theorem MapIs.new (W : World) : MapIs ek ev (W.alloc (.map #[] 0)) W.heap.size ([] : List (K × V)) := ⟨#[], 0, World.alloc_heap_new W _, by simp⟩
theorem mapIs_len {es : Array MapEntry} {m : List (K × V)} (h : es.toList.map (·.key) = m.map (fun p => ek p.1)) : es.size = m.length := by
  have := congrArg List.length h
  simpa using this
theorem run_getObj {W : World} {b : Nat} {es : Array MapEntry} {clock : Nat} (h : W.heap[b]? = some (.map es clock)) : (getObj b).run P W = .ok (.map es clock) W := by
  simp [getObj, Sem.run, h]
theorem run_setObj {W : World} {b : Nat} {es : Array MapEntry} {clock : Nat} (h : W.heap[b]? = some (.map es clock)) (o : Obj) : (setObj b o).run P W = .ok () (setBlock W b o) := by
  simp [setObj, Sem.run, h, setBlock]
theorem run_under {t : TypeId} {d : TypeDesc} (h : P.underlying t = some d) (W : World) : (underlying t).run P W = .ok d W := by
  simp [underlying, program, Sem.run_bind, Sem.run, Result.andThen, h]
theorem run_len {W : World} {b : Nat} {m : List (K × V)} (hT : P.underlying T = some (.map Kt Et)) (h : MapIs ek ev W b m) (ty : TypeId) :
    (Builtin.len_ #[T] ty #[.map (some b)]).run P W = .ok (.int .i64 m.length) W := by
  obtain ⟨es, clock, hb, h1, _⟩ := h
  simp [Builtin.len_, Sem.run_bind, run_under hT, Result.andThen, run_getObj hb, Sem.run, goInt, mapIs_len h1]
variable [DecidableEq K]
/-- What a key's type must do. -/
structure KeyLaw (P : Program) (Kt : TypeId) (ek : K → Value) : Prop where
  check : ∀ (empty : Bool) (k : K) (W : World), (Instr.checkKey empty 10000 Kt (ek k)).run P W = .ok () W
  find : ∀ (k : K) (es : List MapEntry) (ks : List K) (W : World), es.map (·.key) = ks.map ek →
    (Instr.findKey Kt (ek k) es).run P W = .ok ((pos k ks 0).bind fun i => (es[i]?).map fun e => (i, e.val)) W
  same : ∀ k : K, Instr.sameBits 10000 (ek k) (ek k) = true
/-- What 'find' gives, in the words of the list. -/
theorem find_look {W : World} {es : Array MapEntry} {m : List (K × V)} (KL : KeyLaw P Kt ek) (h1 : es.toList.map (·.key) = m.map (fun p => ek p.1)) (h2 : es.toList.map (·.val) = m.map (fun p => ev p.2)) (k : K) :
    (look k m = none ∧ pos k (m.map (·.1)) 0 = none ∧ (Instr.findKey Kt (ek k) es.toList).run P W = .ok none W) ∨
    (∃ i v, look k m = some v ∧ pos k (m.map (·.1)) 0 = some i ∧ i < es.size ∧ (∃ e, es[i]? = some e ∧ e.key = ek k ∧ e.val = ev v) ∧ (Instr.findKey Kt (ek k) es.toList).run P W = .ok (some (i, ev v)) W) := by
  have hf := KL.find k es.toList (m.map (·.1)) W (by rw [h1, List.map_map]; rfl)
  cases hp : pos k (m.map (·.1)) 0 with
  | none =>
    left
    refine ⟨pos_none.1 hp, rfl, ?_⟩
    rw [hf, hp]; rfl
  | some i =>
    right
    obtain ⟨v, hi, hl⟩ := pos_some hp
    have hlen := mapIs_len h1
    have hil : i < m.length := (List.getElem?_eq_some_iff.1 hi).1
    have hie : i < es.size := by omega
    have k1 : (es.toList.map (·.key))[i]? = some (ek k) := by rw [h1, List.getElem?_map, hi]; rfl
    have k2 : (es.toList.map (·.val))[i]? = some (ev v) := by rw [h2, List.getElem?_map, hi]; rfl
    have he : es[i]? = some es[i] := Array.getElem?_eq_getElem hie
    rw [List.getElem?_map, Array.getElem?_toList, he] at k1 k2
    refine ⟨i, v, hl, rfl, hie, ⟨es[i], he, by simpa using k1, by simpa using k2⟩, ?_⟩
    rw [hf, hp]
    simp only [Option.bind_some, Array.getElem?_toList, he, Option.map_some]
    simp at k2
    rw [k2]
def lookV (ev : V → Value) (z : Value) (o : Option V) : Value := match o with | some v => ev v | none => z
theorem run_lookup {W : World} {b : Nat} {m : List (K × V)} (hT : P.underlying T = some (.map Kt Et)) (KL : KeyLaw P Kt ek) {z : Value} (hz : ∀ W, (zeroValue Et).run P W = .ok z W) (h : MapIs ek ev W b m) (k : K) :
    (Instr.lookup T (.map (some b)) (ek k) true).run P W = .ok (.tuple #[lookV ev z (look k m), .bool (look k m).isSome]) W ∧
    (Instr.lookup T (.map (some b)) (ek k) false).run P W = .ok (lookV ev z (look k m)) W := by
  obtain ⟨es, clock, hb, h1, h2, _⟩ := h
  rcases find_look (W := W) KL h1 h2 k with ⟨hl, _, hf⟩ | ⟨i, v, hl, _, _, _, hf⟩
  · constructor <;> simp [Instr.lookup, Sem.run_bind, run_under hT, Result.andThen, run_getObj hb, KL.check, hf, hz, hl, lookV, Sem.run]
  · constructor <;> simp [Instr.lookup, Sem.run_bind, run_under hT, Result.andThen, run_getObj hb, KL.check, hf, hz, hl, lookV, Sem.run]
theorem run_lookup_nil (hT : P.underlying T = some (.map Kt Et)) (KL : KeyLaw P Kt ek) {z : Value} (hz : ∀ W, (zeroValue Et).run P W = .ok z W) (k : K) (W : World) :
    (Instr.lookup T (.map none) (ek k) true).run P W = .ok (.tuple #[z, .bool false]) W ∧ (Instr.lookup T (.map none) (ek k) false).run P W = .ok z W := by
  have hf := KL.find k [] [] W rfl
  simp only [pos, Option.bind_none] at hf
  constructor <;> simp [Instr.lookup, Sem.run_bind, run_under hT, Result.andThen, KL.check, hf, hz, Sem.run]
theorem run_update {W : World} {b : Nat} {m : List (K × V)} (hT : P.underlying T = some (.map Kt Et)) (KL : KeyLaw P Kt ek) (h : MapIs ek ev W b m) (hn : (m.map (·.1)).Nodup) (k : K) (v : V) :
    ∃ o, (Instr.mapUpdate T (.map (some b)) (ek k) (ev v)).run P W = .ok () (setBlock W b o) ∧ MapIs ek ev (setBlock W b o) b (put k v m) := by
  obtain ⟨es, clock, hb, h1, h2, h3, h4⟩ := h
  have hlt := lt_of_heap hb
  rcases find_look (W := W) KL h1 h2 k with ⟨hl, _, hf⟩ | ⟨i, u, hl, hp, hi, ⟨e, he, he1, he2⟩, hf⟩
  · refine ⟨.map (es.push { key := ek k, val := ev v, born := clock }) (clock + 1), ?_, ?_⟩
    · simp [Instr.mapUpdate, Sem.run_bind, run_under hT, Result.andThen, run_getObj hb, KL.check, hf, Sem.run, run_setObj hb]
    · refine ⟨_, _, setBlock_at W b _ hlt, ?_, ?_, ?_, ?_⟩
      · simp [put, hl, h1]
      · simp [put, hl, h2]
      · simp only [Array.toList_push, List.map_append, List.map_cons, List.map_nil]
        rw [List.pairwise_append]
        refine ⟨h3, by simp, fun x hx y hy => ?_⟩
        obtain ⟨e, he, rfl⟩ := List.mem_map.1 hx
        simp at hy; subst hy
        exact h4 e he
      · intro e he
        simp only [Array.toList_push, List.mem_append, List.mem_singleton] at he
        rcases he with he | rfl
        · have := h4 e he; omega
        · simp
  · refine ⟨.map (es.modify i fun e => { e with key := ek k, val := ev v }) clock, ?_, ?_⟩
    · have hs := KL.same k
      simp [Instr.mapUpdate, Sem.run_bind, run_under hT, Result.andThen, run_getObj hb, KL.check, hf, Sem.run, run_setObj hb, he, he1, Instr.keyThatStays, hs]
    · have hkeys : (es.toList.modify i fun e => { e with key := ek k, val := ev v }).map (·.key) = es.toList.map (·.key) := by
        apply List.ext_getElem?
        intro j
        simp only [List.getElem?_map, List.getElem?_modify]
        by_cases hij : i = j
        · subst hij
          rw [Array.getElem?_toList, he]; simp [he1]
        · simp [hij]
      have hborn : (es.toList.modify i fun e => { e with key := ek k, val := ev v }).map (·.born) = es.toList.map (·.born) := by
        apply List.ext_getElem?
        intro j
        simp only [List.getElem?_map, List.getElem?_modify]
        by_cases hij : i = j
        · subst hij
          rw [Array.getElem?_toList, he]; simp
        · simp [hij]
      have hm : put k v m = m.modify i (fun p => (p.1, v)) := by
        unfold put; rw [hl]; simp only [Option.isSome_some, if_true]
        exact (modify_put hn hp).symm
      refine ⟨_, _, setBlock_at W b _ hlt, ?_, ?_, ?_, ?_⟩
      · rw [Array.toList_modify, hkeys, h1, hm]
        apply List.ext_getElem?
        intro j
        simp only [List.getElem?_map, List.getElem?_modify]
        cases hmj : m[j]? with
        | none => rfl
        | some p => by_cases hij : i = j <;> simp [hij]
      · rw [Array.toList_modify, hm]
        apply List.ext_getElem?
        intro j
        have hj := congrArg (fun l : List Value => l[j]?) h2
        simp only [List.getElem?_map, List.getElem?_modify] at hj ⊢
        by_cases hij : i = j
        · subst hij
          rw [Array.getElem?_toList, he] at hj ⊢
          cases hmj : m[i]? with
          | none => rw [hmj] at hj; simp at hj
          | some p => simp
        · simpa [hij] using hj
      · rw [Array.toList_modify, hborn]; exact h3
      · intro e' he'
        rw [Array.toList_modify] at he'
        have : e'.born ∈ (es.toList.modify i fun e => { e with key := ek k, val := ev v }).map (·.born) := List.mem_map.2 ⟨e', he', rfl⟩
        rw [hborn] at this
        obtain ⟨e2, h5, h6⟩ := List.mem_map.1 this
        rw [← h6]; exact h4 e2 h5
theorem run_delete {W : World} {b : Nat} {m : List (K × V)} (hT : P.underlying T = some (.map Kt Et)) (KL : KeyLaw P Kt ek) (h : MapIs ek ev W b m) (hn : (m.map (·.1)).Nodup) (k : K) (ts : Array TypeId) (hts : ts[0]? = some T) (ty : TypeId) :
    ∃ o, (Builtin.delete_ ts ty #[.map (some b), ek k]).run P W = .ok (.tuple #[]) (setBlock W b o) ∧ MapIs ek ev (setBlock W b o) b (del k m) := by
  obtain ⟨es, clock, hb, h1, h2, h3, h4⟩ := h
  have hlt := lt_of_heap hb
  rcases find_look (W := W) KL h1 h2 k with ⟨hl, _, hf⟩ | ⟨i, u, hl, hp, hi, ⟨e, he, he1, he2⟩, hf⟩
  · refine ⟨.map es clock, ?_, ?_⟩
    · simp [Builtin.delete_, hts, Sem.run_bind, run_under hT, Result.andThen, run_getObj hb, KL.check, hf, Sem.run, run_setObj hb]
    · rw [del_none hl]
      exact ⟨es, clock, setBlock_at W b _ hlt, h1, h2, h3, h4⟩
  · refine ⟨.map (es.eraseIdxIfInBounds i) clock, ?_, ?_⟩
    · simp [Builtin.delete_, hts, Sem.run_bind, run_under hT, Result.andThen, run_getObj hb, KL.check, hf, Sem.run, run_setObj hb]
    · have e1 : (es.eraseIdxIfInBounds i).toList = es.toList.eraseIdx i := by simp
      rw [← eraseIdx_del hn hp]
      refine ⟨_, _, setBlock_at W b _ hlt, ?_, ?_, ?_, ?_⟩
      · rw [e1, ChangeMaps.map_eraseIdx, h1, ChangeMaps.map_eraseIdx]
      · rw [e1, ChangeMaps.map_eraseIdx, h2, ChangeMaps.map_eraseIdx]
      · rw [e1, ChangeMaps.map_eraseIdx]
        exact h3.sublist (List.eraseIdx_sublist _ _)
      · intro e' he'
        rw [e1] at he'
        exact h4 e' (List.mem_of_mem_eraseIdx he')
end
/-! ### Keys of type int -/
theorem findNow_int (kd : IntKind) (k : Int) : ∀ (es : List MapEntry) (ks : List Int) (i : Nat), es.map (·.key) = ks.map (Value.int kd) →
    Instr.findNow (.int kd) (.int kd k) es i = some ((pos k ks i).bind fun j => (es[j - i]?).map fun e => (j, e.val))
  | [], [], i, _ => by simp [Instr.findNow, pos]
  | [], _ :: _, _, h => by simp at h
  | _ :: _, [], _, h => by simp at h
  | e :: es, x :: ks, i, h => by
    simp only [List.map_cons, List.cons.injEq] at h
    obtain ⟨h1, h2⟩ := h
    unfold Instr.findNow pos
    rw [h1]
    simp only [Instr.sameNow, if_true]
    by_cases hk : k = x
    · simp [hk]
    · have hb : (k == x) = false := by simpa using hk
      rw [hb, if_neg hk]
      simp only []
      rw [findNow_int kd k es ks (i + 1) h2]
      cases hp : pos k ks (i + 1) with
      | none => rfl
      | some j =>
        have hj : i + 1 ≤ j := by
          rw [pos_add] at hp
          cases hq : pos k ks 0 with
          | none => simp [hq] at hp
          | some q => simp [hq] at hp; omega
        simp only [Option.bind_some]
        rw [show j - i = (j - (i + 1)) + 1 from by omega, List.getElem?_cons_succ]
theorem keyLaw_int {P : Program} {Kt : TypeId} {kd : IntKind} (hK : P.underlying Kt = some (.int kd)) : KeyLaw P Kt (Value.int kd) where
  check empty k W := by
    unfold Instr.checkKey
    simp [Sem.run_bind, run_under hK, Result.andThen, Sem.run]
  find k es ks W h := by
    have hf := findNow_int kd k es ks 0 h
    simp [Instr.findKey, Sem.run_bind, run_under hK, Result.andThen, hf, Sem.run]
  same k := by simp [Instr.sameBits]
end Go.Proofs.YtdnfibecobodkaaGreat
