/- A range over a map that the round does not write: in some row all its pairs come, each once. -/
import Derived.Test.YtdnfibecobodkaaGreatMap
namespace Go.Proofs.YtdnfibecobodkaaGreat
open Go.RowKit
open Go.ChangeMaps (setBlock)
set_option linter.unusedSimpArgs false
set_option linter.unusedVariables false
section
variable {K V : Type} {P : Program} {Kt Et T : TypeId} {ek : K → Value} {ev : V → Value}
/-- The walk over map b by the iterator it: acc has come. -/
def Rng (ek : K → Value) (ev : V → Value) (W : World) (b it : Nat) (m acc : List (K × V)) : Prop :=
  ∃ (es : Array MapEntry) (clock : Nat) (done : List Nat), W.heap[b]? = some (.map es clock) ∧ es.toList.map (·.key) = m.map (fun p => ek p.1) ∧ es.toList.map (·.val) = m.map (fun p => ev p.2) ∧
    (es.toList.map (·.born)).Pairwise (· < ·) ∧ (∀ e ∈ es.toList, e.born < clock) ∧
    W.heap[it]? = some (.mapIter (some b) clock (done.map fun i => (es[i]?.map (·.born)).getD 0).toArray clock) ∧ done.Nodup ∧ (∀ i ∈ done, i < m.length) ∧ acc.map some = done.map (fun i => m[i]?)
theorem Rng.mapIs {W : World} {b it : Nat} {m acc : List (K × V)} (h : Rng ek ev W b it m acc) : MapIs ek ev W b m := by
  obtain ⟨es, clock, done, h1, h2, h3, h4, h5, _⟩ := h
  exact ⟨es, clock, h1, h2, h3, h4, h5⟩
theorem Rng.of_blocks {W W' : World} {b it : Nat} {m acc : List (K × V)} (h : Rng ek ev W b it m acc) (hb : W'.heap[b]? = W.heap[b]?) (hi : W'.heap[it]? = W.heap[it]?) : Rng ek ev W' b it m acc := by
  obtain ⟨es, clock, done, h1, h2, h3, h4, h5, h6, h7⟩ := h
  exact ⟨es, clock, done, hb.trans h1, h2, h3, h4, h5, hi.trans h6, h7⟩
theorem Rng.lt {W : World} {b it : Nat} {m acc : List (K × V)} (h : Rng ek ev W b it m acc) : b < W.heap.size ∧ it < W.heap.size ∧ b ≠ it := by
  obtain ⟨es, clock, done, h1, h2, h3, h4, h5, h6, h7⟩ := h
  exact ⟨lt_of_heap h1, lt_of_heap h6, fun e => by rw [e, h6] at h1; cases h1⟩
theorem Rng.keep {X : List Nat} {W W' : World} {b it : Nat} {m acc : List (K × V)} (h : Rng ek ev W b it m acc) (hk : Keep X W W') (h1 : b ∉ X) (h2 : it ∉ X) : Rng ek ev W' b it m acc :=
  h.of_blocks (hk.block b h.lt.1 h1) (hk.block it h.lt.2.1 h2)
theorem run_newObj (o : Obj) (W : World) : (newObj o).run P W = .ok W.heap.size (W.alloc o) := by
  simp [newObj, Sem.run]
theorem run_range {W : World} {b : Nat} {m : List (K × V)} (hT : P.underlying T = some (.map Kt Et)) (h : MapIs ek ev W b m) :
    ∃ o, (Instr.range T (.map (some b))).run P W = .ok (.pointer (some ⟨W.heap.size, 0, none⟩)) (W.alloc o) ∧ Rng ek ev (W.alloc o) b W.heap.size m [] := by
  have hb' := h.lt
  obtain ⟨es, clock, hb, h1, h2, h3, h4⟩ := h
  refine ⟨.mapIter (some b) clock #[] clock, ?_, es, clock, [], (Below.heap_alloc W _ b hb').trans hb, h1, h2, h3, h4, World.alloc_heap_new W _, List.nodup_nil, by simp, rfl⟩
  simp [Instr.range, Sem.run_bind, run_under hT, Result.andThen, run_getObj hb, Sem.run, run_newObj]
theorem run_range_nil (hT : P.underlying T = some (.map Kt Et)) (W : World) :
    (Instr.range T (.map none)).run P W = .ok (.pointer (some ⟨W.heap.size, 0, none⟩)) (W.alloc (.mapIter none 0 #[] 0)) := by
  simp [Instr.range, Sem.run_bind, run_under hT, Result.andThen, Sem.run, run_newObj]
theorem run_next_nil {W : World} {it : Nat} {a c : Nat} {s : Array Nat} (h : W.heap[it]? = some (.mapIter none a s c)) (ty : TypeId) :
    (Instr.next (.pointer (some ⟨it, 0, none⟩)) false ty).run P W = .ok (.tuple #[.bool false]) W := by
  simp [Instr.next, getObj, Sem.run_bind, Sem.run, h, Result.andThen]
theorem nodup_of_lt {l : List Nat} (h : l.Pairwise (· < ·)) : l.Nodup := h.imp (fun h e => by omega)
theorem perm_of_full {l : List Nat} {n : Nat} (hn : l.Nodup) (hl : ∀ i ∈ l, i < n) (hall : ∀ i, i < n → i ∈ l) : l.Perm (List.range n) := by
  exact (List.perm_ext_iff_of_nodup hn List.nodup_range).2 (fun a => ⟨fun h => by simpa using hl a h, fun h => hall a (by simpa using h)⟩)
theorem nodup_le : ∀ (n : Nat) (l : List Nat), l.Nodup → (∀ i ∈ l, i < n) → l.length ≤ n
  | 0, l, _, h => by
    cases l with
    | nil => simp
    | cons x r => exact absurd (h x (.head _)) (by omega)
  | n + 1, l, hn, h => by
    have h1 := nodup_le n (l.erase n) (hn.erase n) (fun i hi => by
      have h2 := h i (List.mem_of_mem_erase hi)
      have h3 : i ≠ n := fun e => by subst e; exact (hn.mem_erase_iff.1 hi).1 rfl
      omega)
    by_cases hm : n ∈ l
    · rw [List.length_erase_of_mem hm] at h1; omega
    · rw [List.erase_of_not_mem hm] at h1; omega
theorem Rng.next {W : World} {b it : Nat} {m acc : List (K × V)} (h : Rng ek ev W b it m acc) (ty : TypeId) :
    (acc.Perm m ∧ (Instr.next (.pointer (some ⟨it, 0, none⟩)) false ty).run P W = .ok (.tuple #[.bool false]) W) ∨
    ∃ (p : K × V) (W1 : World) (o : Obj), p ∈ m ∧ acc.length < m.length ∧ (W1 = W ∨ W1 = W.drew) ∧
      (Instr.next (.pointer (some ⟨it, 0, none⟩)) false ty).run P W = .ok (.tuple #[.bool true, ek p.1, ev p.2]) (setBlock W1 it o) ∧
      Rng ek ev (setBlock W1 it o) b it m (acc ++ [p]) ∧ (Instr.entry (.pointer (some ⟨it, 0, none⟩))).run P (setBlock W1 it o) = .ok (.tuple #[ek p.1, ev p.2]) (setBlock W1 it o) := by
  have hlt := h.lt
  obtain ⟨es, clock, done, hb, h1, h2, h3, h4, hit, hn, hd, hacc⟩ := h
  have hlen : es.size = m.length := by have := congrArg List.length h1; simpa using this
  have hnb := nodup_of_lt h3
  have hinj : ∀ i j, i < es.size → j < es.size → es[i]?.map (·.born) = es[j]?.map (·.born) → i = j := by
    intro i j hi hj he
    have e1 : (es.toList.map (·.born))[i]? = (es.toList.map (·.born))[j]? := by simpa [List.getElem?_map, Array.getElem?_toList] using he
    exact (List.getElem?_inj (by simpa using hi) hnb).1 e1
  have hmemb : ∀ i, i < es.size → ((done.map fun i => (es[i]?.map (·.born)).getD 0).toArray.contains es[i]!.born = true ↔ i ∈ done) := by
    intro i hi
    have hgi : es[i]! = es[i] := getElem!_pos es i hi
    rw [hgi]
    simp only [List.contains_toArray, List.contains_iff_mem, List.mem_map]
    constructor
    · rintro ⟨j, hj, he⟩
      have hj' : j < es.size := by rw [hlen]; exact hd j hj
      have := hinj j i hj' hi (by rw [Array.getElem?_eq_getElem hj', Array.getElem?_eq_getElem hi] at *; simpa using he)
      exact this ▸ hj
    · intro hi'
      exact ⟨i, hi', by rw [Array.getElem?_eq_getElem hi]; rfl⟩
  rcases run_next_at (P := P) W ty it b clock clock _ es clock hit hb (fun x hx => h4 x hx) (Nat.le_refl _) with ⟨h0, hrun⟩ | ⟨e, he, W1, hW1, hrun⟩
  · left
    refine ⟨?_, hrun⟩
    have hall : ∀ i, i < m.length → i ∈ done := by
      intro i hi
      have hi' : i < es.size := by omega
      have hnot : es[i] ∉ (leftOf es (done.map fun i => (es[i]?.map (·.born)).getD 0).toArray) := by
        have := Array.eq_empty_of_size_eq_zero h0
        rw [this]; simp
      have hc : (done.map fun i => (es[i]?.map (·.born)).getD 0).toArray.contains es[i].born = true := by
        cases hcc : (done.map fun i => (es[i]?.map (·.born)).getD 0).toArray.contains es[i].born with
        | true => rfl
        | false =>
          exfalso
          apply hnot
          unfold leftOf
          rw [Array.mem_filter]
          exact ⟨Array.getElem_mem hi', by rw [hcc]; rfl⟩
      have hgi : es[i]! = es[i] := getElem!_pos es i hi'
      exact (hmemb i hi').1 (by rw [hgi]; exact hc)
    have hperm := perm_of_full hn hd hall
    have hp2 : (done.map fun i => m[i]?).Perm ((List.range m.length).map fun i => m[i]?) := hperm.map _
    have hp3 : (List.range m.length).map (fun i => m[i]?) = m.map some := by
      apply List.ext_getElem?
      intro j
      simp only [List.getElem?_map]
      by_cases hj : j < m.length
      · simp [hj]
      · simp [hj]
    rw [hp3, ← hacc] at hp2
    have := hp2.filterMap id
    simpa [List.filterMap_map] using this
  · right
    have hemem : e ∈ es.toList ∧ (done.map fun i => (es[i]?.map (·.born)).getD 0).toArray.contains e.born = false := by
      have he' : e ∈ leftOf es (done.map fun i => (es[i]?.map (·.born)).getD 0).toArray := by simpa using he
      unfold leftOf at he'
      rw [Array.mem_filter] at he'
      exact ⟨by simpa using he'.1, by simpa using he'.2⟩
    obtain ⟨i, hi, hie⟩ := List.getElem_of_mem hemem.1
    have hi' : i < es.size := by simpa using hi
    have hie' : es[i] = e := by simpa using hie
    have him : i < m.length := by omega
    have hgi : es[i]! = es[i] := getElem!_pos es i hi'
    have hnd : i ∉ done := fun h => by
      have := (hmemb i hi').2 h
      rw [hgi, hie', hemem.2] at this
      cases this
    have hkey : e.key = ek m[i].1 := by
      have := congrArg (fun l : List Value => l[i]?) h1
      simp only [List.getElem?_map, Array.getElem?_toList, Array.getElem?_eq_getElem hi', List.getElem?_eq_getElem him, Option.map_some, Option.some.injEq] at this
      rw [← hie']; exact this
    have hval : e.val = ev m[i].2 := by
      have := congrArg (fun l : List Value => l[i]?) h2
      simp only [List.getElem?_map, Array.getElem?_toList, Array.getElem?_eq_getElem hi', List.getElem?_eq_getElem him, Option.map_some, Option.some.injEq] at this
      rw [← hie']; exact this
    have hW1h : W1.heap = W.heap := by rcases hW1 with rfl | rfl <;> rfl
    have hpush : ((done.map fun i => (es[i]?.map (·.born)).getD 0).toArray.push e.born) = ((done ++ [i]).map fun i => (es[i]?.map (·.born)).getD 0).toArray := by
      simp [Array.getElem?_eq_getElem hi', hie']
    have hblen : acc.length = done.length := by simpa using congrArg List.length hacc
    have hlen2 : done.length < m.length := by
      have h5 : (i :: done).Nodup := List.nodup_cons.2 ⟨hnd, hn⟩
      have := nodup_le m.length (i :: done) h5 (fun x hx => by
        rcases List.mem_cons.1 hx with rfl | hx
        · exact him
        · exact hd x hx)
      simp at this
      omega
    rw [hkey, hval] at hrun
    refine ⟨m[i], W1, _, List.getElem_mem him, by omega, hW1, hrun, ?_, ?_⟩
    · refine ⟨es, clock, done ++ [i], ?_, h1, h2, h3, h4, ?_, ?_, ?_, ?_⟩
      · rw [setBlock_ne _ _ _ _ (Ne.symm hlt.2.2), hW1h]; exact hb
      · rw [setBlock_at _ _ _ (by rw [hW1h]; exact hlt.2.1), hpush]
      · rw [List.nodup_append]
        exact ⟨hn, by simp, fun a ha c hc => by simp at hc; subst hc; exact fun e => hnd (e ▸ ha)⟩
      · intro j hj
        rcases List.mem_append.1 hj with hj | hj
        · exact hd j hj
        · simp at hj; subst hj; exact him
      · rw [List.map_append, List.map_append, hacc]; simp [List.getElem?_eq_getElem him]
    · have := run_entry_at (P := P) (setBlock W1 it (.mapIter (some b) clock ((done.map fun i => (es[i]?.map (·.born)).getD 0).toArray.push e.born) clock)) it b clock _ es clock e
        (setBlock_at _ _ _ (by rw [hW1h]; exact hlt.2.1)) (by rw [setBlock_ne _ _ _ _ (Ne.symm hlt.2.2), hW1h]; exact hb) hemem.1 hnb
      rw [hkey, hval] at this
      exact this
end
end Go.Proofs.YtdnfibecobodkaaGreat
