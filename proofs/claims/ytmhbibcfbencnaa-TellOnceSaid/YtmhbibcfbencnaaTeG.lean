/- TellOnce: maps whose key is a window's name inside a window. -/
import Derived.Test.YtmhbibcfbencnaaTeF
import Derived.WideKeyEntry
namespace Go.Proofs.Ytmhbibcfbencnaa
open Go.RowKit Go.Lib
open Go.ChangeMaps (setBlock)
set_option linter.unusedSimpArgs false
set_option linter.unusedVariables false
def ekO (x : Wd) : Value := .agg #[.string x.key, .int .i64 x.st, .int .i64 0, .int .i64 0, .int .i64 0, .int .i64 0, .int .i64 0, .int .i64 0, .int .i64 0, .int .i64 0]
theorem ekO_eq (x : Wd) : ekO x = (⟨x.key, x.st, Ag.zero⟩ : Ot).val := rfl
theorem eq_ekO (d : Nat) (a b : Wd) (W : World) : (Op.equalIn (d + 6) 33 (ekO a) (ekO b)).run Try.prog W = .ok (decide (a = b)) W := by
  rw [ekO_eq, ekO_eq, eq_ot d]
  congr 1
  obtain ⟨a1, a2⟩ := a
  obtain ⟨b1, b2⟩ := b
  rw [Bool.eq_iff_iff]
  simp
  exact ⟨fun h => ⟨h.2, h.1⟩, fun h => ⟨h.2, h.1⟩⟩
theorem findAsking_ekO (k : Wd) (W : World) : ∀ (es : List MapEntry) (ks : List Wd) (i : Nat), es.map (·.key) = ks.map ekO →
    (Instr.findAsking 33 (ekO k) es i).run Try.prog W = .ok ((pos k ks i).bind fun j => (es[j - i]?).map fun e => (j, e.val)) W
  | [], [], i, _ => by simp [Instr.findAsking, pos, Sem.run]
  | [], _ :: _, _, h => by simp at h
  | _ :: _, [], _, h => by simp at h
  | e :: es, x :: ks, i, h => by
    simp only [List.map_cons, List.cons.injEq] at h
    obtain ⟨h1, h2⟩ := h
    unfold Instr.findAsking pos
    have he : (Op.equal 33 (ekO k) e.key).run Try.prog W = .ok (decide (k = x)) W := by
      rw [h1]; exact eq_ekO 9994 k x W
    simp only [Sem.run_bind, he, Result.andThen_ok]
    by_cases hk : k = x
    · simp [hk, Sem.run]
    · rw [if_neg hk]
      simp only [hk, decide_false, Bool.false_eq_true, if_false]
      rw [findAsking_ekO k W es ks (i + 1) h2]
      cases hp : pos k ks (i + 1) with
      | none => rfl
      | some j =>
        have hj : i + 1 ≤ j := by
          rw [pos_add] at hp
          cases hq : pos k ks 0 with
          | none => simp [hq] at hp
          | some q => simp [hq] at hp; omega
        simp only [Option.bind_some]
        rw [show j - i = (j - (i + 1)) + 1 from by omega, List.getElem?_cons_succ]
theorem findNow_ekO (fs : Array Field) (k : Wd) : ∀ (es : List MapEntry) (ks : List Wd) (i : Nat), es.map (·.key) = ks.map ekO → Instr.findNow (.struct fs) (ekO k) es i = if es = [] then some none else none
  | [], _, i, _ => by simp [Instr.findNow]
  | e :: es, [], _, h => by simp at h
  | e :: es, x :: ks, i, h => by
    simp only [List.map_cons, List.cons.injEq] at h
    unfold Instr.findNow
    rw [h.1]
    simp [Instr.sameNow, ekO]
theorem keyLaw_ekO : KeyLaw Try.prog 33 ekO where
  check empty k W := by
    have h2 : ∀ n v, (Instr.checkKey empty (n + 1) 2 (.int .i64 v)).run Try.prog W = .ok () W := fun n v => by
      unfold Instr.checkKey; simp [Sem.run_bind, run_under Try.underlying2, Result.andThen, Sem.run]
    have h9 : ∀ n v, (Instr.checkKey empty (n + 1) 9 (.string v)).run Try.prog W = .ok () W := fun n v => by
      unfold Instr.checkKey; simp [Sem.run_bind, run_under Try.underlying9, Result.andThen, Sem.run]
    have hz : ∀ n, (Instr.checkKey empty (n + 2) 29 (.agg #[.int .i64 0, .int .i64 0, .int .i64 0, .int .i64 0])).run Try.prog W = .ok () W := fun n => by
      obtain ⟨i, hi⟩ := info2
      have hc : Try.prog.cellsOf 2 = 1 := by kernel_rfl
      have q0 : ∀ j, j < 4 → (part 2 #[.int .i64 0, .int .i64 0, .int .i64 0, .int .i64 0] j).run Try.prog W = .ok (.int .i64 0) W := fun j hj => by
        rcases j with _ | _ | _ | _ | j
        · exact part_int rfl
        · exact part_int rfl
        · exact part_int rfl
        · exact part_int rfl
        · omega
      unfold Instr.checkKey
      simp [Sem.run_bind, run_under Try.underlying29, Result.andThen, Sem.run, run_sizeOf W hi, hc, q0, h2 n]
      rw [show List.range' 0 4 = [0, 1, 2, 3] from rfl]
      have a0 := q0 0 (by omega)
      have a1 := q0 1 (by omega)
      have a2 := q0 2 (by omega)
      have a3 := q0 3 (by omega)
      simp [Sem.run_bind, run_sizeOf W hi, hc, a0, a1, a2, a3, h2 n, Result.andThen, Sem.run]
    have h31 : ∀ n, (Instr.checkKey empty (n + 3) 31 (.agg #[.int .i64 0, .int .i64 0, .int .i64 0, .int .i64 0, .int .i64 0, .int .i64 0, .int .i64 0, .int .i64 0])).run Try.prog W = .ok () W := fun n => by
      have q0 : ∀ j, j < 4 → (part 2 #[.int .i64 0, .int .i64 0, .int .i64 0, .int .i64 0, .int .i64 0, .int .i64 0, .int .i64 0, .int .i64 0] j).run Try.prog W = .ok (.int .i64 0) W := fun j hj => by
        rcases j with _ | _ | _ | _ | j
        · exact part_int rfl
        · exact part_int rfl
        · exact part_int rfl
        · exact part_int rfl
        · omega
      have q4 : (part 29 #[.int .i64 0, .int .i64 0, .int .i64 0, .int .i64 0, .int .i64 0, .int .i64 0, .int .i64 0, .int .i64 0] 4).run Try.prog W = .ok (.agg #[.int .i64 0, .int .i64 0, .int .i64 0, .int .i64 0]) W := part_hist _ rfl
      unfold Instr.checkKey
      simp [Sem.run_bind, run_under Try.underlying31, Result.andThen, Sem.run, q0, q4, h2 (n + 1), hz n]
    have r0 : (part 9 #[.string k.key, .int .i64 k.st, .int .i64 0, .int .i64 0, .int .i64 0, .int .i64 0, .int .i64 0, .int .i64 0, .int .i64 0, .int .i64 0] 0).run Try.prog W = .ok (.string k.key) W := part_str rfl
    have r1 : (part 2 #[.string k.key, .int .i64 k.st, .int .i64 0, .int .i64 0, .int .i64 0, .int .i64 0, .int .i64 0, .int .i64 0, .int .i64 0, .int .i64 0] 1).run Try.prog W = .ok (.int .i64 k.st) W := part_int rfl
    have r2 : (part 31 #[.string k.key, .int .i64 k.st, .int .i64 0, .int .i64 0, .int .i64 0, .int .i64 0, .int .i64 0, .int .i64 0, .int .i64 0, .int .i64 0] 2).run Try.prog W = .ok (.agg #[.int .i64 0, .int .i64 0, .int .i64 0, .int .i64 0, .int .i64 0, .int .i64 0, .int .i64 0, .int .i64 0]) W := part_ag _ rfl
    unfold Instr.checkKey ekO
    simp [Sem.run_bind, run_under Try.underlying33, Result.andThen, Sem.run, r0, r1, r2, h2 9998, h9 9998, h31 9996]
  find k es ks W h := by
    have hn := findNow_ekO (Try.prog.fieldsOf 33) k es ks 0 h
    have ha := findAsking_ekO k W es ks 0 h
    unfold Instr.findKey
    simp only [Sem.run_bind, run_under fields33, Result.andThen_ok, hn]
    by_cases he : es = []
    · subst he
      cases ks with
      | nil => simp [pos, Sem.run]
      | cons x r => simp at h
    · rw [if_neg he]
      simpa using ha
  same k := by simp [Instr.sameBits, ekO, beq_ba]
variable {K V : Type} [DecidableEq K] {P : Program} {Kt Et T : TypeId} {ek : K → Value} {ev : V → Value}
/-- The entry of a key is there, at its stamp. -/
def EntIs (ek : K → Value) (ev : V → Value) (W : World) (b : Nat) (m : List (K × V)) (k : K) (n : Nat) : Prop :=
  ∃ (es : Array MapEntry) (clock : Nat) (i : Nat) (e : MapEntry), W.heap[b]? = some (.map es clock) ∧ es.toList.map (·.key) = m.map (fun p => ek p.1) ∧ es.toList.map (·.val) = m.map (fun p => ev p.2) ∧
    (es.toList.map (·.born)).Pairwise (· < ·) ∧ (∀ e ∈ es.toList, e.born < clock) ∧ pos k (m.map (·.1)) 0 = some i ∧ es[i]? = some e ∧ e.born = n
theorem EntIs.map {W : World} {b : Nat} {m : List (K × V)} {k : K} {n : Nat} (h : EntIs ek ev W b m k n) : MapIs ek ev W b m := by
  obtain ⟨es, clock, i, e, h1, h2, h3, h4, h5, _⟩ := h
  exact ⟨es, clock, h1, h2, h3, h4, h5⟩
theorem EntIs.of_block {W W' : World} {b : Nat} {m : List (K × V)} {k : K} {n : Nat} (h : EntIs ek ev W b m k n) (hb : W'.heap[b]? = W.heap[b]?) : EntIs ek ev W' b m k n := by
  obtain ⟨es, clock, i, e, h1, h2⟩ := h
  exact ⟨es, clock, i, e, hb.trans h1, h2⟩
/-- 'm[k] = f(m[k])', its first half: the entry is made, if it is not there. -/
def entM (k : K) (v0 : V) (m : List (K × V)) : List (K × V) := if (look k m).isSome then m else m ++ [(k, v0)]
theorem run_entry {W : World} {b : Nat} {m : List (K × V)} (hT : P.underlying T = some (.map Kt Et)) (KL : KeyLaw P Kt ek) {v0 : V} (hz : ∀ W, (zeroValue Et).run P W = .ok (ev v0) W) (h : MapIs ek ev W b m) (k : K) :
    ∃ o n, (Instr.mapEntry T (.map (some b)) (ek k)).run P W = .ok (.tuple #[ev ((look k m).getD v0), .int .i64 (n : Nat)]) (setBlock W b o) ∧ EntIs ek ev (setBlock W b o) b (entM k v0 m) k n := by
  obtain ⟨es, clock, hb, h1, h2, h3, h4⟩ := h
  have hlt := lt_of_heap hb
  rcases find_look (W := W) KL h1 h2 k with ⟨hl, hp, hf⟩ | ⟨i, u, hl, hp, hi, ⟨e, he, he1, he2⟩, hf⟩
  · refine ⟨.map (es.push { key := ek k, val := ev v0, born := clock }) (clock + 1), clock, ?_, ?_⟩
    · simp [Instr.mapEntry, Sem.run_bind, run_under hT, Result.andThen, run_getObj hb, KL.check, hf, hz, hl, Sem.run, run_setObj hb, goInt]
    · have hlen := mapIs_len h1
      have hem : entM k v0 m = m ++ [(k, v0)] := by unfold entM; rw [hl]; rfl
      rw [hem]
      refine ⟨_, _, m.length, { key := ek k, val := ev v0, born := clock }, setBlock_at W b _ hlt, ?_, ?_, ?_, ?_, ?_, ?_, rfl⟩
      · simp [h1]
      · simp [h2]
      · simp only [Array.toList_push, List.map_append, List.map_cons, List.map_nil]
        rw [List.pairwise_append]
        refine ⟨h3, by simp, fun x hx y hy => ?_⟩
        obtain ⟨e, he, rfl⟩ := List.mem_map.1 hx
        simp at hy; subst hy
        exact h4 e he
      · intro e he
        simp only [Array.toList_push, List.mem_append, List.mem_singleton] at he
        rcases he with he | rfl
        · have := h4 e he; omega
        · simp
      · rw [List.map_append]
        have hpa : ∀ (l : List K) (j : Nat), pos k l 0 = none → pos k (l ++ [k]) j = some (l.length + j) := by
          intro l
          induction l with
          | nil => intro j _; simp [pos]
          | cons x r ih =>
            intro j hn
            unfold pos at hn
            split at hn
            · cases hn
            · rename_i hx
              rw [pos_add] at hn
              have hn' : pos k r 0 = none := by cases hq : pos k r 0 with | none => rfl | some z => rw [hq] at hn; cases hn
              rw [List.cons_append]
              unfold pos
              rw [if_neg hx, ih (j + 1) hn', List.length_cons]
              congr 1; omega
        have := hpa (m.map (·.1)) 0 hp
        simpa using this
      · rw [← hlen]; simp
  · refine ⟨.map (es.modify i fun e => { e with key := ek k }) clock, e.born, ?_, ?_⟩
    · have hs := KL.same k
      simp [Instr.mapEntry, Sem.run_bind, run_under hT, Result.andThen, run_getObj hb, KL.check, hf, hl, Sem.run, run_setObj hb, he, he1, Instr.keyThatStays, hs, goInt]
    · have hem : entM k v0 m = m := by unfold entM; rw [hl]; rfl
      have hself : es.modify i (fun e => { e with key := ek k }) = es := by
        apply Array.ext_getElem?
        intro j
        rw [Array.getElem?_modify]
        split
        · rename_i hij
          subst hij
          rw [he, ← he1]; rfl
        · rfl
      rw [hem, hself]
      exact ⟨es, clock, i, e, setBlock_at W b _ hlt, h1, h2, h3, h4, hp, he, rfl⟩
/-- Its second half: the value goes into the entry. -/
theorem run_entry_store {W : World} {b : Nat} {m : List (K × V)} {k : K} {n : Nat} (hn : (m.map (·.1)).Nodup) (h : EntIs ek ev W b m k n) (v : V) :
    ∃ o, (Instr.entryStore T (.map (some b)) (.int .i64 (n : Nat)) (ev v)).run P W = .ok () (setBlock W b o) ∧ MapIs ek ev (setBlock W b o) b (put k v m) := by
  obtain ⟨es, clock, i, e, hb, h1, h2, h3, h4, hp, he, hbn⟩ := h
  have hlt := lt_of_heap hb
  obtain ⟨u, hmi, hl⟩ := pos_some hp
  have hf : es.findIdx? (fun e' => ((e'.born : Nat) : Int) == ((n : Nat) : Int)) = some i := by
    rw [← hbn, Go.WideElems.findIdx_arr]
    exact Go.WideElems.findIdx_born (h3.imp (fun h => Nat.ne_of_lt h)) (by rw [Array.getElem?_toList]; exact he)
  refine ⟨.map (es.modify i fun e => { e with val := ev v }) clock, ?_, ?_⟩
  · simp [Instr.entryStore, Sem.run_bind, Result.andThen, run_getObj hb, asInt, asIntOf, hf, Sem.run, run_setObj hb]
  · have hkeys : (es.toList.modify i fun e => { e with val := ev v }).map (·.key) = es.toList.map (·.key) := by
      apply List.ext_getElem?
      intro j
      simp only [List.getElem?_map, List.getElem?_modify]
      by_cases hij : i = j
      · subst hij; rw [Array.getElem?_toList, he]; simp
      · simp [hij]
    have hborn : (es.toList.modify i fun e => { e with val := ev v }).map (·.born) = es.toList.map (·.born) := by
      apply List.ext_getElem?
      intro j
      simp only [List.getElem?_map, List.getElem?_modify]
      by_cases hij : i = j
      · subst hij; rw [Array.getElem?_toList, he]; simp
      · simp [hij]
    have hm : put k v m = m.modify i (fun p => (p.1, v)) := by
      unfold put; rw [hl]; simp only [Option.isSome_some, if_true]
      exact (modify_put hn hp).symm
    refine ⟨_, _, setBlock_at W b _ hlt, ?_, ?_, ?_, ?_⟩
    · rw [Array.toList_modify, hkeys, h1, hm]
      apply List.ext_getElem?
      intro j
      simp only [List.getElem?_map, List.getElem?_modify]
      cases hmj : m[j]? with
      | none => simp
      | some q => by_cases hij : i = j <;> simp [hij]
    · rw [Array.toList_modify, hm]
      apply List.ext_getElem?
      intro j
      simp only [List.getElem?_map, List.getElem?_modify]
      by_cases hij : i = j
      · subst hij
        rw [Array.getElem?_toList, he, hmi]; simp
      · have h5 : (es.toList.map (·.val))[j]? = (m.map (fun p => ev p.2))[j]? := by rw [h2]
        simp only [List.getElem?_map] at h5
        simp [hij]
        simpa using h5
    · rw [Array.toList_modify, hborn]; exact h3
    · intro e' he'
      rw [Array.toList_modify] at he'
      have : e'.born ∈ (es.toList.modify i fun e => { e with val := ev v }).map (·.born) := List.mem_map.2 ⟨e', he', rfl⟩
      rw [hborn] at this
      obtain ⟨e2, h6, h7⟩ := List.mem_map.1 this
      rw [← h7]
      exact h4 e2 h6
end Go.Proofs.Ytmhbibcfbencnaa
