/- What is always so of a coordinator that began with a right table: the plain law · The moves in their row, behind each act: the plain law -/
import Derived.Test.YteejdfpfdnkiiaaGreatPh
import Derived.Test.YteejdfpfdnkiiaaGreatCeD
namespace Go.Proofs.YteejdfpfdnkiiaaGreat
section
set_option linter.unusedSimpArgs false
set_option linter.unusedVariables false
section
variable {K V : Type} [DecidableEq K]
theorem look_map {j k : K} {v : V} : ∀ (m : List (K × V)), look j (m.map fun p => if k = p.1 then (p.1, v) else p) = if j = k then (look k m).map (fun _ => v) else look j m
  | [] => by simp [look]
  | x :: r => by
    have ih := look_map (j := j) (k := k) (v := v) r
    simp only [List.map_cons]
    by_cases hk : k = x.1
    · rw [if_pos hk]
      unfold look
      by_cases hj : j = k
      · subst hj
        simp [hk]
      · have hjx : j ≠ x.1 := fun e => hj (e.trans hk.symm)
        simp only [if_neg hjx, if_neg hj]
        rw [ih, if_neg hj]
    · rw [if_neg hk]
      unfold look
      by_cases hj : j = k
      · subst hj
        rw [if_neg hk, ih, if_pos rfl, if_pos rfl, if_neg hk]
      · rw [ih, if_neg hj, if_neg hj]
theorem look_snoc {j k : K} {v : V} : ∀ (m : List (K × V)), look j (m ++ [(k, v)]) = match look j m with | some u => some u | none => if j = k then some v else none
  | [] => by simp [look]
  | x :: r => by
    have ih := look_snoc (j := j) (k := k) (v := v) r
    simp only [List.cons_append]
    unfold look
    by_cases h : j = x.1
    · simp [h]
    · simp only [if_neg h]
      exact ih
theorem look_put {j k : K} {v : V} (m : List (K × V)) : look j (put k v m) = if j = k then some v else look j m := by
  unfold put
  split
  · rename_i h
    rw [look_map]
    split
    · cases hl : look k m with
      | none => rw [hl] at h; cases h
      | some u => rfl
    · rfl
  · rename_i h
    rw [look_snoc]
    by_cases hj : j = k
    · subst hj
      cases hl : look j m with
      | none => simp
      | some u => rw [hl] at h; simp at h
    · simp only [if_neg hj]
      cases look j m <;> rfl
theorem look_del {j k : K} : ∀ (m : List (K × V)), look j (del k m) = if j = k then none else look j m
  | [] => by simp [look, del]
  | x :: r => by
    have ih := look_del (j := j) (k := k) r
    unfold del at ih ⊢
    rw [List.filter_cons]
    by_cases hk : k = x.1
    · rw [if_neg (by simp [hk]), ih]
      by_cases hj : j = k
      · simp [hj]
      · have hjx : j ≠ x.1 := fun e => hj (e.trans hk.symm)
        conv => rhs; unfold look
        rw [if_neg hj, if_neg hj, if_neg hjx]
    · rw [if_pos (by simpa using hk)]
      unfold look
      by_cases hj : j = x.1
      · have hjk : j ≠ k := fun e => hk (e.symm.trans hj)
        rw [if_pos hj, if_neg hjk, if_pos hj]
      · rw [if_neg hj, ih, if_neg hj]
theorem mem_del {k : K} {m : List (K × V)} {q : K × V} : q ∈ del k m ↔ q ∈ m ∧ k ≠ q.1 := by
  unfold del
  rw [List.mem_filter]
  simp
end
theorem atOf_put {j k : Int} {v : St} {m : List (Int × St)} : atOf j (put k v m) = if j = k then v else atOf j m := by
  unfold atOf
  rw [look_put]
  split <;> rfl
theorem atOf_del {j k : Int} {m : List (Int × St)} : atOf j (del k m) = if j = k then St.zero else atOf j m := by
  unfold atOf
  rw [look_del]
  split <;> rfl
/-- What is so of a move that is under way. -/
structure EnOk (n s : Nat) (last : Int) (own : List Int) (at_ : List (Int × St)) (q : Int × En) : Prop where
  key : q.2.part = q.1
  mv : 1 ≤ q.2.mv ∧ q.2.mv ≤ last
  part : 0 ≤ q.2.part ∧ q.2.part < s
  fr : 0 ≤ q.2.fr ∧ q.2.fr < n
  to : 0 ≤ q.2.to ∧ q.2.to < n
  ne : q.2.fr ≠ q.2.to
  st : ((atOf q.2.mv at_).st = 1 ∧ (atOf q.2.mv at_).dn = 0) ∨ (atOf q.2.mv at_).st = 2 ∨ (atOf q.2.mv at_).st = 3
  dn : (atOf q.2.mv at_).dn ≤ 2
  own : own[q.2.part.toNat]?.getD 0 = if (atOf q.2.mv at_).st = 2 then q.2.to else q.2.fr
structure CdInv (n s k : Nat) (c : Cd) : Prop where
  keys : (c.m.map (·.1)).Nodup
  ats : (c.at_.map (·.1)).Nodup
  ord : (c.m.map (·.2)).Pairwise (fun x y => x.mv < y.mv)
  last : 0 ≤ c.last ∧ c.last ≤ k
  ep : 1 ≤ c.ep ∧ c.ep ≤ 2147483647
  nd : c.nd = n
  len : c.own.length = s
  own : ∀ x ∈ c.own, 0 ≤ x ∧ x < n
  cnt : 0 ≤ c.com ∧ 0 ≤ c.abo ∧ c.com + c.abo + c.m.length ≤ k
  mem : ∀ q ∈ c.m, EnOk n s c.last c.own c.at_ q
  dn : ∀ j, (atOf j c.at_).dn ≤ 3
theorem CdInv.toMem {n s k : Nat} {c : Cd} (h : CdInv n s k c) (hk : k ≤ 300) : CdMem c := by
  have := h.cnt
  exact ⟨h.keys, h.ats, by omega, by omega, h.ord, h.dn⟩
theorem CdInv.toFine {n s k : Nat} {c : Cd} (h : CdInv n s k c) (hk : k ≤ 300) (hn : n ≤ 4) (hs : s ≤ 8) : CdFine c := by
  have h1 := h.cnt
  have h2 := h.ep
  have h3 := h.last
  refine ⟨fun x hx => ?_, by omega, by rw [h.nd]; omega, fun x hx => ?_, by rw [h.len]; omega, by omega, h.dn⟩
  · obtain ⟨q, hq, rfl⟩ := List.mem_map.1 hx
    have e := h.mem q hq
    have := e.mv
    have := e.part
    have := e.fr
    have := e.to
    omega
  · have := h.own x hx
    omega
theorem CdInv.mono {n s k k' : Nat} {c : Cd} (h : CdInv n s k c) (hk : k ≤ k') : CdInv n s k' c := by
  have h1 := h.cnt
  have h2 := h.ep
  have h3 := h.last
  exact ⟨h.keys, h.ats, h.ord, by omega, h.ep, h.nd, h.len, h.own, by omega, h.mem, h.dn⟩
theorem pair_inj {L : List En} (h : L.Pairwise (fun x y => x.mv < y.mv)) {x y : En} (hx : x ∈ L) (hy : y ∈ L) (he : x.mv = y.mv) : x = y := by
  induction L with
  | nil => cases hx
  | cons z r ih =>
    rw [List.pairwise_cons] at h
    rcases List.mem_cons.1 hx with e1 | e1
    · rcases List.mem_cons.1 hy with e2 | e2
      · rw [e1, e2]
      · have := h.1 y e2
        rw [e1] at he
        omega
    · rcases List.mem_cons.1 hy with e2 | e2
      · have := h.1 x e1
        rw [e2] at he
        omega
      · exact ih h.2 e1 e2
theorem CdInv.inj {n s k : Nat} {c : Cd} (h : CdInv n s k c) {q q' : Int × En} (hq : q ∈ c.m) (hq' : q' ∈ c.m) (he : q.2.mv = q'.2.mv) : q = q' := by
  have e := pair_inj h.ord (List.mem_map_of_mem hq) (List.mem_map_of_mem hq') he
  have k1 := (h.mem q hq).key
  have k2 := (h.mem q' hq').key
  exact Prod.ext (by rw [← k1, ← k2, e]) e
theorem CdInv.inj2 {n s k : Nat} {c : Cd} (h : CdInv n s k c) {q q' : Int × En} (hq : q ∈ c.m) (hq' : q' ∈ c.m) (he : q.2.part = q'.2.part) : q = q' := by
  have k1 := (h.mem q hq).key
  have k2 := (h.mem q' hq').key
  have e1 := look_of_mem h.keys (k := q.1) (v := q.2) hq
  have e2 := look_of_mem h.keys (k := q'.1) (v := q'.2) hq'
  rw [← k1, he, k2, e2] at e1
  exact Prod.ext (by rw [← k1, ← k2, he]) ((Option.some.inj e1).symm)
/-- A move's state is written. -/
theorem CdInv.setSt {n s k : Nat} {c : Cd} (h : CdInv n s k c) {q : Int × En} (hq : q ∈ c.m) {v : St} (hv : v.st = 2 ∨ v.st = 3) (hd : v.dn ≤ 2) (ho : c.own[q.2.part.toNat]?.getD 0 = if v.st = 2 then q.2.to else q.2.fr) : CdInv n s k { c with at_ := put q.2.mv v c.at_ } := by
  refine ⟨h.keys, put_nodup h.ats, h.ord, h.last, h.ep, h.nd, h.len, h.own, h.cnt, fun q' hq' => ?_, fun j => ?_⟩
  · have e := h.mem q' hq'
    by_cases he : q'.2.mv = q.2.mv
    · obtain rfl := h.inj hq' hq he
      have ha : atOf q'.2.mv (put q'.2.mv v c.at_) = v := by rw [atOf_put, if_pos rfl]
      exact ⟨e.key, e.mv, e.part, e.fr, e.to, e.ne, by rw [ha]; exact .inr hv, by rw [ha]; exact hd, by rw [ha]; exact ho⟩
    · have ha : atOf q'.2.mv (put q.2.mv v c.at_) = atOf q'.2.mv c.at_ := by rw [atOf_put, if_neg he]
      exact ⟨e.key, e.mv, e.part, e.fr, e.to, e.ne, by rw [ha]; exact e.st, by rw [ha]; exact e.dn, by rw [ha]; exact e.own⟩
  · simp only
    rw [atOf_put]
    split
    · omega
    · exact h.dn j
theorem CdInv.order {n s k : Nat} {c : Cd} (h : CdInv n s k c) (part to : Int) : CdInv n s (k + 1) (coOrd c part to).2.2 := by
  have h1 := h.cnt
  have h2 := h.ep
  have h3 := h.last
  unfold coOrd ordF
  simp only
  split
  · rename_i hm
    simp only [if_neg hm]
    exact h.mono (by omega)
  · rename_i hm
    obtain ⟨g1, g2, g3, g4, g5, g6, g7⟩ := may_zero (Classical.not_not.1 hm)
    simp only [Cd.tb] at g3 g4 g5 g6 g7
    split
    · exact h.mono (by omega)
    · rename_i hlk
      split
      · exact h.mono (by omega)
      · rename_i hlast
        simp only [if_true]
        have hnone : look part c.m = none := by cases hh : look part c.m with | none => rfl | some v => rw [hh] at hlk; simp at hlk
        have hold : ∀ q ∈ c.m, atOf q.2.mv (put (c.last + 1) ⟨1, 0⟩ c.at_) = atOf q.2.mv c.at_ := fun q hq => by
          have := (h.mem q hq).mv
          rw [atOf_put, if_neg (by omega)]
        obtain ⟨i, rfl⟩ := Int.eq_ofNat_of_zero_le g3
        have hil : i < c.own.length := by omega
        have hoi : c.own[i]?.getD 0 ∈ c.own := by
          rw [List.getElem?_eq_getElem hil]
          exact List.getElem_mem hil
        simp only [Cd.tb, Int.toNat_natCast] at g7 ⊢
        refine ⟨snoc_nodup h.keys hnone, put_nodup h.ats, ?_, ⟨by simp only; omega, by simp only; push_cast; omega⟩, h2, h.nd, h.len, h.own, ⟨h1.1, h1.2.1, by simp only [List.length_append, List.length_cons, List.length_nil]; push_cast; omega⟩, fun q hq => ?_, fun j => ?_⟩
        · simp only [List.map_append, List.map_cons, List.map_nil]
          rw [List.pairwise_append]
          refine ⟨h.ord, by simp, fun x hx y hy => ?_⟩
          obtain ⟨q, hq, rfl⟩ := List.mem_map.1 hx
          have := (h.mem q hq).mv
          obtain rfl : y = _ := by simpa using hy
          simp only
          omega
        · rcases List.mem_append.1 hq with hq | hq
          · have e := h.mem q hq
            have ha := hold q hq
            exact ⟨e.key, ⟨e.mv.1, by have := e.mv.2; simp only; omega⟩, e.part, e.fr, e.to, e.ne, by simp only; rw [ha]; exact e.st, by simp only; rw [ha]; exact e.dn, by simp only; rw [ha]; exact e.own⟩
          · obtain rfl : q = _ := by simpa using hq
            have ha : atOf (c.last + 1) (put (c.last + 1) ⟨1, 0⟩ c.at_) = ⟨1, 0⟩ := by rw [atOf_put, if_pos rfl]
            have ho := h.own _ hoi
            have hnd := h.nd
            refine ⟨rfl, ⟨by simp only; omega, by simp only; omega⟩, ⟨g3, by simp only; have := h.len; omega⟩, ho, ⟨g5, by simp only; omega⟩, g7, ?_, ?_, ?_⟩
            · simp only; rw [ha]; exact .inl ⟨rfl, rfl⟩
            · simp only; rw [ha]; decide
            · simp only; rw [ha]; simp
        · simp only
          rw [atOf_put]
          split
          · decide
          · exact h.dn j
theorem look_in {part : Int} {c : Cd} (h : ¬ ((look part c.m).isSome = false)) : (part, (look part c.m).getD En.zero) ∈ c.m := by
  cases hl : look part c.m with
  | none => rw [hl] at h; simp at h
  | some v => exact look_mem hl
theorem CdInv.abort {n s k : Nat} {c : Cd} (h : CdInv n s k c) (part : Int) : CdInv n s (k + 1) (coAbort c part).2 := by
  unfold coAbort
  split
  · exact h.mono (by omega)
  · split
    · exact h.mono (by omega)
    · rename_i hl
      split
      · rename_i hs
        have hq := look_in hl
        have e := h.mem _ hq
        have ho := e.own
        simp only at ho hs
        rw [hs] at ho
        exact (h.setSt hq (v := ⟨3, 0⟩) (.inr rfl) (by decide) (by simpa using ho)).mono (by omega)
      · exact h.mono (by omega)
theorem findMv_mem {mv : Int} {c : Cd} {x : En} (h : findMv mv (c.m.map (·.2)) = some x) : ∃ q ∈ c.m, q.2 = x ∧ x.mv = mv := by
  unfold findMv at h
  have h1 := List.mem_of_find?_eq_some h
  have h2 := List.find?_some h
  obtain ⟨q, hq, rfl⟩ := List.mem_map.1 h1
  exact ⟨q, hq, rfl, by simpa using h2⟩
theorem CdInv.ready {n s k : Nat} {c : Cd} (h : CdInv n s k c) {q : Int × En} (hq : q ∈ c.m) (hs : (atOf q.2.mv c.at_).st = 1) (code : Int) : CdInv n s (k + 1) (coReady c q.2 code) := by
  have e := h.mem q hq
  have ho := e.own
  rw [hs] at ho
  unfold coReady
  split
  · rename_i hc
    have hm : (c.tb none 0).may q.2.part q.2.to = 0 := by
      have := hc.2
      unfold mvF at this
      split at this
      · assumption
      · exact this
    have h1 := h.cnt
    have h2 := h.ep
    have h3 := h.last
    unfold mvF
    rw [if_pos hm]
    simp only [Cd.tb]
    obtain ⟨p1, p2⟩ := e.part
    obtain ⟨i, hi⟩ := Int.eq_ofNat_of_zero_le p1
    have hil : i < c.own.length := by have := h.len; omega
    refine ⟨h.keys, put_nodup h.ats, h.ord, ⟨h3.1, by push_cast; omega⟩, ⟨by simp only; omega, by have := (may_zero hm).2.1; simp only [Cd.tb] at this ⊢; omega⟩, h.nd, by simp [h.len], fun x hx => ?_, ⟨h1.1, h1.2.1, by simp only; push_cast; omega⟩, fun q' hq' => ?_, fun j => ?_⟩
    · rcases List.mem_or_eq_of_mem_set hx with hx | rfl
      · exact h.own x hx
      · exact e.to
    · have e' := h.mem q' hq'
      by_cases he : q'.2.mv = q.2.mv
      · obtain rfl := h.inj hq' hq he
        have ha : atOf q'.2.mv (put q'.2.mv ⟨2, 0⟩ c.at_) = ⟨2, 0⟩ := by rw [atOf_put, if_pos rfl]
        exact ⟨e.key, e.mv, e.part, e.fr, e.to, e.ne, by simp only; rw [ha]; exact .inr (.inl rfl), by simp only; rw [ha]; decide, by simp only; rw [ha, hi]; simp [hil]⟩
      · have ha : atOf q'.2.mv (put q.2.mv ⟨2, 0⟩ c.at_) = atOf q'.2.mv c.at_ := by rw [atOf_put, if_neg he]
        refine ⟨e'.key, e'.mv, e'.part, e'.fr, e'.to, e'.ne, by simp only; rw [ha]; exact e'.st, by simp only; rw [ha]; exact e'.dn, ?_⟩
        simp only
        rw [ha]
        have hne : q.2.part.toNat ≠ q'.2.part.toNat := by
          intro e2
          have := e'.part
          exact he (by rw [h.inj2 hq' hq (by omega)])
        rw [List.getElem?_set_ne hne]
        exact e'.own
    · simp only
      rw [atOf_put]
      split
      · decide
      · exact h.dn j
  · exact (h.setSt hq (v := ⟨3, 0⟩) (.inr rfl) (by decide) (by simpa using ho)).mono (by omega)
theorem CdInv.done {n s k : Nat} {c : Cd} (h : CdInv n s k c) {q : Int × En} (hq : q ∈ c.m) (hs : (atOf q.2.mv c.at_).st ≠ 1) (fr : Int) : CdInv n s (k + 1) (coDone c q.2 fr).2 := by
  have e := h.mem q hq
  have hst : (atOf q.2.mv c.at_).st = 2 ∨ (atOf q.2.mv c.at_).st = 3 := by
    rcases e.st with h1 | h1
    · exact absurd h1.1 hs
    · exact h1
  have hle := dnF_le (x := q.2) (fr := fr) (h.dn q.2.mv)
  unfold coDone
  split
  · have h1 := h.cnt
    have h2 := h.ep
    have h3 := h.last
    have hlen : (del q.2.part c.m).length < c.m.length := by
      unfold del
      rw [List.length_filter_lt_length_iff_exists]
      exact ⟨q, hq, by simp [e.key]⟩
    refine ⟨del_nodup h.keys, ((List.filter_sublist).map _).nodup (put_nodup h.ats), h.ord.sublist (List.filter_sublist.map _), ⟨h3.1, by push_cast; omega⟩, h2, h.nd, h.len, h.own, ?_, fun q' hq' => ?_, fun j => ?_⟩
    · simp only
      split <;> (push_cast; omega)
    · obtain ⟨hq1, hq2⟩ := mem_del.1 hq'
      have e' := h.mem q' hq1
      have hne : q'.2.mv ≠ q.2.mv := fun e2 => hq2 (by rw [h.inj hq1 hq e2]; exact e.key)
      have ha : atOf q'.2.mv (del q.2.mv (put q.2.mv ⟨(atOf q.2.mv c.at_).st, 3⟩ c.at_)) = atOf q'.2.mv c.at_ := by rw [atOf_del, if_neg hne, atOf_put, if_neg hne]
      exact ⟨e'.key, e'.mv, e'.part, e'.fr, e'.to, e'.ne, by simp only; rw [ha]; exact e'.st, by simp only; rw [ha]; exact e'.dn, by simp only; rw [ha]; exact e'.own⟩
    · simp only
      rw [atOf_del]
      split
      · decide
      · rw [atOf_put]
        split
        · simp
        · exact h.dn j
  · rename_i h3
    exact (h.setSt hq (v := ⟨(atOf q.2.mv c.at_).st, dnF q.2 fr (atOf q.2.mv c.at_).dn⟩) hst (by simp only; omega) e.own).mono (by omega)
theorem CdInv.handle {n s k : Nat} {c : Cd} (h : CdInv n s k c) (fr : Int) (kd : Nat) (mv pt code : Int) : CdInv n s (k + 1) (coHandle c fr kd mv pt code).2 := by
  unfold coHandle
  split
  · exact h.mono (by omega)
  · rename_i x hx
    obtain ⟨q, hq, rfl, _⟩ := findMv_mem hx
    split
    · exact h.mono (by omega)
    · split
      · rename_i hc
        exact h.ready hq hc.2.1 code
      · split
        · rename_i hc
          exact h.done hq hc.2 fr
        · exact h.mono (by omega)
end
section
set_option linter.unusedSimpArgs false
set_option linter.unusedVariables false
/-- The place of a shard's move. -/
def fnd (part : Int) (L : List Mo) : Option Nat := L.findIdx? fun y => decide (y.x.part = part)
def moOf (at_ : List (Int × St)) (q : Int × En) : Mo := ⟨q.2, atOf q.2.mv at_⟩
theorem movesF_eq (c : Cd) : movesF c = c.m.map (moOf c.at_) := by
  unfold movesF
  rw [List.map_map]
  rfl
theorem fnd_look (part : Int) (at_ : List (Int × St)) : ∀ (m : List (Int × En)), (∀ q ∈ m, q.2.part = q.1) →
    (look part m = none → fnd part (m.map (moOf at_)) = none) ∧ (∀ x, look part m = some x → ∃ i, fnd part (m.map (moOf at_)) = some i ∧ m[i]? = some (part, x))
  | [], _ => ⟨fun _ => rfl, fun x h => by cases h⟩
  | q :: r, hm => by
    have ih := fnd_look part at_ r (fun q' hq' => hm q' (List.mem_cons_of_mem _ hq'))
    have hk := hm q List.mem_cons_self
    have hfc : fnd part ((q :: r).map (moOf at_)) = if q.2.part = part then some 0 else (fnd part (r.map (moOf at_))).map (· + 1) := by
      unfold fnd
      rw [List.map_cons, List.findIdx?_cons]
      by_cases h : q.2.part = part <;> simp [h, moOf]
    rw [hfc]
    unfold look
    by_cases h : part = q.1
    · rw [if_pos h, if_pos (by rw [hk, h])]
      refine ⟨fun e => (by cases e), fun x e => ⟨0, rfl, ?_⟩⟩
      cases e
      subst h
      rfl
    · rw [if_neg h, if_neg (by rw [hk]; exact fun e => h e.symm)]
      refine ⟨fun e => by rw [ih.1 e]; rfl, fun x e => ?_⟩
      obtain ⟨i, h1, h2⟩ := ih.2 x e
      exact ⟨i + 1, by rw [h1]; rfl, by simpa using h2⟩
theorem CdInv.fnd_none {n s k : Nat} {c : Cd} (h : CdInv n s k c) {part : Int} (hl : look part c.m = none) : fnd part (movesF c) = none := by
  rw [movesF_eq]
  exact (fnd_look part c.at_ c.m fun q hq => (h.mem q hq).key).1 hl
theorem CdInv.fnd_some {n s k : Nat} {c : Cd} (h : CdInv n s k c) {part : Int} {x : En} (hl : look part c.m = some x) : ∃ i, fnd part (movesF c) = some i ∧ c.m[i]? = some (part, x) := by
  rw [movesF_eq]
  exact (fnd_look part c.at_ c.m fun q hq => (h.mem q hq).key).2 x hl
/-- What the place tells. -/
theorem CdInv.fnd_at {n s k : Nat} {c : Cd} (h : CdInv n s k c) {part : Int} {i : Nat} (hf : fnd part (movesF c) = some i) : ∃ x, look part c.m = some x ∧ c.m[i]? = some (part, x) ∧ (movesF c)[i]? = some ⟨x, atOf x.mv c.at_⟩ ∧ x.part = part ∧ (part, x) ∈ c.m ∧ i < (movesF c).length := by
  cases hl : look part c.m with
  | none => rw [h.fnd_none hl] at hf; cases hf
  | some x =>
    obtain ⟨j, h1, h2⟩ := h.fnd_some hl
    obtain rfl : j = i := by rw [h1] at hf; exact Option.some.inj hf
    have h3 : (movesF c)[j]? = some ⟨x, atOf x.mv c.at_⟩ := by rw [movesF_eq, List.getElem?_map, h2]; rfl
    exact ⟨x, rfl, h2, h3, (h.mem _ (look_mem hl)).key, look_mem hl, (List.getElem?_eq_some_iff.1 h3).1⟩
theorem CdInv.mv_ne {n s k : Nat} {c : Cd} (h : CdInv n s k c) {i j : Nat} {q r : Int × En} (hi : c.m[i]? = some q) (hj : c.m[j]? = some r) (hne : j ≠ i) : r.2.mv ≠ q.2.mv := by
  have ho := List.pairwise_iff_getElem.1 h.ord
  obtain ⟨h1, h2⟩ := List.getElem?_eq_some_iff.1 hi
  obtain ⟨h3, h4⟩ := List.getElem?_eq_some_iff.1 hj
  rcases Nat.lt_or_gt_of_ne hne with hl | hl
  · have := ho j i (by simpa using h3) (by simpa using h1) hl
    simp only [List.getElem_map, h2, h4] at this
    omega
  · have := ho i j (by simpa using h1) (by simpa using h3) hl
    simp only [List.getElem_map, h2, h4] at this
    omega
/-- A move's state is written. -/
theorem CdInv.moves_set {n s k : Nat} {c c' : Cd} (h : CdInv n s k c) {i : Nat} {q : Int × En} (hi : c.m[i]? = some q) {v : St} (hm : c'.m = c.m) (ha : c'.at_ = put q.2.mv v c.at_) : movesF c' = (movesF c).set i ⟨q.2, v⟩ := by
  rw [movesF_eq, movesF_eq, hm, ha]
  apply List.ext_getElem?
  intro j
  rw [List.getElem?_set, List.getElem?_map, List.length_map]
  have hil := (List.getElem?_eq_some_iff.1 hi).1
  by_cases hj : i = j
  · subst hj
    rw [if_pos rfl, if_pos hil, hi]
    simp only [Option.map_some, moOf]
    rw [atOf_put, if_pos rfl]
  · rw [if_neg hj, List.getElem?_map]
    cases hr : c.m[j]? with
    | none => rfl
    | some r =>
      simp only [Option.map_some, moOf]
      rw [atOf_put, if_neg (h.mv_ne hi hr (fun e => hj e.symm))]
theorem set_self {α : Type} {l : List α} {i : Nat} {x : α} (h : l[i]? = some x) : l.set i x = l := by
  apply List.ext_getElem?
  intro j
  rw [List.getElem?_set]
  by_cases hj : i = j
  · subst hj
    rw [if_pos rfl, if_pos (List.getElem?_eq_some_iff.1 h).1, h]
  · rw [if_neg hj]
theorem CdInv.del_erase {n s k : Nat} {c : Cd} (h : CdInv n s k c) {i : Nat} {q : Int × En} (hi : c.m[i]? = some q) : del q.1 c.m = c.m.eraseIdx i := by
  have hq := List.mem_of_getElem? hi
  cases hp : pos q.1 (c.m.map (·.1)) 0 with
  | none =>
    have := pos_none.1 hp
    rw [look_of_mem h.keys hq] at this
    cases this
  | some j =>
    rw [← eraseIdx_del h.keys hp]
    obtain ⟨v, h1, h2⟩ := pos_some hp
    congr 1
    refine Classical.byContradiction fun hne => ?_
    have h3 := h.inj2 (q := q) (q' := (q.1, v)) hq (List.mem_of_getElem? h1) (by rw [(h.mem _ hq).key, (h.mem _ (List.mem_of_getElem? h1)).key])
    exact h.mv_ne hi h1 hne (by rw [h3])
/-- A move is over. -/
theorem erase_map {α β : Type} (f : α → β) : ∀ (l : List α) (i : Nat), (l.map f).eraseIdx i = (l.eraseIdx i).map f
  | [], _ => rfl
  | _ :: _, 0 => rfl
  | a :: l, i + 1 => by simp only [List.map_cons, List.eraseIdx_cons_succ, erase_map f l i]
theorem CdInv.moves_del {n s k : Nat} {c c' : Cd} (h : CdInv n s k c) {i : Nat} {q : Int × En} (hi : c.m[i]? = some q) (hm : c'.m = del q.1 c.m) (ha : ∀ j, j ≠ q.2.mv → atOf j c'.at_ = atOf j c.at_) : movesF c' = (movesF c).take i ++ (movesF c).drop (i + 1) := by
  rw [← List.eraseIdx_eq_take_drop_succ, movesF_eq, movesF_eq, hm, h.del_erase hi, erase_map]
  refine List.map_congr_left fun r hr => ?_
  obtain ⟨j, hj⟩ := List.getElem?_of_mem hr
  unfold moOf
  rw [ha]
  rw [List.getElem?_eraseIdx] at hj
  split at hj
  · exact h.mv_ne hi hj (by omega)
  · exact h.mv_ne hi hj (by omega)
theorem CdInv.moves_ord {n s k : Nat} {c : Cd} (h : CdInv n s k c) {x : En} (hx : x.mv = c.last + 1) (v : St) {c' : Cd} (hm : c'.m = c.m ++ [(x.part, x)]) (ha : c'.at_ = put x.mv v c.at_) : movesF c' = movesF c ++ [⟨x, v⟩] := by
  rw [movesF_eq, movesF_eq, hm, ha, List.map_append]
  congr 1
  · refine List.map_congr_left fun r hr => ?_
    unfold moOf
    have := (h.mem r hr).mv
    rw [atOf_put, if_neg (by omega)]
  · simp only [List.map_cons, List.map_nil, moOf]
    rw [atOf_put, if_pos rfl]
/-! Each act beside the document's. -/
theorem ord_no {c : Cd} {part to : Int} (h : (c.tb none 0).may part to ≠ 0) : coOrd c part to = (0, (c.tb none 0).may part to, c) := by
  unfold coOrd ordF
  rw [if_pos h]
  simp only [if_neg h]
theorem ord_move {c : Cd} {part to : Int} (h : (c.tb none 0).may part to = 0) (hl : (look part c.m).isSome = true) : coOrd c part to = (0, 20, c) := by
  unfold coOrd ordF
  rw [if_neg (by simp [h]), if_pos hl]
  rfl
theorem ord_yes {n s k : Nat} {c : Cd} (h : CdInv n s k c) (hk : k ≤ 300) {part to : Int} (hm : (c.tb none 0).may part to = 0) (hl : look part c.m = none) :
    (coOrd c part to).1 = c.last + 1 ∧ (coOrd c part to).2.1 = 0 ∧ (coOrd c part to).2.2 = { c with m := c.m ++ [(part, ⟨c.last + 1, part, c.own[part.toNat]?.getD 0, to⟩)], last := c.last + 1, at_ := put (c.last + 1) ⟨1, 0⟩ c.at_ } := by
  have h3 := h.last
  unfold coOrd ordF
  rw [if_neg (by simp [hm]), if_neg (by simp [hl]), if_neg (by omega)]
  exact ⟨rfl, rfl, rfl⟩
theorem CdInv.by_mv {n s k : Nat} {c : Cd} (h : CdInv n s k c) {q : Int × En} (hq : q ∈ c.m) : findMv q.2.mv (c.m.map (·.2)) = some q.2 := by
  cases hf : findMv q.2.mv (c.m.map (·.2)) with
  | none =>
    unfold findMv at hf
    have := List.find?_eq_none.1 hf q.2 (List.mem_map_of_mem hq)
    simp at this
  | some x =>
    obtain ⟨q', hq', rfl, he⟩ := findMv_mem hf
    rw [h.inj hq' hq he]
/-- Handle, by the shard. -/
theorem handle_none {n s k : Nat} {c : Cd} (h : CdInv n s k c) {fr : Int} {kd : Nat} {mv pt code : Int} (hf : fnd pt (movesF c) = none) : coHandle c fr kd mv pt code = (false, c) := by
  unfold coHandle
  split
  · rfl
  · rename_i x hx
    obtain ⟨q, hq, rfl, _⟩ := findMv_mem hx
    rw [if_pos]
    intro e
    have hl := look_of_mem h.keys (k := q.1) (v := q.2) hq
    rw [← (h.mem q hq).key, e] at hl
    obtain ⟨i, h1, _⟩ := h.fnd_some hl
    rw [h1] at hf
    cases hf
theorem handle_some {n s k : Nat} {c : Cd} (h : CdInv n s k c) {fr : Int} {kd : Nat} {mv pt code : Int} {x : En} (hl : look pt c.m = some x) : coHandle c fr kd mv pt code = if x.mv ≠ mv then (false, c) else if kd = 10 ∧ (atOf x.mv c.at_).st = 1 ∧ fr = x.to then (true, coReady c x code) else if kd = 13 ∧ (atOf x.mv c.at_).st ≠ 1 then coDone c x fr else (false, c) := by
  have hq := look_mem hl
  have hp := (h.mem _ hq).key
  simp only at hp
  by_cases hm : x.mv = mv
  · subst hm
    unfold coHandle
    rw [h.by_mv hq]
    simp only
    rw [if_neg (by simp [hp]), if_neg (show ¬ (x.mv ≠ x.mv) by simp)]
  · rw [if_pos hm]
    unfold coHandle
    split
    · rfl
    · rename_i y hy
      obtain ⟨q, hq', rfl, he⟩ := findMv_mem hy
      rw [if_pos]
      intro e
      have := h.inj2 hq' hq (by rw [e]; exact hp.symm)
      subst this
      exact hm he
end
end Go.Proofs.YteejdfpfdnkiiaaGreat
