/- What is always so of a coordinator that began with a new table: the plain law. -/
import Derived.Test.YtdnfibecobodkaaGreatCeE
import Derived.Test.YtdnfibecobodkaaGreatCeC
namespace Go.Proofs.YtdnfibecobodkaaGreat
set_option linter.unusedSimpArgs false
set_option linter.unusedVariables false
section
variable {K V : Type} [DecidableEq K]
theorem look_map {j k : K} {v : V} : ∀ (m : List (K × V)), look j (m.map fun p => if k = p.1 then (p.1, v) else p) = if j = k then (look k m).map (fun _ => v) else look j m
  | [] => by simp [look]
  | x :: r => by
    have ih := look_map (j := j) (k := k) (v := v) r
    simp only [List.map_cons]
    by_cases hk : k = x.1
    · rw [if_pos hk]
      unfold look
      by_cases hj : j = k
      · subst hj
        simp [hk]
      · have hjx : j ≠ x.1 := fun e => hj (e.trans hk.symm)
        simp only [if_neg hjx, if_neg hj]
        rw [ih, if_neg hj]
    · rw [if_neg hk]
      unfold look
      by_cases hj : j = k
      · subst hj
        rw [if_neg hk, ih, if_pos rfl, if_pos rfl, if_neg hk]
      · rw [ih, if_neg hj, if_neg hj]
theorem look_snoc {j k : K} {v : V} : ∀ (m : List (K × V)), look j (m ++ [(k, v)]) = match look j m with | some u => some u | none => if j = k then some v else none
  | [] => by simp [look]
  | x :: r => by
    have ih := look_snoc (j := j) (k := k) (v := v) r
    simp only [List.cons_append]
    unfold look
    by_cases h : j = x.1
    · simp [h]
    · simp only [if_neg h]
      exact ih
theorem look_put {j k : K} {v : V} (m : List (K × V)) : look j (put k v m) = if j = k then some v else look j m := by
  unfold put
  split
  · rename_i h
    rw [look_map]
    split
    · cases hl : look k m with
      | none => rw [hl] at h; cases h
      | some u => rfl
    · rfl
  · rename_i h
    rw [look_snoc]
    by_cases hj : j = k
    · subst hj
      cases hl : look j m with
      | none => simp
      | some u => rw [hl] at h; simp at h
    · simp only [if_neg hj]
      cases look j m <;> rfl
theorem look_del {j k : K} : ∀ (m : List (K × V)), look j (del k m) = if j = k then none else look j m
  | [] => by simp [look, del]
  | x :: r => by
    have ih := look_del (j := j) (k := k) r
    unfold del at ih ⊢
    rw [List.filter_cons]
    by_cases hk : k = x.1
    · rw [if_neg (by simp [hk]), ih]
      by_cases hj : j = k
      · simp [hj]
      · have hjx : j ≠ x.1 := fun e => hj (e.trans hk.symm)
        conv => rhs; unfold look
        rw [if_neg hj, if_neg hj, if_neg hjx]
    · rw [if_pos (by simpa using hk)]
      unfold look
      by_cases hj : j = x.1
      · have hjk : j ≠ k := fun e => hk (e.symm.trans hj)
        rw [if_pos hj, if_neg hjk, if_pos hj]
      · rw [if_neg hj, ih, if_neg hj]
theorem mem_del {k : K} {m : List (K × V)} {q : K × V} : q ∈ del k m ↔ q ∈ m ∧ k ≠ q.1 := by
  unfold del
  rw [List.mem_filter]
  simp
end
theorem atOf_put {j k : Int} {v : St} {m : List (Int × St)} : atOf j (put k v m) = if j = k then v else atOf j m := by
  unfold atOf
  rw [look_put]
  split <;> rfl
theorem atOf_del {j k : Int} {m : List (Int × St)} : atOf j (del k m) = if j = k then St.zero else atOf j m := by
  unfold atOf
  rw [look_del]
  split <;> rfl
/-- What is so of a move that is under way. -/
structure EnOk (n s : Nat) (last : Int) (own : List Int) (at_ : List (Int × St)) (q : Int × En) : Prop where
  key : q.2.part = q.1
  mv : 1 ≤ q.2.mv ∧ q.2.mv ≤ last
  part : 0 ≤ q.2.part ∧ q.2.part < s
  fr : 0 ≤ q.2.fr ∧ q.2.fr < n
  to : 0 ≤ q.2.to ∧ q.2.to < n
  ne : q.2.fr ≠ q.2.to
  st : ((atOf q.2.mv at_).st = 1 ∧ (atOf q.2.mv at_).dn = 0) ∨ (atOf q.2.mv at_).st = 2 ∨ (atOf q.2.mv at_).st = 3
  dn : (atOf q.2.mv at_).dn ≤ 2
  own : own[q.2.part.toNat]?.getD 0 = if (atOf q.2.mv at_).st = 2 then q.2.to else q.2.fr
structure CdInv (n s k : Nat) (c : Cd) : Prop where
  keys : (c.m.map (·.1)).Nodup
  ats : (c.at_.map (·.1)).Nodup
  ord : (c.m.map (·.2)).Pairwise (fun x y => x.mv < y.mv)
  last : 0 ≤ c.last ∧ c.last ≤ k
  ep : 1 ≤ c.ep ∧ c.ep ≤ k + 1
  nd : c.nd = n
  len : c.own.length = s
  own : ∀ x ∈ c.own, 0 ≤ x ∧ x < n
  cnt : 0 ≤ c.com ∧ 0 ≤ c.abo ∧ c.com + c.abo + c.m.length ≤ k
  mem : ∀ q ∈ c.m, EnOk n s c.last c.own c.at_ q
  dn : ∀ j, (atOf j c.at_).dn ≤ 3
theorem CdInv.toMem {n s k : Nat} {c : Cd} (h : CdInv n s k c) (hk : k ≤ 300) : CdMem c := by
  have := h.cnt
  exact ⟨h.keys, h.ats, by omega, by omega, h.ord, h.dn⟩
theorem CdInv.toFine {n s k : Nat} {c : Cd} (h : CdInv n s k c) (hk : k ≤ 300) (hn : n ≤ 4) (hs : s ≤ 8) : CdFine c := by
  have h1 := h.cnt
  have h2 := h.ep
  have h3 := h.last
  refine ⟨fun x hx => ?_, by omega, by rw [h.nd]; omega, fun x hx => ?_, by rw [h.len]; omega, by omega, h.dn⟩
  · obtain ⟨q, hq, rfl⟩ := List.mem_map.1 hx
    have e := h.mem q hq
    have := e.mv
    have := e.part
    have := e.fr
    have := e.to
    omega
  · have := h.own x hx
    omega
theorem CdInv.mono {n s k k' : Nat} {c : Cd} (h : CdInv n s k c) (hk : k ≤ k') : CdInv n s k' c := by
  have h1 := h.cnt
  have h2 := h.ep
  have h3 := h.last
  exact ⟨h.keys, h.ats, h.ord, by omega, by omega, h.nd, h.len, h.own, by omega, h.mem, h.dn⟩
theorem pair_inj {L : List En} (h : L.Pairwise (fun x y => x.mv < y.mv)) {x y : En} (hx : x ∈ L) (hy : y ∈ L) (he : x.mv = y.mv) : x = y := by
  induction L with
  | nil => cases hx
  | cons z r ih =>
    rw [List.pairwise_cons] at h
    rcases List.mem_cons.1 hx with e1 | e1
    · rcases List.mem_cons.1 hy with e2 | e2
      · rw [e1, e2]
      · have := h.1 y e2
        rw [e1] at he
        omega
    · rcases List.mem_cons.1 hy with e2 | e2
      · have := h.1 x e1
        rw [e2] at he
        omega
      · exact ih h.2 e1 e2
theorem CdInv.inj {n s k : Nat} {c : Cd} (h : CdInv n s k c) {q q' : Int × En} (hq : q ∈ c.m) (hq' : q' ∈ c.m) (he : q.2.mv = q'.2.mv) : q = q' := by
  have e := pair_inj h.ord (List.mem_map_of_mem hq) (List.mem_map_of_mem hq') he
  have k1 := (h.mem q hq).key
  have k2 := (h.mem q' hq').key
  exact Prod.ext (by rw [← k1, ← k2, e]) e
theorem CdInv.inj2 {n s k : Nat} {c : Cd} (h : CdInv n s k c) {q q' : Int × En} (hq : q ∈ c.m) (hq' : q' ∈ c.m) (he : q.2.part = q'.2.part) : q = q' := by
  have k1 := (h.mem q hq).key
  have k2 := (h.mem q' hq').key
  have e1 := look_of_mem h.keys (k := q.1) (v := q.2) hq
  have e2 := look_of_mem h.keys (k := q'.1) (v := q'.2) hq'
  rw [← k1, he, k2, e2] at e1
  exact Prod.ext (by rw [← k1, ← k2, he]) ((Option.some.inj e1).symm)
/-- A move's state is written. -/
theorem CdInv.setSt {n s k : Nat} {c : Cd} (h : CdInv n s k c) {q : Int × En} (hq : q ∈ c.m) {v : St} (hv : v.st = 2 ∨ v.st = 3) (hd : v.dn ≤ 2) (ho : c.own[q.2.part.toNat]?.getD 0 = if v.st = 2 then q.2.to else q.2.fr) : CdInv n s k { c with at_ := put q.2.mv v c.at_ } := by
  refine ⟨h.keys, put_nodup h.ats, h.ord, h.last, h.ep, h.nd, h.len, h.own, h.cnt, fun q' hq' => ?_, fun j => ?_⟩
  · have e := h.mem q' hq'
    by_cases he : q'.2.mv = q.2.mv
    · obtain rfl := h.inj hq' hq he
      have ha : atOf q'.2.mv (put q'.2.mv v c.at_) = v := by rw [atOf_put, if_pos rfl]
      exact ⟨e.key, e.mv, e.part, e.fr, e.to, e.ne, by rw [ha]; exact .inr hv, by rw [ha]; exact hd, by rw [ha]; exact ho⟩
    · have ha : atOf q'.2.mv (put q.2.mv v c.at_) = atOf q'.2.mv c.at_ := by rw [atOf_put, if_neg he]
      exact ⟨e.key, e.mv, e.part, e.fr, e.to, e.ne, by rw [ha]; exact e.st, by rw [ha]; exact e.dn, by rw [ha]; exact e.own⟩
  · simp only
    rw [atOf_put]
    split
    · omega
    · exact h.dn j
theorem CdInv.order {n s k : Nat} {c : Cd} (h : CdInv n s k c) (part to : Int) : CdInv n s (k + 1) (coOrd c part to).2.2 := by
  have h1 := h.cnt
  have h2 := h.ep
  have h3 := h.last
  unfold coOrd ordF
  simp only
  split
  · rename_i hm
    simp only [if_neg hm]
    exact h.mono (by omega)
  · rename_i hm
    obtain ⟨g1, g2, g3, g4, g5, g6, g7⟩ := may_zero (Classical.not_not.1 hm)
    simp only [Cd.tb] at g3 g4 g5 g6 g7
    split
    · exact h.mono (by omega)
    · rename_i hlk
      split
      · exact h.mono (by omega)
      · rename_i hlast
        simp only [if_true]
        have hnone : look part c.m = none := by cases hh : look part c.m with | none => rfl | some v => rw [hh] at hlk; simp at hlk
        have hold : ∀ q ∈ c.m, atOf q.2.mv (put (c.last + 1) ⟨1, 0⟩ c.at_) = atOf q.2.mv c.at_ := fun q hq => by
          have := (h.mem q hq).mv
          rw [atOf_put, if_neg (by omega)]
        obtain ⟨i, rfl⟩ := Int.eq_ofNat_of_zero_le g3
        have hil : i < c.own.length := by omega
        have hoi : c.own[i]?.getD 0 ∈ c.own := by
          rw [List.getElem?_eq_getElem hil]
          exact List.getElem_mem hil
        simp only [Cd.tb, Int.toNat_natCast] at g7 ⊢
        refine ⟨snoc_nodup h.keys hnone, put_nodup h.ats, ?_, ⟨by simp only; omega, by simp only; push_cast; omega⟩, ⟨h2.1, by simp only; push_cast; omega⟩, h.nd, h.len, h.own, ⟨h1.1, h1.2.1, by simp only [List.length_append, List.length_cons, List.length_nil]; push_cast; omega⟩, fun q hq => ?_, fun j => ?_⟩
        · simp only [List.map_append, List.map_cons, List.map_nil]
          rw [List.pairwise_append]
          refine ⟨h.ord, by simp, fun x hx y hy => ?_⟩
          obtain ⟨q, hq, rfl⟩ := List.mem_map.1 hx
          have := (h.mem q hq).mv
          obtain rfl : y = _ := by simpa using hy
          simp only
          omega
        · rcases List.mem_append.1 hq with hq | hq
          · have e := h.mem q hq
            have ha := hold q hq
            exact ⟨e.key, ⟨e.mv.1, by have := e.mv.2; simp only; omega⟩, e.part, e.fr, e.to, e.ne, by simp only; rw [ha]; exact e.st, by simp only; rw [ha]; exact e.dn, by simp only; rw [ha]; exact e.own⟩
          · obtain rfl : q = _ := by simpa using hq
            have ha : atOf (c.last + 1) (put (c.last + 1) ⟨1, 0⟩ c.at_) = ⟨1, 0⟩ := by rw [atOf_put, if_pos rfl]
            have ho := h.own _ hoi
            have hnd := h.nd
            refine ⟨rfl, ⟨by simp only; omega, by simp only; omega⟩, ⟨g3, by simp only; have := h.len; omega⟩, ho, ⟨g5, by simp only; omega⟩, g7, ?_, ?_, ?_⟩
            · simp only; rw [ha]; exact .inl ⟨rfl, rfl⟩
            · simp only; rw [ha]; decide
            · simp only; rw [ha]; simp
        · simp only
          rw [atOf_put]
          split
          · decide
          · exact h.dn j
theorem look_in {part : Int} {c : Cd} (h : ¬ ((look part c.m).isSome = false)) : (part, (look part c.m).getD En.zero) ∈ c.m := by
  cases hl : look part c.m with
  | none => rw [hl] at h; simp at h
  | some v => exact look_mem hl
theorem CdInv.abort {n s k : Nat} {c : Cd} (h : CdInv n s k c) (part : Int) : CdInv n s (k + 1) (coAbort c part).2 := by
  unfold coAbort
  split
  · exact h.mono (by omega)
  · split
    · exact h.mono (by omega)
    · rename_i hl
      split
      · rename_i hs
        have hq := look_in hl
        have e := h.mem _ hq
        have ho := e.own
        simp only at ho hs
        rw [hs] at ho
        exact (h.setSt hq (v := ⟨3, 0⟩) (.inr rfl) (by decide) (by simpa using ho)).mono (by omega)
      · exact h.mono (by omega)
theorem findMv_mem {mv : Int} {c : Cd} {x : En} (h : findMv mv (c.m.map (·.2)) = some x) : ∃ q ∈ c.m, q.2 = x ∧ x.mv = mv := by
  unfold findMv at h
  have h1 := List.mem_of_find?_eq_some h
  have h2 := List.find?_some h
  obtain ⟨q, hq, rfl⟩ := List.mem_map.1 h1
  exact ⟨q, hq, rfl, by simpa using h2⟩
theorem CdInv.ready {n s k : Nat} {c : Cd} (h : CdInv n s k c) {q : Int × En} (hq : q ∈ c.m) (hs : (atOf q.2.mv c.at_).st = 1) (code : Int) : CdInv n s (k + 1) (coReady c q.2 code) := by
  have e := h.mem q hq
  have ho := e.own
  rw [hs] at ho
  unfold coReady
  split
  · rename_i hc
    have hm : (c.tb none 0).may q.2.part q.2.to = 0 := by
      have := hc.2
      unfold mvF at this
      split at this
      · assumption
      · exact this
    have h1 := h.cnt
    have h2 := h.ep
    have h3 := h.last
    unfold mvF
    rw [if_pos hm]
    simp only [Cd.tb]
    obtain ⟨p1, p2⟩ := e.part
    obtain ⟨i, hi⟩ := Int.eq_ofNat_of_zero_le p1
    have hil : i < c.own.length := by have := h.len; omega
    refine ⟨h.keys, put_nodup h.ats, h.ord, ⟨h3.1, by push_cast; omega⟩, ⟨by simp only; omega, by simp only; push_cast; omega⟩, h.nd, by simp [h.len], fun x hx => ?_, ⟨h1.1, h1.2.1, by simp only; push_cast; omega⟩, fun q' hq' => ?_, fun j => ?_⟩
    · rcases List.mem_or_eq_of_mem_set hx with hx | rfl
      · exact h.own x hx
      · exact e.to
    · have e' := h.mem q' hq'
      by_cases he : q'.2.mv = q.2.mv
      · obtain rfl := h.inj hq' hq he
        have ha : atOf q'.2.mv (put q'.2.mv ⟨2, 0⟩ c.at_) = ⟨2, 0⟩ := by rw [atOf_put, if_pos rfl]
        exact ⟨e.key, e.mv, e.part, e.fr, e.to, e.ne, by simp only; rw [ha]; exact .inr (.inl rfl), by simp only; rw [ha]; decide, by simp only; rw [ha, hi]; simp [hil]⟩
      · have ha : atOf q'.2.mv (put q.2.mv ⟨2, 0⟩ c.at_) = atOf q'.2.mv c.at_ := by rw [atOf_put, if_neg he]
        refine ⟨e'.key, e'.mv, e'.part, e'.fr, e'.to, e'.ne, by simp only; rw [ha]; exact e'.st, by simp only; rw [ha]; exact e'.dn, ?_⟩
        simp only
        rw [ha]
        have hne : q.2.part.toNat ≠ q'.2.part.toNat := by
          intro e2
          have := e'.part
          exact he (by rw [h.inj2 hq' hq (by omega)])
        rw [List.getElem?_set_ne hne]
        exact e'.own
    · simp only
      rw [atOf_put]
      split
      · decide
      · exact h.dn j
  · exact (h.setSt hq (v := ⟨3, 0⟩) (.inr rfl) (by decide) (by simpa using ho)).mono (by omega)
theorem CdInv.done {n s k : Nat} {c : Cd} (h : CdInv n s k c) {q : Int × En} (hq : q ∈ c.m) (hs : (atOf q.2.mv c.at_).st ≠ 1) (fr : Int) : CdInv n s (k + 1) (coDone c q.2 fr).2 := by
  have e := h.mem q hq
  have hst : (atOf q.2.mv c.at_).st = 2 ∨ (atOf q.2.mv c.at_).st = 3 := by
    rcases e.st with h1 | h1
    · exact absurd h1.1 hs
    · exact h1
  have hle := dnF_le (x := q.2) (fr := fr) (h.dn q.2.mv)
  unfold coDone
  split
  · have h1 := h.cnt
    have h2 := h.ep
    have h3 := h.last
    have hlen : (del q.2.part c.m).length < c.m.length := by
      unfold del
      rw [List.length_filter_lt_length_iff_exists]
      exact ⟨q, hq, by simp [e.key]⟩
    refine ⟨del_nodup h.keys, ((List.filter_sublist).map _).nodup (put_nodup h.ats), h.ord.sublist (List.filter_sublist.map _), ⟨h3.1, by push_cast; omega⟩, ⟨h2.1, by simp only; push_cast; omega⟩, h.nd, h.len, h.own, ?_, fun q' hq' => ?_, fun j => ?_⟩
    · simp only
      split <;> (push_cast; omega)
    · obtain ⟨hq1, hq2⟩ := mem_del.1 hq'
      have e' := h.mem q' hq1
      have hne : q'.2.mv ≠ q.2.mv := fun e2 => hq2 (by rw [h.inj hq1 hq e2]; exact e.key)
      have ha : atOf q'.2.mv (del q.2.mv (put q.2.mv ⟨(atOf q.2.mv c.at_).st, 3⟩ c.at_)) = atOf q'.2.mv c.at_ := by rw [atOf_del, if_neg hne, atOf_put, if_neg hne]
      exact ⟨e'.key, e'.mv, e'.part, e'.fr, e'.to, e'.ne, by simp only; rw [ha]; exact e'.st, by simp only; rw [ha]; exact e'.dn, by simp only; rw [ha]; exact e'.own⟩
    · simp only
      rw [atOf_del]
      split
      · decide
      · rw [atOf_put]
        split
        · simp
        · exact h.dn j
  · rename_i h3
    exact (h.setSt hq (v := ⟨(atOf q.2.mv c.at_).st, dnF q.2 fr (atOf q.2.mv c.at_).dn⟩) hst (by simp only; omega) e.own).mono (by omega)
theorem CdInv.handle {n s k : Nat} {c : Cd} (h : CdInv n s k c) (fr : Int) (kd : Nat) (mv pt code : Int) : CdInv n s (k + 1) (coHandle c fr kd mv pt code).2 := by
  unfold coHandle
  split
  · exact h.mono (by omega)
  · rename_i x hx
    obtain ⟨q, hq, rfl, _⟩ := findMv_mem hx
    split
    · exact h.mono (by omega)
    · split
      · rename_i hc
        exact h.ready hq hc.2.1 code
      · split
        · rename_i hc
          exact h.done hq hc.2 fr
        · exact h.mono (by omega)
theorem CdInv.one {n s k : Nat} {c : Cd} (h : CdInv n s k c) (x : Ac) : CdInv n s (k + 1) (oneF c x).2 := by
  unfold oneF
  split
  · exact h.order _ _
  · split
    · exact h.abort _
    · split
      · exact h.handle _ _ _ _ _
      · exact h.mono (by omega)
def cd0 (n s : Nat) : Cd := ⟨1, n, tnL n s, [], 0, [], 0, 0⟩
theorem cd0_inv {n s : Nat} (hn : 1 ≤ n) : CdInv n s 0 (cd0 n s) := by
  refine ⟨by simp [cd0], by simp [cd0], by simp [cd0], ⟨by simp [cd0], by simp [cd0]⟩, ⟨by simp [cd0], by simp [cd0]⟩, rfl, tnL_len n s, fun x hx => ?_, ⟨by simp [cd0], by simp [cd0], by simp [cd0]⟩, fun q hq => by simp [cd0] at hq, fun j => by simp [cd0, atOf, look, St.zero]⟩
  unfold cd0 tnL at hx
  obtain ⟨i, _, rfl⟩ := List.mem_map.1 hx
  have := Nat.mod_lt i hn
  omega
/-- A coordinator behind some acts. -/
def runC (c : Cd) (l : List Ac) : Cd := l.foldl (fun c x => (oneF c x).2) c
theorem runC_snoc (c : Cd) (l : List Ac) (x : Ac) : runC c (l ++ [x]) = (oneF (runC c l) x).2 := by
  unfold runC
  rw [List.foldl_append]
  rfl
theorem CdInv.run {n s k : Nat} {c : Cd} (h : CdInv n s k c) (l : List Ac) : CdInv n s (k + l.length) (runC c l) := by
  induction l generalizing c k with
  | nil => exact h
  | cons x r ih =>
    have := ih (h.one x)
    rw [List.length_cons, show k + (r.length + 1) = k + 1 + r.length from by omega]
    exact this
theorem inv_take {n s : Nat} (hn : 1 ≤ n) {l : List Ac} (hl : l.length ≤ 200) (j : Nat) : CdInv n s 200 (runC (cd0 n s) (l.take j)) :=
  ((cd0_inv hn).run (l.take j)).mono (by rw [List.length_take]; omega)
end Go.Proofs.YtdnfibecobodkaaGreat
