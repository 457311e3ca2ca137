/- The store as its windows in their row: two values in either row; what values add up to. -/
import Derived.Test.YtmhbibcfbencnaaStU
namespace Go.Proofs.Ytmhbibcfbencnaa
open Go.RowKit Go.Lib
set_option linter.unusedSimpArgs false
set_option linter.unusedVariables false
theorem lkL_ins {o : Ot} {L : List Ot} (hu : L.Pairwise ltO) (x : Wd) : lkL x (insL o L) = if x = wdOf o then some o.ag else lkL x L := by
  induction L with
  | nil => simp [insL, lkL]
  | cons y r ih =>
    obtain ⟨h1, h2⟩ := List.pairwise_cons.1 hu
    unfold insL
    split
    · simp only [lkL]
    · rename_i n1
      split
      · rename_i n2
        simp only [lkL, ih h2]
        by_cases e : x = wdOf y
        · rw [if_pos e, if_pos e, if_neg (fun e2 => ltO_ne (ltB_iff.1 n2) (e.symm.trans e2))]
        · rw [if_neg e, if_neg e]
      · rename_i n2
        have e : wdOf o = wdOf y := wd_eq_of (fun h => n1 (ltB_iff.2 h)) (fun h => n2 (ltB_iff.2 h))
        simp only [lkL, ← e]
        split <;> rfl
theorem mem_lkL {o : Ot} {L : List Ot} (hu : L.Pairwise ltO) : o ∈ L ↔ lkL (wdOf o) L = some o.ag :=
  ⟨lkL_of_mem hu, fun h => by have := lkL_mem h; exact this⟩
theorem up_ext {L M : List Ot} (hL : L.Pairwise ltO) (hM : M.Pairwise ltO) (h : ∀ x, lkL x L = lkL x M) : L = M := by
  have hn : ∀ {L : List Ot}, L.Pairwise ltO → L.Nodup := fun h => h.imp fun h e => by subst e; exact ltO_irrefl _ h
  have hp : L.Perm M := (List.perm_ext_iff_of_nodup (hn hL) (hn hM)).2 fun o => by rw [mem_lkL hL, mem_lkL hM, h]
  exact sortedO_eq hp (hL.imp fun h k => ltO_asymm h k) hM
theorem ins_comm {o o' : Ot} {L : List Ot} (hu : L.Pairwise ltO) (h : wdOf o ≠ wdOf o') : insL o (insL o' L) = insL o' (insL o L) := by
  refine up_ext (insL_up (insL_up hu)) (insL_up (insL_up hu)) fun x => ?_
  rw [lkL_ins (insL_up hu), lkL_ins hu, lkL_ins (insL_up hu), lkL_ins hu]
  by_cases e : x = wdOf o
  · rw [if_pos e, if_neg (fun e2 => h (e.symm.trans e2)), if_pos e]
  · rw [if_neg e, if_neg e]
theorem ins_len {o : Ot} {L : List Ot} (hu : L.Pairwise ltO) : (insL o L).length = if (lkL (wdOf o) L).isSome then L.length else L.length + 1 := by
  cases hl : lkL (wdOf o) L with
  | none => simpa using (insL_perm_new hu hl).length_eq
  | some a => rw [insL_old hu (by rw [hl]; rfl)]; simp
/-- What a value does. -/
theorem putL_lk {L : List Ot} (hu : L.Pairwise ltO) (k : ByteArray) (t v : Int) (x : Wd) : lkL x (putL L k t v).2 = if (putL L k t v).1 = 0 ∧ x = ⟨startI t, k⟩ then some (((lkL x L).getD Ag.zero).put v) else lkL x L := by
  unfold putL
  split
  · simp
  · split
    · simp
    · simp only [true_and]
      rw [lkL_ins hu]
      have : wdOf (⟨k, startI t, ((lkL ⟨startI t, k⟩ L).getD Ag.zero).put v⟩ : Ot) = ⟨startI t, k⟩ := rfl
      rw [this]
      split
      · rename_i e; rw [e]
      · rfl
theorem putL_ne {L : List Ot} (k : ByteArray) (t v : Int) (h : (putL L k t v).1 ≠ 0) : (putL L k t v).2 = L := by
  unfold putL at *
  split at h
  · rename_i hc; rw [if_pos hc]
  · rename_i hc
    rw [if_neg hc]
    split at h
    · rename_i hd; rw [if_pos hd]
    · exact absurd rfl h
theorem putL_len {L : List Ot} (hu : L.Pairwise ltO) (k : ByteArray) (t v : Int) : (putL L k t v).2.length = if (putL L k t v).1 = 0 ∧ (lkL ⟨startI t, k⟩ L).isSome = false then L.length + 1 else L.length := by
  unfold putL
  split
  · simp
  · split
    · simp
    · simp only [true_and]
      rw [ins_len hu]
      have : wdOf (⟨k, startI t, ((lkL ⟨startI t, k⟩ L).getD Ag.zero).put v⟩ : Ot) = ⟨startI t, k⟩ := rfl
      rw [this]
      cases (lkL ⟨startI t, k⟩ L).isSome <;> simp
theorem putL_code (L : List Ot) (k : ByteArray) (t v : Int) : (putL L k t v).1 = if keyB k = false ∨ rightB t = false then 1 else if (lkL ⟨startI t, k⟩ L).isSome = false ∧ 32 ≤ L.length then 6 else 0 := by
  unfold putL
  split
  · rfl
  · split <;> rfl
/-- Two values for two windows may come in either row. -/
theorem putL_apart {L : List Ot} (hu : L.Pairwise ltO) {k k' : ByteArray} {t t' v v' : Int} (hne : (⟨startI t, k⟩ : Wd) ≠ ⟨startI t', k'⟩)
    (ha : (putL L k t v).1 ≠ 6) (hb : (putL (putL L k t v).2 k' t' v').1 ≠ 6) :
    (putL L k' t' v').1 = (putL (putL L k t v).2 k' t' v').1 ∧ (putL (putL L k' t' v').2 k t v).1 = (putL L k t v).1 ∧ (putL (putL L k' t' v').2 k t v).2 = (putL (putL L k t v).2 k' t' v').2 := by
  have up1 := putL_up k t v hu
  have up2 := putL_up k' t' v' hu
  -- the windows of one another's are as they were
  have l1 : lkL ⟨startI t', k'⟩ (putL L k t v).2 = lkL ⟨startI t', k'⟩ L := by rw [putL_lk hu, if_neg (fun h => hne h.2.symm)]
  have l2 : lkL ⟨startI t, k⟩ (putL L k' t' v').2 = lkL ⟨startI t, k⟩ L := by rw [putL_lk hu, if_neg (fun h => hne h.2)]
  have n1 := putL_len hu k t v
  have n2 := putL_len hu k' t' v'
  have c1 := putL_code L k t v
  have c2 := putL_code L k' t' v'
  have c3 := putL_code (putL L k t v).2 k' t' v'
  have c4 := putL_code (putL L k' t' v').2 k t v
  rw [l1] at c3
  rw [l2] at c4
  have hcodes : (putL L k' t' v').1 = (putL (putL L k t v).2 k' t' v').1 ∧ (putL (putL L k' t' v').2 k t v).1 = (putL L k t v).1 := by
    by_cases g1 : keyB k = false ∨ rightB t = false
    · rw [if_pos g1] at c1 c4
      rw [putL_ne k t v (by omega)] at c3
      exact ⟨by rw [c2, putL_ne k t v (by omega), c3], by rw [c4, c1]⟩
    · rw [if_neg g1] at c1 c4
      by_cases g2 : keyB k' = false ∨ rightB t' = false
      · rw [if_pos g2] at c2 c3
        rw [putL_ne k' t' v' (by omega)] at c4
        exact ⟨by omega, by rw [putL_ne k' t' v' (by omega)]⟩
      · rw [if_neg g2] at c2 c3
        have d1 : ¬ ((lkL ⟨startI t, k⟩ L).isSome = false ∧ 32 ≤ L.length) := fun h => by rw [if_pos h] at c1; exact ha c1
        rw [if_neg d1] at c1
        have d3 : ¬ ((lkL ⟨startI t', k'⟩ L).isSome = false ∧ 32 ≤ (putL L k t v).2.length) := fun h => by rw [if_pos h] at c3; exact hb c3
        rw [if_neg d3] at c3
        rw [c1] at n1
        simp only [true_and] at n1
        have d2 : ¬ ((lkL ⟨startI t', k'⟩ L).isSome = false ∧ 32 ≤ L.length) := fun h => d3 ⟨h.1, by rw [n1]; split <;> omega⟩
        rw [if_neg d2] at c2
        rw [c2] at n2
        simp only [true_and] at n2
        have d4 : ¬ ((lkL ⟨startI t, k⟩ L).isSome = false ∧ 32 ≤ (putL L k' t' v').2.length) := by
          rintro ⟨h1, h2⟩
          rw [n2] at h2
          split at h2
          · rename_i h3
            apply d3
            refine ⟨h3, ?_⟩
            rw [n1, if_pos h1]; omega
          · exact d1 ⟨h1, h2⟩
        rw [if_neg d4] at c4
        exact ⟨by rw [c2, c3], by rw [c4, c1]⟩
  obtain ⟨e1, e2⟩ := hcodes
  refine ⟨e1, e2, up_ext (putL_up _ _ _ up2) (putL_up _ _ _ up1) fun x => ?_⟩
  rw [putL_lk up2, putL_lk up1, putL_lk hu, putL_lk hu, e1, e2]
  by_cases x1 : x = ⟨startI t, k⟩
  · have x2 : x ≠ ⟨startI t', k'⟩ := fun e => hne (x1.symm.trans e)
    simp only [x2, and_false, if_false]
  · simp only [x1, and_false, if_false]
/-- A value touches no other window than its own. -/
theorem putL_old {L : List Ot} (hu : L.Pairwise ltO) (k : ByteArray) (t v : Int) {o : Ot} (ho : o ∈ L) : (lkL (wdOf o) (putL L k t v).2).isSome = true ∧ (wdOf o ≠ ⟨startI t, k⟩ → lkL (wdOf o) (putL L k t v).2 = some o.ag) := by
  have h1 := lkL_of_mem hu ho
  rw [putL_lk hu, h1]
  constructor
  · split <;> rfl
  · intro hne; rw [if_neg (fun h => hne h.2)]
/-- What the values of one window add up to. -/
structure SumOk (x : Wd) (L : List Ot) (vs : List Int) : Prop where
  ag : (lkL x L).getD Ag.zero = ofL vs
  op : (lkL x L).isSome = decide (0 < vs.length)
theorem SumOk.put {x : Wd} {L : List Ot} {vs : List Int} (h : SumOk x L vs) (hu : L.Pairwise ltO) (k : ByteArray) (t v : Int) :
    SumOk x (putL L k t v).2 (if (putL L k t v).1 = 0 ∧ k = x.key ∧ startI t = x.st then vs ++ [v] else vs) := by
  have hl := putL_lk hu k t v x
  have hx : (x = ⟨startI t, k⟩) ↔ (k = x.key ∧ startI t = x.st) := by
    obtain ⟨a, b⟩ := x
    simp only [Wd.mk.injEq]
    exact ⟨fun ⟨e1, e2⟩ => ⟨e2.symm, e1.symm⟩, fun ⟨e1, e2⟩ => ⟨e2.symm, e1.symm⟩⟩
  by_cases hc : (putL L k t v).1 = 0 ∧ x = ⟨startI t, k⟩
  · rw [if_pos hc] at hl
    rw [if_pos ⟨hc.1, hx.1 hc.2⟩]
    exact ⟨by rw [hl, ofL_snoc, ← h.ag]; rfl, by rw [hl]; simp⟩
  · rw [if_neg hc] at hl
    rw [if_neg (fun h2 => hc ⟨h2.1, hx.2 h2.2⟩)]
    exact ⟨by rw [hl]; exact h.ag, by rw [hl]; exact h.op⟩
theorem lkL_filter (p : Ot → Bool) {L : List Ot} (hu : L.Pairwise ltO) (x : Wd) : lkL x (L.filter p) = match lkL x L with | some a => if p ⟨x.key, x.st, a⟩ then some a else none | none => none := by
  have hf : (L.filter p).Pairwise ltO := hu.sublist List.filter_sublist
  cases hl : lkL x L with
  | none =>
    simp only
    rw [lkL_none] at hl ⊢
    exact fun o ho => hl o (List.mem_filter.1 ho).1
  | some a =>
    simp only
    have hm := lkL_mem hl
    by_cases hp : p ⟨x.key, x.st, a⟩ = true
    · rw [if_pos hp]
      exact lkL_of_mem hf (List.mem_filter.2 ⟨hm, hp⟩)
    · rw [if_neg hp, lkL_none]
      intro o ho e
      obtain ⟨h1, h2⟩ := List.mem_filter.1 ho
      have h3 := lkL_of_mem hu h1
      rw [← e, hl] at h3
      cases h3
      apply hp
      subst e
      exact h2
/-- Of a Take: what is over has what its values add up to. -/
theorem SumOk.over {x : Wd} {L : List Ot} {vs : List Int} (h : SumOk x L vs) (hu : L.Pairwise ltO) (t : Int) {o : Ot} (ho : o ∈ overL t L) (e : wdOf o = x) : o.ag = ofL vs := by
  have h1 := lkL_of_mem hu (List.mem_filter.1 ho).1
  have h2 := h.ag
  rw [← e, h1] at h2
  exact h2
theorem SumOk.take {x : Wd} {L : List Ot} {vs : List Int} (h : SumOk x L vs) (hu : L.Pairwise ltO) (t : Int) : SumOk x (restL t L) (if ∃ o ∈ overL t L, wdOf o = x then [] else vs) := by
  have hl := lkL_filter (fun o => !overB o.st t) hu x
  change lkL x (restL t L) = _ at hl
  by_cases hc : ∃ o ∈ overL t L, wdOf o = x
  · rw [if_pos hc]
    obtain ⟨o, ho, rfl⟩ := hc
    obtain ⟨h1, h2⟩ := List.mem_filter.1 ho
    rw [lkL_of_mem hu h1] at hl
    have h3 : overB o.st t = true := h2
    have hl2 : lkL (wdOf o) (restL t L) = none := hl.trans (if_neg (show ¬ (!overB o.st t) = true by rw [h3]; decide))
    exact ⟨by rw [hl2]; rfl, by rw [hl2]; rfl⟩
  · rw [if_neg hc]
    have he : lkL x (restL t L) = lkL x L := by
      rw [hl]
      cases hl2 : lkL x L with
      | none => rfl
      | some a =>
        have hm := lkL_mem hl2
        simp only
        rw [if_pos]
        cases ho : overB x.st t with
        | false => simp [ho]
        | true => exact absurd ⟨_, List.mem_filter.2 ⟨hm, ho⟩, rfl⟩ hc
    exact ⟨by rw [he]; exact h.ag, by rw [he]; exact h.op⟩
theorem over_rest_len (t : Int) (L : List Ot) : (overL t L).length + (restL t L).length = L.length := by
  unfold overL restL
  induction L with
  | nil => rfl
  | cons x r ih =>
    simp only [List.filter_cons]
    cases overB x.st t <;> simp <;> omega
end Go.Proofs.Ytmhbibcfbencnaa
