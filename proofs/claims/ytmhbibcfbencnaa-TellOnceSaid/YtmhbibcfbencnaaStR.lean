/- The store as its windows in their row: plain laws. -/
import Derived.Test.YtmhbibcfbencnaaStM
import Derived.Test.YtmhbibcfbencnaaStH
namespace Go.Proofs.Ytmhbibcfbencnaa
open Go.RowKit Go.Lib
set_option linter.unusedSimpArgs false
set_option linter.unusedVariables false
def ltB (x y : Ot) : Bool := decide (x.st < y.st) || (decide (x.st = y.st) && bl x.key.toList y.key.toList)
theorem ltB_iff {x y : Ot} : ltB x y = true ↔ ltO x y := by unfold ltB ltO; simp
theorem ltB_false {x y : Ot} : ltB x y = false ↔ ¬ ltO x y := by rw [← ltB_iff]; simp
theorem ltO_asymm {x y : Ot} (h : ltO x y) : ¬ ltO y x := fun k => ltO_irrefl _ (ltO_trans h k)
theorem ltO_wd {x y x' y' : Ot} (hx : wdOf x = wdOf x') (hy : wdOf y = wdOf y') : ltO x y ↔ ltO x' y' := by
  have a1 : x.st = x'.st := congrArg Wd.st hx
  have a2 : x.key = x'.key := congrArg Wd.key hx
  have b1 : y.st = y'.st := congrArg Wd.st hy
  have b2 : y.key = y'.key := congrArg Wd.key hy
  unfold ltO; rw [a1, a2, b1, b2]
theorem wd_eq_of {x y : Ot} (h1 : ¬ ltO x y) (h2 : ¬ ltO y x) : wdOf x = wdOf y := by
  apply Classical.byContradiction
  intro hne
  have : x.st ≠ y.st ∨ x.key ≠ y.key := by
    by_cases e : x.st = y.st
    · right; intro e2; apply hne; unfold wdOf; rw [e, e2]
    · exact .inl e
  rcases ltO_total this with h | h
  · exact h1 h
  · exact h2 h
/-- A window's aggregate. -/
def lkL (x : Wd) : List Ot → Option Ag
  | [] => none
  | o :: r => if x = wdOf o then some o.ag else lkL x r
/-- A window opened, or another aggregate in its place. -/
def insL (o : Ot) : List Ot → List Ot
  | [] => [o]
  | y :: r => if ltB o y then o :: y :: r else if ltB y o then y :: insL o r else o :: r
theorem insL_mem {o z : Ot} {L : List Ot} (h : z ∈ insL o L) : z = o ∨ z ∈ L := by
  induction L with
  | nil => simp [insL] at h; exact .inl h
  | cons y r ih =>
    unfold insL at h
    split at h
    · simpa using h
    · split at h
      · rcases List.mem_cons.1 h with h | h
        · exact .inr (List.mem_cons.2 (.inl h))
        · rcases ih h with h | h
          · exact .inl h
          · exact .inr (List.mem_cons.2 (.inr h))
      · rcases List.mem_cons.1 h with h | h
        · exact .inl h
        · exact .inr (List.mem_cons.2 (.inr h))
theorem insL_up {o : Ot} {L : List Ot} (h : L.Pairwise ltO) : (insL o L).Pairwise ltO := by
  induction L with
  | nil => simp [insL]
  | cons y r ih =>
    obtain ⟨h1, h2⟩ := List.pairwise_cons.1 h
    unfold insL
    split
    · rename_i hlt
      have hlt := ltB_iff.1 hlt
      refine List.pairwise_cons.2 ⟨fun z hz => ?_, h⟩
      rcases List.mem_cons.1 hz with rfl | hz
      · exact hlt
      · exact ltO_trans hlt (h1 z hz)
    · rename_i hn
      split
      · rename_i hlt
        have hlt := ltB_iff.1 hlt
        refine List.pairwise_cons.2 ⟨fun z hz => ?_, ih h2⟩
        rcases insL_mem hz with rfl | hz
        · exact hlt
        · exact h1 z hz
      · rename_i hn2
        have e := wd_eq_of (fun h => hn (ltB_iff.2 h)) (fun h => hn2 (ltB_iff.2 h))
        exact List.pairwise_cons.2 ⟨fun z hz => (ltO_wd e rfl).2 (h1 z hz), h2⟩
theorem lkL_none {x : Wd} {L : List Ot} : lkL x L = none ↔ ∀ o ∈ L, x ≠ wdOf o := by
  induction L with
  | nil => simp [lkL]
  | cons y r ih =>
    simp only [lkL, List.mem_cons, forall_eq_or_imp]
    split
    · rename_i e; simp [e]
    · rename_i e; rw [ih]; exact ⟨fun h => ⟨e, h⟩, fun h => h.2⟩
theorem lkL_mem {x : Wd} {a : Ag} {L : List Ot} (h : lkL x L = some a) : (⟨x.key, x.st, a⟩ : Ot) ∈ L := by
  induction L with
  | nil => simp [lkL] at h
  | cons y r ih =>
    unfold lkL at h
    split at h
    · rename_i e; cases h; subst e; exact List.mem_cons.2 (.inl rfl)
    · exact List.mem_cons.2 (.inr (ih h))
theorem lkL_of_mem {o : Ot} {L : List Ot} (hu : L.Pairwise ltO) (h : o ∈ L) : lkL (wdOf o) L = some o.ag := by
  induction L with
  | nil => cases h
  | cons y r ih =>
    obtain ⟨h1, h2⟩ := List.pairwise_cons.1 hu
    unfold lkL
    rcases List.mem_cons.1 h with rfl | h
    · rw [if_pos rfl]
    · rw [if_neg (fun e => ltO_ne (h1 o h) e.symm)]
      exact ih h2 h
theorem look_otOf (x : Wd) (m : St) : look x m = lkL x (m.map otOf) := by
  induction m with
  | nil => rfl
  | cons q r ih =>
    simp only [look, List.map_cons, lkL]
    have e : wdOf (otOf q) = q.1 := rfl
    rw [e, ih]
    rfl
theorem lkL_perm {x : Wd} {L M : List Ot} (h : L.Perm M) (hn : (L.map wdOf).Nodup) : lkL x L = lkL x M := by
  induction h with
  | nil => rfl
  | cons y _ ih =>
    simp only [List.map_cons, List.nodup_cons] at hn
    simp only [lkL, ih hn.2]
  | swap y z l =>
    simp only [List.map_cons, List.nodup_cons, List.mem_cons, not_or] at hn
    simp only [lkL]
    split
    · rename_i e
      split
      · rename_i e2; exact absurd (e.symm.trans e2) hn.1.1
      · rfl
    · rfl
  | trans p q ih1 ih2 => rw [ih1 hn, ih2 ((p.map wdOf).nodup_iff.1 hn)]
theorem OrdO.look {m : St} {L : List Ot} (h : OrdO m L) (x : Wd) : look x m = lkL x L := by
  rw [look_otOf, lkL_perm h.perm (up_nodup h.up)]
theorem insL_perm_new {o : Ot} {L : List Ot} (hu : L.Pairwise ltO) (h : lkL (wdOf o) L = none) : (insL o L).Perm (o :: L) := by
  induction L with
  | nil => simp [insL]
  | cons y r ih =>
    obtain ⟨h1, h2⟩ := List.pairwise_cons.1 hu
    have hne := lkL_none.1 h
    have hr : lkL (wdOf o) r = none := lkL_none.2 fun z hz => hne z (List.mem_cons.2 (.inr hz))
    unfold insL
    split
    · exact List.Perm.refl _
    · rename_i n1
      split
      · exact ((ih h2 hr).cons y).trans (List.Perm.swap o y r)
      · rename_i n2
        exact absurd (wd_eq_of (fun h => n1 (ltB_iff.2 h)) (fun h => n2 (ltB_iff.2 h))) (hne y (List.mem_cons.2 (.inl rfl)))
theorem insL_old {o : Ot} {L : List Ot} (hu : L.Pairwise ltO) (h : (lkL (wdOf o) L).isSome = true) : insL o L = L.map fun y => if wdOf o = wdOf y then o else y := by
  induction L with
  | nil => simp [lkL] at h
  | cons y r ih =>
    obtain ⟨h1, h2⟩ := List.pairwise_cons.1 hu
    unfold insL
    by_cases e : wdOf o = wdOf y
    · have n1 : ¬ ltB o y = true := fun h => ltO_ne (ltB_iff.1 h) e
      have n2 : ¬ ltB y o = true := fun h => ltO_ne (ltB_iff.1 h) e.symm
      rw [if_neg n1, if_neg n2, List.map_cons, if_pos e]
      congr 1
      symm
      refine (List.map_congr_left (g := id) fun z hz => ?_).trans (List.map_id r)
      rw [if_neg (fun e2 => ltO_ne (h1 z hz) (e.symm.trans e2))]; rfl
    · have hr : (lkL (wdOf o) r).isSome = true := by simpa [lkL, e] using h
      obtain ⟨a, ha⟩ := Option.isSome_iff_exists.1 hr
      have hm := lkL_mem ha
      have hyo : ltO y o := by
        have := h1 _ hm
        exact (ltO_wd rfl (show wdOf _ = wdOf o from rfl)).1 this
      rw [if_neg (fun h => ltO_asymm hyo (ltB_iff.1 h)), if_pos (ltB_iff.2 hyo), List.map_cons, if_neg e, ih h2 hr]
theorem OrdO.put {m : St} {L : List Ot} (h : OrdO m L) (o : Ot) : OrdO (put (wdOf o) o.ag m) (insL o L) := by
  refine ⟨?_, insL_up h.up⟩
  unfold Go.Proofs.Ytmhbibcfbencnaa.put
  rw [h.look]
  cases hl : lkL (wdOf o) L with
  | none =>
    simp only [Option.isSome_none, Bool.false_eq_true, if_false, List.map_append, List.map_cons, List.map_nil]
    have e : otOf (wdOf o, o.ag) = o := rfl
    rw [e]
    exact ((insL_perm_new h.up hl).trans (h.perm.cons o)).trans (List.perm_append_comm (l₁ := [o]) (l₂ := m.map otOf))
  | some a =>
    simp only [Option.isSome_some, if_true]
    rw [insL_old h.up (by rw [hl]; rfl)]
    refine (h.perm.map _).trans ?_
    rw [List.map_map, List.map_map]
    refine List.Perm.of_eq (List.map_congr_left fun q _ => ?_)
    simp only [Function.comp]
    have eq : wdOf (otOf q) = q.1 := rfl
    rw [eq]
    by_cases e : wdOf o = q.1
    · rw [if_pos e, if_pos e]
      obtain ⟨⟨s, k⟩, a⟩ := q
      obtain ⟨ok, os, oa⟩ := o
      simp only [wdOf, Wd.mk.injEq] at e
      simp only [otOf, Ot.mk.injEq]
      exact ⟨e.2, e.1, trivial⟩
    · rw [if_neg e, if_neg e]
/-- The store's answers, by its windows in their row. -/
def putL (L : List Ot) (k : ByteArray) (t v : Int) : Int × List Ot :=
  if keyB k = false ∨ rightB t = false then (1, L)
  else if (lkL ⟨startI t, k⟩ L).isSome = false ∧ 32 ≤ L.length then (6, L)
  else (0, insL ⟨k, startI t, ((lkL ⟨startI t, k⟩ L).getD Ag.zero).put v⟩ L)
theorem putL_of {m : St} {L : List Ot} (h : OrdO m L) (k : ByteArray) (t v : Int) : (stPut m k t v).1 = (putL L k t v).1 ∧ OrdO (stPut m k t v).2 (putL L k t v).2 := by
  unfold stPut putL
  rw [h.look, ← hS_len h]
  split
  · exact ⟨rfl, h⟩
  · split
    · exact ⟨rfl, h⟩
    · exact ⟨rfl, h.put ⟨k, startI t, _⟩⟩
/-- A store in memory whose windows are L. -/
def SrAt (W : World) (p b : Nat) (L : List Ot) : Prop := ∃ m, StAt W p b m ∧ OrdO m L
theorem SrAt.keep {X : List Nat} {W W' : World} {p b : Nat} {L : List Ot} (h : SrAt W p b L) (hk : Keep X W W') (hp : p ∉ X) (hb : b ∉ X) : SrAt W' p b L := by
  obtain ⟨m, h1, h2⟩ := h; exact ⟨m, h1.keep hk hp hb, h2⟩
theorem SrAt.below {W W' : World} {p b : Nat} {L : List Ot} (h : SrAt W p b L) (hk : Below W.heap.size W W') : SrAt W' p b L := by
  obtain ⟨m, h1, h2⟩ := h; exact ⟨m, h1.below hk, h2⟩
theorem SrAt.lt {W : World} {p b : Nat} {L : List Ot} (h : SrAt W p b L) : p < W.heap.size ∧ b < W.heap.size ∧ p ≠ b := by obtain ⟨m, h1, _⟩ := h; exact h1.lt
theorem SrAt.up {W : World} {p b : Nat} {L : List Ot} (h : SrAt W p b L) : L.Pairwise ltO := by obtain ⟨m, _, h⟩ := h; exact h.up
theorem rput_any {w : World} {p b : Nat} {L : List Ot} (h : SrAt w p b L) (hm : L.length ≤ 1000) (k : ByteArray) (hk : k.size ≤ maxLen) (t v : Int) :
    Calls Try.prog 20 #[.pointer (some ⟨p, 0, none⟩), .string k, .int .i64 t, .int .i64 v] w fun e w' => e = .returned (.int .i64 (putL L k t v).1) ∧ SrAt w' p b (putL L k t v).2 ∧ Keep [b] w w' := by
  obtain ⟨m, h1, h2⟩ := h
  refine (sput_any h1 h2.nodup (by rw [← hS_len h2]; exact hm) k hk t v).mono ?_
  rintro e w' ⟨rfl, h3, h4⟩
  obtain ⟨e1, e2⟩ := putL_of h2 k t v
  exact ⟨by rw [e1], ⟨_, h3, e2⟩, h4⟩
theorem rlen_any {w : World} {p b : Nat} {L : List Ot} (h : SrAt w p b L) : Calls Try.prog 42 #[.pointer (some ⟨p, 0, none⟩)] w fun e w' => e = .returned (.int .i64 L.length) ∧ w = w' := by
  obtain ⟨m, h1, h2⟩ := h
  rw [hS_len h2]
  exact slen_any h1
theorem rall_any {w : World} {p b : Nat} {L : List Ot} (h : SrAt w p b L) (hm : L.length ≤ 1000) : Calls Try.prog 21 #[.pointer (some ⟨p, 0, none⟩)] w (AllO w L) := by
  obtain ⟨m, h1, h2⟩ := h
  exact sall_any h1 (by rw [← hS_len h2]; exact hm) h2
theorem rget_any {w : World} {p b : Nat} {L : List Ot} (h : SrAt w p b L) (k : ByteArray) (s : Int) :
    Calls Try.prog 25 #[.pointer (some ⟨p, 0, none⟩), .string k, .int .i64 s] w fun e w' => e = .returned (.tuple #[((lkL ⟨s, k⟩ L).getD Ag.zero).val, .bool (lkL ⟨s, k⟩ L).isSome]) ∧ Below w.heap.size w w' := by
  obtain ⟨m, h1, h2⟩ := h
  rw [← h2.look]
  exact sget_any h1 k s
def TakeR (w : World) (p b : Nat) (t : Int) (L : List Ot) (e : Ending) (w' : World) : Prop :=
  ∃ A c, e = .returned (.slice A (overL t L).length c) ∧ OtsAt w.heap.size w' A (overL t L) ∧ SrAt w' p b (restL t L) ∧ Keep [b] w w'
theorem rtake_any {w : World} {p b : Nat} {L : List Ot} (h : SrAt w p b L) (hm : L.length ≤ 1000) (t : Int) : Calls Try.prog 22 #[.pointer (some ⟨p, 0, none⟩), .int .i64 t] w (TakeR w p b t L) := by
  obtain ⟨m, h1, h2⟩ := h
  refine (stake_any h1 (by rw [← hS_len h2]; exact hm) h2 t).mono ?_
  rintro e w' ⟨A, c, m', he, hE, hS, hO, hK⟩
  exact ⟨A, c, he, hE, ⟨m', hS, hO⟩, hK⟩
theorem put_len (L : List Ot) (k : ByteArray) (t v : Int) (h : L.length ≤ 32) (hu : L.Pairwise ltO) : (putL L k t v).2.length ≤ 32 := by
  unfold putL
  split
  · exact h
  · split
    · exact h
    · rename_i hn
      obtain ⟨a, ha⟩ : ∃ a, ((lkL ⟨startI t, k⟩ L).getD Ag.zero).put v = a := ⟨_, rfl⟩
      rw [ha]
      cases hl : lkL ⟨startI t, k⟩ L with
      | none =>
        have := (insL_perm_new (o := ⟨k, startI t, a⟩) hu hl).length_eq
        rw [hl] at hn
        simp at hn this ⊢
        omega
      | some b =>
        have := insL_old (o := ⟨k, startI t, a⟩) hu (by show (lkL ⟨startI t, k⟩ L).isSome = true; rw [hl]; rfl)
        rw [this]; simpa using h
end Go.Proofs.Ytmhbibcfbencnaa
