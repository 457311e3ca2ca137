/- tell, the plain law: the windows of a played line are right and not over; Of makes them again; marks that rise in steps. -/
import Derived.Test.YtmhbibcfbencnaaTeC
import Derived.Test.YtmhbibcfbencnaaTeD
namespace Go.Proofs.Ytmhbibcfbencnaa
open Go.RowKit Go.Lib
set_option linter.unusedSimpArgs false
set_option linter.unusedVariables false
theorem DocRow.rw {W : World} {base : Nat} {a : Option Addr} {c : Nat} {M : List Ot} (h : DocRow base W (.slice a M.length c) M) : OtsRow W a M := (otsAt_of_own h).row
theorem okW_kz {o : Ot} (h : OkW o) : o.key.size ≤ maxLen := by
  have hkk := ((okO_iff o).1 h.1).1
  unfold keyB at hkk
  rw [decide_eq_true_eq] at hkk
  unfold maxLen
  omega
structure LnOk (mk : Int) (L : List Ot) : Prop where
  R : rightB mk = true
  U : L.Pairwise ltO
  N : L.length ≤ 32
  K : ∀ o ∈ L, OkW o
  O : ∀ o ∈ L, overB o.st mk = false
theorem putL_st (L : List Ot) (k : ByteArray) (t v : Int) : ∀ o ∈ (putL L k t v).2, (o.st = startI t ∧ rightB t = true) ∨ o ∈ L := by
  unfold putL
  split
  · exact fun o h => .inr h
  · rename_i h1
    split
    · exact fun o h => .inr h
    · intro o ho
      rcases insL_mem ho with e | e
      · refine .inl ⟨by rw [e], ?_⟩
        cases hr : rightB t with
        | true => rfl
        | false => exact absurd (.inr hr) h1
      · exact .inr e
theorem LnOk.put {mk : Int} {L : List Ot} (h : LnOk mk L) (k : ByteArray) (t : Int) {v : Int} (hv : InR v) : LnOk mk (tpF mk L k t v).2 := by
  unfold tpF
  split
  · exact h
  · split
    · exact h
    · rename_i hl
      split
      · refine ⟨h.R, putL_up k t v h.U, put_len L k t v h.N h.U, okW_put h.U h.K k t hv, fun o ho => ?_⟩
        rcases putL_st L k t v o ho with ⟨e, hr⟩ | e
        · rw [e]
          have := late_eq (a := t) (m := mk)
          rw [hr, Bool.true_and] at this
          rw [← this]
          simpa using hl
        · exact h.O o e
      · exact h
theorem LnOk.rest {mk : Int} {L : List Ot} (h : LnOk mk L) {t : Int} (ht : rightB t = true) : LnOk t (restL t L) :=
  ⟨ht, h.U.filter _, Nat.le_trans (rest_len t L) h.N, fun o ho => h.K o (List.mem_filter.1 ho).1, fun o ho => by have := (List.mem_filter.1 ho).2; simpa using this⟩
theorem LnOk.mark {mk : Int} {L : List Ot} (h : LnOk mk L) (t : Int) : LnOk (tmF mk L t).2.2.1 (tmF mk L t).2.2.2 := by
  unfold tmF
  split
  · exact h
  · rename_i hr
    split
    · exact h
    · exact h.rest (by simpa using hr)
theorem LnOk.acts {mk : Int} {L told : List Ot} (h : LnOk mk L) (l : List A4) (hw : ∀ y ∈ l, A4.Wf y) : LnOk (plT (mk, L, told) l).1 (plT (mk, L, told) l).2.1 := by
  induction l generalizing mk L told with
  | nil => exact h
  | cons x r ih =>
    have hx := hw x (by simp)
    show LnOk (plT (acT (mk, L, told) x) r).1 (plT (acT (mk, L, told) x) r).2.1
    unfold acT
    split
    · exact ih (h.put _ _ hx.n) (fun y hy => hw y (by simp [hy]))
    · split
      · exact ih (h.mark _) (fun y hy => hw y (by simp [hy]))
      · exact ih h (fun y hy => hw y (by simp [hy]))
theorem LnOk.zero : LnOk 0 [] := ⟨by decide, List.Pairwise.nil, by simp, by simp, by simp⟩
/-- What is told is not too much. -/
theorem plT_len (s : Int × List Ot × List Ot) (l : List A4) (h : s.2.1.length ≤ 32) (hu : s.2.1.Pairwise ltO) : (plT s l).2.2.length ≤ s.2.2.length + 32 * l.length := by
  induction l generalizing s with
  | nil => simp [plT]
  | cons x r ih =>
    show (plT (acT s x) r).2.2.length ≤ _
    have hx : (acT s x).2.1.length ≤ 32 ∧ (acT s x).2.1.Pairwise ltO ∧ (acT s x).2.2.length ≤ s.2.2.length + 32 := by
      unfold acT
      split
      · have := tpF_up (mk := s.1) x.key x.t x.n h hu
        exact ⟨this.1, this.2, by simp⟩
      · split
        · have := tmF_up (mk := s.1) x.t h hu
          exact ⟨this.1, this.2.1, by simp only [List.length_append]; omega⟩
        · exact ⟨h, hu, by omega⟩
    have := ih (acT s x) hx.1 hx.2.1
    simp only [List.length_cons]
    omega
/-- Set of a window behind those that are there. -/
theorem set_behind {L : List Ot} (hu : L.Pairwise ltO) (h32 : L.length ≤ 32) (hok : ∀ x ∈ L, OkW x) {j : Nat} {o : Ot} (hj : L[j]? = some o) : setL (L.take j) o = (0, L.take (j + 1)) := by
  obtain ⟨hlt, he⟩ := List.getElem?_eq_some_iff.1 hj
  have ht : L.take (j + 1) = L.take j ++ [o] := by rw [List.take_add_one, hj]; rfl
  have hup : (L.take j ++ [o]).Pairwise ltO := by rw [← ht]; exact hu.sublist (List.take_sublist _ _)
  have hall : ∀ y ∈ L.take j, ltO y o := fun y hy => (List.pairwise_append.1 hup).2.2 y hy o (by simp)
  have hlen : (L.take j).length ≤ j := List.length_take_le _ _
  unfold setL
  rw [if_neg (by rw [(hok o (List.mem_of_getElem? hj)).1]; decide)]
  rw [if_neg (by rw [lkL_none.2 (fun y hy e => ltO_ne (hall y hy) e.symm)]; decide), if_neg (by omega), ht, ins_end hall]
theorem toF_self {mk : Int} {L : List Ot} (h : LnOk mk L) (n j : Nat) (hn : n + j = L.length) : toF mk (L.take j) (L.drop j) = (0, L) := by
  induction n generalizing j with
  | zero =>
    obtain rfl : j = L.length := by omega
    rw [List.drop_length, List.take_length]
    rfl
  | succ n ih =>
    obtain ⟨x, hx⟩ : ∃ x, L[j]? = some x := ⟨L[j]'(by omega), List.getElem?_eq_getElem (by omega)⟩
    obtain ⟨hlt, he⟩ := List.getElem?_eq_some_iff.1 hx
    rw [List.drop_eq_getElem_cons hlt, he]
    simp only [toF]
    rw [h.O x (List.mem_of_getElem? hx), set_behind h.U h.N h.K hx]
    simp only [Bool.false_eq_true, if_false, if_true]
    exact ih (j + 1) (by omega)
theorem ofF_self {mk : Int} {L : List Ot} (h : LnOk mk L) : ofF mk L = (0, L) := by
  unfold ofF
  rw [if_neg (by rw [h.R]; decide)]
  exact toF_self h L.length 0 (by omega)
/-- What is over at a mark is over at a greater one; windows that are over stand ahead. -/
theorem over_mono {s m m' : Int} (h : overB s m = true) (hm : m ≤ m') (hr : rightB m' = true) : overB s m' = true := by
  unfold overB rightB at *
  rw [decide_eq_true_eq] at *
  omega
theorem okW_st {o : Ot} (h : OkW o) : 0 ≤ o.st ∧ o.st ≤ 1099511627776 ∧ o.st % 10 = 0 := by
  have := ((okO_iff o).1 h.1).2.1
  unfold endI at this
  split at this
  · assumption
  · omega
theorem over_ahead {x y : Ot} {m : Int} (hx : OkW x) (h : ltO x y) (hy : overB y.st m = true) : overB x.st m = true := by
  have := okW_st hx
  unfold overB at *
  rw [decide_eq_true_eq] at *
  rcases h with h | ⟨h, _⟩ <;> omega
theorem filter_steps {L : List Ot} (p1 p2 : Ot → Bool) (h12 : ∀ o ∈ L, p1 o = true → p2 o = true) (hh : L.Pairwise fun x y => p1 y = true → p1 x = true) : L.filter p1 ++ (L.filter fun o => !p1 o).filter p2 = L.filter p2 := by
  induction L with
  | nil => rfl
  | cons x r ih =>
    obtain ⟨h1, h2⟩ := List.pairwise_cons.1 hh
    have ih' := ih (fun o ho => h12 o (by simp [ho])) h2
    cases hx : p1 x with
    | true =>
      have hx2 := h12 x (by simp) hx
      rw [List.filter_cons_of_pos hx, List.filter_cons_of_neg (by simp [hx]), List.filter_cons_of_pos hx2, List.cons_append, ih']
    | false =>
      have hn : r.filter p1 = [] := by
        rw [List.filter_eq_nil_iff]
        intro y hy hp
        have := h1 y hy hp
        rw [hx] at this; cases this
      have hr : (r.filter fun o => !p1 o) = r := by
        rw [List.filter_eq_self]
        intro y hy
        cases hp : p1 y with
        | false => rfl
        | true => have := h1 y hy hp; rw [hx] at this; cases this
      rw [List.filter_cons_of_neg (by simp [hx]), hn, List.filter_cons_of_pos (by simp [hx]), hr]
      rfl
theorem over_steps {L : List Ot} (hu : L.Pairwise ltO) (hk : ∀ o ∈ L, OkW o) {m m' : Int} (hm : m ≤ m') (hr : rightB m' = true) : overL m L ++ overL m' (restL m L) = overL m' L ∧ restL m' (restL m L) = restL m' L := by
  refine ⟨filter_steps _ _ (fun o _ h => over_mono h hm hr) (hu.imp_of_mem (fun {x y} hx hy h h2 => over_ahead (hk x hx) h h2)), ?_⟩
  unfold restL
  rw [List.filter_filter]
  refine List.filter_congr (fun o _ => ?_)
  cases h1 : overB o.st m with
  | false => simp
  | true => rw [over_mono h1 hm hr]; rfl
theorem over_none {mk : Int} {L : List Ot} (h : ∀ o ∈ L, overB o.st mk = false) : overL mk L = [] ∧ restL mk L = L := by
  unfold overL restL
  refine ⟨List.filter_eq_nil_iff.2 (fun o ho => by rw [h o ho]; decide), List.filter_eq_self.2 (fun o ho => by rw [h o ho]; rfl)⟩
/-- The mark then: the greater one of two, if the second may be. -/
def upM (mk m : Int) : Int := if rightB m = true ∧ mk < m then m else mk
theorem tm_up {mk mk0 : Int} {L0 : List Ot} (h : LnOk mk0 L0) (hm : mk0 ≤ mk) (m : Int) :
    (tmF mk (restL mk L0) m).2.2.1 = upM mk m ∧ overL mk L0 ++ (tmF mk (restL mk L0) m).2.1 = overL (upM mk m) L0 ∧ (tmF mk (restL mk L0) m).2.2.2 = restL (upM mk m) L0 ∧ mk0 ≤ upM mk m := by
  unfold tmF upM
  split
  · rename_i hr
    rw [if_neg (by rw [hr]; rintro ⟨h, _⟩; cases h)]
    exact ⟨rfl, by simp, rfl, hm⟩
  · rename_i hr
    have hr' : rightB m = true := by simpa using hr
    split
    · rename_i hle
      rw [if_neg (by omega)]
      exact ⟨rfl, by simp, rfl, hm⟩
    · rename_i hle
      rw [if_pos ⟨hr', by omega⟩]
      obtain ⟨h1, h2⟩ := over_steps h.U h.K (m := mk) (m' := m) (by omega) hr'
      exact ⟨rfl, h1, h2, by omega⟩
/-- The same, at once. -/
theorem tm_once {mk0 : Int} {L0 : List Ot} (h : LnOk mk0 L0) (m : Int) : (tmF mk0 L0 m).2.2.1 = upM mk0 m ∧ (tmF mk0 L0 m).2.1 = overL (upM mk0 m) L0 ∧ (tmF mk0 L0 m).2.2.2 = restL (upM mk0 m) L0 := by
  have := tm_up h (Int.le_refl mk0) m
  obtain ⟨h1, h2⟩ := over_none h.O
  rw [h1, h2] at this
  exact ⟨this.1, by simpa using this.2.1, this.2.2.1⟩
/-- One mark more, held against the greatest. -/
theorem upM_most {mk0 ms m : Int} : upM (upM mk0 ms) m = upM mk0 (if rightB m = true ∧ (rightB ms = false ∨ ms < m) then m else ms) := by
  unfold upM
  by_cases h1 : rightB m = true <;> by_cases h2 : rightB ms = true <;> by_cases h3 : mk0 < ms <;> by_cases h4 : ms < m <;> by_cases h5 : mk0 < m <;> simp [h1, h2, h3, h4, h5] <;> omega
theorem upM_self {mk0 m : Int} : upM (upM mk0 m) m = upM mk0 m := by
  unfold upM
  (repeat' split) <;> first | rfl | (rename_i h; omega) | omega
end Go.Proofs.Ytmhbibcfbencnaa
