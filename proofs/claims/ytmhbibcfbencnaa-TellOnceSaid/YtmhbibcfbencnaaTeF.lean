/- TellOnce, the plain law: what is told rises; each window that is told or open has what its values add up to; nothing else is there. -/
import Derived.Test.YtmhbibcfbencnaaTeE
import Derived.Test.YtmhbibcfbencnaaStW
namespace Go.Proofs.Ytmhbibcfbencnaa
open Go.RowKit Go.Lib
set_option linter.unusedSimpArgs false
set_option linter.unusedVariables false
/-- The values of each window, in the row in which windows came. -/
abbrev Vals := List (Wd × List Int)
def addV (x : Wd) (n : Int) (m : Vals) : Vals := put x ((look x m).getD [] ++ [n]) m
/-- What acts do: mark, windows, what was told, the values that were taken. -/
structure OSt where
  mr : Int
  L : List Ot
  told : List Ot
  vals : Vals
def acO (s : OSt) (x : A4) : OSt :=
  if x.dd = 0 then ⟨s.mr, (tpF s.mr s.L x.key x.t x.n).2, s.told, if (tpF s.mr s.L x.key x.t x.n).1 = 1 then addV ⟨startI x.t, x.key⟩ x.n s.vals else s.vals⟩
  else if x.dd = 1 then ⟨(tmF s.mr s.L x.t).2.2.1, (tmF s.mr s.L x.t).2.2.2, s.told ++ (tmF s.mr s.L x.t).2.1, s.vals⟩
  else s
/-- A window has what its values add up to. -/
def HasV (m : Vals) (o : Ot) : Prop := ∃ vs, look (wdOf o) m = some vs ∧ vs ≠ [] ∧ o.ag = ofL vs
structure OnceI (s : OSt) : Prop where
  ok : LnOk s.mr s.L
  up : s.told.Pairwise ltO
  ov : ∀ o ∈ s.told, overB o.st s.mr = true
  has : ∀ o, o ∈ s.told ∨ o ∈ s.L → HasV s.vals o
  nd : (s.vals.map (·.1)).Nodup
  key : ∀ x, (look x s.vals).isSome = true → ∃ o, (o ∈ s.told ∨ o ∈ s.L) ∧ wdOf o = x
theorem look_map {K V : Type} [DecidableEq K] (k x : K) (v : V) (m : List (K × V)) : look x (m.map fun p => if k = p.1 then (p.1, v) else p) = if x = k then (look x m).map (fun _ => v) else look x m := by
  induction m with
  | nil => simp [look]
  | cons p r ih =>
    simp only [List.map_cons, look]
    rw [ih]
    by_cases h1 : k = p.1
    · rw [if_pos h1]
      by_cases h2 : x = k
      · rw [if_pos (show x = p.1 from h2.trans h1), if_pos h2, if_pos (h2.trans h1)]; rfl
      · have h3 : ¬ x = p.1 := fun h => h2 (h.trans h1.symm)
        rw [if_neg h3, if_neg h2, if_neg h3, if_neg h2]
    · rw [if_neg h1]
      by_cases h2 : x = p.1
      · have h3 : ¬ x = k := fun h => h1 (h.symm.trans h2)
        rw [if_pos h2, if_neg h3, if_pos h2]
      · rw [if_neg h2]
        by_cases h3 : x = k
        · rw [if_pos h3, if_pos h3, if_neg h2]
        · rw [if_neg h3, if_neg h3, if_neg h2]
theorem look_app {K V : Type} [DecidableEq K] (x : K) (m r : List (K × V)) : look x (m ++ r) = (look x m).orElse (fun _ => look x r) := by
  induction m with
  | nil => rfl
  | cons p m ih =>
    simp only [List.cons_append, look]
    split
    · rfl
    · exact ih
theorem look_put {K V : Type} [DecidableEq K] (k x : K) (v : V) (m : List (K × V)) : look x (put k v m) = if x = k then some v else look x m := by
  unfold put
  split
  · rename_i h
    rw [look_map]
    by_cases hx : x = k
    · rw [if_pos hx, if_pos hx, hx]
      obtain ⟨u, hu⟩ := Option.isSome_iff_exists.1 h
      rw [hu]; rfl
    · rw [if_neg hx, if_neg hx]
  · rename_i h
    have hn : look k m = none := by cases hh : look k m with | none => rfl | some u => rw [hh] at h; exact absurd rfl h
    rw [look_app]
    by_cases hx : x = k
    · rw [if_pos hx, hx, hn]; simp [look]
    · rw [if_neg hx]
      simp only [look]
      rw [if_neg hx]
      cases look x m <;> rfl
theorem put_nodup {K V : Type} [DecidableEq K] {k : K} {v : V} {m : List (K × V)} (h : (m.map (·.1)).Nodup) : ((put k v m).map (·.1)).Nodup := by
  unfold put
  split
  · have e : (m.map (fun p => if k = p.1 then (p.1, v) else p)).map (·.1) = m.map (·.1) := by
      rw [List.map_map]
      refine List.map_congr_left fun q _ => ?_
      simp only [Function.comp]
      split <;> rfl
    rw [e]; exact h
  · rename_i hn
    have hl : look k m = none := by cases hh : look k m with | none => rfl | some v => rw [hh] at hn; exact absurd rfl hn
    rw [List.map_append, List.nodup_append]
    refine ⟨h, by simp, fun a ha b hb => ?_⟩
    obtain rfl : b = k := by simpa using hb
    obtain ⟨q, hq, rfl⟩ := List.mem_map.1 ha
    exact fun e => look_none.1 hl q hq e.symm
theorem OnceI.zero : OnceI ⟨0, [], [], []⟩ := ⟨LnOk.zero, List.Pairwise.nil, by simp, by simp, by simp, by simp [look]⟩
theorem over_false {s mk : Int} (h : overB s mk = false) (h1 : 0 ≤ s) (h2 : s ≤ 1099511627776) (h3 : s % 10 = 0) (hr : rightB mk = true) : mk < s + 15 := by
  unfold overB at h
  unfold rightB at hr
  rw [decide_eq_false_iff_not] at h
  rw [decide_eq_true_eq] at hr
  omega
theorem over_true {s mk : Int} (h : overB s mk = true) : s + 15 ≤ mk := by
  unfold overB at h
  rw [decide_eq_true_eq] at h
  omega
/-- A value is taken. -/
theorem OnceI.put {s : OSt} (h : OnceI s) (k : ByteArray) (t : Int) {n : Int} (hn : InR n) :
    OnceI ⟨s.mr, (tpF s.mr s.L k t n).2, s.told, if (tpF s.mr s.L k t n).1 = 1 then addV ⟨startI t, k⟩ n s.vals else s.vals⟩ := by
  have hok := h.ok.put k t hn
  have hnot : (tpF s.mr s.L k t n).1 ≠ 1 → (tpF s.mr s.L k t n).2 = s.L := by
    unfold tpF
    split
    · exact fun _ => rfl
    · split
      · exact fun _ => rfl
      · split
        · exact fun h => absurd rfl h
        · exact fun _ => rfl
  by_cases h1 : (tpF s.mr s.L k t n).1 = 1
  · rw [if_pos h1]
    obtain ⟨hl, hp, he⟩ : lateB t s.mr = false ∧ (putL s.L k t n).1 = 0 ∧ (tpF s.mr s.L k t n).2 = (putL s.L k t n).2 := by
      unfold tpF at h1 ⊢
      split at h1
      · cases h1
      · rename_i g1
        rw [if_neg g1]
        split at h1
        · cases h1
        · rename_i g2
          rw [if_neg g2]
          split at h1
          · rename_i g3
            exact ⟨by simpa using g2, g3, by rw [if_pos g3]⟩
          · cases h1
    have hrt : rightB t = true := by
      have := putL_code s.L k t n
      rw [hp] at this
      split at this
      · cases this
      · rename_i g
        cases hr : rightB t with
        | true => rfl
        | false => exact absurd (.inr hr) g
    have hno : overB (startI t) s.mr = false := by
      have := late_eq (a := t) (m := s.mr)
      rw [hl, hrt, Bool.true_and] at this
      exact this.symm
    have hlk := fun x => putL_lk h.ok.U k t n x
    have htd : ∀ o ∈ s.told, wdOf o ≠ ⟨startI t, k⟩ := fun o ho e => by
      have h2 := h.ov o ho
      have h3 : o.st = startI t := congrArg Wd.st e
      rw [h3, hno] at h2
      cases h2
    have hvs : (lkL ⟨startI t, k⟩ s.L).getD Ag.zero = ofL ((look ⟨startI t, k⟩ s.vals).getD []) := by
      cases hg : lkL ⟨startI t, k⟩ s.L with
      | some a =>
        obtain ⟨vs, h2, _, h4⟩ := h.has ⟨k, startI t, a⟩ (.inr ((mem_lkL h.ok.U).2 hg))
        have h5 : look ⟨startI t, k⟩ s.vals = some vs := h2
        rw [h5]
        exact h4
      | none =>
        cases hv : look ⟨startI t, k⟩ s.vals with
        | none => rfl
        | some vs =>
          obtain ⟨o, ho, e⟩ := h.key _ (by rw [hv]; rfl)
          rcases ho with ho | ho
          · exact absurd e (htd o ho)
          · have := (mem_lkL h.ok.U).1 ho
            rw [e, hg] at this
            cases this
    have hmem : ∀ o, o ∈ (putL s.L k t n).2 → (wdOf o = ⟨startI t, k⟩ ∧ o.ag = ofL ((look ⟨startI t, k⟩ s.vals).getD [] ++ [n])) ∨ (wdOf o ≠ ⟨startI t, k⟩ ∧ o ∈ s.L) := by
      intro o ho
      have h2 := (mem_lkL (putL_up k t n h.ok.U)).1 ho
      rw [hlk] at h2
      by_cases e : wdOf o = ⟨startI t, k⟩
      · rw [if_pos ⟨hp, e⟩, e, hvs] at h2
        refine .inl ⟨e, ?_⟩
        rw [ofL_snoc]
        exact (Option.some.inj h2).symm
      · rw [if_neg (fun g => e g.2)] at h2
        exact .inr ⟨e, (mem_lkL h.ok.U).2 h2⟩
    rw [he] at hok ⊢
    refine ⟨hok, h.up, h.ov, ?_, put_nodup h.nd, ?_⟩
    · intro o ho
      have hold : wdOf o ≠ ⟨startI t, k⟩ → HasV s.vals o → HasV (addV ⟨startI t, k⟩ n s.vals) o := fun e hv => by
        obtain ⟨vs, h2, h3, h4⟩ := hv
        exact ⟨vs, by unfold addV; rw [look_put, if_neg e]; exact h2, h3, h4⟩
      rcases ho with ho | ho
      · exact hold (htd o ho) (h.has o (.inl ho))
      · rcases hmem o ho with ⟨e, ha⟩ | ⟨e, hm⟩
        · exact ⟨_, by unfold addV; rw [look_put, if_pos e], by simp, ha⟩
        · exact hold e (h.has o (.inr hm))
    · intro x hx
      unfold addV at hx
      rw [look_put] at hx
      by_cases e : x = ⟨startI t, k⟩
      · subst e
        refine ⟨⟨k, startI t, ((lkL ⟨startI t, k⟩ s.L).getD Ag.zero).put n⟩, .inr ((mem_lkL (putL_up k t n h.ok.U)).2 ?_), rfl⟩
        rw [hlk]
        exact if_pos ⟨hp, rfl⟩
      · rw [if_neg e] at hx
        obtain ⟨o, ho, e2⟩ := h.key x hx
        refine ⟨o, ho.imp id (fun hm => (mem_lkL (putL_up k t n h.ok.U)).2 ?_), e2⟩
        rw [hlk, if_neg (fun g => e (e2.symm.trans g.2))]
        exact (mem_lkL h.ok.U).1 hm
  · rw [if_neg h1]
    rw [hnot h1] at hok ⊢
    exact ⟨hok, h.up, h.ov, h.has, h.nd, h.key⟩
/-- The mark rises. -/
theorem OnceI.mark {s : OSt} (h : OnceI s) (t : Int) : OnceI ⟨(tmF s.mr s.L t).2.2.1, (tmF s.mr s.L t).2.2.2, s.told ++ (tmF s.mr s.L t).2.1, s.vals⟩ := by
  unfold tmF
  split
  · simp only [List.append_nil]; exact h
  · rename_i hr
    have hr' : rightB t = true := by simpa using hr
    split
    · simp only [List.append_nil]; exact h
    · rename_i hle
      have hsplit : ∀ o, (o ∈ s.told ++ overL t s.L ∨ o ∈ restL t s.L) ↔ (o ∈ s.told ∨ o ∈ s.L) := by
        intro o
        unfold overL restL
        rw [List.mem_append, List.mem_filter, List.mem_filter]
        cases overB o.st t <;> simp
      refine ⟨h.ok.rest hr', ?_, ?_, fun o ho => h.has o ((hsplit o).1 ho), h.nd, fun x hx => ?_⟩
      · rw [List.pairwise_append]
        refine ⟨h.up, h.ok.U.filter _, fun a ha b hb => .inl ?_⟩
        have h1 := over_true (h.ov a ha)
        have hb2 := (List.mem_filter.1 hb).1
        obtain ⟨g1, g2, g3⟩ := okW_st (h.ok.K b hb2)
        have h2 := over_false (h.ok.O b hb2) g1 g2 g3 h.ok.R
        omega
      · intro o ho
        rcases List.mem_append.1 ho with ho | ho
        · exact over_mono (h.ov o ho) (show s.mr ≤ t by omega) hr'
        · exact (List.mem_filter.1 ho).2
      · obtain ⟨o, ho, e⟩ := h.key x hx
        exact ⟨o, (hsplit o).2 ho, e⟩
theorem OnceI.act {s : OSt} (h : OnceI s) {x : A4} (hx : x.Wf) : OnceI (acO s x) := by
  unfold acO
  split
  · exact h.put _ _ hx.n
  · split
    · exact h.mark _
    · exact h
/-- All windows, each once. -/
theorem OnceI.nodup {s : OSt} (h : OnceI s) : ((s.told ++ s.L).map wdOf).Nodup := by
  rw [List.map_append, List.nodup_append]
  refine ⟨up_nodup h.up, up_nodup h.ok.U, fun a ha b hb e => ?_⟩
  obtain ⟨o, ho, rfl⟩ := List.mem_map.1 ha
  obtain ⟨o', ho', rfl⟩ := List.mem_map.1 hb
  have h1 := h.ov o ho
  have h2 := h.ok.O o' ho'
  have h3 : o.st = o'.st := congrArg Wd.st e
  rw [h3, h2] at h1
  cases h1
theorem OnceI.count {s : OSt} (h : OnceI s) : s.vals.length = (s.told ++ s.L).length := by
  have hp : (s.vals.map (·.1)).Perm ((s.told ++ s.L).map wdOf) := by
    refine (List.perm_ext_iff_of_nodup h.nd h.nodup).2 (fun x => ?_)
    constructor
    · intro hx
      obtain ⟨q, hq, rfl⟩ := List.mem_map.1 hx
      obtain ⟨o, ho, e⟩ := h.key q.1 (by rw [look_of_mem h.nd (v := q.2) hq]; rfl)
      exact List.mem_map.2 ⟨o, List.mem_append.2 ho, e⟩
    · intro hx
      obtain ⟨o, ho, rfl⟩ := List.mem_map.1 hx
      obtain ⟨vs, h1, _⟩ := h.has o (List.mem_append.1 ho)
      exact List.mem_map.2 ⟨_, look_mem h1, rfl⟩
  have := hp.length_eq
  simpa using this
end Go.Proofs.Ytmhbibcfbencnaa
