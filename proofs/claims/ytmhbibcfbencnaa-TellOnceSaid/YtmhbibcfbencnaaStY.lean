/- StoreTwin, the plain law: each window of a played store may be set; windows that are set from the last on are the list. -/
import Derived.Test.YtmhbibcfbencnaaStV
import Derived.Test.YtmhbibcfbencnaaStW
namespace Go.Proofs.Ytmhbibcfbencnaa
open Go.RowKit Go.Lib
set_option linter.unusedSimpArgs false
set_option linter.unusedVariables false
theorem plus_nn {a b : Int} (ha : InR a) (hb : InR b) (h1 : 0 ≤ a) (h2 : 0 ≤ b) : plusI a b = if 9223372036854775807 < a + b then 9223372036854775807 else a + b := by
  split
  · rename_i h; exact plus_hi ha hb h
  · unfold InR at *; exact plus_mid (by omega) (by omega)
theorem bucket_lo (v lo : Int) : (bucketI (if v < lo then v else lo) : Int) = if (bucketI v : Int) < (bucketI lo : Int) then (bucketI v : Int) else (bucketI lo : Int) := by
  unfold bucketI
  (repeat' split) <;> omega
theorem bucket_hi (v hi : Int) : (bucketI (if hi < v then v else hi) : Int) = if (bucketI hi : Int) < (bucketI v : Int) then (bucketI v : Int) else (bucketI hi : Int) := by
  unfold bucketI
  (repeat' split) <;> omega
def lo4 (a b c d : Int) : Int := if 0 < a then 0 else if 0 < b then 1 else if 0 < c then 2 else if 0 < d then 3 else 4
def hi4 (a b c d : Int) : Int := if 0 < d then 3 else if 0 < c then 2 else if 0 < b then 1 else if 0 < a then 0 else -1
theorem low_eq (a b c d : Int) : lowK a b c d 4 = lo4 a b c d := by
  simp only [lowK, lowS, lo4]
  by_cases h1 : 0 < a <;> by_cases h2 : 0 < b <;> by_cases h3 : 0 < c <;> by_cases h4 : 0 < d <;> simp [h1, h2, h3, h4]
theorem high_eq (a b c d : Int) : highK a b c d 4 = hi4 a b c d := rfl
theorem lo4_0 (a b c d : Int) {p : Int} (hp : 0 < p) : lo4 p b c d = if (0 : Int) < lo4 a b c d then 0 else lo4 a b c d := by
  unfold lo4
  by_cases h1 : 0 < a <;> by_cases h2 : 0 < b <;> by_cases h3 : 0 < c <;> by_cases h4 : 0 < d <;> simp [h1, h2, h3, h4, hp]
theorem lo4_1 (a b c d : Int) {p : Int} (hp : 0 < p) : lo4 a p c d = if (1 : Int) < lo4 a b c d then 1 else lo4 a b c d := by
  unfold lo4
  by_cases h1 : 0 < a <;> by_cases h2 : 0 < b <;> by_cases h3 : 0 < c <;> by_cases h4 : 0 < d <;> simp [h1, h2, h3, h4, hp]
theorem lo4_2 (a b c d : Int) {p : Int} (hp : 0 < p) : lo4 a b p d = if (2 : Int) < lo4 a b c d then 2 else lo4 a b c d := by
  unfold lo4
  by_cases h1 : 0 < a <;> by_cases h2 : 0 < b <;> by_cases h3 : 0 < c <;> by_cases h4 : 0 < d <;> simp [h1, h2, h3, h4, hp]
theorem lo4_3 (a b c d : Int) {p : Int} (hp : 0 < p) : lo4 a b c p = if (3 : Int) < lo4 a b c d then 3 else lo4 a b c d := by
  unfold lo4
  by_cases h1 : 0 < a <;> by_cases h2 : 0 < b <;> by_cases h3 : 0 < c <;> by_cases h4 : 0 < d <;> simp [h1, h2, h3, h4, hp]
theorem hi4_0 (a b c d : Int) {p : Int} (hp : 0 < p) : hi4 p b c d = if hi4 a b c d < (0 : Int) then 0 else hi4 a b c d := by
  unfold hi4
  by_cases h1 : 0 < a <;> by_cases h2 : 0 < b <;> by_cases h3 : 0 < c <;> by_cases h4 : 0 < d <;> simp [h1, h2, h3, h4, hp]
theorem hi4_1 (a b c d : Int) {p : Int} (hp : 0 < p) : hi4 a p c d = if hi4 a b c d < (1 : Int) then 1 else hi4 a b c d := by
  unfold hi4
  by_cases h1 : 0 < a <;> by_cases h2 : 0 < b <;> by_cases h3 : 0 < c <;> by_cases h4 : 0 < d <;> simp [h1, h2, h3, h4, hp]
theorem hi4_2 (a b c d : Int) {p : Int} (hp : 0 < p) : hi4 a b p d = if hi4 a b c d < (2 : Int) then 2 else hi4 a b c d := by
  unfold hi4
  by_cases h1 : 0 < a <;> by_cases h2 : 0 < b <;> by_cases h3 : 0 < c <;> by_cases h4 : 0 < d <;> simp [h1, h2, h3, h4, hp]
theorem hi4_3 (a b c d : Int) {p : Int} (hp : 0 < p) : hi4 a b c p = if hi4 a b c d < (3 : Int) then 3 else hi4 a b c d := by
  unfold hi4
  by_cases h1 : 0 < a <;> by_cases h2 : 0 < b <;> by_cases h3 : 0 < c <;> by_cases h4 : 0 < d <;> simp [h1, h2, h3, h4, hp]
theorem sum_eq {a b c d : Int} (ha : InR a) (hb : InR b) (hc : InR c) (hd : InR d) (h1 : 0 ≤ a) (h2 : 0 ≤ b) (h3 : 0 ≤ c) (h4 : 0 ≤ d) : sumK a b c d 4 = if 9223372036854775807 < a + b + c + d then 9223372036854775807 else a + b + c + d := by
  have e0 : plusI 0 a = a := by rw [plus_nn (by unfold InR; omega) ha (by omega) h1]; unfold InR at ha; split <;> omega
  have w1 : InR (plusI a b) := plus_in ha hb
  have e1 := plus_nn ha hb h1 h2
  have n1 : 0 ≤ plusI a b := by rw [e1]; split <;> omega
  have w2 : InR (plusI (plusI a b) c) := plus_in w1 hc
  have e2 := plus_nn w1 hc n1 h3
  have n2 : 0 ≤ plusI (plusI a b) c := by rw [e2]; split <;> omega
  have e3 := plus_nn w2 hd n2 h4
  simp only [sumK]
  rw [e0, e3, e2, e1]
  (repeat' split) <;> omega
theorem rightA_cases {a : Ag} (ha : a.Wf) : rightA a = true ↔ a = Ag.zero ∨ (0 < a.c ∧ a.lo ≤ a.hi ∧ 0 ≤ a.b0 ∧ 0 ≤ a.b1 ∧ 0 ≤ a.b2 ∧ 0 ≤ a.b3 ∧
    ((a.b0 = 9223372036854775807 ∨ a.b1 = 9223372036854775807 ∨ a.b2 = 9223372036854775807 ∨ a.b3 = 9223372036854775807) ∨
      ((if 9223372036854775807 < a.b0 + a.b1 + a.b2 + a.b3 then 9223372036854775807 else a.b0 + a.b1 + a.b2 + a.b3) = a.c ∧
        lo4 a.b0 a.b1 a.b2 a.b3 = bucketI a.lo ∧ hi4 a.b0 a.b1 a.b2 a.b3 = bucketI a.hi))) := by
  unfold rightA
  by_cases h0 : a.c = 0
  · rw [if_pos h0, decide_eq_true_eq]
    exact ⟨.inl, fun h => h.elim id (fun h => absurd h.1 (by omega))⟩
  · have hz : a ≠ Ag.zero := fun h => h0 (by rw [h]; rfl)
    rw [if_neg h0]
    by_cases h1 : a.c < 0 ∨ a.hi < a.lo ∨ mn4 a.b0 a.b1 a.b2 a.b3 < 0
    · rw [if_pos h1]
      rw [mn4_neg] at h1
      constructor
      · intro h; cases h
      · rintro (h | h)
        · exact absurd h hz
        · omega
    · rw [if_neg h1]
      rw [mn4_neg] at h1
      have n0 : 0 ≤ a.b0 := by omega
      have n1 : 0 ≤ a.b1 := by omega
      have n2 : 0 ≤ a.b2 := by omega
      have n3 : 0 ≤ a.b3 := by omega
      have hm : (has4 most a.b0 a.b1 a.b2 a.b3 = true) ↔ (a.b0 = 9223372036854775807 ∨ a.b1 = 9223372036854775807 ∨ a.b2 = 9223372036854775807 ∨ a.b3 = 9223372036854775807) := by
        unfold has4 most
        rw [decide_eq_true_eq]
        omega
      rw [sum_eq ha.b0 ha.b1 ha.b2 ha.b3 n0 n1 n2 n3, low_eq, high_eq]
      by_cases h2 : has4 most a.b0 a.b1 a.b2 a.b3 = true
      · rw [if_pos h2]
        exact ⟨fun _ => .inr ⟨by omega, by omega, n0, n1, n2, n3, .inl (hm.1 h2)⟩, fun _ => rfl⟩
      · rw [if_neg h2]
        simp only [Bool.and_eq_true, decide_eq_true_eq]
        constructor
        · rintro ⟨h3, h4, h5⟩
          exact .inr ⟨by omega, by omega, n0, n1, n2, n3, .inr ⟨h3, h4, h5⟩⟩
        · rintro (h | ⟨_, _, _, _, _, _, h | ⟨h3, h4, h5⟩⟩)
          · exact absurd h hz
          · exact absurd (hm.2 h) h2
          · exact ⟨h3, h4, h5⟩
set_option maxHeartbeats 1000000 in
theorem rightA_put {a : Ag} {v : Int} (ha : a.Wf) (hv : InR v) (h : rightA a = true) : rightA (a.put v) = true ∧ (a.put v).c ≠ 0 := by
  have hw := Ag.put_wf ha hv
  have hone : InR 1 := by unfold InR; omega
  have hb := bucket_cases v
  rw [rightA_cases hw]
  rw [Ag.put_eq ha]
  simp only
  rcases (rightA_cases ha).1 h with h | ⟨hc, hlh, n0, n1, n2, n3, h⟩
  · subst h
    have e : plusI 0 1 = 1 := by rw [plus_nn (by unfold InR; omega) hone (by omega) (by omega)]; rfl
    simp only [Ag.zero, true_or, if_true, e]
    refine ⟨.inr ⟨by omega, by omega, ?_⟩, by omega⟩
    rcases hb with hb | hb | hb | hb <;> rw [hb] <;> simp [lo4, hi4]
  · have ec := plus_nn ha.c hone (by omega) (by omega)
    have e0 := plus_nn ha.b0 hone n0 (by omega)
    have e1 := plus_nn ha.b1 hone n1 (by omega)
    have e2 := plus_nn ha.b2 hone n2 (by omega)
    have e3 := plus_nn ha.b3 hone n3 (by omega)
    have hcr := ha.c
    have r0 := ha.b0
    have r1 := ha.b1
    have r2 := ha.b2
    have r3 := ha.b3
    unfold InR at hcr r0 r1 r2 r3
    have hcn : a.c ≠ 0 := by omega
    have hlo := bucket_lo v a.lo
    have hhi := bucket_hi v a.hi
    obtain ⟨blo, hblo⟩ : ∃ x, (bucketI a.lo : Int) = x := ⟨_, rfl⟩
    obtain ⟨bhi, hbhi⟩ : ∃ x, (bucketI a.hi : Int) = x := ⟨_, rfl⟩
    rw [hblo] at hlo h
    rw [hbhi] at hhi h
    have hpc : 0 < plusI a.c 1 := by rw [ec]; split <;> omega
    refine ⟨.inr ⟨hpc, ?_, ?_⟩, by omega⟩
    · (repeat' split) <;> omega
    · have s1 : (if a.c = 0 ∨ v < a.lo then v else a.lo) = if v < a.lo then v else a.lo := by
        by_cases g : v < a.lo <;> simp [g, hcn]
      have s2 : (if a.c = 0 ∨ a.hi < v then v else a.hi) = if a.hi < v then v else a.hi := by
        by_cases g : a.hi < v <;> simp [g, hcn]
      rw [s1, s2, hlo, hhi]
      clear hlo hhi s1 s2 hw
      rcases hb with hb | hb | hb | hb
      all_goals
        simp only [hb, if_true, show ¬ ((1 : Nat) = 0) by omega, show ¬ ((2 : Nat) = 0) by omega, show ¬ ((3 : Nat) = 0) by omega, show ¬ ((0 : Nat) = 1) by omega, show ¬ ((2 : Nat) = 1) by omega, show ¬ ((3 : Nat) = 1) by omega, show ¬ ((0 : Nat) = 2) by omega, show ¬ ((1 : Nat) = 2) by omega, show ¬ ((3 : Nat) = 2) by omega, show ¬ ((0 : Nat) = 3) by omega, show ¬ ((1 : Nat) = 3) by omega, show ¬ ((2 : Nat) = 3) by omega, if_false]
      · obtain ⟨p, hp⟩ : ∃ p, plusI a.b0 1 = p := ⟨_, rfl⟩
        rw [hp] at e0 ⊢
        rw [ec]
        rcases h with h | ⟨h1, h2, h3⟩
        · exact ⟨by omega, n1, n2, n3, .inl (by omega)⟩
        · refine ⟨by omega, n1, n2, n3, ?_⟩
          by_cases hf : p = 9223372036854775807
          · exact .inl (.inl hf)
          · have hpe : p = a.b0 + 1 := by split at e0 <;> omega
            refine .inr ⟨by rw [← h1, hpe]; clear h2 h3 e0 hp; (repeat' split) <;> omega, ?_, ?_⟩
            · rw [lo4_0 a.b0 a.b1 a.b2 a.b3 (by omega), h2]; rfl
            · rw [hi4_0 a.b0 a.b1 a.b2 a.b3 (by omega), h3]; rfl
      · obtain ⟨p, hp⟩ : ∃ p, plusI a.b1 1 = p := ⟨_, rfl⟩
        rw [hp] at e1 ⊢
        rw [ec]
        rcases h with h | ⟨h1, h2, h3⟩
        · exact ⟨n0, by omega, n2, n3, .inl (by omega)⟩
        · refine ⟨n0, by omega, n2, n3, ?_⟩
          by_cases hf : p = 9223372036854775807
          · exact .inl (.inr (.inl hf))
          · have hpe : p = a.b1 + 1 := by split at e1 <;> omega
            refine .inr ⟨by rw [← h1, hpe]; clear h2 h3 e1 hp; (repeat' split) <;> omega, ?_, ?_⟩
            · rw [lo4_1 a.b0 a.b1 a.b2 a.b3 (by omega), h2]; rfl
            · rw [hi4_1 a.b0 a.b1 a.b2 a.b3 (by omega), h3]; rfl
      · obtain ⟨p, hp⟩ : ∃ p, plusI a.b2 1 = p := ⟨_, rfl⟩
        rw [hp] at e2 ⊢
        rw [ec]
        rcases h with h | ⟨h1, h2, h3⟩
        · exact ⟨n0, n1, by omega, n3, .inl (by omega)⟩
        · refine ⟨n0, n1, by omega, n3, ?_⟩
          by_cases hf : p = 9223372036854775807
          · exact .inl (.inr (.inr (.inl hf)))
          · have hpe : p = a.b2 + 1 := by split at e2 <;> omega
            refine .inr ⟨by rw [← h1, hpe]; clear h2 h3 e2 hp; (repeat' split) <;> omega, ?_, ?_⟩
            · rw [lo4_2 a.b0 a.b1 a.b2 a.b3 (by omega), h2]; rfl
            · rw [hi4_2 a.b0 a.b1 a.b2 a.b3 (by omega), h3]; rfl
      · obtain ⟨p, hp⟩ : ∃ p, plusI a.b3 1 = p := ⟨_, rfl⟩
        rw [hp] at e3 ⊢
        rw [ec]
        rcases h with h | ⟨h1, h2, h3⟩
        · exact ⟨n0, n1, n2, by omega, .inl (by omega)⟩
        · refine ⟨n0, n1, n2, by omega, ?_⟩
          by_cases hf : p = 9223372036854775807
          · exact .inl (.inr (.inr (.inr hf)))
          · have hpe : p = a.b3 + 1 := by split at e3 <;> omega
            refine .inr ⟨by rw [← h1, hpe]; clear h2 h3 e3 hp; (repeat' split) <;> omega, ?_, ?_⟩
            · rw [lo4_3 a.b0 a.b1 a.b2 a.b3 (by omega), h2]; rfl
            · rw [hi4_3 a.b0 a.b1 a.b2 a.b3 (by omega), h3]; rfl
/-- A window that Set lets in. -/
def OkW (o : Ot) : Prop := okO o = true ∧ o.ag.Wf
theorem okO_iff (o : Ot) : okO o = true ↔ keyB o.key = true ∧ 0 ≤ endI o.st ∧ rightA o.ag = true ∧ o.ag.c ≠ 0 := by
  unfold okO
  simp only [Bool.and_eq_true, decide_eq_true_eq]
theorem okW_ins {o : Ot} {L : List Ot} (ho : OkW o) (h : ∀ x ∈ L, OkW x) : ∀ x ∈ insL o L, OkW x := fun x hx => (insL_mem hx).elim (fun e => e ▸ ho) (h x)
theorem okW_look {L : List Ot} (hu : L.Pairwise ltO) (h : ∀ x ∈ L, OkW x) (x : Wd) : ((lkL x L).getD Ag.zero).Wf ∧ rightA ((lkL x L).getD Ag.zero) = true := by
  cases hl : lkL x L with
  | none => exact ⟨Ag.zero_wf, by decide⟩
  | some a =>
    obtain ⟨o, ho, e⟩ : ∃ o ∈ L, o.ag = a := by
      clear hu h
      induction L with
      | nil => cases hl
      | cons y r ih =>
        simp only [lkL] at hl
        split at hl
        · cases hl; exact ⟨y, by simp, rfl⟩
        · obtain ⟨o, h1, h2⟩ := ih hl; exact ⟨o, by simp [h1], h2⟩
    have := h o ho
    rw [← e]
    exact ⟨this.2, ((okO_iff o).1 this.1).2.2.1⟩
theorem okW_put {L : List Ot} (hu : L.Pairwise ltO) (h : ∀ x ∈ L, OkW x) (k : ByteArray) (t : Int) {v : Int} (hv : InR v) : ∀ x ∈ (putL L k t v).2, OkW x := by
  unfold putL
  split
  · exact h
  · rename_i h1
    split
    · exact h
    · obtain ⟨w1, w2⟩ := okW_look hu h ⟨startI t, k⟩
      have hp := rightA_put w1 hv w2
      refine okW_ins ⟨(okO_iff _).2 ⟨?_, ?_, hp.1, hp.2⟩, Ag.put_wf w1 hv⟩ h
      · simp only
        cases hk : keyB k with
        | true => rfl
        | false => exact absurd (.inl hk) h1
      · simp only
        have hr : rightB t = true := by
          cases hr : rightB t with
          | true => rfl
          | false => exact absurd (.inr hr) h1
        unfold rightB at hr
        rw [decide_eq_true_eq] at hr
        unfold startI endI
        rw [if_pos hr]
        split <;> omega
theorem okW_act {L : List Ot} (hu : L.Pairwise ltO) (h : ∀ x ∈ L, OkW x) {x : A9} (hx : x.Wf) : ∀ o ∈ act9 L x, OkW o := by
  unfold act9
  split
  · exact okW_put hu h _ _ hx.n
  · split
    · unfold setL
      split
      · exact h
      · rename_i h1
        split
        · exact h
        · split
          · exact h
          · exact okW_ins ⟨by simpa using h1, hx.out.ag⟩ h
    · split
      · exact fun o ho => h o (List.mem_filter.1 ho).1
      · exact h
theorem okW_play {L : List Ot} (h32 : L.length ≤ 32) (hu : L.Pairwise ltO) (h : ∀ x ∈ L, OkW x) (l : List A9) (hl : ∀ y ∈ l, A9.Wf y) : ∀ o ∈ playL L l, OkW o := by
  induction l generalizing L with
  | nil => exact h
  | cons x r ih => exact ih (act9_ok x h32 hu).1 (act9_ok x h32 hu).2 (okW_act hu h (hl x (by simp))) (fun y hy => hl y (by simp [hy]))
/-- Set of the windows ahead of those that are there. -/
theorem set_ahead {L : List Ot} (hu : L.Pairwise ltO) (h32 : L.length ≤ 32) (hok : ∀ x ∈ L, OkW x) {i : Nat} {o : Ot} (hi : L[i]? = some o) : setL (L.drop (i + 1)) o = (0, L.drop i) := by
  obtain ⟨hlt, he⟩ := List.getElem?_eq_some_iff.1 hi
  have hd : L.drop i = o :: L.drop (i + 1) := by rw [List.drop_eq_getElem_cons hlt, he]
  have hud : (o :: L.drop (i + 1)).Pairwise ltO := by rw [← hd]; exact hu.drop
  obtain ⟨h1, h2⟩ := List.pairwise_cons.1 hud
  have hlen : (L.drop (i + 1)).length = L.length - (i + 1) := List.length_drop
  unfold setL
  rw [if_neg (by rw [(hok o (List.mem_of_getElem? hi)).1]; decide)]
  rw [if_neg (by rw [lkL_none.2 (fun y hy => ltO_ne (h1 y hy))]; decide), if_neg (by omega), hd]
  congr 1
  cases hr : L.drop (i + 1) with
  | nil => rfl
  | cons y r =>
    unfold insL
    rw [if_pos (ltB_iff.2 (h1 y (by rw [hr]; simp)))]
end Go.Proofs.Ytmhbibcfbencnaa
