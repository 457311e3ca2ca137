/- Aggregates: Right, walked. -/
import Derived.Test.YtmhbibcfbencnaaStP
import Derived.Test.YtmhbibcfbencnaaNc
namespace Go.Proofs.Ytmhbibcfbencnaa
open Go.RowKit Go.Lib
set_option linter.unusedSimpArgs false
set_option linter.unusedVariables false
def most : Int := 9223372036854775807
def lowS (l i n : Int) : Int := if 0 < n then (if i < l then i else l) else l
def highS (h i n : Int) : Int := if 0 < n then i else h
def sumK (a b c d : Int) : Nat → Int
  | 0 => 0
  | 1 => plusI 0 a
  | 2 => plusI (plusI 0 a) b
  | 3 => plusI (plusI (plusI 0 a) b) c
  | _ => plusI (plusI (plusI (plusI 0 a) b) c) d
def lowK (a b c d : Int) : Nat → Int
  | 0 => 4
  | 1 => lowS 4 0 a
  | 2 => lowS (lowS 4 0 a) 1 b
  | 3 => lowS (lowS (lowS 4 0 a) 1 b) 2 c
  | _ => lowS (lowS (lowS (lowS 4 0 a) 1 b) 2 c) 3 d
def highK (a b c d : Int) : Nat → Int
  | 0 => -1
  | 1 => highS (-1) 0 a
  | 2 => highS (highS (-1) 0 a) 1 b
  | 3 => highS (highS (highS (-1) 0 a) 1 b) 2 c
  | _ => highS (highS (highS (highS (-1) 0 a) 1 b) 2 c) 3 d
/-- Is it right? -/
def rightA (a : Ag) : Bool :=
  if a.c = 0 then decide (a = Ag.zero)
  else if a.c < 0 ∨ a.hi < a.lo ∨ mn4 a.b0 a.b1 a.b2 a.b3 < 0 then false
  else if has4 most a.b0 a.b1 a.b2 a.b3 then true
  else decide (sumK a.b0 a.b1 a.b2 a.b3 4 = a.c) && (decide (lowK a.b0 a.b1 a.b2 a.b3 4 = bucketI a.lo) && decide (highK a.b0 a.b1 a.b2 a.b3 4 = bucketI a.hi))
theorem idxH (a b c d : Int) (W : World) : (Instr.index 29 (.agg #[.int .i64 a, .int .i64 b, .int .i64 c, .int .i64 d]) (.int .i64 0)).run Try.prog W = .ok (.int .i64 a) W ∧
    (Instr.index 29 (.agg #[.int .i64 a, .int .i64 b, .int .i64 c, .int .i64 d]) (.int .i64 1)).run Try.prog W = .ok (.int .i64 b) W ∧
    (Instr.index 29 (.agg #[.int .i64 a, .int .i64 b, .int .i64 c, .int .i64 d]) (.int .i64 2)).run Try.prog W = .ok (.int .i64 c) W ∧
    (Instr.index 29 (.agg #[.int .i64 a, .int .i64 b, .int .i64 c, .int .i64 d]) (.int .i64 3)).run Try.prog W = .ok (.int .i64 d) W := by
  refine ⟨?_, ?_, ?_, ?_⟩ <;> simp [Instr.index, run_underlying Try.underlying29, asIntOf, go_sem]
def nth4 (a b c d : Int) : Nat → Int
  | 0 => a
  | 1 => b
  | 2 => c
  | _ => d
theorem idxN (a b c d : Int) (k : Nat) (hk : k < 4) (W : World) : (Instr.index 29 (.agg #[.int .i64 a, .int .i64 b, .int .i64 c, .int .i64 d]) (.int .i64 (k : Int))).run Try.prog W = .ok (.int .i64 (nth4 a b c d k)) W := by
  obtain ⟨h0, h1, h2, h3⟩ := idxH a b c d W
  have : k = 0 ∨ k = 1 ∨ k = 2 ∨ k = 3 := by omega
  rcases this with rfl | rfl | rfl | rfl
  · exact h0
  · exact h1
  · exact h2
  · exact h3
theorem sumK_succ (a b c d : Int) (k : Nat) (hk : k < 4) : sumK a b c d (k + 1) = plusI (sumK a b c d k) (nth4 a b c d k) := by
  have : k = 0 ∨ k = 1 ∨ k = 2 ∨ k = 3 := by omega
  rcases this with rfl | rfl | rfl | rfl <;> rfl
theorem lowK_succ (a b c d : Int) (k : Nat) (hk : k < 4) : lowK a b c d (k + 1) = lowS (lowK a b c d k) k (nth4 a b c d k) := by
  have : k = 0 ∨ k = 1 ∨ k = 2 ∨ k = 3 := by omega
  rcases this with rfl | rfl | rfl | rfl <;> rfl
theorem highK_succ (a b c d : Int) (k : Nat) (hk : k < 4) : highK a b c d (k + 1) = highS (highK a b c d k) k (nth4 a b c d k) := by
  have : k = 0 ∨ k = 1 ∨ k = 2 ∨ k = 3 := by omega
  rcases this with rfl | rfl | rfl | rfl <;> rfl
set_option maxRecDepth 100000 in
set_option maxHeartbeats 8000000 in
theorem aright_any (a : Ag) (w : World) : Calls Try.prog 68 #[a.val] w fun e w' => e = .returned (.bool (rightA a)) ∧ Below w.heap.size w w' := by
  obtain ⟨r, hr⟩ : ∃ r, rightA a = r := ⟨_, rfl⟩
  rw [hr]
  unfold rightA at hr
  have heq := eql_ag a Ag.zero
  have hgd := guard_ag .eql
  obtain ⟨a1, a2, a3, a4, a5, a6, a7, a8⟩ := a
  obtain ⟨W1, hW1⟩ : ∃ W1, w.alloc (agObj a1 a2 a3 a4 a5 a6 a7 a8) = W1 := ⟨_, rfl⟩
  have hB : Below w.heap.size w W1 := hW1 ▸ (Below.refl _ w).alloc (Nat.le_refl _) _
  have hx : Bx W1 w.heap.size a1 a2 a3 a4 a5 a6 a7 a8 := hW1 ▸ Bx.new w a1 a2 a3 a4 a5 a6 a7 a8
  have HB := Lib.hid hB
  have HX := Lib.hid hx
  have HEQ := Lib.hid heq
  have HGD := Lib.hid hgd
  have HI := Lib.hid (idxH a5 a6 a7 a8)
  obtain ⟨p0, p1, p2, p3, p4, p5, p6, p7, p8, pf⟩ := hx.facts
  clear hB hx heq hgd
  simp only at hr
  by_cases h0 : a1 = 0
  · rw [if_pos h0] at hr
    have e0 : (a1 == 0) = true := by simp [h0]
    have heq := HEQ.out
    have hgd := HGD.out
    rw [hr] at heq
    simp only [Ag.val, Ag.zero] at heq ⊢
    clear hr h0
    go_enter Try.func68, Try.ntmps68
    go_wp2_with (fail)
    go_ret
    exact ⟨rfl, HB.out⟩
  have e0 : (a1 == 0) = false := by simp [h0]
  rw [if_neg h0] at hr
  clear h0
  have HM := Lib.hid (min4_any HX.out)
  have HH := Lib.hid (has4_any most HX.out)
  obtain ⟨mn, hmn⟩ : ∃ m, mn4 a5 a6 a7 a8 = m := ⟨_, rfl⟩
  rw [hmn] at HM hr
  clear hmn
  by_cases hc1 : a1 < 0
  · rw [if_pos (.inl hc1)] at hr
    have HR := Lib.hid hr
    clear hr
    simp only [Ag.val]
    go_enter Try.func68, Try.ntmps68
    go_wp2_with (fail)
    go_ret
    exact ⟨by rw [← HR.out]; rfl, HB.out⟩
  by_cases hc2 : a4 < a3
  · rw [if_pos (.inr (.inl hc2))] at hr
    have HR := Lib.hid hr
    clear hr
    simp only [Ag.val]
    go_enter Try.func68, Try.ntmps68
    go_wp2_with (fail)
    go_ret
    exact ⟨by rw [← HR.out]; rfl, HB.out⟩
  by_cases hc3 : mn < 0
  · rw [if_pos (.inr (.inr hc3))] at hr
    have HR := Lib.hid hr
    clear hr
    simp only [Ag.val]
    go_enter Try.func68, Try.ntmps68
    go_wp2_with (fail)
    refine HM.out.mono ?_
    rintro e w' ⟨rfl, rfl⟩
    go_wp2_with (fail)
    go_ret
    exact ⟨by rw [← HR.out]; rfl, HB.out⟩
  rw [if_neg (by rintro (h | h | h); exact hc1 h; exact hc2 h; exact hc3 h)] at hr
  obtain ⟨hs, hhs⟩ : ∃ h, has4 most a5 a6 a7 a8 = h := ⟨_, rfl⟩
  rw [hhs] at HH hr
  unfold most at HH
  clear hhs
  cases hs with
  | true =>
    rw [if_pos rfl] at hr
    have HR := Lib.hid hr
    clear hr
    simp only [Ag.val]
    go_enter Try.func68, Try.ntmps68
    go_wp2_with (fail)
    refine HM.out.mono ?_
    rintro e w' ⟨rfl, rfl⟩
    go_wp2_with (fail)
    refine HH.out.mono ?_
    rintro e w' ⟨rfl, rfl⟩
    go_wp2_with (fail)
    go_ret
    exact ⟨by rw [← HR.out]; rfl, HB.out⟩
  | false =>
    rw [if_neg (by simp)] at hr
    have HR := Lib.hid hr
    clear hr
    simp only [Ag.val]
    go_enter Try.func68, Try.ntmps68
    go_wp2_with (fail)
    refine HM.out.mono ?_
    rintro e w' ⟨rfl, rfl⟩
    go_wp2_with (fail)
    refine HH.out.mono ?_
    rintro e w' ⟨rfl, rfl⟩
    go_wp2_with (fail)
    clear hW1
    go_loop [3, 4, 5, 35] (fun s l h i => ∃ k : Nat, k ≤ 4 ∧ i = .int .i64 k ∧ s = .int .i64 (sumK a5 a6 a7 a8 k) ∧ l = .int .i64 (lowK a5 a6 a7 a8 k) ∧ h = .int .i64 (highK a5 a6 a7 a8 k)) (fun _ _ _ i => 4 - (intOf i).toNat)
    case atStart => exact ⟨0, by omega, rfl, rfl, rfl, rfl⟩
    case round =>
      obtain ⟨k, hk, rfl, rfl, rfl, rfl⟩ := hrel
      by_cases hlt : k < 4
      · have hix := idxN a5 a6 a7 a8 k hlt
        have h1 := sumK_succ a5 a6 a7 a8 k hlt
        have h2 := lowK_succ a5 a6 a7 a8 k hlt
        have h3 := highK_succ a5 a6 a7 a8 k hlt
        obtain ⟨n, hn⟩ : ∃ n, nth4 a5 a6 a7 a8 k = n := ⟨_, rfl⟩
        obtain ⟨s, hs⟩ : ∃ n, sumK a5 a6 a7 a8 k = n := ⟨_, rfl⟩
        obtain ⟨l, hl⟩ : ∃ n, lowK a5 a6 a7 a8 k = n := ⟨_, rfl⟩
        obtain ⟨h, hh⟩ : ∃ n, highK a5 a6 a7 a8 k = n := ⟨_, rfl⟩
        rw [hn] at hix h1 h2 h3
        rw [hs] at h1 ⊢
        rw [hl] at h2 ⊢
        rw [hh] at h3 ⊢
        have H1 := Lib.hid h1
        have H2 := Lib.hid h2
        have H3 := Lib.hid h3
        clear h1 h2 h3 hn hs hl hh
        by_cases hp : 0 < n
        · go_wp2_with (fail)
          refine (plus_any _ _ _).mono ?_
          rintro e w' ⟨rfl, rfl⟩
          go_wp2_with (fail)
          go_round
          case rel => exact ⟨k + 1, by omega, by go_num, by rw [H1.out], by rw [H2.out]; unfold lowS; rw [if_pos (by omega)]; first | rfl | (congr 1; split <;> omega), by rw [H3.out]; unfold highS; rw [if_pos (by omega)]⟩
          case measure => simp [intOf]; omega
        · go_wp2_with (fail)
          refine (plus_any _ _ _).mono ?_
          rintro e w' ⟨rfl, rfl⟩
          go_wp2_with (fail)
          go_round
          case rel => exact ⟨k + 1, by omega, by go_num, by rw [H1.out], by rw [H2.out]; unfold lowS; rw [if_neg (by omega)], by rw [H3.out]; unfold highS; rw [if_neg (by omega)]⟩
          case measure => simp [intOf]; omega
      · obtain rfl : k = 4 := by omega
        obtain ⟨s, hs⟩ : ∃ n, sumK a5 a6 a7 a8 4 = n := ⟨_, rfl⟩
        obtain ⟨l, hl⟩ : ∃ n, lowK a5 a6 a7 a8 4 = n := ⟨_, rfl⟩
        obtain ⟨h, hh⟩ : ∃ n, highK a5 a6 a7 a8 4 = n := ⟨_, rfl⟩
        have hr := HR.out
        rw [hs, hl, hh] at hr
        rw [hs, hl, hh]
        have hb1 := bucket_any a3 W1
        have hb2 := bucket_any a4 W1
        obtain ⟨b1, hb3⟩ : ∃ n, (bucketI a3 : Int) = n := ⟨_, rfl⟩
        obtain ⟨b2, hb4⟩ : ∃ n, (bucketI a4 : Int) = n := ⟨_, rfl⟩
        rw [hb3] at hb1 hr
        rw [hb4] at hb2 hr
        have HB1 := Lib.hid hb1
        have HB2 := Lib.hid hb2
        clear hb1 hb2 hb3 hb4 hs hl hh
        by_cases q1 : s = a1
        · have f1 : (s == a1) = true := by simp [q1]
          rw [decide_eq_true q1] at hr
          clear q1
          by_cases q2 : l = b1
          · have f2 : (l == b1) = true := by simp [q2]
            rw [decide_eq_true q2] at hr
            clear q2
            by_cases q3 : h = b2
            · have f3 : (h == b2) = true := by simp [q3]
              rw [decide_eq_true q3] at hr
              clear q3
              have HR2 := Lib.hid hr
              clear hr
              go_wp2_with (fail)
              refine HB1.out.mono ?_
              rintro e w' ⟨rfl, rfl⟩
              go_wp2_with (fail)
              refine HB2.out.mono ?_
              rintro e w' ⟨rfl, rfl⟩
              go_wp2_with (fail)
              go_ret
              exact ⟨by rw [← HR2.out]; rfl, HB.out⟩
            · have f3 : (h == b2) = false := by simp [q3]
              rw [decide_eq_false q3] at hr
              clear q3
              have HR2 := Lib.hid hr
              clear hr
              go_wp2_with (fail)
              refine HB1.out.mono ?_
              rintro e w' ⟨rfl, rfl⟩
              go_wp2_with (fail)
              refine HB2.out.mono ?_
              rintro e w' ⟨rfl, rfl⟩
              go_wp2_with (fail)
              go_ret
              exact ⟨by rw [← HR2.out]; rfl, HB.out⟩
          · have f2 : (l == b1) = false := by simp [q2]
            rw [decide_eq_false q2] at hr
            clear q2
            have HR2 := Lib.hid hr
            clear hr
            go_wp2_with (fail)
            refine HB1.out.mono ?_
            rintro e w' ⟨rfl, rfl⟩
            go_wp2_with (fail)
            go_ret
            exact ⟨by rw [← HR2.out]; rfl, HB.out⟩
        · have f1 : (s == a1) = false := by simp [q1]
          rw [decide_eq_false q1] at hr
          clear q1
          have HR2 := Lib.hid hr
          clear hr
          go_wp2_with (fail)
          go_ret
          exact ⟨by rw [← HR2.out]; rfl, HB.out⟩
end Go.Proofs.Ytmhbibcfbencnaa
