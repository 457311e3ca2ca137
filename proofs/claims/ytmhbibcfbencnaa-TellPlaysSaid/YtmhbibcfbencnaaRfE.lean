/- The document's aggregates: Right. -/
import Derived.Test.YtmhbibcfbencnaaStY
namespace Go.Proofs.Ytmhbibcfbencnaa
open Go.RowKit Go.Lib
set_option linter.unusedSimpArgs false
set_option linter.unusedVariables false
def fstS (f i n : Int) : Int := if 0 < n then (if f < 0 then i else f) else f
def fstK (a b c d : Int) : Nat → Int
  | 0 => -1
  | 1 => fstS (-1) 0 a
  | 2 => fstS (fstS (-1) 0 a) 1 b
  | 3 => fstS (fstS (fstS (-1) 0 a) 1 b) 2 c
  | _ => fstS (fstS (fstS (fstS (-1) 0 a) 1 b) 2 c) 3 d
def hasK (a b c d : Int) : Nat → Bool
  | 0 => false
  | 1 => a == most
  | 2 => (a == most) || (b == most)
  | 3 => (a == most) || (b == most) || (c == most)
  | _ => (a == most) || (b == most) || (c == most) || (d == most)
def nnK (a b c d : Int) : Nat → Prop
  | 0 => True
  | 1 => 0 ≤ a
  | 2 => 0 ≤ a ∧ 0 ≤ b
  | 3 => 0 ≤ a ∧ 0 ≤ b ∧ 0 ≤ c
  | _ => 0 ≤ a ∧ 0 ≤ b ∧ 0 ≤ c ∧ 0 ≤ d
def nthK (a b c d : Int) : Nat → Int
  | 0 => a
  | 1 => b
  | 2 => c
  | _ => d
/-- How far the loop has come. -/
def RI (a b c d : Int) (j : Nat) (hd : Bool) (sm fs ls : Int) : Prop := InR sm ∧ sm = sumK a b c d j ∧ ls = highK a b c d j ∧ fs = fstK a b c d j ∧ hd = hasK a b c d j ∧ nnK a b c d j
theorem RI_zero (a b c d : Int) : RI a b c d 0 false 0 (-1) (-1) := ⟨by unfold InR; omega, rfl, rfl, rfl, rfl, trivial⟩
theorem RI_step {a b c d : Int} {j : Nat} (hj : j < 4) {hd : Bool} {sm fs ls : Int} (h : RI a b c d j hd sm fs ls) (hb : 0 ≤ nthK a b c d j) (hr : InR (nthK a b c d j)) :
    RI a b c d (j + 1) (hd || (nthK a b c d j == most)) (plusI sm (nthK a b c d j)) (fstS fs j (nthK a b c d j)) (highS ls j (nthK a b c d j)) := by
  obtain ⟨h0, rfl, rfl, rfl, rfl, h5⟩ := h
  refine ⟨plus_in h0 hr, ?_⟩
  rcases j with _ | _ | _ | _ | j
  · exact ⟨rfl, rfl, rfl, by simp [hasK, nthK], hb⟩
  · exact ⟨rfl, rfl, rfl, rfl, h5, hb⟩
  · exact ⟨rfl, rfl, rfl, rfl, h5.1, h5.2, hb⟩
  · exact ⟨rfl, rfl, rfl, rfl, h5.1, h5.2.1, h5.2.2, hb⟩
  · omega
theorem fst_low (a b c d : Int) (n : Nat) (hn : n ≤ 3) : (fstK a b c d 4 = n) ↔ (lowK a b c d 4 = n) := by
  rw [low_eq]
  simp only [fstK, fstS, lo4]
  by_cases h1 : 0 < a <;> by_cases h2 : 0 < b <;> by_cases h3 : 0 < c <;> by_cases h4 : 0 < d <;> simp [h1, h2, h3, h4] <;> omega
theorem RI_end {a : Ag} {hd : Bool} {sm fs ls : Int} (h : RI a.b0 a.b1 a.b2 a.b3 4 hd sm fs ls) (h1 : a.c ≠ 0) (h2 : ¬ a.c < 0) (h3 : ¬ a.hi < a.lo) :
    rightA a = (hd || ((sm == a.c) && ((fs == (bucketI a.lo : Int)) && (ls == (bucketI a.hi : Int))))) := by
  obtain ⟨h0, rfl, rfl, rfl, rfl, h5⟩ := h
  obtain ⟨n0, n1, n2, n3⟩ := h5
  unfold rightA
  rw [if_neg h1, if_neg (by rw [mn4_neg]; omega)]
  have e : has4 most a.b0 a.b1 a.b2 a.b3 = hasK a.b0 a.b1 a.b2 a.b3 4 := by
    unfold has4 hasK
    rw [Bool.eq_iff_iff]
    simp only [decide_eq_true_eq, Bool.or_eq_true, beq_iff_eq]
    constructor
    · rintro (h | h | h | h) <;> simp [← h]
    · rintro (((h | h) | h) | h) <;> simp [h]
  rw [e]
  have hl := fst_low a.b0 a.b1 a.b2 a.b3 (bucketI a.lo) (by rcases bucket_cases a.lo with h | h | h | h <;> omega)
  cases hasK a.b0 a.b1 a.b2 a.b3 4 with
  | true => rfl
  | false =>
    simp only [if_false, Bool.false_or, Bool.false_eq_true]
    rw [Bool.eq_iff_iff]
    simp only [Bool.and_eq_true, decide_eq_true_eq, beq_iff_eq]
    rw [hl]
theorem RI_neg {a : Ag} {j : Nat} (hj : j < 4) (h1 : a.c ≠ 0) (hb : nthK a.b0 a.b1 a.b2 a.b3 j < 0) : rightA a = false := by
  unfold rightA
  rw [if_neg h1, if_pos]
  rw [mn4_neg]
  rcases j with _ | _ | _ | _ | j
  · exact .inr (.inr (.inl hb))
  · exact .inr (.inr (.inr (.inl hb)))
  · exact .inr (.inr (.inr (.inr (.inl hb))))
  · exact .inr (.inr (.inr (.inr (.inr hb))))
  · omega
set_option maxRecDepth 100000 in
set_option maxHeartbeats 8000000 in
theorem rfright_any (a : Ag) (ha : a.Wf) (w : World) : Calls Try.prog 70 #[a.val] w fun e w' => e = .returned (.bool (rightA a)) ∧ Below w.heap.size w w' := by
  obtain ⟨r, hr⟩ : ∃ r, rightA a = r := ⟨_, rfl⟩
  rw [hr]
  have heq := fun W => eql_ag a Ag.zero W
  have hgd := guard_ag .eql
  obtain ⟨hc, hs, hlo, hhi, i0, i1, i2, i3⟩ := ha
  obtain ⟨a1, a2, a3, a4, a5, a6, a7, a8⟩ := a
  simp only [Ag.val, Ag.zero] at *
  have HR := Lib.hid hr
  have HI0 := Lib.hid i0
  have HI1 := Lib.hid i1
  have HI2 := Lib.hid i2
  have HI3 := Lib.hid i3
  clear hr i0 i1 i2 i3 hc hs hlo hhi
  obtain ⟨W1, hW1⟩ : ∃ W1, w.alloc (agObj a1 a2 a3 a4 a5 a6 a7 a8) = W1 := ⟨_, rfl⟩
  have hr0 : Bx W1 w.heap.size a1 a2 a3 a4 a5 a6 a7 a8 := hW1 ▸ Bx.new w a1 a2 a3 a4 a5 a6 a7 a8
  have hB : Below w.heap.size w W1 := hW1 ▸ (Below.refl _ w).alloc (Nat.le_refl _) _
  obtain ⟨p0, p1, p2, p3, p4, p5, p6, p7, p8, pf⟩ := hr0.facts
  have HR0 := Lib.hid hr0
  have HB := Lib.hid hB
  clear hr0 hB
  by_cases hc : a1 = 0
  · have hcb : (a1 == 0) = true := by simp [hc]
    have HR2 := HR.out
    unfold rightA at HR2
    rw [if_pos hc] at HR2
    simp only [Ag.zero] at HR2
    rw [HR2] at heq
    have HEQ := Lib.hid heq
    clear hc HR HR2 heq
    have heq := HEQ.out
    go_enter Try.func70, Try.ntmps70
    go_wp2_with (fail)
    go_ret
    exact ⟨rfl, HB.out⟩
  have hcb : (a1 == 0) = false := by simp [hc]
  clear heq hgd
  by_cases h1 : a1 < 0
  · have HR2 : Hid (false = r) := Lib.hid (by rw [← HR.out]; unfold rightA; rw [if_neg hc, if_pos (.inl h1)])
    go_enter Try.func70, Try.ntmps70
    go_wp2_with (fail)
    go_ret
    exact ⟨by rw [← HR2.out]; rfl, HB.out⟩
  by_cases h2 : a4 < a3
  · have HR2 : Hid (false = r) := Lib.hid (by rw [← HR.out]; unfold rightA; rw [if_neg hc, if_pos (.inr (.inl h2))])
    go_enter Try.func70, Try.ntmps70
    go_wp2_with (fail)
    go_ret
    exact ⟨by rw [← HR2.out]; rfl, HB.out⟩
  have HC := Lib.hid hc
  have HN := Lib.hid (And.intro h1 h2)
  go_enter Try.func70, Try.ntmps70
  go_wp2_with (fail)
  clear hW1 hcb hc h1 h2
  go_loopw [3, 4, 5, 6, 7] (fun vh vs vf vl vi wr => ∃ (j : Nat) (ji : Int) (hd : Bool) (sm fs ls : Int), .bool hd = vh ∧ .int .i64 sm = vs ∧ .int .i64 fs = vf ∧ .int .i64 ls = vl ∧ .int .i64 ji = vi ∧ (j : Int) = ji ∧ RI a5 a6 a7 a8 j hd sm fs ls ∧ j ≤ 4 ∧ wr = W1) (fun _ _ _ _ i _ => 4 - (intOf i).toNat)
  case atStart => exact ⟨0, 0, false, 0, -1, -1, rfl, rfl, rfl, rfl, rfl, rfl, RI_zero _ _ _ _, by omega, rfl⟩
  case round =>
    obtain ⟨j, ji, hd, sm, fs, ls, rfl, rfl, rfl, rfl, rfl, hji, hri, hj, rfl⟩ := hrel
    obtain ⟨p0, p1, p2, p3, p4, p5, p6, p7, p8, pf⟩ := HR0.out.facts
    rcases j with _ | _ | _ | _ | _ | j
    · obtain rfl : ji = 0 := by omega
      clear hji
      by_cases hn : a5 < 0
      · have HRF : Hid (false = r) := Lib.hid (by rw [← HR.out]; exact (RI_neg (a := ⟨a1, a2, a3, a4, a5, a6, a7, a8⟩) (j := 0) (by omega) HC.out hn).symm)
        go_wp2_with (fail)
        go_ret
        exact ⟨by rw [← HRF.out]; rfl, HB.out⟩
      · have hst := RI_step (j := 0) (by omega) hri (by simp only [nthK]; omega) HI0.out
        simp only [nthK] at hst
        have hpl := rplus_any sm a5 hri.1 HI0.out
        obtain ⟨sm', hsm'⟩ : ∃ n, plusI sm a5 = n := ⟨_, rfl⟩
        rw [hsm'] at hpl hst
        have HPL := Lib.hid hpl
        clear hpl hsm' hri
        cases hd with
        | true =>
          obtain ⟨mb, hmb⟩ : ∃ m, (a5 == 9223372036854775807) = m := ⟨_, rfl⟩
          have hsth : RI a5 a6 a7 a8 1 true sm' (fstS fs (0 : Nat) a5) (highS ls (0 : Nat) a5) := by
            have h := hst
            rw [show most = 9223372036854775807 from rfl, hmb] at h
            exact h
          clear hst
          by_cases hp : 0 < a5
          · by_cases hf : fs < 0
            · have HST : Hid (RI a5 a6 a7 a8 1 true sm' 0 0) := Lib.hid (by have h := hsth; unfold fstS highS at h; rw [if_pos hp, if_pos hp, if_pos hf] at h; exact h)
              clear hsth
              go_wp2_with (fail)
              refine ((HPL.out _)).mono ?_
              rintro e w3 ⟨rfl, rfl⟩
              go_wp2_with (fail)
              go_roundw
              case rel => exact ⟨1, 1, true, sm', 0, 0, rfl, rfl, rfl, rfl, by go_num, rfl, HST.out, by omega, (by first | trivial | rfl)⟩
              case measure => simp [intOf]
            · have HST : Hid (RI a5 a6 a7 a8 1 true sm' fs 0) := Lib.hid (by have h := hsth; unfold fstS highS at h; rw [if_pos hp, if_pos hp, if_neg hf] at h; exact h)
              clear hsth
              go_wp2_with (fail)
              refine ((HPL.out _)).mono ?_
              rintro e w3 ⟨rfl, rfl⟩
              go_wp2_with (fail)
              go_roundw
              case rel => exact ⟨1, 1, true, sm', fs, 0, rfl, rfl, rfl, rfl, by go_num, rfl, HST.out, by omega, (by first | trivial | rfl)⟩
              case measure => simp [intOf]
          · have HST : Hid (RI a5 a6 a7 a8 1 true sm' fs ls) := Lib.hid (by have h := hsth; unfold fstS highS at h; rw [if_neg hp, if_neg hp] at h; exact h)
            clear hsth
            go_wp2_with (fail)
            refine ((HPL.out _)).mono ?_
            rintro e w3 ⟨rfl, rfl⟩
            go_wp2_with (fail)
            go_roundw
            case rel => exact ⟨1, 1, true, sm', fs, ls, rfl, rfl, rfl, rfl, by go_num, rfl, HST.out, by omega, (by first | trivial | rfl)⟩
            case measure => simp [intOf]
        | false =>
          obtain ⟨mb, hmb⟩ : ∃ m, (a5 == 9223372036854775807) = m := ⟨_, rfl⟩
          have hsth : RI a5 a6 a7 a8 1 mb sm' (fstS fs (0 : Nat) a5) (highS ls (0 : Nat) a5) := by
            have h := hst
            rw [show most = 9223372036854775807 from rfl, hmb] at h
            exact h
          clear hst
          by_cases hp : 0 < a5
          · by_cases hf : fs < 0
            · have HST : Hid (RI a5 a6 a7 a8 1 mb sm' 0 0) := Lib.hid (by have h := hsth; unfold fstS highS at h; rw [if_pos hp, if_pos hp, if_pos hf] at h; exact h)
              clear hsth
              go_wp2_with (fail)
              refine ((HPL.out _)).mono ?_
              rintro e w3 ⟨rfl, rfl⟩
              go_wp2_with (fail)
              go_roundw
              case rel => exact ⟨1, 1, mb, sm', 0, 0, rfl, rfl, rfl, rfl, by go_num, rfl, HST.out, by omega, (by first | trivial | rfl)⟩
              case measure => simp [intOf]
            · have HST : Hid (RI a5 a6 a7 a8 1 mb sm' fs 0) := Lib.hid (by have h := hsth; unfold fstS highS at h; rw [if_pos hp, if_pos hp, if_neg hf] at h; exact h)
              clear hsth
              go_wp2_with (fail)
              refine ((HPL.out _)).mono ?_
              rintro e w3 ⟨rfl, rfl⟩
              go_wp2_with (fail)
              go_roundw
              case rel => exact ⟨1, 1, mb, sm', fs, 0, rfl, rfl, rfl, rfl, by go_num, rfl, HST.out, by omega, (by first | trivial | rfl)⟩
              case measure => simp [intOf]
          · have HST : Hid (RI a5 a6 a7 a8 1 mb sm' fs ls) := Lib.hid (by have h := hsth; unfold fstS highS at h; rw [if_neg hp, if_neg hp] at h; exact h)
            clear hsth
            go_wp2_with (fail)
            refine ((HPL.out _)).mono ?_
            rintro e w3 ⟨rfl, rfl⟩
            go_wp2_with (fail)
            go_roundw
            case rel => exact ⟨1, 1, mb, sm', fs, ls, rfl, rfl, rfl, rfl, by go_num, rfl, HST.out, by omega, (by first | trivial | rfl)⟩
            case measure => simp [intOf]
    · obtain rfl : ji = 1 := by omega
      clear hji
      by_cases hn : a6 < 0
      · have HRF : Hid (false = r) := Lib.hid (by rw [← HR.out]; exact (RI_neg (a := ⟨a1, a2, a3, a4, a5, a6, a7, a8⟩) (j := 1) (by omega) HC.out hn).symm)
        go_wp2_with (fail)
        go_ret
        exact ⟨by rw [← HRF.out]; rfl, HB.out⟩
      · have hst := RI_step (j := 1) (by omega) hri (by simp only [nthK]; omega) HI1.out
        simp only [nthK] at hst
        have hpl := rplus_any sm a6 hri.1 HI1.out
        obtain ⟨sm', hsm'⟩ : ∃ n, plusI sm a6 = n := ⟨_, rfl⟩
        rw [hsm'] at hpl hst
        have HPL := Lib.hid hpl
        clear hpl hsm' hri
        cases hd with
        | true =>
          obtain ⟨mb, hmb⟩ : ∃ m, (a6 == 9223372036854775807) = m := ⟨_, rfl⟩
          have hsth : RI a5 a6 a7 a8 2 true sm' (fstS fs (1 : Nat) a6) (highS ls (1 : Nat) a6) := by
            have h := hst
            rw [show most = 9223372036854775807 from rfl, hmb] at h
            exact h
          clear hst
          by_cases hp : 0 < a6
          · by_cases hf : fs < 0
            · have HST : Hid (RI a5 a6 a7 a8 2 true sm' 1 1) := Lib.hid (by have h := hsth; unfold fstS highS at h; rw [if_pos hp, if_pos hp, if_pos hf] at h; exact h)
              clear hsth
              go_wp2_with (fail)
              refine ((HPL.out _)).mono ?_
              rintro e w3 ⟨rfl, rfl⟩
              go_wp2_with (fail)
              go_roundw
              case rel => exact ⟨2, 2, true, sm', 1, 1, rfl, rfl, rfl, rfl, by go_num, rfl, HST.out, by omega, (by first | trivial | rfl)⟩
              case measure => simp [intOf]
            · have HST : Hid (RI a5 a6 a7 a8 2 true sm' fs 1) := Lib.hid (by have h := hsth; unfold fstS highS at h; rw [if_pos hp, if_pos hp, if_neg hf] at h; exact h)
              clear hsth
              go_wp2_with (fail)
              refine ((HPL.out _)).mono ?_
              rintro e w3 ⟨rfl, rfl⟩
              go_wp2_with (fail)
              go_roundw
              case rel => exact ⟨2, 2, true, sm', fs, 1, rfl, rfl, rfl, rfl, by go_num, rfl, HST.out, by omega, (by first | trivial | rfl)⟩
              case measure => simp [intOf]
          · have HST : Hid (RI a5 a6 a7 a8 2 true sm' fs ls) := Lib.hid (by have h := hsth; unfold fstS highS at h; rw [if_neg hp, if_neg hp] at h; exact h)
            clear hsth
            go_wp2_with (fail)
            refine ((HPL.out _)).mono ?_
            rintro e w3 ⟨rfl, rfl⟩
            go_wp2_with (fail)
            go_roundw
            case rel => exact ⟨2, 2, true, sm', fs, ls, rfl, rfl, rfl, rfl, by go_num, rfl, HST.out, by omega, (by first | trivial | rfl)⟩
            case measure => simp [intOf]
        | false =>
          obtain ⟨mb, hmb⟩ : ∃ m, (a6 == 9223372036854775807) = m := ⟨_, rfl⟩
          have hsth : RI a5 a6 a7 a8 2 mb sm' (fstS fs (1 : Nat) a6) (highS ls (1 : Nat) a6) := by
            have h := hst
            rw [show most = 9223372036854775807 from rfl, hmb] at h
            exact h
          clear hst
          by_cases hp : 0 < a6
          · by_cases hf : fs < 0
            · have HST : Hid (RI a5 a6 a7 a8 2 mb sm' 1 1) := Lib.hid (by have h := hsth; unfold fstS highS at h; rw [if_pos hp, if_pos hp, if_pos hf] at h; exact h)
              clear hsth
              go_wp2_with (fail)
              refine ((HPL.out _)).mono ?_
              rintro e w3 ⟨rfl, rfl⟩
              go_wp2_with (fail)
              go_roundw
              case rel => exact ⟨2, 2, mb, sm', 1, 1, rfl, rfl, rfl, rfl, by go_num, rfl, HST.out, by omega, (by first | trivial | rfl)⟩
              case measure => simp [intOf]
            · have HST : Hid (RI a5 a6 a7 a8 2 mb sm' fs 1) := Lib.hid (by have h := hsth; unfold fstS highS at h; rw [if_pos hp, if_pos hp, if_neg hf] at h; exact h)
              clear hsth
              go_wp2_with (fail)
              refine ((HPL.out _)).mono ?_
              rintro e w3 ⟨rfl, rfl⟩
              go_wp2_with (fail)
              go_roundw
              case rel => exact ⟨2, 2, mb, sm', fs, 1, rfl, rfl, rfl, rfl, by go_num, rfl, HST.out, by omega, (by first | trivial | rfl)⟩
              case measure => simp [intOf]
          · have HST : Hid (RI a5 a6 a7 a8 2 mb sm' fs ls) := Lib.hid (by have h := hsth; unfold fstS highS at h; rw [if_neg hp, if_neg hp] at h; exact h)
            clear hsth
            go_wp2_with (fail)
            refine ((HPL.out _)).mono ?_
            rintro e w3 ⟨rfl, rfl⟩
            go_wp2_with (fail)
            go_roundw
            case rel => exact ⟨2, 2, mb, sm', fs, ls, rfl, rfl, rfl, rfl, by go_num, rfl, HST.out, by omega, (by first | trivial | rfl)⟩
            case measure => simp [intOf]
    · obtain rfl : ji = 2 := by omega
      clear hji
      by_cases hn : a7 < 0
      · have HRF : Hid (false = r) := Lib.hid (by rw [← HR.out]; exact (RI_neg (a := ⟨a1, a2, a3, a4, a5, a6, a7, a8⟩) (j := 2) (by omega) HC.out hn).symm)
        go_wp2_with (fail)
        go_ret
        exact ⟨by rw [← HRF.out]; rfl, HB.out⟩
      · have hst := RI_step (j := 2) (by omega) hri (by simp only [nthK]; omega) HI2.out
        simp only [nthK] at hst
        have hpl := rplus_any sm a7 hri.1 HI2.out
        obtain ⟨sm', hsm'⟩ : ∃ n, plusI sm a7 = n := ⟨_, rfl⟩
        rw [hsm'] at hpl hst
        have HPL := Lib.hid hpl
        clear hpl hsm' hri
        cases hd with
        | true =>
          obtain ⟨mb, hmb⟩ : ∃ m, (a7 == 9223372036854775807) = m := ⟨_, rfl⟩
          have hsth : RI a5 a6 a7 a8 3 true sm' (fstS fs (2 : Nat) a7) (highS ls (2 : Nat) a7) := by
            have h := hst
            rw [show most = 9223372036854775807 from rfl, hmb] at h
            exact h
          clear hst
          by_cases hp : 0 < a7
          · by_cases hf : fs < 0
            · have HST : Hid (RI a5 a6 a7 a8 3 true sm' 2 2) := Lib.hid (by have h := hsth; unfold fstS highS at h; rw [if_pos hp, if_pos hp, if_pos hf] at h; exact h)
              clear hsth
              go_wp2_with (fail)
              refine ((HPL.out _)).mono ?_
              rintro e w3 ⟨rfl, rfl⟩
              go_wp2_with (fail)
              go_roundw
              case rel => exact ⟨3, 3, true, sm', 2, 2, rfl, rfl, rfl, rfl, by go_num, rfl, HST.out, by omega, (by first | trivial | rfl)⟩
              case measure => simp [intOf]
            · have HST : Hid (RI a5 a6 a7 a8 3 true sm' fs 2) := Lib.hid (by have h := hsth; unfold fstS highS at h; rw [if_pos hp, if_pos hp, if_neg hf] at h; exact h)
              clear hsth
              go_wp2_with (fail)
              refine ((HPL.out _)).mono ?_
              rintro e w3 ⟨rfl, rfl⟩
              go_wp2_with (fail)
              go_roundw
              case rel => exact ⟨3, 3, true, sm', fs, 2, rfl, rfl, rfl, rfl, by go_num, rfl, HST.out, by omega, (by first | trivial | rfl)⟩
              case measure => simp [intOf]
          · have HST : Hid (RI a5 a6 a7 a8 3 true sm' fs ls) := Lib.hid (by have h := hsth; unfold fstS highS at h; rw [if_neg hp, if_neg hp] at h; exact h)
            clear hsth
            go_wp2_with (fail)
            refine ((HPL.out _)).mono ?_
            rintro e w3 ⟨rfl, rfl⟩
            go_wp2_with (fail)
            go_roundw
            case rel => exact ⟨3, 3, true, sm', fs, ls, rfl, rfl, rfl, rfl, by go_num, rfl, HST.out, by omega, (by first | trivial | rfl)⟩
            case measure => simp [intOf]
        | false =>
          obtain ⟨mb, hmb⟩ : ∃ m, (a7 == 9223372036854775807) = m := ⟨_, rfl⟩
          have hsth : RI a5 a6 a7 a8 3 mb sm' (fstS fs (2 : Nat) a7) (highS ls (2 : Nat) a7) := by
            have h := hst
            rw [show most = 9223372036854775807 from rfl, hmb] at h
            exact h
          clear hst
          by_cases hp : 0 < a7
          · by_cases hf : fs < 0
            · have HST : Hid (RI a5 a6 a7 a8 3 mb sm' 2 2) := Lib.hid (by have h := hsth; unfold fstS highS at h; rw [if_pos hp, if_pos hp, if_pos hf] at h; exact h)
              clear hsth
              go_wp2_with (fail)
              refine ((HPL.out _)).mono ?_
              rintro e w3 ⟨rfl, rfl⟩
              go_wp2_with (fail)
              go_roundw
              case rel => exact ⟨3, 3, mb, sm', 2, 2, rfl, rfl, rfl, rfl, by go_num, rfl, HST.out, by omega, (by first | trivial | rfl)⟩
              case measure => simp [intOf]
            · have HST : Hid (RI a5 a6 a7 a8 3 mb sm' fs 2) := Lib.hid (by have h := hsth; unfold fstS highS at h; rw [if_pos hp, if_pos hp, if_neg hf] at h; exact h)
              clear hsth
              go_wp2_with (fail)
              refine ((HPL.out _)).mono ?_
              rintro e w3 ⟨rfl, rfl⟩
              go_wp2_with (fail)
              go_roundw
              case rel => exact ⟨3, 3, mb, sm', fs, 2, rfl, rfl, rfl, rfl, by go_num, rfl, HST.out, by omega, (by first | trivial | rfl)⟩
              case measure => simp [intOf]
          · have HST : Hid (RI a5 a6 a7 a8 3 mb sm' fs ls) := Lib.hid (by have h := hsth; unfold fstS highS at h; rw [if_neg hp, if_neg hp] at h; exact h)
            clear hsth
            go_wp2_with (fail)
            refine ((HPL.out _)).mono ?_
            rintro e w3 ⟨rfl, rfl⟩
            go_wp2_with (fail)
            go_roundw
            case rel => exact ⟨3, 3, mb, sm', fs, ls, rfl, rfl, rfl, rfl, by go_num, rfl, HST.out, by omega, (by first | trivial | rfl)⟩
            case measure => simp [intOf]
    · obtain rfl : ji = 3 := by omega
      clear hji
      by_cases hn : a8 < 0
      · have HRF : Hid (false = r) := Lib.hid (by rw [← HR.out]; exact (RI_neg (a := ⟨a1, a2, a3, a4, a5, a6, a7, a8⟩) (j := 3) (by omega) HC.out hn).symm)
        go_wp2_with (fail)
        go_ret
        exact ⟨by rw [← HRF.out]; rfl, HB.out⟩
      · have hst := RI_step (j := 3) (by omega) hri (by simp only [nthK]; omega) HI3.out
        simp only [nthK] at hst
        have hpl := rplus_any sm a8 hri.1 HI3.out
        obtain ⟨sm', hsm'⟩ : ∃ n, plusI sm a8 = n := ⟨_, rfl⟩
        rw [hsm'] at hpl hst
        have HPL := Lib.hid hpl
        clear hpl hsm' hri
        cases hd with
        | true =>
          obtain ⟨mb, hmb⟩ : ∃ m, (a8 == 9223372036854775807) = m := ⟨_, rfl⟩
          have hsth : RI a5 a6 a7 a8 4 true sm' (fstS fs (3 : Nat) a8) (highS ls (3 : Nat) a8) := by
            have h := hst
            rw [show most = 9223372036854775807 from rfl, hmb] at h
            exact h
          clear hst
          by_cases hp : 0 < a8
          · by_cases hf : fs < 0
            · have HST : Hid (RI a5 a6 a7 a8 4 true sm' 3 3) := Lib.hid (by have h := hsth; unfold fstS highS at h; rw [if_pos hp, if_pos hp, if_pos hf] at h; exact h)
              clear hsth
              go_wp2_with (fail)
              refine ((HPL.out _)).mono ?_
              rintro e w3 ⟨rfl, rfl⟩
              go_wp2_with (fail)
              go_roundw
              case rel => exact ⟨4, 4, true, sm', 3, 3, rfl, rfl, rfl, rfl, by go_num, rfl, HST.out, by omega, (by first | trivial | rfl)⟩
              case measure => simp [intOf]
            · have HST : Hid (RI a5 a6 a7 a8 4 true sm' fs 3) := Lib.hid (by have h := hsth; unfold fstS highS at h; rw [if_pos hp, if_pos hp, if_neg hf] at h; exact h)
              clear hsth
              go_wp2_with (fail)
              refine ((HPL.out _)).mono ?_
              rintro e w3 ⟨rfl, rfl⟩
              go_wp2_with (fail)
              go_roundw
              case rel => exact ⟨4, 4, true, sm', fs, 3, rfl, rfl, rfl, rfl, by go_num, rfl, HST.out, by omega, (by first | trivial | rfl)⟩
              case measure => simp [intOf]
          · have HST : Hid (RI a5 a6 a7 a8 4 true sm' fs ls) := Lib.hid (by have h := hsth; unfold fstS highS at h; rw [if_neg hp, if_neg hp] at h; exact h)
            clear hsth
            go_wp2_with (fail)
            refine ((HPL.out _)).mono ?_
            rintro e w3 ⟨rfl, rfl⟩
            go_wp2_with (fail)
            go_roundw
            case rel => exact ⟨4, 4, true, sm', fs, ls, rfl, rfl, rfl, rfl, by go_num, rfl, HST.out, by omega, (by first | trivial | rfl)⟩
            case measure => simp [intOf]
        | false =>
          obtain ⟨mb, hmb⟩ : ∃ m, (a8 == 9223372036854775807) = m := ⟨_, rfl⟩
          have hsth : RI a5 a6 a7 a8 4 mb sm' (fstS fs (3 : Nat) a8) (highS ls (3 : Nat) a8) := by
            have h := hst
            rw [show most = 9223372036854775807 from rfl, hmb] at h
            exact h
          clear hst
          by_cases hp : 0 < a8
          · by_cases hf : fs < 0
            · have HST : Hid (RI a5 a6 a7 a8 4 mb sm' 3 3) := Lib.hid (by have h := hsth; unfold fstS highS at h; rw [if_pos hp, if_pos hp, if_pos hf] at h; exact h)
              clear hsth
              go_wp2_with (fail)
              refine ((HPL.out _)).mono ?_
              rintro e w3 ⟨rfl, rfl⟩
              go_wp2_with (fail)
              go_roundw
              case rel => exact ⟨4, 4, mb, sm', 3, 3, rfl, rfl, rfl, rfl, by go_num, rfl, HST.out, by omega, (by first | trivial | rfl)⟩
              case measure => simp [intOf]
            · have HST : Hid (RI a5 a6 a7 a8 4 mb sm' fs 3) := Lib.hid (by have h := hsth; unfold fstS highS at h; rw [if_pos hp, if_pos hp, if_neg hf] at h; exact h)
              clear hsth
              go_wp2_with (fail)
              refine ((HPL.out _)).mono ?_
              rintro e w3 ⟨rfl, rfl⟩
              go_wp2_with (fail)
              go_roundw
              case rel => exact ⟨4, 4, mb, sm', fs, 3, rfl, rfl, rfl, rfl, by go_num, rfl, HST.out, by omega, (by first | trivial | rfl)⟩
              case measure => simp [intOf]
          · have HST : Hid (RI a5 a6 a7 a8 4 mb sm' fs ls) := Lib.hid (by have h := hsth; unfold fstS highS at h; rw [if_neg hp, if_neg hp] at h; exact h)
            clear hsth
            go_wp2_with (fail)
            refine ((HPL.out _)).mono ?_
            rintro e w3 ⟨rfl, rfl⟩
            go_wp2_with (fail)
            go_roundw
            case rel => exact ⟨4, 4, mb, sm', fs, ls, rfl, rfl, rfl, rfl, by go_num, rfl, HST.out, by omega, (by first | trivial | rfl)⟩
            case measure => simp [intOf]
    · obtain rfl : ji = 4 := by omega
      have he := RI_end (a := ⟨a1, a2, a3, a4, a5, a6, a7, a8⟩) hri HC.out (by have := HN.out.1; simp only; omega) (by have := HN.out.2; simp only; omega)
      simp only at he
      rw [HR.out] at he
      have HE := Lib.hid he
      clear he hri hji
      cases hd with
      | true =>
        go_wp2_with (fail)
        go_ret
        exact ⟨by rw [HE.out]; rfl, HB.out⟩
      | false =>
        have hb1 := rbucket_any a3
        have hb2 := rbucket_any a4
        obtain ⟨u1, hu1⟩ : ∃ n, (bucketI a3 : Int) = n := ⟨_, rfl⟩
        obtain ⟨u2, hu2⟩ : ∃ n, (bucketI a4 : Int) = n := ⟨_, rfl⟩
        rw [hu1] at hb1 HE
        rw [hu2] at hb2 HE
        have HB1 := Lib.hid hb1
        have HB2 := Lib.hid hb2
        clear hb1 hb2 hu1 hu2
        obtain ⟨z1, hz1⟩ : ∃ z, (sm == a1) = z := ⟨_, rfl⟩
        cases z1 with
        | false =>
          go_wp2_with (fail)
          go_ret
          exact ⟨by rw [HE.out, hz1]; rfl, HB.out⟩
        | true =>
          obtain ⟨z2, hz2⟩ : ∃ z, (fs == u1) = z := ⟨_, rfl⟩
          cases z2 with
          | false =>
            go_wp2_with (fail)
            refine ((HB1.out _)).mono ?_
            rintro e w3 ⟨rfl, rfl⟩
            go_wp2_with (fail)
            go_ret
            exact ⟨by rw [HE.out, hz1, hz2]; rfl, HB.out⟩
          | true =>
            obtain ⟨z3, hz3⟩ : ∃ z, (ls == u2) = z := ⟨_, rfl⟩
            go_wp2_with (fail)
            refine ((HB1.out _)).mono ?_
            rintro e w3 ⟨rfl, rfl⟩
            go_wp2_with (fail)
            refine ((HB2.out _)).mono ?_
            rintro e w3 ⟨rfl, rfl⟩
            go_wp2_with (fail)
            go_ret
            exact ⟨by rw [HE.out, hz1, hz2, hz3]; cases z3 <;> rfl, HB.out⟩
    · omega
end Go.Proofs.Ytmhbibcfbencnaa
