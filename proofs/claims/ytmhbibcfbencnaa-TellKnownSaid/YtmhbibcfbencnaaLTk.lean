/- TellKnown: the chapter's examples, and the limit. -/
import Derived.Test.YtmhbibcfbencnaaTeB
import Derived.Test.YtmhbibcfbencnaaTeC
namespace Go.Proofs.Ytmhbibcfbencnaa
open Go.RowKit Go.Lib
set_option linter.unusedSimpArgs false
set_option linter.unusedVariables false
theorem OtAt.row1 {W : World} {g : Nat} {x : Ot} (h : OtAt W g x) : OtsRow W (some ⟨g, 0, none⟩) [x] := by
  intro _
  refine ⟨g, 0, rfl, lt_of_heap h, fun i y hi => ?_⟩
  obtain ⟨a0, a1, a2, a3, a4, a5, a6, a7, a8, a9, _⟩ := h.all
  cases i with
  | zero =>
    obtain rfl : x = y := by simpa using hi
    exact ⟨by simpa using a0, by simpa using a1, by simpa using a2, by simpa using a3, by simpa using a4, by simpa using a5, by simpa using a6, by simpa using a7, by simpa using a8, by simpa using a9⟩
  | succ i => simp at hi
def T10_2 : List Ot := [⟨(⟨#[97]⟩ : ByteArray), 0, ⟨1, 5, 5, 5, 0, 1, 0, 0⟩⟩, ⟨(⟨#[98]⟩ : ByteArray), 10, ⟨1, 7, 7, 7, 0, 1, 0, 0⟩⟩]
def T10_3 : List Ot := [⟨(⟨#[98]⟩ : ByteArray), 10, ⟨1, 7, 7, 7, 0, 1, 0, 0⟩⟩]
def T10_4 : List Ot := [⟨(⟨#[97]⟩ : ByteArray), 10, ⟨1, 1, 1, 1, 0, 1, 0, 0⟩⟩, ⟨(⟨#[98]⟩ : ByteArray), 10, ⟨1, 7, 7, 7, 0, 1, 0, 0⟩⟩]
theorem E10_5 : tpF 0 T10_1 (⟨#[98]⟩ : ByteArray) 12 7 = (1, T10_2) := by unfold tpF; rw [putL_D]; kernel_rfl
theorem E10_6 : tmF 0 T10_2 14 = (1, [], 14, T10_2) := by kernel_rfl
theorem E10_7 : tmF 14 T10_2 15 = (1, T10_1, 15, T10_3) := by kernel_rfl
theorem E10_8 : tpF 15 T10_3 (⟨#[97]⟩ : ByteArray) 4 1 = (2, T10_3) := by unfold tpF; rw [putL_D]; kernel_rfl
theorem E10_9 : tpF 15 T10_3 (⟨#[97]⟩ : ByteArray) 10 1 = (1, T10_4) := by unfold tpF; rw [putL_D]; kernel_rfl
theorem E10_10 : tpF 15 T10_4 (⟨#[]⟩ : ByteArray) 10 1 = (4, T10_4) := by unfold tpF; rw [putL_D]; kernel_rfl
theorem E10_11 : tpF 15 T10_4 (⟨#[97]⟩ : ByteArray) (-1) 1 = (4, T10_4) := by unfold tpF; rw [putL_D]; kernel_rfl
theorem E10_12 : tmF 15 T10_4 15 = (1, [], 15, T10_4) := by kernel_rfl
theorem E10_13 : tmF 15 T10_4 25 = (1, T10_4, 25, []) := by kernel_rfl
theorem E10_14 : tmF 25 [] (-1) = (4, [], 25, []) := by kernel_rfl
theorem E10_15 : ofF 15 T10_1 = (12, []) := by kernel_rfl
theorem E10_16 : ofF (-1) [] = (1, []) := by kernel_rfl
theorem E10_17 : ofF 14 T10_1 = (0, T10_1) := by
  unfold ofF T10_1
  simp only [toF]
  rw [setL_D]
  kernel_rfl
def genT (n : Nat) : List Ot := T10_1 ++ gen9 n
theorem genT_len (n : Nat) : (genT n).length = n + 1 := by unfold genT; rw [List.length_append, gen9_len]; show 1 + n = n + 1; omega
theorem genT_put {n : Nat} (hn : n < 31) : tpF 14 (genT n) (⟨#[107]⟩ : ByteArray) (10 * (n : Int)) 1 = (1, genT (n + 1)) := by
  have hs : startI (10 * (n : Int)) = 10 * (n : Int) := by unfold startI; rw [if_pos (by omega)]; omega
  have hr : rightB (10 * (n : Int)) = true := by unfold rightB; rw [decide_eq_true_eq]; omega
  have hl8 : lateB (10 * (n : Int)) 14 = false := by unfold lateB; rw [decide_eq_false_iff_not]; omega
  have hlt : ∀ y ∈ genT n, ltO y ⟨(⟨#[107]⟩ : ByteArray), 10 * (n : Int), ⟨1, 1, 1, 1, 0, 1, 0, 0⟩⟩ := by
    intro y hy
    unfold genT at hy
    rcases List.mem_append.1 hy with hy | hy
    · obtain rfl : y = ⟨(⟨#[97]⟩ : ByteArray), 0, ⟨1, 5, 5, 5, 0, 1, 0, 0⟩⟩ := by simpa [T10_1] using hy
      rcases Nat.eq_zero_or_pos n with h0 | h0
      · subst h0
        exact .inr ⟨rfl, by rw [ByteArray.toList_eq, ByteArray.toList_eq]; decide⟩
      · exact .inl (by simp only; omega)
    · unfold gen9 at hy
      obtain ⟨i, hi, rfl⟩ := List.mem_map.1 hy
      rw [List.mem_range] at hi
      exact .inl (by simp only; omega)
  have hl : lkL ⟨10 * (n : Int), (⟨#[107]⟩ : ByteArray)⟩ (genT n) = none := lkL_none.2 (fun y hy e => ltO_ne (hlt y hy) e.symm)
  have hp : putL (genT n) (⟨#[107]⟩ : ByteArray) (10 * (n : Int)) 1 = (0, genT (n + 1)) := by
    unfold putL
    rw [hs, hl, if_neg (by rw [hr]; rintro (h | h); (have h2 : keyB (⟨#[107]⟩ : ByteArray) = true := by kernel_rfl); rw [h2] at h; cases h; cases h), if_neg (by rw [genT_len]; omega)]
    congr 1
    rw [show (Option.getD none Ag.zero).put 1 = ⟨1, 1, 1, 1, 0, 1, 0, 0⟩ by kernel_rfl, ins_end hlt]
    unfold genT gen9
    rw [List.range_succ, List.map_append, List.append_assoc]
    rfl
  unfold tpF
  rw [hp, if_neg (by rw [hr]; rintro (h | h); (have h2 : keyB (⟨#[107]⟩ : ByteArray) = true := by kernel_rfl); rw [h2] at h; cases h; cases h), hl8]
  rfl
def T10_5 : List Ot := ⟨(⟨#[97]⟩ : ByteArray), 0, ⟨2, 6, 1, 5, 0, 2, 0, 0⟩⟩ :: gen9 31
theorem E10_18 : tpF 14 (genT 31) (⟨#[122]⟩ : ByteArray) 0 1 = (3, genT 31) := by unfold tpF; rw [putL_D]; kernel_rfl
theorem E10_19 : tpF 14 (genT 31) (⟨#[97]⟩ : ByteArray) 0 1 = (1, T10_5) := by unfold tpF; rw [putL_D]; kernel_rfl
set_option maxRecDepth 100000 in
set_option maxHeartbeats 4000000 in
theorem law_TellKnown (w : World) : Calls Try.prog 13 #[] w fun e w' => e = .returned (.bool true) ∧ Below w.heap.size w w' := by
  go_enter Try.func13, Try.ntmps13
  go_wp2_with (fail)
  refine (tnew_any _).mono ?_
  rintro e w1 ⟨q, p, b, rfl, hL, hq, hp, hb, hB⟩
  have HL1 := Lib.hid hL
  have HB1 := Lib.hid hB
  have HN := Lib.hid (show w.heap.size ≤ q ∧ w.heap.size ≤ p ∧ w.heap.size ≤ b from ⟨hq, hp, hb⟩)
  clear hL hq hp hb hB
  go_wp2_with (fail)
  have hput := tput_any HL1.out (by decide) (⟨#[97]⟩ : ByteArray) (by decide) 3 5
  rw [E10_1] at hput
  simp only at hput
  refine hput.mono ?_
  rintro e w2 ⟨rfl, hL, hK⟩
  clear hput
  have HL2 := Lib.hid hL
  have HB2 := Lib.hid (HB1.out.trans (hK.below HB1.out.size (by have := HN.out; simp; omega)))
  clear hL hK HL1 HB1
  go_wp2_with (fail)
  have hput := tput_any HL2.out (by decide) (⟨#[98]⟩ : ByteArray) (by decide) 12 7
  rw [E10_5] at hput
  simp only at hput
  refine hput.mono ?_
  rintro e w3 ⟨rfl, hL, hK⟩
  clear hput
  have HL3 := Lib.hid hL
  have HB3 := Lib.hid (HB2.out.trans (hK.below HB2.out.size (by have := HN.out; simp; omega)))
  clear hL hK HL2 HB2
  go_wp2_with (fail)
  have hm := tmark_any HL3.out (by decide) 14
  rw [E10_6] at hm
  unfold MarkP at hm
  simp only at hm
  refine hm.mono ?_
  rintro e w4 ⟨A4, c4, rfl, hE, hL, hK⟩
  clear hm
  have HL4 := Lib.hid hL
  have HB4 := Lib.hid (HB3.out.trans (hK.below HB3.out.size (by have := HN.out; simp; omega)))
  simp only [List.length_nil]
  clear hE
  clear hL hK HL3 HB3
  go_wp2_with (fail)
  have hm := tmark_any HL4.out (by decide) 15
  rw [E10_7] at hm
  unfold MarkP at hm
  simp only at hm
  refine hm.mono ?_
  rintro e w5 ⟨A5, c5, rfl, hE, hL, hK⟩
  clear hm
  have HL5 := Lib.hid hL
  have HB5 := Lib.hid (HB4.out.trans (hK.below HB4.out.size (by have := HN.out; simp; omega)))
  have HO5 := Lib.hid hE.row
  have HFO : Hid (T10_1 ≠ [] → ∀ q' off, A5 = some ⟨q', off, none⟩ → q' ≠ q ∧ q' ≠ b) := Lib.hid (fun hl q' off hq => by obtain ⟨g', e1, e2, _⟩ := hE hl; rw [hq] at e1; cases e1; have := HL4.out.lt; omega)
  obtain ⟨m5, hm5⟩ : ∃ n : Nat, T10_1.length = n := ⟨_, rfl⟩
  rw [hm5]
  obtain rfl : m5 = 1 := by rw [← hm5, show T10_1.length = 1 from rfl]; try rfl
  clear hm5
  clear hE
  clear hL hK HL4 HB4
  go_wp2_with (fail)
  have hput := tput_any HL5.out (by decide) (⟨#[97]⟩ : ByteArray) (by decide) 4 1
  rw [E10_8] at hput
  simp only at hput
  refine hput.mono ?_
  rintro e w6 ⟨rfl, hL, hK⟩
  clear hput
  have HL6 := Lib.hid hL
  have HB6 := Lib.hid (HB5.out.trans (hK.below HB5.out.size (by have := HN.out; simp; omega)))
  have HO6 := Lib.hid (HO5.out.keep hK (fun hl q off hq => by have := HFO.out hl q off hq; simp; omega))
  clear HO5
  clear hL hK HL5 HB5
  go_wp2_with (fail)
  have hput := tput_any HL6.out (by decide) (⟨#[97]⟩ : ByteArray) (by decide) 10 1
  rw [E10_9] at hput
  simp only at hput
  refine hput.mono ?_
  rintro e w7 ⟨rfl, hL, hK⟩
  clear hput
  have HL7 := Lib.hid hL
  have HB7 := Lib.hid (HB6.out.trans (hK.below HB6.out.size (by have := HN.out; simp; omega)))
  have HO7 := Lib.hid (HO6.out.keep hK (fun hl q off hq => by have := HFO.out hl q off hq; simp; omega))
  clear HO6
  clear hL hK HL6 HB6
  go_wp2_with (fail)
  have hput := tput_any HL7.out (by decide) (⟨#[]⟩ : ByteArray) (by decide) 10 1
  rw [E10_10] at hput
  simp only at hput
  refine hput.mono ?_
  rintro e w8 ⟨rfl, hL, hK⟩
  clear hput
  have HL8 := Lib.hid hL
  have HB8 := Lib.hid (HB7.out.trans (hK.below HB7.out.size (by have := HN.out; simp; omega)))
  have HO8 := Lib.hid (HO7.out.keep hK (fun hl q off hq => by have := HFO.out hl q off hq; simp; omega))
  clear HO7
  clear hL hK HL7 HB7
  go_wp2_with (fail)
  have hput := tput_any HL8.out (by decide) (⟨#[97]⟩ : ByteArray) (by decide) (-1) 1
  rw [E10_11] at hput
  simp only at hput
  refine hput.mono ?_
  rintro e w9 ⟨rfl, hL, hK⟩
  clear hput
  have HL9 := Lib.hid hL
  have HB9 := Lib.hid (HB8.out.trans (hK.below HB8.out.size (by have := HN.out; simp; omega)))
  have HO9 := Lib.hid (HO8.out.keep hK (fun hl q off hq => by have := HFO.out hl q off hq; simp; omega))
  clear HO8
  clear hL hK HL8 HB8
  go_wp2_with (fail)
  have hm := tmark_any HL9.out (by decide) 15
  rw [E10_12] at hm
  unfold MarkP at hm
  simp only at hm
  refine hm.mono ?_
  rintro e w10 ⟨A10, c10, rfl, hE, hL, hK⟩
  clear hm
  have HL10 := Lib.hid hL
  have HB10 := Lib.hid (HB9.out.trans (hK.below HB9.out.size (by have := HN.out; simp; omega)))
  simp only [List.length_nil]
  clear hE
  have HO10 := Lib.hid (HO9.out.keep hK (fun hl q off hq => by have := HFO.out hl q off hq; simp; omega))
  clear HO9
  clear hL hK HL9 HB9
  go_wp2_with (fail)
  have hm := tmark_any HL10.out (by decide) 25
  rw [E10_13] at hm
  unfold MarkP at hm
  simp only at hm
  refine hm.mono ?_
  rintro e w11 ⟨A11, c11, rfl, hE, hL, hK⟩
  clear hm
  have HL11 := Lib.hid hL
  have HB11 := Lib.hid (HB10.out.trans (hK.below HB10.out.size (by have := HN.out; simp; omega)))
  have HX11 := Lib.hid hE.row
  have HFX : Hid (T10_4 ≠ [] → ∀ q' off, A11 = some ⟨q', off, none⟩ → q' ≠ q ∧ q' ≠ b) := Lib.hid (fun hl q' off hq => by obtain ⟨g', e1, e2, _⟩ := hE hl; rw [hq] at e1; cases e1; have := HL10.out.lt; omega)
  obtain ⟨m11, hm11⟩ : ∃ n : Nat, T10_4.length = n := ⟨_, rfl⟩
  rw [hm11]
  obtain rfl : m11 = 2 := by rw [← hm11, show T10_4.length = 2 from rfl]; try rfl
  clear hm11
  clear hE
  have HO11 := Lib.hid (HO10.out.keep hK (fun hl q off hq => by have := HFO.out hl q off hq; simp; omega))
  clear HO10
  clear hL hK HL10 HB10
  go_wp2_with (fail)
  have hm := tmark_any HL11.out (by decide) (-1)
  rw [E10_14] at hm
  unfold MarkP at hm
  simp only at hm
  refine hm.mono ?_
  rintro e w12 ⟨A12, c12, rfl, hE, hL, hK⟩
  clear hm
  have HL12 := Lib.hid hL
  have HB12 := Lib.hid (HB11.out.trans (hK.below HB11.out.size (by have := HN.out; simp; omega)))
  simp only [List.length_nil]
  clear hE
  have HO12 := Lib.hid (HO11.out.keep hK (fun hl q off hq => by have := HFO.out hl q off hq; simp; omega))
  clear HO11
  have HX12 := Lib.hid (HX11.out.keep hK (fun hl q off hq => by have := HFX.out hl q off hq; simp; omega))
  clear HX11
  clear hL hK HL11 HB11
  obtain ⟨go, oo, rfl, hgo, hat⟩ := HO12.out (by decide)
  have hx0 := hat 0 ⟨(⟨#[97]⟩ : ByteArray), 0, ⟨1, 5, 5, 5, 0, 1, 0, 0⟩⟩ (by kernel_rfl)
  obtain ⟨x0, x1, x2, x3, x4, x5, x6, x7, x8, x9⟩ := hx0
  simp only [Nat.zero_mul, Nat.add_zero] at x0 x1 x2 x3 x4 x5 x6 x7 x8 x9
  have hB : Below w12.heap.size w12 (w12.alloc (.cells #[.string (⟨#[97]⟩ : ByteArray), .int .i64 0, .int .i64 1, .int .i64 5, .int .i64 5, .int .i64 5, .int .i64 0, .int .i64 1, .int .i64 0, .int .i64 0] 33)) := (Below.refl _ _).alloc (Nat.le_refl _) _
  have hnew : OtsRow (w12.alloc (.cells #[.string (⟨#[97]⟩ : ByteArray), .int .i64 0, .int .i64 1, .int .i64 5, .int .i64 5, .int .i64 5, .int .i64 0, .int .i64 1, .int .i64 0, .int .i64 0] 33)) (some ⟨w12.heap.size, 0, none⟩) T10_1 := (OtAt.new w12 ⟨(⟨#[97]⟩ : ByteArray), 0, ⟨1, 5, 5, 5, 0, 1, 0, 0⟩⟩).row1
  have ho := tof_any 1 hnew (by decide) (by intro y hy; simp [T10_1] at hy; subst hy; decide) 15
  rw [E10_15, show T10_1.length = 1 from rfl] at ho
  unfold OfP at ho
  have HOF := Lib.hid ho
  have HL13 := Lib.hid (HL12.out.below hB)
  clear HL12
  have HO13 := Lib.hid (HO12.out.below hB)
  clear HO12
  have HX13 := Lib.hid (HX12.out.below hB)
  clear HX12
  have HB13 := Lib.hid (HB12.out.trans (hB.mono HB12.out.size))
  clear hat hB hnew ho HB12
  go_wp2_with (fail)
  clear x0 x1 x2 x3 x4 x5 x6 x7 x8 x9
  refine HOF.out.mono ?_
  rintro e w14 ⟨_, h2, hB⟩
  obtain rfl := h2 (by decide)
  have HL14 := Lib.hid (HL13.out.below hB)
  clear HL13
  have HO14 := Lib.hid (HO13.out.below hB)
  clear HO13
  have HX14 := Lib.hid (HX13.out.below hB)
  clear HX13
  have HB14 := Lib.hid (HB13.out.trans (hB.mono HB13.out.size))
  clear h2 hB HOF HB13
  have ho := tof_any (w := w14) (A := none) (M := []) 0 (fun h => absurd rfl h) (by decide) (by intro y hy; cases hy) (-1)
  rw [E10_16] at ho
  unfold OfP at ho
  simp only [List.length_nil] at ho
  go_wp2_with (fail)
  refine ho.mono ?_
  rintro e w15 ⟨_, h2, hB⟩
  obtain rfl := h2 (by decide)
  have HL15 := Lib.hid (HL14.out.below hB)
  clear HL14
  have HO15 := Lib.hid (HO14.out.below hB)
  clear HO14
  have HX15 := Lib.hid (HX14.out.below hB)
  clear HX14
  have HB15 := Lib.hid (HB14.out.trans (hB.mono HB14.out.size))
  clear h2 hB ho HB14
  have ho := tof_any (w := w15) c5 HO15.out (by decide) (by intro y hy; simp [T10_1] at hy; subst hy; decide) 14
  rw [E10_17, show T10_1.length = 1 from rfl] at ho
  unfold OfP at ho
  go_wp2_with (fail)
  refine ho.mono ?_
  rintro e w16 ⟨h1, _, hB⟩
  have HL15x := HL15
  have HX15x := HX15
  obtain ⟨q2, p2, b2, rfl, hM, hq2, hp2, hb2⟩ := h1 (by trivial)
  try simp only at hM
  have HL16 := Lib.hid (HL15.out.below hB)
  clear HL15
  have HX16 := Lib.hid (HX15.out.below hB)
  clear HX15
  have HB16 := Lib.hid (HB15.out.trans (hB.mono HB15.out.size))
  have HM16 := Lib.hid hM
  have HN2 := Lib.hid (show w.heap.size ≤ b2 ∧ b2 ≠ q ∧ b2 ≠ p ∧ b2 ≠ b ∧ (∀ q' off, A11 = some ⟨q', off, none⟩ → q' ≠ b2) from ⟨by have := HB15.out.size; omega, by have := HL15x.out.lt; omega, by have := HL15x.out.lt; omega, by have := HL15x.out.lt; omega, fun q' off hq => (HX15x.out.far hb2 (by decide) q' off hq)⟩)
  clear h1 hB ho HB15 hM hq2 hp2 hb2 HO15 HL15x HX15x
  go_wp2_with (fail)
  go_loopw [20] (fun i wr => ∃ j : Nat, i = .int .i64 j ∧ j ≤ 31 ∧ LnAt wr q2 p2 b2 14 (genT j) ∧ Keep [b2] w16 wr) (fun i _ => 31 - (intOf i).toNat)
  case atStart => exact ⟨0, rfl, by omega, HM16.out, Keep.refl _ _⟩
  case round =>
    obtain ⟨j, rfl, hj, hM, hK⟩ := hrel
    have HM := Lib.hid hM
    have HK := Lib.hid hK
    clear hM hK
    have h0j : (0 : Int) ≤ (j : Int) := Int.natCast_nonneg j
    by_cases hlt : j < 31
    · have hjn : (j : Int) < 31 := by omega
      have hput := tput_any HM.out (by rw [genT_len]; omega) (⟨#[107]⟩ : ByteArray) (by decide) (10 * (j : Int)) 1
      rw [genT_put hlt] at hput
      simp only at hput
      have HPUT := Lib.hid hput
      clear hput
      go_wp2_with (fail)
      refine HPUT.out.mono ?_
      rintro e w17 ⟨rfl, hM, hK⟩
      have HM2 := Lib.hid hM
      have HK2 := Lib.hid (HK.out.trans hK)
      clear hM hK HM HK HPUT
      go_wp2_with (fail)
      go_roundw
      case rel => exact ⟨j + 1, by go_num, by omega, HM2.out, HK2.out⟩
      case measure => simp [intOf]; omega
    · obtain rfl : j = 31 := by omega
      clear hlt hj h0j HM16
      go_wp2_with (fail)
      have hput := tput_any HM.out (by rw [genT_len]; omega) (⟨#[122]⟩ : ByteArray) (by decide) 0 1
      rw [E10_18] at hput
      simp only at hput
      refine hput.mono ?_
      rintro e w18 ⟨rfl, hM, hK⟩
      clear hput
      have HM18 := Lib.hid hM
      have HK18 := Lib.hid (HK.out.trans hK)
      clear hM hK HM HK
      go_wp2_with (fail)
      have hput := tput_any HM18.out (by rw [genT_len]; omega) (⟨#[97]⟩ : ByteArray) (by decide) 0 1
      rw [E10_19] at hput
      simp only at hput
      refine hput.mono ?_
      rintro e w19 ⟨rfl, hM, hK⟩
      clear hput
      have HM19 := Lib.hid hM
      have HK19 := Lib.hid (HK18.out.trans hK)
      clear hM hK HM18 HK18
      have HL19 := Lib.hid (HL16.out.keep HK19.out (by have := HN2.out; simp; omega) (by have := HN2.out; simp; omega) (by have := HN2.out; simp; omega))
      have HB19 := Lib.hid (HB16.out.trans (HK19.out.below HB16.out.size (by have := HN2.out; simp; omega)))
      obtain ⟨gx, ox, e1, hgx, hat⟩ := HX16.out.keep HK19.out (fun _ q' off hq => by simp; exact HN2.out.2.2.2.2 q' off hq) (by decide)
      subst e1
      have hx0 := hat 0 ⟨(⟨#[97]⟩ : ByteArray), 10, ⟨1, 1, 1, 1, 0, 1, 0, 0⟩⟩ (by kernel_rfl)
      have hx1 := hat 1 ⟨(⟨#[98]⟩ : ByteArray), 10, ⟨1, 7, 7, 7, 0, 1, 0, 0⟩⟩ (by kernel_rfl)
      obtain ⟨x0, x1, x2, x3, x4, x5, x6, x7, x8, x9⟩ := hx0
      obtain ⟨y0, y1, y2, y3, y4, y5, y6, y7, y8, y9⟩ := hx1
      simp only [Nat.zero_mul, Nat.add_zero, Nat.one_mul] at x0 x1 x2 x3 x4 x5 x6 x7 x8 x9 y0 y1 y2 y3 y4 y5 y6 y7 y8 y9
      clear hat HX16 HL16 HB16
      go_wp2_with (fail)
      refine (tat_any HL19.out).mono ?_
      rintro e w20 ⟨rfl, rfl⟩
      go_wp2_with (fail)
      refine (twakes_any _).mono ?_
      rintro e w21 ⟨rfl, hB21⟩
      have HBe := Lib.hid (HB19.out.trans (hB21.mono HB19.out.size))
      clear hB21
      go_wp2_with (fail)
      go_ret
      exact ⟨rfl, HBe.out⟩
end Go.Proofs.Ytmhbibcfbencnaa
