/- tell: the statements' first example. -/
import Derived.Test.YtmhbibcfbencnaaTeA
namespace Go.Proofs.Ytmhbibcfbencnaa
open Go.RowKit Go.Lib
set_option linter.unusedSimpArgs false
set_option linter.unusedVariables false
def T10_1 : List Ot := [⟨(⟨#[97]⟩ : ByteArray), 0, ⟨1, 5, 5, 5, 0, 1, 0, 0⟩⟩]
theorem E10_1 : tpF 0 [] (⟨#[97]⟩ : ByteArray) 3 5 = (1, T10_1) := by unfold tpF; rw [putL_D]; kernel_rfl
theorem E10_2 : tmF 0 T10_1 14 = (1, [], 14, T10_1) := by kernel_rfl
theorem E10_3 : tmF 14 T10_1 15 = (1, T10_1, 15, []) := by kernel_rfl
theorem E10_4 : tpF 15 [] (⟨#[97]⟩ : ByteArray) 4 1 = (2, []) := by unfold tpF; rw [putL_D]; kernel_rfl
set_option maxRecDepth 100000 in
set_option maxHeartbeats 4000000 in
theorem twakes_any (w : World) : Calls Try.prog 27 #[] w fun e w' => e = .returned (.bool true) ∧ Below w.heap.size w w' := by
  go_enter Try.func27, Try.ntmps27
  go_wp2_with (fail)
  refine (tnew_any _).mono ?_
  rintro e w1 ⟨q, p, b, rfl, hL, hq, hp, hb, hB⟩
  have HL1 := Lib.hid hL
  have HB1 := Lib.hid hB
  have HN := Lib.hid (show w.heap.size ≤ q ∧ w.heap.size ≤ p ∧ w.heap.size ≤ b from ⟨hq, hp, hb⟩)
  clear hL hq hp hb hB
  go_wp2_with (fail)
  have hput := tput_any HL1.out (by decide) (⟨#[97]⟩ : ByteArray) (by decide) 3 5
  rw [E10_1] at hput
  simp only at hput
  refine hput.mono ?_
  rintro e w2 ⟨rfl, hL, hK⟩
  clear hput
  have HL2 := Lib.hid hL
  have HB2 := Lib.hid (HB1.out.trans (hK.below HB1.out.size (by have := HN.out; simp; omega)))
  clear hL hK HL1 HB1
  go_wp2_with (fail)
  have hm := tmark_any HL2.out (by decide) 14
  rw [E10_2] at hm
  unfold MarkP at hm
  simp only at hm
  refine hm.mono ?_
  rintro e w3 ⟨A3, c3, rfl, hE, hL, hK⟩
  clear hm
  have HL3 := Lib.hid hL
  have HB3 := Lib.hid (HB2.out.trans (hK.below HB2.out.size (by have := HN.out; simp; omega)))
  simp only [List.length_nil]
  clear hE
  clear hL hK HL2 HB2
  go_wp2_with (fail)
  have hm := tmark_any HL3.out (by decide) 15
  rw [E10_3] at hm
  unfold MarkP at hm
  simp only at hm
  refine hm.mono ?_
  rintro e w4 ⟨A4, c4, rfl, hE, hL, hK⟩
  clear hm
  have HL4 := Lib.hid hL
  have HB4 := Lib.hid (HB3.out.trans (hK.below HB3.out.size (by have := HN.out; simp; omega)))
  have HE4 := Lib.hid hE.row
  have HR4 : Hid (∀ g, A4 = some ⟨g, 0, none⟩ → g ≠ b) := Lib.hid (fun g hg => by obtain ⟨g', e1, e2, _⟩ := hE (by decide); rw [hg] at e1; cases e1; have := HL3.out.lt; omega)
  have HG4 : Hid (∃ g, A4 = some ⟨g, 0, none⟩) := Lib.hid (by obtain ⟨g', e1, _⟩ := hE (by decide); exact ⟨g', e1⟩)
  obtain ⟨m4, hm4⟩ : ∃ n : Nat, T10_1.length = n := ⟨_, rfl⟩
  rw [hm4]
  obtain rfl : m4 = 1 := by rw [← hm4, show T10_1.length = 1 from rfl]; try rfl
  clear hm4
  clear hE
  clear hL hK HL3 HB3
  go_wp2_with (fail)
  have hput := tput_any HL4.out (by decide) (⟨#[97]⟩ : ByteArray) (by decide) 4 1
  rw [E10_4] at hput
  simp only at hput
  refine hput.mono ?_
  rintro e w5 ⟨rfl, hL, hK⟩
  clear hput
  have HL5 := Lib.hid hL
  have HB5 := Lib.hid (HB4.out.trans (hK.below HB4.out.size (by have := HN.out; simp; omega)))
  obtain ⟨g, rfl⟩ := HG4.out
  obtain ⟨g', off, e1, hg, hat⟩ := HE4.out.keep hK (fun _ q off hq => by simp at hq; have := HR4.out g rfl; simp; omega) (by decide)
  obtain ⟨rfl, rfl⟩ : g = g' ∧ 0 = off := by simpa using e1
  obtain ⟨x0, x1, x2, x3, x4, x5, x6, x7, x8, x9⟩ := hat 0 ⟨(⟨#[97]⟩ : ByteArray), 0, ⟨1, 5, 5, 5, 0, 1, 0, 0⟩⟩ (by kernel_rfl)
  simp only [Nat.zero_mul, Nat.add_zero, Nat.zero_add] at x0 x1 x2 x3 x4 x5 x6 x7 x8 x9
  clear hat HE4 HR4 HG4 e1
  clear hL hK HL4 HB4
  go_wp2_with (fail)
  refine (tat_any HL5.out).mono ?_
  rintro e w6 ⟨rfl, rfl⟩
  go_wp2_with (fail)
  go_ret
  exact ⟨rfl, HB5.out⟩
end Go.Proofs.Ytmhbibcfbencnaa
