/- StoreKnown: the chapter's examples, and the limit. -/
import Derived.Test.YtmhbibcfbencnaaStZ
namespace Go.Proofs.Ytmhbibcfbencnaa
open Go.RowKit Go.Lib
set_option linter.unusedSimpArgs false
set_option linter.unusedVariables false
set_option maxRecDepth 100000 in
set_option maxHeartbeats 4000000 in
theorem law_StoreKnown (w : World) : Calls Try.prog 8 #[] w fun e w' => e = .returned (.bool true) ∧ Below w.heap.size w w' := by
  go_enter Try.func8, Try.ntmps8
  go_wp2_with (fail)
  refine (rnew_any _).mono ?_
  rintro e w1 ⟨p, b, rfl, hS1, hp1, hb1, hB1⟩
  have HB1 := Lib.hid hB1
  have HS1 := Lib.hid hS1
  have HN := Lib.hid (And.intro hp1 hb1)
  clear hB1 hp1 hb1 hS1
  go_wp2_with (fail)
  have hput := rput_any HS1.out (by decide) (⟨#[98]⟩ : ByteArray) (by decide) 12 5
  rw [E9_1] at hput
  simp only at hput
  refine hput.mono ?_
  rintro e w2 ⟨rfl, hS, hK⟩
  have HS2 := Lib.hid hS
  have HB2 := Lib.hid (HB1.out.trans (hK.below HB1.out.size (by have := HN.out; simp; omega)))
  clear hS hK HS1 HB1 hput
  go_wp2_with (fail)
  have hput := rput_any HS2.out (by decide) (⟨#[97]⟩ : ByteArray) (by decide) 19 7
  rw [E9_2] at hput
  simp only at hput
  refine hput.mono ?_
  rintro e w3 ⟨rfl, hS, hK⟩
  have HS3 := Lib.hid hS
  have HB3 := Lib.hid (HB2.out.trans (hK.below HB2.out.size (by have := HN.out; simp; omega)))
  clear hS hK HS2 HB2 hput
  go_wp2_with (fail)
  have hput := rput_any HS3.out (by decide) (⟨#[98]⟩ : ByteArray) (by decide) 10 1
  rw [E9_3] at hput
  simp only at hput
  refine hput.mono ?_
  rintro e w4 ⟨rfl, hS, hK⟩
  have HS4 := Lib.hid hS
  have HB4 := Lib.hid (HB3.out.trans (hK.below HB3.out.size (by have := HN.out; simp; omega)))
  clear hS hK HS3 HB3 hput
  go_wp2_with (fail)
  have hput := rput_any HS4.out (by decide) (⟨#[97]⟩ : ByteArray) (by decide) 3 2
  rw [E9_4] at hput
  simp only at hput
  refine hput.mono ?_
  rintro e w5 ⟨rfl, hS, hK⟩
  have HS5 := Lib.hid hS
  have HB5 := Lib.hid (HB4.out.trans (hK.below HB4.out.size (by have := HN.out; simp; omega)))
  clear hS hK HS4 HB4 hput
  go_wp2_with (fail)
  refine (rall_any HS5.out (by decide)).mono ?_
  rintro e w6 ⟨A6, c6, rfl, hE6, hB6⟩
  have HE6 := Lib.hid hE6.row
  have HF : Hid (S9_4 ≠ [] → ∀ q off, A6 = some ⟨q, off, none⟩ → q ≠ b) := Lib.hid (fun hl q off hq => by obtain ⟨g, e1, e2, _⟩ := hE6 hl; rw [hq] at e1; cases e1; have := HS5.out.lt; omega)
  have HS6 := Lib.hid (HS5.out.below hB6)
  have HB6 := Lib.hid (HB5.out.trans (hB6.mono HB5.out.size))
  clear hE6 hB6 HS5 HB5
  obtain ⟨n3, hn3⟩ : ∃ n : Nat, S9_4.length = n := ⟨_, rfl⟩
  rw [hn3]
  have hn3' : n3 = 3 := by rw [← hn3]; exact E9_14.2.2.1
  subst hn3'
  clear hn3
  obtain ⟨q, off, rfl, hq, hat⟩ : ∃ q off, A6 = some ⟨q, off, none⟩ ∧ q < w6.heap.size ∧ (∀ i x, S9_4[i]? = some x → OcAt w6 q (off + i * 10) x) := HE6.out (by decide)
  have X0 := Lib.hid (hat 0 ⟨(⟨#[97]⟩ : ByteArray), 0, ⟨1, 2, 2, 2, 0, 1, 0, 0⟩⟩ (by kernel_rfl))
  have X1 := Lib.hid (hat 1 ⟨(⟨#[97]⟩ : ByteArray), 10, ⟨1, 7, 7, 7, 0, 1, 0, 0⟩⟩ (by kernel_rfl))
  have X2 := Lib.hid (hat 2 ⟨(⟨#[98]⟩ : ByteArray), 10, ⟨2, 6, 1, 5, 0, 2, 0, 0⟩⟩ (by kernel_rfl))
  obtain ⟨x00, x01, x02, x03, x04, x05, x06, x07, x08, x09⟩ := (hat 0 ⟨(⟨#[97]⟩ : ByteArray), 0, ⟨1, 2, 2, 2, 0, 1, 0, 0⟩⟩ (by kernel_rfl))
  obtain ⟨x10, x11, x12, x13, x14, x15, x16, x17, x18, x19⟩ := (hat 1 ⟨(⟨#[97]⟩ : ByteArray), 10, ⟨1, 7, 7, 7, 0, 1, 0, 0⟩⟩ (by kernel_rfl))
  obtain ⟨x20, x21, x22, x23, x24, x25, x26, x27, x28, x29⟩ := (hat 2 ⟨(⟨#[98]⟩ : ByteArray), 10, ⟨2, 6, 1, 5, 0, 2, 0, 0⟩⟩ (by kernel_rfl))
  simp only [Nat.zero_mul, Nat.add_zero, Nat.one_mul, Nat.reduceMul] at x00 x01 x02 x03 x04 x05 x06 x07 x08 x09 x10 x11 x12 x13 x14 x15 x16 x17 x18 x19 x20 x21 x22 x23 x24 x25 x26 x27 x28 x29
  clear hat
  go_wp2_with (fail)
  clear x00 x01 x02 x03 x04 x05 x06 x07 x08 x09 x10 x11 x12 x13 x14 x15 x16 x17 x18 x19 x20 x21 x22 x23 x24 x25 x26 x27 x28 x29
  have hqb : q ≠ b := HF.out (by decide) q off rfl
  have HK6 := Lib.hid (Keep.refl [b] w6)
  clear HE6 HF
  refine (rtake_any HS6.out (by decide) 14).mono ?_
  rintro e w7 ⟨A7, c7, rfl, hE, hS, hK⟩
  rw [E9_5.2.1] at hS
  obtain ⟨m7, hm7⟩ : ∃ n : Nat, (overL 14 S9_4).length = n := ⟨_, rfl⟩
  rw [hm7]
  obtain rfl : m7 = 0 := by rw [← hm7, E9_5.1]; try rfl
  clear hm7
  clear hE
  have HS7 := Lib.hid hS
  have HB7 := Lib.hid (HB6.out.trans (hK.below HB6.out.size (by have := HN.out; simp; omega)))
  have HK7 := Lib.hid (HK6.out.trans hK)
  clear HK6
  clear hS hK HS6 HB6
  go_wp2_with (fail)
  refine (rtake_any HS7.out (by decide) 15).mono ?_
  rintro e w8 ⟨A8, c8, rfl, hE, hS, hK⟩
  rw [E9_5.2.2.2] at hS
  obtain ⟨m8, hm8⟩ : ∃ n : Nat, (overL 15 S9_4).length = n := ⟨_, rfl⟩
  rw [hm8]
  obtain rfl : m8 = 1 := by rw [← hm8, E9_5.2.2.1]; try rfl
  clear hm8
  clear hE
  have HS8 := Lib.hid hS
  have HB8 := Lib.hid (HB7.out.trans (hK.below HB7.out.size (by have := HN.out; simp; omega)))
  have HK8 := Lib.hid (HK7.out.trans hK)
  clear HK7
  clear hS hK HS7 HB7
  go_wp2_with (fail)
  refine (rlen_any HS8.out).mono ?_
  rintro e w9 ⟨rfl, rfl⟩
  obtain ⟨m9, hm9⟩ : ∃ n : Nat, S9_5.length = n := ⟨_, rfl⟩
  rw [hm9]
  obtain rfl : m9 = 2 := by rw [← hm9, E9_14.2.2.2]; try rfl
  clear hm9
  go_wp2_with (fail)
  have hput := rput_any HS8.out (by decide) (⟨#[]⟩ : ByteArray) (by decide) 3 2
  rw [E9_6] at hput
  simp only at hput
  refine hput.mono ?_
  rintro e w10 ⟨rfl, hS, hK⟩
  clear hput
  have HS10 := Lib.hid hS
  have HB10 := Lib.hid (HB8.out.trans (hK.below HB8.out.size (by have := HN.out; simp; omega)))
  have HK10 := Lib.hid (HK8.out.trans hK)
  clear HK8
  clear hS hK HS8 HB8
  go_wp2_with (fail)
  have hput := rput_any HS10.out (by decide) (⟨#[97]⟩ : ByteArray) (by decide) (-1) 1
  rw [E9_7] at hput
  simp only at hput
  refine hput.mono ?_
  rintro e w11 ⟨rfl, hS, hK⟩
  clear hput
  have HS11 := Lib.hid hS
  have HB11 := Lib.hid (HB10.out.trans (hK.below HB10.out.size (by have := HN.out; simp; omega)))
  have HK11 := Lib.hid (HK10.out.trans hK)
  clear HK10
  clear hS hK HS10 HB10
  obtain ⟨x00, x01, x02, x03, x04, x05, x06, x07, x08, x09⟩ := X0.out.keep HK11.out hq (by simp; exact hqb)
  simp only [Nat.zero_mul, Nat.add_zero, Nat.one_mul, Nat.reduceMul] at x00 x01 x02 x03 x04 x05 x06 x07 x08 x09
  go_wp2_with (fail)
  clear x00 x01 x02 x03 x04 x05 x06 x07 x08 x09
  have hput := rset_any HS11.out (by decide) ⟨(⟨#[97]⟩ : ByteArray), 3, ⟨1, 2, 2, 2, 0, 1, 0, 0⟩⟩ (by decide)
  rw [E9_8] at hput
  simp only [Ot.enc] at hput
  refine hput.mono ?_
  rintro e w12 ⟨rfl, hS, hK⟩
  clear hput
  have HS12 := Lib.hid hS
  have HB12 := Lib.hid (HB11.out.trans (hK.below HB11.out.size (by have := HN.out; simp; omega)))
  have HK12 := Lib.hid (HK11.out.trans hK)
  clear HK11
  clear hS hK HS11 HB11
  obtain ⟨x10, x11, x12, x13, x14, x15, x16, x17, x18, x19⟩ := X1.out.keep HK12.out hq (by simp; exact hqb)
  simp only [Nat.zero_mul, Nat.add_zero, Nat.one_mul, Nat.reduceMul] at x10 x11 x12 x13 x14 x15 x16 x17 x18 x19
  go_wp2_with (fail)
  clear x10 x11 x12 x13 x14 x15 x16 x17 x18 x19
  have hput := rset_any HS12.out (by decide) ⟨(⟨#[97]⟩ : ByteArray), 10, ⟨1, 7, 7, 7, 0, 1, 0, 0⟩⟩ (by decide)
  rw [E9_9] at hput
  simp only [Ot.enc] at hput
  refine hput.mono ?_
  rintro e w13 ⟨rfl, hS, hK⟩
  clear hput
  have HS13 := Lib.hid hS
  have HB13 := Lib.hid (HB12.out.trans (hK.below HB12.out.size (by have := HN.out; simp; omega)))
  have HK13 := Lib.hid (HK12.out.trans hK)
  clear HK12
  clear hS hK HS12 HB12
  go_wp2_with (fail)
  have hput := rset_any HS13.out (by decide) ⟨(⟨#[97]⟩ : ByteArray), 0, ⟨0, 0, 0, 0, 0, 0, 0, 0⟩⟩ (by decide)
  rw [E9_10] at hput
  simp only [Ot.enc] at hput
  refine hput.mono ?_
  rintro e w14 ⟨rfl, hS, hK⟩
  clear hput
  have HS14 := Lib.hid hS
  have HB14 := Lib.hid (HB13.out.trans (hK.below HB13.out.size (by have := HN.out; simp; omega)))
  have HK14 := Lib.hid (HK13.out.trans hK)
  clear HK13
  clear hS hK HS13 HB13
  go_wp2_with (fail)
  refine (rnew_any _).mono ?_
  rintro e w15 ⟨p2, b2, rfl, hS, hp, hb, hB⟩
  have HS15 := Lib.hid hS
  have hq4 : q < w14.heap.size := Nat.lt_of_lt_of_le hq HK14.out.size
  have HX15 := Lib.hid ((X0.out.keep HK14.out hq (by simp; exact hqb)).keep (Keep.of_below hB []) hq4 (by simp))
  have hq5 : q < w15.heap.size := Nat.lt_of_lt_of_le hq4 hB.size
  have HN2 := Lib.hid (show w.heap.size ≤ b2 ∧ q ≠ b2 from ⟨by have := HB14.out.size; omega, by omega⟩)
  have HB15 := Lib.hid (HB14.out.trans (hB.mono HB14.out.size))
  clear hS hp hb hB HS14 HB14 HK14 hq hq4 X0 X1 X2 hqb
  go_wp2_with (fail)
  go_loopw [8] (fun i wr => ∃ j : Nat, i = .int .i64 j ∧ j ≤ 32 ∧ SrAt wr p2 b2 (gen9 j) ∧ Keep [b2] w15 wr) (fun i _ => 32 - (intOf i).toNat)
  case atStart => exact ⟨0, rfl, by omega, HS15.out, Keep.refl _ _⟩
  case round =>
    obtain ⟨j, rfl, hj, hS, hK⟩ := hrel
    have HS := Lib.hid hS
    have HK := Lib.hid hK
    clear hS hK
    have h0j : (0 : Int) ≤ (j : Int) := Int.natCast_nonneg j
    by_cases hlt : j < 32
    · have hjn : (j : Int) < 32 := by omega
      have hput := rput_any HS.out (by rw [gen9_len]; omega) (⟨#[107]⟩ : ByteArray) (by decide) (10 * (j : Int)) 1
      rw [gen9_put hlt] at hput
      simp only at hput
      have HPUT := Lib.hid hput
      clear hput
      go_wp2_with (fail)
      refine HPUT.out.mono ?_
      rintro e w16 ⟨rfl, hS, hK⟩
      have HS2 := Lib.hid hS
      have HK2 := Lib.hid (HK.out.trans hK)
      clear hS hK HS HK HPUT
      go_wp2_with (fail)
      go_roundw
      case rel => exact ⟨j + 1, by go_num, by omega, HS2.out, HK2.out⟩
      case measure => simp [intOf]; omega
    · obtain rfl : j = 32 := by omega
      clear hlt hj h0j HS15
      have HS17 : Hid (SrAt wr p2 b2 S9_6) := HS
      have HK17 := HK
      clear HS HK
      go_wp2_with (fail)
      have hput := rput_any HS17.out (by decide) (⟨#[107]⟩ : ByteArray) (by decide) 320 1
      rw [E9_11] at hput
      simp only at hput
      refine hput.mono ?_
      rintro e w18 ⟨rfl, hS, hK⟩
      clear hput
      have HS18 := Lib.hid hS
      have HK18 := Lib.hid (HK17.out.trans hK)
      clear hS hK HS17 HK17
      go_wp2_with (fail)
      have hput := rput_any HS18.out (by decide) (⟨#[107]⟩ : ByteArray) (by decide) 5 1
      rw [E9_12] at hput
      simp only at hput
      refine hput.mono ?_
      rintro e w19 ⟨rfl, hS, hK⟩
      clear hput
      have HS19 := Lib.hid hS
      have HK19 := Lib.hid (HK18.out.trans hK)
      clear hS hK HS18 HK18
      obtain ⟨x00, x01, x02, x03, x04, x05, x06, x07, x08, x09⟩ := HX15.out.keep HK19.out hq5 (by have := HN2.out; simp; omega)
      simp only [Nat.zero_mul, Nat.add_zero, Nat.one_mul, Nat.reduceMul] at x00 x01 x02 x03 x04 x05 x06 x07 x08 x09
      go_wp2_with (fail)
      clear x00 x01 x02 x03 x04 x05 x06 x07 x08 x09
      have hput := rset_any HS19.out (by decide) ⟨(⟨#[122]⟩ : ByteArray), 0, ⟨1, 2, 2, 2, 0, 1, 0, 0⟩⟩ (by decide)
      rw [E9_13] at hput
      simp only [Ot.enc] at hput
      refine hput.mono ?_
      rintro e w20 ⟨rfl, hS, hK⟩
      clear hput
      have HS20 := Lib.hid hS
      have HK20 := Lib.hid (HK19.out.trans hK)
      clear hS hK HS19 HK19
      go_wp2_with (fail)
      refine (rlen_any HS20.out).mono ?_
      rintro e w21 ⟨rfl, rfl⟩
      obtain ⟨m21, hm21⟩ : ∃ n : Nat, S9_7.length = n := ⟨_, rfl⟩
      rw [hm21]
      obtain rfl : m21 = 32 := by rw [← hm21, E9_14.2.1]; try rfl
      clear hm21
      have HB20 := Lib.hid (HB15.out.trans (HK20.out.below HB15.out.size (by have := HN2.out; simp; omega)))
      go_wp2_with (fail)
      refine (wakes09 _).mono ?_
      rintro e w22 ⟨rfl, hB22⟩
      have HBe := Lib.hid (HB20.out.trans (hB22.mono HB20.out.size))
      clear hB22
      go_wp2_with (fail)
      go_ret
      exact ⟨rfl, HBe.out⟩
end Go.Proofs.Ytmhbibcfbencnaa
