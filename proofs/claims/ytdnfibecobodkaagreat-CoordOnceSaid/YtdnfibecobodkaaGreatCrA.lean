/- Numbers as bytes: the reader's getVar. -/
import Derived.Test.YtdnfibecobodkaaGreatCmA
import Derived.Lib.VarintBits
import Derived.Lib.MinMax
import Derived.Lib.MinMax
import Derived.WalkSpells
namespace Go.Proofs.YtdnfibecobodkaaGreat
open Go.RowKit Go.Lib
set_option linter.unusedSimpArgs false
set_option linter.unusedVariables false
theorem str_size (s : ByteArray) : s.data.toList.length = s.size := by cases s; simp [ByteArray.size]
theorem strAt (s : ByteArray) (i : Nat) (b : UInt8) (h : s.data.toList[i]? = some b) (t : TypeId) (ht : Tryz.prog.underlying t = some .string) (w : World) : (Instr.index t (.string s) (.int .i64 i)).run Tryz.prog w = .ok (.int .u8 b.toNat) w := by
  have hl : i < s.data.toList.length := (List.getElem?_eq_some_iff.1 h).1
  have hsz : i < s.size := by rw [← str_size]; exact hl
  rw [run_index_string w t s .i64 i ht, dif_pos ⟨by omega, by omega⟩]
  have : s[(i : Int).toNat]'(by simpa using hsz) = b := by
    have h2 := (List.getElem?_eq_some_iff.1 h).2
    rw [← h2]
    cases s
    rfl
  rw [this]
theorem varB_pos (n : Nat) : 0 < (varB n).length := by unfold varB; split <;> simp
theorem varB_len5 (n : Nat) (h : n ≤ 2147483647) : (varB n).length ≤ 5 := by
  have key : ∀ (d n : Nat), n < 128 ^ (d + 1) → (varB n).length ≤ d + 1 := by
    intro d
    induction d with
    | zero => intro n h; unfold varB; rw [if_pos (by simpa using h)]; simp
    | succ d ih =>
      intro n h
      unfold varB
      split
      · simp
      · rw [List.length_cons]
        have := ih (n / 128) (by rw [Nat.div_lt_iff_lt_mul (by omega)]; rw [Nat.pow_succ] at h; exact h)
        omega
  exact key 4 n (Nat.lt_of_le_of_lt h (by decide))
theorem pow128_7 (i : Nat) : 128 ^ i = 2 ^ (7 * i) := by rw [Nat.pow_mul]
theorem varB_get (y : Nat) (rest : List UInt8) : (varB y ++ rest)[0]? = some (if y < 128 then UInt8.ofNat y else UInt8.ofNat (y % 128 + 128)) := by
  unfold varB; split <;> simp
theorem gv_step (xn b j : Nat) (hb : b < 256) (hx : xn < 128 ^ j) (hs : xn + b % 128 * 128 ^ j ≤ 2147483647) : bits BinOp.or IntKind.u64 (xn : Int) (IntKind.u64.wrap (IntKind.u64.wrap (bits BinOp.and IntKind.u8 (b : Int) 127) * 2 ^ (7 * j))) = ((xn + b % 128 * 128 ^ j : Nat) : Int) := by
  have h1 : bits BinOp.and IntKind.u8 (b : Int) 127 = ((b % 128 : Nat) : Int) := by rw [u8_and127 _ (by omega) (by omega)]; omega
  have h2 : IntKind.u64.wrap ((b % 128 : Nat) : Int) = ((b % 128 : Nat) : Int) := u64_wrap_id _ (by omega) (by omega)
  have h3 : ((b % 128 : Nat) : Int) * 2 ^ (7 * j) = ((b % 128 * 128 ^ j : Nat) : Int) := by
    rw [pow128_7 j]
    push_cast
    rfl
  have hle : b % 128 * 128 ^ j ≤ 2147483647 := by omega
  rw [h1, h2, h3, u64_wrap_id _ (by omega) (by omega)]
  have h4 : (((b % 128 * 128 ^ j : Nat) : Int)) % 2 ^ (7 * j) = 0 := by
    have : (2 : Int) ^ (7 * j) = ((128 ^ j : Nat) : Int) := by rw [pow128_7 j]; push_cast; rfl
    rw [this, ← Int.natCast_emod, Nat.mul_mod_left]
    rfl
  have h5 : (xn : Int) < 2 ^ (7 * j) := by
    have : (2 : Int) ^ (7 * j) = ((128 ^ j : Nat) : Int) := by rw [pow128_7 j]; push_cast; rfl
    rw [this]
    omega
  rw [bits_join_low .u64 64 (by decide) wraps_u64 (7 * j) _ _ (by omega) h5 (by omega) (by omega) h4 (by omega)]
  omega
set_option maxRecDepth 100000 in
theorem getVar_any {w : World} (s : ByteArray) (n : Nat) (rest : List UInt8) (hs : s.data.toList = varB n ++ rest) (hn : n ≤ 2147483647) : Calls Tryz.prog 135 #[.string s] w fun e w' => e = .returned (.tuple #[.int .u64 n, .int .i64 (varB n).length]) ∧ w' = w := by
  have hl5 := varB_len5 n hn
  have HSZ : Hid (s.size = (varB n).length + rest.length) := Lib.hid (by rw [← str_size, hs, List.length_append])
  have HS := Lib.hid hs
  clear hs
  have hz0 := varB_pos n
  go_enter Tryz.func135, Tryz.ntmps135
  go_wp2_with (fail)
  obtain ⟨m, hm⟩ : ∃ m : Int, min (s.size : Int) 10 = m := ⟨_, rfl⟩
  rw [hm]
  have HM : Hid (((varB n).length : Int) ≤ m) := Lib.hid (by have := HSZ.out; omega)
  clear hm
  go_loopw [2, 8] (fun x i wr => ∃ (j xn y : Nat), i = .int .i64 j ∧ x = .int .u64 xn ∧ wr = w ∧ xn + y * 128 ^ j = n ∧ xn < 128 ^ j ∧ s.data.toList.drop j = varB y ++ rest ∧ j + (varB y).length = (varB n).length) (fun _ i _ => (varB n).length - (intOf i).toNat)
  case atStart => exact ⟨0, 0, n, rfl, rfl, rfl, by simp, by simp, HS.out, by simp⟩
  case round =>
    obtain ⟨j, xn, y, rfl, rfl, rfl, hxy, hx, hd, hj⟩ := hrel
    have hjl : j < (varB n).length := by have := varB_pos y; omega
    have hjm : (j : Int) < m := by have := HM.out; omega
    have hb := varB_get y rest
    rw [← hd, List.getElem?_drop] at hb
    obtain ⟨b, hbe⟩ : ∃ b, (if y < 128 then UInt8.ofNat y else UInt8.ofNat (y % 128 + 128)) = b := ⟨_, rfl⟩
    rw [hbe] at hb
    have hix : ∀ W, (Instr.index 9 (.string s) (.int .i64 j)).run Tryz.prog W = .ok (.int .u8 b.toNat) W := fun W => strAt s j b (by simpa using hb) _ Tryz.underlying9 W
    clear hb
    by_cases hy : y < 128
    · have hv : varB y = [UInt8.ofNat y] := by rw [varB, if_pos hy]
      have hbn : b.toNat = y := by rw [← hbe, if_pos hy, UInt8.toNat_ofNat']; omega
      obtain ⟨bn, hbn2⟩ : ∃ q : Nat, b.toNat = q := ⟨_, rfl⟩
      rw [hbn2] at hix hbn
      have hlt : (bn : Int) < 128 := by omega
      have hfin := gv_step xn bn j (by omega) hx (by rw [hbn, Nat.mod_eq_of_lt hy]; omega)
      have hval : xn + bn % 128 * 128 ^ j = n := by rw [hbn, Nat.mod_eq_of_lt hy]; exact hxy
      rw [hval] at hfin
      have h9 : ¬ (j : Int) = 9 := by omega
      have HF := Lib.hid hfin
      have hlen : j + 1 = (varB n).length := by rw [← hj, hv]; simp
      have HL := Lib.hid hlen
      clear hfin hlen hbn2 hbe hd hj hv hxy hx hval hbn hy
      go_wp2_with (fail)
      rw [HF.out]
      go_ret2
      refine ⟨?_, rfl⟩
      rw [← HL.out]
      rfl
    · have hv : varB y = UInt8.ofNat (y % 128 + 128) :: varB (y / 128) := by rw [varB, if_neg hy]
      have hbn : b.toNat = y % 128 + 128 := by rw [← hbe, if_neg hy, UInt8.toNat_ofNat']; omega
      obtain ⟨bn, hbn2⟩ : ∃ q : Nat, b.toNat = q := ⟨_, rfl⟩
      rw [hbn2] at hix hbn
      have hlt : ¬ (bn : Int) < 128 := by omega
      have hmod : bn % 128 = y % 128 := by omega
      have hval : xn + bn % 128 * 128 ^ j + y / 128 * 128 ^ (j + 1) = n := by
        rw [hmod, ← hxy, Nat.pow_succ]
        have h1 : y / 128 * (128 ^ j * 128) = y / 128 * 128 * 128 ^ j := by rw [Nat.mul_comm (128 ^ j) 128, ← Nat.mul_assoc]
        rw [h1, Nat.add_assoc, ← Nat.add_mul]
        congr 2
        omega
      have hfin := gv_step xn bn j (by omega) hx (by omega)
      have hup : xn + bn % 128 * 128 ^ j < 128 ^ (j + 1) := by
        have h1 : bn % 128 * 128 ^ j ≤ 127 * 128 ^ j := Nat.mul_le_mul_right _ (by omega)
        rw [Nat.pow_succ]
        omega
      have HF := Lib.hid hfin
      have hdd : s.data.toList.drop (j + 1) = varB (y / 128) ++ rest := by rw [← List.drop_drop, hd, hv]; rfl
      have hlen : j + 1 + (varB (y / 128)).length = (varB n).length := by rw [← hj, hv, List.length_cons]; omega
      have HL := Lib.hid hlen
      have HU := Lib.hid hup
      have HV := Lib.hid hval
      have HD := Lib.hid hdd
      clear hfin hlen hbn2 hbe hd hj hv hxy hx hval hbn hy hmod hup hdd
      go_wp2_with (fail)
      go_roundw
      case rel => exact ⟨j + 1, _, y / 128, by go_num, by rw [HF.out], trivial, HV.out, HU.out, HD.out, HL.out⟩
      case measure => simp [intOf]; omega
end Go.Proofs.YtdnfibecobodkaaGreat
