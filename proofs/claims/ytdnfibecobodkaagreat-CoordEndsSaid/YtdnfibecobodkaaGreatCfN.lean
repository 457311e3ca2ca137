/- A message that a frame holds is read back; table.Owner. -/
import Derived.Test.YtdnfibecobodkaaGreatCsE
import Derived.Test.YtdnfibecobodkaaGreatCsG
import Derived.Test.YtdnfibecobodkaaGreatCcE
namespace Go.Proofs.YtdnfibecobodkaaGreat
open Go.RowKit Go.Lib
set_option linter.unusedSimpArgs false
set_option linter.unusedVariables false
theorem pow256 (j : Nat) : 256 ^ j = 2 ^ (8 * j) := by rw [Nat.pow_mul]
/-- One byte more. -/
theorem gl_step (x j : Nat) (hj : j < 4) : bits BinOp.or IntKind.u64 ((x % 2 ^ (8 * j) : Nat) : Int) (IntKind.u64.wrap (((x / 2 ^ (8 * j) % 256 : Nat) : Int) * 2 ^ (8 * j))) = ((x % 2 ^ (8 * (j + 1)) : Nat) : Int) := by
  obtain ⟨p, hp⟩ : ∃ p, 2 ^ (8 * j) = p := ⟨_, rfl⟩
  have hp0 : 0 < p := by rw [← hp]; exact Nat.pow_pos (by decide)
  have hp3 : p ≤ 16777216 := by rw [← hp]; exact Nat.pow_le_pow_right (n := 2) (by decide) (show 8 * j ≤ 24 by omega)
  have hq : 2 ^ (8 * (j + 1)) = p * 256 := by rw [show 8 * (j + 1) = 8 * j + 8 from by omega, Nat.pow_add, hp]
  have hpz : (2 : Int) ^ (8 * j) = (p : Int) := by rw [← hp]; push_cast; rfl
  have hm : x % (p * 256) = x % p + p * (x / p % 256) := Nat.mod_mul
  have hb : x / p % 256 < 256 := Nat.mod_lt _ (by decide)
  have hxp : x % p < p := Nat.mod_lt _ hp0
  have hle : p * (x / p % 256) ≤ 16777216 * 255 := Nat.mul_le_mul hp3 (by omega)
  have hc : ((x / p % 256 : Nat) : Int) * (p : Int) = ((p * (x / p % 256) : Nat) : Int) := by rw [Int.natCast_mul, Int.mul_comm]
  rw [hq, hm, hpz, hp, hc, u64_wrap_id _ (by omega) (by omega)]
  have h4 : (((p * (x / p % 256) : Nat)) : Int) % 2 ^ (8 * j) = 0 := by
    rw [hpz, ← Int.natCast_emod, Nat.mul_mod_right]
    rfl
  have h5 : ((x % p : Nat) : Int) < 2 ^ (8 * j) := by rw [hpz]; omega
  rw [bits_join_low .u64 64 (by decide) wraps_u64 (8 * j) _ _ (by omega) h5 (by omega) (by omega) h4 (by omega)]
  exact (Int.natCast_add _ _).symm
theorem leB_get (x j : Nat) (hj : j < 4) (rest : List UInt8) : (leB 4 x ++ rest)[j]? = some (UInt8.ofNat (x / 2 ^ (8 * j) % 256)) := by
  rw [List.getElem?_append_left (by rw [leB_len]; exact hj)]
  simp [leB, hj]
set_option maxRecDepth 100000 in
theorem getLittle_any {w : World} (s : ByteArray) (x : Nat) (rest : List UInt8) (hs : s.data.toList = leB 4 x ++ rest) (hx : x < 4294967296) : Calls Tryz.prog 90 #[.string s, .int .i64 4] w fun e w' => e = .returned (.int .u64 x) ∧ w' = w := by
  have HS := Lib.hid hs
  clear hs
  go_enter Tryz.func90, Tryz.ntmps90
  go_wp2_with (fail)
  go_loopw [4, 7] (fun a i wr => ∃ (j : Nat), i = .int .i64 j ∧ j ≤ 4 ∧ a = .int .u64 ((x % 2 ^ (8 * j) : Nat) : Int) ∧ wr = w) (fun _ i _ => 4 - (intOf i).toNat)
  case atStart => exact ⟨0, rfl, by omega, by simp [Nat.mod_one], rfl⟩
  case round =>
    obtain ⟨j, rfl, hj, rfl, rfl⟩ := hrel
    have h0j : (0 : Int) ≤ (j : Int) := Int.natCast_nonneg j
    by_cases hlt : j < 4
    · have hjn : (j : Int) < 4 := by omega
      have hb := leB_get x j hlt rest
      rw [← HS.out] at hb
      have hst := gl_step x j hlt
      obtain ⟨y, hy⟩ : ∃ y, x / 2 ^ (8 * j) % 256 = y := ⟨_, rfl⟩
      have hy2 : y < 256 := by rw [← hy]; exact Nat.mod_lt _ (by decide)
      rw [hy] at hb hst
      have hix : ∀ W, (Instr.index 9 (.string s) (.int .i64 j)).run Tryz.prog W = .ok (.int .u8 y) W := fun W => by
        have h := strAt s j _ hb _ Tryz.underlying9 W
        rw [UInt8.toNat_ofNat', Nat.mod_eq_of_lt hy2] at h
        exact h
      have HST := Lib.hid hst
      obtain ⟨z, hz⟩ : ∃ z, x % 2 ^ (8 * j) = z := ⟨_, rfl⟩
      rw [hz] at HST ⊢
      clear hb hst hy hz
      go_wp2_with (fail)
      go_roundw
      case rel => exact ⟨j + 1, by go_num, by omega, by rw [HST.out], trivial⟩
      case measure => go_light; simp [intOf]; omega
    · obtain rfl : j = 4 := by omega
      have h4 : x % 2 ^ (8 * 4) = x := Nat.mod_eq_of_lt (by omega)
      rw [h4]
      clear h4
      go_wp2_with (fail)
      go_ret
      exact ⟨rfl, rfl⟩
/-- A part of a text. -/
theorem strPart (s : ByteArray) (p q : Nat) (hp : p ≤ q) (hq : q ≤ s.size) : ∃ s2 : ByteArray, s2.data.toList = (s.data.toList.drop p).take (q - p) ∧ ∀ W, (Instr.slice 9 (.string s) (some (.int .i64 p)) (some (.int .i64 q)) none).run Tryz.prog W = .ok (.string s2) W := by
  refine ⟨s.extract p q, ?_, fun W => ?_⟩
  · have := str_size s
    cases s
    simp only [ByteArray.data_extract] at *
    simp [ByteArray.size, List.drop_take]
  · have h := run_slice_string (P := Tryz.prog) (w := W) 9 s .i64 .i64 (p : Int) (q : Int) Tryz.underlying9 (by omega) (by omega) (by omega)
    simpa using h
set_option maxRecDepth 100000 in
theorem get_any {w : World} (s : ByteArray) (at' x : Nat) (rest : List UInt8) (hs : s.data.toList.drop at' = leB 4 x ++ rest) (hx : x < 4294967296) (hz : s.size ≤ 100000) : Calls Tryz.prog 68 #[.string s, .int .i64 at'] w fun e w' => e = .returned (.int .u32 x) ∧ w' = w := by
  have hlen : s.size - at' = 4 + rest.length := by rw [← str_size, ← List.length_drop, hs, List.length_append, leB_len]
  obtain ⟨s2, hs2, hsl⟩ := strPart s at' (at' + 4) (by omega) (by omega)
  have hs3 : s2.data.toList = leB 4 x ++ [] := by rw [hs2, hs, show at' + 4 - at' = 4 from by omega, List.append_nil, List.take_append_of_le_length (by rw [leB_len]; exact Nat.le_refl _), List.take_of_length_le (by rw [leB_len]; exact Nat.le_refl _)]
  have HG := Lib.hid (getLittle_any (w := w) s2 x [] hs3 hx)
  have hsl' : ∀ W, (Instr.slice 9 (.string s) (some (.int .i64 at')) (some (.int .i64 ((at' : Int) + 4))) none).run Tryz.prog W = .ok (.string s2) W := fun W => by simpa using hsl W
  have hat : at' + 4 ≤ 100000 := by omega
  clear hs hs2 hs3 hsl hlen
  go_enter Tryz.func68, Tryz.ntmps68
  go_wp2_with (fail)
  refine HG.out.mono ?_
  rintro e w1 ⟨rfl, rfl⟩
  go_wp2_with (fail)
  go_ret
  exact ⟨rfl, rfl⟩
set_option linter.unusedSimpArgs false
set_option linter.unusedVariables false
theorem frame_len (l : List UInt8) : (frameB l).length = l.length + 12 := by
  unfold frameB
  simp only [List.length_append, leB_len]
  omega
/-- What lies where in a frame. -/
theorem frame_parts {l : List UInt8} : (frameB l).drop 4 = leB 4 (crcF (leB 4 l.length)) ++ (l ++ leB 4 (crcF l)) ∧ (frameB l).drop 0 = leB 4 l.length ++ (leB 4 (crcF (leB 4 l.length)) ++ (l ++ leB 4 (crcF l))) ∧
    (frameB l).drop (8 + l.length) = leB 4 (crcF l) ++ [] ∧ ((frameB l).drop 0).take 4 = leB 4 l.length ∧ ((frameB l).drop 8).take l.length = l := by
  have h0 : frameB l = leB 4 l.length ++ (leB 4 (crcF (leB 4 l.length)) ++ (l ++ leB 4 (crcF l))) := by
    unfold frameB
    simp only [List.append_assoc]
  obtain ⟨A, hA⟩ : ∃ A, leB 4 l.length = A := ⟨_, rfl⟩
  obtain ⟨B, hB⟩ : ∃ B, leB 4 (crcF A) = B := ⟨_, rfl⟩
  obtain ⟨D, hD⟩ : ∃ D, leB 4 (crcF l) = D := ⟨_, rfl⟩
  have hAl : A.length = 4 := by rw [← hA, leB_len]
  have hBl : B.length = 4 := by rw [← hB, leB_len]
  rw [h0, hA, hB, hD]
  have h8 : (A ++ (B ++ (l ++ D))).drop 8 = l ++ D := by
    have e : (8 : Nat) = A.length + B.length := by omega
    rw [e, ← List.drop_drop, List.drop_left, List.drop_left]
  refine ⟨?_, rfl, ?_, ?_, ?_⟩
  · rw [← hAl, List.drop_left]
  · rw [← List.drop_drop, h8, List.drop_left, List.append_nil]
  · rw [List.drop_zero, ← hAl, List.take_left]
  · rw [h8, List.take_left]
theorem str_of {s : ByteArray} {l : List UInt8} (h : s.data.toList = l) : s = ⟨l.toArray⟩ := by
  subst h
  cases s
  rfl
set_option maxRecDepth 100000 in
set_option maxHeartbeats 4000000 in
theorem next_any {w : World} (s : ByteArray) (l : List UInt8) (hs : s.data.toList = frameB l) (hl : l.length ≤ 16384) (a : Nat) (ha : a = 0) : Calls Tryz.prog 56 #[.string s, .int .i64 a] w fun e w' => e = .returned (.tuple #[.string ⟨l.toArray⟩, .int .i64 s.size, .int .i64 0]) ∧ Keep [] w w' := by
  obtain ⟨p1, p2, p3, p4, p5⟩ := frame_parts (l := l)
  rw [← hs] at p1 p2 p3 p4 p5
  have hsz : s.size = l.length + 12 := by rw [← str_size, hs, frame_len]
  obtain ⟨n, hn⟩ : ∃ n, l.length = n := ⟨_, rfl⟩
  rw [hn] at hsz hl p1 p2 p3 p4 p5
  have q1 : List.drop (a + 4) s.data.toList = leB 4 (crcF (leB 4 n)) ++ (l ++ leB 4 (crcF l)) := by rw [ha]; exact p1
  have q3 : List.drop (a + 8 + n) s.data.toList = leB 4 (crcF l) ++ [] := by rw [ha, show 0 + 8 + n = 8 + n by omega]; exact p3
  have q2 : List.drop a s.data.toList = leB 4 n ++ (leB 4 (crcF (leB 4 n)) ++ (l ++ leB 4 (crcF l))) := by rw [ha]; exact p2
  have G4 := Lib.hid (fun W => show Calls Tryz.prog 68 #[.string s, .int .i64 ((a : Int) + 4)] W fun e w' => e = .returned (.int .u32 (crcF (leB 4 n) : Nat)) ∧ w' = W from get_any (w := W) s (a + 4) _ _ q1 (crcF_lt _) (by omega))
  have G0 := Lib.hid (fun W => get_any (w := W) s a n _ q2 (by omega) (by omega))
  have GN := Lib.hid (fun W => show Calls Tryz.prog 68 #[.string s, .int .i64 ((a : Int) + 8 + n)] W fun e w' => e = .returned (.int .u32 (crcF l : Nat)) ∧ w' = W from get_any (w := W) s (a + 8 + n) _ _ q3 (crcF_lt _) (by omega))
  obtain ⟨sa, hsa, hla⟩ := strPart s a (a + 4) (by omega) (by omega)
  obtain ⟨sb, hsb, hlb⟩ := strPart s (a + 8) (a + 8 + n) (by omega) (by omega)
  rw [show a + 4 - a = 4 by omega, ha, p4] at hsa
  rw [show a + 8 + n - (a + 8) = n by omega, ha, show 0 + 8 = 8 from rfl, p5] at hsb
  have hza : sa.size = 4 := by rw [← str_size, hsa, leB_len]
  have hzb : sb.size = n := by rw [← str_size, hsb, hn]
  have CA := Lib.hid (fun W => crc_any W sa (by omega))
  have CB := Lib.hid (fun W => crc_any W sb (by omega))
  rw [hsa] at CA
  rw [hsb] at CB
  have hla' : ∀ W, (Instr.slice 9 (.string s) (some (.int .i64 a)) (some (.int .i64 ((a : Int) + 4))) none).run Tryz.prog W = .ok (.string sa) W := hla
  have hlb' : ∀ W, (Instr.slice 9 (.string s) (some (.int .i64 ((a : Int) + 8))) (some (.int .i64 ((a : Int) + 8 + n))) none).run Tryz.prog W = .ok (.string sb) W := hlb
  have hSB := Lib.hid (str_of hsb)
  obtain ⟨ca, hca⟩ : ∃ ca, crcF (leB 4 n) = ca := ⟨_, rfl⟩
  obtain ⟨cb, hcb⟩ : ∃ cb, crcF l = cb := ⟨_, rfl⟩
  rw [hca] at G4 CA
  rw [hcb] at GN CB
  have HSZ := Lib.hid (show (s.size : Int) = (a : Int) + 8 + n + 4 from by omega)
  have g0 : ¬ (a : Int) < 0 := by omega
  have g1 : ¬ (s.size : Int) < a := by omega
  have g2 : ¬ (s.size : Int) - a < 8 := by omega
  have g3 : ¬ (16384 : Int) < n := by omega
  have g4 : ¬ (s.size : Int) - ((a : Int) + 8) < (n : Int) + 4 := by omega
  have g5 : s.size ≤ 100000 := by omega
  have g6 : a ≤ 100000 := by omega
  have g7 : n ≤ 16384 := hl
  have hwa : IntKind.i64.wrap ((a : Int) + 4) = (a : Int) + 4 := by rw [IntKind.wrap_i64]; omega
  have hwb : IntKind.i64.wrap ((a : Int) + 8 + n) = (a : Int) + 8 + n := by rw [IntKind.wrap_i64]; omega
  clear p1 p2 p3 p4 p5 q1 q2 q3 hs hn hsz hsa hsb hla hlb hza hzb hca hcb ha
  go_enter Tryz.func56, Tryz.ntmps56
  go_wp2_with (fail)
  refine wp_region_soup 9 [] (spOf [(3, Spec.is (.int .u32 ca))]) (by kernel_rfl) (by kernel_rfl) (spOk_of (by simp [Spec.is_ok])) (pre_of (by simp [Spec.is_ok])) ?_
  simp only [List.take_succ_cons, List.take_zero, List.drop_succ_cons, List.drop_zero]
  with_reducible refine soup_q ?_ ?_ ?_
  · rfl
  · rfl
  with_reducible apply Exists.intro
  with_reducible refine ⟨fun W hk _ => ?_, ?_⟩
  · unfold Oper.same
    go_simp
    first | rfl | exact ⟨rfl, rfl⟩
  with_reducible apply Exists.intro
  with_reducible refine ⟨?_, ?_⟩
  · go_simp
    rfl
  with_reducible refine soup_q ?_ ?_ ?_
  · rfl
  · rfl
  with_reducible apply Exists.intro
  with_reducible refine ⟨fun W hk _ => ?_, ?_⟩
  · unfold Oper.same
    go_simp
    first | rfl | exact ⟨rfl, rfl⟩
  with_reducible apply Exists.intro
  with_reducible refine ⟨?_, ?_⟩
  · go_simp
    rfl
  with_reducible refine soup_q ?_ ?_ ?_
  · rfl
  · rfl
  with_reducible apply Exists.intro
  with_reducible refine ⟨fun W hk _ => ?_, ?_⟩
  · unfold Oper.same
    go_simp
    first | rfl | exact ⟨rfl, rfl⟩
  with_reducible apply Exists.intro
  with_reducible refine ⟨?_, ?_⟩
  · go_simp
    rfl
  refine soup_s rfl rfl rfl (fun W hk _ _ => ?_) ?_
  · unfold Oper.does
    go_simp
    refine (G4.out W).mono ?_
    rintro e w' ⟨rfl, hw⟩
    rw [hw]
    exact ⟨_, rfl, Keep.refl _ _, hk, rfl, trivial⟩
  intro v hv
  obtain rfl : v = _ := hv
  with_reducible apply Exists.intro
  with_reducible refine ⟨?_, ?_⟩
  · go_simp
    rfl
  with_reducible refine soup_q ?_ ?_ ?_
  · rfl
  · rfl
  with_reducible apply Exists.intro
  with_reducible refine ⟨fun W hk _ => ?_, ?_⟩
  · unfold Oper.same
    go_simp
    first | rfl | exact ⟨rfl, rfl⟩
  with_reducible apply Exists.intro
  with_reducible refine ⟨?_, ?_⟩
  · go_simp
    rfl
  with_reducible refine soup_q ?_ ?_ ?_
  · rfl
  · rfl
  with_reducible apply Exists.intro
  with_reducible refine ⟨fun W hk _ => ?_, ?_⟩
  · unfold Oper.same
    go_simp
    first | rfl | exact ⟨rfl, rfl⟩
  with_reducible apply Exists.intro
  with_reducible refine ⟨?_, ?_⟩
  · go_simp
    rfl
  with_reducible refine soup_q ?_ ?_ ?_
  · rfl
  · rfl
  with_reducible apply Exists.intro
  with_reducible refine ⟨fun W hk _ => ?_, ?_⟩
  · unfold Oper.same
    go_simp
    first | rfl | exact ⟨rfl, rfl⟩
  with_reducible apply Exists.intro
  with_reducible refine ⟨?_, ?_⟩
  · go_simp
    rfl
  with_reducible refine soup_q ?_ ?_ ?_
  · rfl
  · rfl
  with_reducible apply Exists.intro
  with_reducible refine ⟨fun W hk _ => ?_, ?_⟩
  · unfold Oper.same
    go_simp
    first | rfl | exact ⟨rfl, rfl⟩
  with_reducible apply Exists.intro
  with_reducible refine ⟨?_, ?_⟩
  · go_simp
    rfl
  with_reducible refine soup_q ?_ ?_ ?_
  · rfl
  · rfl
  with_reducible apply Exists.intro
  with_reducible refine ⟨fun W hk _ => ?_, ?_⟩
  · unfold Oper.same
    go_simp
    first | rfl | exact ⟨rfl, rfl⟩
  with_reducible apply Exists.intro
  with_reducible refine ⟨?_, ?_⟩
  · go_simp
    rfl
  refine soup_nil (fun W1 hk hS => ?_)
  have HK := Lib.hid hk
  clear hk hS
  go_wp2_with (fail)
  refine (CA.out _).mono ?_
  rintro e W2 ⟨rfl, hk⟩
  have HK := Lib.hid (HK.out.trans hk)
  clear hk
  go_wp2_with (fail)
  refine (G0.out _).mono ?_
  rintro e W3 ⟨rfl, rfl⟩
  go_wp2_with (fail)
  refine wp_region_soup 11 [] (spOf [(4, Spec.is (.int .u32 cb))]) (by kernel_rfl) (by kernel_rfl) (spOk_of (by simp [Spec.is_ok])) (pre_of (by simp [Spec.is_ok])) ?_
  simp only [List.take_succ_cons, List.take_zero, List.drop_succ_cons, List.drop_zero]
  with_reducible refine soup_q ?_ ?_ ?_
  · rfl
  · rfl
  with_reducible apply Exists.intro
  with_reducible refine ⟨fun W hk _ => ?_, ?_⟩
  · unfold Oper.same
    go_simp
    first | rfl | exact ⟨rfl, rfl⟩
  with_reducible apply Exists.intro
  with_reducible refine ⟨?_, ?_⟩
  · go_simp
    rfl
  with_reducible refine soup_q ?_ ?_ ?_
  · rfl
  · rfl
  with_reducible apply Exists.intro
  with_reducible refine ⟨fun W hk _ => ?_, ?_⟩
  · unfold Oper.same
    go_simp
    first | rfl | exact ⟨rfl, rfl⟩
  with_reducible apply Exists.intro
  with_reducible refine ⟨?_, ?_⟩
  · go_simp
    rfl
  with_reducible refine soup_q ?_ ?_ ?_
  · rfl
  · rfl
  with_reducible apply Exists.intro
  with_reducible refine ⟨fun W hk _ => ?_, ?_⟩
  · unfold Oper.same
    go_simp
    first | rfl | exact ⟨rfl, rfl⟩
  with_reducible apply Exists.intro
  with_reducible refine ⟨?_, ?_⟩
  · go_simp
    rfl
  with_reducible refine soup_q ?_ ?_ ?_
  · rfl
  · rfl
  with_reducible apply Exists.intro
  with_reducible refine ⟨fun W hk _ => ?_, ?_⟩
  · unfold Oper.same
    go_simp
    first | rfl | exact ⟨rfl, rfl⟩
  with_reducible apply Exists.intro
  with_reducible refine ⟨?_, ?_⟩
  · go_simp
    rfl
  refine soup_s rfl rfl rfl (fun W hk _ _ => ?_) ?_
  · unfold Oper.does
    go_simp
    refine (GN.out W).mono ?_
    rintro e w' ⟨rfl, hw⟩
    rw [hw]
    exact ⟨_, rfl, Keep.refl _ _, hk, rfl, trivial⟩
  intro v hv
  obtain rfl : v = _ := hv
  with_reducible apply Exists.intro
  with_reducible refine ⟨?_, ?_⟩
  · go_simp
    rfl
  with_reducible refine soup_q ?_ ?_ ?_
  · rfl
  · rfl
  with_reducible apply Exists.intro
  with_reducible refine ⟨fun W hk _ => ?_, ?_⟩
  · unfold Oper.same
    go_simp
    first | rfl | exact ⟨rfl, rfl⟩
  with_reducible apply Exists.intro
  with_reducible refine ⟨?_, ?_⟩
  · go_simp
    rfl
  with_reducible refine soup_q ?_ ?_ ?_
  · rfl
  · rfl
  with_reducible apply Exists.intro
  with_reducible refine ⟨fun W hk _ => ?_, ?_⟩
  · unfold Oper.same
    go_simp
    first | rfl | exact ⟨rfl, rfl⟩
  with_reducible apply Exists.intro
  with_reducible refine ⟨?_, ?_⟩
  · go_simp
    rfl
  with_reducible refine soup_q ?_ ?_ ?_
  · rfl
  · rfl
  with_reducible apply Exists.intro
  with_reducible refine ⟨fun W hk _ => ?_, ?_⟩
  · unfold Oper.same
    go_simp
    first | rfl | exact ⟨rfl, rfl⟩
  with_reducible apply Exists.intro
  with_reducible refine ⟨?_, ?_⟩
  · go_simp
    rfl
  with_reducible refine soup_q ?_ ?_ ?_
  · rfl
  · rfl
  with_reducible apply Exists.intro
  with_reducible refine ⟨fun W hk _ => ?_, ?_⟩
  · unfold Oper.same
    go_simp
    first | rfl | exact ⟨rfl, rfl⟩
  with_reducible apply Exists.intro
  with_reducible refine ⟨?_, ?_⟩
  · go_simp
    rfl
  with_reducible refine soup_q ?_ ?_ ?_
  · rfl
  · rfl
  with_reducible apply Exists.intro
  with_reducible refine ⟨fun W hk _ => ?_, ?_⟩
  · unfold Oper.same
    go_simp
    first | rfl | exact ⟨rfl, rfl⟩
  with_reducible apply Exists.intro
  with_reducible refine ⟨?_, ?_⟩
  · go_simp
    rfl
  with_reducible refine soup_q ?_ ?_ ?_
  · rfl
  · rfl
  with_reducible apply Exists.intro
  with_reducible refine ⟨fun W hk _ => ?_, ?_⟩
  · unfold Oper.same
    go_simp
    first | rfl | exact ⟨rfl, rfl⟩
  with_reducible apply Exists.intro
  with_reducible refine ⟨?_, ?_⟩
  · go_simp
    rfl
  refine soup_nil (fun W4 hk hS => ?_)
  have HK := Lib.hid (HK.out.trans hk)
  clear hk hS
  go_wp2_with (fail)
  refine (CB.out _).mono ?_
  rintro e W5 ⟨rfl, hk⟩
  have HK := Lib.hid (HK.out.trans hk)
  clear hk
  go_wp2_with (fail)
  rw [← HSZ.out, hSB.out]
  refine bodyPost_ret (results_tmp3 rfl _ _ _) rfl ?_
  exact ⟨rfl, HK.out⟩
set_option maxRecDepth 100000 in
theorem whole_any {w : World} (s : ByteArray) (l : List UInt8) (hs : s.data.toList = frameB l) (hl : l.length ≤ 16384) : Calls Tryz.prog 44 #[.string s] w fun e w' => e = .returned (.tuple #[.string ⟨l.toArray⟩, .int .i64 0]) ∧ Keep [] w w' := by
  have HN := Lib.hid (next_any (w := w) s l hs hl 0 rfl)
  clear hs hl
  go_enter Tryz.func44, Tryz.ntmps44
  go_wp2_with (fail)
  refine HN.out.mono ?_
  rintro e w1 ⟨rfl, hk⟩
  have HK := Lib.hid hk
  clear hk
  go_wp2_with (fail)
  go_ret2
  exact ⟨rfl, HK.out⟩
set_option maxRecDepth 100000 in
set_option maxHeartbeats 4000000 in
/-- A message's frame is read back. -/
theorem msgof_any {w : World} {s : ByteArray} {m : Mg} (ho : m.Ok) (hs : s.data.toList = frameB m.enc) : Calls Tryz.prog 27 #[.string s] w fun e w' => ∃ vp, e = .returned (.tuple #[.agg (m.cells vp), .int .i64 0]) ∧ IRow w.heap.size w' vp m.own ∧ Keep [] w w' := by
  have HW := Lib.hid (fun W => whole_any (w := W) s m.enc hs (by have := Mg.enc_len ho; omega))
  have HR := Lib.hid (fun W => read_any (w := W) (s := ⟨m.enc.toArray⟩) ho (by simp))
  obtain ⟨sm, hsm⟩ : ∃ sm : ByteArray, ⟨m.enc.toArray⟩ = sm := ⟨_, rfl⟩
  rw [hsm] at HW HR
  clear hs hsm
  go_enter Tryz.func27, Tryz.ntmps27
  go_wp2_with (fail)
  obtain ⟨w1, hw1⟩ : ∃ u, w.alloc (.cells #[.int .u8 0, .int .i64 0, .int .i64 0, .int .i64 0, .int .i64 0, .int .i64 0, .int .i64 0, .int .u64 0, .int .i64 0, .int .i64 0, .int .i64 0, .int .i64 0, .int .u8 0, .string ⟨#[]⟩, .int .i64 0, .int .i64 0, .int .i64 0, .int .i64 0, .int .i64 0, .slice none 0 0, .slice none 0 0, .string ⟨#[]⟩] 40) = u := ⟨_, rfl⟩
  have k1 : Keep [] w w1 := by rw [← hw1]; exact (Keep.refl _ _).alloc _
  have hm1 : MsAt w1 w.heap.size #[.int .u8 0, .int .i64 0, .int .i64 0, .int .i64 0, .int .i64 0, .int .i64 0, .int .i64 0, .int .u64 0, .int .i64 0, .int .i64 0, .int .i64 0, .int .i64 0, .int .u8 0, .string ⟨#[]⟩, .int .i64 0, .int .i64 0, .int .i64 0, .int .i64 0, .int .i64 0, .slice none 0 0, .slice none 0 0, .string ⟨#[]⟩] := by rw [← hw1]; exact World.alloc_heap_new w _
  rw [hw1]
  refine (HW.out w1).mono ?_
  rintro e w2 ⟨rfl, k2⟩
  have HK := Lib.hid (k1.trans k2)
  have HM := Lib.hid (MsAt.keep hm1 k2 (by simp))
  clear hm1 k1 k2 hw1
  go_wp2_with (fail)
  refine (HR.out w2).mono ?_
  rintro e w3 ⟨vp, rfl, hi, hk⟩
  have HI : Hid (IRow w.heap.size w3 vp m.own) := Lib.hid (own_low hi HK.out.size)
  have HK := Lib.hid (HK.out.trans hk)
  have HM := Lib.hid (MsAt.keep HM.out hk (by simp))
  obtain ⟨a', c', rfl, _⟩ := own_shape hi
  obtain ⟨cv, hcv⟩ : ∃ cv, m.cells (.slice a' m.own.length c') = cv := ⟨_, rfl⟩
  have hone : cv.all (·.oneCell') = true := by rw [← hcv]; exact Mg.one m a' _ c'
  have hsz : cv.size = 22 := by rw [← hcv]; rfl
  obtain ⟨w4, hw4⟩ : ∃ u, w3.setRow w.heap.size cv = u := ⟨_, rfl⟩
  have hst := run_storeVar_row (P := Tryz.prog) w3 w.heap.size 40 40 _ cv HM.out (by rw [hsz]; exact msg_size) (by rw [hsz]; rfl) hone
  rw [hw4] at hst
  have HST := Lib.hid hst
  have hk4 : Keep [w.heap.size] w3 w4 := by rw [← hw4]; exact (Keep.refl _ _).setRow _ _ (.inl (by simp))
  have HM4 : Hid (MsAt w4 w.heap.size cv) := Lib.hid (by rw [← hw4]; exact HM.out.row)
  have HP4 : Hid (IRow w.heap.size w4 (.slice a' m.own.length c') m.own) := Lib.hid (HI.out.keep hk4 (fun b hb => by have := own_ne_obj HI.out HM.out (by decide) b hb; simpa using this))
  have HK4 : Hid (Keep [] w w4) := Lib.hid (HK.out.step hk4 (by simp))
  have HLV := Lib.hid (loadVar_ms HM4.out hsz)
  have HCV := Lib.hid hcv
  rw [hcv]
  clear hi hk hcv hone hk4 hw4 HM hst HI
  go_wp2_with (((with_reducible refine wpList_store_all ?_ 40 (.tmp 2) (.tmp 17) ?_ w.heap.size ?_ cv ?_ HST.out ?_); rfl; rfl; rfl; rfl))
  refine bodyPost_ret (v := .tuple #[.agg cv, .int .i64 0]) (by rw [results_cell_tmp rfl]; show ((loadVar 40 ⟨w.heap.size, 0, none⟩).run Tryz.prog w4).andThen (fun v w₂ => Result.ok (Value.tuple #[v, .int .i64 0]) w₂) = _; rw [HLV.out]; rfl) rfl ?_
  exact ⟨_, by rw [HCV.out], HP4.out, HK4.out⟩
set_option linter.unusedSimpArgs false
set_option linter.unusedVariables false
set_option maxRecDepth 100000 in
set_option maxHeartbeats 4000000 in
theorem towner_any {w : World} (t : Tb) (hI : IntsAt w t.oa t.owner) (hr : t.right = true) (p : Nat) (hp : p < t.owner.length) : Calls Tryz.prog 28 #[t.val, .int .i64 p] w fun e w' => e = .returned (.tuple #[.int .i64 (t.owner[p]?.getD 0), .bool true]) ∧ Keep [] w w' := by
  have HT := Lib.hid (fun W (h : IntsAt W t.oa t.owner) => tright_any t W h)
  rw [hr] at HT
  obtain ⟨ep, nd, oa, oc, own⟩ := t
  simp only at *
  unfold Tb.val at HT ⊢
  simp only at HT ⊢
  obtain ⟨w1, hw1⟩ : ∃ u, w.alloc (.cells #[.int .i64 ep, .int .i64 nd, .slice oa own.length oc] 28) = u := ⟨_, rfl⟩
  have k1 : Keep [] w w1 := by rw [← hw1]; exact (Keep.refl _ _).alloc _
  have b1 : w1.heap[w.heap.size]? = some (.cells #[.int .i64 ep, .int .i64 nd, .slice oa own.length oc] 28 (0, 0)) := by rw [← hw1]; exact World.alloc_heap_new w _
  have hI1 := hI.keep k1 (by simp)
  obtain ⟨c0, c1, c2, c3⟩ := TbFacts b1
  have HI := Lib.hid hI1
  have HK := Lib.hid k1
  have HB := Lib.hid b1
  have h0 : ¬ (p : Int) < 0 := by omega
  have h1 : (p : Int) < (own.length : Int) := by omega
  have h2 : ¬ (own.length : Int) ≤ (p : Int) := by omega
  obtain ⟨x, hxv⟩ : ∃ x, own[p]?.getD 0 = x := ⟨_, rfl⟩
  rw [hxv]
  have HX := Lib.hid hxv
  clear hI hI1 k1 b1 hr hxv
  go_enter Tryz.func28, Tryz.ntmps28
  go_wp2_with (fail)
  refine (HT.out w1 HI.out).mono ?_
  rintro e w2 ⟨rfl, hB⟩
  have hk := Keep.of_below hB []
  have hne : own ≠ [] := by intro e; rw [e] at hp; simp at hp
  obtain ⟨b, off, rfl, hb, hc⟩ := HI.out.keep hk (by simp) hne
  have hx := hc p hp
  rw [HX.out] at hx
  have HK := Lib.hid (HK.out.trans hk)
  obtain ⟨d0, d1, d2, d3⟩ := TbFacts ((hk.block _ (lt_of_heap HB.out) (by simp)).trans HB.out)
  clear c0 c1 c2 c3 hB hk hc hne
  go_wp2_with (fail)
  go_ret2
  exact ⟨rfl, HK.out⟩
end Go.Proofs.YtdnfibecobodkaaGreat
