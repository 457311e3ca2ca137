/- A message that a frame holds is read back; table.Owner; find, packets; answers; one act; what a tick tells. -/
import Derived.Test.YtdnfibecobodkaaGreatCsE
import Derived.Test.YtdnfibecobodkaaGreatCsG
import Derived.Test.YtdnfibecobodkaaGreatCcE
import Derived.Test.YtdnfibecobodkaaGreatCeD
import Derived.Test.YtdnfibecobodkaaGreatCeE
import Derived.Test.YtdnfibecobodkaaGreatCeF
namespace Go.Proofs.YtdnfibecobodkaaGreat
open Go.RowKit Go.Lib
set_option linter.unusedSimpArgs false
set_option linter.unusedVariables false
theorem pow256 (j : Nat) : 256 ^ j = 2 ^ (8 * j) := by rw [Nat.pow_mul]
/-- One byte more. -/
theorem gl_step (x j : Nat) (hj : j < 4) : bits BinOp.or IntKind.u64 ((x % 2 ^ (8 * j) : Nat) : Int) (IntKind.u64.wrap (((x / 2 ^ (8 * j) % 256 : Nat) : Int) * 2 ^ (8 * j))) = ((x % 2 ^ (8 * (j + 1)) : Nat) : Int) := by
  obtain ⟨p, hp⟩ : ∃ p, 2 ^ (8 * j) = p := ⟨_, rfl⟩
  have hp0 : 0 < p := by rw [← hp]; exact Nat.pow_pos (by decide)
  have hp3 : p ≤ 16777216 := by rw [← hp]; exact Nat.pow_le_pow_right (n := 2) (by decide) (show 8 * j ≤ 24 by omega)
  have hq : 2 ^ (8 * (j + 1)) = p * 256 := by rw [show 8 * (j + 1) = 8 * j + 8 from by omega, Nat.pow_add, hp]
  have hpz : (2 : Int) ^ (8 * j) = (p : Int) := by rw [← hp]; push_cast; rfl
  have hm : x % (p * 256) = x % p + p * (x / p % 256) := Nat.mod_mul
  have hb : x / p % 256 < 256 := Nat.mod_lt _ (by decide)
  have hxp : x % p < p := Nat.mod_lt _ hp0
  have hle : p * (x / p % 256) ≤ 16777216 * 255 := Nat.mul_le_mul hp3 (by omega)
  have hc : ((x / p % 256 : Nat) : Int) * (p : Int) = ((p * (x / p % 256) : Nat) : Int) := by rw [Int.natCast_mul, Int.mul_comm]
  rw [hq, hm, hpz, hp, hc, u64_wrap_id _ (by omega) (by omega)]
  have h4 : (((p * (x / p % 256) : Nat)) : Int) % 2 ^ (8 * j) = 0 := by
    rw [hpz, ← Int.natCast_emod, Nat.mul_mod_right]
    rfl
  have h5 : ((x % p : Nat) : Int) < 2 ^ (8 * j) := by rw [hpz]; omega
  rw [bits_join_low .u64 64 (by decide) wraps_u64 (8 * j) _ _ (by omega) h5 (by omega) (by omega) h4 (by omega)]
  exact (Int.natCast_add _ _).symm
theorem leB_get (x j : Nat) (hj : j < 4) (rest : List UInt8) : (leB 4 x ++ rest)[j]? = some (UInt8.ofNat (x / 2 ^ (8 * j) % 256)) := by
  rw [List.getElem?_append_left (by rw [leB_len]; exact hj)]
  simp [leB, hj]
set_option maxRecDepth 100000 in
theorem getLittle_any {w : World} (s : ByteArray) (x : Nat) (rest : List UInt8) (hs : s.data.toList = leB 4 x ++ rest) (hx : x < 4294967296) : Calls Tryz.prog 90 #[.string s, .int .i64 4] w fun e w' => e = .returned (.int .u64 x) ∧ w' = w := by
  have HS := Lib.hid hs
  clear hs
  go_enter Tryz.func90, Tryz.ntmps90
  go_wp2_with (fail)
  go_loopw [4, 7] (fun a i wr => ∃ (j : Nat), i = .int .i64 j ∧ j ≤ 4 ∧ a = .int .u64 ((x % 2 ^ (8 * j) : Nat) : Int) ∧ wr = w) (fun _ i _ => 4 - (intOf i).toNat)
  case atStart => exact ⟨0, rfl, by omega, by simp [Nat.mod_one], rfl⟩
  case round =>
    obtain ⟨j, rfl, hj, rfl, rfl⟩ := hrel
    have h0j : (0 : Int) ≤ (j : Int) := Int.natCast_nonneg j
    by_cases hlt : j < 4
    · have hjn : (j : Int) < 4 := by omega
      have hb := leB_get x j hlt rest
      rw [← HS.out] at hb
      have hst := gl_step x j hlt
      obtain ⟨y, hy⟩ : ∃ y, x / 2 ^ (8 * j) % 256 = y := ⟨_, rfl⟩
      have hy2 : y < 256 := by rw [← hy]; exact Nat.mod_lt _ (by decide)
      rw [hy] at hb hst
      have hix : ∀ W, (Instr.index 9 (.string s) (.int .i64 j)).run Tryz.prog W = .ok (.int .u8 y) W := fun W => by
        have h := strAt s j _ hb _ Tryz.underlying9 W
        rw [UInt8.toNat_ofNat', Nat.mod_eq_of_lt hy2] at h
        exact h
      have HST := Lib.hid hst
      obtain ⟨z, hz⟩ : ∃ z, x % 2 ^ (8 * j) = z := ⟨_, rfl⟩
      rw [hz] at HST ⊢
      clear hb hst hy hz
      go_wp2_with (fail)
      go_roundw
      case rel => exact ⟨j + 1, by go_num, by omega, by rw [HST.out], trivial⟩
      case measure => go_light; simp [intOf]; omega
    · obtain rfl : j = 4 := by omega
      have h4 : x % 2 ^ (8 * 4) = x := Nat.mod_eq_of_lt (by omega)
      rw [h4]
      clear h4
      go_wp2_with (fail)
      go_ret
      exact ⟨rfl, rfl⟩
/-- A part of a text. -/
theorem strPart (s : ByteArray) (p q : Nat) (hp : p ≤ q) (hq : q ≤ s.size) : ∃ s2 : ByteArray, s2.data.toList = (s.data.toList.drop p).take (q - p) ∧ ∀ W, (Instr.slice 9 (.string s) (some (.int .i64 p)) (some (.int .i64 q)) none).run Tryz.prog W = .ok (.string s2) W := by
  refine ⟨s.extract p q, ?_, fun W => ?_⟩
  · have := str_size s
    cases s
    simp only [ByteArray.data_extract] at *
    simp [ByteArray.size, List.drop_take]
  · have h := run_slice_string (P := Tryz.prog) (w := W) 9 s .i64 .i64 (p : Int) (q : Int) Tryz.underlying9 (by omega) (by omega) (by omega)
    simpa using h
set_option maxRecDepth 100000 in
theorem get_any {w : World} (s : ByteArray) (at' x : Nat) (rest : List UInt8) (hs : s.data.toList.drop at' = leB 4 x ++ rest) (hx : x < 4294967296) (hz : s.size ≤ 100000) : Calls Tryz.prog 68 #[.string s, .int .i64 at'] w fun e w' => e = .returned (.int .u32 x) ∧ w' = w := by
  have hlen : s.size - at' = 4 + rest.length := by rw [← str_size, ← List.length_drop, hs, List.length_append, leB_len]
  obtain ⟨s2, hs2, hsl⟩ := strPart s at' (at' + 4) (by omega) (by omega)
  have hs3 : s2.data.toList = leB 4 x ++ [] := by rw [hs2, hs, show at' + 4 - at' = 4 from by omega, List.append_nil, List.take_append_of_le_length (by rw [leB_len]; exact Nat.le_refl _), List.take_of_length_le (by rw [leB_len]; exact Nat.le_refl _)]
  have HG := Lib.hid (getLittle_any (w := w) s2 x [] hs3 hx)
  have hsl' : ∀ W, (Instr.slice 9 (.string s) (some (.int .i64 at')) (some (.int .i64 ((at' : Int) + 4))) none).run Tryz.prog W = .ok (.string s2) W := fun W => by simpa using hsl W
  have hat : at' + 4 ≤ 100000 := by omega
  clear hs hs2 hs3 hsl hlen
  go_enter Tryz.func68, Tryz.ntmps68
  go_wp2_with (fail)
  refine HG.out.mono ?_
  rintro e w1 ⟨rfl, rfl⟩
  go_wp2_with (fail)
  go_ret
  exact ⟨rfl, rfl⟩
set_option linter.unusedSimpArgs false
set_option linter.unusedVariables false
theorem frame_len (l : List UInt8) : (frameB l).length = l.length + 12 := by
  unfold frameB
  simp only [List.length_append, leB_len]
  omega
/-- What lies where in a frame. -/
theorem frame_parts {l : List UInt8} : (frameB l).drop 4 = leB 4 (crcF (leB 4 l.length)) ++ (l ++ leB 4 (crcF l)) ∧ (frameB l).drop 0 = leB 4 l.length ++ (leB 4 (crcF (leB 4 l.length)) ++ (l ++ leB 4 (crcF l))) ∧
    (frameB l).drop (8 + l.length) = leB 4 (crcF l) ++ [] ∧ ((frameB l).drop 0).take 4 = leB 4 l.length ∧ ((frameB l).drop 8).take l.length = l := by
  have h0 : frameB l = leB 4 l.length ++ (leB 4 (crcF (leB 4 l.length)) ++ (l ++ leB 4 (crcF l))) := by
    unfold frameB
    simp only [List.append_assoc]
  obtain ⟨A, hA⟩ : ∃ A, leB 4 l.length = A := ⟨_, rfl⟩
  obtain ⟨B, hB⟩ : ∃ B, leB 4 (crcF A) = B := ⟨_, rfl⟩
  obtain ⟨D, hD⟩ : ∃ D, leB 4 (crcF l) = D := ⟨_, rfl⟩
  have hAl : A.length = 4 := by rw [← hA, leB_len]
  have hBl : B.length = 4 := by rw [← hB, leB_len]
  rw [h0, hA, hB, hD]
  have h8 : (A ++ (B ++ (l ++ D))).drop 8 = l ++ D := by
    have e : (8 : Nat) = A.length + B.length := by omega
    rw [e, ← List.drop_drop, List.drop_left, List.drop_left]
  refine ⟨?_, rfl, ?_, ?_, ?_⟩
  · rw [← hAl, List.drop_left]
  · rw [← List.drop_drop, h8, List.drop_left, List.append_nil]
  · rw [List.drop_zero, ← hAl, List.take_left]
  · rw [h8, List.take_left]
theorem str_of {s : ByteArray} {l : List UInt8} (h : s.data.toList = l) : s = ⟨l.toArray⟩ := by
  subst h
  cases s
  rfl
set_option maxRecDepth 100000 in
set_option maxHeartbeats 4000000 in
theorem next_any {w : World} (s : ByteArray) (l : List UInt8) (hs : s.data.toList = frameB l) (hl : l.length ≤ 16384) (a : Nat) (ha : a = 0) : Calls Tryz.prog 56 #[.string s, .int .i64 a] w fun e w' => e = .returned (.tuple #[.string ⟨l.toArray⟩, .int .i64 s.size, .int .i64 0]) ∧ Keep [] w w' := by
  obtain ⟨p1, p2, p3, p4, p5⟩ := frame_parts (l := l)
  rw [← hs] at p1 p2 p3 p4 p5
  have hsz : s.size = l.length + 12 := by rw [← str_size, hs, frame_len]
  obtain ⟨n, hn⟩ : ∃ n, l.length = n := ⟨_, rfl⟩
  rw [hn] at hsz hl p1 p2 p3 p4 p5
  have q1 : List.drop (a + 4) s.data.toList = leB 4 (crcF (leB 4 n)) ++ (l ++ leB 4 (crcF l)) := by rw [ha]; exact p1
  have q3 : List.drop (a + 8 + n) s.data.toList = leB 4 (crcF l) ++ [] := by rw [ha, show 0 + 8 + n = 8 + n by omega]; exact p3
  have q2 : List.drop a s.data.toList = leB 4 n ++ (leB 4 (crcF (leB 4 n)) ++ (l ++ leB 4 (crcF l))) := by rw [ha]; exact p2
  have G4 := Lib.hid (fun W => show Calls Tryz.prog 68 #[.string s, .int .i64 ((a : Int) + 4)] W fun e w' => e = .returned (.int .u32 (crcF (leB 4 n) : Nat)) ∧ w' = W from get_any (w := W) s (a + 4) _ _ q1 (crcF_lt _) (by omega))
  have G0 := Lib.hid (fun W => get_any (w := W) s a n _ q2 (by omega) (by omega))
  have GN := Lib.hid (fun W => show Calls Tryz.prog 68 #[.string s, .int .i64 ((a : Int) + 8 + n)] W fun e w' => e = .returned (.int .u32 (crcF l : Nat)) ∧ w' = W from get_any (w := W) s (a + 8 + n) _ _ q3 (crcF_lt _) (by omega))
  obtain ⟨sa, hsa, hla⟩ := strPart s a (a + 4) (by omega) (by omega)
  obtain ⟨sb, hsb, hlb⟩ := strPart s (a + 8) (a + 8 + n) (by omega) (by omega)
  rw [show a + 4 - a = 4 by omega, ha, p4] at hsa
  rw [show a + 8 + n - (a + 8) = n by omega, ha, show 0 + 8 = 8 from rfl, p5] at hsb
  have hza : sa.size = 4 := by rw [← str_size, hsa, leB_len]
  have hzb : sb.size = n := by rw [← str_size, hsb, hn]
  have CA := Lib.hid (fun W => crc_any W sa (by omega))
  have CB := Lib.hid (fun W => crc_any W sb (by omega))
  rw [hsa] at CA
  rw [hsb] at CB
  have hla' : ∀ W, (Instr.slice 9 (.string s) (some (.int .i64 a)) (some (.int .i64 ((a : Int) + 4))) none).run Tryz.prog W = .ok (.string sa) W := hla
  have hlb' : ∀ W, (Instr.slice 9 (.string s) (some (.int .i64 ((a : Int) + 8))) (some (.int .i64 ((a : Int) + 8 + n))) none).run Tryz.prog W = .ok (.string sb) W := hlb
  have hSB := Lib.hid (str_of hsb)
  obtain ⟨ca, hca⟩ : ∃ ca, crcF (leB 4 n) = ca := ⟨_, rfl⟩
  obtain ⟨cb, hcb⟩ : ∃ cb, crcF l = cb := ⟨_, rfl⟩
  rw [hca] at G4 CA
  rw [hcb] at GN CB
  have HSZ := Lib.hid (show (s.size : Int) = (a : Int) + 8 + n + 4 from by omega)
  have g0 : ¬ (a : Int) < 0 := by omega
  have g1 : ¬ (s.size : Int) < a := by omega
  have g2 : ¬ (s.size : Int) - a < 8 := by omega
  have g3 : ¬ (16384 : Int) < n := by omega
  have g4 : ¬ (s.size : Int) - ((a : Int) + 8) < (n : Int) + 4 := by omega
  have g5 : s.size ≤ 100000 := by omega
  have g6 : a ≤ 100000 := by omega
  have g7 : n ≤ 16384 := hl
  have hwa : IntKind.i64.wrap ((a : Int) + 4) = (a : Int) + 4 := by rw [IntKind.wrap_i64]; omega
  have hwb : IntKind.i64.wrap ((a : Int) + 8 + n) = (a : Int) + 8 + n := by rw [IntKind.wrap_i64]; omega
  clear p1 p2 p3 p4 p5 q1 q2 q3 hs hn hsz hsa hsb hla hlb hza hzb hca hcb ha
  go_enter Tryz.func56, Tryz.ntmps56
  go_wp2_with (fail)
  refine wp_region_soup 9 [] (spOf [(3, Spec.is (.int .u32 ca))]) (by kernel_rfl) (by kernel_rfl) (spOk_of (by simp [Spec.is_ok])) (pre_of (by simp [Spec.is_ok])) ?_
  simp only [List.take_succ_cons, List.take_zero, List.drop_succ_cons, List.drop_zero]
  with_reducible refine soup_q ?_ ?_ ?_
  · rfl
  · rfl
  with_reducible apply Exists.intro
  with_reducible refine ⟨fun W hk _ => ?_, ?_⟩
  · unfold Oper.same
    go_simp
    first | rfl | exact ⟨rfl, rfl⟩
  with_reducible apply Exists.intro
  with_reducible refine ⟨?_, ?_⟩
  · go_simp
    rfl
  with_reducible refine soup_q ?_ ?_ ?_
  · rfl
  · rfl
  with_reducible apply Exists.intro
  with_reducible refine ⟨fun W hk _ => ?_, ?_⟩
  · unfold Oper.same
    go_simp
    first | rfl | exact ⟨rfl, rfl⟩
  with_reducible apply Exists.intro
  with_reducible refine ⟨?_, ?_⟩
  · go_simp
    rfl
  with_reducible refine soup_q ?_ ?_ ?_
  · rfl
  · rfl
  with_reducible apply Exists.intro
  with_reducible refine ⟨fun W hk _ => ?_, ?_⟩
  · unfold Oper.same
    go_simp
    first | rfl | exact ⟨rfl, rfl⟩
  with_reducible apply Exists.intro
  with_reducible refine ⟨?_, ?_⟩
  · go_simp
    rfl
  refine soup_s rfl rfl rfl (fun W hk _ _ => ?_) ?_
  · unfold Oper.does
    go_simp
    refine (G4.out W).mono ?_
    rintro e w' ⟨rfl, hw⟩
    rw [hw]
    exact ⟨_, rfl, Keep.refl _ _, hk, rfl, trivial⟩
  intro v hv
  obtain rfl : v = _ := hv
  with_reducible apply Exists.intro
  with_reducible refine ⟨?_, ?_⟩
  · go_simp
    rfl
  with_reducible refine soup_q ?_ ?_ ?_
  · rfl
  · rfl
  with_reducible apply Exists.intro
  with_reducible refine ⟨fun W hk _ => ?_, ?_⟩
  · unfold Oper.same
    go_simp
    first | rfl | exact ⟨rfl, rfl⟩
  with_reducible apply Exists.intro
  with_reducible refine ⟨?_, ?_⟩
  · go_simp
    rfl
  with_reducible refine soup_q ?_ ?_ ?_
  · rfl
  · rfl
  with_reducible apply Exists.intro
  with_reducible refine ⟨fun W hk _ => ?_, ?_⟩
  · unfold Oper.same
    go_simp
    first | rfl | exact ⟨rfl, rfl⟩
  with_reducible apply Exists.intro
  with_reducible refine ⟨?_, ?_⟩
  · go_simp
    rfl
  with_reducible refine soup_q ?_ ?_ ?_
  · rfl
  · rfl
  with_reducible apply Exists.intro
  with_reducible refine ⟨fun W hk _ => ?_, ?_⟩
  · unfold Oper.same
    go_simp
    first | rfl | exact ⟨rfl, rfl⟩
  with_reducible apply Exists.intro
  with_reducible refine ⟨?_, ?_⟩
  · go_simp
    rfl
  with_reducible refine soup_q ?_ ?_ ?_
  · rfl
  · rfl
  with_reducible apply Exists.intro
  with_reducible refine ⟨fun W hk _ => ?_, ?_⟩
  · unfold Oper.same
    go_simp
    first | rfl | exact ⟨rfl, rfl⟩
  with_reducible apply Exists.intro
  with_reducible refine ⟨?_, ?_⟩
  · go_simp
    rfl
  with_reducible refine soup_q ?_ ?_ ?_
  · rfl
  · rfl
  with_reducible apply Exists.intro
  with_reducible refine ⟨fun W hk _ => ?_, ?_⟩
  · unfold Oper.same
    go_simp
    first | rfl | exact ⟨rfl, rfl⟩
  with_reducible apply Exists.intro
  with_reducible refine ⟨?_, ?_⟩
  · go_simp
    rfl
  refine soup_nil (fun W1 hk hS => ?_)
  have HK := Lib.hid hk
  clear hk hS
  go_wp2_with (fail)
  refine (CA.out _).mono ?_
  rintro e W2 ⟨rfl, hk⟩
  have HK := Lib.hid (HK.out.trans hk)
  clear hk
  go_wp2_with (fail)
  refine (G0.out _).mono ?_
  rintro e W3 ⟨rfl, rfl⟩
  go_wp2_with (fail)
  refine wp_region_soup 11 [] (spOf [(4, Spec.is (.int .u32 cb))]) (by kernel_rfl) (by kernel_rfl) (spOk_of (by simp [Spec.is_ok])) (pre_of (by simp [Spec.is_ok])) ?_
  simp only [List.take_succ_cons, List.take_zero, List.drop_succ_cons, List.drop_zero]
  with_reducible refine soup_q ?_ ?_ ?_
  · rfl
  · rfl
  with_reducible apply Exists.intro
  with_reducible refine ⟨fun W hk _ => ?_, ?_⟩
  · unfold Oper.same
    go_simp
    first | rfl | exact ⟨rfl, rfl⟩
  with_reducible apply Exists.intro
  with_reducible refine ⟨?_, ?_⟩
  · go_simp
    rfl
  with_reducible refine soup_q ?_ ?_ ?_
  · rfl
  · rfl
  with_reducible apply Exists.intro
  with_reducible refine ⟨fun W hk _ => ?_, ?_⟩
  · unfold Oper.same
    go_simp
    first | rfl | exact ⟨rfl, rfl⟩
  with_reducible apply Exists.intro
  with_reducible refine ⟨?_, ?_⟩
  · go_simp
    rfl
  with_reducible refine soup_q ?_ ?_ ?_
  · rfl
  · rfl
  with_reducible apply Exists.intro
  with_reducible refine ⟨fun W hk _ => ?_, ?_⟩
  · unfold Oper.same
    go_simp
    first | rfl | exact ⟨rfl, rfl⟩
  with_reducible apply Exists.intro
  with_reducible refine ⟨?_, ?_⟩
  · go_simp
    rfl
  with_reducible refine soup_q ?_ ?_ ?_
  · rfl
  · rfl
  with_reducible apply Exists.intro
  with_reducible refine ⟨fun W hk _ => ?_, ?_⟩
  · unfold Oper.same
    go_simp
    first | rfl | exact ⟨rfl, rfl⟩
  with_reducible apply Exists.intro
  with_reducible refine ⟨?_, ?_⟩
  · go_simp
    rfl
  refine soup_s rfl rfl rfl (fun W hk _ _ => ?_) ?_
  · unfold Oper.does
    go_simp
    refine (GN.out W).mono ?_
    rintro e w' ⟨rfl, hw⟩
    rw [hw]
    exact ⟨_, rfl, Keep.refl _ _, hk, rfl, trivial⟩
  intro v hv
  obtain rfl : v = _ := hv
  with_reducible apply Exists.intro
  with_reducible refine ⟨?_, ?_⟩
  · go_simp
    rfl
  with_reducible refine soup_q ?_ ?_ ?_
  · rfl
  · rfl
  with_reducible apply Exists.intro
  with_reducible refine ⟨fun W hk _ => ?_, ?_⟩
  · unfold Oper.same
    go_simp
    first | rfl | exact ⟨rfl, rfl⟩
  with_reducible apply Exists.intro
  with_reducible refine ⟨?_, ?_⟩
  · go_simp
    rfl
  with_reducible refine soup_q ?_ ?_ ?_
  · rfl
  · rfl
  with_reducible apply Exists.intro
  with_reducible refine ⟨fun W hk _ => ?_, ?_⟩
  · unfold Oper.same
    go_simp
    first | rfl | exact ⟨rfl, rfl⟩
  with_reducible apply Exists.intro
  with_reducible refine ⟨?_, ?_⟩
  · go_simp
    rfl
  with_reducible refine soup_q ?_ ?_ ?_
  · rfl
  · rfl
  with_reducible apply Exists.intro
  with_reducible refine ⟨fun W hk _ => ?_, ?_⟩
  · unfold Oper.same
    go_simp
    first | rfl | exact ⟨rfl, rfl⟩
  with_reducible apply Exists.intro
  with_reducible refine ⟨?_, ?_⟩
  · go_simp
    rfl
  with_reducible refine soup_q ?_ ?_ ?_
  · rfl
  · rfl
  with_reducible apply Exists.intro
  with_reducible refine ⟨fun W hk _ => ?_, ?_⟩
  · unfold Oper.same
    go_simp
    first | rfl | exact ⟨rfl, rfl⟩
  with_reducible apply Exists.intro
  with_reducible refine ⟨?_, ?_⟩
  · go_simp
    rfl
  with_reducible refine soup_q ?_ ?_ ?_
  · rfl
  · rfl
  with_reducible apply Exists.intro
  with_reducible refine ⟨fun W hk _ => ?_, ?_⟩
  · unfold Oper.same
    go_simp
    first | rfl | exact ⟨rfl, rfl⟩
  with_reducible apply Exists.intro
  with_reducible refine ⟨?_, ?_⟩
  · go_simp
    rfl
  with_reducible refine soup_q ?_ ?_ ?_
  · rfl
  · rfl
  with_reducible apply Exists.intro
  with_reducible refine ⟨fun W hk _ => ?_, ?_⟩
  · unfold Oper.same
    go_simp
    first | rfl | exact ⟨rfl, rfl⟩
  with_reducible apply Exists.intro
  with_reducible refine ⟨?_, ?_⟩
  · go_simp
    rfl
  refine soup_nil (fun W4 hk hS => ?_)
  have HK := Lib.hid (HK.out.trans hk)
  clear hk hS
  go_wp2_with (fail)
  refine (CB.out _).mono ?_
  rintro e W5 ⟨rfl, hk⟩
  have HK := Lib.hid (HK.out.trans hk)
  clear hk
  go_wp2_with (fail)
  rw [← HSZ.out, hSB.out]
  refine bodyPost_ret (results_tmp3 rfl _ _ _) rfl ?_
  exact ⟨rfl, HK.out⟩
set_option maxRecDepth 100000 in
theorem whole_any {w : World} (s : ByteArray) (l : List UInt8) (hs : s.data.toList = frameB l) (hl : l.length ≤ 16384) : Calls Tryz.prog 44 #[.string s] w fun e w' => e = .returned (.tuple #[.string ⟨l.toArray⟩, .int .i64 0]) ∧ Keep [] w w' := by
  have HN := Lib.hid (next_any (w := w) s l hs hl 0 rfl)
  clear hs hl
  go_enter Tryz.func44, Tryz.ntmps44
  go_wp2_with (fail)
  refine HN.out.mono ?_
  rintro e w1 ⟨rfl, hk⟩
  have HK := Lib.hid hk
  clear hk
  go_wp2_with (fail)
  go_ret2
  exact ⟨rfl, HK.out⟩
set_option maxRecDepth 100000 in
set_option maxHeartbeats 4000000 in
/-- A message's frame is read back. -/
theorem msgof_any {w : World} {s : ByteArray} {m : Mg} (ho : m.Ok) (hs : s.data.toList = frameB m.enc) : Calls Tryz.prog 27 #[.string s] w fun e w' => ∃ vp, e = .returned (.tuple #[.agg (m.cells vp), .int .i64 0]) ∧ IRow w.heap.size w' vp m.own ∧ Keep [] w w' := by
  have HW := Lib.hid (fun W => whole_any (w := W) s m.enc hs (by have := Mg.enc_len ho; omega))
  have HR := Lib.hid (fun W => read_any (w := W) (s := ⟨m.enc.toArray⟩) ho (by simp))
  obtain ⟨sm, hsm⟩ : ∃ sm : ByteArray, ⟨m.enc.toArray⟩ = sm := ⟨_, rfl⟩
  rw [hsm] at HW HR
  clear hs hsm
  go_enter Tryz.func27, Tryz.ntmps27
  go_wp2_with (fail)
  obtain ⟨w1, hw1⟩ : ∃ u, w.alloc (.cells #[.int .u8 0, .int .i64 0, .int .i64 0, .int .i64 0, .int .i64 0, .int .i64 0, .int .i64 0, .int .u64 0, .int .i64 0, .int .i64 0, .int .i64 0, .int .i64 0, .int .u8 0, .string ⟨#[]⟩, .int .i64 0, .int .i64 0, .int .i64 0, .int .i64 0, .int .i64 0, .slice none 0 0, .slice none 0 0, .string ⟨#[]⟩] 40) = u := ⟨_, rfl⟩
  have k1 : Keep [] w w1 := by rw [← hw1]; exact (Keep.refl _ _).alloc _
  have hm1 : MsAt w1 w.heap.size #[.int .u8 0, .int .i64 0, .int .i64 0, .int .i64 0, .int .i64 0, .int .i64 0, .int .i64 0, .int .u64 0, .int .i64 0, .int .i64 0, .int .i64 0, .int .i64 0, .int .u8 0, .string ⟨#[]⟩, .int .i64 0, .int .i64 0, .int .i64 0, .int .i64 0, .int .i64 0, .slice none 0 0, .slice none 0 0, .string ⟨#[]⟩] := by rw [← hw1]; exact World.alloc_heap_new w _
  rw [hw1]
  refine (HW.out w1).mono ?_
  rintro e w2 ⟨rfl, k2⟩
  have HK := Lib.hid (k1.trans k2)
  have HM := Lib.hid (MsAt.keep hm1 k2 (by simp))
  clear hm1 k1 k2 hw1
  go_wp2_with (fail)
  refine (HR.out w2).mono ?_
  rintro e w3 ⟨vp, rfl, hi, hk⟩
  have HI : Hid (IRow w.heap.size w3 vp m.own) := Lib.hid (own_low hi HK.out.size)
  have HK := Lib.hid (HK.out.trans hk)
  have HM := Lib.hid (MsAt.keep HM.out hk (by simp))
  obtain ⟨a', c', rfl, _⟩ := own_shape hi
  obtain ⟨cv, hcv⟩ : ∃ cv, m.cells (.slice a' m.own.length c') = cv := ⟨_, rfl⟩
  have hone : cv.all (·.oneCell') = true := by rw [← hcv]; exact Mg.one m a' _ c'
  have hsz : cv.size = 22 := by rw [← hcv]; rfl
  obtain ⟨w4, hw4⟩ : ∃ u, w3.setRow w.heap.size cv = u := ⟨_, rfl⟩
  have hst := run_storeVar_row (P := Tryz.prog) w3 w.heap.size 40 40 _ cv HM.out (by rw [hsz]; exact msg_size) (by rw [hsz]; rfl) hone
  rw [hw4] at hst
  have HST := Lib.hid hst
  have hk4 : Keep [w.heap.size] w3 w4 := by rw [← hw4]; exact (Keep.refl _ _).setRow _ _ (.inl (by simp))
  have HM4 : Hid (MsAt w4 w.heap.size cv) := Lib.hid (by rw [← hw4]; exact HM.out.row)
  have HP4 : Hid (IRow w.heap.size w4 (.slice a' m.own.length c') m.own) := Lib.hid (HI.out.keep hk4 (fun b hb => by have := own_ne_obj HI.out HM.out (by decide) b hb; simpa using this))
  have HK4 : Hid (Keep [] w w4) := Lib.hid (HK.out.step hk4 (by simp))
  have HLV := Lib.hid (loadVar_ms HM4.out hsz)
  have HCV := Lib.hid hcv
  rw [hcv]
  clear hi hk hcv hone hk4 hw4 HM hst HI
  go_wp2_with (((with_reducible refine wpList_store_all ?_ 40 (.tmp 2) (.tmp 17) ?_ w.heap.size ?_ cv ?_ HST.out ?_); rfl; rfl; rfl; rfl))
  refine bodyPost_ret (v := .tuple #[.agg cv, .int .i64 0]) (by rw [results_cell_tmp rfl]; show ((loadVar 40 ⟨w.heap.size, 0, none⟩).run Tryz.prog w4).andThen (fun v w₂ => Result.ok (Value.tuple #[v, .int .i64 0]) w₂) = _; rw [HLV.out]; rfl) rfl ?_
  exact ⟨_, by rw [HCV.out], HP4.out, HK4.out⟩
set_option linter.unusedSimpArgs false
set_option linter.unusedVariables false
set_option maxRecDepth 100000 in
set_option maxHeartbeats 4000000 in
theorem towner_any {w : World} (t : Tb) (hI : IntsAt w t.oa t.owner) (hr : t.right = true) (p : Nat) (hp : p < t.owner.length) : Calls Tryz.prog 28 #[t.val, .int .i64 p] w fun e w' => e = .returned (.tuple #[.int .i64 (t.owner[p]?.getD 0), .bool true]) ∧ Keep [] w w' := by
  have HT := Lib.hid (fun W (h : IntsAt W t.oa t.owner) => tright_any t W h)
  rw [hr] at HT
  obtain ⟨ep, nd, oa, oc, own⟩ := t
  simp only at *
  unfold Tb.val at HT ⊢
  simp only at HT ⊢
  obtain ⟨w1, hw1⟩ : ∃ u, w.alloc (.cells #[.int .i64 ep, .int .i64 nd, .slice oa own.length oc] 28) = u := ⟨_, rfl⟩
  have k1 : Keep [] w w1 := by rw [← hw1]; exact (Keep.refl _ _).alloc _
  have b1 : w1.heap[w.heap.size]? = some (.cells #[.int .i64 ep, .int .i64 nd, .slice oa own.length oc] 28 (0, 0)) := by rw [← hw1]; exact World.alloc_heap_new w _
  have hI1 := hI.keep k1 (by simp)
  obtain ⟨c0, c1, c2, c3⟩ := TbFacts b1
  have HI := Lib.hid hI1
  have HK := Lib.hid k1
  have HB := Lib.hid b1
  have h0 : ¬ (p : Int) < 0 := by omega
  have h1 : (p : Int) < (own.length : Int) := by omega
  have h2 : ¬ (own.length : Int) ≤ (p : Int) := by omega
  obtain ⟨x, hxv⟩ : ∃ x, own[p]?.getD 0 = x := ⟨_, rfl⟩
  rw [hxv]
  have HX := Lib.hid hxv
  clear hI hI1 k1 b1 hr hxv
  go_enter Tryz.func28, Tryz.ntmps28
  go_wp2_with (fail)
  refine (HT.out w1 HI.out).mono ?_
  rintro e w2 ⟨rfl, hB⟩
  have hk := Keep.of_below hB []
  have hne : own ≠ [] := by intro e; rw [e] at hp; simp at hp
  obtain ⟨b, off, rfl, hb, hc⟩ := HI.out.keep hk (by simp) hne
  have hx := hc p hp
  rw [HX.out] at hx
  have HK := Lib.hid (HK.out.trans hk)
  obtain ⟨d0, d1, d2, d3⟩ := TbFacts ((hk.block _ (lt_of_heap HB.out) (by simp)).trans HB.out)
  clear c0 c1 c2 c3 hB hk hc hne
  go_wp2_with (fail)
  go_ret2
  exact ⟨rfl, HK.out⟩
set_option linter.unusedSimpArgs false
set_option linter.unusedVariables false
set_option maxRecDepth 100000 in
set_option maxHeartbeats 4000000 in
theorem tsame_true {w : World} (ep nd : Int) {a b : Option Addr} (c d : Nat) {own : List Int} (ha : IntsAt w a own) (hb : IntsAt w b own) (hl : own.length ≤ 1000) : Calls Tryz.prog 24 #[.agg #[.int .i64 ep, .int .i64 nd, .slice a own.length c], .agg #[.int .i64 ep, .int .i64 nd, .slice b own.length d]] w fun e w' => e = .returned (.bool true) ∧ Keep [] w w' := by
  obtain ⟨w1, hw1⟩ : ∃ u, w.alloc (.cells #[.int .i64 ep, .int .i64 nd, .slice a own.length c] 28) = u := ⟨_, rfl⟩
  obtain ⟨w2, hw2⟩ : ∃ u, w1.alloc (.cells #[.int .i64 ep, .int .i64 nd, .slice b own.length d] 28) = u := ⟨_, rfl⟩
  have s1 : w1.heap.size = w.heap.size + 1 := by rw [← hw1, World.size_alloc]
  have k1 : Keep [] w w1 := by rw [← hw1]; exact (Keep.refl _ _).alloc _
  have k2 : Keep [] w1 w2 := by rw [← hw2]; exact (Keep.refl _ _).alloc _
  have b1 : w2.heap[w.heap.size]? = some (.cells #[.int .i64 ep, .int .i64 nd, .slice a own.length c] 28 (0, 0)) := (k2.block _ (by rw [s1]; omega) (by simp)).trans (by rw [← hw1]; exact World.alloc_heap_new w _)
  have b2 : w2.heap[w.heap.size + 1]? = some (.cells #[.int .i64 ep, .int .i64 nd, .slice b own.length d] 28 (0, 0)) := by rw [← hw2, ← s1]; exact World.alloc_heap_new w1 _
  obtain ⟨c0, c1, c2, c3⟩ := TbFacts b1
  obtain ⟨d0, d1, d2, d3⟩ := TbFacts b2
  have HK := Lib.hid (k1.trans k2)
  have HE := Lib.hid (equalI_any (w := w2) c d (ha.keep (k1.trans k2) (by simp)) (hb.keep (k1.trans k2) (by simp)) (by omega) (by omega))
  clear ha hb b1 b2 k1 k2
  go_enter Tryz.func24, Tryz.ntmps24
  go_wp2_with (fail)
  refine HE.out.mono ?_
  rintro e w3 ⟨rfl, hk3⟩
  have HK3 := Lib.hid (HK.out.trans hk3)
  clear hk3
  simp only [decide_true]
  go_wp2_with (fail)
  go_ret
  exact ⟨rfl, HK3.out⟩
def findMo (n : Int) (l : List Mo) : Option Mo := l.find? fun x => decide (x.x.mv = n)
theorem findMo_snoc (n : Int) {l : List Mo} {j : Nat} {x : Mo} (h : l[j]? = some x) (hn : findMo n (l.take j) = none) : findMo n (l.take (j + 1)) = if x.x.mv = n then some x else none := by
  unfold findMo at hn ⊢
  have ht : l.take (j + 1) = l.take j ++ [x] := by rw [List.take_add_one, h]; rfl
  rw [ht, List.find?_append, hn]
  by_cases hm : x.x.mv = n <;> simp [hm]
theorem findMo_full (n : Int) {l : List Mo} {j : Nat} {x : Mo} (h : l[j]? = some x) (hn : findMo n (l.take j) = none) (hx : x.x.mv = n) : findMo n l = some x := by
  have e : l = l.take (j + 1) ++ l.drop (j + 1) := (List.take_append_drop _ _).symm
  have h1 := findMo_snoc n h hn
  rw [if_pos hx] at h1
  rw [e]
  unfold findMo at h1 ⊢
  rw [List.find?_append, h1]
  rfl
def FndP (w : World) (o : Option Mo) (e : Ending) (w' : World) : Prop := e = .returned (.tuple #[.agg #[.int .i64 (o.getD Mo.zero).x.mv, .int .i64 (o.getD Mo.zero).x.part, .int .i64 (o.getD Mo.zero).x.fr, .int .i64 (o.getD Mo.zero).x.to, .int .i64 (o.getD Mo.zero).s.st, .int .i64 (o.getD Mo.zero).s.dn], .bool o.isSome]) ∧ Keep [] w w'
structure SixAt (W : World) (g : Nat) (a b c d e f : Value) : Prop where
  blk : W.heap[g]? = some (.cells #[a, b, c, d, e, f] 56 (0, 0))
theorem SixAt.facts {W : World} {g : Nat} {a b c d e f : Value} (h : SixAt W g a b c d e f) : W.cell? ⟨g, 0, none⟩ = some a ∧ W.cell? ⟨g, 1, none⟩ = some b ∧ W.cell? ⟨g, 2, none⟩ = some c ∧ W.cell? ⟨g, 3, none⟩ = some d ∧ W.cell? ⟨g, 4, none⟩ = some e ∧ W.cell? ⟨g, 5, none⟩ = some f ∧ ∀ o, W.frozen? ⟨g, o, none⟩ = false := by
  have hb := h.blk
  refine ⟨?_, ?_, ?_, ?_, ?_, ?_, fun o => ?_⟩
  all_goals first | (unfold World.cell?; rw [hb]; rfl) | (unfold World.frozen?; rw [hb]; simp)
set_option maxRecDepth 100000 in
set_option maxHeartbeats 4000000 in
theorem find_any {base : Nat} {w : World} {v : Value} {l : List Mo} (hl : MoRow base w v l) (hlen : l.length ≤ 100000) (n : Int) : Calls Tryz.prog 26 #[v, .int .i64 n] w (FndP w (findMo n l)) := by
  obtain ⟨w1, hw1⟩ : ∃ u, w.alloc (.cells #[.int .i64 0, .int .i64 0, .int .i64 0, .int .i64 0, .int .i64 0, .int .i64 0] 56) = u := ⟨_, rfl⟩
  have k1 : Keep [] w w1 := by rw [← hw1]; exact (Keep.refl _ _).alloc _
  have b1 : SixAt w1 w.heap.size (.int .i64 0) (.int .i64 0) (.int .i64 0) (.int .i64 0) (.int .i64 0) (.int .i64 0) := ⟨by rw [← hw1]; exact World.alloc_heap_new w _⟩
  have HR := Lib.hid (hl.keep k1 (by simp))
  have HB := Lib.hid b1
  have HK := Lib.hid k1
  obtain ⟨av, cv, rfl, _⟩ := own_shape hl
  obtain ⟨nl, hnl⟩ : ∃ nl, l.length = nl := ⟨_, rfl⟩
  have HNL := Lib.hid hnl
  have hbl := lt_of_heap b1.blk
  rw [hnl] at HR hlen ⊢
  clear hl k1 hnl b1
  go_enter Tryz.func26, Tryz.ntmps26
  go_wp2_with (fail)
  go_loopw [6] (fun i wr => ∃ j : Nat, i = .int .i64 j ∧ j ≤ nl ∧ findMo n (l.take j) = none ∧ wr = w1) (fun i _ => nl - (intOf i).toNat)
  case atStart => exact ⟨0, rfl, Nat.zero_le _, rfl, rfl⟩
  case round =>
    obtain ⟨j, rfl, hj, hno, hwr⟩ := hrel
    rw [hwr]
    clear hwr
    have h0j : (0 : Int) ≤ (j : Int) := Int.natCast_nonneg j
    by_cases hlt : j < nl
    · have hjn : (j : Int) < (nl : Int) := by omega
      have hlj : j < l.length := by rw [HNL.out]; exact hlt
      obtain ⟨x, hx⟩ : ∃ x, l[j]? = some x := ⟨l[j], List.getElem?_eq_getElem hlj⟩
      have hne : l ≠ [] := by intro e; rw [e] at hlj; simp at hlj
      have hr := HR.out
      rw [← HNL.out] at hr
      obtain ⟨g, c', hv', hg0, hg1, _, hcell⟩ := rows_at Mo.len hr hne
      simp only [Value.slice.injEq] at hv'
      obtain ⟨rfl, -, rfl⟩ := hv'
      have x0 := hcell j 0 _ hx (by omega)
      have x1 := hcell j 1 _ hx (by omega)
      have x2 := hcell j 2 _ hx (by omega)
      have x3 := hcell j 3 _ hx (by omega)
      have x4 := hcell j 4 _ hx (by omega)
      have x5 := hcell j 5 _ hx (by omega)
      have hsn := findMo_snoc n hx hno
      have hfu := fun h => findMo_full n hx hno h
      obtain ⟨⟨m1, m2, m3, m4⟩, ⟨st, dn⟩⟩ := x
      simp only [Mo.cells, List.getElem?_cons_zero, List.getElem?_cons_succ, Nat.add_zero] at x0 x1 x2 x3 x4 x5
      simp only at hsn hfu
      have HSN := Lib.hid hsn
      by_cases hm : m1 = n
      · have HF := Lib.hid (hfu hm)
        subst hm
        obtain ⟨z0, z1, z2, z3, z4, z5, z6⟩ := HB.out.facts
        clear hsn hfu hcell hr hno hx
        go_wp2_with (fail)
        obtain ⟨W3, hW3⟩ : ∃ u, ((((((w1.setCell ⟨w.heap.size, 0, none⟩ (.int .i64 m1)).setCell ⟨w.heap.size, 1, none⟩ (.int .i64 m2)).setCell ⟨w.heap.size, 2, none⟩ (.int .i64 m3)).setCell ⟨w.heap.size, 3, none⟩ (.int .i64 m4)).setCell ⟨w.heap.size, 4, none⟩ (.int .i64 st)).setCell ⟨w.heap.size, 5, none⟩ (.int .i64 dn)) = u := ⟨_, rfl⟩
        have hks : Keep [w.heap.size] w1 W3 := by
          rw [← hW3]
          exact ((((((Keep.refl _ _).setCell _ _ _ (.inl (by simp))).setCell _ _ _ (.inl (by simp))).setCell _ _ _ (.inl (by simp))).setCell _ _ _ (.inl (by simp))).setCell _ _ _ (.inl (by simp))).setCell _ _ _ (.inl (by simp))
        have hfin : W3.heap[w.heap.size]? = some (.cells #[.int .i64 m1, .int .i64 m2, .int .i64 m3, .int .i64 m4, .int .i64 st, .int .i64 dn] 56 (0, 0)) := by
          have h := HB.out.blk
          rw [← hW3]
          simp [World.setCell, Array.getElem?_modify, h]
        rw [hW3]
        have hlv := run_loadVar_row (P := Tryz.prog) W3 w.heap.size 56 56 _ (0, 0) _ hfin Tryz.underlying56 rfl (by kernel_rfl)
        refine bodyPost_ret (v := .tuple #[.agg #[.int .i64 m1, .int .i64 m2, .int .i64 m3, .int .i64 m4, .int .i64 st, .int .i64 dn], .bool true]) (by rw [results_cell_tmp rfl]; show ((loadVar 56 ⟨w.heap.size, 0, none⟩).run Tryz.prog W3).andThen (fun v w₂ => Result.ok (Value.tuple #[v, .bool true]) w₂) = _; rw [hlv]; rfl) rfl ?_
        rw [HF.out]
        exact ⟨rfl, HK.out.step hks (by simp)⟩
      · have hmg : ((m1 : Int) == n) = false := by simpa using hm
        clear hsn hfu hcell hr hno hx
        go_wp2_with (fail)
        go_roundw
        case rel => exact ⟨j + 1, by go_num, by omega, by rw [HSN.out, if_neg hm], trivial⟩
        case measure => go_light; simp [intOf]; omega
    · have hjn : ¬ (j : Int) < (nl : Int) := by omega
      have HF : Hid (findMo n l = none) := Lib.hid (by rw [show j = l.length from by have := HNL.out; omega, List.take_length] at hno; exact hno)
      obtain ⟨z0, z1, z2, z3, z4, z5, z6⟩ := HB.out.facts
      clear hno
      go_wp2_with (fail)
      obtain ⟨W3, hW3⟩ : ∃ u, ((((((w1.setCell ⟨w.heap.size, 0, none⟩ (.int .i64 0)).setCell ⟨w.heap.size, 1, none⟩ (.int .i64 0)).setCell ⟨w.heap.size, 2, none⟩ (.int .i64 0)).setCell ⟨w.heap.size, 3, none⟩ (.int .i64 0)).setCell ⟨w.heap.size, 4, none⟩ (.int .i64 0)).setCell ⟨w.heap.size, 5, none⟩ (.int .i64 0)) = u := ⟨_, rfl⟩
      have hks : Keep [w.heap.size] w1 W3 := by
        rw [← hW3]
        exact ((((((Keep.refl _ _).setCell _ _ _ (.inl (by simp))).setCell _ _ _ (.inl (by simp))).setCell _ _ _ (.inl (by simp))).setCell _ _ _ (.inl (by simp))).setCell _ _ _ (.inl (by simp))).setCell _ _ _ (.inl (by simp))
      have hfin : W3.heap[w.heap.size]? = some (.cells #[.int .i64 0, .int .i64 0, .int .i64 0, .int .i64 0, .int .i64 0, .int .i64 0] 56 (0, 0)) := by
        have h := HB.out.blk
        rw [← hW3]
        simp [World.setCell, Array.getElem?_modify, h]
      rw [hW3]
      have hlv := run_loadVar_row (P := Tryz.prog) W3 w.heap.size 56 56 _ (0, 0) _ hfin Tryz.underlying56 rfl (by kernel_rfl)
      refine bodyPost_ret (v := .tuple #[.agg #[.int .i64 0, .int .i64 0, .int .i64 0, .int .i64 0, .int .i64 0, .int .i64 0], .bool false]) (by rw [results_cell_tmp rfl]; show ((loadVar 56 ⟨w.heap.size, 0, none⟩).run Tryz.prog W3).andThen (fun v w₂ => Result.ok (Value.tuple #[v, .bool false]) w₂) = _; rw [hlv]; rfl) rfl ?_
      rw [HF.out]
      exact ⟨rfl, HK.out.step hks (by simp)⟩
set_option maxRecDepth 100000 in
set_option maxHeartbeats 4000000 in
theorem packets_true {b1 b2 : Nat} {w : World} {v u : Value} {l : List Pk} (hv : PRow b1 w v l) (hu : PRow b2 w u l) (hlen : l.length ≤ 100000) : Calls Tryz.prog 25 #[v, u] w fun e w' => e = .returned (.bool true) ∧ Keep [] w w' := by
  have HV := Lib.hid hv
  have HU := Lib.hid hu
  obtain ⟨av, cv, rfl, _⟩ := own_shape hv
  obtain ⟨au, cu, rfl, _⟩ := own_shape hu
  obtain ⟨nl, hnl⟩ : ∃ nl, l.length = nl := ⟨_, rfl⟩
  have HNL := Lib.hid hnl
  rw [hnl] at HV HU hlen ⊢
  clear hv hu hnl
  go_enter Tryz.func25, Tryz.ntmps25
  go_wp2_with (fail)
  go_loopw [5] (fun i wr => ∃ j : Nat, i = .int .i64 j ∧ j ≤ nl ∧ Keep [] w wr) (fun i _ => nl - (intOf i).toNat)
  case atStart => exact ⟨0, rfl, Nat.zero_le _, Keep.refl _ _⟩
  case round =>
    obtain ⟨j, rfl, hj, hk0⟩ := hrel
    have HKR := Lib.hid hk0
    have h0j : (0 : Int) ≤ (j : Int) := Int.natCast_nonneg j
    by_cases hlt : j < nl
    · have hjn : (j : Int) < (nl : Int) := by omega
      have hlj : j < l.length := by rw [HNL.out]; exact hlt
      obtain ⟨x, hx⟩ : ∃ x, l[j]? = some x := ⟨l[j], List.getElem?_eq_getElem hlj⟩
      have hne : l ≠ [] := by intro e; rw [e] at hlj; simp at hlj
      have hrv := HV.out
      have hru := HU.out
      rw [← HNL.out] at hrv hru
      obtain ⟨ga, ca, hv', hg0, hg1, _, hcell⟩ := rows_at Pk.len (PRow.keep hrv hk0 (by simp)) hne
      obtain ⟨gb, cb, hu', hh0, hh1, _, hcel2⟩ := rows_at Pk.len (PRow.keep hru hk0 (by simp)) hne
      simp only [Value.slice.injEq] at hv' hu'
      obtain ⟨rfl, -, rfl⟩ := hv'
      obtain ⟨rfl, -, rfl⟩ := hu'
      have x0 := hcell j 0 _ hx (by omega)
      have x1 := hcell j 1 _ hx (by omega)
      have x2 := hcell j 2 _ hx (by omega)
      have y0 := hcel2 j 0 _ hx (by omega)
      have y1 := hcel2 j 1 _ hx (by omega)
      have y2 := hcel2 j 2 _ hx (by omega)
      obtain ⟨to, dt⟩ := x
      simp only [Pk.cells, List.getElem?_cons_zero, List.getElem?_cons_succ, Nat.add_zero] at x0 x1 x2 y0 y1 y2
      obtain ⟨ds, hds⟩ : ∃ ds : ByteArray, ⟨dt.toArray⟩ = ds := ⟨_, rfl⟩
      rw [hds] at x2 y2
      have HX0 := Lib.hid x0
      have HX1 := Lib.hid x1
      have HX2 := Lib.hid x2
      have HY0 := Lib.hid y0
      have HY1 := Lib.hid y1
      have HY2 := Lib.hid y2
      have HGA := Lib.hid hg1
      have HGB := Lib.hid hh1
      clear hrv hru hcell hcel2 hx x0 x1 x2 y0 y1 y2 hds hk0 hne
      go_wp2_with (fail)
      refine wp_region_soup 8 [] (fun _ => none) (by kernel_rfl) (by kernel_rfl) (spOk_of (l := []) (by simp)) (pre_of (l := []) (by simp)) ?_
      simp only [List.take_succ_cons, List.take_zero, List.drop_succ_cons, List.drop_zero]
      with_reducible refine soup_q ?_ ?_ ?_
      · rfl
      · rfl
      with_reducible apply Exists.intro
      with_reducible refine ⟨fun W hk _ => ?_, ?_⟩
      · unfold Oper.same
        go_simp
        first | rfl | exact ⟨rfl, rfl⟩
      with_reducible apply Exists.intro
      with_reducible refine ⟨?_, ?_⟩
      · go_simp
        rfl
      with_reducible refine soup_q ?_ ?_ ?_
      · rfl
      · rfl
      with_reducible apply Exists.intro
      with_reducible refine ⟨fun W hk _ => ?_, ?_⟩
      · unfold Oper.same
        go_simp
        first | rfl | exact ⟨rfl, rfl⟩
      with_reducible apply Exists.intro
      with_reducible refine ⟨?_, ?_⟩
      · go_simp
        rfl
      with_reducible refine soup_q ?_ ?_ ?_
      · rfl
      · rfl
      with_reducible apply Exists.intro
      with_reducible refine ⟨fun W hk _ => ?_, ?_⟩
      · unfold Oper.same
        go_simp
        first | rfl | exact ⟨rfl, rfl⟩
      with_reducible apply Exists.intro
      with_reducible refine ⟨?_, ?_⟩
      · go_simp
        rfl
      with_reducible refine soup_q ?_ ?_ ?_
      · rfl
      · rfl
      with_reducible apply Exists.intro
      with_reducible refine ⟨fun W hk _ => ?_, ?_⟩
      · have q0 := (hk.cell _ HGA.out (by simp)).trans HX0.out
        have q1 := (hk.cell _ HGA.out (by simp)).trans HX1.out
        have q2 := (hk.cell _ HGA.out (by simp)).trans HX2.out
        unfold Oper.same
        go_simp
        first | rfl | exact ⟨rfl, rfl⟩
      with_reducible apply Exists.intro
      with_reducible refine ⟨?_, ?_⟩
      · go_simp
        rfl
      with_reducible refine soup_q ?_ ?_ ?_
      · rfl
      · rfl
      with_reducible apply Exists.intro
      with_reducible refine ⟨fun W hk _ => ?_, ?_⟩
      · unfold Oper.same
        go_simp
        first | rfl | exact ⟨rfl, rfl⟩
      with_reducible apply Exists.intro
      with_reducible refine ⟨?_, ?_⟩
      · go_simp
        rfl
      with_reducible refine soup_q ?_ ?_ ?_
      · rfl
      · rfl
      with_reducible apply Exists.intro
      with_reducible refine ⟨fun W hk _ => ?_, ?_⟩
      · unfold Oper.same
        go_simp
        first | rfl | exact ⟨rfl, rfl⟩
      with_reducible apply Exists.intro
      with_reducible refine ⟨?_, ?_⟩
      · go_simp
        rfl
      with_reducible refine soup_q ?_ ?_ ?_
      · rfl
      · rfl
      with_reducible apply Exists.intro
      with_reducible refine ⟨fun W hk _ => ?_, ?_⟩
      · unfold Oper.same
        go_simp
        first | rfl | exact ⟨rfl, rfl⟩
      with_reducible apply Exists.intro
      with_reducible refine ⟨?_, ?_⟩
      · go_simp
        rfl
      with_reducible refine soup_q ?_ ?_ ?_
      · rfl
      · rfl
      with_reducible apply Exists.intro
      with_reducible refine ⟨fun W hk _ => ?_, ?_⟩
      · have q0 := (hk.cell _ HGB.out (by simp)).trans HY0.out
        have q1 := (hk.cell _ HGB.out (by simp)).trans HY1.out
        have q2 := (hk.cell _ HGB.out (by simp)).trans HY2.out
        unfold Oper.same
        go_simp
        first | rfl | exact ⟨rfl, rfl⟩
      with_reducible apply Exists.intro
      with_reducible refine ⟨?_, ?_⟩
      · go_simp
        rfl
      refine soup_nil (fun W hk hS => ?_)
      have HKW := Lib.hid (HKR.out.trans hk)
      clear hk hS
      go_wp2_with (fail)
      go_roundw
      case rel => exact ⟨j + 1, by go_num, by omega, HKW.out⟩
      case measure => go_light; simp [intOf]; omega
    · have hjn : ¬ (j : Int) < (nl : Int) := by omega
      go_wp2_with (fail)
      go_ret
      exact ⟨rfl, HKR.out⟩
set_option linter.unusedSimpArgs false
set_option linter.unusedVariables false
theorem findMo_moves (c : Cd) (mv : Int) : findMo mv (movesF c) = (findMv mv (c.m.map (·.2))).map fun x => ⟨x, atOf x.mv c.at_⟩ := by
  unfold findMo movesF findMv
  rw [List.find?_map]
  rfl
/-- Is it what a move's own side says? -/
def ownF (l : List Mo) (k : Nat) (mv pt fr : Int) : Bool :=
  match findMo mv l with
  | none => false
  | some x => decide (x.x.part = pt) && ((decide (k = 10) && decide (x.s.st = 1) && decide (fr = x.x.to)) || (decide (k = 13) && decide (x.s.st ≠ 1) && ((decide (fr = x.x.fr) && decide (x.s.dn ≠ 1)) || (decide (fr = x.x.to) && decide (x.s.dn ≠ 2)))))
theorem dn_cases {d : Nat} (h : d ≤ 2) : d = 0 ∨ d = 1 ∨ d = 2 := by omega
/-- The same state for what is asked of it. -/
structure CdLike (c c' : Cd) : Prop where
  ep : c'.ep = c.ep
  nd : c'.nd = c.nd
  own : c'.own = c.own
  m : c'.m = c.m
  at_ : ∀ j, atOf j c'.at_ = atOf j c.at_
theorem CdLike.refl (c : Cd) : CdLike c c := ⟨rfl, rfl, rfl, rfl, fun _ => rfl⟩
theorem CdLike.moves {c c' : Cd} (h : CdLike c c') : movesF c' = movesF c := by
  unfold movesF
  rw [h.m]
  exact List.map_congr_left fun x _ => by rw [h.at_]
theorem CdLike.tick {c c' : Cd} (h : CdLike c c') : tickF c' = tickF c := by
  have e1 : ∀ x s, tickOf c' x s = tickOf c x s := fun x s => by
    unfold tickOf m11
    rw [h.ep, h.nd, h.own]
  have e2 : ∀ n, newsOf c' n = newsOf c n := fun n => by
    unfold newsOf m14
    rw [h.ep, h.nd, h.own]
  have e3 : (fun x => tickOf c' x (atOf x.mv c'.at_)) = fun x => tickOf c x (atOf x.mv c.at_) := funext fun x => by rw [e1, h.at_]
  unfold tickF
  rw [h.m, h.nd, e3]
  simp only [e2]
theorem deaf_pure {n s k : Nat} {c : Cd} (h : CdInv n s k c) (kd : Nat) (mv pt fr code : Int) : (coHandle c fr kd mv pt code).1 = ownF (movesF c) kd mv pt fr ∧ (ownF (movesF c) kd mv pt fr = false → CdLike c (coHandle c fr kd mv pt code).2) := by
  unfold ownF coHandle
  rw [findMo_moves]
  cases hx : findMv mv (c.m.map (·.2)) with
  | none => exact ⟨rfl, fun _ => CdLike.refl c⟩
  | some x =>
    obtain ⟨q, hq, rfl, _⟩ := findMv_mem hx
    have e := h.mem q hq
    simp only [Option.map_some]
    by_cases hp : q.2.part = pt
    · rw [if_neg (by simp [hp])]
      by_cases h10 : kd = 10
      · subst h10
        by_cases hst : (atOf q.2.mv c.at_).st = 1
        · by_cases hf : fr = q.2.to
          · rw [if_pos ⟨rfl, hst, hf⟩]
            simp [hp, hst, hf]
          · rw [if_neg (by simp [hf]), if_neg (by simp)]
            simp [hf]
            exact CdLike.refl c
        · rw [if_neg (by simp [hst]), if_neg (by simp)]
          simp [hst]
          exact CdLike.refl c
      · rw [if_neg (by simp [h10])]
        by_cases h13 : kd = 13
        · subst h13
          by_cases hst : (atOf q.2.mv c.at_).st = 1
          · rw [if_neg (by simp [hst])]
            simp [hst]
            exact CdLike.refl c
          · rw [if_pos ⟨rfl, hst⟩]
            have hne := e.ne
            have hfin : dnF q.2 fr (atOf q.2.mv c.at_).dn = (atOf q.2.mv c.at_).dn → CdLike c (coDone c q.2 fr).2 := by
              intro hd
              unfold coDone
              rw [hd, if_neg (by have := e.dn; omega)]
              refine ⟨rfl, rfl, rfl, rfl, fun j => ?_⟩
              simp only
              rw [atOf_put]
              split
              · rename_i hj; rw [hj]
              · rfl
            have hd1 : (coDone c q.2 fr).1 = decide (dnF q.2 fr (atOf q.2.mv c.at_).dn ≠ (atOf q.2.mv c.at_).dn) := rfl
            rw [hd1]
            generalize hD : (atOf q.2.mv c.at_).dn = d at *
            have hd2 := e.dn
            rw [hD] at hd2
            unfold dnF at hfin ⊢
            by_cases hf : fr = q.2.fr
            · have hft : ¬ fr = q.2.to := fun e2 => hne (hf.symm.trans e2)
              rw [if_pos hf] at hfin ⊢
              rcases dn_cases hd2 with rfl | rfl | rfl
              · simp [hp, hst, hf]
              · simp [hp, hst, hf, hne]
                exact hf ▸ hfin rfl
              · simp [hp, hst, hf]
            · rw [if_neg hf] at hfin ⊢
              by_cases hft : fr = q.2.to
              · rw [if_pos hft] at hfin ⊢
                rcases dn_cases hd2 with rfl | rfl | rfl
                · simp [hp, hst, hft]
                · simp [hp, hst, hft]
                · simp [hp, hst, hft, Ne.symm hne]
                  exact hft ▸ hfin rfl
              · rw [if_neg hft] at hfin ⊢
                simp [hf, hft]
                exact hfin rfl
        · rw [if_neg (by simp [h13])]
          simp [h10, h13]
          exact CdLike.refl c
    · rw [if_pos hp]
      simp [hp]
      exact CdLike.refl c
/-! Guarded operations. -/
section
variable {P : Program} {ops : Array Oper} {rest : List Oper} {o : Oper} {a : Act} {w : World} {Q : Exit → Act → World → Prop}
theorem wpList_want (hw : Region.wanted o (yielded ops a.tmps) = true) (h : ∀ K : Act → World → Prop, (∀ a w, wpList P ops Q rest a w → K a w) → o.wp P a w K Q) : wpList P ops Q (o :: rest) a w := by
  unfold wpList
  rw [if_pos hw]
  exact .inl (h _ fun _ _ h => h)
theorem wpListG_load_row (hgd : Region.wanted o (yielded ops a.tmps) = true) (ty : TypeId) (x : Operand) (ho : o.op = .load ty x)
    (g : Nat) (hx : a.eval x = .pointer (some ⟨g, 0, none⟩)) (t : TypeId) (cs : Array Value) (fr : Nat × Nat) (d : TypeDesc) (hg : w.heap[g]? = some (.cells cs t fr))
    (hu : P.underlying ty = some d) (hd : (match d with | .struct _ | .array _ _ => true | _ => false) = true) (hi : (P.info? ty).map (·.size) = some cs.size)
    (h : wpList P ops Q rest (a.put o.dst (.agg cs)) w) : wpList P ops Q (o :: rest) a w :=
  wpList_want hgd fun _ hK => wp_load_row ty x ho g hx t cs fr d hg hu hd hi (hK _ _ h)
theorem wpListG_build (hgd : Region.wanted o (yielded ops a.tmps) = true) (ty : TypeId) (x : Operand) (ho : o.op = .build ty #[(4, x)]) (v : Value) (hx : a.eval x = v) (cells : Array Value) (hc : P.built ty [(4, v)] = some cells)
    (h : wpList P ops Q rest (a.put o.dst (.agg cells)) w) : wpList P ops Q (o :: rest) a w :=
  wpList_want hgd fun _ hK => by
    unfold Oper.wp execOp
    subst hx
    simp only [ho, Sem.run_bind, run_build w ty #[(4, a.eval x)] cells hc, Result.andThen_ok, List.map_toArray, List.map_cons, List.map_nil]
    exact hK _ _ h
theorem wpListG_slice (hgd : Region.wanted o (yielded ops a.tmps) = true) (ty : TypeId) (x : Operand) (ho : o.op = .buildSlice ty 1 #[(0, x)]) (v : Value) (hx : a.eval x = v) (u : Value) (w' : World) (hr : (Instr.buildSlice ty 1 #[(0, v)]).run P w = .ok u w')
    (h : wpList P ops Q rest (a.put o.dst u) w') : wpList P ops Q (o :: rest) a w :=
  wpList_want hgd fun _ hK => by
    unfold Oper.wp execOp
    subst hx
    simp only [ho, Sem.run_bind, hr, Result.andThen_ok, List.map_toArray, List.map_cons, List.map_nil]
    exact hK _ _ h
end
def Ac.of (ms : List Value) (k : Nat) (mv pt cd : Int) : Ac := ⟨0, 0, 0, 0, ms, k, mv, pt, cd, 0, 0⟩
theorem built_act0 (v0 v1 v2 v3 v4 v5 v6 v7 v8 v9 v10 v11 v12 v13 v14 v15 v16 v17 v18 v19 v20 v21 : Value) : Tryz.prog.built 60 [(4, .agg #[v0, v1, v2, v3, v4, v5, v6, v7, v8, v9, v10, v11, v12, v13, v14, v15, v16, v17, v18, v19, v20, v21])] = some #[.int .i64 0, .int .i64 0, .int .i64 0, .int .i64 0, v0, v1, v2, v3, v4, v5, v6, v7, v8, v9, v10, v11, v12, v13, v14, v15, v16, v17, v18, v19, v20, v21, .int .i64 0, .int .i64 0] := by kernel_rfl
theorem built_act {ms : List Value} (h : ms.length = 22) (k : Nat) (mv pt cd : Int) : Tryz.prog.built 60 [(4, .agg ms.toArray)] = some (Ac.of ms k mv pt cd).cells.toArray := by
  match ms, h with
  | [v0, v1, v2, v3, v4, v5, v6, v7, v8, v9, v10, v11, v12, v13, v14, v15, v16, v17, v18, v19, v20, v21], _ => exact built_act0 v0 v1 v2 v3 v4 v5 v6 v7 v8 v9 v10 v11 v12 v13 v14 v15 v16 v17 v18 v19 v20 v21
theorem slice_act0 (v0 v1 v2 v3 v4 v5 v6 v7 v8 v9 v10 v11 v12 v13 v14 v15 v16 v17 v18 v19 v20 v21 v22 v23 v24 v25 v26 v27 : Value) (W : World) : (Instr.buildSlice 51 1 #[(0, .agg #[v0, v1, v2, v3, v4, v5, v6, v7, v8, v9, v10, v11, v12, v13, v14, v15, v16, v17, v18, v19, v20, v21, v22, v23, v24, v25, v26, v27])]).run Tryz.prog W = .ok (.slice (some ⟨W.heap.size, 0, none⟩) 1 1) (W.alloc (.cells #[v0, v1, v2, v3, v4, v5, v6, v7, v8, v9, v10, v11, v12, v13, v14, v15, v16, v17, v18, v19, v20, v21, v22, v23, v24, v25, v26, v27] 60)) := by kernel_rfl
theorem slice_act {cs : List Value} (h : cs.length = 28) (W : World) : (Instr.buildSlice 51 1 #[(0, .agg cs.toArray)]).run Tryz.prog W = .ok (.slice (some ⟨W.heap.size, 0, none⟩) 1 1) (W.alloc (.cells cs.toArray 60)) := by
  match cs, h with
  | [v0, v1, v2, v3, v4, v5, v6, v7, v8, v9, v10, v11, v12, v13, v14, v15, v16, v17, v18, v19, v20, v21, v22, v23, v24, v25, v26, v27], _ => exact slice_act0 v0 v1 v2 v3 v4 v5 v6 v7 v8 v9 v10 v11 v12 v13 v14 v15 v16 v17 v18 v19 v20 v21 v22 v23 v24 v25 v26 v27 W
theorem tn_right {n s : Nat} (hn1 : 1 ≤ n) (hn4 : n ≤ 4) (hs1 : 1 ≤ s) (hs8 : s ≤ 8) (a : Option Addr) (c : Nat) : (⟨1, n, a, c, tnL n s⟩ : Tb).right = true := by
  have hl := tnL_len n s
  unfold Tb.right
  simp only [hl, Bool.and_eq_true, decide_eq_true_eq, Bool.not_eq_true', List.any_eq_false]
  refine ⟨⟨⟨⟨⟨by omega, by omega⟩, by omega⟩, hs1⟩, hs8⟩, fun x hx => ?_⟩
  unfold tnL at hx
  obtain ⟨i, _, rfl⟩ := List.mem_map.1 hx
  have := Nat.mod_lt i (show 0 < n by omega)
  unfold outN
  simp
  omega
set_option linter.unusedSimpArgs false
set_option linter.unusedVariables false
theorem flat_le {α β : Type} {f : α → List β} {k : Nat} : ∀ (l : List α), (∀ x ∈ l, (f x).length ≤ k) → (l.flatMap f).length ≤ k * l.length
  | [], _ => by simp
  | x :: l, h => by
    have h1 := flat_le l fun y hy => h y (List.mem_cons_of_mem _ hy)
    have h2 := h x (List.mem_cons_self ..)
    rw [List.flatMap_cons, List.length_append, List.length_cons, Nat.mul_add]
    omega
theorem tickOf_le (c : Cd) (x : En) (s : St) : (tickOf c x s).length ≤ 2 := by
  unfold tickOf
  split
  · simp
  · split
    · rw [List.length_append]
      split <;> split <;> simp
    · rw [List.length_append]
      split <;> split <;> simp
theorem tick_len {c : Cd} (h : CdFine c) : (tickF c).length ≤ 1000 := by
  unfold tickF
  have h1 := flat_le (f := fun x => tickOf c x (atOf x.mv c.at_)) (k := 2) (c.m.map (·.2)) fun x _ => tickOf_le c x _
  have h2 := h.num
  have h3 := h.nd
  rw [List.length_map] at h1
  simp only [List.length_append, List.length_map, List.length_range]
  omega
theorem moves_len {c : Cd} (h : CdFine c) : (movesF c).length ≤ 400 := by
  unfold movesF
  rw [List.length_map, List.length_map]
  exact h.num
/-- Cells that may be written over. -/
structure Loose (w : World) (g n : Nat) : Prop where
  cell : ∀ o, o < n → ∃ v, w.cell? ⟨g, o, none⟩ = some v
  free : ∀ o, w.frozen? ⟨g, o, none⟩ = false
theorem Loose.set {w : World} {g n : Nat} (h : Loose w g n) (o : Nat) (v : Value) : Loose (w.setCell ⟨g, o, none⟩ v) g n :=
  ⟨fun k hk => by
    obtain ⟨u, hu⟩ := h.cell k hk
    exact cell?_setCell_some hu, fun k => (World.frozen?_setCell _ _ _ _).trans (h.free k)⟩
theorem Loose.keep {w w' : World} {X : List Nat} {g n : Nat} (h : Loose w g n) (hk : Keep X w w') (hl : g < w.heap.size) (hx : g ∉ X) : Loose w' g n :=
  ⟨fun o ho => by
    obtain ⟨u, hu⟩ := h.cell o ho
    exact ⟨u, (hk.cell o hl hx).trans hu⟩, fun o => (hk.frozen o hl hx).trans (h.free o)⟩
/-- A row's address, and that its cells may be written over. -/
def LooseRow (base : Nat) (W : World) (a : Option Addr) (m S : Nat) : Prop := m = 0 ∨ ∃ g, a = some ⟨g, 0, none⟩ ∧ base ≤ g ∧ g < W.heap.size ∧ Loose W g (m * S)
theorem loose_row {α : Type} {f : α → List Value} {S : Nat} (hS : ∀ x, (f x).length = S) {base : Nat} {W : World} {e : TypeId} {v : Value} {l : List α} (h : W.ownsRow base e S v l.length (l.flatMap f)) :
    ∃ a d m, v = .slice a m d ∧ m = l.length ∧ LooseRow base W a m S := by
  by_cases hl : l = []
  · obtain ⟨a, d, hv, _⟩ := own_shape h
    exact ⟨a, d, _, hv, rfl, .inl (by rw [hl]; rfl)⟩
  · obtain ⟨g, d, hv, h1, h2, h3, h4⟩ := rows_at hS h hl
    refine ⟨_, d, _, hv, rfl, .inr ⟨g, rfl, h1, h2, fun o ho => ?_, h3⟩⟩
    have hS0 : 0 < S := by
      rcases Nat.eq_zero_or_pos S with e | e
      · rw [e] at ho; omega
      · exact e
    have hi : o / S < l.length := Nat.div_lt_of_lt_mul (by rw [Nat.mul_comm]; exact ho)
    have hj : o % S < S := Nat.mod_lt _ hS0
    have h5 := h4 (o / S) (o % S) l[o / S] (List.getElem?_eq_getElem hi) hj
    rw [Nat.mul_comm, Nat.div_add_mod] at h5
    exact ⟨_, h5.trans (List.getElem?_eq_getElem (by rw [hS]; exact hj))⟩
theorem LooseRow.pos {base : Nat} {W : World} {a : Option Addr} {m S : Nat} (h : LooseRow base W a m S) (hm : 0 < m) : ∃ g, a = some ⟨g, 0, none⟩ ∧ base ≤ g ∧ g < W.heap.size ∧ Loose W g (m * S) := by
  rcases h with e | e
  · omega
  · exact e
theorem LooseRow.mono {base b' : Nat} {W : World} {a : Option Addr} {m S : Nat} (h : LooseRow base W a m S) (hb : b' ≤ base) : LooseRow b' W a m S := by
  rcases h with e | ⟨g, h1, h2, h3⟩
  · exact .inl e
  · exact .inr ⟨g, h1, Nat.le_trans hb h2, h3⟩
theorem LooseRow.keep {base : Nat} {W W' : World} {a : Option Addr} {m S : Nat} (h : LooseRow base W a m S) (hk : Keep [] W W') : LooseRow base W' a m S := by
  rcases h with e | ⟨g, h1, h2, h3, h4⟩
  · exact .inl e
  · exact .inr ⟨g, h1, h2, Nat.lt_of_lt_of_le h3 hk.size, h4.keep hk h3 (by simp)⟩
set_option linter.unusedSimpArgs false
set_option linter.unusedVariables false
/-- An answer to a message. -/
def ansF (c : Cd) (to : Int) (m : Mg) : Cd :=
  if m.k = 4 then (coHandle c m.to 10 m.mv m.pt 1).2 else if m.k = 11 ∨ m.k = 12 then (coHandle c to 13 m.mv m.pt 0).2 else c
def ansL (c : Cd) (l : List (Int × Mg)) : Cd := l.foldl (fun c p => ansF c p.1 p.2) c
def tickOfM (c : Cd) (x : En) (s : St) : List (Int × Mg) :=
  if s.st = 1 then [(x.fr, m4 x)]
  else if s.st = 2 then (if s.dn = 2 then [(x.fr, m11 c x)] else []) ++ (if s.dn = 0 ∨ s.dn = 1 then [(x.to, m11 c x)] else [])
  else (if s.dn = 0 ∨ s.dn = 2 then [(x.fr, m12 x)] else []) ++ (if s.dn = 0 ∨ s.dn = 1 then [(x.to, m12 x)] else [])
def newsM (c : Cd) : List (Int × Mg) := ((List.range c.nd.toNat).map fun (n : Nat) => ((n : Int), m14 c)) ++ ((List.range 4).map fun (n : Nat) => ((4 + n : Int), m14 c))
def tickM (c : Cd) : List (Int × Mg) := ((c.m.map (·.2)).flatMap fun x => tickOfM c x (atOf x.mv c.at_)) ++ newsM c
def pkOf (p : Int × Mg) : Pk := ⟨p.1, frameB p.2.enc⟩
theorem tickOf_map (c : Cd) (x : En) (s : St) : tickOf c x s = (tickOfM c x s).map pkOf := by
  unfold tickOf tickOfM
  split
  · rfl
  · split
    · rw [List.map_append]
      congr 1 <;> split <;> rfl
    · rw [List.map_append]
      congr 1 <;> split <;> rfl
theorem tick_map (c : Cd) : tickF c = (tickM c).map pkOf := by
  unfold tickF tickM newsM
  rw [List.map_append, List.map_append, List.map_flatMap, List.append_assoc]
  congr 1
  · simp only [tickOf_map]
  · congr 1 <;> (rw [List.map_map]; rfl)
theorem tickM_len {c : Cd} (h : CdFine c) : (tickM c).length ≤ 1000 := by
  have := tick_len h
  rw [tick_map, List.length_map] at this
  exact this
/-- All that goes out is a message. -/
theorem tickM_ok {c : Cd} (h : CdFine c) : ∀ p ∈ tickM c, p.2.Ok := by
  have h14 : (m14 c).Ok := by
    refine ⟨.inr (.inr (.inr ⟨rfl, rfl, rfl, rfl⟩)), Nat.zero_le _, Nat.zero_le _, Nat.zero_le _, ?_, ?_, h.len, h.own⟩
    · have := h.ep; show c.ep.toNat ≤ _; omega
    · have := h.nd; show c.nd.toNat ≤ _; omega
  intro p hp
  unfold tickM newsM at hp
  simp only [List.mem_append, List.mem_flatMap, List.mem_map, List.mem_range] at hp
  rcases hp with ⟨x, hx, hp⟩ | ⟨_, _, rfl⟩ | ⟨_, _, rfl⟩
  · have hb := h.mem x (by simpa using hx)
    have h4 : (m4 x).Ok := ⟨.inl ⟨rfl, rfl, rfl, rfl⟩, by show x.mv.toNat ≤ _; omega, by show x.part.toNat ≤ _; omega, by show x.to.toNat ≤ _; omega, Nat.zero_le _, Nat.zero_le _, Nat.zero_le _, fun y hy => by cases hy⟩
    have h12 : (m12 x).Ok := ⟨.inr (.inl ⟨rfl, rfl, rfl, rfl, rfl⟩), by show x.mv.toNat ≤ _; omega, by show x.part.toNat ≤ _; omega, Nat.zero_le _, Nat.zero_le _, Nat.zero_le _, Nat.zero_le _, fun y hy => by cases hy⟩
    have h11 : (m11 c x).Ok := by
      refine ⟨.inr (.inr (.inl ⟨rfl, rfl⟩)), by show x.mv.toNat ≤ _; omega, by show x.part.toNat ≤ _; omega, Nat.zero_le _, ?_, ?_, h.len, h.own⟩
      · have := h.ep; show c.ep.toNat ≤ _; omega
      · have := h.nd; show c.nd.toNat ≤ _; omega
    unfold tickOfM at hp
    split at hp
    · simp only [List.mem_singleton] at hp
      rw [hp]; exact h4
    · split at hp
      · rw [List.mem_append] at hp
        rcases hp with hp | hp <;> (split at hp <;> simp only [List.mem_singleton, List.not_mem_nil] at hp; try (rw [hp]; exact h11))
      · rw [List.mem_append] at hp
        rcases hp with hp | hp <;> (split at hp <;> simp only [List.mem_singleton, List.not_mem_nil] at hp; try (rw [hp]; exact h12))
  · exact h14
  · exact h14
theorem CdInv.ans {n s k : Nat} {c : Cd} (h : CdInv n s k c) (to : Int) (m : Mg) : CdInv n s (k + 1) (ansF c to m) := by
  unfold ansF
  split
  · exact h.handle _ _ _ _ _
  · split
    · exact h.handle _ _ _ _ _
    · exact h.mono (by omega)
theorem handle_len (c : Cd) (fr : Int) (kd : Nat) (mv pt code : Int) : (coHandle c fr kd mv pt code).2.m.length ≤ c.m.length := by
  unfold coHandle
  split
  · exact Nat.le_refl _
  · split
    · exact Nat.le_refl _
    · split
      · unfold coReady
        split <;> exact Nat.le_refl _
      · split
        · unfold coDone
          split
          · exact List.length_filter_le _ _
          · exact Nat.le_refl _
        · exact Nat.le_refl _
theorem ans_len (c : Cd) (to : Int) (m : Mg) : (ansF c to m).m.length ≤ c.m.length := by
  unfold ansF
  split
  · exact handle_len _ _ _ _ _ _
  · split
    · exact handle_len _ _ _ _ _ _
    · exact Nat.le_refl _
theorem CdInv.ansL {n s : Nat} : ∀ (l : List (Int × Mg)) {k : Nat} {c : Cd}, CdInv n s k c → CdInv n s (k + l.length) (ansL c l) ∧ (ansL c l).m.length ≤ c.m.length
  | [], _, _, h => ⟨h, Nat.le_refl _⟩
  | p :: l, k, c, h => by
    have h1 := CdInv.ansL l (h.ans p.1 p.2)
    refine ⟨?_, Nat.le_trans h1.2 (ans_len _ _ _)⟩
    rw [List.length_cons, show k + (l.length + 1) = k + 1 + l.length by omega]
    exact h1.1
theorem ansL_snoc (c : Cd) (l : List (Int × Mg)) (p : Int × Mg) : ansL c (l ++ [p]) = ansF (ansL c l) p.1 p.2 := by
  unfold ansL
  rw [List.foldl_append]
  rfl
theorem ansL_append (c : Cd) (l m : List (Int × Mg)) : ansL c (l ++ m) = ansL (ansL c l) m := by
  unfold ansL
  rw [List.foldl_append]
theorem CdInv.mem2 {n s k : Nat} {c : Cd} (h : CdInv n s k c) (hk : k ≤ 100000) (hl : c.m.length ≤ 1000) : CdMem c := by
  have := h.cnt
  exact ⟨h.keys, h.ats, by omega, hl, h.ord, h.dn⟩
theorem CdInv.fine2 {n s k : Nat} {c : Cd} (h : CdInv n s k c) (hk : k ≤ 400) (hn : n ≤ 4) (hs : s ≤ 8) : CdFine c := by
  have h1 := h.cnt
  have h2 := h.ep
  have h3 := h.last
  refine ⟨fun x hx => ?_, by omega, by rw [h.nd]; omega, fun x hx => ?_, by rw [h.len]; omega, by omega, h.dn⟩
  · obtain ⟨q, hq, rfl⟩ := List.mem_map.1 hx
    have e := h.mem q hq
    have := e.mv
    have := e.part
    have := e.fr
    have := e.to
    omega
  · have := h.own x hx
    omega
theorem CdInv.fit {n s k k' : Nat} {c : Cd} (h : CdInv n s k c) (hl : c.last ≤ k') (he : c.ep ≤ k' + 1) (hc : c.com + c.abo + c.m.length ≤ k') : CdInv n s k' c := by
  have h1 := h.cnt
  have h2 := h.ep
  have h3 := h.last
  exact ⟨h.keys, h.ats, h.ord, ⟨h3.1, hl⟩, ⟨h2.1, he⟩, h.nd, h.len, h.own, ⟨h1.1, h1.2.1, hc⟩, h.mem, h.dn⟩
/-! Counting. -/
theorem cnt_del (p : Int × En → Bool) : ∀ {m : List (Int × En)} {q : Int × En}, (m.map (·.1)).Nodup → q ∈ m → m.countP p = (del q.1 m).countP p + if p q then 1 else 0
  | [], q, _, hq => by cases hq
  | a :: l, q, hn, hq => by
    rw [List.map_cons, List.nodup_cons] at hn
    by_cases e : q.1 = a.1
    · have hql : q ∉ l := fun h => hn.1 (e ▸ List.mem_map_of_mem h)
      have ea : q = a := by
        rcases List.mem_cons.1 hq with h | h
        · exact h
        · exact absurd h hql
      subst ea
      have hd : del q.1 (q :: l) = l := by
        unfold del
        rw [List.filter_cons_of_neg (by simp)]
        apply List.filter_eq_self.2
        intro r hr
        simp only [decide_eq_true_eq]
        exact fun e2 => hn.1 (e2 ▸ List.mem_map_of_mem hr)
      rw [hd, List.countP_cons]
    · have hql : q ∈ l := by
        rcases List.mem_cons.1 hq with h | h
        · rw [h] at e; exact absurd rfl e
        · exact h
      have ih := cnt_del p hn.2 hql
      have hd : del q.1 (a :: l) = a :: del q.1 l := by
        unfold del
        rw [List.filter_cons_of_pos (by simpa using e)]
      rw [hd, List.countP_cons, List.countP_cons, ih]
      omega
/-- How many of the moves under way are in such a state. -/
def cntF (f : St → Bool) (c : Cd) : Nat := c.m.countP fun r => f (atOf r.2.mv c.at_)
theorem cnt_set {n s k : Nat} {c c' : Cd} (h : CdInv n s k c) {q : Int × En} (hq : q ∈ c.m) {v : St} (hm : c'.m = c.m) (ha : ∀ j, atOf j c'.at_ = if j = q.2.mv then v else atOf j c.at_) (f : St → Bool) :
    cntF f c' + (if f (atOf q.2.mv c.at_) then 1 else 0) = cntF f c + if f v then 1 else 0 := by
  have e1 := cnt_del (fun r => f (atOf r.2.mv c.at_)) h.keys hq
  have e2 := cnt_del (fun r => f (atOf r.2.mv c'.at_)) h.keys hq
  have e3 : (del q.1 c.m).countP (fun r => f (atOf r.2.mv c'.at_)) = (del q.1 c.m).countP (fun r => f (atOf r.2.mv c.at_)) := by
    apply List.countP_congr
    intro r hr
    obtain ⟨h1, h2⟩ := mem_del.1 hr
    rw [ha, if_neg (fun e => h2 (by rw [h.inj h1 hq e]))]
  have e4 : atOf q.2.mv c'.at_ = v := by rw [ha, if_pos rfl]
  unfold cntF
  rw [hm, e2, e1, e3]
  simp only [e4]
  omega
theorem cnt_rem {n s k : Nat} {c c' : Cd} (h : CdInv n s k c) {q : Int × En} (hq : q ∈ c.m) (hm : c'.m = del q.1 c.m) (ha : ∀ j, j ≠ q.2.mv → atOf j c'.at_ = atOf j c.at_) (f : St → Bool) :
    cntF f c = cntF f c' + if f (atOf q.2.mv c.at_) then 1 else 0 := by
  have e1 := cnt_del (fun r => f (atOf r.2.mv c.at_)) h.keys hq
  have e3 : (del q.1 c.m).countP (fun r => f (atOf r.2.mv c'.at_)) = (del q.1 c.m).countP (fun r => f (atOf r.2.mv c.at_)) := by
    apply List.countP_congr
    intro r hr
    obtain ⟨h1, h2⟩ := mem_del.1 hr
    rw [ha _ (fun e => h2 (by rw [h.inj h1 hq e]))]
  unfold cntF
  rw [hm, e1, e3]
/-! The end of all moves. -/
def isP (v : St) : Bool := decide (v.st = 1)
def isL (v : St) : Bool := decide (v.st ≠ 3)
def isA (v : St) : Bool := decide (v.st = 3)
structure EndJ (n s : Nat) (U : List Mo) (A B : Int) (c : Cd) : Prop where
  inv : CdInv n s 400 c
  epb : c.ep + (cntF isP c : Nat) ≤ 401
  sub : ∀ q ∈ c.m, ∃ u ∈ U, u.x = q.2
  st : ∀ q ∈ c.m, ∀ u ∈ U, u.x = q.2 → (u.s.st = 3 ↔ (atOf q.2.mv c.at_).st = 3)
  done : ∀ u ∈ U, (∃ q ∈ c.m, q.2 = u.x) ∨ c.own[u.x.part.toNat]?.getD 0 = if u.s.st = 3 then u.x.fr else u.x.to
  com : c.com + (cntF isL c : Nat) = A
  abo : c.abo + (cntF isA c : Nat) = B
/-- Whose shards are their own. -/
def Apart (U : List Mo) : Prop := ∀ u ∈ U, 0 ≤ u.x.part ∧ ∀ u' ∈ U, u.x.part = u'.x.part → u.x = u'.x
theorem CdInv.right {n s k : Nat} {c : Cd} (h : CdInv n s k c) (hn : 1 ≤ n ∧ n ≤ 4) (hs : 1 ≤ s ∧ s ≤ 8) (oa : Option Addr) (oc : Nat) : (c.tb oa oc).right = true := by
  have h1 := h.ep
  have h2 := h.nd
  have h3 := h.len
  unfold Tb.right Cd.tb
  simp only [Bool.and_eq_true, decide_eq_true_eq, Bool.not_eq_true', List.any_eq_false]
  refine ⟨⟨⟨⟨⟨by omega, by omega⟩, by omega⟩, by omega⟩, by omega⟩, fun x hx => ?_⟩
  have := h.own x hx
  unfold outN
  simp
  omega
theorem CdInv.mayOk {n s k : Nat} {c : Cd} (h : CdInv n s k c) (hn : 1 ≤ n ∧ n ≤ 4) (hs : 1 ≤ s ∧ s ≤ 8) (hk : k ≤ 1000) {q : Int × En} (hq : q ∈ c.m) (hst : (atOf q.2.mv c.at_).st = 1) : (c.tb none 0).may q.2.part q.2.to = 0 := by
  have e := h.mem q hq
  have h1 := h.ep
  have h2 := h.nd
  have h3 := h.len
  have ho := e.own
  rw [hst, if_neg (by decide)] at ho
  have hr := h.right hn hs none 0
  have e1 := e.part
  have e2 := e.to
  unfold Tb.may
  rw [if_neg, if_neg, if_neg, if_neg]
  · show ¬ c.own[q.2.part.toNat]?.getD 0 = q.2.to
    rw [ho]
    exact e.ne
  · rintro (h0 | h0)
    · omega
    · have h4 : c.nd ≤ q.2.to := h0
      omega
  · rintro (h0 | h0)
    · omega
    · have h4 : (c.own.length : Int) ≤ q.2.part := h0
      omega
  · rintro (h0 | h0)
    · rw [hr] at h0
      cases h0
    · have h4 : 2147483647 ≤ c.ep := h0
      omega
theorem EndJ.ready {n s : Nat} {U : List Mo} {A B : Int} {c : Cd} (h : EndJ n s U A B c) (hU : Apart U) (hn : 1 ≤ n ∧ n ≤ 4) (hs : 1 ≤ s ∧ s ≤ 8) {q : Int × En} (hq : q ∈ c.m) (hst : (atOf q.2.mv c.at_).st = 1) :
    EndJ n s U A B (coReady c q.2 1) ∧ (coReady c q.2 1).m = c.m ∧ ∀ j, atOf j (coReady c q.2 1).at_ = if j = q.2.mv then ⟨2, 0⟩ else atOf j c.at_ := by
  have hmay := h.inv.mayOk hn hs (by omega) hq hst
  have e := h.inv.mem q hq
  have hcr : coReady c q.2 1 = { c with ep := c.ep + 1, own := c.own.set q.2.part.toNat q.2.to, at_ := put q.2.mv ⟨2, 0⟩ c.at_ } := by
    unfold coReady mvF
    rw [if_pos hmay]
    simp [Cd.tb]
  have hi := h.inv.ready hq hst 1
  have hat : ∀ j, atOf j (coReady c q.2 1).at_ = if j = q.2.mv then ⟨2, 0⟩ else atOf j c.at_ := fun j => by rw [hcr]; exact atOf_put
  have hm : (coReady c q.2 1).m = c.m := by rw [hcr]
  have c1 := cnt_set h.inv hq hm hat isP
  have c2 := cnt_set h.inv hq hm hat isL
  have c3 := cnt_set h.inv hq hm hat isA
  rw [show isP (atOf q.2.mv c.at_) = true from by unfold isP; rw [hst]; rfl, show isP ⟨2, 0⟩ = false from rfl] at c1
  rw [show isL (atOf q.2.mv c.at_) = true from by unfold isL; rw [hst]; rfl, show isL ⟨2, 0⟩ = true from rfl] at c2
  rw [show isA (atOf q.2.mv c.at_) = false from by unfold isA; rw [hst]; rfl, show isA ⟨2, 0⟩ = false from rfl] at c3
  simp only [if_true, Bool.false_eq_true, if_false] at c1 c2 c3
  have hep : (coReady c q.2 1).ep = c.ep + 1 := by rw [hcr]
  have hcom : (coReady c q.2 1).com = c.com := by rw [hcr]
  have habo : (coReady c q.2 1).abo = c.abo := by rw [hcr]
  have hlast : (coReady c q.2 1).last = c.last := by rw [hcr]
  have hown : (coReady c q.2 1).own = c.own.set q.2.part.toNat q.2.to := by rw [hcr]
  refine ⟨⟨hi.fit (by rw [hlast]; exact h.inv.last.2) (by have := h.epb; omega) (by rw [hcom, habo, hm]; exact h.inv.cnt.2.2), ?_, fun q' hq' => ?_, fun q' hq' u hu h1 => ?_, fun u hu => ?_, ?_, ?_⟩, hm, hat⟩
  · rw [hep]
    have := h.epb
    omega
  · rw [hm] at hq'
    exact h.sub q' hq'
  · rw [hm] at hq'
    have h2 := h.st q' hq' u hu h1
    rw [hat]
    split
    · rename_i he
      rw [h2, he, hst]
      decide
    · exact h2
  · rw [hm]
    rcases h.done u hu with h1 | h1
    · exact .inl h1
    · by_cases hp : u.x.part = q.2.part
      · obtain ⟨u', hu', h3⟩ := h.sub q hq
        exact .inl ⟨q, hq, by rw [← h3]; exact ((hU u hu).2 u' hu' (by rw [hp, h3])).symm⟩
      · right
        have hne : q.2.part.toNat ≠ u.x.part.toNat := by
          have h4 := e.part
          have h5 := (hU u hu).1
          omega
        rw [hown, List.getElem?_set_ne hne]
        exact h1
  · rw [hcom]
    have := h.com
    omega
  · rw [habo]
    have := h.abo
    omega
theorem EndJ.part {n s : Nat} {U : List Mo} {A B : Int} {c : Cd} (h : EndJ n s U A B c) {q : Int × En} (hq : q ∈ c.m) (hst : (atOf q.2.mv c.at_).st ≠ 1) {fr : Int} (hd : dnF q.2 fr (atOf q.2.mv c.at_).dn ≤ 2) :
    EndJ n s U A B (coDone c q.2 fr).2 ∧ (coDone c q.2 fr).2.m = c.m ∧ ∀ j, atOf j (coDone c q.2 fr).2.at_ = if j = q.2.mv then ⟨(atOf q.2.mv c.at_).st, dnF q.2 fr (atOf q.2.mv c.at_).dn⟩ else atOf j c.at_ := by
  have e := h.inv.mem q hq
  have hst2 : (atOf q.2.mv c.at_).st = 2 ∨ (atOf q.2.mv c.at_).st = 3 := by
    rcases e.st with h1 | h1
    · exact absurd h1.1 hst
    · exact h1
  have hcd : (coDone c q.2 fr).2 = { c with at_ := put q.2.mv ⟨(atOf q.2.mv c.at_).st, dnF q.2 fr (atOf q.2.mv c.at_).dn⟩ c.at_ } := by
    unfold coDone
    simp only
    rw [if_neg (by omega)]
  have hi := h.inv.setSt hq (v := ⟨(atOf q.2.mv c.at_).st, dnF q.2 fr (atOf q.2.mv c.at_).dn⟩) hst2 hd e.own
  rw [← hcd] at hi
  have hat : ∀ j, atOf j (coDone c q.2 fr).2.at_ = if j = q.2.mv then ⟨(atOf q.2.mv c.at_).st, dnF q.2 fr (atOf q.2.mv c.at_).dn⟩ else atOf j c.at_ := fun j => by rw [hcd]; exact atOf_put
  have hm : (coDone c q.2 fr).2.m = c.m := by rw [hcd]
  have c1 := cnt_set h.inv hq hm hat isP
  have c2 := cnt_set h.inv hq hm hat isL
  have c3 := cnt_set h.inv hq hm hat isA
  rw [show isP ⟨(atOf q.2.mv c.at_).st, dnF q.2 fr (atOf q.2.mv c.at_).dn⟩ = isP (atOf q.2.mv c.at_) from rfl] at c1
  rw [show isL ⟨(atOf q.2.mv c.at_).st, dnF q.2 fr (atOf q.2.mv c.at_).dn⟩ = isL (atOf q.2.mv c.at_) from rfl] at c2
  rw [show isA ⟨(atOf q.2.mv c.at_).st, dnF q.2 fr (atOf q.2.mv c.at_).dn⟩ = isA (atOf q.2.mv c.at_) from rfl] at c3
  have hep : (coDone c q.2 fr).2.ep = c.ep := by rw [hcd]
  have hcom : (coDone c q.2 fr).2.com = c.com := by rw [hcd]
  have habo : (coDone c q.2 fr).2.abo = c.abo := by rw [hcd]
  have hown : (coDone c q.2 fr).2.own = c.own := by rw [hcd]
  refine ⟨⟨hi, ?_, fun q' hq' => ?_, fun q' hq' u hu h1 => ?_, fun u hu => ?_, ?_, ?_⟩, hm, hat⟩
  · rw [hep]
    have := h.epb
    omega
  · rw [hm] at hq'
    exact h.sub q' hq'
  · rw [hm] at hq'
    have h2 := h.st q' hq' u hu h1
    rw [hat]
    split
    · rename_i he
      rw [h2, he]
    · exact h2
  · rw [hm, hown]
    exact h.done u hu
  · rw [hcom]
    have := h.com
    omega
  · rw [habo]
    have := h.abo
    omega
theorem EndJ.over {n s : Nat} {U : List Mo} {A B : Int} {c : Cd} (h : EndJ n s U A B c) (hU : Apart U) {q : Int × En} (hq : q ∈ c.m) (hst : (atOf q.2.mv c.at_).st ≠ 1) {fr : Int} (hd : dnF q.2 fr (atOf q.2.mv c.at_).dn = 3) :
    EndJ n s U A B (coDone c q.2 fr).2 ∧ (coDone c q.2 fr).2.m = del q.1 c.m ∧ ∀ j, j ≠ q.2.mv → atOf j (coDone c q.2 fr).2.at_ = atOf j c.at_ := by
  have e := h.inv.mem q hq
  have hst2 : (atOf q.2.mv c.at_).st = 2 ∨ (atOf q.2.mv c.at_).st = 3 := by
    rcases e.st with h1 | h1
    · exact absurd h1.1 hst
    · exact h1
  have hi := h.inv.done hq hst fr
  have hat : ∀ j, j ≠ q.2.mv → atOf j (coDone c q.2 fr).2.at_ = atOf j c.at_ := fun j hj => by
    unfold coDone
    simp only
    rw [if_pos hd]
    simp only
    rw [atOf_del, if_neg hj, atOf_put, if_neg hj]
  have hm : (coDone c q.2 fr).2.m = del q.1 c.m := by
    unfold coDone
    simp only
    rw [if_pos hd, ← e.key]
  have hep : (coDone c q.2 fr).2.ep = c.ep := by unfold coDone; simp only; rw [if_pos hd]
  have hlast : (coDone c q.2 fr).2.last = c.last := by unfold coDone; simp only; rw [if_pos hd]
  have hown : (coDone c q.2 fr).2.own = c.own := by unfold coDone; simp only; rw [if_pos hd]
  have hcom : (coDone c q.2 fr).2.com = if (atOf q.2.mv c.at_).st = 2 then c.com + 1 else c.com := by unfold coDone; simp only; rw [if_pos hd]
  have habo : (coDone c q.2 fr).2.abo = if (atOf q.2.mv c.at_).st = 2 then c.abo else c.abo + 1 := by unfold coDone; simp only; rw [if_pos hd]
  have c1 := cnt_rem h.inv hq hm hat isP
  have c2 := cnt_rem h.inv hq hm hat isL
  have c3 := cnt_rem h.inv hq hm hat isA
  have hlen : (del q.1 c.m).length + 1 = c.m.length := by
    have h1 := cnt_del (fun _ => true) h.inv.keys hq
    simp only [List.countP_true, if_true] at h1
    omega
  have hcnt := h.inv.cnt.2.2
  have hfit : (coDone c q.2 fr).2.com + (coDone c q.2 fr).2.abo + (coDone c q.2 fr).2.m.length ≤ 400 := by
    rw [hcom, habo, hm]
    split <;> omega
  refine ⟨⟨hi.fit (by rw [hlast]; exact h.inv.last.2) (by rw [hep]; exact h.inv.ep.2) hfit, ?_, fun q' hq' => ?_, fun q' hq' u hu h1 => ?_, fun u hu => ?_, ?_, ?_⟩, hm, hat⟩
  · rw [hep]
    have := h.epb
    omega
  · rw [hm] at hq'
    exact h.sub q' (mem_del.1 hq').1
  · rw [hm] at hq'
    obtain ⟨h3, h4⟩ := mem_del.1 hq'
    have h2 := h.st q' h3 u hu h1
    rw [hat _ (fun e2 => h4 (by rw [h.inv.inj h3 hq e2]))]
    exact h2
  · rw [hm, hown]
    rcases h.done u hu with ⟨q', hq', h1⟩ | h1
    · by_cases hp : q' = q
      · right
        subst hp
        have h4 := h.st q' hq u hu h1.symm
        have ho := e.own
        rw [← h1, ho]
        rcases hst2 with e2 | e2
        · rw [if_pos e2, if_neg (by rw [h4, e2]; decide)]
        · rw [if_neg (by rw [e2]; decide), if_pos (h4.2 e2)]
      · left
        exact ⟨q', mem_del.2 ⟨hq', fun e2 => hp (h.inv.inj2 hq' hq (by rw [(h.inv.mem q' hq').key, e.key, e2]))⟩, h1⟩
    · exact .inr h1
  · rw [hcom]
    have := h.com
    rcases hst2 with e2 | e2
    · rw [e2, if_pos rfl]
      rw [show isL (atOf q.2.mv c.at_) = true from by unfold isL; rw [e2]; rfl, if_pos rfl] at c2
      omega
    · rw [e2, if_neg (by decide)]
      rw [show isL (atOf q.2.mv c.at_) = false from by unfold isL; rw [e2]; rfl, if_neg (by decide)] at c2
      omega
  · rw [habo]
    have := h.abo
    rcases hst2 with e2 | e2
    · rw [e2, if_pos rfl]
      rw [show isA (atOf q.2.mv c.at_) = false from by unfold isA; rw [e2]; rfl, if_neg (by decide)] at c3
      omega
    · rw [e2, if_neg (by decide)]
      rw [show isA (atOf q.2.mv c.at_) = true from by unfold isA; rw [e2]; rfl, if_pos rfl] at c3
      omega
set_option linter.unusedSimpArgs false
set_option linter.unusedVariables false
def Nxt (a b : St) : Prop := b.dn &&& a.dn = a.dn ∧ (a.st ≠ 1 → b.st = a.st)
theorem Nxt.refl (a : St) : Nxt a a := ⟨Nat.and_self _, fun _ => rfl⟩
/-- One act's step. -/
structure Went (c c' : Cd) : Prop where
  rows : ∀ q ∈ c'.m, ((∀ r ∈ c.m, r.2.mv ≠ q.2.mv) ∧ atOf q.2.mv c'.at_ = ⟨1, 0⟩) ∨ (q ∈ c.m ∧ Nxt (atOf q.2.mv c.at_) (atOf q.2.mv c'.at_))
  chg : (c'.ep = c.ep ∧ c'.own = c.own ∧ ∀ q ∈ c'.m, q ∈ c.m → (atOf q.2.mv c.at_).st = 1 → (atOf q.2.mv c'.at_).st ≠ 2) ∨
    ∃ q ∈ c'.m, q ∈ c.m ∧ (atOf q.2.mv c.at_).st = 1 ∧ (atOf q.2.mv c'.at_).st = 2 ∧ c'.ep = c.ep + 1 ∧ c'.own = c.own.set q.2.part.toNat q.2.to ∧ ∀ r ∈ c'.m, r ≠ q → r ∈ c.m → (atOf r.2.mv c.at_).st = 1 → (atOf r.2.mv c'.at_).st ≠ 2
theorem Went.refl (c : Cd) : Went c c := ⟨fun q hq => .inr ⟨hq, Nxt.refl _⟩, .inl ⟨rfl, rfl, fun q _ _ h1 h2 => by omega⟩⟩
/-- A state is written, no commit. -/
theorem Went.set {n s k : Nat} {c : Cd} (h : CdInv n s k c) {q : Int × En} (hq : q ∈ c.m) {v : St} (hv : Nxt (atOf q.2.mv c.at_) v) (h2 : (atOf q.2.mv c.at_).st = 1 → v.st ≠ 2) : Went c { c with at_ := put q.2.mv v c.at_ } := by
  have ha : ∀ j, atOf j (put q.2.mv v c.at_) = if j = q.2.mv then v else atOf j c.at_ := fun j => atOf_put
  refine ⟨fun r hr => .inr ⟨hr, ?_⟩, .inl ⟨rfl, rfl, fun r hr _ h1 => ?_⟩⟩
  · show Nxt _ (atOf r.2.mv (put q.2.mv v c.at_))
    rw [ha]
    split
    · rename_i e; rw [e]; exact hv
    · exact Nxt.refl _
  · show (atOf r.2.mv (put q.2.mv v c.at_)).st ≠ 2
    rw [ha]
    split
    · rename_i e; rw [e] at h1; exact h2 h1
    · omega
theorem Went.order {n s k : Nat} {c : Cd} (h : CdInv n s k c) (part to : Int) : Went c (coOrd c part to).2.2 := by
  unfold coOrd ordF
  simp only
  split
  · rename_i hm
    simp only [if_neg hm]
    exact Went.refl c
  · split
    · exact Went.refl c
    · split
      · exact Went.refl c
      · simp only [if_true]
        have hold : ∀ q ∈ c.m, atOf q.2.mv (put (c.last + 1) ⟨1, 0⟩ c.at_) = atOf q.2.mv c.at_ := fun q hq => by
          have := (h.mem q hq).mv
          rw [atOf_put, if_neg (by omega)]
        refine ⟨fun q hq => ?_, .inl ⟨rfl, rfl, fun q _ hq h1 => ?_⟩⟩
        · rcases List.mem_append.1 hq with hq | hq
          · exact .inr ⟨hq, by simp only; rw [hold q hq]; exact Nxt.refl _⟩
          · obtain rfl : q = _ := by simpa using hq
            refine .inl ⟨fun r hr => ?_, ?_⟩
            · have := (h.mem r hr).mv
              simp only
              omega
            · simp only
              rw [atOf_put, if_pos rfl]
        · simp only
          rw [hold q hq]
          omega
theorem Went.abort {n s k : Nat} {c : Cd} (h : CdInv n s k c) (part : Int) : Went c (coAbort c part).2 := by
  unfold coAbort
  split
  · exact Went.refl c
  · split
    · exact Went.refl c
    · rename_i hl
      split
      · rename_i hs
        have hq := look_in hl
        have e := h.mem _ hq
        have hd : (atOf ((look part c.m).getD En.zero).mv c.at_).dn = 0 := by
          rcases e.st with h1 | h1 | h1
          · exact h1.2
          · simp only at h1; omega
          · simp only at h1; omega
        refine Went.set h hq (v := ⟨3, 0⟩) ⟨?_, fun h1 => absurd hs h1⟩ (fun _ => by decide)
        simp only
        rw [hd]
        rfl
      · exact Went.refl c
theorem Went.ready {n s k : Nat} {c : Cd} (h : CdInv n s k c) {q : Int × En} (hq : q ∈ c.m) (hs : (atOf q.2.mv c.at_).st = 1) (code : Int) : Went c (coReady c q.2 code) := by
  have e := h.mem q hq
  have hd : (atOf q.2.mv c.at_).dn = 0 := by
    rcases e.st with h1 | h1 | h1
    · exact h1.2
    · omega
    · omega
  have hn2 : Nxt (atOf q.2.mv c.at_) ⟨2, 0⟩ := ⟨by rw [hd]; rfl, fun h1 => absurd hs h1⟩
  have hn3 : Nxt (atOf q.2.mv c.at_) ⟨3, 0⟩ := ⟨by rw [hd]; rfl, fun h1 => absurd hs h1⟩
  unfold coReady
  split
  · rename_i hc
    have hm : (c.tb none 0).may q.2.part q.2.to = 0 := by
      have := hc.2
      unfold mvF at this
      split at this
      · assumption
      · exact this
    unfold mvF
    rw [if_pos hm]
    simp only [Cd.tb]
    have ha : ∀ j, atOf j (put q.2.mv (⟨2, 0⟩ : St) c.at_) = if j = q.2.mv then ⟨2, 0⟩ else atOf j c.at_ := fun j => atOf_put
    refine ⟨fun r hr => .inr ⟨hr, ?_⟩, .inr ⟨q, hq, hq, hs, ?_, rfl, rfl, fun r hr hne _ h1 => ?_⟩⟩
    · simp only
      rw [ha]
      split
      · rename_i e; rw [e]; exact hn2
      · exact Nxt.refl _
    · simp only
      rw [ha, if_pos rfl]
    · simp only
      rw [ha, if_neg (fun e2 => hne (h.inj hr hq e2))]
      omega
  · exact Went.set h hq hn3 (fun _ => by decide)
theorem or_keep (d b : Nat) : (d ||| b) &&& d = d := by
  apply Nat.eq_of_testBit_eq
  intro i
  rw [Nat.testBit_and, Nat.testBit_or]
  cases d.testBit i <;> cases b.testBit i <;> rfl
theorem dnF_keep (x : En) (fr : Int) (d : Nat) : dnF x fr d &&& d = d := by
  unfold dnF
  split
  · exact or_keep _ _
  · split
    · exact or_keep _ _
    · exact Nat.and_self _
theorem Went.done {n s k : Nat} {c : Cd} (h : CdInv n s k c) {q : Int × En} (hq : q ∈ c.m) (hs : (atOf q.2.mv c.at_).st ≠ 1) (fr : Int) : Went c (coDone c q.2 fr).2 := by
  have e := h.mem q hq
  unfold coDone
  split
  · have hne : ∀ r ∈ del q.2.part c.m, r ∈ c.m ∧ r.2.mv ≠ q.2.mv := fun r hr => by
      obtain ⟨h1, h2⟩ := mem_del.1 hr
      exact ⟨h1, fun e2 => h2 (by rw [h.inj h1 hq e2]; exact e.key)⟩
    refine ⟨fun r hr => .inr ⟨(hne r hr).1, ?_⟩, .inl ⟨rfl, rfl, fun r hr _ h1 => ?_⟩⟩
    · simp only
      rw [atOf_del, if_neg (hne r hr).2, atOf_put, if_neg (hne r hr).2]
      exact Nxt.refl _
    · simp only
      rw [atOf_del, if_neg (hne r hr).2, atOf_put, if_neg (hne r hr).2]
      omega
  · exact Went.set h hq ⟨dnF_keep _ _ _, fun _ => rfl⟩ (fun h1 => absurd h1 hs)
theorem Went.handle {n s k : Nat} {c : Cd} (h : CdInv n s k c) (fr : Int) (kd : Nat) (mv pt code : Int) : Went c (coHandle c fr kd mv pt code).2 := by
  unfold coHandle
  split
  · exact Went.refl c
  · rename_i x hx
    obtain ⟨q, hq, rfl, _⟩ := findMv_mem hx
    split
    · exact Went.refl c
    · split
      · rename_i hc
        exact Went.ready h hq hc.2.1 code
      · split
        · rename_i hc
          exact Went.done h hq hc.2 fr
        · exact Went.refl c
def isC (was : List Mo) (y : Mo) : Bool := decide (((findMo y.x.mv was).getD ⟨y.x, ⟨1, 0⟩⟩).s.st = 1) && decide (y.s.st = 2)
def dF (a b : List Int) (j : Nat) : Nat := (List.range j).countP fun i => decide (a[i]?.getD 0 ≠ b[i]?.getD 0)
theorem dF_succ (a b : List Int) (j : Nat) : dF a b (j + 1) = dF a b j + if a[j]?.getD 0 = b[j]?.getD 0 then 0 else 1 := by
  unfold dF
  rw [List.range_succ, List.countP_append]
  by_cases h : a[j]?.getD 0 = b[j]?.getD 0 <;> simp [h]
theorem dF_le (a b : List Int) (j : Nat) : dF a b j ≤ j := by
  unfold dF
  exact Nat.le_trans List.countP_le_length (by rw [List.length_range]; exact Nat.le_refl _)
/-- What a move's row says beside what it was. -/
structure RowOk (was : List Mo) (tow uow : List Int) (y : Mo) : Prop where
  dn : y.s.dn ≤ 2
  part : 0 ≤ y.x.part ∧ y.x.part < uow.length
  ne : y.x.fr ≠ y.x.to
  own : uow[y.x.part.toNat]?.getD 0 = if y.s.st = 2 then y.x.to else y.x.fr
  old : (findMo y.x.mv was = none ∧ y.s = ⟨1, 0⟩) ∨ (∃ s0 : St, findMo y.x.mv was = some ⟨y.x, s0⟩ ∧ s0.dn ≤ 2 ∧ y.s.dn &&& s0.dn = s0.dn ∧
    ((s0.st = 1 ∧ y.s.st = 1 ∧ y.s.dn = 0) ∨ (s0.st = 1 ∧ y.s.st = 2 ∧ tow[y.x.part.toNat]?.getD 0 = y.x.fr) ∨ (s0.st = 1 ∧ y.s.st = 3) ∨ (s0.st = 2 ∧ y.s.st = 2) ∨ (s0.st = 3 ∧ y.s.st = 3)))
structure GoesOk (was now : List Mo) (tep uep : Int) (tow uow : List Int) : Prop where
  row : ∀ y ∈ now, RowOk was tow uow y
  pair : now.Pairwise fun a b => a.x.part ≠ b.x.part ∧ a.x.mv < b.x.mv
  len : tow.length = uow.length
  one : (now.countP (isC was)) ≤ 1
  d : dF tow uow tow.length = now.countP (isC was)
  ep : uep = tep + (now.countP (isC was) : Nat)
  epb : 0 ≤ tep ∧ tep ≤ 1000000
  wl : was.length ≤ 1000
  nl : now.length ≤ 1000
theorem Went.one {n s k : Nat} {c : Cd} (h : CdInv n s k c) (x : Ac) : Went c (oneF c x).2 := by
  unfold oneF
  split
  · exact Went.order h _ _
  · split
    · exact Went.abort h _
    · split
      · exact Went.handle h _ _ _ _ _
      · exact Went.refl c
theorem found_moves {n s k : Nat} {c : Cd} (h : CdInv n s k c) {q : Int × En} (hq : q ∈ c.m) : findMo q.2.mv (movesF c) = some ⟨q.2, atOf q.2.mv c.at_⟩ := by
  rw [findMo_moves]
  have : findMv q.2.mv (c.m.map (·.2)) = some q.2 := by
    cases hf : findMv q.2.mv (c.m.map (·.2)) with
    | none =>
      unfold findMv at hf
      have := List.find?_eq_none.1 hf q.2 (List.mem_map_of_mem hq)
      simp at this
    | some y =>
      obtain ⟨q', hq', h1, h2⟩ := findMv_mem hf
      rw [← h1] at h2
      rw [← h1, h.inj hq' hq h2]
  rw [this]
  rfl
theorem lost_moves {c : Cd} {mv : Int} (h : ∀ r ∈ c.m, r.2.mv ≠ mv) : findMo mv (movesF c) = none := by
  unfold findMo movesF
  rw [List.find?_eq_none]
  intro y hy
  obtain ⟨x, hx, rfl⟩ := List.mem_map.1 hy
  obtain ⟨q, hq, rfl⟩ := List.mem_map.1 hx
  simpa using h q hq
theorem dF_same (a : List Int) (j : Nat) : dF a a j = 0 := by
  unfold dF
  apply List.countP_eq_zero.2
  intro i _
  simp
theorem dF_set {a : List Int} {i : Nat} {v : Int} (hi : i < a.length) (hv : a[i]?.getD 0 ≠ v) : ∀ j, dF a (a.set i v) j = if i < j then 1 else 0
  | 0 => by simp [dF]
  | j + 1 => by
    rw [dF_succ, dF_set hi hv j]
    by_cases h : i = j
    · subst h
      have : (a.set i v)[i]?.getD 0 = v := by simp [hi]
      rw [this, if_neg hv, if_neg (by omega), if_pos (by omega)]
    · rw [List.getElem?_set_ne h, if_pos rfl]
      by_cases h2 : i < j
      · rw [if_pos h2, if_pos (by omega)]
      · rw [if_neg h2, if_neg (by omega)]
theorem goes_pure {n s k : Nat} {c c' : Cd} (h : CdInv n s k c) (h' : CdInv n s (k + 1) c') (hw : Went c c') (hk : k ≤ 900) : GoesOk (movesF c) (movesF c') c.ep c'.ep c.own c'.own := by
  have hmem : ∀ y ∈ movesF c', ∃ q ∈ c'.m, y = ⟨q.2, atOf q.2.mv c'.at_⟩ := fun y hy => by
    unfold movesF at hy
    obtain ⟨x, hx, rfl⟩ := List.mem_map.1 hy
    obtain ⟨q, hq, rfl⟩ := List.mem_map.1 hx
    exact ⟨q, hq, rfl⟩
  have hisC : ∀ q ∈ c'.m, isC (movesF c) ⟨q.2, atOf q.2.mv c'.at_⟩ = true → q ∈ c.m ∧ (atOf q.2.mv c.at_).st = 1 ∧ (atOf q.2.mv c'.at_).st = 2 := fun q hq hc => by
    unfold isC at hc
    simp only [Bool.and_eq_true, decide_eq_true_eq] at hc
    rcases hw.rows q hq with ⟨h1, h2⟩ | ⟨h1, _⟩
    · rw [h2] at hc
      simp at hc
    · rw [found_moves h h1] at hc
      exact ⟨h1, hc.1, hc.2⟩
  have hcount : (movesF c').countP (isC (movesF c)) = c'.m.countP fun q => isC (movesF c) ⟨q.2, atOf q.2.mv c'.at_⟩ := by
    unfold movesF
    rw [List.countP_map, List.countP_map]
    rfl
  have hl1 := h.cnt
  have hl2 := h'.cnt
  have hep := h.ep
  have base : ∀ T : Nat, (movesF c').countP (isC (movesF c)) = T → T ≤ 1 → dF c.own c'.own c.own.length = T → c'.ep = c.ep + (T : Int) → (∀ q ∈ c'.m, q ∈ c.m → (atOf q.2.mv c.at_).st = 1 → (atOf q.2.mv c'.at_).st = 2 → c.own[q.2.part.toNat]?.getD 0 = q.2.fr) → GoesOk (movesF c) (movesF c') c.ep c'.ep c.own c'.own := by
    intro T e1 e2 e3 e4 e5
    refine ⟨fun y hy => ?_, ?_, by rw [h.len, h'.len], by rw [e1]; exact e2, by rw [e1]; exact e3, by rw [e1]; exact e4, by omega, ?_, ?_⟩
    · obtain ⟨q, hq, rfl⟩ := hmem y hy
      have e := h'.mem q hq
      refine ⟨e.dn, ⟨e.part.1, by rw [h'.len]; exact e.part.2⟩, e.ne, e.own, ?_⟩
      rcases hw.rows q hq with ⟨h1, h2⟩ | ⟨h1, h2⟩
      · exact .inl ⟨lost_moves h1, h2⟩
      · have eo := h.mem q h1
        refine .inr ⟨atOf q.2.mv c.at_, found_moves h h1, eo.dn, h2.1, ?_⟩
        have hst := e.st
        have hso := eo.st
        by_cases hs : (atOf q.2.mv c.at_).st = 1
        · rcases hst with h3 | h3 | h3
          · exact .inl ⟨hs, h3.1, h3.2⟩
          · exact .inr (.inl ⟨hs, h3, e5 q hq h1 hs h3⟩)
          · exact .inr (.inr (.inl ⟨hs, h3⟩))
        · have h4 := h2.2 hs
          rcases hso with h3 | h3 | h3
          · exact absurd h3.1 hs
          · exact .inr (.inr (.inr (.inl ⟨h3, by rw [h4]; exact h3⟩)))
          · exact .inr (.inr (.inr (.inr ⟨h3, by rw [h4]; exact h3⟩)))
    · unfold movesF
      rw [List.pairwise_map]
      have hnd : c'.m.Pairwise fun a b => a.2.part ≠ b.2.part := by
        have hk := h'.keys
        unfold List.Nodup at hk
        rw [List.pairwise_map] at hk
        refine List.Pairwise.imp_of_mem ?_ hk
        intro a b ha hb hab
        rw [(h'.mem a ha).key, (h'.mem b hb).key]
        exact hab
      have hor := h'.ord
      rw [List.pairwise_map] at hor ⊢
      exact hnd.and hor
    · unfold movesF
      rw [List.length_map, List.length_map]
      omega
    · unfold movesF
      rw [List.length_map, List.length_map]
      omega
  rcases hw.chg with ⟨e1, e2, e3⟩ | ⟨q, hq, hqc, e1, e2, e3, e4, e5⟩
  · refine base 0 ?_ (by omega) (by rw [e2]; exact dF_same _ _) (by rw [e1]; simp) (fun q hq hc h1 h2 => absurd h2 (e3 q hq hc h1))
    rw [hcount]
    apply List.countP_eq_zero.2
    intro q hq hc
    obtain ⟨h1, h2, h3⟩ := hisC q hq hc
    exact e3 q hq h1 h2 h3
  · have e := h.mem q hqc
    have ho := e.own
    rw [e1, if_neg (by decide)] at ho
    have hp := e.part
    have hil : q.2.part.toNat < c.own.length := by have := h.len; omega
    refine base 1 ?_ (by omega) ?_ e3 (fun r hr hc h1 h2 => ?_)
    · rw [hcount, cnt_del _ h'.keys hq]
      have hz : (del q.1 c'.m).countP (fun q => isC (movesF c) ⟨q.2, atOf q.2.mv c'.at_⟩) = 0 := by
        apply List.countP_eq_zero.2
        intro r hr hc
        obtain ⟨h1, h2⟩ := mem_del.1 hr
        obtain ⟨h3, h4, h5⟩ := hisC r h1 hc
        exact e5 r h1 (fun e => h2 (by rw [e])) h3 h4 h5
      have hone : isC (movesF c) ⟨q.2, atOf q.2.mv c'.at_⟩ = true := by
        unfold isC
        rw [found_moves h hqc]
        simp [e1, e2]
      rw [hz, hone, if_pos rfl]
    · rw [e4, dF_set hil (by rw [ho]; exact e.ne), if_pos hil]
    · by_cases hrq : r = q
      · rw [hrq]; exact ho
      · exact absurd h2 (e5 r hr hrq hc h1)
set_option linter.unusedSimpArgs false
set_option linter.unusedVariables false
/-- Whence a packet of a tick comes. -/
inductive From (c : Cd) (p : Int × Mg) : Prop where
  | news : p.2 = m14 c → From c p
  | prep (q : Int × En) : q ∈ c.m → (atOf q.2.mv c.at_).st = 1 → (atOf q.2.mv c.at_).dn = 0 → p = (q.2.fr, m4 q.2) → From c p
  | com1 (q : Int × En) : q ∈ c.m → (atOf q.2.mv c.at_).st = 2 → (atOf q.2.mv c.at_).dn = 2 → p = (q.2.fr, m11 c q.2) → From c p
  | com2 (q : Int × En) : q ∈ c.m → (atOf q.2.mv c.at_).st = 2 → ((atOf q.2.mv c.at_).dn = 0 ∨ (atOf q.2.mv c.at_).dn = 1) → p = (q.2.to, m11 c q.2) → From c p
  | abo1 (q : Int × En) : q ∈ c.m → (atOf q.2.mv c.at_).st = 3 → ((atOf q.2.mv c.at_).dn = 0 ∨ (atOf q.2.mv c.at_).dn = 2) → p = (q.2.fr, m12 q.2) → From c p
  | abo2 (q : Int × En) : q ∈ c.m → (atOf q.2.mv c.at_).st = 3 → ((atOf q.2.mv c.at_).dn = 0 ∨ (atOf q.2.mv c.at_).dn = 1) → p = (q.2.to, m12 q.2) → From c p
theorem tick_from {n s k : Nat} {c : Cd} (h : CdInv n s k c) : ∀ p ∈ tickM c, From c p := by
  intro p hp
  unfold tickM newsM at hp
  simp only [List.mem_append, List.mem_flatMap, List.mem_map, List.mem_range] at hp
  rcases hp with ⟨x, ⟨q, hq, rfl⟩, hp⟩ | ⟨_, _, rfl⟩ | ⟨_, _, rfl⟩
  · have e := h.mem q hq
    by_cases h1 : (atOf q.2.mv c.at_).st = 1
    · have hd : (atOf q.2.mv c.at_).dn = 0 := by
        rcases e.st with h2 | h2 | h2
        · exact h2.2
        · omega
        · omega
      unfold tickOfM at hp
      rw [if_pos h1, List.mem_singleton] at hp
      exact .prep q hq h1 hd hp
    · by_cases h2 : (atOf q.2.mv c.at_).st = 2
      · unfold tickOfM at hp
        rw [if_neg h1, if_pos h2, List.mem_append] at hp
        rcases hp with hp | hp
        · split at hp
          · rename_i hd; exact .com1 q hq h2 hd (List.mem_singleton.1 hp)
          · cases hp
        · split at hp
          · rename_i hd; exact .com2 q hq h2 hd (List.mem_singleton.1 hp)
          · cases hp
      · have h3 : (atOf q.2.mv c.at_).st = 3 := by
          rcases e.st with h4 | h4 | h4
          · exact absurd h4.1 h1
          · exact absurd h4 h2
          · exact h4
        unfold tickOfM at hp
        rw [if_neg h1, if_neg h2, List.mem_append] at hp
        rcases hp with hp | hp
        · split at hp
          · rename_i hd; exact .abo1 q hq h3 hd (List.mem_singleton.1 hp)
          · cases hp
        · split at hp
          · rename_i hd; exact .abo2 q hq h3 hd (List.mem_singleton.1 hp)
          · cases hp
  · exact .news rfl
  · exact .news rfl
/-- How many ought to go out for a move. -/
def wantO (y : Mo) : Nat := 1 + if y.s.st = 3 ∧ y.s.dn = 0 then 1 else 0
def wantF : List Mo → Nat
  | [] => 0
  | y :: l => wantO y + wantF l
theorem wantF_append : ∀ (l m : List Mo), wantF (l ++ m) = wantF l + wantF m
  | [], m => by simp [wantF]
  | y :: l, m => by
    show wantO y + wantF (l ++ m) = wantO y + wantF l + wantF m
    rw [wantF_append l m]
    omega
theorem wantF_snoc {l : List Mo} {j : Nat} {y : Mo} (h : l[j]? = some y) : wantF (l.take (j + 1)) = wantF (l.take j) + wantO y := by
  rw [List.take_add_one, h, wantF_append]
  rfl
theorem wantF_le : ∀ l : List Mo, wantF l ≤ 2 * l.length
  | [] => by simp [wantF]
  | y :: l => by
    have := wantF_le l
    unfold wantF wantO
    rw [List.length_cons]
    split <;> omega
def is14 (p : Int × Mg) : Bool := decide (p.2.k = 14)
theorem tickOfM_1' (c : Cd) (x : En) {t : St} (h : t.st = 1) : tickOfM c x t = [(x.fr, m4 x)] := by unfold tickOfM; rw [if_pos h]
theorem tickOfM_cnt {n s k : Nat} {c : Cd} (h : CdInv n s k c) {q : Int × En} (hq : q ∈ c.m) : (tickOfM c q.2 (atOf q.2.mv c.at_)).length = wantO ⟨q.2, atOf q.2.mv c.at_⟩ ∧ (tickOfM c q.2 (atOf q.2.mv c.at_)).countP is14 = 0 := by
  have e := h.mem q hq
  have hd := e.dn
  have hs := e.st
  generalize atOf q.2.mv c.at_ = t at *
  have hw : wantO ⟨q.2, t⟩ = 1 + if t.st = 3 ∧ t.dn = 0 then 1 else 0 := rfl
  rw [hw]
  obtain ⟨st, dn⟩ := t
  simp only at hd hs ⊢
  rcases hs with ⟨h1, h2⟩ | h1 | h1
  · subst h1
    rw [tickOfM_1' c q.2 rfl, if_neg (by omega)]
    exact ⟨rfl, rfl⟩
  · subst h1
    rcases dn_cases hd with d | d | d <;> subst d <;> exact ⟨rfl, rfl⟩
  · subst h1
    rcases dn_cases hd with d | d | d <;> subst d <;> exact ⟨rfl, rfl⟩
theorem row_cnt {n s k : Nat} {c : Cd} (h : CdInv n s k c) : ∀ (l : List (Int × En)), (∀ q ∈ l, q ∈ c.m) → ((l.map (·.2)).flatMap fun x => tickOfM c x (atOf x.mv c.at_)).length = wantF ((l.map (·.2)).map fun x => ⟨x, atOf x.mv c.at_⟩) ∧ ((l.map (·.2)).flatMap fun x => tickOfM c x (atOf x.mv c.at_)).countP is14 = 0
  | [], _ => ⟨rfl, rfl⟩
  | q :: l, hl => by
    obtain ⟨h1, h2⟩ := row_cnt h l fun r hr => hl r (List.mem_cons_of_mem _ hr)
    obtain ⟨h3, h4⟩ := tickOfM_cnt h (hl q (List.mem_cons_self ..))
    rw [List.map_cons, List.flatMap_cons, List.length_append, List.countP_append, h1, h2, h3, h4, List.map_cons]
    exact ⟨rfl, rfl⟩
theorem tick_cnt {n s k : Nat} {c : Cd} (h : CdInv n s k c) : (tickM c).countP is14 = n + 4 ∧ (tickM c).length = n + 4 + wantF (movesF c) := by
  obtain ⟨h1, h2⟩ := row_cnt h c.m fun q hq => hq
  have h3 : (newsM c).length = n + 4 := by
    unfold newsM
    rw [List.length_append, List.length_map, List.length_map, List.length_range, List.length_range, h.nd]
    rfl
  have h4 : (newsM c).countP is14 = (newsM c).length := by
    apply List.countP_eq_length.2
    intro p hp
    unfold newsM at hp
    simp only [List.mem_append, List.mem_map, List.mem_range] at hp
    rcases hp with ⟨_, _, rfl⟩ | ⟨_, _, rfl⟩ <;> rfl
  unfold tickM
  rw [List.countP_append, List.length_append, h1, h2, h4, h3]
  unfold movesF
  omega
theorem cnt14_snoc {l : List (Int × Mg)} {j : Nat} {p : Int × Mg} (h : l[j]? = some p) : (l.take (j + 1)).countP is14 = (l.take j).countP is14 + if is14 p then 1 else 0 := by
  rw [List.take_add_one, h, List.countP_append]
  simp [List.countP_cons]
end Go.Proofs.YtdnfibecobodkaaGreat
