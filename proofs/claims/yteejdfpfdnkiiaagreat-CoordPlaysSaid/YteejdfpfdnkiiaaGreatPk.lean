/- The document's numbers as bytes (toward CoordPlays) · The document's numbers and bounds (toward CoordPlays) · The sum bit by bit is the sum by a table (plain law, toward CoordPlays) · The document's sum (toward CoordPlays) · The document's frames (toward CoordPlays) -/
import Derived.Test.YteejdfpfdnkiiaaGreatCsB
import Derived.Test.YteejdfpfdnkiiaaGreatPf
import Derived.Test.YteejdfpfdnkiiaaGreatCsC
namespace Go.Proofs.YteejdfpfdnkiiaaGreat
section
open Go.RowKit Go.Lib
set_option linter.unusedSimpArgs false
set_option linter.unusedVariables false
theorem lit_row (w : World) (l : List UInt8) (hlen : l.length ≤ 1000) : BRow w.heap.size (w.alloc (.cells (l.map byV).toArray 5)) (.slice (some ⟨w.heap.size, 0, none⟩) l.length l.length) l := by
  have h := World.ownsRow_lit (base := w.heap.size) (size := 1) (e := 5) w (l.map byV).toArray l.length (Nat.le_refl _) (by unfold maxLen; omega) (by simp)
  simpa [BRow] using h
/-- A row of bytes that is written out, as a text. -/
theorem lit_string (w : World) (l : List UInt8) (hl : l ≠ []) (hlen : l.length ≤ 1000) : (convert 119 9 (.slice (some ⟨w.heap.size, 0, none⟩) l.length l.length)).run Tryz.prog (w.alloc (.cells (l.map byV).toArray 5)) = .ok (.string ⟨l.toArray⟩) (w.alloc (.cells (l.map byV).toArray 5)) := row_string (lit_row w l hlen) hl
/-- A row of one byte, in new memory. -/
def Spec.byt (n : Nat) (b : UInt8) : Spec := { p := fun _ v => ∃ g, v = .slice (some ⟨g, 0, none⟩) 1 1, A := fun _ v w => BRow n w v [b] }
theorem Spec.byt_ok (n : Nat) (b : UInt8) : (Spec.byt n b).ok :=
  ⟨fun x v w w' h hk => BRow.keep h hk (by simp), fun _ _ _ h => h, fun _ => trivial, fun _ => ⟨_, n, rfl⟩⟩
set_option maxRecDepth 100000 in
set_option maxHeartbeats 4000000 in
theorem rnum64_any : ∀ (n : Nat) (w : World), n ≤ 2147483647 → Calls Tryz.prog 64 #[.int .u64 n] w fun e w' => e = .returned (.string ⟨(varB n).toArray⟩) ∧ Keep [] w w' := by
  intro n
  induction n using Nat.strongRecOn with
  | ind n ih =>
    intro w hn
    by_cases h : n < 128
    · have hlt : (n : Int) < 128 := by omega
      have hv : varB n = [UInt8.ofNat n] := by rw [varB, if_pos h]
      have hb : byV (UInt8.ofNat n) = .int .u8 n := by unfold byV; rw [UInt8.toNat_ofNat', Nat.mod_eq_of_lt (by omega)]
      have hls := lit_string w [UInt8.ofNat n] (by simp) (by simp)
      simp only [List.map_cons, List.map_nil, hb, List.length_cons, List.length_nil] at hls
      rw [hv]
      obtain ⟨sb, hsb⟩ : ∃ sb : ByteArray, ⟨[UInt8.ofNat n].toArray⟩ = sb := ⟨_, rfl⟩
      rw [hsb] at hls ⊢
      have HK := Lib.hid (show Keep [] w (w.alloc (.cells #[.int .u8 n] 5)) from (Keep.refl _ _).alloc _)
      clear hsb hv hb ih
      go_enter Tryz.func64, Tryz.ntmps64
      go_wp2_with (fail)
      go_ret
      exact ⟨rfl, HK.out⟩
    · have hlt : ¬ (n : Int) < 128 := by omega
      have hv : varB n = UInt8.ofNat (n % 128 + 128) :: varB (n / 128) := by rw [varB, if_neg h]
      have hb : byV (UInt8.ofNat (n % 128 + 128)) = .int .u8 ((n % 128 + 128 : Nat) : Int) := by unfold byV; rw [UInt8.toNat_ofNat', Nat.mod_eq_of_lt (by omega)]
      have HIH := Lib.hid (fun W => ih (n / 128) (by omega) W (by omega))
      obtain ⟨m, hm⟩ : ∃ m, n % 128 = m := ⟨_, rfl⟩
      obtain ⟨q, hq⟩ : ∃ q, n / 128 = q := ⟨_, rfl⟩
      have hmi : (n : Int).tmod 128 = (m : Int) := by rw [Int.tmod_eq_emod_of_nonneg (by omega)]; omega
      have hqi : (n : Int).tdiv 128 = (q : Int) := by rw [Int.tdiv_eq_ediv_of_nonneg (by omega)]; omega
      have hml : m < 128 := by omega
      have hw3 : IntKind.u64.wrap (q : Int) = (q : Int) := u64_wrap_id _ (by omega) (by omega)
      rw [hq] at HIH hv
      rw [hm] at hb hv
      rw [hv]
      obtain ⟨b, hbb⟩ : ∃ b, UInt8.ofNat (m + 128) = b := ⟨_, rfl⟩
      rw [hbb] at hb ⊢
      obtain ⟨t, ht⟩ : ∃ t, m + 128 = t := ⟨_, rfl⟩
      rw [ht] at hb
      have HB := Lib.hid hb
      have hw1 : IntKind.u8.wrap (m : Int) = (m : Int) := by simp [IntKind.wrap, IntKind.signed, IntKind.bits]; omega
      have hw2 : IntKind.u8.wrap ((m : Int) + 128) = (t : Int) := by rw [← ht]; simp [IntKind.wrap, IntKind.signed, IntKind.bits]; omega
      obtain ⟨sq, hsq⟩ : ∃ sq : ByteArray, ⟨(varB q).toArray⟩ = sq := ⟨_, rfl⟩
      have HSQ := Lib.hid hsq
      obtain ⟨sr, hsr⟩ : ∃ sr : ByteArray, ⟨(b :: varB q).toArray⟩ = sr := ⟨_, rfl⟩
      have HSZ : Hid (¬ (({ data := #[b] } : ByteArray).size + sq.size > 9223372036854775807)) := Lib.hid (by
        have := varB_len q (by omega)
        rw [← hsq]
        simp [ByteArray.size]
        omega)
      have HSR : Hid (({ data := #[b] } : ByteArray) ++ sq = sr) := Lib.hid (by rw [← hsq, ← hsr]; exact ByteArray.mk_append_mk [b] (varB q))
      rw [hsr]
      rw [hsq] at HIH
      have HNL := Lib.hid (Nat.le_refl w.heap.size)
      clear hv hb hbb hsq ih hm hq ht
      go_enter Tryz.func64, Tryz.ntmps64
      go_wp2_with (fail)
      refine wp_region_soup 9 [] (spOf [(4, Spec.byt w.heap.size b), (5, Spec.is (.string ⟨#[b]⟩)), (8, Spec.is (.string sq))]) (by kernel_rfl) (by kernel_rfl) (spOk_of (by simp [Spec.byt_ok, Spec.is_ok])) (pre_of (by simp [Spec.byt_ok, Spec.is_ok])) ?_
      simp only [List.take_succ_cons, List.take_zero, List.drop_succ_cons, List.drop_zero]
      iterate 4
        with_reducible refine soup_q ?_ ?_ ?_
        · rfl
        · rfl
        with_reducible apply Exists.intro
        with_reducible refine ⟨fun W hk _ => ?_, ?_⟩
        · unfold Oper.same
          go_simp
          first | rfl | exact ⟨rfl, rfl⟩
        with_reducible apply Exists.intro
        with_reducible refine ⟨?_, ?_⟩
        · go_simp
          rfl
      refine soup_s rfl rfl rfl (fun W hk _ _ => ?_) ?_
      · have hr := lit_row W [b] (by simp)
        simp only [List.map_cons, List.map_nil, HB.out, List.length_cons, List.length_nil] at hr
        unfold Oper.does
        go_simp
        exact ⟨(Keep.refl _ _).alloc _, hk.alloc _, ⟨_, rfl⟩, own_low hr hk.size⟩
      rintro v ⟨g, rfl⟩
      with_reducible apply Exists.intro
      with_reducible refine ⟨?_, ?_⟩
      · go_simp
        rfl
      refine soup_s rfl rfl rfl (fun W hk _ hd => ?_) ?_
      · have hr : BRow w.heap.size W _ [b] := hd 4 (Dep.of 1 (by kernel_rfl))
        have hs : (convert 119 9 (.slice (some ⟨g, 0, none⟩) 1 1)).run Tryz.prog W = .ok (.string ⟨#[b]⟩) W := row_string hr (by simp)
        unfold Oper.does
        go_simp
        first | exact ⟨Keep.refl _ _, hk, rfl, trivial⟩ | exact ⟨Keep.refl _ _, rfl, trivial⟩ | exact ⟨hk, rfl, trivial⟩
      intro v hv
      obtain rfl : v = _ := hv
      with_reducible apply Exists.intro
      with_reducible refine ⟨?_, ?_⟩
      · go_simp
        rfl
      iterate 2
        with_reducible refine soup_q ?_ ?_ ?_
        · rfl
        · rfl
        with_reducible apply Exists.intro
        with_reducible refine ⟨fun W hk _ => ?_, ?_⟩
        · unfold Oper.same
          go_simp
          first | rfl | exact ⟨rfl, rfl⟩
        with_reducible apply Exists.intro
        with_reducible refine ⟨?_, ?_⟩
        · go_simp
          rfl
      refine soup_s rfl rfl rfl (fun W hk _ _ => ?_) ?_
      · unfold Oper.does
        go_simp
        refine (HIH.out W).mono ?_
        rintro e w' ⟨rfl, hk'⟩
        exact ⟨_, rfl, hk', hk.trans hk', rfl, trivial⟩
      intro v hv
      obtain rfl : v = _ := hv
      with_reducible apply Exists.intro
      with_reducible refine ⟨?_, ?_⟩
      · go_simp
        rfl
      refine soup_nil (fun W2 hk hS => ?_)
      have HK := Lib.hid hk
      clear hk hS
      have hz1 : ¬ (({ data := #[b] } : ByteArray).size + sq.size > 9223372036854775807) := HSZ.out
      have hsm : ({ data := #[b] } : ByteArray) ++ sq = sr := HSR.out
      obtain ⟨sb, hsb⟩ : ∃ sb : ByteArray, { data := #[b] } = sb := ⟨_, rfl⟩
      rw [hsb] at hz1 hsm ⊢
      clear hsb
      go_wp2_with (fail)
      go_ret
      exact ⟨rfl, HK.out⟩
end
section
open Go.RowKit Go.Lib
set_option linter.unusedSimpArgs false
set_option linter.unusedVariables false
theorem rin_true {n to : Int} (h0 : 0 ≤ n) (h1 : n ≤ to) (w : World) : Calls Tryz.prog 88 #[.int .i64 n, .int .i64 to] w fun e w' => e = .returned (.bool true) ∧ w' = w := by
  have d0 : decide (0 ≤ n) = true := by simpa using h0
  have d1 : decide (n ≤ to) = true := by simpa using h1
  go_enter Tryz.func88, Tryz.ntmps88
  go_wp2_with (fail)
  go_ret
  exact ⟨rfl, rfl⟩
theorem mnum_any (n : Nat) (w : World) (hn : n ≤ 2147483647) : Calls Tryz.prog 60 #[.int .i64 n] w fun e w' => e = .returned (.string ⟨(varB n).toArray⟩) ∧ Keep [] w w' := by
  have hw : IntKind.u64.wrap (n : Int) = (n : Int) := u64_wrap_id _ (by omega) (by omega)
  have HR := Lib.hid (fun W => rnum64_any n W hn)
  go_enter Tryz.func60, Tryz.ntmps60
  go_wp2_with (fail)
  refine (HR.out _).mono ?_
  rintro e w1 ⟨rfl, hk⟩
  have HK := Lib.hid hk
  clear hk
  go_wp2_with (fail)
  go_ret
  exact ⟨rfl, HK.out⟩
set_option maxRecDepth 100000 in
set_option maxHeartbeats 4000000 in
theorem ritems_zero (w : World) : Calls Tryz.prog 89 #[.agg #[.int .i64 0, .int .i64 0, .int .i64 0, .int .u8 0, .string ⟨#[]⟩, .int .i64 0, .int .i64 0, .int .i64 0]] w fun e w' => e = .returned (.bool true) ∧ Keep [] w w' := by
  obtain ⟨w1, hw1⟩ : ∃ u, w.alloc (.cells #[.int .i64 0, .int .i64 0, .int .i64 0, .int .u8 0, .string ⟨#[]⟩, .int .i64 0, .int .i64 0, .int .i64 0] 45) = u := ⟨_, rfl⟩
  have hb : w1.heap[w.heap.size]? = some (.cells #[.int .i64 0, .int .i64 0, .int .i64 0, .int .u8 0, .string ⟨#[]⟩, .int .i64 0, .int .i64 0, .int .i64 0] 45 (0, 0)) := by rw [← hw1]; exact World.alloc_heap_new w _
  have HK := Lib.hid (show Keep [] w w1 from by rw [← hw1]; exact (Keep.refl _ _).alloc _)
  have c0 : w1.cell? ⟨w.heap.size, 0, none⟩ = some (.int .i64 0) := by unfold World.cell?; rw [hb]; rfl
  have c1 : w1.cell? ⟨w.heap.size, 1, none⟩ = some (.int .i64 0) := by unfold World.cell?; rw [hb]; rfl
  have c2 : w1.cell? ⟨w.heap.size, 2, none⟩ = some (.int .i64 0) := by unfold World.cell?; rw [hb]; rfl
  have c4 : w1.cell? ⟨w.heap.size, 4, none⟩ = some (.string ⟨#[]⟩) := by unfold World.cell?; rw [hb]; rfl
  have c5 : w1.cell? ⟨w.heap.size, 5, none⟩ = some (.int .i64 0) := by unfold World.cell?; rw [hb]; rfl
  clear hb
  go_enter Tryz.func89, Tryz.ntmps89
  iterate 4
    go_wp2_with (fail)
    refine (rin_true (by omega) (by omega) _).mono ?_
    rintro e w2 ⟨rfl, rfl⟩
  go_wp2_with (fail)
  go_ret
  exact ⟨rfl, HK.out⟩
set_option maxRecDepth 100000 in
set_option maxHeartbeats 4000000 in
theorem rlists_true {w : World} {a : Option Addr} {own : List Int} (c : Nat) (hI : IntsAt w a own) (hx : ∀ x ∈ own, 0 ≤ x ∧ x ≤ 2147483647) (to : Int) (hl : (own.length : Int) ≤ to) (hl2 : own.length ≤ 100000) : Calls Tryz.prog 90 #[.slice a own.length c, .int .i64 to] w fun e w' => e = .returned (.bool true) ∧ w' = w := by
  obtain ⟨n, hn⟩ : ∃ n, own.length = n := ⟨_, rfl⟩
  have HN := Lib.hid hn
  have HX := Lib.hid hx
  have HI := Lib.hid hI
  rw [hn] at hl hl2 ⊢
  have hd : decide ((n : Int) ≤ to) = true := by simpa using hl
  clear hn hx hI
  go_enter Tryz.func90, Tryz.ntmps90
  go_wp2_with (fail)
  go_loopw [5] (fun i wr => ∃ j : Nat, i = .int .i64 j ∧ j ≤ n ∧ wr = w) (fun i _ => n - (intOf i).toNat)
  case atStart => exact ⟨0, rfl, Nat.zero_le _, rfl⟩
  case round =>
    obtain ⟨j, rfl, hj, hwr⟩ := hrel
    subst hwr
    have h0j : (0 : Int) ≤ (j : Int) := Int.natCast_nonneg j
    by_cases hlt : j < n
    · have hjn : (j : Int) < (n : Int) := by omega
      have hlj : j < own.length := by rw [HN.out]; exact hlt
      obtain ⟨b, off, rfl, hb, hcell⟩ := HI.out (by intro e; rw [e] at hlj; simp at hlj)
      obtain ⟨x, hx⟩ : ∃ x, own[j]?.getD 0 = x := ⟨_, rfl⟩
      have hxm : x ∈ own := by rw [← hx, List.getElem?_eq_getElem hlj]; exact List.getElem_mem hlj
      have xb := HX.out x hxm
      have c0 := hcell j hlj
      rw [hx] at c0
      clear hcell hx hxm
      go_wp2_with (fail)
      refine (rin_true xb.1 xb.2 _).mono ?_
      rintro e w2 ⟨rfl, rfl⟩
      go_wp2_with (fail)
      go_roundw
      case rel => exact ⟨j + 1, by go_num, by omega, by first | rfl | trivial⟩
      case measure => go_light; simp [intOf]; omega
    · have hjn : ¬ (j : Int) < (n : Int) := by omega
      go_wp2_with (fail)
      go_ret
      exact ⟨rfl, rfl⟩
theorem numsB_take {own : List Int} {j : Nat} {x : Int} (hx : own[j]? = some x) : numsB (own.take (j + 1)) = numsB (own.take j) ++ varB x.toNat := by
  unfold numsB
  rw [List.take_add_one, hx, List.flatMap_append]
  simp
set_option maxRecDepth 100000 in
set_option maxHeartbeats 4000000 in
theorem rlist_any {w : World} {a : Option Addr} {own : List Int} (c : Nat) (hI : IntsAt w a own) (hx : ∀ x ∈ own, 0 ≤ x ∧ x ≤ 2147483647) (hl2 : own.length ≤ 64) : Calls Tryz.prog 61 #[.slice a own.length c] w fun e w' => e = .returned (.string ⟨(varB own.length ++ numsB own).toArray⟩) ∧ Keep [] w w' := by
  obtain ⟨n, hn⟩ : ∃ n, own.length = n := ⟨_, rfl⟩
  have HN := Lib.hid hn
  have HX := Lib.hid hx
  have HI := Lib.hid hI
  have HL := Lib.hid (numsB_len own hx)
  rw [hn] at hl2 HL ⊢
  clear hn hx hI
  have HR := Lib.hid (fun W => mnum_any n W (by omega))
  go_enter Tryz.func61, Tryz.ntmps61
  go_wp2_with (fail)
  refine (HR.out _).mono ?_
  rintro e w1 ⟨rfl, hk⟩
  have HK := Lib.hid hk
  clear hk
  go_wp2_with (fail)
  go_loopw [4, 3] (fun i s wr => ∃ j : Nat, i = .int .i64 j ∧ j ≤ n ∧ s = .string ⟨(varB n ++ numsB (own.take j)).toArray⟩ ∧ Keep [] w wr) (fun i _ _ => n - (intOf i).toNat)
  case atStart => exact ⟨0, rfl, Nat.zero_le _, by simp [numsB], HK.out⟩
  case round =>
    obtain ⟨j, rfl, hj, rfl, hk⟩ := hrel
    have HKR := Lib.hid hk
    clear hk
    have h0j : (0 : Int) ≤ (j : Int) := Int.natCast_nonneg j
    by_cases hlt : j < n
    · have hjn : (j : Int) < (n : Int) := by omega
      have hlj : j < own.length := by rw [HN.out]; exact hlt
      obtain ⟨b, off, rfl, hb, hcell⟩ := (HI.out.keep HKR.out (by simp)) (by intro e; rw [e] at hlj; simp at hlj)
      obtain ⟨x, hx⟩ : ∃ x, own[j]? = some x := ⟨own[j], List.getElem?_eq_getElem hlj⟩
      have hxm : x ∈ own := List.mem_of_getElem? hx
      have xb := HX.out x hxm
      have c0 := hcell j hlj
      rw [hx] at c0
      simp only [Option.getD_some] at c0
      obtain ⟨xn, rfl⟩ := Int.eq_ofNat_of_zero_le xb.1
      have ht := numsB_take hx
      simp only [Int.toNat_natCast] at ht
      have hz0 : (numsB (own.take j)).length ≤ 640 := by
        have := numsB_len (own.take j) (fun y hy => HX.out y (List.mem_of_mem_take hy))
        have := List.length_take_le j own
        have := HN.out
        omega
      have hz1 := varB_len n (by omega)
      have hz2 := varB_len xn (by omega)
      obtain ⟨s1, h1⟩ : ∃ s : ByteArray, ⟨(varB n ++ numsB (own.take j)).toArray⟩ = s := ⟨_, rfl⟩
      obtain ⟨s2, h2⟩ : ∃ s : ByteArray, ⟨(varB xn).toArray⟩ = s := ⟨_, rfl⟩
      obtain ⟨s3, h3⟩ : ∃ s : ByteArray, ⟨(varB n ++ numsB (own.take (j + 1))).toArray⟩ = s := ⟨_, rfl⟩
      have hz : ¬ (s1.size + s2.size > 9223372036854775807) := by
        rw [← h1, ← h2]
        simp [ByteArray.size]
        omega
      have hs : s1 ++ s2 = s3 := by
        rw [← h1, ← h2, ← h3, ht, ByteArray.mk_append_mk, List.append_assoc]
      have HR2 := Lib.hid (fun W => mnum_any xn W (by omega))
      rw [h2] at HR2
      rw [h1]
      have H3 := Lib.hid h3
      clear hcell hx hxm ht hz0 hz1 hz2 h1 h2 h3
      go_wp2_with (fail)
      refine (HR2.out _).mono ?_
      rintro e w2 ⟨rfl, hk⟩
      have HK2 := Lib.hid (HKR.out.trans hk)
      clear hk
      go_wp2_with (fail)
      go_roundw
      case rel => exact ⟨j + 1, by go_num, by omega, by rw [H3.out], HK2.out⟩
      case measure => go_light; simp [intOf]; omega
    · obtain rfl : j = n := by omega
      have hjn : ¬ (j : Int) < (j : Int) := by omega
      have HT := Lib.hid (show own.take j = own from by rw [← HN.out, List.take_length])
      go_wp2_with (fail)
      go_ret
      exact ⟨by first | rfl | (rw [HT.out]; rfl) | rw [HT.out], HKR.out⟩
end
section
open Go.RowKit Go.Lib
set_option linter.unusedSimpArgs false
set_option linter.unusedVariables false
theorem xor_half (a b : Nat) : (a ^^^ b) / 2 = a / 2 ^^^ b / 2 := by
  apply Nat.eq_of_testBit_eq
  intro i
  rw [Nat.testBit_xor, Nat.testBit_div_two, Nat.testBit_div_two, Nat.testBit_div_two, Nat.testBit_xor]
theorem xor_par (a b : Nat) : (a ^^^ b) % 2 = (a % 2 + b % 2) % 2 := by
  have h := Nat.testBit_xor a b 0
  simp only [Nat.testBit_zero] at h
  rcases Nat.mod_two_eq_zero_or_one a with h1 | h1 <;> rcases Nat.mod_two_eq_zero_or_one b with h2 | h2 <;> rcases Nat.mod_two_eq_zero_or_one (a ^^^ b) with h3 | h3 <;> rw [h1, h2, h3] at h ⊢ <;> simp at h ⊢
theorem xor_self_mid (x y p : Nat) : (x ^^^ p) ^^^ (y ^^^ p) = x ^^^ y := by
  apply Nat.eq_of_testBit_eq
  intro i
  simp only [Nat.testBit_xor]
  cases x.testBit i <;> cases y.testBit i <;> cases p.testBit i <;> rfl
theorem crStep_xor (a b : Nat) : crStep (a ^^^ b) = crStep a ^^^ crStep b := by
  unfold crStep
  rw [xor_par, xor_half]
  generalize 2197175160 = p
  rcases Nat.mod_two_eq_zero_or_one a with h1 | h1 <;> rcases Nat.mod_two_eq_zero_or_one b with h2 | h2 <;> rw [h1, h2]
  · rfl
  · show (a / 2 ^^^ b / 2) ^^^ p = a / 2 ^^^ (b / 2 ^^^ p)
    rw [Nat.xor_assoc]
  · show (a / 2 ^^^ b / 2) ^^^ p = (a / 2 ^^^ p) ^^^ b / 2
    rw [Nat.xor_assoc, Nat.xor_comm (b / 2) p, ← Nat.xor_assoc]
  · show a / 2 ^^^ b / 2 = (a / 2 ^^^ p) ^^^ (b / 2 ^^^ p)
    rw [xor_self_mid]
theorem crIter_xor (k a b : Nat) : crIter k (a ^^^ b) = crIter k a ^^^ crIter k b := by
  induction k with
  | zero => rfl
  | succ k ih => unfold crIter; rw [ih, crStep_xor]
theorem crStep_even (m : Nat) : crStep (2 * m) = m := by
  unfold crStep
  rw [if_neg (by omega)]
  omega
theorem crIter_shift (h : Nat) : crIter 4 (16 * h) = h := by
  show crStep (crStep (crStep (crStep (16 * h)))) = h
  rw [show 16 * h = 2 * (2 * (2 * (2 * h))) by omega, crStep_even, crStep_even, crStep_even, crStep_even]
theorem split16 (c : Nat) : c = 16 * (c / 16) ^^^ c % 16 := by
  apply Nat.eq_of_testBit_eq
  intro i
  rw [Nat.testBit_xor, show (16 : Nat) = 2 ^ 4 from rfl, Nat.testBit_two_pow_mul, Nat.testBit_div_two_pow, Nat.testBit_mod_two_pow]
  by_cases h : i < 4
  · simp [h, Nat.not_le.2 h]
  · simp [h, Nat.not_lt.1 h]
theorem crIter_crN (c : Nat) : crIter 4 c = crN c := by
  unfold crN
  conv => lhs; rw [split16 c]
  rw [crIter_xor, crIter_shift]
theorem crIter_add (k m c : Nat) : crIter (k + m) c = crIter k (crIter m c) := by
  induction k with
  | zero => rw [Nat.zero_add]; rfl
  | succ k ih => rw [show k + 1 + m = k + m + 1 by omega]; unfold crIter; rw [ih]
/-- Eight bits are two steps of the table. -/
theorem crIter_crB (c : Nat) (b : UInt8) : crIter 8 (c ^^^ b.toNat) = crB c b := by
  unfold crB
  rw [show 8 = 4 + 4 from rfl, crIter_add, crIter_crN, crIter_crN]
end
section
open Go.RowKit Go.Lib
set_option linter.unusedSimpArgs false
set_option linter.unusedVariables false
set_option maxRecDepth 100000 in
set_option maxHeartbeats 4000000 in
theorem rmore_any (w : World) (s : ByteArray) (hz : s.size ≤ 100000) : Calls Tryz.prog 91 #[.int .u32 0, .string s] w fun e w' => e = .returned (.int .u32 (crcF s.data.toList : Nat)) ∧ w' = w := by
  go_enter Tryz.func91, Tryz.ntmps91
  go_wp2_with (fail)
  go_loopw [5, 6] (fun c i wr => ∃ (j n : Nat), i = .int .i64 j ∧ j ≤ s.size ∧ c = .int .u32 n ∧ n = (s.data.toList.take j).foldl crB 4294967295 ∧ n < 4294967296 ∧ wr = w) (fun _ i _ => s.size - (intOf i).toNat)
  case atStart => exact ⟨0, 4294967295, rfl, by omega, by first | rfl | (congr 1), rfl, by omega, rfl⟩
  case round =>
    obtain ⟨j, n, rfl, hj, rfl, hn, hnl, hwr⟩ := hrel
    rw [hwr]
    clear hwr
    have h0j : (0 : Int) ≤ (j : Int) := Int.natCast_nonneg j
    have HN := Lib.hid hn
    clear hn
    by_cases hlt : j < s.size
    · have hjn : (j : Int) < (s.size : Int) := by omega
      have hjl : j < s.data.toList.length := by rw [str_size]; exact hlt
      obtain ⟨b, hb⟩ : ∃ b, s.data.toList[j]? = some b := ⟨_, List.getElem?_eq_getElem hjl⟩
      have hix : ∀ W, (Instr.index 9 (.string s) (.int .i64 j)).run Tryz.prog W = .ok (.int .u8 b.toNat) W := fun W => strAt s j b hb _ Tryz.underlying9 W
      have hnx : (s.data.toList.take (j + 1)).foldl crB 4294967295 = crIter 8 (n ^^^ b.toNat) := by rw [List.take_add_one, hb, HN.out, List.foldl_append, crIter_crB]; rfl
      have hbl := b.toNat_lt
      obtain ⟨bn, hbn⟩ : ∃ q : Nat, b.toNat = q := ⟨_, rfl⟩
      rw [hbn] at hix hnx hbl
      have hw : IntKind.u32.wrap (bn : Int) = bn := u32_wrap_id _ (by omega) (by omega)
      obtain ⟨c1, hc1⟩ : ∃ q : Nat, n ^^^ bn = q := ⟨_, rfl⟩
      have hl1 : c1 < 4294967296 := by rw [← hc1]; exact Nat.xor_lt_two_pow (n := 32) hnl (by omega)
      have hx1 : bits BinOp.xor .u32 (n : Int) (bn : Int) = (c1 : Int) := by rw [u32_xor_nat _ _ hnl (by omega), hc1]
      rw [hc1] at hnx
      have HNY := Lib.hid hnx
      clear hb hjl hnx hbn hc1
      go_wp2_with (fail)
      go_loopw [5, 7] (fun c i wr => ∃ k : Nat, i = .int .i64 k ∧ k ≤ 8 ∧ c = .int .u32 (crIter k c1 : Nat) ∧ crIter k c1 < 4294967296 ∧ wr = w) (fun _ i _ => 8 - (intOf i).toNat)
      case atStart => exact ⟨0, rfl, by omega, rfl, hl1, rfl⟩
      case round =>
        obtain ⟨k, rfl, hk, rfl, hkl, hwr⟩ := hrel
        rw [hwr]
        clear hwr
        have h0k : (0 : Int) ≤ (k : Int) := Int.natCast_nonneg k
        by_cases hlk : k < 8
        · have hkn : (k : Int) < 8 := by omega
          have hs : crIter (k + 1) c1 = crStep (crIter k c1) := rfl
          obtain ⟨d, hd⟩ : ∃ d, crIter k c1 = d := ⟨_, rfl⟩
          rw [hd] at hs hkl ⊢
          have hl := crStep_lt hkl
          have HS := Lib.hid hs
          have HL := Lib.hid hl
          clear hs hd hl
          by_cases hb : d % 2 = 1
          · have g1 : (d : Int) % 2 = 1 := by omega
            have g2 := cr_odd hkl hb
            clear hb
            go_wp2_with (fail)
            go_roundw
            case rel => exact ⟨k + 1, by go_num, by omega, by rw [HS.out], by rw [HS.out]; exact HL.out, trivial⟩
            case measure => go_light; simp [intOf]; omega
          · have g1 : (d : Int) % 2 = 0 := by omega
            have g2 := cr_even hkl hb
            clear hb
            go_wp2_with (fail)
            go_roundw
            case rel => exact ⟨k + 1, by go_num, by omega, by rw [HS.out], by rw [HS.out]; exact HL.out, trivial⟩
            case measure => go_light; simp [intOf]; omega
        · obtain rfl : k = 8 := by omega
          have hkn : ¬ (8 : Int) < 8 := by omega
          have HKL := Lib.hid hkl
          clear hkl
          rw [← HNY.out]
          go_wp2_with (fail)
          go_roundw
          case rel => exact ⟨j + 1, _, by go_num, by omega, rfl, rfl, by rw [HNY.out]; exact HKL.out, trivial⟩
          case measure => go_light; simp [intOf]; omega
    · obtain rfl : j = s.size := by omega
      have hjn : ¬ (s.size : Int) < (s.size : Int) := by omega
      go_wp2_with (fail)
      go_ret
      refine ⟨?_, rfl⟩
      have e1 : bits BinOp.xor .u32 (n : Int) 4294967295 = ((crcF s.data.toList : Nat) : Int) := by
        have h1 := HN.out
        rw [← str_size, List.take_length] at h1
        rw [show (4294967295 : Int) = ((4294967295 : Nat) : Int) from rfl, u32_xor_nat _ _ hnl (by omega), Nat.xor_comm]
        unfold crcF
        rw [← h1]
      rw [e1]
      rfl
theorem rcrc_any (w : World) (s : ByteArray) (hz : s.size ≤ 100000) : Calls Tryz.prog 67 #[.string s] w fun e w' => e = .returned (.int .u32 (crcF s.data.toList : Nat)) ∧ w' = w := by
  go_enter Tryz.func67, Tryz.ntmps67
  go_wp2_with (fail)
  refine (rmore_any w s hz).mono ?_
  rintro e w1 ⟨rfl, rfl⟩
  go_wp2_with (fail)
  go_ret
  exact ⟨rfl, rfl⟩
end
section
open Go.RowKit Go.Lib
set_option linter.unusedSimpArgs false
set_option linter.unusedVariables false
theorem by_of {m : Nat} (h : m < 256) : byV (UInt8.ofNat m) = .int .u8 m := by unfold byV; rw [UInt8.toNat_ofNat', Nat.mod_eq_of_lt h]
theorem u8_id {m : Nat} (h : m < 256) : IntKind.u8.wrap (m : Int) = (m : Int) := by simp [IntKind.wrap, IntKind.signed, IntKind.bits]; omega
theorem u32_id {m : Nat} (h : m < 4294967296) : IntKind.u32.wrap (m : Int) = (m : Int) := by simp [IntKind.wrap, IntKind.signed, IntKind.bits]; omega
theorem tmod_nat {n k m : Nat} (h : n % k = m) : (n : Int).tmod (k : Int) = (m : Int) := by rw [Int.tmod_eq_emod_of_nonneg (by omega)]; rw [← h]; rfl
theorem tdiv_nat {n k m : Nat} (h : n / k = m) : (n : Int).tdiv (k : Int) = (m : Int) := by rw [Int.tdiv_eq_ediv_of_nonneg (by omega)]; rw [← h]; rfl
set_option maxRecDepth 100000 in
set_option maxHeartbeats 4000000 in
theorem rfour_any (w : World) (n : Nat) (hn : n < 4294967296) : Calls Tryz.prog 66 #[.int .u32 n] w fun e w' => e = .returned (.string ⟨(leB 4 n).toArray⟩) ∧ Keep [] w w' := by
  obtain ⟨m0, e0⟩ : ∃ m, n % 256 = m := ⟨_, rfl⟩
  obtain ⟨q1, f1⟩ : ∃ m, n / 256 = m := ⟨_, rfl⟩
  obtain ⟨m1, e1⟩ : ∃ m, q1 % 256 = m := ⟨_, rfl⟩
  obtain ⟨q2, f2⟩ : ∃ m, n / 65536 = m := ⟨_, rfl⟩
  obtain ⟨m2, e2⟩ : ∃ m, q2 % 256 = m := ⟨_, rfl⟩
  obtain ⟨m3, e3⟩ : ∃ m, n / 16777216 = m := ⟨_, rfl⟩
  have hv : leB 4 n = [UInt8.ofNat m0, UInt8.ofNat m1, UInt8.ofNat m2, UInt8.ofNat m3] := by
    have h3 : n / 16777216 % 256 = n / 16777216 := Nat.mod_eq_of_lt (by omega)
    subst e0 e1 e2 e3 f1 f2
    simp [leB, List.range_succ, h3]
  have t0 : (n : Int).tmod 256 = (m0 : Int) := tmod_nat e0
  have t1 : (n : Int).tdiv 256 = (q1 : Int) := tdiv_nat f1
  have t2 : (q1 : Int).tmod 256 = (m1 : Int) := tmod_nat e1
  have t3 : (n : Int).tdiv 65536 = (q2 : Int) := tdiv_nat f2
  have t4 : (q2 : Int).tmod 256 = (m2 : Int) := tmod_nat e2
  have t5 : (n : Int).tdiv 16777216 = (m3 : Int) := tdiv_nat e3
  have l0 : m0 < 256 := by omega
  have l1 : m1 < 256 := by omega
  have l2 : m2 < 256 := by omega
  have l3 : m3 < 256 := by omega
  have u0 := u32_id (m := m0) (by omega)
  have u1 := u32_id (m := m1) (by omega)
  have u2 := u32_id (m := m2) (by omega)
  have u3 := u32_id (m := m3) (by omega)
  have u4 := u32_id (m := q1) (by omega)
  have u5 := u32_id (m := q2) (by omega)
  have v0 := u8_id l0
  have v1 := u8_id l1
  have v2 := u8_id l2
  have v3 := u8_id l3
  have hls := lit_string w [UInt8.ofNat m0, UInt8.ofNat m1, UInt8.ofNat m2, UInt8.ofNat m3] (by simp) (by simp)
  simp only [List.map_cons, List.map_nil, by_of l0, by_of l1, by_of l2, by_of l3, List.length_cons, List.length_nil] at hls
  rw [hv]
  obtain ⟨sb, hsb⟩ : ∃ sb : ByteArray, ⟨[UInt8.ofNat m0, UInt8.ofNat m1, UInt8.ofNat m2, UInt8.ofNat m3].toArray⟩ = sb := ⟨_, rfl⟩
  rw [hsb] at hls ⊢
  have HK := Lib.hid (show Keep [] w (w.alloc (.cells #[.int .u8 m0, .int .u8 m1, .int .u8 m2, .int .u8 m3] 5)) from (Keep.refl _ _).alloc _)
  clear hsb hv e0 e1 e2 e3 f1 f2 l0 l1 l2 l3
  go_enter Tryz.func66, Tryz.ntmps66
  go_wp2_with (fail)
  go_ret
  exact ⟨rfl, HK.out⟩
theorem bs_size (l : List UInt8) : (⟨l.toArray⟩ : ByteArray).size = l.length := by simp [ByteArray.size]
set_option maxRecDepth 100000 in
set_option maxHeartbeats 4000000 in
theorem rput_any (w : World) (b : List UInt8) (hb : b.length ≤ 2000) : Calls Tryz.prog 52 #[.string ⟨b.toArray⟩] w fun e w' => e = .returned (.tuple #[.string ⟨(frameB b).toArray⟩, .int .i64 0]) ∧ Keep [] w w' := by
  obtain ⟨n, hn⟩ : ∃ n, b.length = n := ⟨_, rfl⟩
  have hcl : ∀ l : List UInt8, crcF l < 4294967296 := crcF_lt
  obtain ⟨c1, hc1⟩ : ∃ c, crcF (leB 4 n) = c := ⟨_, rfl⟩
  obtain ⟨c2, hc2⟩ : ∃ c, crcF b = c := ⟨_, rfl⟩
  have lc1 : c1 < 4294967296 := by rw [← hc1]; exact hcl _
  have lc2 : c2 < 4294967296 := by rw [← hc2]; exact hcl _
  have hF : frameB b = ((leB 4 n ++ leB 4 c1) ++ b) ++ leB 4 c2 := by unfold frameB; rw [hn, hc1, hc2]
  rw [hF]
  have HF1 := Lib.hid (fun W => rfour_any W n (by omega))
  have HC1 := Lib.hid (fun W => rcrc_any W ⟨(leB 4 n).toArray⟩ (by rw [bs_size, leB_len]; omega))
  have HF2 := Lib.hid (fun W => rfour_any W c1 lc1)
  have HC2 := Lib.hid (fun W => rcrc_any W ⟨b.toArray⟩ (by rw [bs_size]; omega))
  have HF3 := Lib.hid (fun W => rfour_any W c2 lc2)
  simp only [List.toList_toArray, hc1, hc2] at HC1 HC2
  have z1 : (⟨(leB 4 n).toArray⟩ : ByteArray).size = 4 := by rw [bs_size, leB_len]
  have z2 : (⟨(leB 4 c1).toArray⟩ : ByteArray).size = 4 := by rw [bs_size, leB_len]
  have z3 : (⟨(leB 4 c2).toArray⟩ : ByteArray).size = 4 := by rw [bs_size, leB_len]
  have z4 : (⟨b.toArray⟩ : ByteArray).size = n := by rw [bs_size, hn]
  have a1 := ByteArray.mk_append_mk (leB 4 n) (leB 4 c1)
  have a2 := ByteArray.mk_append_mk (leB 4 n ++ leB 4 c1) b
  have a3 := ByteArray.mk_append_mk (leB 4 n ++ leB 4 c1 ++ b) (leB 4 c2)
  have z5 : (⟨(leB 4 n ++ leB 4 c1).toArray⟩ : ByteArray).size = 8 := by rw [bs_size, List.length_append, leB_len, leB_len]
  have z6 : (⟨(leB 4 n ++ leB 4 c1 ++ b).toArray⟩ : ByteArray).size = 8 + n := by rw [bs_size, List.length_append, List.length_append, leB_len, leB_len, hn]
  obtain ⟨s1, h1⟩ : ∃ s : ByteArray, ⟨(leB 4 n).toArray⟩ = s := ⟨_, rfl⟩
  obtain ⟨s2, h2⟩ : ∃ s : ByteArray, ⟨(leB 4 c1).toArray⟩ = s := ⟨_, rfl⟩
  obtain ⟨s3, h3⟩ : ∃ s : ByteArray, ⟨(leB 4 c2).toArray⟩ = s := ⟨_, rfl⟩
  obtain ⟨s4, h4⟩ : ∃ s : ByteArray, ⟨b.toArray⟩ = s := ⟨_, rfl⟩
  obtain ⟨s5, h5⟩ : ∃ s : ByteArray, ⟨(leB 4 n ++ leB 4 c1).toArray⟩ = s := ⟨_, rfl⟩
  obtain ⟨s6, h6⟩ : ∃ s : ByteArray, ⟨(leB 4 n ++ leB 4 c1 ++ b).toArray⟩ = s := ⟨_, rfl⟩
  obtain ⟨s7, h7⟩ : ∃ s : ByteArray, ⟨(leB 4 n ++ leB 4 c1 ++ b ++ leB 4 c2).toArray⟩ = s := ⟨_, rfl⟩
  rw [h1, h2, h5] at a1
  rw [h5, h4, h6] at a2
  rw [h6, h3, h7] at a3
  rw [h1] at HF1 HC1 z1
  rw [h2] at HF2 z2
  rw [h3] at HF3 z3
  rw [h4] at HC2 z4
  rw [h5] at z5
  rw [h6] at z6
  rw [h7, h4]
  have hng : ¬ ((16384 : Int) < (n : Int)) := by omega
  have w0 := u32_id (m := n) (by omega)
  have y1 : ¬ (s1.size + s2.size > 9223372036854775807) := by omega
  have y2 : ¬ (s5.size + s4.size > 9223372036854775807) := by omega
  have y3 : ¬ (s6.size + s3.size > 9223372036854775807) := by omega
  clear z1 z2 z3 z5 z6 h1 h2 h3 h4 h5 h6 h7 hF hcl hc1 hc2 lc1 lc2
  go_enter Tryz.func52, Tryz.ntmps52
  go_wp2_with (fail)
  refine (HF1.out _).mono ?_
  rintro e w1 ⟨rfl, hk⟩
  have HK := Lib.hid hk
  clear hk
  go_wp2_with (fail)
  refine (HC1.out _).mono ?_
  rintro e w2 ⟨rfl, rfl⟩
  go_wp2_with (fail)
  refine (HF2.out _).mono ?_
  rintro e w2 ⟨rfl, hk⟩
  have HK := Lib.hid (HK.out.trans hk)
  clear hk
  go_wp2_with (fail)
  refine (HC2.out _).mono ?_
  rintro e w3 ⟨rfl, rfl⟩
  go_wp2_with (fail)
  refine (HF3.out _).mono ?_
  rintro e w3 ⟨rfl, hk⟩
  have HK := Lib.hid (HK.out.trans hk)
  clear hk
  go_wp2_with (fail)
  go_ret2
  exact ⟨rfl, HK.out⟩
end
end Go.Proofs.YteejdfpfdnkiiaaGreat
