/- sum: the table, More, Crc. -/
import Derived.Test.YtdnfibecobodkaaGreatCrB
import Derived.Laws.BitsAllLaws
import Derived.Laws.Rows
import Derived.Deep.WholeRow
namespace Go.Proofs.YtdnfibecobodkaaGreat
open Go.RowKit Go.Lib
set_option linter.unusedSimpArgs false
set_option linter.unusedVariables false
def crStep (c : Nat) : Nat := if c % 2 = 1 then (c / 2) ^^^ 2197175160 else c / 2
def crIter : Nat → Nat → Nat
  | 0, i => i
  | k + 1, i => crStep (crIter k i)
def crArr (j : Nat) : Array Value := ((List.range 16).map fun i => Value.int .u32 ((if i < j then crIter 4 i else 0 : Nat) : Int)).toArray
theorem wpList_store_all {P : Program} {ops : Array Oper} {rest : List Oper} {o : Oper} {a : Act} {w w' : World} {Q : Exit → Act → World → Prop} (hgd : o.guard = none) (ty : TypeId) (x y : Operand) (ho : o.op = .store ty x y)
    (g : Nat) (hx : a.eval x = .pointer (some ⟨g, 0, none⟩)) (cs : Array Value) (hy : a.eval y = .agg cs) (hs : (storeVar ty ⟨g, 0, none⟩ (.agg cs)).run P w = .ok () w')
    (h : wpList P ops Q rest (a.put o.dst undef) w') : wpList P ops Q (o :: rest) a w :=
  wpList_plain hgd fun _ hK => by
    unfold Oper.wp execOp
    simp only [ho, hx, hy, Instr.storeAt, Instr.sureAddr, Sem.run_bind, Sem.run_pure, Result.andThen_ok, hs]
    exact hK _ _ h
theorem Keep.setRow {X : List Nat} {a w : World} (h : Keep X a w) (b : Nat) (cs : Array Value) (hb : b ∈ X ∨ a.heap.size ≤ b) : Keep X a (w.setRow b cs) :=
  ⟨h.os, h.tape, h.output, by simpa using h.size, fun i hi hx => by
    refine Eq.trans ?_ (h.block i hi hx)
    unfold World.setRow
    simp only [Array.getElem?_modify]
    rw [if_neg]
    rintro rfl
    rcases hb with h1 | h1
    · exact hx h1
    · omega⟩
theorem crStep_lt {c : Nat} (h : c < 4294967296) : crStep c < 4294967296 := by
  unfold crStep
  split
  · exact Nat.xor_lt_two_pow (n := 32) (by omega) (by omega)
  · omega
theorem crIter_lt (k : Nat) {i : Nat} (h : i < 16) : crIter k i < 4294967296 := by
  induction k with
  | zero => unfold crIter; omega
  | succ k ih => unfold crIter; exact crStep_lt ih
theorem crArr_size (j : Nat) : (crArr j).size = 16 := by simp [crArr]
theorem crArr_get (j i : Nat) (hi : i < 16) : (crArr j)[i]? = some (Value.int .u32 ((if i < j then crIter 4 i else 0 : Nat) : Int)) := by
  simp [crArr, hi]
theorem crArr_set (j : Nat) (hj : j < 16) : (crArr j).setIfInBounds j (.int .u32 (crIter 4 j)) = crArr (j + 1) := by
  apply Array.ext_getElem?
  intro i
  by_cases hi : i < 16
  · rw [crArr_get (j + 1) i hi, Array.getElem?_setIfInBounds]
    by_cases e : j = i
    · subst e
      rw [if_pos rfl, if_pos (by rw [crArr_size]; exact hi), if_pos (by omega)]
    · rw [if_neg e, crArr_get j i hi]
      by_cases h2 : i < j
      · rw [if_pos h2, if_pos (by omega)]
      · rw [if_neg h2, if_neg (by omega)]
  · rw [Array.getElem?_eq_none (by rw [Array.size_setIfInBounds, crArr_size]; omega), Array.getElem?_eq_none (by rw [crArr_size]; omega)]
theorem cr_and (c : Nat) (h : c < 4294967296) : bits BinOp.and .u32 (c : Int) 1 = ((c % 2 : Nat) : Int) := by
  have h1 : bits BinOp.and .u32 (c : Int) 1 = (c : Int) % 2 := bits_mask .u32 32 (by decide) wraps_u32 1 (by decide) _ (by omega) (by omega)
  rw [h1]
  omega
theorem cr_one {c : Nat} (h : c < 4294967296) (hb : c % 2 = 1) : (bits BinOp.and .u32 (c : Int) 1 == 1) = true := by rw [cr_and c h, hb]; rfl
theorem cr_zero {c : Nat} (h : c < 4294967296) (hb : ¬ c % 2 = 1) : (bits BinOp.and .u32 (c : Int) 1 == 1) = false := by rw [cr_and c h, show c % 2 = 0 from by omega]; rfl
theorem cr_shr (c n : Nat) : (c : Int) >>> n = ((c / 2 ^ n : Nat) : Int) := by rw [Int.shiftRight_eq_div_pow]; push_cast; rfl
theorem cr_odd {c : Nat} (h : c < 4294967296) (hb : c % 2 = 1) : bits BinOp.xor .u32 ((c : Int) / 2) 2197175160 = ((crStep c : Nat) : Int) := by
  rw [show (c : Int) / 2 = ((c / 2 : Nat) : Int) from by omega, show (2197175160 : Int) = ((2197175160 : Nat) : Int) from rfl, u32_xor_nat _ _ (by omega) (by omega)]
  unfold crStep
  rw [if_pos hb]
theorem cr_even {c : Nat} (h : c < 4294967296) (hb : ¬ c % 2 = 1) : (c : Int) / 2 = ((crStep c : Nat) : Int) := by
  rw [show (c : Int) / 2 = ((c / 2 : Nat) : Int) from by omega]
  unfold crStep
  rw [if_neg hb]
set_option maxRecDepth 100000 in
set_option maxHeartbeats 4000000 in
theorem made_any (w : World) : Calls Tryz.prog 98 #[] w fun e w' => e = .returned (.agg (crArr 16)) ∧ Keep [] w w' := by
  go_enter Tryz.func98, Tryz.ntmps98
  go_wp2_with (fail)
  go_loopw [3] (fun i wr => ∃ j : Nat, i = .int .i64 j ∧ j ≤ 16 ∧ Keep [] w wr ∧ wr.heap[w.heap.size]? = some (.cells (crArr j) 178 (0, 0))) (fun i _ => 16 - (intOf i).toNat)
  case atStart => exact ⟨0, rfl, by omega, (Keep.refl _ _).alloc _, World.alloc_heap_new w _⟩
  case round =>
    obtain ⟨j, rfl, hj, hk, hb⟩ := hrel
    have HK := Lib.hid hk
    have HB := Lib.hid hb
    clear hk hb
    have h0j : (0 : Int) ≤ (j : Int) := Int.natCast_nonneg j
    by_cases hlt : j < 16
    · have hjn : (j : Int) < 16 := by omega
      go_wp2_with (fail)
      go_loopw [2, 8] (fun c i wr' => ∃ k : Nat, i = .int .i64 k ∧ k ≤ 4 ∧ c = .int .u32 (crIter k j : Nat) ∧ wr' = wr) (fun _ i _ => 4 - (intOf i).toNat)
      case atStart => exact ⟨0, rfl, by omega, by simp only [crIter]; try (congr 1; omega), rfl⟩
      case round =>
        obtain ⟨k, rfl, hk, rfl, rfl⟩ := hrel
        have h0k : (0 : Int) ≤ (k : Int) := Int.natCast_nonneg k
        have hclt := crIter_lt k hlt
        have HS : Hid (crIter (k + 1) j = crStep (crIter k j)) := Lib.hid rfl
        obtain ⟨c, hc⟩ : ∃ c, crIter k j = c := ⟨_, rfl⟩
        rw [hc] at hclt HS
        by_cases hk4 : k < 4
        · have hkn : (k : Int) < 4 := by omega
          rw [hc]
          have HC := Lib.hid hc
          clear hc
          by_cases hb : c % 2 = 1
          · have h1 : (bits BinOp.and .u32 (c : Int) 1 == 1) = true := cr_one hclt hb
            have HX := Lib.hid (cr_odd hclt hb)
            clear hb
            go_wp2_with (fail)
            go_roundw
            case rel => exact ⟨k + 1, by go_num, by omega, by rw [HS.out, ← HX.out], trivial⟩
            case measure => simp [intOf]; omega
          · have h1 : (bits BinOp.and .u32 (c : Int) 1 == 1) = false := cr_zero hclt hb
            have HX := Lib.hid (cr_even hclt hb)
            clear hb
            go_wp2_with (fail)
            go_roundw
            case rel => exact ⟨k + 1, by go_num, by omega, by rw [HS.out, ← HX.out], trivial⟩
            case measure => simp [intOf]; omega
        · obtain rfl : k = 4 := by omega
          rw [hc]
          have HC := Lib.hid hc
          clear hc
          have c0 : wr.cell? ⟨w.heap.size, j, none⟩ = some (.int .u32 0) := by
            unfold World.cell?
            rw [HB.out]
            simpa using crArr_get j j hlt
          have f0 : ∀ o, wr.frozen? ⟨w.heap.size, o, none⟩ = false := fun o => by unfold World.frozen?; rw [HB.out]; simp
          go_wp2_with (fail)
          go_roundw
          case rel => exact ⟨j + 1, by go_num, by omega, HK.out.setCell _ _ _ (.inr (Nat.le_refl _)), by
            rw [← crArr_set j hlt, HC.out]
            have h := HB.out
            simp [World.setCell, Array.getElem?_modify, h]⟩
          case measure => simp [intOf]; omega
    · obtain rfl : j = 16 := by omega
      have hsz : (Tryz.prog.info? 178).map (·.size) = some (crArr 16).size := by rw [crArr_size]; kernel_rfl
      have hst := run_storeVar_row (P := Tryz.prog) wr w.heap.size 178 178 _ (crArr 16) HB.out hsz rfl (by simp [crArr, Value.oneCell'])
      obtain ⟨w9, hw9⟩ : ∃ u, wr.setRow w.heap.size (crArr 16) = u := ⟨_, rfl⟩
      rw [hw9] at hst
      have HST := Lib.hid hst
      have HSZ := Lib.hid hsz
      have HB9 : Hid (w9.heap[w.heap.size]? = some (.cells (crArr 16) 178 (0, 0))) := Lib.hid (by rw [← hw9]; exact setRow_heap wr w.heap.size _ _ _ _ HB.out)
      have HK9 : Hid (Keep [] w w9) := Lib.hid (by rw [← hw9]; exact HK.out.setRow _ _ (.inr (Nat.le_refl _)))
      clear hst hsz hw9
      obtain ⟨ca, hca⟩ : ∃ ca, crArr 16 = ca := ⟨_, rfl⟩
      rw [hca] at HST HSZ HB HB9
      have HCA := Lib.hid hca
      clear hca
      go_wp2_with (first | ((with_reducible refine wpList_load_row ?_ 178 (.tmp 0) ?_ (w.heap.size) ?_ 178 ca (0, 0) _ HB.out Tryz.underlying178 ?_ HSZ.out ?_); rfl; rfl; rfl; rfl) | ((with_reducible refine wpList_store_all ?_ 178 (.tmp 0) (.tmp 23) ?_ (w.heap.size) ?_ ca ?_ HST.out ?_); rfl; rfl; rfl; rfl))
      refine bodyPost_ret (results_cell_row rfl _ w9 w.heap.size 178 ca (0, 0) _ rfl HB9.out Tryz.underlying178 rfl HSZ.out) rfl ?_
      exact ⟨by rw [HCA.out], HK9.out⟩
def crN (c : Nat) : Nat := (c / 16) ^^^ crIter 4 (c % 16)
def crB (c : Nat) (b : UInt8) : Nat := crN (crN (c ^^^ b.toNat))
def crcF (l : List UInt8) : Nat := 4294967295 ^^^ l.foldl crB 4294967295
theorem crN_lt {c : Nat} (h : c < 4294967296) : crN c < 4294967296 := by
  unfold crN
  exact Nat.xor_lt_two_pow (n := 32) (by omega) (crIter_lt 4 (Nat.mod_lt _ (by omega)))
theorem crB_lt {c : Nat} (h : c < 4294967296) (b : UInt8) : crB c b < 4294967296 := by
  unfold crB
  exact crN_lt (crN_lt (Nat.xor_lt_two_pow (n := 32) h (by have := b.toNat_lt; omega)))
theorem crFold_lt (l : List UInt8) : ∀ c, c < 4294967296 → l.foldl crB c < 4294967296 := by
  induction l with
  | nil => intro c h; exact h
  | cons b r ih => intro c h; exact ih _ (crB_lt h b)
theorem crcF_lt (l : List UInt8) : crcF l < 4294967296 := by
  unfold crcF
  exact Nat.xor_lt_two_pow (n := 32) (by omega) (crFold_lt l _ (by omega))
theorem cr_nib {c : Nat} (h : c < 4294967296) : bits BinOp.and .u32 (c : Int) 15 = ((c % 16 : Nat) : Int) := by
  have h1 : bits BinOp.and .u32 (c : Int) 15 = (c : Int) % 16 := bits_mask .u32 32 (by decide) wraps_u32 4 (by decide) _ (by omega) (by omega)
  rw [h1]
  omega
theorem cr_nx {c : Nat} (h : c < 4294967296) : bits BinOp.xor .u32 ((c : Int) / 16) ((crIter 4 (c % 16) : Nat) : Int) = ((crN c : Nat) : Int) := by
  rw [show (c : Int) / 16 = ((c / 16 : Nat) : Int) from by omega, u32_xor_nat _ _ (by omega) (crIter_lt 4 (Nat.mod_lt _ (by omega)))]
  rfl
theorem more_base {W : World} {g : Nat} (h : W.heap[g]? = some (.cells (crArr 16) 178 (0, 0))) (i : Nat) (hi : i < 16) : W.cell? ⟨g, i, none⟩ = some (.int .u32 (crIter 4 i : Nat)) := by
  unfold World.cell?
  rw [h]
  have := crArr_get 16 i hi
  rw [if_pos hi] at this
  simpa using this
set_option maxRecDepth 100000 in
set_option maxHeartbeats 4000000 in
theorem more_any (w : World) (s : ByteArray) (hz : s.size ≤ 100000) : Calls Tryz.prog 91 #[.int .u32 0, .string s] w fun e w' => e = .returned (.int .u32 (crcF s.data.toList : Nat)) ∧ Keep [] w w' := by
  go_enter Tryz.func91, Tryz.ntmps91
  go_wp2_with (fail)
  refine (made_any w).mono ?_
  rintro e w1 ⟨rfl, hk1⟩
  obtain ⟨w2, hw2⟩ : ∃ u, w1.alloc (.cells #[.int .u32 0, .int .u32 0, .int .u32 0, .int .u32 0, .int .u32 0, .int .u32 0, .int .u32 0, .int .u32 0, .int .u32 0, .int .u32 0, .int .u32 0, .int .u32 0, .int .u32 0, .int .u32 0, .int .u32 0, .int .u32 0] 178) = u := ⟨_, rfl⟩
  obtain ⟨w3, hw3⟩ : ∃ u, w2.setRow w1.heap.size (crArr 16) = u := ⟨_, rfl⟩
  have hb2 : w2.heap[w1.heap.size]? = some (.cells #[.int .u32 0, .int .u32 0, .int .u32 0, .int .u32 0, .int .u32 0, .int .u32 0, .int .u32 0, .int .u32 0, .int .u32 0, .int .u32 0, .int .u32 0, .int .u32 0, .int .u32 0, .int .u32 0, .int .u32 0, .int .u32 0] 178 (0, 0)) := by rw [← hw2]; exact World.alloc_heap_new w1 _
  have hsz : (Tryz.prog.info? 178).map (·.size) = some (crArr 16).size := by rw [crArr_size]; kernel_rfl
  have hst := run_storeVar_row (P := Tryz.prog) w2 w1.heap.size 178 178 _ (crArr 16) hb2 hsz rfl (by simp [crArr, Value.oneCell'])
  rw [hw3] at hst
  have hb3 : w3.heap[w1.heap.size]? = some (.cells (crArr 16) 178 (0, 0)) := by rw [← hw3]; exact setRow_heap w2 w1.heap.size _ _ _ _ hb2
  have hk3 : Keep [] w w3 := by
    rw [← hw3, ← hw2]
    exact (hk1.alloc _).setRow _ _ (.inr hk1.size)
  have HST := Lib.hid hst
  have HB := Lib.hid hb3
  have HK := Lib.hid hk3
  have hf : ∀ o, w3.frozen? ⟨w1.heap.size, o, none⟩ = false := fun o => by unfold World.frozen?; rw [hb3]; simp
  clear hst hb3 hk3 hsz hb2 hk1 hw3
  obtain ⟨ca, hca⟩ : ∃ ca, crArr 16 = ca := ⟨_, rfl⟩
  rw [hca] at HST ⊢
  go_wp2_with ((with_reducible refine wpList_store_all ?_ 178 (.tmp 5) (.tmp 8) ?_ (w1.heap.size) ?_ ca ?_ HST.out ?_); rfl; rfl; rfl; rfl)
  rw [show bits BinOp.xor IntKind.u32 IntKind.u32.max 0 = 4294967295 from by decide]
  clear HST
  go_loopw [6, 13] (fun c i wr => ∃ (j n : Nat), i = .int .i64 j ∧ j ≤ s.size ∧ c = .int .u32 n ∧ n = (s.data.toList.take j).foldl crB 4294967295 ∧ n < 4294967296 ∧ wr = w3) (fun _ i _ => s.size - (intOf i).toNat)
  case atStart => exact ⟨0, 4294967295, rfl, by omega, rfl, rfl, by omega, rfl⟩
  case round =>
    obtain ⟨j, n, rfl, hj, rfl, hn, hnl, rfl⟩ := hrel
    have h0j : (0 : Int) ≤ (j : Int) := Int.natCast_nonneg j
    have HN := Lib.hid hn
    clear hn
    by_cases hlt : j < s.size
    · have hjn : (j : Int) < (s.size : Int) := by omega
      have hjl : j < s.data.toList.length := by rw [str_size]; exact hlt
      obtain ⟨b, hb⟩ : ∃ b, s.data.toList[j]? = some b := ⟨_, List.getElem?_eq_getElem hjl⟩
      have HBV : Hid (∀ h, s[j]'h = b) := Lib.hid (strGet s j b hb)
      have hix : ∀ W, (Instr.index 9 (.string s) (.int .i64 j)).run Tryz.prog W = .ok (.int .u8 b.toNat) W := fun W => strAt s j b hb _ Tryz.underlying9 W
      have hnx : (s.data.toList.take (j + 1)).foldl crB 4294967295 = crN (crN (n ^^^ b.toNat)) := by rw [List.take_add_one, hb, HN.out, List.foldl_append]; rfl
      have hbl := b.toNat_lt
      obtain ⟨bn, hbn⟩ : ∃ q : Nat, b.toNat = q := ⟨_, rfl⟩
      rw [hbn] at hix hnx hbl
      have hw : IntKind.u32.wrap (bn : Int) = bn := u32_wrap_id _ (by omega) (by omega)
      obtain ⟨c1, hc1⟩ : ∃ q : Nat, n ^^^ bn = q := ⟨_, rfl⟩
      have hl1 : c1 < 4294967296 := by rw [← hc1]; exact Nat.xor_lt_two_pow (n := 32) hnl (by omega)
      have hx1 : bits BinOp.xor .u32 (n : Int) (bn : Int) = (c1 : Int) := by rw [u32_xor_nat _ _ hnl (by omega), hc1]
      rw [hc1] at hnx
      have hn1 := cr_nib hl1
      have hc1x := cr_nx hl1
      obtain ⟨k1, hk1⟩ : ∃ q : Nat, c1 % 16 = q := ⟨_, rfl⟩
      obtain ⟨c2, hc2⟩ : ∃ q : Nat, crN c1 = q := ⟨_, rfl⟩
      have hl2 : c2 < 4294967296 := by rw [← hc2]; exact crN_lt hl1
      have hk1l : k1 < 16 := by rw [← hk1]; exact Nat.mod_lt _ (by omega)
      rw [hk1] at hn1
      rw [hk1, hc2] at hc1x
      rw [hc2] at hnx
      have hn2 := cr_nib hl2
      have hc2x := cr_nx hl2
      obtain ⟨k2, hk2⟩ : ∃ q : Nat, c2 % 16 = q := ⟨_, rfl⟩
      obtain ⟨c3, hc3⟩ : ∃ q : Nat, crN c2 = q := ⟨_, rfl⟩
      have hl3 : c3 < 4294967296 := by rw [← hc3]; exact crN_lt hl2
      have hk2l : k2 < 16 := by rw [← hk2]; exact Nat.mod_lt _ (by omega)
      rw [hk2] at hn2
      rw [hk2, hc3] at hc2x
      rw [hc3] at hnx
      have d1 := more_base HB.out k1 hk1l
      have d2 := more_base HB.out k2 hk2l
      obtain ⟨t1, ht1⟩ : ∃ q : Nat, crIter 4 k1 = q := ⟨_, rfl⟩
      obtain ⟨t2, ht2⟩ : ∃ q : Nat, crIter 4 k2 = q := ⟨_, rfl⟩
      rw [ht1] at d1 hc1x
      rw [ht2] at d2 hc2x
      have hk1i : (k1 : Int) < 16 := by omega
      have hk2i : (k2 : Int) < 16 := by omega
      have HNY := Lib.hid hnx
      clear hb hjl hnx hbn hc1 hk1 hc2 hk2 hc3 ht1 ht2 HBV
      go_wp2_with (fail)
      go_roundw
      case rel => exact ⟨j + 1, c3, by go_num, by omega, rfl, HNY.out.symm, hl3, trivial⟩
      case measure => simp [intOf]; omega
    · obtain rfl : j = s.size := by omega
      go_wp2_with (fail)
      go_ret
      refine ⟨?_, HK.out⟩
      have e1 : bits BinOp.xor .u32 IntKind.u32.max (n : Int) = ((crcF s.data.toList : Nat) : Int) := by
        have h1 := HN.out
        rw [← str_size, List.take_length] at h1
        rw [show IntKind.u32.max = ((4294967295 : Nat) : Int) from rfl, u32_xor_nat _ _ (by omega) hnl]
        unfold crcF
        rw [← h1]
      rw [e1]
      rfl
theorem crc_any (w : World) (s : ByteArray) (hz : s.size ≤ 100000) : Calls Tryz.prog 69 #[.string s] w fun e w' => e = .returned (.int .u32 (crcF s.data.toList : Nat)) ∧ Keep [] w w' := by
  go_enter Tryz.func69, Tryz.ntmps69
  go_wp2_with (fail)
  refine (more_any w s hz).mono ?_
  rintro e w1 ⟨rfl, hk⟩
  have HK := Lib.hid hk
  clear hk
  go_wp2_with (fail)
  go_ret
  exact ⟨rfl, HK.out⟩
end Go.Proofs.YtdnfibecobodkaaGreat
