/- Messages of the four kinds that a coordinator sends, as bytes and back · sum: the table, More, Crc · msg.Read and msg.Bytes · frame.Put and msg.Data -/
import Derived.Test.YteejdfpfdnkiiaaGreatPe
import Derived.Test.YteejdfpfdnkiiaaGreatCsC
import Derived.Test.YteejdfpfdnkiiaaGreatCrE
import Derived.Test.YteejdfpfdnkiiaaGreatCrB
import Derived.Laws.BitsAllLaws
import Derived.Laws.Rows
import Derived.Deep.WholeRow
import Derived.Laws.ResultCell
import Derived.Lib.AppendStr
namespace Go.Proofs.YteejdfpfdnkiiaaGreat
section
open Go.RowKit Go.Lib
set_option linter.unusedSimpArgs false
set_option linter.unusedVariables false
/-- What a coordinator says. -/
structure Mg where
  k : Nat
  mv : Nat
  pt : Nat
  to : Nat
  ep : Nat
  nd : Nat
  own : List Int
def Mg.cells (m : Mg) (sl : Value) : Array Value := msC m.k m.mv m.pt m.to m.ep m.nd sl
structure Mg.Ok (m : Mg) : Prop where
  kind : (m.k = 4 ∧ m.ep = 0 ∧ m.nd = 0 ∧ m.own = []) ∨ (m.k = 12 ∧ m.to = 0 ∧ m.ep = 0 ∧ m.nd = 0 ∧ m.own = []) ∨ (m.k = 11 ∧ m.to = 0) ∨ (m.k = 14 ∧ m.mv = 0 ∧ m.pt = 0 ∧ m.to = 0)
  mv : m.mv ≤ 2147483647
  pt : m.pt ≤ 2147483647
  to : m.to ≤ 2147483647
  ep : m.ep ≤ 2147483647
  nd : m.nd ≤ 2147483647
  len : m.own.length ≤ 64
  own : ∀ x ∈ m.own, 0 ≤ x ∧ x ≤ 2147483647
def Mg.enc (m : Mg) : List UInt8 :=
  [UInt8.ofNat m.k] ++ ((if m.k = 14 then [] else varB m.mv ++ varB m.pt) ++ (if m.k = 4 then varB m.to else if m.k = 12 then [] else varB m.ep ++ (varB m.nd ++ (varB m.own.length ++ numsB m.own))))
theorem Mg.enc_ne (m : Mg) : m.enc ≠ [] := by unfold Mg.enc; simp
theorem Mg.enc_len {m : Mg} (h : m.Ok) : m.enc.length ≤ 1000 := by
  have h1 := varB_len m.mv (by have := h.mv; omega)
  have h2 := varB_len m.pt (by have := h.pt; omega)
  have h3 := varB_len m.to (by have := h.to; omega)
  have h4 := varB_len m.ep (by have := h.ep; omega)
  have h5 := varB_len m.nd (by have := h.nd; omega)
  have h6 := varB_len m.own.length (by have := h.len; omega)
  have h7 := numsB_len m.own h.own
  have h8 := h.len
  unfold Mg.enc
  simp only [List.length_append, List.length_cons, List.length_nil]
  split <;> split <;> (try split) <;> simp only [List.length_append, List.length_nil] <;> omega
theorem wwalk_any {base g mb : Nat} {v : Value} {a : Option Addr} {w W : World} {c : Nat} {m : Mg} (ho : m.Ok) (hc : m.k = 4 ∨ m.k = 12 → a = none ∧ c = 0) (h : StW base g mb v [] (m.cells (.slice a m.own.length c)) a m.own w W) : Calls Tryz.prog 80 #[(.iface 145 (.pointer (some ⟨g, 0, none⟩))), .pointer (some ⟨mb, 0, none⟩)] W fun e w' => e = .returned (.tuple #[]) ∧ WrD base g mb v m.enc w w' := by
  obtain ⟨k, mv, pt, to, ep, nd, own⟩ := m
  have e1 : ∀ {P Q : List UInt8}, P = Q → ∀ {w w' : World}, WrD base g mb v P w w' → WrD base g mb v Q w w' := by rintro P Q rfl w w' h; exact h
  rcases ho.kind with ⟨h1, h2, h3, h4⟩ | ⟨h1, h2, h3, h4, h5⟩ | ⟨h1, h2⟩ | ⟨h1, h2, h3, h4⟩
  · simp only at h1 h2 h3 h4
    subst h1 h2 h3 h4
    obtain ⟨rfl, rfl⟩ := hc (.inl rfl)
    refine (wwalk4_st (c := 0) mv pt to h (by simp) ho.mv ho.pt ho.to).mono ?_
    rintro e w' ⟨rfl, h2⟩
    exact ⟨rfl, e1 (by simp [Mg.enc]) h2⟩
  · simp only at h1 h2 h3 h4 h5
    subst h1 h2 h3 h4 h5
    obtain ⟨rfl, rfl⟩ := hc (.inr rfl)
    refine (wwalk12_st (c := 0) mv pt h (by simp) ho.mv ho.pt).mono ?_
    rintro e w' ⟨rfl, h2⟩
    exact ⟨rfl, e1 (by simp [Mg.enc]) h2⟩
  · simp only at h1 h2
    subst h1 h2
    refine (wwalk11_st mv pt ep nd h (by simp) ho.mv ho.pt ho.ep ho.nd ho.len ho.own).mono ?_
    rintro e w' ⟨rfl, h2⟩
    exact ⟨rfl, e1 (by simp [Mg.enc]) h2⟩
  · simp only at h1 h2 h3 h4
    subst h1 h2 h3 h4
    refine (wwalk14_st ep nd h (by simp) ho.ep ho.nd ho.len ho.own).mono ?_
    rintro e w' ⟨rfl, h2⟩
    exact ⟨rfl, e1 (by simp [Mg.enc]) h2⟩
theorem rwalk_any {r x mb : Nat} {s : ByteArray} {w W : World} {m : Mg} (ho : m.Ok) (h : StR r x mb s 0 (msC 0 0 0 0 0 0 (.slice none 0 0)) w W) (hs : s.data.toList = m.enc) : Calls Tryz.prog 80 #[(.iface 183 (.pointer (some ⟨r, 0, none⟩))), .pointer (some ⟨mb, 0, none⟩)] W fun e w' => e = .returned (.tuple #[]) ∧ ∃ vp, StR r x mb s s.size (m.cells vp) w w' ∧ IRow w.heap.size w' vp m.own := by
  have hsz : s.size = m.enc.length := by rw [← str_size, hs]
  have hz : s.size ≤ 100000 := by rw [hsz]; have := Mg.enc_len ho; omega
  have hd : s.data.toList.drop 0 = m.enc ++ [] := by simp [hs]
  obtain ⟨k, mv, pt, to, ep, nd, own⟩ := m
  have e1 : ∀ {p q : Nat}, p = q → ∀ {cs : Array Value} {w w' : World}, StR r x mb s p cs w w' → StR r x mb s q cs w w' := by rintro p q rfl cs w w' h; exact h
  rcases ho.kind with ⟨h1, h2, h3, h4⟩ | ⟨h1, h2, h3, h4, h5⟩ | ⟨h1, h2⟩ | ⟨h1, h2, h3, h4⟩
  · simp only at h1 h2 h3 h4
    subst h1 h2 h3 h4
    refine (rwalk4_st mv pt to h [] (by rw [hd]; simp [Mg.enc]) hz ho.mv ho.pt ho.to).mono ?_
    rintro e w' ⟨rfl, h2⟩
    exact ⟨rfl, _, e1 (by rw [hsz]; simp [Mg.enc]; omega) h2, World.ownsRow_nil _ _ _ _⟩
  · simp only at h1 h2 h3 h4 h5
    subst h1 h2 h3 h4 h5
    refine (rwalk12_st mv pt h [] (by rw [hd]; simp [Mg.enc]) hz ho.mv ho.pt).mono ?_
    rintro e w' ⟨rfl, h2⟩
    exact ⟨rfl, _, e1 (by rw [hsz]; simp [Mg.enc]; omega) h2, World.ownsRow_nil _ _ _ _⟩
  · simp only at h1 h2
    subst h1 h2
    refine (rwalk11_st mv pt ep nd h [] (by rw [hd]; simp [Mg.enc]) hz ho.mv ho.pt ho.ep ho.nd ho.len ho.own).mono ?_
    rintro e w' ⟨rfl, vp, h2, h3⟩
    exact ⟨rfl, vp, e1 (by rw [hsz]; simp [Mg.enc]; omega) h2, h3⟩
  · simp only at h1 h2 h3 h4
    subst h1 h2 h3 h4
    refine (rwalk14_st ep nd h [] (by rw [hd]; simp [Mg.enc]) hz ho.ep ho.nd ho.len ho.own).mono ?_
    rintro e w' ⟨rfl, vp, h2, h3⟩
    exact ⟨rfl, vp, e1 (by rw [hsz]; simp [Mg.enc]; omega) h2, h3⟩
theorem bytes1_any {base g mb : Nat} {v : Value} {a : Option Addr} {w W : World} {c : Nat} {m : Mg} (ho : m.Ok) (hc : m.k = 4 ∨ m.k = 12 → a = none ∧ c = 0) (h : StW base g mb v [] (m.cells (.slice a m.own.length c)) a m.own w W) : Calls Tryz.prog 79 #[.pointer (some ⟨g, 0, none⟩), .pointer (some ⟨mb, 0, none⟩)] W fun e w' => e = .returned (.tuple #[]) ∧ WrD base g mb v m.enc w w' := by
  have HC := Lib.hid (wwalk_any ho hc h)
  clear h
  go_enter Tryz.func79, Tryz.ntmps79
  go_wp2_with (fail)
  refine HC.out.mono ?_
  rintro e w1 ⟨rfl, h1⟩
  have H1 := Lib.hid h1
  clear h1
  go_wp2_with (fail)
  go_end0
  exact ⟨rfl, H1.out⟩
theorem read1_any {rc r x mb : Nat} {s : ByteArray} {w W : World} {m : Mg} (ho : m.Ok) (hr : OneAt W rc (.pointer (some ⟨r, 0, none⟩)) 183) (h : StR r x mb s 0 (msC 0 0 0 0 0 0 (.slice none 0 0)) w W) (hs : s.data.toList = m.enc) : Calls Tryz.prog 102 #[.pointer (some ⟨rc, 0, none⟩), .pointer (some ⟨mb, 0, none⟩)] W fun e w' => e = .returned (.tuple #[]) ∧ ∃ vp, StR r x mb s s.size (m.cells vp) w w' ∧ IRow w.heap.size w' vp m.own := by
  have HC := Lib.hid (rwalk_any ho h hs)
  have c0 := hr.facts.1
  clear h hs
  go_enter Tryz.func102, Tryz.ntmps102
  go_wp2_with (fail)
  refine HC.out.mono ?_
  rintro e w1 ⟨rfl, h1⟩
  have H1 := Lib.hid h1
  clear h1
  go_wp2_with (fail)
  go_end0
  exact ⟨rfl, H1.out⟩
end
section
open Go.RowKit Go.Lib
set_option linter.unusedSimpArgs false
set_option linter.unusedVariables false
def crStep (c : Nat) : Nat := if c % 2 = 1 then (c / 2) ^^^ 2197175160 else c / 2
def crIter : Nat → Nat → Nat
  | 0, i => i
  | k + 1, i => crStep (crIter k i)
def crArr (j : Nat) : Array Value := ((List.range 16).map fun i => Value.int .u32 ((if i < j then crIter 4 i else 0 : Nat) : Int)).toArray
theorem wpList_store_all {P : Program} {ops : Array Oper} {rest : List Oper} {o : Oper} {a : Act} {w w' : World} {Q : Exit → Act → World → Prop} (hgd : o.guard = none) (ty : TypeId) (x y : Operand) (ho : o.op = .store ty x y)
    (g : Nat) (hx : a.eval x = .pointer (some ⟨g, 0, none⟩)) (cs : Array Value) (hy : a.eval y = .agg cs) (hs : (storeVar ty ⟨g, 0, none⟩ (.agg cs)).run P w = .ok () w')
    (h : wpList P ops Q rest (a.put o.dst undef) w') : wpList P ops Q (o :: rest) a w :=
  wpList_plain hgd fun _ hK => by
    unfold Oper.wp execOp
    simp only [ho, hx, hy, Instr.storeAt, Instr.sureAddr, Sem.run_bind, Sem.run_pure, Result.andThen_ok, hs]
    exact hK _ _ h
theorem Keep.setRow {X : List Nat} {a w : World} (h : Keep X a w) (b : Nat) (cs : Array Value) (hb : b ∈ X ∨ a.heap.size ≤ b) : Keep X a (w.setRow b cs) :=
  ⟨h.os, h.tape, h.output, by simpa using h.size, fun i hi hx => by
    refine Eq.trans ?_ (h.block i hi hx)
    unfold World.setRow
    simp only [Array.getElem?_modify]
    rw [if_neg]
    rintro rfl
    rcases hb with h1 | h1
    · exact hx h1
    · omega⟩
theorem crStep_lt {c : Nat} (h : c < 4294967296) : crStep c < 4294967296 := by
  unfold crStep
  split
  · exact Nat.xor_lt_two_pow (n := 32) (by omega) (by omega)
  · omega
theorem crIter_lt (k : Nat) {i : Nat} (h : i < 16) : crIter k i < 4294967296 := by
  induction k with
  | zero => unfold crIter; omega
  | succ k ih => unfold crIter; exact crStep_lt ih
theorem crArr_size (j : Nat) : (crArr j).size = 16 := by simp [crArr]
theorem crArr_get (j i : Nat) (hi : i < 16) : (crArr j)[i]? = some (Value.int .u32 ((if i < j then crIter 4 i else 0 : Nat) : Int)) := by
  simp [crArr, hi]
theorem crArr_set (j : Nat) (hj : j < 16) : (crArr j).setIfInBounds j (.int .u32 (crIter 4 j)) = crArr (j + 1) := by
  apply Array.ext_getElem?
  intro i
  by_cases hi : i < 16
  · rw [crArr_get (j + 1) i hi, Array.getElem?_setIfInBounds]
    by_cases e : j = i
    · subst e
      rw [if_pos rfl, if_pos (by rw [crArr_size]; exact hi), if_pos (by omega)]
    · rw [if_neg e, crArr_get j i hi]
      by_cases h2 : i < j
      · rw [if_pos h2, if_pos (by omega)]
      · rw [if_neg h2, if_neg (by omega)]
  · rw [Array.getElem?_eq_none (by rw [Array.size_setIfInBounds, crArr_size]; omega), Array.getElem?_eq_none (by rw [crArr_size]; omega)]
theorem cr_and (c : Nat) (h : c < 4294967296) : bits BinOp.and .u32 (c : Int) 1 = ((c % 2 : Nat) : Int) := by
  have h1 : bits BinOp.and .u32 (c : Int) 1 = (c : Int) % 2 := bits_mask .u32 32 (by decide) wraps_u32 1 (by decide) _ (by omega) (by omega)
  rw [h1]
  omega
theorem cr_one {c : Nat} (h : c < 4294967296) (hb : c % 2 = 1) : (bits BinOp.and .u32 (c : Int) 1 == 1) = true := by rw [cr_and c h, hb]; rfl
theorem cr_zero {c : Nat} (h : c < 4294967296) (hb : ¬ c % 2 = 1) : (bits BinOp.and .u32 (c : Int) 1 == 1) = false := by rw [cr_and c h, show c % 2 = 0 from by omega]; rfl
theorem cr_shr (c n : Nat) : (c : Int) >>> n = ((c / 2 ^ n : Nat) : Int) := by rw [Int.shiftRight_eq_div_pow]; push_cast; rfl
theorem cr_odd {c : Nat} (h : c < 4294967296) (hb : c % 2 = 1) : bits BinOp.xor .u32 ((c : Int) / 2) 2197175160 = ((crStep c : Nat) : Int) := by
  rw [show (c : Int) / 2 = ((c / 2 : Nat) : Int) from by omega, show (2197175160 : Int) = ((2197175160 : Nat) : Int) from rfl, u32_xor_nat _ _ (by omega) (by omega)]
  unfold crStep
  rw [if_pos hb]
theorem cr_even {c : Nat} (h : c < 4294967296) (hb : ¬ c % 2 = 1) : (c : Int) / 2 = ((crStep c : Nat) : Int) := by
  rw [show (c : Int) / 2 = ((c / 2 : Nat) : Int) from by omega]
  unfold crStep
  rw [if_neg hb]
set_option maxRecDepth 100000 in
set_option maxHeartbeats 4000000 in
theorem made_any (w : World) : Calls Tryz.prog 110 #[] w fun e w' => e = .returned (.agg (crArr 16)) ∧ Keep [] w w' := by
  go_enter Tryz.func110, Tryz.ntmps110
  go_wp2_with (fail)
  go_loopw [3] (fun i wr => ∃ j : Nat, i = .int .i64 j ∧ j ≤ 16 ∧ Keep [] w wr ∧ wr.heap[w.heap.size]? = some (.cells (crArr j) 198 (0, 0))) (fun i _ => 16 - (intOf i).toNat)
  case atStart => exact ⟨0, rfl, by omega, (Keep.refl _ _).alloc _, World.alloc_heap_new w _⟩
  case round =>
    obtain ⟨j, rfl, hj, hk, hb⟩ := hrel
    have HK := Lib.hid hk
    have HB := Lib.hid hb
    clear hk hb
    have h0j : (0 : Int) ≤ (j : Int) := Int.natCast_nonneg j
    by_cases hlt : j < 16
    · have hjn : (j : Int) < 16 := by omega
      go_wp2_with (fail)
      go_loopw [2, 8] (fun c i wr' => ∃ k : Nat, i = .int .i64 k ∧ k ≤ 4 ∧ c = .int .u32 (crIter k j : Nat) ∧ wr' = wr) (fun _ i _ => 4 - (intOf i).toNat)
      case atStart => exact ⟨0, rfl, by omega, by simp only [crIter]; try (congr 1; omega), rfl⟩
      case round =>
        obtain ⟨k, rfl, hk, rfl, rfl⟩ := hrel
        have h0k : (0 : Int) ≤ (k : Int) := Int.natCast_nonneg k
        have hclt := crIter_lt k hlt
        have HS : Hid (crIter (k + 1) j = crStep (crIter k j)) := Lib.hid rfl
        obtain ⟨c, hc⟩ : ∃ c, crIter k j = c := ⟨_, rfl⟩
        rw [hc] at hclt HS
        by_cases hk4 : k < 4
        · have hkn : (k : Int) < 4 := by omega
          rw [hc]
          have HC := Lib.hid hc
          clear hc
          by_cases hb : c % 2 = 1
          · have h1 : (bits BinOp.and .u32 (c : Int) 1 == 1) = true := cr_one hclt hb
            have HX := Lib.hid (cr_odd hclt hb)
            clear hb
            go_wp2_with (fail)
            go_roundw
            case rel => exact ⟨k + 1, by go_num, by omega, by rw [HS.out, ← HX.out], trivial⟩
            case measure => simp [intOf]; omega
          · have h1 : (bits BinOp.and .u32 (c : Int) 1 == 1) = false := cr_zero hclt hb
            have HX := Lib.hid (cr_even hclt hb)
            clear hb
            go_wp2_with (fail)
            go_roundw
            case rel => exact ⟨k + 1, by go_num, by omega, by rw [HS.out, ← HX.out], trivial⟩
            case measure => simp [intOf]; omega
        · obtain rfl : k = 4 := by omega
          rw [hc]
          have HC := Lib.hid hc
          clear hc
          have c0 : wr.cell? ⟨w.heap.size, j, none⟩ = some (.int .u32 0) := by
            unfold World.cell?
            rw [HB.out]
            simpa using crArr_get j j hlt
          have f0 : ∀ o, wr.frozen? ⟨w.heap.size, o, none⟩ = false := fun o => by unfold World.frozen?; rw [HB.out]; simp
          go_wp2_with (fail)
          go_roundw
          case rel => exact ⟨j + 1, by go_num, by omega, HK.out.setCell _ _ _ (.inr (Nat.le_refl _)), by
            rw [← crArr_set j hlt, HC.out]
            have h := HB.out
            simp [World.setCell, Array.getElem?_modify, h]⟩
          case measure => simp [intOf]; omega
    · obtain rfl : j = 16 := by omega
      have hsz : (Tryz.prog.info? 198).map (·.size) = some (crArr 16).size := by rw [crArr_size]; kernel_rfl
      have hst := run_storeVar_row (P := Tryz.prog) wr w.heap.size 198 198 _ (crArr 16) HB.out hsz rfl (by simp [crArr, Value.oneCell'])
      obtain ⟨w9, hw9⟩ : ∃ u, wr.setRow w.heap.size (crArr 16) = u := ⟨_, rfl⟩
      rw [hw9] at hst
      have HST := Lib.hid hst
      have HSZ := Lib.hid hsz
      have HB9 : Hid (w9.heap[w.heap.size]? = some (.cells (crArr 16) 198 (0, 0))) := Lib.hid (by rw [← hw9]; exact setRow_heap wr w.heap.size _ _ _ _ HB.out)
      have HK9 : Hid (Keep [] w w9) := Lib.hid (by rw [← hw9]; exact HK.out.setRow _ _ (.inr (Nat.le_refl _)))
      clear hst hsz hw9
      obtain ⟨ca, hca⟩ : ∃ ca, crArr 16 = ca := ⟨_, rfl⟩
      rw [hca] at HST HSZ HB HB9
      have HCA := Lib.hid hca
      clear hca
      go_wp2_with (first | ((with_reducible refine wpList_load_row ?_ 198 (.tmp 0) ?_ (w.heap.size) ?_ 198 ca (0, 0) _ HB.out Tryz.underlying198 ?_ HSZ.out ?_); rfl; rfl; rfl; rfl) | ((with_reducible refine wpList_store_all ?_ 198 (.tmp 0) (.tmp 23) ?_ (w.heap.size) ?_ ca ?_ HST.out ?_); rfl; rfl; rfl; rfl))
      refine bodyPost_ret (results_cell_row rfl _ w9 w.heap.size 198 ca (0, 0) _ rfl HB9.out Tryz.underlying198 rfl HSZ.out) rfl ?_
      exact ⟨by rw [HCA.out], HK9.out⟩
def crN (c : Nat) : Nat := (c / 16) ^^^ crIter 4 (c % 16)
def crB (c : Nat) (b : UInt8) : Nat := crN (crN (c ^^^ b.toNat))
def crcF (l : List UInt8) : Nat := 4294967295 ^^^ l.foldl crB 4294967295
theorem crN_lt {c : Nat} (h : c < 4294967296) : crN c < 4294967296 := by
  unfold crN
  exact Nat.xor_lt_two_pow (n := 32) (by omega) (crIter_lt 4 (Nat.mod_lt _ (by omega)))
theorem crB_lt {c : Nat} (h : c < 4294967296) (b : UInt8) : crB c b < 4294967296 := by
  unfold crB
  exact crN_lt (crN_lt (Nat.xor_lt_two_pow (n := 32) h (by have := b.toNat_lt; omega)))
theorem crFold_lt (l : List UInt8) : ∀ c, c < 4294967296 → l.foldl crB c < 4294967296 := by
  induction l with
  | nil => intro c h; exact h
  | cons b r ih => intro c h; exact ih _ (crB_lt h b)
theorem crcF_lt (l : List UInt8) : crcF l < 4294967296 := by
  unfold crcF
  exact Nat.xor_lt_two_pow (n := 32) (by omega) (crFold_lt l _ (by omega))
theorem cr_nib {c : Nat} (h : c < 4294967296) : bits BinOp.and .u32 (c : Int) 15 = ((c % 16 : Nat) : Int) := by
  have h1 : bits BinOp.and .u32 (c : Int) 15 = (c : Int) % 16 := bits_mask .u32 32 (by decide) wraps_u32 4 (by decide) _ (by omega) (by omega)
  rw [h1]
  omega
theorem cr_nx {c : Nat} (h : c < 4294967296) : bits BinOp.xor .u32 ((c : Int) / 16) ((crIter 4 (c % 16) : Nat) : Int) = ((crN c : Nat) : Int) := by
  rw [show (c : Int) / 16 = ((c / 16 : Nat) : Int) from by omega, u32_xor_nat _ _ (by omega) (crIter_lt 4 (Nat.mod_lt _ (by omega)))]
  rfl
theorem more_base {W : World} {g : Nat} (h : W.heap[g]? = some (.cells (crArr 16) 198 (0, 0))) (i : Nat) (hi : i < 16) : W.cell? ⟨g, i, none⟩ = some (.int .u32 (crIter 4 i : Nat)) := by
  unfold World.cell?
  rw [h]
  have := crArr_get 16 i hi
  rw [if_pos hi] at this
  simpa using this
set_option maxRecDepth 100000 in
set_option maxHeartbeats 4000000 in
theorem more_any (w : World) (s : ByteArray) (hz : s.size ≤ 100000) : Calls Tryz.prog 106 #[.int .u32 0, .string s] w fun e w' => e = .returned (.int .u32 (crcF s.data.toList : Nat)) ∧ Keep [] w w' := by
  go_enter Tryz.func106, Tryz.ntmps106
  go_wp2_with (fail)
  refine (made_any w).mono ?_
  rintro e w1 ⟨rfl, hk1⟩
  obtain ⟨w2, hw2⟩ : ∃ u, w1.alloc (.cells #[.int .u32 0, .int .u32 0, .int .u32 0, .int .u32 0, .int .u32 0, .int .u32 0, .int .u32 0, .int .u32 0, .int .u32 0, .int .u32 0, .int .u32 0, .int .u32 0, .int .u32 0, .int .u32 0, .int .u32 0, .int .u32 0] 198) = u := ⟨_, rfl⟩
  obtain ⟨w3, hw3⟩ : ∃ u, w2.setRow w1.heap.size (crArr 16) = u := ⟨_, rfl⟩
  have hb2 : w2.heap[w1.heap.size]? = some (.cells #[.int .u32 0, .int .u32 0, .int .u32 0, .int .u32 0, .int .u32 0, .int .u32 0, .int .u32 0, .int .u32 0, .int .u32 0, .int .u32 0, .int .u32 0, .int .u32 0, .int .u32 0, .int .u32 0, .int .u32 0, .int .u32 0] 198 (0, 0)) := by rw [← hw2]; exact World.alloc_heap_new w1 _
  have hsz : (Tryz.prog.info? 198).map (·.size) = some (crArr 16).size := by rw [crArr_size]; kernel_rfl
  have hst := run_storeVar_row (P := Tryz.prog) w2 w1.heap.size 198 198 _ (crArr 16) hb2 hsz rfl (by simp [crArr, Value.oneCell'])
  rw [hw3] at hst
  have hb3 : w3.heap[w1.heap.size]? = some (.cells (crArr 16) 198 (0, 0)) := by rw [← hw3]; exact setRow_heap w2 w1.heap.size _ _ _ _ hb2
  have hk3 : Keep [] w w3 := by
    rw [← hw3, ← hw2]
    exact (hk1.alloc _).setRow _ _ (.inr hk1.size)
  have HST := Lib.hid hst
  have HB := Lib.hid hb3
  have HK := Lib.hid hk3
  have hf : ∀ o, w3.frozen? ⟨w1.heap.size, o, none⟩ = false := fun o => by unfold World.frozen?; rw [hb3]; simp
  clear hst hb3 hk3 hsz hb2 hk1 hw3
  obtain ⟨ca, hca⟩ : ∃ ca, crArr 16 = ca := ⟨_, rfl⟩
  rw [hca] at HST ⊢
  go_wp2_with ((with_reducible refine wpList_store_all ?_ 198 (.tmp 5) (.tmp 8) ?_ (w1.heap.size) ?_ ca ?_ HST.out ?_); rfl; rfl; rfl; rfl)
  rw [show bits BinOp.xor IntKind.u32 IntKind.u32.max 0 = 4294967295 from by decide]
  clear HST
  go_loopw [6, 13] (fun c i wr => ∃ (j n : Nat), i = .int .i64 j ∧ j ≤ s.size ∧ c = .int .u32 n ∧ n = (s.data.toList.take j).foldl crB 4294967295 ∧ n < 4294967296 ∧ wr = w3) (fun _ i _ => s.size - (intOf i).toNat)
  case atStart => exact ⟨0, 4294967295, rfl, by omega, rfl, rfl, by omega, rfl⟩
  case round =>
    obtain ⟨j, n, rfl, hj, rfl, hn, hnl, rfl⟩ := hrel
    have h0j : (0 : Int) ≤ (j : Int) := Int.natCast_nonneg j
    have HN := Lib.hid hn
    clear hn
    by_cases hlt : j < s.size
    · have hjn : (j : Int) < (s.size : Int) := by omega
      have hjl : j < s.data.toList.length := by rw [str_size]; exact hlt
      obtain ⟨b, hb⟩ : ∃ b, s.data.toList[j]? = some b := ⟨_, List.getElem?_eq_getElem hjl⟩
      have HBV : Hid (∀ h, s[j]'h = b) := Lib.hid (strGet s j b hb)
      have hix : ∀ W, (Instr.index 9 (.string s) (.int .i64 j)).run Tryz.prog W = .ok (.int .u8 b.toNat) W := fun W => strAt s j b hb _ Tryz.underlying9 W
      have hnx : (s.data.toList.take (j + 1)).foldl crB 4294967295 = crN (crN (n ^^^ b.toNat)) := by rw [List.take_add_one, hb, HN.out, List.foldl_append]; rfl
      have hbl := b.toNat_lt
      obtain ⟨bn, hbn⟩ : ∃ q : Nat, b.toNat = q := ⟨_, rfl⟩
      rw [hbn] at hix hnx hbl
      have hw : IntKind.u32.wrap (bn : Int) = bn := u32_wrap_id _ (by omega) (by omega)
      obtain ⟨c1, hc1⟩ : ∃ q : Nat, n ^^^ bn = q := ⟨_, rfl⟩
      have hl1 : c1 < 4294967296 := by rw [← hc1]; exact Nat.xor_lt_two_pow (n := 32) hnl (by omega)
      have hx1 : bits BinOp.xor .u32 (n : Int) (bn : Int) = (c1 : Int) := by rw [u32_xor_nat _ _ hnl (by omega), hc1]
      rw [hc1] at hnx
      have hn1 := cr_nib hl1
      have hc1x := cr_nx hl1
      obtain ⟨k1, hk1⟩ : ∃ q : Nat, c1 % 16 = q := ⟨_, rfl⟩
      obtain ⟨c2, hc2⟩ : ∃ q : Nat, crN c1 = q := ⟨_, rfl⟩
      have hl2 : c2 < 4294967296 := by rw [← hc2]; exact crN_lt hl1
      have hk1l : k1 < 16 := by rw [← hk1]; exact Nat.mod_lt _ (by omega)
      rw [hk1] at hn1
      rw [hk1, hc2] at hc1x
      rw [hc2] at hnx
      have hn2 := cr_nib hl2
      have hc2x := cr_nx hl2
      obtain ⟨k2, hk2⟩ : ∃ q : Nat, c2 % 16 = q := ⟨_, rfl⟩
      obtain ⟨c3, hc3⟩ : ∃ q : Nat, crN c2 = q := ⟨_, rfl⟩
      have hl3 : c3 < 4294967296 := by rw [← hc3]; exact crN_lt hl2
      have hk2l : k2 < 16 := by rw [← hk2]; exact Nat.mod_lt _ (by omega)
      rw [hk2] at hn2
      rw [hk2, hc3] at hc2x
      rw [hc3] at hnx
      have d1 := more_base HB.out k1 hk1l
      have d2 := more_base HB.out k2 hk2l
      obtain ⟨t1, ht1⟩ : ∃ q : Nat, crIter 4 k1 = q := ⟨_, rfl⟩
      obtain ⟨t2, ht2⟩ : ∃ q : Nat, crIter 4 k2 = q := ⟨_, rfl⟩
      rw [ht1] at d1 hc1x
      rw [ht2] at d2 hc2x
      have hk1i : (k1 : Int) < 16 := by omega
      have hk2i : (k2 : Int) < 16 := by omega
      have HNY := Lib.hid hnx
      clear hb hjl hnx hbn hc1 hk1 hc2 hk2 hc3 ht1 ht2 HBV
      go_wp2_with (fail)
      go_roundw
      case rel => exact ⟨j + 1, c3, by go_num, by omega, rfl, HNY.out.symm, hl3, trivial⟩
      case measure => simp [intOf]; omega
    · obtain rfl : j = s.size := by omega
      go_wp2_with (fail)
      go_ret
      refine ⟨?_, HK.out⟩
      have e1 : bits BinOp.xor .u32 IntKind.u32.max (n : Int) = ((crcF s.data.toList : Nat) : Int) := by
        have h1 := HN.out
        rw [← str_size, List.take_length] at h1
        rw [show IntKind.u32.max = ((4294967295 : Nat) : Int) from rfl, u32_xor_nat _ _ (by omega) hnl]
        unfold crcF
        rw [← h1]
      rw [e1]
      rfl
theorem crc_any (w : World) (s : ByteArray) (hz : s.size ≤ 100000) : Calls Tryz.prog 85 #[.string s] w fun e w' => e = .returned (.int .u32 (crcF s.data.toList : Nat)) ∧ Keep [] w w' := by
  go_enter Tryz.func85, Tryz.ntmps85
  go_wp2_with (fail)
  refine (more_any w s hz).mono ?_
  rintro e w1 ⟨rfl, hk⟩
  have HK := Lib.hid hk
  clear hk
  go_wp2_with (fail)
  go_ret
  exact ⟨rfl, HK.out⟩
end
section
open Go.RowKit Go.Lib
set_option linter.unusedSimpArgs false
set_option linter.unusedVariables false
theorem msg_size : (Tryz.prog.info? 47).map (·.size) = some 22 := by kernel_rfl
theorem store_ms {W : World} {b : Nat} {old cs : Array Value} (h : MsAt W b old) (ho : old.size = 22) (hc : cs.size = 22) (h1 : cs.all (·.oneCell') = true) : (storeCells ⟨b, 0, none⟩ cs.toList 0).run Tryz.prog W = .ok () (W.setRow b cs) := by
  have := run_storeVar_row (P := Tryz.prog) W b 47 47 old cs h (by rw [hc]; exact msg_size) (by omega) h1
  have hi := msg_size
  cases hq : Tryz.prog.info? 47 with
  | none => simp [hq] at hi
  | some i =>
    have hs : cs.size = i.size := by simp [hq] at hi; omega
    simpa [storeVar, sizeOf, typeInfo, hq, Value.cells, hs] using this
theorem load_ms {W : World} {b : Nat} {cs : Array Value} (h : MsAt W b cs) (hc : cs.size = 22) : (loadCellsFrom ⟨b, 0, none⟩ 0 22 #[]).run Tryz.prog W = .ok cs W := by
  have := run_loadCells_list (P := Tryz.prog) W ⟨b, 0, none⟩ cs.toList (fun j v hv => by
    rw [add_at, Nat.zero_add, h.cell j]
    simpa using hv)
  simpa [loadCells, hc] using this
theorem loadVar_ms {W : World} {b : Nat} {cs : Array Value} (h : MsAt W b cs) (hc : cs.size = 22) : (loadVar 47 ⟨b, 0, none⟩).run Tryz.prog W = .ok (.agg cs) W :=
  run_loadVar_row W b 47 47 cs (0, 0) _ h Tryz.underlying47 rfl (by rw [hc]; exact msg_size)
theorem Mg.one (m : Mg) (a : Option Addr) (n c : Nat) : (m.cells (.slice a n c)).all (·.oneCell') = true := by
  simp [Mg.cells, msC, Value.oneCell']
theorem MsAt.row {W : World} {b : Nat} {old cs : Array Value} (h : MsAt W b old) : MsAt (W.setRow b cs) b cs := setRow_heap W b old cs _ _ h
set_option maxRecDepth 100000 in
set_option maxHeartbeats 4000000 in
theorem read_any {w : World} {s : ByteArray} {m : Mg} (ho : m.Ok) (hs : s.data.toList = m.enc) : Calls Tryz.prog 82 #[.string s] w fun e w' => ∃ vp, e = .returned (.tuple #[.agg (m.cells vp), .int .i64 0]) ∧ IRow w.heap.size w' vp m.own ∧ Keep [] w w' := by
  have hmf : ∀ (fn : Fn) (first cap : Array Value) (w : World), (Instr.makeFunc fn first cap).run Tryz.prog w = .ok (.func fn first cap) w := fun _ _ _ _ => rfl
  obtain ⟨w1, hw1⟩ : ∃ u, w.alloc (.cells #[.int .u8 0, .int .i64 0, .int .i64 0, .int .i64 0, .int .i64 0, .int .i64 0, .int .i64 0, .int .u64 0, .int .i64 0, .int .i64 0, .int .i64 0, .int .i64 0, .int .u8 0, .string ⟨#[]⟩, .int .i64 0, .int .i64 0, .int .i64 0, .int .i64 0, .int .i64 0, .slice none 0 0, .slice none 0 0, .string ⟨#[]⟩] 47) = u := ⟨_, rfl⟩
  obtain ⟨w2, hw2⟩ : ∃ u, w1.alloc (.cells #[.int .u8 0, .int .i64 0, .int .i64 0, .int .i64 0, .int .i64 0, .int .i64 0, .int .i64 0, .int .u64 0, .int .i64 0, .int .i64 0, .int .i64 0, .int .i64 0, .int .u8 0, .string ⟨#[]⟩, .int .i64 0, .int .i64 0, .int .i64 0, .int .i64 0, .int .i64 0, .slice none 0 0, .slice none 0 0, .string ⟨#[]⟩] 47) = u := ⟨_, rfl⟩
  obtain ⟨w3, hw3⟩ : ∃ u, w2.alloc (.cells #[.string s, .int .i64 0, .int .i64 0] 194) = u := ⟨_, rfl⟩
  obtain ⟨w4, hw4⟩ : ∃ u, w3.alloc (.cells #[.pointer (some ⟨w.heap.size + 2, 0, none⟩)] 187) = u := ⟨_, rfl⟩
  obtain ⟨w5, hw5⟩ : ∃ u, w4.alloc (.cells #[.pointer (some ⟨w.heap.size + 3, 0, none⟩)] 183) = u := ⟨_, rfl⟩
  have s1 : w1.heap.size = w.heap.size + 1 := by rw [← hw1, World.size_alloc]
  have s2 : w2.heap.size = w.heap.size + 2 := by rw [← hw2, World.size_alloc, s1]
  have s3 : w3.heap.size = w.heap.size + 3 := by rw [← hw3, World.size_alloc, s2]
  have s4 : w4.heap.size = w.heap.size + 4 := by rw [← hw4, World.size_alloc, s3]
  have s5 : w5.heap.size = w.heap.size + 5 := by rw [← hw5, World.size_alloc, s4]
  have k1 : Keep [] w w1 := by rw [← hw1]; exact (Keep.refl _ _).alloc _
  have k2 : Keep [] w1 w2 := by rw [← hw2]; exact (Keep.refl _ _).alloc _
  have k3 : Keep [] w2 w3 := by rw [← hw3]; exact (Keep.refl _ _).alloc _
  have k4 : Keep [] w3 w4 := by rw [← hw4]; exact (Keep.refl _ _).alloc _
  have k5 : Keep [] w4 w5 := by rw [← hw5]; exact (Keep.refl _ _).alloc _
  have m1 : MsAt w5 w.heap.size (msC 0 0 0 0 0 0 (.slice none 0 0)) := MsAt.keep (X := []) (W := w1) (by rw [← hw1]; exact World.alloc_heap_new w _) (((k2.trans k3).trans k4).trans k5) (by simp)
  have m2 : MsAt w5 (w.heap.size + 1) (msC 0 0 0 0 0 0 (.slice none 0 0)) := MsAt.keep (X := []) (W := w2) (by rw [← hw2, ← s1]; exact World.alloc_heap_new w1 _) ((k3.trans k4).trans k5) (by simp)
  have i3 : InAt w5 (w.heap.size + 2) s 0 := InAt.keep (X := []) (W := w3) (by rw [← hw3, ← s2]; exact World.alloc_heap_new w2 _) (k4.trans k5) (by simp)
  have r4 : OneAt w5 (w.heap.size + 3) (.pointer (some ⟨w.heap.size + 2, 0, none⟩)) 187 := OneAt.keep (X := []) (W := w4) (by rw [← hw4, ← s3]; exact OneAt.new _ _ _) k5 (by simp)
  have c5 : OneAt w5 (w.heap.size + 4) (.pointer (some ⟨w.heap.size + 3, 0, none⟩)) 183 := by rw [← hw5, ← s4]; exact OneAt.new _ _ _
  have hk5 := (((k1.trans k2).trans k3).trans k4).trans k5
  have hsf := safeR_any (w := w5) (w.heap.size + 4) (w.heap.size + 1) (fun W w' => ∃ vp, StR (w.heap.size + 3) (w.heap.size + 2) (w.heap.size + 1) s s.size (m.cells vp) W w' ∧ IRow W.heap.size w' vp m.own) (fun W w' ⟨vp, h1, _⟩ => ⟨_, h1.K, by simp [s5]⟩) (fun W hk => read1_any ho (c5.keep hk (by simp)) (StR.mk (i3.keep hk (by simp)) (r4.keep hk (by simp)) (m2.keep hk (by simp)) (Keep.refl _ _) rfl) hs)
  have hz : s.size ≤ 100000 := by rw [← str_size, hs]; have := Mg.enc_len ho; omega
  have HSF := Lib.hid hsf
  have HK := Lib.hid hk5
  have M1 := Lib.hid m1
  have C5 := Lib.hid c5
  have S5 := Lib.hid s5
  clear hsf hk5 m1 m2 i3 r4 c5 k1 k2 k3 k4 k5 s5 hs
  go_enter Tryz.func82, Tryz.ntmps82
  go_wp2_with (fail)
  refine (of_any_in _ s).mono ?_
  rintro e w3' ⟨rfl, rfl⟩
  rw [hw3, s2]
  go_wp2_with (fail)
  refine HSF.out.mono ?_
  rintro e w6 ⟨rfl, W, w7, ka, hlt, ⟨vp, hst, hrow⟩, kb⟩
  have hkc : Keep [w.heap.size + 2, w.heap.size + 1] w5 w7 := (ka.mono (by simp)).trans hst.K
  have hi6 := hst.I.keep kb (by rw [S5.out]; simp)
  have hm6 := hst.M.keep kb (by rw [S5.out]; simp)
  have hr6 := hst.R.keep kb (by rw [S5.out]; simp)
  have hc6 := (C5.out.keep hkc (by simp)).keep kb (by rw [S5.out]; simp)
  have h16 := (M1.out.keep hkc (by simp)).keep kb (by rw [S5.out]; simp)
  have hp6 : IRow w.heap.size w6 vp m.own := own_low (hrow.keep kb (fun b hb => by have h1 := own_base hrow b hb; simp; omega)) (by have := HK.out.size; have := ka.size; omega)
  have HKC : Hid (Keep [] w w6) := Lib.hid ((HK.out.step hkc (by simp)).step kb (by have := HK.out.size; simp; omega))
  obtain ⟨a, c, rfl, _⟩ := own_shape hp6
  have HI := Lib.hid hi6
  have HM := Lib.hid hm6
  have HR := Lib.hid hr6
  have H1 := Lib.hid h16
  have HP := Lib.hid hp6
  have HE := Lib.hid (endin_any hi6 hz)
  have d0 := hc6.facts.1
  have d1 := hr6.facts.1
  clear ka hlt hst hrow kb hkc hi6 hm6 hr6 hc6 h16 hp6 HSF M1 C5
  go_wp2_with (fail)
  refine HE.out.mono ?_
  rintro e w8 ⟨rfl, hk8⟩
  have HKC : Hid (Keep [] w w8) := Lib.hid (HKC.out.trans hk8)
  have HM : Hid (MsAt w8 (w.heap.size + 1) (msC m.k m.mv m.pt m.to m.ep m.nd (.slice a m.own.length c))) := Lib.hid (HM.out.keep hk8 (by simp))
  have H1 := Lib.hid (H1.out.keep hk8 (by simp))
  have HP := Lib.hid (HP.out.keep hk8 (by simp))
  clear hk8
  obtain ⟨cv, hcv⟩ : ∃ cv, m.cells (.slice a m.own.length c) = cv := ⟨_, rfl⟩
  have hone : cv.all (·.oneCell') = true := by rw [← hcv]; exact Mg.one m a _ c
  have hsz : cv.size = 22 := by rw [← hcv]; rfl
  obtain ⟨w9, hw9⟩ : ∃ u, w8.setRow w.heap.size cv = u := ⟨_, rfl⟩
  have hst := run_storeVar_row (P := Tryz.prog) w8 w.heap.size 47 47 _ cv H1.out (by rw [hsz]; exact msg_size) (by rw [hsz]; rfl) hone
  rw [hw9] at hst
  have HST := Lib.hid hst
  have HM8 : Hid (w8.heap[w.heap.size + 1]? = some (.cells cv 47 (0, 0))) := Lib.hid (hcv ▸ HM.out)
  have HSZ := Lib.hid (show (Tryz.prog.info? 47).map (·.size) = some cv.size by rw [hsz]; exact msg_size)
  have hk9 : Keep [w.heap.size] w8 w9 := by rw [← hw9]; exact (Keep.refl _ _).setRow _ _ (.inl (by simp))
  have HM9 : Hid (MsAt w9 w.heap.size cv) := Lib.hid (by rw [← hw9]; exact H1.out.row)
  have HK9 : Hid (Keep [] w w9) := Lib.hid (HKC.out.step hk9 (by simp))
  have HP9 : Hid (IRow w.heap.size w9 (.slice a m.own.length c) m.own) := Lib.hid (HP.out.keep hk9 (fun b hb => by have := own_ne_obj HP.out H1.out (by decide) b hb; simpa using this))
  have HLV := Lib.hid (loadVar_ms HM9.out hsz)
  have HCV := Lib.hid hcv
  clear hcv hone hk9 hw9 H1 HM hst
  go_wp2_with (first | ((with_reducible refine wpList_load_row ?_ 47 (.tmp 4) ?_ (w.heap.size + 1) ?_ 47 cv (0, 0) _ HM8.out Tryz.underlying47 ?_ HSZ.out ?_); rfl; rfl; rfl; rfl) | ((with_reducible refine wpList_store_all ?_ 47 (.tmp 2) (.tmp 27) ?_ w.heap.size ?_ cv ?_ HST.out ?_); rfl; rfl; rfl; rfl))
  refine bodyPost_ret (v := .tuple #[.agg cv, .int .i64 0]) (by rw [results_cell_tmp rfl]; show ((loadVar 47 ⟨w.heap.size, 0, none⟩).run Tryz.prog w9).andThen (fun v w₂ => Result.ok (Value.tuple #[v, .int .i64 0]) w₂) = _; rw [HLV.out]; rfl) rfl ?_
  exact ⟨_, by rw [HCV.out], HP9.out, HK9.out⟩
set_option maxRecDepth 100000 in
set_option maxHeartbeats 4000000 in
theorem bytes_any {w : World} {m : Mg} {a : Option Addr} {c : Nat} (ho : m.Ok) (hc : m.k = 4 ∨ m.k = 12 → a = none ∧ c = 0) (hI : IntsAt w a m.own) : Calls Tryz.prog 57 #[.agg (m.cells (.slice a m.own.length c))] w fun e w' => e = .returned (.tuple #[.string ⟨m.enc.toArray⟩, .int .i64 0]) ∧ Keep [] w w' := by
  have hmf : ∀ (fn : Fn) (first cap : Array Value) (w : World), (Instr.makeFunc fn first cap).run Tryz.prog w = .ok (.func fn first cap) w := fun _ _ _ _ => rfl
  obtain ⟨cv, hcv⟩ : ∃ cv, m.cells (.slice a m.own.length c) = cv := ⟨_, rfl⟩
  have hone : cv.all (·.oneCell') = true := by rw [← hcv]; exact Mg.one m a _ c
  have hsz : cv.size = 22 := by rw [← hcv]; rfl
  have hbox : ∀ W : World, (Instr.box 47 (.agg cv)).run Tryz.prog W = .ok (.pointer (some ⟨W.heap.size, 0, none⟩)) (W.alloc (.cells cv 47)) := by
    intro W
    rw [← hcv]
    rfl
  obtain ⟨w1, hw1⟩ : ∃ u, w.alloc (.cells cv 47) = u := ⟨_, rfl⟩
  obtain ⟨w2, hw2⟩ : ∃ u, w1.alloc (.cells #[.slice none 0 0] 142) = u := ⟨_, rfl⟩
  obtain ⟨w3, hw3⟩ : ∃ u, w2.alloc (.cells #[.int .u8 0, .int .i64 0, .int .i64 0, .int .i64 0, .int .i64 0, .int .i64 0, .int .i64 0, .int .u64 0, .int .i64 0, .int .i64 0, .int .i64 0, .int .i64 0, .int .u8 0, .string ⟨#[]⟩, .int .i64 0, .int .i64 0, .int .i64 0, .int .i64 0, .int .i64 0, .slice none 0 0, .slice none 0 0, .string ⟨#[]⟩] 47) = u := ⟨_, rfl⟩
  obtain ⟨w4, hw4⟩ : ∃ u, w3.setRow (w.heap.size + 2) cv = u := ⟨_, rfl⟩
  have s1 : w1.heap.size = w.heap.size + 1 := by rw [← hw1, World.size_alloc]
  have s2 : w2.heap.size = w.heap.size + 2 := by rw [← hw2, World.size_alloc, s1]
  have s3 : w3.heap.size = w.heap.size + 3 := by rw [← hw3, World.size_alloc, s2]
  have s4 : w4.heap.size = w.heap.size + 3 := by rw [← hw4]; simpa using s3
  have k1 : Keep [] w w1 := by rw [← hw1]; exact (Keep.refl _ _).alloc _
  have k2 : Keep [] w1 w2 := by rw [← hw2]; exact (Keep.refl _ _).alloc _
  have k3 : Keep [] w2 w3 := by rw [← hw3]; exact (Keep.refl _ _).alloc _
  have k4 : Keep [w.heap.size + 2] w3 w4 := by rw [← hw4]; exact (Keep.refl _ _).setRow _ _ (.inl (by simp))
  have m1 : MsAt w1 w.heap.size cv := by rw [← hw1]; exact World.alloc_heap_new w _
  have m2 : MsAt w2 w.heap.size cv := m1.keep k2 (by simp)
  have m4 : MsAt w4 w.heap.size cv := (m2.keep k3 (by simp)).keep k4 (by simp)
  have z3 : MsAt w3 (w.heap.size + 2) (msC 0 0 0 0 0 0 (.slice none 0 0)) := by rw [← hw3, ← s2]; exact World.alloc_heap_new w2 _
  have o4 : MsAt w4 (w.heap.size + 2) cv := by rw [← hw4]; exact z3.row
  have wr2 : OneAt w2 (w.heap.size + 1) (.slice none 0 0) 142 := by rw [← hw2, ← s1]; exact OneAt.new _ _ _
  have wr4 := (wr2.keep k3 (by simp)).keep k4 (by simp)
  have hk4 : Keep [] w w4 := ((k1.trans k2).trans k3).step k4 (by simp)
  have hI4 := hI.keep hk4 (by simp)
  have hab : m.own ≠ [] → ∀ b o, a = some ⟨b, o, none⟩ → b < w.heap.size := fun hne b o e => by
    obtain ⟨b', o', e', h2, _⟩ := hI hne
    rw [e] at e'
    cases e'
    exact h2
  have hst := run_storeVar_row (P := Tryz.prog) w3 (w.heap.size + 2) 47 47 _ cv z3 (by rw [hsz]; exact msg_size) (by rw [hsz]; rfl) hone
  rw [hw4] at hst
  have hsf := safeW_any (w := w4) (w.heap.size + 1) (w.heap.size + 2) (fun W w' => WrD w.heap.size (w.heap.size + 1) (w.heap.size + 2) (.slice none 0 0) m.enc W w') (fun W w' ⟨v1, cs, h1, _⟩ => ⟨_, h1.keep, by simp [s4, Value.ownBlock]⟩) (fun W hk => bytes1_any (v := .slice none 0 0) ho hc ⟨.slice none 0 0, ⟨⟨wr4.keep hk (by simp), World.ownsRow_nil _ _ _ _, Nat.le_trans hk4.size hk.size⟩, Keep.refl _ _, .inl rfl⟩, hcv ▸ o4.keep hk (by simp), hI4.keep hk (by simp), ⟨by omega, by omega⟩, hab⟩)
  have HST := Lib.hid hst
  have HM2 : Hid (w2.heap[w.heap.size]? = some (.cells cv 47 (0, 0))) := Lib.hid m2
  have HSZ := Lib.hid (show (Tryz.prog.info? 47).map (·.size) = some cv.size by rw [hsz]; exact msg_size)
  have HM4 := Lib.hid m4
  have HSF := Lib.hid hsf
  have HK4 := Lib.hid hk4
  have HI4 := Lib.hid hI4
  have HCV := Lib.hid hcv
  have S4 := Lib.hid s4
  have HONE := Lib.hid hone
  have HSIZE := Lib.hid hsz
  rw [hcv]
  have hI0 := Lib.hid hab
  clear hst hsf hk4 hI4 hab m1 m2 m4 z3 o4 wr2 wr4 k1 k2 k3 k4 s3 s4 hcv hone hsz hI hw4
  go_enter Tryz.func57, Tryz.ntmps57
  go_wp2_with (first | ((with_reducible refine wpList_load_row ?_ 47 (.tmp 1) ?_ (w.heap.size) ?_ 47 cv (0, 0) _ HM2.out Tryz.underlying47 ?_ HSZ.out ?_); rfl; rfl; rfl; rfl) | ((with_reducible refine wpList_store_all ?_ 47 (.tmp 5) (.tmp 10) ?_ (w.heap.size + 2) ?_ cv ?_ HST.out ?_); rfl; rfl; rfl; rfl))
  refine HSF.out.mono ?_
  rintro e w7 ⟨rfl, W, w6, ka, hlt, ⟨v1, cs1, hwr, _⟩, kb⟩
  rw [S4.out] at kb hlt
  have hk6 : Keep [w.heap.size + 1, w.heap.size + 2] w4 w6 := (ka.mono (by simp)).trans (hwr.keep.mono (by simp [Value.ownBlock]))
  have hwa : WrAt w.heap.size w7 (w.heap.size + 1) v1 m.enc := hwr.at_.keep kb (by simp) (fun b hb => by
    rcases hwr.up with e | ⟨g, e, hg⟩
    · rw [e] at hb; cases hb
    · rw [e] at hb; obtain rfl : g = b := by simpa using hb
      simp; omega)
  have hm7 := (HM4.out.keep hk6 (by simp)).keep kb (by simp)
  have hkk : Keep [] w w7 := (HK4.out.step hk6 (by simp)).step kb (by simp)
  have hI7 := (HI4.out.keep hk6 (fun hne b o e => by have := hI0.out hne b o e; simp; omega)).keep kb (fun hne b o e => by have := hI0.out hne b o e; simp; omega)
  have HK7 := Lib.hid hkk
  have HI7 := Lib.hid hI7
  have HM7 := Lib.hid hm7
  have HWA := Lib.hid hwa
  clear hk6 hwa hm7 hkk hI7 ka hlt hwr kb HSF HM4 HK4 HI4
  go_wp2_with (fail)
  refine (ostring_any HWA.out (Mg.enc_ne m)).mono ?_
  rintro e w7' ⟨rfl, hw7⟩
  rw [hw7]
  clear hw7
  go_wp2_with (fail)
  refine (read_any (w := w7) (s := ⟨m.enc.toArray⟩) ho rfl).mono ?_
  rintro e w8 ⟨vp, rfl, hvp, hk8⟩
  obtain ⟨a2, c2, rfl, _⟩ := own_shape hvp
  obtain ⟨cw, hcw⟩ : ∃ cw, m.cells (.slice a2 m.own.length c2) = cw := ⟨_, rfl⟩
  have hone : cw.all (·.oneCell') = true := by rw [← hcw]; exact Mg.one m a2 _ c2
  have hsz : cw.size = 22 := by rw [← hcw]; rfl
  rw [hcw]
  obtain ⟨w9, hw9⟩ : ∃ u, w8.alloc (.cells #[.int .u8 0, .int .i64 0, .int .i64 0, .int .i64 0, .int .i64 0, .int .i64 0, .int .i64 0, .int .u64 0, .int .i64 0, .int .i64 0, .int .i64 0, .int .i64 0, .int .u8 0, .string ⟨#[]⟩, .int .i64 0, .int .i64 0, .int .i64 0, .int .i64 0, .int .i64 0, .slice none 0 0, .slice none 0 0, .string ⟨#[]⟩] 47) = u := ⟨_, rfl⟩
  obtain ⟨w10, hw10⟩ : ∃ u, w9.setRow w8.heap.size cw = u := ⟨_, rfl⟩
  have k9 : Keep [] w8 w9 := by rw [← hw9]; exact (Keep.refl _ _).alloc _
  have k10 : Keep [w8.heap.size] w9 w10 := by rw [← hw10]; exact (Keep.refl _ _).setRow _ _ (.inl (by simp))
  have z9 : MsAt w9 w8.heap.size (msC 0 0 0 0 0 0 (.slice none 0 0)) := by rw [← hw9]; exact World.alloc_heap_new w8 _
  have z10 : MsAt w10 w8.heap.size cw := by rw [← hw10]; exact z9.row
  have hst := run_storeVar_row (P := Tryz.prog) w9 w8.heap.size 47 47 _ cw z9 (by rw [hsz]; exact msg_size) (by rw [hsz]; rfl) hone
  rw [hw10] at hst
  have hm8 := HM7.out.keep hk8 (by simp)
  have hl8 := lt_of_heap hm8
  have hm10 : MsAt w10 w.heap.size cv := (hm8.keep k9 (by simp)).keep k10 (by simp; omega)
  have hI10 := ((HI7.out.keep hk8 (by simp)).keep k9 (by simp)).keep k10 (fun hne b o e => by have := hI0.out hne b o e; simp; omega)
  have hr10 := ((hvp.keep k9 (by simp)).keep k10 (fun b hb => by have := own_lt hvp b hb; simp; omega)).at
  have hk10 : Keep [] w w10 := ((HK7.out.trans hk8).trans k9).step k10 (by have := HK7.out.size; have := hk8.size; simp; omega)
  have hsame := same_ms (w := w10) m.k m.mv m.pt m.to m.ep m.nd c2 c hr10 hI10 ho.len
  rw [show msC m.k m.mv m.pt m.to m.ep m.nd (.slice a2 m.own.length c2) = cw from hcw, show msC m.k m.mv m.pt m.to m.ep m.nd (.slice a m.own.length c) = cv from HCV.out] at hsame
  have HSM := Lib.hid hsame
  have HST2 := Lib.hid hst
  have HZ10 : Hid (w10.heap[w8.heap.size]? = some (.cells cw 47 (0, 0))) := Lib.hid z10
  have HM10 : Hid (w10.heap[w.heap.size]? = some (.cells cv 47 (0, 0))) := Lib.hid hm10
  have HSZ2 := Lib.hid (show (Tryz.prog.info? 47).map (·.size) = some cw.size by rw [hsz]; exact msg_size)
  have HK10 := Lib.hid hk10
  clear hvp hk8 hcw hone hsz k9 k10 z9 z10 hst hm8 hl8 hm10 hI10 hr10 hk10 hsame hw10 HM7 HI7 HWA
  go_wp2_with (first | ((with_reducible refine wpList_load_row ?_ 47 (.tmp 8) ?_ (w8.heap.size) ?_ 47 cw (0, 0) _ HZ10.out Tryz.underlying47 ?_ HSZ2.out ?_); rfl; rfl; rfl; rfl) | ((with_reducible refine wpList_load_row ?_ 47 (.tmp 1) ?_ (w.heap.size) ?_ 47 cv (0, 0) _ HM10.out Tryz.underlying47 ?_ HSZ.out ?_); rfl; rfl; rfl; rfl) | ((with_reducible refine wpList_store_all ?_ 47 (.tmp 8) (.tmp 21) ?_ (w8.heap.size) ?_ cw ?_ HST2.out ?_); rfl; rfl; rfl; rfl))
  refine HSM.out.mono ?_
  rintro e w11 ⟨rfl, hk11⟩
  have HK11 := Lib.hid (HK10.out.trans hk11)
  clear hk11
  go_wp2_with (fail)
  go_ret2
  exact ⟨rfl, HK11.out⟩
end
section
open Go.RowKit Go.Lib
set_option linter.unusedSimpArgs false
set_option linter.unusedVariables false
/-- A number's lowest n bytes. -/
def leB (n x : Nat) : List UInt8 := (List.range n).map fun i => UInt8.ofNat (x / 2 ^ (8 * i) % 256)
theorem leB_succ (n x : Nat) : leB (n + 1) x = leB n x ++ [UInt8.ofNat (x / 2 ^ (8 * n) % 256)] := by simp [leB, List.range_succ]
theorem leB_len (n x : Nat) : (leB n x).length = n := by simp [leB]
set_option maxRecDepth 100000 in
theorem little_any {base : Nat} {w : World} {v : Value} {l : List UInt8} (h : BRow base w v l) (hb : base ≤ w.heap.size) (hl : l.length ≤ 90000) (x : Nat) (hx : x < 4294967296) : Calls Tryz.prog 105 #[v, .int .u64 x, .int .i64 4] w fun e w' => ∃ v', e = .returned v' ∧ BRow base w' v' (l ++ leB 4 x) ∧ Keep v.ownBlock.toList w w' ∧ OwnUp w v v' := by
  have H := Lib.hid h
  clear h
  obtain ⟨av, cv, rfl, _⟩ := own_shape H.out
  go_enter Tryz.func105, Tryz.ntmps105
  go_wp2_with (fail)
  go_loopw [0, 9] (fun a i wr => ∃ (j : Nat), i = .int .i64 j ∧ j ≤ 4 ∧ BRow base wr a (l ++ leB j x) ∧ Keep (Value.slice av l.length cv).ownBlock.toList w wr ∧ (a.ownBlock = (Value.slice av l.length cv).ownBlock ∨ ∃ g, a.ownBlock = some g ∧ w.heap.size ≤ g)) (fun _ i _ => 4 - (intOf i).toNat)
  case atStart => exact ⟨0, rfl, by omega, by simpa [leB] using H.out, Keep.refl _ _, .inl rfl⟩
  case round =>
    obtain ⟨j, rfl, hj, hr, hk, hob⟩ := hrel
    have h0j : (0 : Int) ≤ (j : Int) := Int.natCast_nonneg j
    obtain ⟨l2, hl2⟩ : ∃ l2, l ++ leB j x = l2 := ⟨_, rfl⟩
    have hlen2 : l2.length ≤ 90004 := by rw [← hl2, List.length_append, leB_len]; omega
    rw [hl2] at hr
    obtain ⟨a2, c2, rfl, _⟩ := own_shape hr
    by_cases hlt : j < 4
    · have hjn : (j : Int) < 4 := by omega
      obtain ⟨q, hq⟩ : ∃ q, x / 2 ^ (8 * j) = q := ⟨_, rfl⟩
      have step : ∀ (b : UInt8) (vb : Value), byV b = vb → ∀ (Wx : World), Wx = wr.alloc (.cells #[vb] 5) → BRow base Wx (.slice a2 l2.length c2) l2 ∧ Wx.cell? ⟨wr.heap.size, 0, none⟩ = some (byV b) ∧ base ≤ Wx.heap.size ∧
          (∀ (v' : Value) (w' : World), Keep (Value.slice a2 l2.length c2).ownBlock.toList Wx w' → (v'.ownBlock = (Value.slice a2 l2.length c2).ownBlock ∨ v'.ownBlock = some (wr.heap.size + 1)) → Keep (Value.slice av l.length cv).ownBlock.toList w w' ∧ (v'.ownBlock = (Value.slice av l.length cv).ownBlock ∨ ∃ g, v'.ownBlock = some g ∧ w.heap.size ≤ g)) := by
        intro b vb hvb Wx hWx
        subst hWx
        have ka : Keep [] wr (wr.alloc (.cells #[vb] 5)) := (Keep.refl _ _).alloc _
        refine ⟨hr.keep ka (by simp), ?_, Nat.le_trans hb (Nat.le_trans hk.size ka.size), fun v' w' h1 h2 => ?_⟩
        · have := cells_new wr [vb] 5 _ rfl 0 vb rfl
          rw [hvb]
          simp [Addr.add]
        · have k2 : Keep (Value.slice av l.length cv).ownBlock.toList w (wr.alloc (.cells #[vb] 5)) := hk.alloc _
          refine ⟨k2.step h1 (fun z hz => ?_), ?_⟩
          · rcases hob with e | ⟨g, e, hg⟩
            · exact .inl (by rw [← e]; exact hz)
            · rw [e] at hz
              obtain rfl : z = g := by simpa using hz
              exact .inr hg
          · rcases h2 with e | e
            · rw [e]; exact hob
            · exact .inr ⟨_, e, by have := k2.size; rw [World.size_alloc] at this; exact this⟩
      have hq2 : (x : Int) / 2 ^ (8 * j) = q := by rw [← hq]; push_cast; rfl
      have hbv : byV (UInt8.ofNat (q % 256)) = .int .u8 ((x : Int) / 2 ^ (8 * j) % 256) := by rw [byV_ofNat _ (by omega), hq2]; congr 1
      obtain ⟨bb, hbb⟩ : ∃ b, UInt8.ofNat (q % 256) = b := ⟨_, rfl⟩
      rw [hbb] at hbv
      obtain ⟨r1, r2, r3, r4⟩ := step _ _ hbv _ rfl
      have hnext : l ++ leB (j + 1) x = l2 ++ [bb] := by rw [leB_succ, hq, hbb, ← List.append_assoc, hl2]
      have R1 := Lib.hid r1
      have R2 := Lib.hid r2
      have R3 := Lib.hid r3
      have R4 := Lib.hid r4
      have HN := Lib.hid hnext
      clear r1 r2 r3 r4 hbv hbb step hr hk hob hl2 hnext hq hq2
      go_wp2_with (at_builtin; refine wpList_append_byte rfl _ _ rfl base _ l2 rfl R1.out ⟨wr.heap.size, 0, none⟩ 1 rfl _ R2.out (by omega) R3.out ?_)
      intro v' w' hr' hk' hat'
      obtain ⟨k1, k2⟩ := R4.out v' w' hk' hat'
      rw [← HN.out] at hr'
      have HN := Lib.hid hr'
      have HK1 := Lib.hid k1
      have HK2 := Lib.hid k2
      clear hr' hk' hat' k1 k2
      go_wp2_with (fail)
      go_roundw
      case rel => exact ⟨j + 1, by go_num, by omega, HN.out, HK1.out, HK2.out⟩
      case measure => simp [intOf]; omega
    · obtain rfl : j = 4 := by omega
      have HR := Lib.hid hr
      have HK := Lib.hid hk
      have HO := Lib.hid hob
      have HL2 := Lib.hid hl2
      clear hr hk hob hl2
      go_wp2_with (fail)
      go_ret
      exact ⟨_, rfl, by rw [HL2.out]; exact HR.out, HK.out, HO.out⟩
set_option maxRecDepth 100000 in
theorem put_any {base : Nat} {w : World} {v : Value} {l : List UInt8} (h : BRow base w v l) (hb : base ≤ w.heap.size) (hl : l.length ≤ 90000) (x : Nat) (hx : x < 4294967296) : Calls Tryz.prog 84 #[v, .int .u32 x] w fun e w' => ∃ v', e = .returned v' ∧ BRow base w' v' (l ++ leB 4 x) ∧ Keep v.ownBlock.toList w w' ∧ OwnUp w v v' := by
  have HC := Lib.hid (little_any h hb hl x hx)
  obtain ⟨av, cv, rfl, _⟩ := own_shape h
  clear h
  go_enter Tryz.func84, Tryz.ntmps84
  go_wp2_with (fail)
  refine HC.out.mono ?_
  rintro e w1 ⟨v', rfl, h1, h2, h3⟩
  have hs : ∃ a n c, v' = .slice a n c := by obtain ⟨a, c, h, _⟩ := own_shape h1; exact ⟨a, _, c, h⟩
  obtain ⟨a', n', c', rfl⟩ := hs
  have H1 := Lib.hid h1
  have H2 := Lib.hid h2
  have H3 := Lib.hid h3
  clear h1 h2 h3
  go_wp2_with (fail)
  go_ret
  exact ⟨_, rfl, H1.out, H2.out, H3.out⟩
/-- A text's frame. -/
def frameB (b : List UInt8) : List UInt8 := leB 4 b.length ++ leB 4 (crcF (leB 4 b.length)) ++ b ++ leB 4 (crcF b)
theorem wpList_append_str {w : World} {ops : Array Oper} {rest : List Oper} {o : Oper} {a : Act} {Q : Exit → Act → World → Prop} (hgd : o.guard = none) (s x : Operand)
    (ho : o.op = .call { callee := .builtin .append, args := #[s, x], argTypes := #[119, 9] }) (base : Nat) (v : Value) (M : List UInt8) (hs : a.eval s = v) (hown : BRow base w v M)
    (b : ByteArray) (hx : a.eval x = .string b) (hm : M.length ≤ 100000) (hz : b.size ≤ 100000) (hbase : base ≤ w.heap.size)
    (h : ∀ v' w', BRow base w' v' (M ++ b.data.toList) → Keep v.ownBlock.toList w w' → wpList Tryz.prog ops Q rest (a.put o.dst v') w') :
    wpList Tryz.prog ops Q (o :: rest) a w := by
  obtain ⟨i0, hi0, hz0, hz1, hz2⟩ := info_parts infoU8
  refine wpList_append_own_string w hgd s x 119 9 ho base 5 i0 Tryz.underlying119 Tryz.underlying9 hi0 hz0 hz1 hz2 v M.length (M.map byV) hs hown b hx (by unfold maxLen; omega) (by omega) hbase ?_
  intro v' w' hown' hgrow _
  refine h v' w' ?_ ((Keep.refl _ w).grown hgrow (fun k hk => .inl (by simp [hk])))
  unfold BRow
  rw [List.length_append, List.map_append, str_size]
  exact hown'
set_option maxRecDepth 100000 in
set_option maxHeartbeats 2000000 in
theorem fput_any (w : World) (s : ByteArray) (hz : s.size ≤ 16384) : Calls Tryz.prog 58 #[.string s] w fun e w' => e = .returned (.tuple #[.string ⟨(frameB s.data.toList).toArray⟩, .int .i64 0]) ∧ Keep [] w w' := by
  have hgt : ¬ (16384 : Int) < s.size := by omega
  have HC1 := fun (W : World) (t : ByteArray) (h : t.size ≤ 100000) => crc_any W t h
  have HCR := Lib.hid HC1
  clear HC1
  go_enter Tryz.func58, Tryz.ntmps58
  go_wp2_with (fail)
  refine (put_any (show BRow w.heap.size w (.slice none 0 0) [] from World.ownsRow_nil w w.heap.size 5 1) (Nat.le_refl _) (by simp) s.size (by omega)).mono ?_
  rintro e w1 ⟨v1, rfl, h1, hk1, _⟩
  rw [List.nil_append] at h1
  obtain ⟨l1, hl1⟩ : ∃ l1, leB 4 s.size = l1 := ⟨_, rfl⟩
  have hlen1 : l1.length = 4 := by rw [← hl1, leB_len]
  rw [hl1] at h1
  have hne1 : l1 ≠ [] := by intro e; rw [e] at hlen1; simp at hlen1
  have hcv := row_string h1 hne1
  obtain ⟨a1, c1, rfl, _⟩ := own_shape h1
  have HK1 : Hid (Keep [] w w1) := Lib.hid hk1
  have H1 := Lib.hid h1
  have HL1 := Lib.hid hl1
  have HN1 := Lib.hid hlen1
  clear h1 hk1 hl1 hlen1
  go_wp2_with (fail)
  refine (HCR.out w1 ⟨l1.toArray⟩ (by have := HN1.out; simp [ByteArray.size]; omega)).mono ?_
  rintro e w2 ⟨rfl, hk2⟩
  simp only
  obtain ⟨x1, hx1⟩ : ∃ x1, crcF l1 = x1 := ⟨_, rfl⟩
  have hx1l : x1 < 4294967296 := by rw [← hx1]; exact crcF_lt l1
  rw [hx1]
  have H2 := Lib.hid (H1.out.keep hk2 (by simp))
  have HK2 := Lib.hid (HK1.out.trans hk2)
  have HX1 := Lib.hid hx1
  clear hk2 hx1 hcv
  go_wp2_with (fail)
  refine (put_any H2.out HK2.out.size (by have := HN1.out; omega) x1 hx1l).mono ?_
  rintro e w3 ⟨v3, rfl, h3, hk3, _⟩
  obtain ⟨l3, hl3⟩ : ∃ l3, l1 ++ leB 4 x1 = l3 := ⟨_, rfl⟩
  have hlen3 : l3.length = 8 := by rw [← hl3, List.length_append, leB_len, HN1.out]
  rw [hl3] at h3
  obtain ⟨a3, c3, rfl, _⟩ := own_shape h3
  have hb2 := own_base H2.out
  have HK3 : Hid (Keep [] w w3) := Lib.hid (HK2.out.step hk3 (fun y hy => .inr (hb2 y (by simpa using hy))))
  have H3 := Lib.hid h3
  have HL3 := Lib.hid hl3
  have HN3 := Lib.hid hlen3
  clear h3 hk3 hl3 hb2 hlen3
  go_wp2_with (at_builtin; refine wpList_append_str rfl _ _ rfl w.heap.size _ l3 rfl H3.out s rfl (by have := HN3.out; omega) (by omega) HK3.out.size ?_)
  intro v4 w4 h4 hk4
  obtain ⟨l4, hl4⟩ : ∃ l4, l3 ++ s.data.toList = l4 := ⟨_, rfl⟩
  have hlen4 : l4.length ≤ 17000 := by rw [← hl4, List.length_append, str_size, HN3.out]; omega
  rw [hl4] at h4
  obtain ⟨a4, c4, rfl, _⟩ := own_shape h4
  have hb3 := own_base H3.out
  have HK4 : Hid (Keep [] w w4) := Lib.hid (HK3.out.step hk4 (fun y hy => .inr (hb3 y (by simpa using hy))))
  have H4 := Lib.hid h4
  have HL4 := Lib.hid hl4
  clear h4 hk4 hl4 hb3
  go_wp2_with (fail)
  refine (HCR.out w4 s (by omega)).mono ?_
  rintro e w5 ⟨rfl, hk5⟩
  obtain ⟨x2, hx2⟩ : ∃ x2, crcF s.data.toList = x2 := ⟨_, rfl⟩
  have hx2l : x2 < 4294967296 := by rw [← hx2]; exact crcF_lt _
  rw [hx2]
  have H5 := Lib.hid (H4.out.keep hk5 (by simp))
  have HK5 := Lib.hid (HK4.out.trans hk5)
  have HX2 := Lib.hid hx2
  clear hk5 hx2
  go_wp2_with (fail)
  refine (put_any H5.out HK5.out.size (by omega) x2 hx2l).mono ?_
  rintro e w6 ⟨v6, rfl, h6, hk6, _⟩
  obtain ⟨l6, hl6⟩ : ∃ l6, l4 ++ leB 4 x2 = l6 := ⟨_, rfl⟩
  rw [hl6] at h6
  have hne6 : l6 ≠ [] := by intro e; have := congrArg List.length hl6; rw [e, List.length_append, leB_len] at this; simp at this
  have hcv := row_string h6 hne6
  obtain ⟨a6, c6, rfl, _⟩ := own_shape h6
  have hb5 := own_base H5.out
  have HK6 : Hid (Keep [] w w6) := Lib.hid (HK5.out.step hk6 (fun y hy => .inr (hb5 y (by simpa using hy))))
  have HL6 := Lib.hid hl6
  clear h6 hk6 hl6 hb5
  go_wp2_with (fail)
  go_ret2
  refine ⟨?_, HK6.out⟩
  have e1 : l6 = frameB s.data.toList := by
    unfold frameB
    rw [← HL6.out, ← HL4.out, ← HL3.out, ← HX2.out, ← HX1.out, ← HL1.out, str_size]
  rw [e1]
  rfl
set_option maxRecDepth 100000 in
/-- msg.Data: a message in its frame. -/
theorem data_any {w : World} {m : Mg} {a : Option Addr} {c : Nat} (ho : m.Ok) (hc : m.k = 4 ∨ m.k = 12 → a = none ∧ c = 0) (hI : IntsAt w a m.own) : Calls Tryz.prog 48 #[.agg (m.cells (.slice a m.own.length c))] w fun e w' => e = .returned (.tuple #[.string ⟨(frameB m.enc).toArray⟩, .int .i64 0]) ∧ Keep [] w w' := by
  obtain ⟨cv, hcv⟩ : ∃ cv, m.cells (.slice a m.own.length c) = cv := ⟨_, rfl⟩
  have hbox : ∀ W : World, (Instr.box 47 (.agg cv)).run Tryz.prog W = .ok (.pointer (some ⟨W.heap.size, 0, none⟩)) (W.alloc (.cells cv 47)) := by
    intro W
    rw [← hcv]
    rfl
  have hsz : cv.size = 22 := by rw [← hcv]; rfl
  obtain ⟨w1, hw1⟩ : ∃ u, w.alloc (.cells cv 47) = u := ⟨_, rfl⟩
  have hk1 : Keep [] w w1 := by rw [← hw1]; exact (Keep.refl _ _).alloc _
  have hm1 : MsAt w1 w.heap.size cv := by rw [← hw1]; exact World.alloc_heap_new w _
  have hby := bytes_any (w := w1) (c := c) ho hc (hI.keep hk1 (by simp))
  rw [hcv] at hby ⊢
  have HBY := Lib.hid hby
  have HM1 : Hid (w1.heap[w.heap.size]? = some (.cells cv 47 (0, 0))) := Lib.hid hm1
  have HSZ := Lib.hid (show (Tryz.prog.info? 47).map (·.size) = some cv.size by rw [hsz]; exact msg_size)
  have HK1 := Lib.hid hk1
  have hfr := fun (W : World) => fput_any W ⟨m.enc.toArray⟩ (by have := Mg.enc_len ho; simp [ByteArray.size]; omega)
  have HFR := Lib.hid hfr
  clear hby hm1 hsz hk1 hcv hfr hI
  go_enter Tryz.func48, Tryz.ntmps48
  go_wp2_with ((with_reducible refine wpList_load_row ?_ 47 (.tmp 1) ?_ (w.heap.size) ?_ 47 cv (0, 0) _ HM1.out Tryz.underlying47 ?_ HSZ.out ?_); rfl; rfl; rfl; rfl)
  refine HBY.out.mono ?_
  rintro e w2 ⟨rfl, hk2⟩
  have HK2 := Lib.hid (HK1.out.trans hk2)
  clear hk2
  go_wp2_with (fail)
  refine (HFR.out w2).mono ?_
  rintro e w3 ⟨rfl, hk3⟩
  have HK3 := Lib.hid (HK2.out.trans hk3)
  clear hk3
  go_wp2_with (fail)
  go_ret2
  exact ⟨rfl, HK3.out⟩
end
end Go.Proofs.YteejdfpfdnkiiaaGreat
