/- Numbers as bytes: pack.putVar · Numbers as bytes: the reader's getVar · Numbers as bytes: the writer · Numbers as bytes: the writer's steps -/
import Derived.Test.YteejdfpfdnkiiaaGreatPc
import Derived.Maps.AppendAt
import Derived.Lib.VarintBits
import Derived.Lib.MinMax
import Derived.WalkSpells
import Derived.Test.YteejdfpfdnkiiaaGreatSoup
namespace Go.Proofs.YteejdfpfdnkiiaaGreat
section
open Go.RowKit Go.Lib
set_option linter.unusedSimpArgs false
set_option linter.unusedVariables false
def byV (b : UInt8) : Value := .int .u8 (b.toNat : Nat)
def BRow (base : Nat) (W : World) (v : Value) (l : List UInt8) : Prop := W.ownsRow base 5 1 v l.length (l.map byV)
theorem BRow.keep {X : List Nat} {base : Nat} {W W' : World} {v : Value} {l : List UInt8} (h : BRow base W v l) (hk : Keep X W W') (hx : ∀ g, v.ownBlock = some g → g ∉ X) : BRow base W' v l := own_keep h hk hx
def varB (n : Nat) : List UInt8 := if n < 128 then [UInt8.ofNat n] else UInt8.ofNat (n % 128 + 128) :: varB (n / 128)
theorem infoU8 : (Tryz.prog.info? 5).map (fun i => (i.zero, i.size, i.bytes)) = some (some (.int .u8 0), 1, 1) := by kernel_rfl
/-- Where a row that grows may lie. -/
def OwnUp (w : World) (v v' : Value) : Prop := v'.ownBlock = v.ownBlock ∨ ∃ m, v'.ownBlock = some m ∧ w.heap.size ≤ m
theorem OwnUp.refl (w : World) (v : Value) : OwnUp w v v := .inl rfl
theorem OwnUp.trans {w w1 : World} {v v1 v2 : Value} (h : OwnUp w v v1) (hs : w.heap.size ≤ w1.heap.size) (k : OwnUp w1 v1 v2) : OwnUp w v v2 := by
  rcases k with e | ⟨m, e, hm⟩
  · rcases h with e2 | ⟨m, e2, hm⟩
    · exact .inl (e.trans e2)
    · exact .inr ⟨m, e.trans e2, hm⟩
  · exact .inr ⟨m, e, Nat.le_trans hs hm⟩
/-- One byte goes behind others. -/
theorem wpList_append_byte {w : World} {ops : Array Oper} {rest : List Oper} {o : Oper} {a : Act} {Q : Exit → Act → World → Prop} (hgd : o.guard = none) (s x : Operand)
    (ho : o.op = .call { callee := .builtin .append, args := #[s, x], argTypes := #[119, 119] }) (base : Nat) (v : Value) (M : List UInt8) (hs : a.eval s = v) (hown : BRow base w v M)
    (ad : Addr) (c : Nat) (hx : a.eval x = .slice (some ad) 1 c) (b : UInt8) (hb : w.cell? ad = some (byV b)) (hm : M.length ≤ 100000) (hbase : base ≤ w.heap.size)
    (h : ∀ v' w', BRow base w' v' (M ++ [b]) → Keep v.ownBlock.toList w w' → (v'.ownBlock = v.ownBlock ∨ v'.ownBlock = some w.heap.size) → wpList Tryz.prog ops Q rest (a.put o.dst v') w') :
    wpList Tryz.prog ops Q (o :: rest) a w := by
  obtain ⟨i0, hi0, hz0, hz1, hz2⟩ := info_parts infoU8
  refine wpList_append_own_at _ hgd s x 119 ho base 5 i0 (.int .u8 0) 1 1 Tryz.underlying119 hi0 hz0 hz1 hz2 rfl (by decide) v M.length (M.map byV) hs hown ad 1 c [byV b] hx rfl ?_ ?_ (by unfold maxLen; omega) (by omega) hbase ?_
  · intro j u hj
    cases j with
    | zero => simp at hj; subst hj; rw [show ad.add 0 = ad from by unfold Addr.add; simp]; exact hb
    | succ j => simp at hj
  · intro u hu; simp at hu; subst hu; rfl
  · intro v' w' hown' hgrow _ hat'
    refine h v' w' ?_ ((Keep.refl _ w).grown hgrow (fun k hk => .inl (by simp [hk]))) hat'
    unfold BRow
    rw [List.length_append, List.map_append]
    exact hown'
theorem all_below {p : Nat → Bool} {n : Nat} (h : (List.range n).all p = true) : ∀ i, i < n → p i = true := fun i hi => List.all_eq_true.1 h i (List.mem_range.2 hi)
theorem bits_or128 (n : Nat) (h : n < 256) : bits BinOp.or .u8 (n : Int) 128 = ((n % 128 + 128 : Nat) : Int) := by
  have : (List.range 256).all (fun n => decide (bits BinOp.or .u8 (n : Int) 128 = ((n % 128 + 128 : Nat) : Int))) = true := by kernel_rfl
  exact of_decide_eq_true (all_below this n h)
theorem byV_ofNat (n : Nat) (h : n < 256) : byV (UInt8.ofNat n) = .int .u8 (n : Int) := by
  unfold byV
  rw [show (UInt8.ofNat n).toNat = n from by rw [UInt8.toNat_ofNat']; omega]
theorem varB_len (n : Nat) (h : n < 18446744073709551616) : (varB n).length ≤ 10 := by
  have key : ∀ (d n : Nat), n < 128 ^ (d + 1) → (varB n).length ≤ d + 1 := by
    intro d
    induction d with
    | zero => intro n h; unfold varB; rw [if_pos (by simpa using h)]; simp
    | succ d ih =>
      intro n h
      unfold varB
      split
      · simp
      · rw [List.length_cons]
        have := ih (n / 128) (by rw [Nat.div_lt_iff_lt_mul (by omega)]; rw [Nat.pow_succ] at h; exact h)
        omega
  exact key 9 n (Nat.lt_of_lt_of_le h (by decide))
set_option maxRecDepth 100000 in
theorem putVar_any {base : Nat} {w : World} {v : Value} {l : List UInt8} (h : BRow base w v l) (hb : base ≤ w.heap.size) (hl : l.length ≤ 90000) (x : Nat) (hx : x < 18446744073709551616) : Calls Tryz.prog 138 #[v, .int .u64 x] w fun e w' => ∃ v', e = .returned v' ∧ BRow base w' v' (l ++ varB x) ∧ Keep v.ownBlock.toList w w' ∧ OwnUp w v v' := by
  have H := Lib.hid h
  clear h
  obtain ⟨av, cv, rfl, _⟩ := own_shape H.out
  have hlen : (l ++ varB x).length ≤ 90010 := by have := varB_len x hx; rw [List.length_append]; omega
  go_enter Tryz.func138, Tryz.ntmps138
  go_wp2_with (fail)
  go_loopw [0, 1] (fun a i wr => ∃ (y : Nat) (l2 : List UInt8), i = .int .u64 y ∧ y ≤ x ∧ BRow base wr a l2 ∧ l2 ++ varB y = l ++ varB x ∧ Keep (Value.slice av l.length cv).ownBlock.toList w wr ∧ (a.ownBlock = (Value.slice av l.length cv).ownBlock ∨ ∃ g, a.ownBlock = some g ∧ w.heap.size ≤ g)) (fun a i _ => (intOf i).toNat)
  case atStart => exact ⟨x, l, rfl, Nat.le_refl _, H.out, rfl, Keep.refl _ _, .inl rfl⟩
  case round =>
    obtain ⟨y, l2, rfl, hy, hr, he, hk, hob⟩ := hrel
    obtain ⟨a2, c2, rfl, _⟩ := own_shape hr
    have hl2 : l2.length ≤ 90010 := by rw [← he, List.length_append] at hlen; omega
    have step : ∀ (b : UInt8) (vb : Value), byV b = vb → ∀ (Wx : World), Wx = wr.alloc (.cells #[vb] 5) → BRow base Wx (.slice a2 l2.length c2) l2 ∧ Wx.cell? ⟨wr.heap.size, 0, none⟩ = some (byV b) ∧ base ≤ Wx.heap.size ∧
        (∀ (v' : Value) (w' : World), Keep (Value.slice a2 l2.length c2).ownBlock.toList Wx w' → (v'.ownBlock = (Value.slice a2 l2.length c2).ownBlock ∨ v'.ownBlock = some (wr.heap.size + 1)) → Keep (Value.slice av l.length cv).ownBlock.toList w w' ∧ (v'.ownBlock = (Value.slice av l.length cv).ownBlock ∨ ∃ g, v'.ownBlock = some g ∧ w.heap.size ≤ g)) := by
      intro b vb hvb Wx hWx
      subst hWx
      have ka : Keep [] wr (wr.alloc (.cells #[vb] 5)) := (Keep.refl _ _).alloc _
      refine ⟨hr.keep ka (by simp), ?_, Nat.le_trans hb (Nat.le_trans hk.size ka.size), fun v' w' h1 h2 => ?_⟩
      · have := cells_new wr [vb] 5 _ rfl 0 vb rfl
        rw [hvb]
        simp [Addr.add]
      · have k2 : Keep (Value.slice av l.length cv).ownBlock.toList w (wr.alloc (.cells #[vb] 5)) := hk.alloc _
        refine ⟨k2.step h1 (fun z hz => ?_), ?_⟩
        · rcases hob with e | ⟨g, e, hg⟩
          · exact .inl (by rw [← e]; exact hz)
          · rw [e] at hz
            obtain rfl : z = g := by simpa using hz
            exact .inr hg
        · rcases h2 with e | e
          · rw [e]; exact hob
          · exact .inr ⟨_, e, by have := k2.size; rw [World.size_alloc] at this; exact this⟩
    have HR := Lib.hid step
    have HE := Lib.hid he
    clear hr he hk hob step
    by_cases h : (128 : Int) ≤ y
    · have hv : varB y = UInt8.ofNat (y % 128 + 128) :: varB (y / 128) := by rw [varB, if_neg (by omega)]
      have hbv : byV (UInt8.ofNat (y % 128 + 128)) = .int .u8 (bits BinOp.or .u8 ((y : Int) % 256) 128) := by
        rw [byV_ofNat _ (by omega), show ((y : Int) % 256) = ((y % 256 : Nat) : Int) from by omega, bits_or128 _ (by omega)]
        congr 2
        omega
      obtain ⟨bb, hbb⟩ : ∃ b, UInt8.ofNat (y % 128 + 128) = b := ⟨_, rfl⟩
      rw [hbb] at hv hbv
      obtain ⟨r1, r2, r3, r4⟩ := HR.out _ _ hbv _ rfl
      have R1 := Lib.hid r1
      have R2 := Lib.hid r2
      have R3 := Lib.hid r3
      have R4 := Lib.hid r4
      have HV := Lib.hid hv
      clear r1 r2 r3 r4 hbv hv hbb
      go_wp2_with (at_builtin; refine wpList_append_byte rfl _ _ rfl base _ l2 rfl R1.out ⟨wr.heap.size, 0, none⟩ 1 rfl _ R2.out (by omega) R3.out ?_)
      intro v' w' hr' hk' hat'
      obtain ⟨k1, k2⟩ := R4.out v' w' hk' hat'
      have HN := Lib.hid hr'
      have HK1 := Lib.hid k1
      have HK2 := Lib.hid k2
      clear hr' hk' hat' k1 k2
      go_wp2_with (fail)
      go_roundw
      case rel => exact ⟨y / 128, l2 ++ [bb], by simp [Int.shiftRight_eq_div_pow], by omega, HN.out, by rw [← HE.out, HV.out]; simp, HK1.out, HK2.out⟩
      case measure => simp [intOf, Int.shiftRight_eq_div_pow]; omega
    · have hv : varB y = [UInt8.ofNat y] := by rw [varB, if_pos (by omega)]
      have hbv : byV (UInt8.ofNat y) = .int .u8 (y : Int) := byV_ofNat _ (by omega)
      obtain ⟨bb, hbb⟩ : ∃ b, UInt8.ofNat y = b := ⟨_, rfl⟩
      rw [hbb] at hv hbv
      obtain ⟨r1, r2, r3, r4⟩ := HR.out _ _ hbv _ rfl
      have R1 := Lib.hid r1
      have R2 := Lib.hid r2
      have R3 := Lib.hid r3
      have R4 := Lib.hid r4
      have HV := Lib.hid hv
      clear r1 r2 r3 r4 hbv hv hbb
      go_wp2_with (at_builtin; refine wpList_append_byte rfl _ _ rfl base _ l2 rfl R1.out ⟨wr.heap.size, 0, none⟩ 1 rfl _ R2.out (by omega) R3.out ?_)
      intro v' w' hr' hk' hat'
      obtain ⟨k1, k2⟩ := R4.out v' w' hk' hat'
      have HN := Lib.hid hr'
      have HK1 := Lib.hid k1
      have HK2 := Lib.hid k2
      clear hr' hk' hat' k1 k2
      go_wp2_with (fail)
      go_ret
      exact ⟨v', rfl, by rw [← HE.out, HV.out]; exact HN.out, HK1.out, HK2.out⟩
end
section
open Go.RowKit Go.Lib
set_option linter.unusedSimpArgs false
set_option linter.unusedVariables false
theorem str_size (s : ByteArray) : s.data.toList.length = s.size := by cases s; simp [ByteArray.size]
theorem strAt (s : ByteArray) (i : Nat) (b : UInt8) (h : s.data.toList[i]? = some b) (t : TypeId) (ht : Tryz.prog.underlying t = some .string) (w : World) : (Instr.index t (.string s) (.int .i64 i)).run Tryz.prog w = .ok (.int .u8 b.toNat) w := by
  have hl : i < s.data.toList.length := (List.getElem?_eq_some_iff.1 h).1
  have hsz : i < s.size := by rw [← str_size]; exact hl
  rw [run_index_string w t s .i64 i ht, dif_pos ⟨by omega, by omega⟩]
  have : s[(i : Int).toNat]'(by simpa using hsz) = b := by
    have h2 := (List.getElem?_eq_some_iff.1 h).2
    rw [← h2]
    cases s
    rfl
  rw [this]
theorem varB_pos (n : Nat) : 0 < (varB n).length := by unfold varB; split <;> simp
theorem varB_len5 (n : Nat) (h : n ≤ 2147483647) : (varB n).length ≤ 5 := by
  have key : ∀ (d n : Nat), n < 128 ^ (d + 1) → (varB n).length ≤ d + 1 := by
    intro d
    induction d with
    | zero => intro n h; unfold varB; rw [if_pos (by simpa using h)]; simp
    | succ d ih =>
      intro n h
      unfold varB
      split
      · simp
      · rw [List.length_cons]
        have := ih (n / 128) (by rw [Nat.div_lt_iff_lt_mul (by omega)]; rw [Nat.pow_succ] at h; exact h)
        omega
  exact key 4 n (Nat.lt_of_le_of_lt h (by decide))
theorem pow128_7 (i : Nat) : 128 ^ i = 2 ^ (7 * i) := by rw [Nat.pow_mul]
theorem varB_get (y : Nat) (rest : List UInt8) : (varB y ++ rest)[0]? = some (if y < 128 then UInt8.ofNat y else UInt8.ofNat (y % 128 + 128)) := by
  unfold varB; split <;> simp
theorem gv_step (xn b j : Nat) (hb : b < 256) (hx : xn < 128 ^ j) (hs : xn + b % 128 * 128 ^ j ≤ 2147483647) : bits BinOp.or IntKind.u64 (xn : Int) (IntKind.u64.wrap (IntKind.u64.wrap (bits BinOp.and IntKind.u8 (b : Int) 127) * 2 ^ (7 * j))) = ((xn + b % 128 * 128 ^ j : Nat) : Int) := by
  have h1 : bits BinOp.and IntKind.u8 (b : Int) 127 = ((b % 128 : Nat) : Int) := by rw [u8_and127 _ (by omega) (by omega)]; omega
  have h2 : IntKind.u64.wrap ((b % 128 : Nat) : Int) = ((b % 128 : Nat) : Int) := u64_wrap_id _ (by omega) (by omega)
  have h3 : ((b % 128 : Nat) : Int) * 2 ^ (7 * j) = ((b % 128 * 128 ^ j : Nat) : Int) := by
    rw [pow128_7 j]
    push_cast
    rfl
  have hle : b % 128 * 128 ^ j ≤ 2147483647 := by omega
  rw [h1, h2, h3, u64_wrap_id _ (by omega) (by omega)]
  have h4 : (((b % 128 * 128 ^ j : Nat) : Int)) % 2 ^ (7 * j) = 0 := by
    have : (2 : Int) ^ (7 * j) = ((128 ^ j : Nat) : Int) := by rw [pow128_7 j]; push_cast; rfl
    rw [this, ← Int.natCast_emod, Nat.mul_mod_left]
    rfl
  have h5 : (xn : Int) < 2 ^ (7 * j) := by
    have : (2 : Int) ^ (7 * j) = ((128 ^ j : Nat) : Int) := by rw [pow128_7 j]; push_cast; rfl
    rw [this]
    omega
  rw [bits_join_low .u64 64 (by decide) wraps_u64 (7 * j) _ _ (by omega) h5 (by omega) (by omega) h4 (by omega)]
  omega
set_option maxRecDepth 100000 in
theorem getVar_any {w : World} (s : ByteArray) (n : Nat) (rest : List UInt8) (hs : s.data.toList = varB n ++ rest) (hn : n ≤ 2147483647) : Calls Tryz.prog 158 #[.string s] w fun e w' => e = .returned (.tuple #[.int .u64 n, .int .i64 (varB n).length]) ∧ w' = w := by
  have hl5 := varB_len5 n hn
  have HSZ : Hid (s.size = (varB n).length + rest.length) := Lib.hid (by rw [← str_size, hs, List.length_append])
  have HS := Lib.hid hs
  clear hs
  have hz0 := varB_pos n
  go_enter Tryz.func158, Tryz.ntmps158
  go_wp2_with (fail)
  obtain ⟨m, hm⟩ : ∃ m : Int, min (s.size : Int) 10 = m := ⟨_, rfl⟩
  rw [hm]
  have HM : Hid (((varB n).length : Int) ≤ m) := Lib.hid (by have := HSZ.out; omega)
  clear hm
  go_loopw [2, 8] (fun x i wr => ∃ (j xn y : Nat), i = .int .i64 j ∧ x = .int .u64 xn ∧ wr = w ∧ xn + y * 128 ^ j = n ∧ xn < 128 ^ j ∧ s.data.toList.drop j = varB y ++ rest ∧ j + (varB y).length = (varB n).length) (fun _ i _ => (varB n).length - (intOf i).toNat)
  case atStart => exact ⟨0, 0, n, rfl, rfl, rfl, by simp, by simp, HS.out, by simp⟩
  case round =>
    obtain ⟨j, xn, y, rfl, rfl, rfl, hxy, hx, hd, hj⟩ := hrel
    have hjl : j < (varB n).length := by have := varB_pos y; omega
    have hjm : (j : Int) < m := by have := HM.out; omega
    have hb := varB_get y rest
    rw [← hd, List.getElem?_drop] at hb
    obtain ⟨b, hbe⟩ : ∃ b, (if y < 128 then UInt8.ofNat y else UInt8.ofNat (y % 128 + 128)) = b := ⟨_, rfl⟩
    rw [hbe] at hb
    have hix : ∀ W, (Instr.index 9 (.string s) (.int .i64 j)).run Tryz.prog W = .ok (.int .u8 b.toNat) W := fun W => strAt s j b (by simpa using hb) _ Tryz.underlying9 W
    clear hb
    by_cases hy : y < 128
    · have hv : varB y = [UInt8.ofNat y] := by rw [varB, if_pos hy]
      have hbn : b.toNat = y := by rw [← hbe, if_pos hy, UInt8.toNat_ofNat']; omega
      obtain ⟨bn, hbn2⟩ : ∃ q : Nat, b.toNat = q := ⟨_, rfl⟩
      rw [hbn2] at hix hbn
      have hlt : (bn : Int) < 128 := by omega
      have hfin := gv_step xn bn j (by omega) hx (by rw [hbn, Nat.mod_eq_of_lt hy]; omega)
      have hval : xn + bn % 128 * 128 ^ j = n := by rw [hbn, Nat.mod_eq_of_lt hy]; exact hxy
      rw [hval] at hfin
      have h9 : ¬ (j : Int) = 9 := by omega
      have HF := Lib.hid hfin
      have hlen : j + 1 = (varB n).length := by rw [← hj, hv]; simp
      have HL := Lib.hid hlen
      clear hfin hlen hbn2 hbe hd hj hv hxy hx hval hbn hy
      go_wp2_with (fail)
      rw [HF.out]
      go_ret2
      refine ⟨?_, rfl⟩
      rw [← HL.out]
      rfl
    · have hv : varB y = UInt8.ofNat (y % 128 + 128) :: varB (y / 128) := by rw [varB, if_neg hy]
      have hbn : b.toNat = y % 128 + 128 := by rw [← hbe, if_neg hy, UInt8.toNat_ofNat']; omega
      obtain ⟨bn, hbn2⟩ : ∃ q : Nat, b.toNat = q := ⟨_, rfl⟩
      rw [hbn2] at hix hbn
      have hlt : ¬ (bn : Int) < 128 := by omega
      have hmod : bn % 128 = y % 128 := by omega
      have hval : xn + bn % 128 * 128 ^ j + y / 128 * 128 ^ (j + 1) = n := by
        rw [hmod, ← hxy, Nat.pow_succ]
        have h1 : y / 128 * (128 ^ j * 128) = y / 128 * 128 * 128 ^ j := by rw [Nat.mul_comm (128 ^ j) 128, ← Nat.mul_assoc]
        rw [h1, Nat.add_assoc, ← Nat.add_mul]
        congr 2
        omega
      have hfin := gv_step xn bn j (by omega) hx (by omega)
      have hup : xn + bn % 128 * 128 ^ j < 128 ^ (j + 1) := by
        have h1 : bn % 128 * 128 ^ j ≤ 127 * 128 ^ j := Nat.mul_le_mul_right _ (by omega)
        rw [Nat.pow_succ]
        omega
      have HF := Lib.hid hfin
      have hdd : s.data.toList.drop (j + 1) = varB (y / 128) ++ rest := by rw [← List.drop_drop, hd, hv]; rfl
      have hlen : j + 1 + (varB (y / 128)).length = (varB n).length := by rw [← hj, hv, List.length_cons]; omega
      have HL := Lib.hid hlen
      have HU := Lib.hid hup
      have HV := Lib.hid hval
      have HD := Lib.hid hdd
      clear hfin hlen hbn2 hbe hd hj hv hxy hx hval hbn hy hmod hup hdd
      go_wp2_with (fail)
      go_roundw
      case rel => exact ⟨j + 1, _, y / 128, by go_num, by rw [HF.out], trivial, HV.out, HU.out, HD.out, HL.out⟩
      case measure => simp [intOf]; omega
end
section
open Go.RowKit Go.Lib
set_option linter.unusedSimpArgs false
set_option linter.unusedVariables false
/-- A writer in memory, and what it has written. -/
structure WrAt (base : Nat) (W : World) (g : Nat) (v : Value) (l : List UInt8) : Prop where
  o : W.heap[g]? = some (.cells #[v] 142 (0, 0))
  r : BRow base W v l
  z : base ≤ W.heap.size
theorem WrAt.ne {base : Nat} {W : World} {g : Nat} {v : Value} {l : List UInt8} (h : WrAt base W g v l) : ∀ b, v.ownBlock = some b → b ≠ g := by
  rintro b hb rfl
  rcases h.r.2 with ⟨hv, _⟩ | ⟨g', cap, cur, hv, hb', hg', r⟩
  · rw [hv] at hb; cases hb
  · rw [hv] at hb
    obtain rfl : g' = b := by simpa [Value.ownBlock] using hb
    have := h.o
    rw [hg'] at this
    simp at this
theorem WrAt.keep {X : List Nat} {base : Nat} {W W' : World} {g : Nat} {v : Value} {l : List UInt8} (h : WrAt base W g v l) (hk : Keep X W W') (hg : g ∉ X) (hx : ∀ b, v.ownBlock = some b → b ∉ X) : WrAt base W' g v l :=
  ⟨(hk.block g (lt_of_heap h.o) hg).trans h.o, h.r.keep hk hx, Nat.le_trans h.z hk.size⟩
theorem WrAt.facts {base : Nat} {W : World} {g : Nat} {v : Value} {l : List UInt8} (h : WrAt base W g v l) : W.cell? ⟨g, 0, none⟩ = some v ∧ (∀ o, W.frozen? ⟨g, o, none⟩ = false) := by
  have ho := h.o
  refine ⟨?_, fun o => ?_⟩
  · unfold World.cell?; rw [ho]; rfl
  · unfold World.frozen?; rw [ho]; simp
theorem WrAt.set {base : Nat} {W : World} {g : Nat} {v v' : Value} {l' : List UInt8} (h : W.heap[g]? = some (.cells #[v] 142 (0, 0))) (hr : BRow base W v' l') (hz : base ≤ W.heap.size) (hn : ∀ b, v'.ownBlock = some b → b ≠ g) : WrAt base (W.setCell ⟨g, 0, none⟩ v') g v' l' := by
  have hk : Keep [g] W (W.setCell ⟨g, 0, none⟩ v') := (Keep.refl _ _).setCell _ _ _ (.inl (by simp))
  refine ⟨?_, hr.keep hk (fun b hb => by have := hn b hb; simpa using this), Nat.le_trans hz hk.size⟩
  simp [World.setCell, Array.getElem?_modify, h]
theorem row_ne_obj {base : Nat} {W : World} {g : Nat} {v u : Value} {l : List UInt8} (h : W.heap[g]? = some (.cells #[u] 142 (0, 0))) (hr : BRow base W v l) : ∀ b, v.ownBlock = some b → b ≠ g := by
  rintro b hb rfl
  rcases hr.2 with ⟨hv, _⟩ | ⟨g', cap, cur, hv, hb', hg', r⟩
  · rw [hv] at hb; cases hb
  · rw [hv] at hb
    obtain rfl : g' = b := by simpa [Value.ownBlock] using hb
    rw [hg'] at h
    simp at h
/-- Bytes are written. -/
structure WrR (base g : Nat) (X : List Nat) (v v' : Value) (l : List UInt8) (w w' : World) : Prop where
  at_ : WrAt base w' g v' l
  keep : Keep (g :: (X ++ v.ownBlock.toList)) w w'
  up : OwnUp w v v'
def WrP (base g : Nat) (v : Value) (l : List UInt8) (w w' : World) : Prop := ∃ v', WrR base g [] v v' l w w'
theorem WrR.mono {base g : Nat} {X Y : List Nat} {v v' : Value} {l : List UInt8} {w w' : World} (h : WrR base g X v v' l w w') (hx : ∀ y ∈ X, y ∈ Y ∨ w.heap.size ≤ y) : WrR base g Y v v' l w w' := by
  refine ⟨h.at_, h.keep.mono (fun y hy => ?_), h.up⟩
  simp only [List.mem_cons, List.mem_append] at hy
  rcases hy with rfl | hy | hy
  · exact .inl (by simp)
  · rcases hx y hy with h | h
    · exact .inl (by simp [h])
    · exact .inr h
  · exact .inl (by simp only [List.mem_cons, List.mem_append]; exact .inr (.inr hy))
theorem WrR.trans {base g : Nat} {X : List Nat} {v v1 v2 : Value} {l l2 : List UInt8} {w w1 w2 : World} (h : WrR base g X v v1 l w w1) (k : WrR base g X v1 v2 l2 w1 w2) : WrR base g X v v2 l2 w w2 := by
  refine ⟨k.at_, h.keep.step k.keep (fun y hy => ?_), h.up.trans h.keep.size k.up⟩
  simp only [List.mem_cons, List.mem_append] at hy
  rcases hy with rfl | hy | hy
  · exact .inl (by simp)
  · exact .inl (by simp [hy])
  · rcases h.up with e | ⟨m, e, hm⟩
    · rw [e] at hy
      exact .inl (by simp only [List.mem_cons, List.mem_append]; exact .inr (.inr hy))
    · rw [e] at hy
      obtain rfl : y = m := by simpa using hy
      exact .inr hm
set_option maxRecDepth 100000 in
theorem onum_any {base g : Nat} {w : World} {v : Value} {l : List UInt8} (h : WrAt base w g v l) (hl : l.length ≤ 90000) (x : Nat) (hx : x < 18446744073709551616) : Calls Tryz.prog 134 #[.pointer (some ⟨g, 0, none⟩), .int .u64 x] w fun e w' => e = .returned (.tuple #[]) ∧ WrP base g v (l ++ varB x) w w' := by
  obtain ⟨av, cv, rfl, _⟩ := own_shape h.r
  have H := Lib.hid h
  obtain ⟨c0, c1⟩ := h.facts
  clear h
  go_enter Tryz.func134, Tryz.ntmps134
  go_wp2_with (fail)
  refine (putVar_any H.out.r H.out.z hl x hx).mono ?_
  rintro e w1 ⟨v', rfl, hr', hk', hu'⟩
  obtain ⟨l2, hl2⟩ : ∃ l2, l ++ varB x = l2 := ⟨_, rfl⟩
  rw [hl2] at hr'
  obtain ⟨av', cv', rfl, _⟩ := own_shape hr'
  have HL2 := Lib.hid hl2
  clear hl2
  have hg1 : w1.heap[g]? = some (.cells #[.slice av l.length cv] 142 (0, 0)) := (hk'.block g (lt_of_heap H.out.o) (fun hm => H.out.ne g (by simpa using hm) rfl)).trans H.out.o
  have f1 : ∀ o, w1.frozen? ⟨g, o, none⟩ = false := fun o => by unfold World.frozen?; rw [hg1]; simp
  have f0 : w1.cell? ⟨g, 0, none⟩ = some (.slice av l.length cv) := by unfold World.cell?; rw [hg1]; rfl
  have HG := Lib.hid hg1
  have HR := Lib.hid hr'
  have HK := Lib.hid hk'
  have HU := Lib.hid hu'
  clear hg1 hr' hk' hu'
  go_wp2_with (fail)
  go_end0
  rw [HL2.out]
  refine ⟨rfl, _, WrAt.set HG.out HR.out (Nat.le_trans H.out.z HK.out.size) (row_ne_obj HG.out HR.out), ?_, HU.out⟩
  exact (HK.out.mono (fun y hy => .inl (List.mem_cons_of_mem _ hy))).setCell _ _ _ (.inl (by simp))
set_option maxRecDepth 100000 in
theorem obyte_any {base g : Nat} {w : World} {v : Value} {l : List UInt8} (h : WrAt base w g v l) (hl : l.length ≤ 90000) (x : UInt8) : Calls Tryz.prog 133 #[.pointer (some ⟨g, 0, none⟩), byV x] w fun e w' => e = .returned (.tuple #[]) ∧ WrP base g v (l ++ [x]) w w' := by
  obtain ⟨av, cv, rfl, _⟩ := own_shape h.r
  have H := Lib.hid h
  obtain ⟨c0, c1⟩ := h.facts
  have ka : Keep [] w (w.alloc (.cells #[byV x] 5)) := (Keep.refl _ _).alloc _
  have hr := h.r.keep ka (by simp)
  have hg1 : (w.alloc (.cells #[byV x] 5)).heap[g]? = some (.cells #[.slice av l.length cv] 142 (0, 0)) := (ka.block g (lt_of_heap h.o) (by simp)).trans h.o
  have hne := h.ne
  have hz := h.z
  have hcl : (w.alloc (.cells #[byV x] 5)).cell? ⟨w.heap.size, 0, none⟩ = some (byV x) := by
    have := cells_new w [byV x] 5 _ rfl 0 (byV x) rfl
    simp [Addr.add]
  obtain ⟨bx, hbx⟩ : ∃ n : Nat, x.toNat = n := ⟨_, rfl⟩
  have HCL := Lib.hid hcl
  have HR := Lib.hid hr
  have HG := Lib.hid hg1
  have HKA := Lib.hid ka
  have HNE := Lib.hid hne
  have HBX : Hid (byV x = .int .u8 bx) := Lib.hid (by unfold byV; rw [hbx])
  rw [HBX.out] at HCL HR HG HKA
  rw [HBX.out]
  clear h ka hr hg1 hne hcl hbx
  go_enter Tryz.func133, Tryz.ntmps133
  go_wp2_with (at_builtin; refine wpList_append_byte rfl _ _ rfl base _ l rfl HR.out ⟨w.heap.size, 0, none⟩ 1 rfl x (by rw [HBX.out]; exact HCL.out) (by omega) (Nat.le_trans hz HKA.out.size) ?_)
  intro v' w1 hr' hk' hu0
  have hu' : OwnUp w (.slice av l.length cv) v' := hu0.imp id (fun e => ⟨_, e, by omega⟩)
  clear hu0
  obtain ⟨l2, hl2⟩ : ∃ l2, l ++ [x] = l2 := ⟨_, rfl⟩
  rw [hl2] at hr'
  obtain ⟨av', cv', rfl, _⟩ := own_shape hr'
  have HL2 := Lib.hid hl2
  clear hl2
  have hg2 : w1.heap[g]? = some (.cells #[.slice av l.length cv] 142 (0, 0)) := (hk'.block g (lt_of_heap HG.out) (fun hm => HNE.out g (by simpa using hm) rfl)).trans HG.out
  have f1 : ∀ o, w1.frozen? ⟨g, o, none⟩ = false := fun o => by unfold World.frozen?; rw [hg2]; simp
  have f0 : w1.cell? ⟨g, 0, none⟩ = some (.slice av l.length cv) := by unfold World.cell?; rw [hg2]; rfl
  have HG2 := Lib.hid hg2
  have HR2 := Lib.hid hr'
  have HK := Lib.hid hk'
  have HU := Lib.hid hu'
  clear hg2 hr' hk' hu'
  go_wp2_with (fail)
  go_end0
  rw [HL2.out]
  refine ⟨rfl, _, WrAt.set HG2.out HR2.out (Nat.le_trans hz (Nat.le_trans HKA.out.size HK.out.size)) (row_ne_obj HG2.out HR2.out), ?_, HU.out⟩
  exact ((HKA.out.mono (fun y hy => by simp at hy)).trans (HK.out.mono (fun y hy => .inl (List.mem_cons_of_mem _ hy)))).setCell _ _ _ (.inl (by simp))
theorem held_any (n most : Int) (h0 : 0 ≤ n) (h1 : n ≤ most) (h2 : n < 9223372036854775808) (w : World) : Calls Tryz.prog 135 #[.int .i64 n, .int .i64 most] w fun e w' => e = .returned (.int .u64 n) ∧ w = w' := by
  have k0 : ¬ n < 0 := by omega
  have k1 : ¬ most < n := by omega
  go_enter Tryz.func135, Tryz.ntmps135
  go_wp2_with (fail)
  go_ret
  exact ⟨rfl, rfl⟩
end
section
open Go.RowKit Go.Lib
set_option linter.unusedSimpArgs false
set_option linter.unusedVariables false
theorem WrP.of {base g : Nat} {v : Value} {l : List UInt8} {w W w' : World} (hk : Keep [] w W) (h : WrP base g v l W w') : WrP base g v l w w' := by
  obtain ⟨v', h1, h2, h3⟩ := h
  exact ⟨v', h1, (hk.mono (by simp)).trans h2, OwnUp.trans (OwnUp.refl w v) hk.size h3⟩
theorem lt_of_cell {W : World} {a : Addr} {v : Value} (h : W.cell? a = some v) : a.block < W.heap.size := World.block_lt_of_cell? W a h
set_option maxRecDepth 100000 in
set_option maxHeartbeats 2000000 in
theorem wnum_any {base g : Nat} {w : World} {v : Value} {l : List UInt8} (h : WrAt base w g v l) (hl : l.length ≤ 90000) (pb off n : Nat) (hp : w.cell? ⟨pb, off, none⟩ = some (.int .i64 n)) (hn : n ≤ 2147483647) : Calls Tryz.prog 130 #[.pointer (some ⟨g, 0, none⟩), .pointer (some ⟨pb, off, none⟩)] w fun e w' => e = .returned (.tuple #[]) ∧ WrP base g v (l ++ varB n) w w' := by
  have H := Lib.hid h
  have HP := Lib.hid hp
  have HPL := Lib.hid (lt_of_cell hp)
  clear h hp
  go_enter Tryz.func130, Tryz.ntmps130
  go_wp2_with (fail)
  refine wp_region_soup 7 [] (spOf [(6, Spec.is (.int .u64 n))]) (by kernel_rfl) (by kernel_rfl) (spOk_of (by simp [Spec.is_ok])) (pre_of (by simp [Spec.is_ok])) ?_
  simp only [List.take_succ_cons, List.take_zero, List.drop_succ_cons, List.drop_zero]
  iterate 5
    with_reducible refine soup_q ?_ ?_ ?_
    · rfl
    · rfl
    with_reducible apply Exists.intro
    with_reducible refine ⟨fun W hk _ => ?_, ?_⟩
    · unfold Oper.same
      go_simp
      first | rfl | exact ⟨rfl, rfl⟩
    with_reducible apply Exists.intro
    with_reducible refine ⟨?_, ?_⟩
    · go_simp
      rfl
  with_reducible refine soup_q ?_ ?_ ?_
  · rfl
  · rfl
  with_reducible apply Exists.intro
  with_reducible refine ⟨fun W hk _ => ?_, ?_⟩
  · have c0 := (hk.cell _ HPL.out (by simp)).trans HP.out
    unfold Oper.same
    go_simp
    first | rfl | exact ⟨rfl, rfl⟩
  with_reducible apply Exists.intro
  with_reducible refine ⟨?_, ?_⟩
  · go_simp
    rfl
  refine soup_s rfl rfl rfl (fun W hk _ _ => ?_) ?_
  · unfold Oper.does
    go_simp
    refine (held_any n 2147483647 (by omega) (by omega) (by omega) _).mono ?_
    rintro e w' ⟨rfl, rfl⟩
    exact ⟨_, rfl, Keep.refl _ _, hk, rfl, trivial⟩
  intro v hv
  obtain rfl : v = _ := hv
  with_reducible apply Exists.intro
  with_reducible refine ⟨?_, ?_⟩
  · go_simp
    rfl
  refine soup_nil (fun W hk hS => ?_)
  have HK := Lib.hid hk
  clear hk hS
  go_wp2_with (fail)
  refine (onum_any (H.out.keep HK.out (by simp) (by simp)) hl n (by omega)).mono ?_
  rintro e w2 ⟨rfl, hw⟩
  have HW := Lib.hid hw
  clear hw
  go_wp2_with (fail)
  go_end0
  exact ⟨rfl, HW.out.of HK.out⟩
set_option maxRecDepth 100000 in
set_option maxHeartbeats 2000000 in
theorem wbyte_any {base g : Nat} {w : World} {v : Value} {l : List UInt8} (h : WrAt base w g v l) (hl : l.length ≤ 90000) (pb off : Nat) (x : UInt8) (hp : w.cell? ⟨pb, off, none⟩ = some (byV x)) : Calls Tryz.prog 127 #[.pointer (some ⟨g, 0, none⟩), .pointer (some ⟨pb, off, none⟩)] w fun e w' => e = .returned (.tuple #[]) ∧ WrP base g v (l ++ [x]) w w' := by
  have H := Lib.hid h
  have HPL := Lib.hid (lt_of_cell hp)
  have hby := fun (W : World) (h2 : WrAt base W g v l) => obyte_any h2 hl x
  unfold byV at hp hby
  obtain ⟨bx, hbx⟩ : ∃ n : Nat, x.toNat = n := ⟨_, rfl⟩
  rw [hbx] at hp hby
  have HP := Lib.hid hp
  have HBY := Lib.hid hby
  clear h hp hby hbx
  go_enter Tryz.func127, Tryz.ntmps127
  go_wp2_with (fail)
  refine wp_region_soup 6 [] (fun _ => none) (by kernel_rfl) (by kernel_rfl) (spOk_of (l := []) (by simp)) (pre_of (l := []) (by simp)) ?_
  simp only [List.take_succ_cons, List.take_zero, List.drop_succ_cons, List.drop_zero]
  iterate 5
    with_reducible refine soup_q ?_ ?_ ?_
    · rfl
    · rfl
    with_reducible apply Exists.intro
    with_reducible refine ⟨fun W hk _ => ?_, ?_⟩
    · unfold Oper.same
      go_simp
      first | rfl | exact ⟨rfl, rfl⟩
    with_reducible apply Exists.intro
    with_reducible refine ⟨?_, ?_⟩
    · go_simp
      rfl
  with_reducible refine soup_q ?_ ?_ ?_
  · rfl
  · rfl
  with_reducible apply Exists.intro
  with_reducible refine ⟨fun W hk _ => ?_, ?_⟩
  · have c0 := (hk.cell _ HPL.out (by simp)).trans HP.out
    unfold Oper.same
    go_simp
    first | rfl | exact ⟨rfl, rfl⟩
  with_reducible apply Exists.intro
  with_reducible refine ⟨?_, ?_⟩
  · go_simp
    rfl
  refine soup_nil (fun W hk hS => ?_)
  have HK := Lib.hid hk
  clear hk hS
  go_wp2_with (fail)
  refine (HBY.out _ (H.out.keep HK.out (by simp) (by simp))).mono ?_
  rintro e w2 ⟨rfl, hw⟩
  have HW := Lib.hid hw
  clear hw
  go_wp2_with (fail)
  go_end0
  exact ⟨rfl, HW.out.of HK.out⟩
set_option maxRecDepth 100000 in
set_option maxHeartbeats 2000000 in
theorem wcount_any {base g : Nat} {w : World} {v : Value} {l : List UInt8} (h : WrAt base w g v l) (hl : l.length ≤ 90000) (n : Nat) (most : Int) (hn : (n : Int) ≤ most) (hm : most ≤ 100000) : Calls Tryz.prog 128 #[.pointer (some ⟨g, 0, none⟩), .int .i64 n, .int .i64 most] w fun e w' => e = .returned (.int .i64 n) ∧ WrP base g v (l ++ varB n) w w' := by
  have H := Lib.hid h
  clear h
  go_enter Tryz.func128, Tryz.ntmps128
  go_wp2_with (fail)
  refine wp_region_soup 6 [] (spOf [(5, Spec.is (.int .u64 n))]) (by kernel_rfl) (by kernel_rfl) (spOk_of (by simp [Spec.is_ok])) (pre_of (by simp [Spec.is_ok])) ?_
  simp only [List.take_succ_cons, List.take_zero, List.drop_succ_cons, List.drop_zero]
  iterate 5
    with_reducible refine soup_q ?_ ?_ ?_
    · rfl
    · rfl
    with_reducible apply Exists.intro
    with_reducible refine ⟨fun W hk _ => ?_, ?_⟩
    · unfold Oper.same
      go_simp
      first | rfl | exact ⟨rfl, rfl⟩
    with_reducible apply Exists.intro
    with_reducible refine ⟨?_, ?_⟩
    · go_simp
      rfl
  refine soup_s rfl rfl rfl (fun W hk _ _ => ?_) ?_
  · unfold Oper.does
    go_simp
    refine (held_any n most (by omega) (by omega) (by omega) _).mono ?_
    rintro e w' ⟨rfl, rfl⟩
    exact ⟨_, rfl, Keep.refl _ _, hk, rfl, trivial⟩
  intro v hv
  obtain rfl : v = _ := hv
  with_reducible apply Exists.intro
  with_reducible refine ⟨?_, ?_⟩
  · go_simp
    rfl
  refine soup_nil (fun W hk hS => ?_)
  have HK := Lib.hid hk
  clear hk hS
  go_wp2_with (fail)
  refine (onum_any (H.out.keep HK.out (by simp) (by simp)) hl n (by omega)).mono ?_
  rintro e w2 ⟨rfl, hw⟩
  have HW := Lib.hid hw
  clear hw
  go_wp2_with (fail)
  go_ret
  exact ⟨rfl, HW.out.of HK.out⟩
end
end Go.Proofs.YteejdfpfdnkiiaaGreat
