/- Numbers as bytes: pack.putVar. -/
import Derived.Test.YtdnfibecobodkaaGreatCvE
import Derived.Maps.AppendAt
namespace Go.Proofs.YtdnfibecobodkaaGreat
open Go.RowKit Go.Lib
set_option linter.unusedSimpArgs false
set_option linter.unusedVariables false
def byV (b : UInt8) : Value := .int .u8 (b.toNat : Nat)
def BRow (base : Nat) (W : World) (v : Value) (l : List UInt8) : Prop := W.ownsRow base 5 1 v l.length (l.map byV)
theorem BRow.keep {X : List Nat} {base : Nat} {W W' : World} {v : Value} {l : List UInt8} (h : BRow base W v l) (hk : Keep X W W') (hx : ∀ g, v.ownBlock = some g → g ∉ X) : BRow base W' v l := own_keep h hk hx
def varB (n : Nat) : List UInt8 := if n < 128 then [UInt8.ofNat n] else UInt8.ofNat (n % 128 + 128) :: varB (n / 128)
theorem infoU8 : (Tryz.prog.info? 5).map (fun i => (i.zero, i.size, i.bytes)) = some (some (.int .u8 0), 1, 1) := by kernel_rfl
/-- Where a row that grows may lie. -/
def OwnUp (w : World) (v v' : Value) : Prop := v'.ownBlock = v.ownBlock ∨ ∃ m, v'.ownBlock = some m ∧ w.heap.size ≤ m
theorem OwnUp.refl (w : World) (v : Value) : OwnUp w v v := .inl rfl
theorem OwnUp.trans {w w1 : World} {v v1 v2 : Value} (h : OwnUp w v v1) (hs : w.heap.size ≤ w1.heap.size) (k : OwnUp w1 v1 v2) : OwnUp w v v2 := by
  rcases k with e | ⟨m, e, hm⟩
  · rcases h with e2 | ⟨m, e2, hm⟩
    · exact .inl (e.trans e2)
    · exact .inr ⟨m, e.trans e2, hm⟩
  · exact .inr ⟨m, e, Nat.le_trans hs hm⟩
/-- One byte goes behind others. -/
theorem wpList_append_byte {w : World} {ops : Array Oper} {rest : List Oper} {o : Oper} {a : Act} {Q : Exit → Act → World → Prop} (hgd : o.guard = none) (s x : Operand)
    (ho : o.op = .call { callee := .builtin .append, args := #[s, x], argTypes := #[160, 160] }) (base : Nat) (v : Value) (M : List UInt8) (hs : a.eval s = v) (hown : BRow base w v M)
    (ad : Addr) (c : Nat) (hx : a.eval x = .slice (some ad) 1 c) (b : UInt8) (hb : w.cell? ad = some (byV b)) (hm : M.length ≤ 100000) (hbase : base ≤ w.heap.size)
    (h : ∀ v' w', BRow base w' v' (M ++ [b]) → Keep v.ownBlock.toList w w' → (v'.ownBlock = v.ownBlock ∨ v'.ownBlock = some w.heap.size) → wpList Tryz.prog ops Q rest (a.put o.dst v') w') :
    wpList Tryz.prog ops Q (o :: rest) a w := by
  obtain ⟨i0, hi0, hz0, hz1, hz2⟩ := info_parts infoU8
  refine wpList_append_own_at _ hgd s x 160 ho base 5 i0 (.int .u8 0) 1 1 Tryz.underlying160 hi0 hz0 hz1 hz2 rfl (by decide) v M.length (M.map byV) hs hown ad 1 c [byV b] hx rfl ?_ ?_ (by unfold maxLen; omega) (by omega) hbase ?_
  · intro j u hj
    cases j with
    | zero => simp at hj; subst hj; rw [show ad.add 0 = ad from by unfold Addr.add; simp]; exact hb
    | succ j => simp at hj
  · intro u hu; simp at hu; subst hu; rfl
  · intro v' w' hown' hgrow _ hat'
    refine h v' w' ?_ ((Keep.refl _ w).grown hgrow (fun k hk => .inl (by simp [hk]))) hat'
    unfold BRow
    rw [List.length_append, List.map_append]
    exact hown'
theorem all_below {p : Nat → Bool} {n : Nat} (h : (List.range n).all p = true) : ∀ i, i < n → p i = true := fun i hi => List.all_eq_true.1 h i (List.mem_range.2 hi)
theorem bits_or128 (n : Nat) (h : n < 256) : bits BinOp.or .u8 (n : Int) 128 = ((n % 128 + 128 : Nat) : Int) := by
  have : (List.range 256).all (fun n => decide (bits BinOp.or .u8 (n : Int) 128 = ((n % 128 + 128 : Nat) : Int))) = true := by kernel_rfl
  exact of_decide_eq_true (all_below this n h)
theorem byV_ofNat (n : Nat) (h : n < 256) : byV (UInt8.ofNat n) = .int .u8 (n : Int) := by
  unfold byV
  rw [show (UInt8.ofNat n).toNat = n from by rw [UInt8.toNat_ofNat']; omega]
theorem varB_len (n : Nat) (h : n < 18446744073709551616) : (varB n).length ≤ 10 := by
  have key : ∀ (d n : Nat), n < 128 ^ (d + 1) → (varB n).length ≤ d + 1 := by
    intro d
    induction d with
    | zero => intro n h; unfold varB; rw [if_pos (by simpa using h)]; simp
    | succ d ih =>
      intro n h
      unfold varB
      split
      · simp
      · rw [List.length_cons]
        have := ih (n / 128) (by rw [Nat.div_lt_iff_lt_mul (by omega)]; rw [Nat.pow_succ] at h; exact h)
        omega
  exact key 9 n (Nat.lt_of_lt_of_le h (by decide))
set_option maxRecDepth 100000 in
theorem putVar_any {base : Nat} {w : World} {v : Value} {l : List UInt8} (h : BRow base w v l) (hb : base ≤ w.heap.size) (hl : l.length ≤ 90000) (x : Nat) (hx : x < 18446744073709551616) : Calls Tryz.prog 147 #[v, .int .u64 x] w fun e w' => ∃ v', e = .returned v' ∧ BRow base w' v' (l ++ varB x) ∧ Keep v.ownBlock.toList w w' ∧ OwnUp w v v' := by
  have H := Lib.hid h
  clear h
  obtain ⟨av, cv, rfl, _⟩ := own_shape H.out
  have hlen : (l ++ varB x).length ≤ 90010 := by have := varB_len x hx; rw [List.length_append]; omega
  go_enter Tryz.func147, Tryz.ntmps147
  go_wp2_with (fail)
  go_loopw [0, 1] (fun a i wr => ∃ (y : Nat) (l2 : List UInt8), i = .int .u64 y ∧ y ≤ x ∧ BRow base wr a l2 ∧ l2 ++ varB y = l ++ varB x ∧ Keep (Value.slice av l.length cv).ownBlock.toList w wr ∧ (a.ownBlock = (Value.slice av l.length cv).ownBlock ∨ ∃ g, a.ownBlock = some g ∧ w.heap.size ≤ g)) (fun a i _ => (intOf i).toNat)
  case atStart => exact ⟨x, l, rfl, Nat.le_refl _, H.out, rfl, Keep.refl _ _, .inl rfl⟩
  case round =>
    obtain ⟨y, l2, rfl, hy, hr, he, hk, hob⟩ := hrel
    obtain ⟨a2, c2, rfl, _⟩ := own_shape hr
    have hl2 : l2.length ≤ 90010 := by rw [← he, List.length_append] at hlen; omega
    have step : ∀ (b : UInt8) (vb : Value), byV b = vb → ∀ (Wx : World), Wx = wr.alloc (.cells #[vb] 5) → BRow base Wx (.slice a2 l2.length c2) l2 ∧ Wx.cell? ⟨wr.heap.size, 0, none⟩ = some (byV b) ∧ base ≤ Wx.heap.size ∧
        (∀ (v' : Value) (w' : World), Keep (Value.slice a2 l2.length c2).ownBlock.toList Wx w' → (v'.ownBlock = (Value.slice a2 l2.length c2).ownBlock ∨ v'.ownBlock = some (wr.heap.size + 1)) → Keep (Value.slice av l.length cv).ownBlock.toList w w' ∧ (v'.ownBlock = (Value.slice av l.length cv).ownBlock ∨ ∃ g, v'.ownBlock = some g ∧ w.heap.size ≤ g)) := by
      intro b vb hvb Wx hWx
      subst hWx
      have ka : Keep [] wr (wr.alloc (.cells #[vb] 5)) := (Keep.refl _ _).alloc _
      refine ⟨hr.keep ka (by simp), ?_, Nat.le_trans hb (Nat.le_trans hk.size ka.size), fun v' w' h1 h2 => ?_⟩
      · have := cells_new wr [vb] 5 _ rfl 0 vb rfl
        rw [hvb]
        simp [Addr.add]
      · have k2 : Keep (Value.slice av l.length cv).ownBlock.toList w (wr.alloc (.cells #[vb] 5)) := hk.alloc _
        refine ⟨k2.step h1 (fun z hz => ?_), ?_⟩
        · rcases hob with e | ⟨g, e, hg⟩
          · exact .inl (by rw [← e]; exact hz)
          · rw [e] at hz
            obtain rfl : z = g := by simpa using hz
            exact .inr hg
        · rcases h2 with e | e
          · rw [e]; exact hob
          · exact .inr ⟨_, e, by have := k2.size; rw [World.size_alloc] at this; exact this⟩
    have HR := Lib.hid step
    have HE := Lib.hid he
    clear hr he hk hob step
    by_cases h : (128 : Int) ≤ y
    · have hv : varB y = UInt8.ofNat (y % 128 + 128) :: varB (y / 128) := by rw [varB, if_neg (by omega)]
      have hbv : byV (UInt8.ofNat (y % 128 + 128)) = .int .u8 (bits BinOp.or .u8 ((y : Int) % 256) 128) := by
        rw [byV_ofNat _ (by omega), show ((y : Int) % 256) = ((y % 256 : Nat) : Int) from by omega, bits_or128 _ (by omega)]
        congr 2
        omega
      obtain ⟨bb, hbb⟩ : ∃ b, UInt8.ofNat (y % 128 + 128) = b := ⟨_, rfl⟩
      rw [hbb] at hv hbv
      obtain ⟨r1, r2, r3, r4⟩ := HR.out _ _ hbv _ rfl
      have R1 := Lib.hid r1
      have R2 := Lib.hid r2
      have R3 := Lib.hid r3
      have R4 := Lib.hid r4
      have HV := Lib.hid hv
      clear r1 r2 r3 r4 hbv hv hbb
      go_wp2_with (at_builtin; refine wpList_append_byte rfl _ _ rfl base _ l2 rfl R1.out ⟨wr.heap.size, 0, none⟩ 1 rfl _ R2.out (by omega) R3.out ?_)
      intro v' w' hr' hk' hat'
      obtain ⟨k1, k2⟩ := R4.out v' w' hk' hat'
      have HN := Lib.hid hr'
      have HK1 := Lib.hid k1
      have HK2 := Lib.hid k2
      clear hr' hk' hat' k1 k2
      go_wp2_with (fail)
      go_roundw
      case rel => exact ⟨y / 128, l2 ++ [bb], by simp [Int.shiftRight_eq_div_pow], by omega, HN.out, by rw [← HE.out, HV.out]; simp, HK1.out, HK2.out⟩
      case measure => simp [intOf, Int.shiftRight_eq_div_pow]; omega
    · have hv : varB y = [UInt8.ofNat y] := by rw [varB, if_pos (by omega)]
      have hbv : byV (UInt8.ofNat y) = .int .u8 (y : Int) := byV_ofNat _ (by omega)
      obtain ⟨bb, hbb⟩ : ∃ b, UInt8.ofNat y = b := ⟨_, rfl⟩
      rw [hbb] at hv hbv
      obtain ⟨r1, r2, r3, r4⟩ := HR.out _ _ hbv _ rfl
      have R1 := Lib.hid r1
      have R2 := Lib.hid r2
      have R3 := Lib.hid r3
      have R4 := Lib.hid r4
      have HV := Lib.hid hv
      clear r1 r2 r3 r4 hbv hv hbb
      go_wp2_with (at_builtin; refine wpList_append_byte rfl _ _ rfl base _ l2 rfl R1.out ⟨wr.heap.size, 0, none⟩ 1 rfl _ R2.out (by omega) R3.out ?_)
      intro v' w' hr' hk' hat'
      obtain ⟨k1, k2⟩ := R4.out v' w' hk' hat'
      have HN := Lib.hid hr'
      have HK1 := Lib.hid k1
      have HK2 := Lib.hid k2
      clear hr' hk' hat' k1 k2
      go_wp2_with (fail)
      go_ret
      exact ⟨v', rfl, by rw [← HE.out, HV.out]; exact HN.out, HK1.out, HK2.out⟩
end Go.Proofs.YtdnfibecobodkaaGreat
