/- The document's windows: less. -/
import Derived.Test.YtmhbibcfbencnaaStY
namespace Go.Proofs.Ytmhbibcfbencnaa
open Go.RowKit Go.Lib
set_option linter.unusedSimpArgs false
set_option linter.unusedVariables false
theorem idxS (k : ByteArray) (j : Nat) (h : j < k.size) (W : World) : (Instr.index 9 (.string k) (.int .i64 j)).run Try.prog W = .ok (.int .u8 ((k.toList[j]'(by rw [ByteArray.toList_eq]; simpa using h)).toNat : Int)) W := by
  rw [run_index_string W 9 k .i64 j Try.underlying9, dif_pos ⟨by omega, by omega⟩]
  congr 3
  simp only [ByteArray.toList_eq]
  rfl
theorem bl_step {a b : List UInt8} {j : Nat} (ha : j < a.length) (hb : j < b.length) : bl (a.drop j) (b.drop j) = if (a[j].toNat : Int) = (b[j].toNat : Int) then bl (a.drop (j + 1)) (b.drop (j + 1)) else decide ((a[j].toNat : Int) < (b[j].toNat : Int)) := by
  rw [List.drop_eq_getElem_cons ha, List.drop_eq_getElem_cons hb]
  simp only [bl, Op.bytesLess]
  by_cases e : a[j] = b[j]
  · rw [e]; simp
  · have hn : ¬ ((a[j].toNat : Int) = (b[j].toNat : Int)) := fun h => e (UInt8.toNat.inj (by omega))
    rw [if_neg hn]
    simp only [beq_eq_false_iff_ne.2 e, Bool.false_and, Bool.or_false]
    congr 1
    rw [UInt8.lt_iff_toNat_lt]
    simp
theorem bl_endA {a b : List UInt8} {j : Nat} (ha : j = a.length) (hb : j ≤ b.length) : bl (a.drop j) (b.drop j) = decide (a.length < b.length) := by
  subst ha
  rw [List.drop_length]
  by_cases h : a.length < b.length
  · rw [List.drop_eq_getElem_cons h]; simp [bl, Op.bytesLess]; omega
  · rw [List.drop_eq_nil_of_le (by omega)]; simp [bl, Op.bytesLess]; omega
theorem bl_endB {a b : List UInt8} {j : Nat} (hb : j = b.length) (ha : j ≤ a.length) : bl (a.drop j) (b.drop j) = decide (a.length < b.length) := by
  subst hb
  rw [List.drop_length]
  rw [decide_eq_false (by omega)]
  cases a.drop b.length <;> rfl
theorem size_len (k : ByteArray) : k.toList.length = k.size := by rw [ByteArray.toList_eq]; rfl
set_option maxRecDepth 100000 in
set_option maxHeartbeats 2000000 in
theorem less_any (x y : Ot) (hxk : x.key.size ≤ maxLen) (hyk : y.key.size ≤ maxLen) (w : World) : Calls Try.prog 80 #[.agg x.enc.toArray, .agg y.enc.toArray] w fun e w' => e = .returned (.bool (ltB x y)) ∧ Below w.heap.size w w' := by
  obtain ⟨r, hr⟩ : ∃ r, ltB x y = r := ⟨_, rfl⟩
  rw [hr]
  unfold ltB at hr
  obtain ⟨xk, xs, ⟨x1, x2, x3, x4, x5, x6, x7, x8⟩⟩ := x
  obtain ⟨yk, ys, ⟨y1, y2, y3, y4, y5, y6, y7, y8⟩⟩ := y
  simp only at hr hxk hyk
  simp only [Ot.enc]
  obtain ⟨W1, hW1⟩ : ∃ W1, (w.alloc (.cells #[.string xk, .int .i64 xs, .int .i64 x1, .int .i64 x2, .int .i64 x3, .int .i64 x4, .int .i64 x5, .int .i64 x6, .int .i64 x7, .int .i64 x8] 33)).alloc (.cells #[.string yk, .int .i64 ys, .int .i64 y1, .int .i64 y2, .int .i64 y3, .int .i64 y4, .int .i64 y5, .int .i64 y6, .int .i64 y7, .int .i64 y8] 33) = W1 := ⟨_, rfl⟩
  have hx : OtAt W1 w.heap.size ⟨xk, xs, ⟨x1, x2, x3, x4, x5, x6, x7, x8⟩⟩ := hW1 ▸ (OtAt.new w ⟨xk, xs, ⟨x1, x2, x3, x4, x5, x6, x7, x8⟩⟩).keep ((Keep.refl [] _).alloc _)
  have hy : OtAt W1 (w.heap.size + 1) ⟨yk, ys, ⟨y1, y2, y3, y4, y5, y6, y7, y8⟩⟩ := by
    have := OtAt.new (w.alloc (.cells #[.string xk, .int .i64 xs, .int .i64 x1, .int .i64 x2, .int .i64 x3, .int .i64 x4, .int .i64 x5, .int .i64 x6, .int .i64 x7, .int .i64 x8] 33)) ⟨yk, ys, ⟨y1, y2, y3, y4, y5, y6, y7, y8⟩⟩
    rw [World.size_alloc] at this
    exact hW1 ▸ this
  have hB : Below w.heap.size w W1 := hW1 ▸ ((Below.refl _ w).alloc (Nat.le_refl _) _).alloc (by simp) _
  have HX := Lib.hid hx
  have HY := Lib.hid hy
  have HB := Lib.hid hB
  obtain ⟨a0, a1, af⟩ := hx.cells
  obtain ⟨b0, b1, bf⟩ := hy.cells
  simp only at a0 a1 b0 b1
  clear hx hy hB
  unfold maxLen at hxk hyk
  have hzx := Int.natCast_nonneg xk.size
  have hzy := Int.natCast_nonneg yk.size
  by_cases hs : xs = ys
  · subst hs
    simp only [Int.lt_irrefl, decide_false, decide_true, Bool.true_and, Bool.false_or] at hr
    have HR := Lib.hid hr
    clear hr
    go_enter Try.func80, Try.ntmps80
    go_wp2_with (fail)
    clear hW1 a0 a1 af b0 b1 bf
    go_loopw [5] (fun i wr => ∃ j : Nat, i = .int .i64 j ∧ j ≤ xk.size ∧ j ≤ yk.size ∧ bl (xk.toList.drop j) (yk.toList.drop j) = r ∧ Keep [] W1 wr) (fun i _ => xk.size - (intOf i).toNat)
    case atStart => exact ⟨0, rfl, Nat.zero_le _, Nat.zero_le _, HR.out, Keep.refl _ _⟩
    case round =>
      obtain ⟨j, rfl, hjx, hjy, hbl, hK⟩ := hrel
      have HX := Lib.hid (HX.out.keep hK)
      have HY := Lib.hid (HY.out.keep hK)
      have HK := Lib.hid hK
      have HBL := Lib.hid hbl
      clear hbl hK HR
      obtain ⟨a0, a1, af⟩ := HX.out.cells
      obtain ⟨b0, b1, bf⟩ := HY.out.cells
      simp only at a0 a1 b0 b1
      have h0j : (0 : Int) ≤ (j : Int) := Int.natCast_nonneg j
      by_cases hlx : j < xk.size
      · have hlx' : (j : Int) < (xk.size : Int) := by omega
        by_cases hly : j < yk.size
        · have hly' : (j : Int) < (yk.size : Int) := by omega
          have hst := bl_step (a := xk.toList) (b := yk.toList) (j := j) (by rw [size_len]; exact hlx) (by rw [size_len]; exact hly)
          rw [HBL.out] at hst
          have HI1 := Lib.hid (fun W => idxS xk j hlx W)
          have HI2 := Lib.hid (fun W => idxS yk j hly W)
          obtain ⟨n1, hn1⟩ : ∃ n, ((xk.toList[j]'(by rw [size_len]; exact hlx)).toNat : Int) = n := ⟨_, rfl⟩
          obtain ⟨n2, hn2⟩ : ∃ n, ((yk.toList[j]'(by rw [size_len]; exact hly)).toNat : Int) = n := ⟨_, rfl⟩
          rw [hn1] at hst HI1
          rw [hn2] at hst HI2
          have HST := Lib.hid hst
          clear hst hn1 hn2
          by_cases hn : n1 = n2
          · have hnb : (n1 != n2) = false := by simp [hn]
            have HBL2 : Hid (bl (xk.toList.drop (j + 1)) (yk.toList.drop (j + 1)) = r) := Lib.hid (by have := HST.out; rw [if_pos hn] at this; exact this.symm)
            clear hn HST HBL
            go_wp2_with (fail)
            clear a0 a1 af b0 b1 bf
            refine wp_region_soup 9 [] (spOf []) (by kernel_rfl) (by kernel_rfl) (spOk_of (by simp [Spec.is_ok])) (pre_of (by simp [Spec.is_ok])) ?_
            simp only [List.take_succ_cons, List.take_zero, List.drop_succ_cons, List.drop_zero]
            iterate 9
              with_reducible refine soup_q ?_ ?_ ?_
              · rfl
              · rfl
              with_reducible apply Exists.intro
              with_reducible refine ⟨fun W hk _ => ?_, ?_⟩
              · obtain ⟨a0, a1, af⟩ := (HX.out.keep hk).cells
                obtain ⟨b0, b1, bf⟩ := (HY.out.keep hk).cells
                simp only at a0 a1 b0 b1
                have i1 := HI1.out
                have i2 := HI2.out
                unfold Oper.same
                go_simp
                first | rfl | exact ⟨rfl, rfl⟩
              with_reducible apply Exists.intro
              with_reducible refine ⟨?_, ?_⟩
              · go_simp
                rfl
            refine soup_nil (fun W3 hk hS => ?_)
            have HK3 := Lib.hid (HK.out.trans hk)
            clear hk hS HK
            clear HX HY HI1 HI2
            go_wp2_with (fail)
            go_roundw
            case rel => exact ⟨j + 1, by go_num, by omega, by omega, HBL2.out, HK3.out⟩
            case measure => simp [intOf]; omega
          · have hnb : (n1 != n2) = true := by simp [hn]
            have HR2 : Hid (decide (n1 < n2) = r) := Lib.hid (by have := HST.out; rw [if_neg hn] at this; exact this.symm)
            clear hn HST HBL
            go_wp2_with (fail)
            clear a0 a1 af b0 b1 bf
            refine wp_region_soup 9 [] (spOf []) (by kernel_rfl) (by kernel_rfl) (spOk_of (by simp [Spec.is_ok])) (pre_of (by simp [Spec.is_ok])) ?_
            simp only [List.take_succ_cons, List.take_zero, List.drop_succ_cons, List.drop_zero]
            iterate 9
              with_reducible refine soup_q ?_ ?_ ?_
              · rfl
              · rfl
              with_reducible apply Exists.intro
              with_reducible refine ⟨fun W hk _ => ?_, ?_⟩
              · obtain ⟨a0, a1, af⟩ := (HX.out.keep hk).cells
                obtain ⟨b0, b1, bf⟩ := (HY.out.keep hk).cells
                simp only at a0 a1 b0 b1
                have i1 := HI1.out
                have i2 := HI2.out
                unfold Oper.same
                go_simp
                first | rfl | exact ⟨rfl, rfl⟩
              with_reducible apply Exists.intro
              with_reducible refine ⟨?_, ?_⟩
              · go_simp
                rfl
            refine soup_nil (fun W3 hk hS => ?_)
            have HK3 := Lib.hid (HK.out.trans hk)
            have HX := Lib.hid (HX.out.keep hk)
            have HY := Lib.hid (HY.out.keep hk)
            clear hk hS HK
            go_wp2_with (fail)
            refine wp_region_soup 9 [] (spOf []) (by kernel_rfl) (by kernel_rfl) (spOk_of (by simp [Spec.is_ok])) (pre_of (by simp [Spec.is_ok])) ?_
            simp only [List.take_succ_cons, List.take_zero, List.drop_succ_cons, List.drop_zero]
            iterate 9
              with_reducible refine soup_q ?_ ?_ ?_
              · rfl
              · rfl
              with_reducible apply Exists.intro
              with_reducible refine ⟨fun W hk _ => ?_, ?_⟩
              · obtain ⟨a0, a1, af⟩ := (HX.out.keep hk).cells
                obtain ⟨b0, b1, bf⟩ := (HY.out.keep hk).cells
                simp only at a0 a1 b0 b1
                have i1 := HI1.out
                have i2 := HI2.out
                unfold Oper.same
                go_simp
                first | rfl | exact ⟨rfl, rfl⟩
              with_reducible apply Exists.intro
              with_reducible refine ⟨?_, ?_⟩
              · go_simp
                rfl
            refine soup_nil (fun W3 hk hS => ?_)
            have HK4 := Lib.hid (HK3.out.trans hk)
            clear hk hS HK3
            go_wp2_with (fail)
            go_ret
            exact ⟨by rw [HR2.out]; rfl, HB.out.trans (HK4.out.below HB.out.size (by simp))⟩
        · have hly' : ¬ (j : Int) < (yk.size : Int) := by omega
          have HR2 : Hid (decide (xk.size < yk.size) = r) := Lib.hid (by have := bl_endB (a := xk.toList) (b := yk.toList) (j := j) (by rw [size_len]; omega) (by rw [size_len]; omega); rw [HBL.out, size_len, size_len] at this; exact this.symm)
          go_wp2_with (fail)
          go_ret
          exact ⟨by rw [HR2.out]; rfl, HB.out.trans (HK.out.below HB.out.size (by simp))⟩
      · have hlx' : ¬ (j : Int) < (xk.size : Int) := by omega
        have HR2 : Hid (decide (xk.size < yk.size) = r) := Lib.hid (by have := bl_endA (a := xk.toList) (b := yk.toList) (j := j) (by rw [size_len]; omega) (by rw [size_len]; omega); rw [HBL.out, size_len, size_len] at this; exact this.symm)
        go_wp2_with (fail)
        go_ret
        exact ⟨by rw [HR2.out]; rfl, HB.out.trans (HK.out.below HB.out.size (by simp))⟩
  · have hsb : (xs != ys) = true := by simp [hs]
    have HR : Hid (decide (xs < ys) = r) := Lib.hid (by rw [decide_eq_false hs, Bool.false_and, Bool.or_false] at hr; exact hr)
    clear hr hs
    go_enter Try.func80, Try.ntmps80
    go_wp2_with (fail)
    go_ret
    exact ⟨by rw [HR.out]; rfl, HB.out⟩
end Go.Proofs.Ytmhbibcfbencnaa
