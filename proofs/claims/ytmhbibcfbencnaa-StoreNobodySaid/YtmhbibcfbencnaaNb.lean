/- StoreNobody. -/
import Derived.Test.YtmhbibcfbencnaaStN
import Derived.Test.YtmhbibcfbencnaaStO
import Derived.WalkSpells
namespace Go.Proofs.Ytmhbibcfbencnaa
open Go.RowKit Go.Lib
set_option linter.unusedSimpArgs false
set_option linter.unusedVariables false
theorem gt31 : Try.prog.eqGuardType Try.prog.depth 31 = false := by kernel_rfl
theorem gt33 : Try.prog.eqGuardType Try.prog.depth 33 = false := by kernel_rfl
theorem guard_ag (op : BinOp) (x y : Operand) (xs ys : Array Value) (W : World) : (eqGuard op 31 x y (.agg xs) (.agg ys)).run Try.prog W = .ok () W := run_eqGuard_agg W op _ x y xs ys gt31
theorem guard_ot (op : BinOp) (x y : Operand) (xs ys : Array Value) (W : World) : (eqGuard op 33 x y (.agg xs) (.agg ys)).run Try.prog W = .ok () W := run_eqGuard_agg W op _ x y xs ys gt33
theorem eql_ag (a b : Ag) (W : World) : (binOp .eql 31 a.val b.val).run Try.prog W = .ok (.bool (decide (a = b))) W := by
  rw [show a.val = .agg _ from rfl, show b.val = .agg _ from rfl, run_eql_struct W, show (10000 : Nat) = 9996 + 4 from rfl]
  have := eq_ag 9996 a b W
  rw [show a.val = .agg _ from rfl, show b.val = .agg _ from rfl] at this
  rw [this]; rfl
theorem neq_ag (a b : Ag) (W : World) : (binOp .neq 31 a.val b.val).run Try.prog W = .ok (.bool (!decide (a = b))) W := by
  rw [show a.val = .agg _ from rfl, show b.val = .agg _ from rfl, run_neq_struct W, show (10000 : Nat) = 9996 + 4 from rfl]
  have := eq_ag 9996 a b W
  rw [show a.val = .agg _ from rfl, show b.val = .agg _ from rfl] at this
  rw [this]; rfl
theorem neq_ot (a b : Ot) (W : World) : (binOp .neq 33 a.val b.val).run Try.prog W = .ok (.bool (!decide (a = b))) W := by
  rw [show a.val = .agg _ from rfl, show b.val = .agg _ from rfl, run_neq_struct W, show (10000 : Nat) = 9994 + 6 from rfl]
  have := eq_ot 9994 a b W
  rw [show a.val = .agg _ from rfl, show b.val = .agg _ from rfl] at this
  rw [this]; rfl
theorem otAt_ten {W : World} {g : Nat} {x : Ot} (h : OtAt W g x) : W.cell? ⟨g, 0, none⟩ = some (.string x.key) ∧ W.cell? ⟨g, 1, none⟩ = some (.int .i64 x.st) ∧ W.cell? ⟨g, 2, none⟩ = some (.int .i64 x.ag.c) ∧ W.cell? ⟨g, 3, none⟩ = some (.int .i64 x.ag.s) ∧ W.cell? ⟨g, 4, none⟩ = some (.int .i64 x.ag.lo) ∧
    W.cell? ⟨g, 5, none⟩ = some (.int .i64 x.ag.hi) ∧ W.cell? ⟨g, 6, none⟩ = some (.int .i64 x.ag.b0) ∧ W.cell? ⟨g, 7, none⟩ = some (.int .i64 x.ag.b1) ∧ W.cell? ⟨g, 8, none⟩ = some (.int .i64 x.ag.b2) ∧ W.cell? ⟨g, 9, none⟩ = some (.int .i64 x.ag.b3) := by
  unfold OtAt at h
  refine ⟨?_, ?_, ?_, ?_, ?_, ?_, ?_, ?_, ?_, ?_⟩
  all_goals (unfold World.cell?; rw [h]; rfl)
theorem sset_nil (o : Ot) (w : World) : Calls Try.prog 38 #[.pointer none, .agg o.enc.toArray] w fun e w' => e = .returned (.int .i64 2) ∧ Below w.heap.size w w' := by
  unfold Ot.enc
  go_enter Try.func38, Try.ntmps38
  go_wp2_with (fail)
  go_ret
  exact ⟨rfl, (Below.refl _ _).alloc (Nat.le_refl _) _⟩
set_option maxRecDepth 100000 in
set_option maxHeartbeats 4000000 in
theorem law_StoreNobody (k : ByteArray) (hk : k.size ≤ maxLen) (t : Int) (ht : (Lit.int .i64 t).wf = true) (v : Int) (hv : (Lit.int .i64 v).wf = true) (o : Ot) (ho : o.Wf) (w : World) :
    Calls Try.prog 10 #[.string k, .int .i64 t, .int .i64 v, .agg o.enc.toArray] w fun e w' => e = .returned (.bool true) ∧ Below w.heap.size w w' := by
  have hk2 := ho.key
  unfold maxLen at hk hk2
  have hz := Int.natCast_nonneg k.size
  have hz2 := Int.natCast_nonneg o.key.size
  have hne := eql_ag Ag.zero Ag.zero
  have hgd := guard_ag .eql
  simp only [Ag.val, Ag.zero, decide_true] at hne
  unfold Ot.enc
  obtain ⟨ok, os, x1, x2, x3, x4, x5, x6, x7, x8⟩ := o
  simp only at hk2 hz2 ⊢
  clear ho ht hv
  have HN := Lib.hid hne
  have HG := Lib.hid hgd
  clear hne hgd
  have hx := OtAt.new w ⟨ok, os, ⟨x1, x2, x3, x4, x5, x6, x7, x8⟩⟩
  have HW0 := Lib.hid ((Below.refl _ w).alloc (Nat.le_refl _) (.cells #[.string ok, .int .i64 os, .int .i64 x1, .int .i64 x2, .int .i64 x3, .int .i64 x4, .int .i64 x5, .int .i64 x6, .int .i64 x7, .int .i64 x8] 33))
  have HX := Lib.hid hx
  clear hx
  by_cases h1 : k.size ≤ 100
  · by_cases h2 : ok.size ≤ 100
    · go_enter Try.func10, Try.ntmps10
      go_wp2_with (fail)
      refine (sput_nil _ _ _ _).mono ?_
      rintro e w1 ⟨rfl, hB1⟩
      have HX1 := Lib.hid (HX.out.keep (Keep.of_below hB1 []))
      have HW1 := Lib.hid (HW0.out.trans (hB1.mono HW0.out.size))
      clear hB1 HX HW0
      obtain ⟨c0, c1, c2, c3, c4, c5, c6, c7, c8, c9⟩ := otAt_ten HX1.out
      simp only at c0 c1 c2 c3 c4 c5 c6 c7 c8 c9
      go_wp2_with (fail)
      clear c0 c1 c2 c3 c4 c5 c6 c7 c8 c9
      refine (sset_nil ⟨ok, os, ⟨x1, x2, x3, x4, x5, x6, x7, x8⟩⟩ _).mono ?_
      rintro e w2 ⟨rfl, hB2⟩
      have HW2 := Lib.hid (HW1.out.trans (hB2.mono HW1.out.size))
      clear hB2 HW1 HX1
      go_wp2_with (fail)
      refine (sget_nil _ _ _).mono ?_
      rintro e w3 ⟨rfl, hB3⟩
      have HW3 := Lib.hid (HW2.out.trans (hB3.mono HW2.out.size))
      simp only [Ag.val, Ag.zero]
      clear hB3 HW2
      have hz3 := Bx.new w3 0 0 0 0 0 0 0 0
      have HW4 := Lib.hid (HW3.out.alloc HW3.out.size (agObj 0 0 0 0 0 0 0 0))
      obtain ⟨r0, r1, r2, r3, r4, r5, r6, r7, r8, rf⟩ := hz3.facts
      have hne := HN.out
      have hgd := HG.out
      go_wp2_with (fail)
      clear r0 r1 r2 r3 r4 r5 r6 r7 r8 rf hne hgd hz3 HW3
      refine (sall_nil _).mono ?_
      rintro e w4 ⟨A, c, rfl, hE, hB4⟩
      simp only [List.length_nil]
      have HW5 := Lib.hid (HW4.out.trans (hB4.mono HW4.out.size))
      clear hE hB4 HW4
      go_wp2_with (fail)
      refine (stake_nil _ _).mono ?_
      rintro e w5 ⟨c', rfl, hB5⟩
      have HW6 := Lib.hid (HW5.out.trans (hB5.mono HW5.out.size))
      clear hB5 HW5
      go_wp2_with (fail)
      refine (slen_nil _).mono ?_
      rintro e w6 ⟨rfl, rfl⟩
      go_wp2_with (fail)
      refine (stwin_nil _).mono ?_
      rintro e w6 ⟨rfl, rfl⟩
      go_wp2_with (fail)
      refine (wakes09 _).mono ?_
      rintro e w6 ⟨rfl, hB6⟩
      have HW7 := Lib.hid (HW6.out.trans (hB6.mono HW6.out.size))
      clear hB6 HW6
      go_wp2_with (fail)
      go_ret
      exact ⟨rfl, HW7.out⟩
    · obtain ⟨c0, c1, cf⟩ := HX.out.cells
      simp only at c0 c1
      go_enter Try.func10, Try.ntmps10
      go_wp2_with (fail)
      refine (wakes09 _).mono ?_
      rintro e w6 ⟨rfl, hB6⟩
      have HW7 := Lib.hid (HW0.out.trans (hB6.mono HW0.out.size))
      clear hB6
      go_wp2_with (fail)
      go_ret
      exact ⟨rfl, HW7.out⟩
  · go_enter Try.func10, Try.ntmps10
    go_wp2_with (fail)
    refine (wakes09 _).mono ?_
    rintro e w6 ⟨rfl, hB6⟩
    have HW7 := Lib.hid (HW0.out.trans (hB6.mono HW0.out.size))
    clear hB6
    go_wp2_with (fail)
    go_ret
    exact ⟨rfl, HW7.out⟩
end Go.Proofs.Ytmhbibcfbencnaa
