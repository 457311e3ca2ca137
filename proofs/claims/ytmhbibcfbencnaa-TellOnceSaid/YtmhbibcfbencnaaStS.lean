/- The store: Set. -/
import Derived.Test.YtmhbibcfbencnaaStR
import Derived.Test.YtmhbibcfbencnaaStQ
namespace Go.Proofs.Ytmhbibcfbencnaa
open Go.RowKit Go.Lib
open Go.ChangeMaps (setBlock)
set_option linter.unusedSimpArgs false
set_option linter.unusedVariables false
/-- May a window be set? -/
def okO (o : Ot) : Bool := keyB o.key && (decide (0 ≤ endI o.st) && (rightA o.ag && decide (o.ag.c ≠ 0)))
def setL (L : List Ot) (o : Ot) : Int × List Ot :=
  if okO o = false then (1, L)
  else if (lkL (wdOf o) L).isSome = true then (5, L)
  else if 32 ≤ L.length then (6, L)
  else (0, insL o L)
theorem sset_nil (o : Ot) (w : World) : Calls Try.prog 38 #[.pointer none, .agg o.enc.toArray] w fun e w' => e = .returned (.int .i64 2) ∧ Below w.heap.size w w' := by
  unfold Ot.enc
  go_enter Try.func38, Try.ntmps38
  go_wp2_with (fail)
  go_ret
  exact ⟨rfl, (Below.refl _ _).alloc (Nat.le_refl _) _⟩
set_option maxRecDepth 100000 in
set_option maxHeartbeats 8000000 in
theorem rset_any {w : World} {p b : Nat} {L : List Ot} (h : SrAt w p b L) (hm : L.length ≤ 1000) (o : Ot) (hkz : o.key.size ≤ maxLen) :
    Calls Try.prog 38 #[.pointer (some ⟨p, 0, none⟩), .agg o.enc.toArray] w fun e w' => e = .returned (.int .i64 (setL L o).1) ∧ SrAt w' p b (setL L o).2 ∧ Keep [b] w w' := by
  obtain ⟨m, hS, hO⟩ := h
  have hml : m.length ≤ 1000 := by rw [← hS_len hO]; exact hm
  obtain ⟨⟨e0, L0⟩, hr⟩ : ∃ r, setL L o = r := ⟨_, rfl⟩
  rw [hr]
  simp only
  unfold setL okO at hr
  have hkey := fun w => key_any o.key w hkz
  have hend := fun w => end_any o.st w
  have hrt := fun w => aright_any o.ag w
  obtain ⟨kb, hkb⟩ : ∃ x, keyB o.key = x := ⟨_, rfl⟩
  obtain ⟨en, hen⟩ : ∃ x, endI o.st = x := ⟨_, rfl⟩
  obtain ⟨ra, hra⟩ : ∃ x, rightA o.ag = x := ⟨_, rfl⟩
  rw [hkb] at hkey hr
  rw [hen] at hend hr
  rw [hra] at hrt hr
  have hB1 : Below w.heap.size w (w.alloc (.cells #[.string o.key, .int .i64 o.st, .int .i64 o.ag.c, .int .i64 o.ag.s, .int .i64 o.ag.lo, .int .i64 o.ag.hi, .int .i64 o.ag.b0, .int .i64 o.ag.b1, .int .i64 o.ag.b2, .int .i64 o.ag.b3] 33)) := (Below.refl _ w).alloc (Nat.le_refl _) _
  have HX := Lib.hid (OtAt.new w o)
  have HS0 := Lib.hid (hS.below hB1)
  have HB1 := Lib.hid hB1
  have HK := Lib.hid hkey
  have HE := Lib.hid hend
  have HR := Lib.hid hrt
  have hsl := hS.lt
  have HO0 := Lib.hid hO
  obtain ⟨c0, c1, c2, c3, c4, c5, c6, c7, c8, c9⟩ := otAt_ten HX.out
  clear hB1 hkey hend hrt hkb hen hra hS hkz hm
  unfold Ot.enc
  obtain ⟨k, s, a1, a2, a3, a4, a5, a6, a7, a8⟩ := o
  simp only [Ag.val] at c0 c1 c2 c3 c4 c5 c6 c7 c8 c9 HX HS0 HB1 HK HE HR hr ⊢
  cases kb with
  | false =>
    rw [if_pos (by simp)] at hr
    simp only [Prod.mk.injEq] at hr
    obtain ⟨rfl, rfl⟩ := hr
    go_enter Try.func38, Try.ntmps38
    go_wp2_with (fail)
    refine (HK.out _).mono ?_
    rintro e w' ⟨rfl, rfl⟩
    go_wp2_with (fail)
    go_ret
    exact ⟨rfl, ⟨m, HS0.out, hO⟩, Keep.of_below HB1.out _⟩
  | true =>
    by_cases hen : en < 0
    · rw [if_pos (by simp; omega)] at hr
      simp only [Prod.mk.injEq] at hr
      obtain ⟨rfl, rfl⟩ := hr
      go_enter Try.func38, Try.ntmps38
      go_wp2_with (fail)
      refine (HK.out _).mono ?_
      rintro e w' ⟨rfl, rfl⟩
      go_wp2_with (fail)
      refine (HE.out _).mono ?_
      rintro e w' ⟨rfl, rfl⟩
      go_wp2_with (fail)
      go_ret
      exact ⟨rfl, ⟨m, HS0.out, hO⟩, Keep.of_below HB1.out _⟩
    cases ra with
    | false =>
      rw [if_pos (by simp)] at hr
      simp only [Prod.mk.injEq] at hr
      obtain ⟨rfl, rfl⟩ := hr
      go_enter Try.func38, Try.ntmps38
      go_wp2_with (fail)
      refine (HK.out _).mono ?_
      rintro e w' ⟨rfl, rfl⟩
      go_wp2_with (fail)
      refine (HE.out _).mono ?_
      rintro e w' ⟨rfl, rfl⟩
      go_wp2_with (fail)
      refine (HR.out _).mono ?_
      rintro e W2 ⟨rfl, hB2⟩
      have HX2 := Lib.hid (HX.out.keep (Keep.of_below hB2 []))
      have HS2 := Lib.hid (HS0.out.below hB2)
      have HB2 := Lib.hid (HB1.out.trans (hB2.mono HB1.out.size))
      obtain ⟨c0, c1, c2, c3, c4, c5, c6, c7, c8, c9⟩ := otAt_ten HX2.out
      simp only at c0 c1 c2 c3 c4 c5 c6 c7 c8 c9
      clear hB2
      go_wp2_with (fail)
      go_ret
      exact ⟨rfl, ⟨m, HS2.out, hO⟩, Keep.of_below HB2.out _⟩
    | true =>
      by_cases hc : a1 = 0
      · have ec : (a1 == 0) = true := by simp [hc]
        rw [if_pos (by simp [hc])] at hr
        simp only [Prod.mk.injEq] at hr
        obtain ⟨rfl, rfl⟩ := hr
        clear hc
        go_enter Try.func38, Try.ntmps38
        go_wp2_with (fail)
        refine (HK.out _).mono ?_
        rintro e w' ⟨rfl, rfl⟩
        go_wp2_with (fail)
        refine (HE.out _).mono ?_
        rintro e w' ⟨rfl, rfl⟩
        go_wp2_with (fail)
        refine (HR.out _).mono ?_
        rintro e W2 ⟨rfl, hB2⟩
        have HX2 := Lib.hid (HX.out.keep (Keep.of_below hB2 []))
        have HS2 := Lib.hid (HS0.out.below hB2)
        have HB2 := Lib.hid (HB1.out.trans (hB2.mono HB1.out.size))
        obtain ⟨c0, c1, c2, c3, c4, c5, c6, c7, c8, c9⟩ := otAt_ten HX2.out
        simp only at c0 c1 c2 c3 c4 c5 c6 c7 c8 c9
        clear hB2
        go_wp2_with (fail)
        go_ret
        exact ⟨rfl, ⟨m, HS2.out, hO⟩, Keep.of_below HB2.out _⟩
      have ec : (a1 == 0) = false := by simp [hc]
      rw [if_neg (by simp [hc]; omega)] at hr
      clear hc
      rw [show wdOf (⟨k, s, ⟨a1, a2, a3, a4, a5, a6, a7, a8⟩⟩ : Ot) = ⟨s, k⟩ from rfl, ← HO0.out.look] at hr
      obtain ⟨⟨o1, o2, o3, o4, o5, o6, o7, o8⟩, ho⟩ : ∃ x, (look ⟨s, k⟩ m).getD Ag.zero = x := ⟨_, rfl⟩
      obtain ⟨is, his⟩ : ∃ x, (look ⟨s, k⟩ m).isSome = x := ⟨_, rfl⟩
      rw [his] at hr
      have HO := Lib.hid ho
      have HI := Lib.hid his
      have hlen := hS_len hO
      clear ho his
      cases is with
      | true =>
        rw [if_pos rfl] at hr
        simp only [Prod.mk.injEq] at hr
        obtain ⟨rfl, rfl⟩ := hr
        go_enter Try.func38, Try.ntmps38
        go_wp2_with (fail)
        refine (HK.out _).mono ?_
        rintro e w' ⟨rfl, rfl⟩
        go_wp2_with (fail)
        refine (HE.out _).mono ?_
        rintro e w' ⟨rfl, rfl⟩
        go_wp2_with (fail)
        refine (HR.out _).mono ?_
        rintro e W2 ⟨rfl, hB2⟩
        have HX2 := Lib.hid (HX.out.keep (Keep.of_below hB2 []))
        have HS2 := Lib.hid (HS0.out.below hB2)
        have HB2 := Lib.hid (HB1.out.trans (hB2.mono HB1.out.size))
        obtain ⟨c0, c1, c2, c3, c4, c5, c6, c7, c8, c9⟩ := otAt_ten HX2.out
        simp only at c0 c1 c2 c3 c4 c5 c6 c7 c8 c9
        clear hB2
        go_wp2_with (fail)
        clear c0 c1 c2 c3 c4 c5 c6 c7 c8 c9
        have HWX0 := Lib.hid (WxAt.new W2 s k)
        have hBW : Below W2.heap.size W2 (W2.alloc (.cells #[.int .i64 s, .string k] 95)) := (Below.refl _ W2).alloc (Nat.le_refl _) _
        obtain ⟨W3, hW3⟩ : ∃ W3, W2.alloc (.cells #[.int .i64 s, .string k] 95) = W3 := ⟨_, rfl⟩
        rw [hW3] at hBW HWX0
        simp only [hW3]
        have HX3 := Lib.hid (HX2.out.keep (Keep.of_below hBW []))
        have HS := Lib.hid (HS2.out.below hBW)
        have HWX := HWX0
        have HB3 := Lib.hid (HB2.out.trans (hBW.mono HB2.out.size))
        clear hW3 hBW HX2 HS2 HB2 HX HS0 HB1 HWX0
        refine wp_region_soup 11 [] (spOf [(9, Spec.cell W3.heap.size), (10, Spec.wr W3.heap.size)]) (by kernel_rfl) (by kernel_rfl) (spOk_cell_wr 9 10 _ _) (fun i s hs => by have h := spOf_mem hs; simp at h; rcases h with ⟨_, rfl⟩ | ⟨_, rfl⟩ <;> exact trivial) ?_
        simp only [List.take_succ_cons, List.take_zero, List.drop_succ_cons, List.drop_zero]
        iterate 9
          refine soup_q rfl rfl ?_
          apply Exists.intro
          refine ⟨fun W hk _ => ?_, ?_⟩
          · obtain ⟨h0, h1⟩ := (HS.out.keep hk (by simp) (by simp)).cells
            obtain ⟨x0, x1, x2⟩ := (HWX.out.keep hk).facts
            obtain ⟨hl1, hl2⟩ := lookAg (HS.out.keep hk (by simp) (by simp)).map ⟨s, k⟩
            rw [HO.out, HI.out] at hl1
            rw [HO.out] at hl2
            simp only [Ag.val, ekW] at hl1 hl2
            unfold Oper.same
            go_simp
            first | rfl | exact ⟨rfl, rfl⟩
          apply Exists.intro
          refine ⟨?_, ?_⟩
          · go_simp
            rfl
        refine soup_s rfl rfl rfl (fun W hk _ _ => ?_) ?_
        · unfold Oper.does
          go_simp
          exact ⟨(Keep.refl _ _).alloc _, hk.alloc _, ⟨_, rfl, hk.size⟩, _, rfl, hk.size, _, _, _, _, _, _, _, _, World.alloc_heap_new W _⟩
        rintro v ⟨g, rfl, hg⟩
        apply Exists.intro
        refine ⟨?_, ?_⟩
        · go_simp
          rfl
        refine soup_s rfl rfl rfl (fun W hk _ hd => ?_) ?_
        · obtain ⟨g', hg1, _, y1, y2, y3, y4, y5, y6, y7, y8, hgz⟩ := hd 9 (Dep.of 3 (by kernel_rfl))
          obtain rfl : g = g' := by simpa using hg1
          obtain ⟨r0, r1, r2, r3, r4, r5, r6, r7, r8, rf⟩ := Bx.facts hgz
          unfold Oper.does
          go_simp
          exact ⟨⟨g, ⟨o1, o2, o3, o4, o5, o6, o7, o8⟩, hg, rfl⟩, hk.step (setAg_keep W g ⟨o1, o2, o3, o4, o5, o6, o7, o8⟩) (fun y hy => .inr (by simp at hy; omega)), rfl, trivial⟩
        intro v hv
        obtain rfl : v = _ := hv
        apply Exists.intro
        refine ⟨?_, ?_⟩
        · go_simp
          rfl
        refine soup_nil (fun W4 hk hS => ?_)
        have HS4 := Lib.hid (HS.out.keep hk (by simp) (by simp))
        have HWX4 := Lib.hid (HWX.out.keep hk)
        have HX4 := Lib.hid (HX3.out.keep hk)
        have HB4 := Lib.hid (HB3.out.trans (hk.below HB3.out.size (by simp)))
        clear hS hk HS HWX HX3 HB3 hg
        go_wp2_with (fail)
        go_ret
        exact ⟨rfl, ⟨m, HS4.out, hO⟩, Keep.of_below HB4.out _⟩
      | false =>
        rw [if_neg (by simp)] at hr
        by_cases h32 : 32 ≤ L.length
        · rw [if_pos h32] at hr
          simp only [Prod.mk.injEq] at hr
          obtain ⟨rfl, rfl⟩ := hr
          have HD : Hid (decide (m.length < 32) = false) := Lib.hid (by simp; omega)
          go_enter Try.func38, Try.ntmps38
          go_wp2_with (fail)
          refine (HK.out _).mono ?_
          rintro e w' ⟨rfl, rfl⟩
          go_wp2_with (fail)
          refine (HE.out _).mono ?_
          rintro e w' ⟨rfl, rfl⟩
          go_wp2_with (fail)
          refine (HR.out _).mono ?_
          rintro e W2 ⟨rfl, hB2⟩
          have HX2 := Lib.hid (HX.out.keep (Keep.of_below hB2 []))
          have HS2 := Lib.hid (HS0.out.below hB2)
          have HB2 := Lib.hid (HB1.out.trans (hB2.mono HB1.out.size))
          obtain ⟨c0, c1, c2, c3, c4, c5, c6, c7, c8, c9⟩ := otAt_ten HX2.out
          simp only at c0 c1 c2 c3 c4 c5 c6 c7 c8 c9
          clear hB2
          go_wp2_with (fail)
          clear c0 c1 c2 c3 c4 c5 c6 c7 c8 c9
          have HWX0 := Lib.hid (WxAt.new W2 s k)
          have hBW : Below W2.heap.size W2 (W2.alloc (.cells #[.int .i64 s, .string k] 95)) := (Below.refl _ W2).alloc (Nat.le_refl _) _
          obtain ⟨W3, hW3⟩ : ∃ W3, W2.alloc (.cells #[.int .i64 s, .string k] 95) = W3 := ⟨_, rfl⟩
          rw [hW3] at hBW HWX0
          simp only [hW3]
          have HX3 := Lib.hid (HX2.out.keep (Keep.of_below hBW []))
          have HS := Lib.hid (HS2.out.below hBW)
          have HWX := HWX0
          have HB3 := Lib.hid (HB2.out.trans (hBW.mono HB2.out.size))
          clear hW3 hBW HX2 HS2 HB2 HX HS0 HB1 HWX0
          refine wp_region_soup 11 [] (spOf [(9, Spec.cell W3.heap.size), (10, Spec.wr W3.heap.size)]) (by kernel_rfl) (by kernel_rfl) (spOk_cell_wr 9 10 _ _) (fun i s hs => by have h := spOf_mem hs; simp at h; rcases h with ⟨_, rfl⟩ | ⟨_, rfl⟩ <;> exact trivial) ?_
          simp only [List.take_succ_cons, List.take_zero, List.drop_succ_cons, List.drop_zero]
          iterate 9
            refine soup_q rfl rfl ?_
            apply Exists.intro
            refine ⟨fun W hk _ => ?_, ?_⟩
            · obtain ⟨h0, h1⟩ := (HS.out.keep hk (by simp) (by simp)).cells
              obtain ⟨x0, x1, x2⟩ := (HWX.out.keep hk).facts
              obtain ⟨hl1, hl2⟩ := lookAg (HS.out.keep hk (by simp) (by simp)).map ⟨s, k⟩
              rw [HO.out, HI.out] at hl1
              rw [HO.out] at hl2
              simp only [Ag.val, ekW] at hl1 hl2
              unfold Oper.same
              go_simp
              first | rfl | exact ⟨rfl, rfl⟩
            apply Exists.intro
            refine ⟨?_, ?_⟩
            · go_simp
              rfl
          refine soup_s rfl rfl rfl (fun W hk _ _ => ?_) ?_
          · unfold Oper.does
            go_simp
            exact ⟨(Keep.refl _ _).alloc _, hk.alloc _, ⟨_, rfl, hk.size⟩, _, rfl, hk.size, _, _, _, _, _, _, _, _, World.alloc_heap_new W _⟩
          rintro v ⟨g, rfl, hg⟩
          apply Exists.intro
          refine ⟨?_, ?_⟩
          · go_simp
            rfl
          refine soup_s rfl rfl rfl (fun W hk _ hd => ?_) ?_
          · obtain ⟨g', hg1, _, y1, y2, y3, y4, y5, y6, y7, y8, hgz⟩ := hd 9 (Dep.of 3 (by kernel_rfl))
            obtain rfl : g = g' := by simpa using hg1
            obtain ⟨r0, r1, r2, r3, r4, r5, r6, r7, r8, rf⟩ := Bx.facts hgz
            unfold Oper.does
            go_simp
            exact ⟨⟨g, ⟨o1, o2, o3, o4, o5, o6, o7, o8⟩, hg, rfl⟩, hk.step (setAg_keep W g ⟨o1, o2, o3, o4, o5, o6, o7, o8⟩) (fun y hy => .inr (by simp at hy; omega)), rfl, trivial⟩
          intro v hv
          obtain rfl : v = _ := hv
          apply Exists.intro
          refine ⟨?_, ?_⟩
          · go_simp
            rfl
          refine soup_nil (fun W4 hk hS => ?_)
          have HS4 := Lib.hid (HS.out.keep hk (by simp) (by simp))
          have HWX4 := Lib.hid (HWX.out.keep hk)
          have HX4 := Lib.hid (HX3.out.keep hk)
          have HB4 := Lib.hid (HB3.out.trans (hk.below HB3.out.size (by simp)))
          clear hS hk HS HWX HX3 HB3 hg
          obtain ⟨x0, x1, x2⟩ := HWX4.out.facts
          go_wp2_with (fail)
          clear x0 x1 x2
          refine (room_any HS4.out s k hml).mono ?_
          rintro e W5 ⟨rfl, hB5⟩
          rw [HI.out]
          simp only [Bool.false_or]
          have HS5 := Lib.hid (HS4.out.below hB5)
          have HWX5 := Lib.hid (HWX4.out.keep (Keep.of_below hB5 []))
          have HX5 := Lib.hid (HX4.out.keep (Keep.of_below hB5 []))
          have HB5 := Lib.hid (HB4.out.trans (hB5.mono HB4.out.size))
          clear hB5 HS4 HWX4 HX4 HB4
          rw [HD.out]
          go_wp2_with (fail)
          go_ret
          exact ⟨rfl, ⟨m, HS5.out, hO⟩, Keep.of_below HB5.out _⟩
        · rw [if_neg h32] at hr
          simp only [Prod.mk.injEq] at hr
          obtain ⟨rfl, hL0⟩ := hr
          have HD : Hid (decide (m.length < 32) = true) := Lib.hid (by simp; omega)
          have HL0 := Lib.hid hL0
          clear hL0
          go_enter Try.func38, Try.ntmps38
          go_wp2_with (fail)
          refine (HK.out _).mono ?_
          rintro e w' ⟨rfl, rfl⟩
          go_wp2_with (fail)
          refine (HE.out _).mono ?_
          rintro e w' ⟨rfl, rfl⟩
          go_wp2_with (fail)
          refine (HR.out _).mono ?_
          rintro e W2 ⟨rfl, hB2⟩
          have HX2 := Lib.hid (HX.out.keep (Keep.of_below hB2 []))
          have HS2 := Lib.hid (HS0.out.below hB2)
          have HB2 := Lib.hid (HB1.out.trans (hB2.mono HB1.out.size))
          obtain ⟨c0, c1, c2, c3, c4, c5, c6, c7, c8, c9⟩ := otAt_ten HX2.out
          simp only at c0 c1 c2 c3 c4 c5 c6 c7 c8 c9
          clear hB2
          go_wp2_with (fail)
          clear c0 c1 c2 c3 c4 c5 c6 c7 c8 c9
          have HWX0 := Lib.hid (WxAt.new W2 s k)
          have hBW : Below W2.heap.size W2 (W2.alloc (.cells #[.int .i64 s, .string k] 95)) := (Below.refl _ W2).alloc (Nat.le_refl _) _
          obtain ⟨W3, hW3⟩ : ∃ W3, W2.alloc (.cells #[.int .i64 s, .string k] 95) = W3 := ⟨_, rfl⟩
          rw [hW3] at hBW HWX0
          simp only [hW3]
          have HX3 := Lib.hid (HX2.out.keep (Keep.of_below hBW []))
          have HS := Lib.hid (HS2.out.below hBW)
          have HWX := HWX0
          have HB3 := Lib.hid (HB2.out.trans (hBW.mono HB2.out.size))
          clear hW3 hBW HX2 HS2 HB2 HX HS0 HB1 HWX0
          refine wp_region_soup 11 [] (spOf [(9, Spec.cell W3.heap.size), (10, Spec.wr W3.heap.size)]) (by kernel_rfl) (by kernel_rfl) (spOk_cell_wr 9 10 _ _) (fun i s hs => by have h := spOf_mem hs; simp at h; rcases h with ⟨_, rfl⟩ | ⟨_, rfl⟩ <;> exact trivial) ?_
          simp only [List.take_succ_cons, List.take_zero, List.drop_succ_cons, List.drop_zero]
          iterate 9
            refine soup_q rfl rfl ?_
            apply Exists.intro
            refine ⟨fun W hk _ => ?_, ?_⟩
            · obtain ⟨h0, h1⟩ := (HS.out.keep hk (by simp) (by simp)).cells
              obtain ⟨x0, x1, x2⟩ := (HWX.out.keep hk).facts
              obtain ⟨hl1, hl2⟩ := lookAg (HS.out.keep hk (by simp) (by simp)).map ⟨s, k⟩
              rw [HO.out, HI.out] at hl1
              rw [HO.out] at hl2
              simp only [Ag.val, ekW] at hl1 hl2
              unfold Oper.same
              go_simp
              first | rfl | exact ⟨rfl, rfl⟩
            apply Exists.intro
            refine ⟨?_, ?_⟩
            · go_simp
              rfl
          refine soup_s rfl rfl rfl (fun W hk _ _ => ?_) ?_
          · unfold Oper.does
            go_simp
            exact ⟨(Keep.refl _ _).alloc _, hk.alloc _, ⟨_, rfl, hk.size⟩, _, rfl, hk.size, _, _, _, _, _, _, _, _, World.alloc_heap_new W _⟩
          rintro v ⟨g, rfl, hg⟩
          apply Exists.intro
          refine ⟨?_, ?_⟩
          · go_simp
            rfl
          refine soup_s rfl rfl rfl (fun W hk _ hd => ?_) ?_
          · obtain ⟨g', hg1, _, y1, y2, y3, y4, y5, y6, y7, y8, hgz⟩ := hd 9 (Dep.of 3 (by kernel_rfl))
            obtain rfl : g = g' := by simpa using hg1
            obtain ⟨r0, r1, r2, r3, r4, r5, r6, r7, r8, rf⟩ := Bx.facts hgz
            unfold Oper.does
            go_simp
            exact ⟨⟨g, ⟨o1, o2, o3, o4, o5, o6, o7, o8⟩, hg, rfl⟩, hk.step (setAg_keep W g ⟨o1, o2, o3, o4, o5, o6, o7, o8⟩) (fun y hy => .inr (by simp at hy; omega)), rfl, trivial⟩
          intro v hv
          obtain rfl : v = _ := hv
          apply Exists.intro
          refine ⟨?_, ?_⟩
          · go_simp
            rfl
          refine soup_nil (fun W4 hk hS => ?_)
          have HS4 := Lib.hid (HS.out.keep hk (by simp) (by simp))
          have HWX4 := Lib.hid (HWX.out.keep hk)
          have HX4 := Lib.hid (HX3.out.keep hk)
          have HB4 := Lib.hid (HB3.out.trans (hk.below HB3.out.size (by simp)))
          clear hS hk HS HWX HX3 HB3 hg
          obtain ⟨x0, x1, x2⟩ := HWX4.out.facts
          go_wp2_with (fail)
          clear x0 x1 x2
          refine (room_any HS4.out s k hml).mono ?_
          rintro e W5 ⟨rfl, hB5⟩
          rw [HI.out]
          simp only [Bool.false_or]
          have HS5 := Lib.hid (HS4.out.below hB5)
          have HWX5 := Lib.hid (HWX4.out.keep (Keep.of_below hB5 []))
          have HX5 := Lib.hid (HX4.out.keep (Keep.of_below hB5 []))
          have HB5 := Lib.hid (HB4.out.trans (hB5.mono HB4.out.size))
          clear hB5 HS4 HWX4 HX4 HB4
          rw [HD.out]
          obtain ⟨x0, x1, x2⟩ := HWX5.out.facts
          obtain ⟨c0, c1, c2, c3, c4, c5, c6, c7, c8, c9⟩ := otAt_ten HX5.out
          simp only at c0 c1 c2 c3 c4 c5 c6 c7 c8 c9
          go_wp2_with (fail)
          clear x0 x1 x2 c0 c1 c2 c3 c4 c5 c6 c7 c8 c9
          refine (sset_any HS5.out HO0.out.nodup s k ⟨a1, a2, a3, a4, a5, a6, a7, a8⟩).mono ?_
          rintro e W6 ⟨rfl, hS6, hK6⟩
          have HS6 : Hid (SrAt W6 p b L0) := Lib.hid ⟨_, hS6, by rw [← HL0.out]; exact HO0.out.put ⟨k, s, ⟨a1, a2, a3, a4, a5, a6, a7, a8⟩⟩⟩
          have HK6 := Lib.hid ((Keep.of_below HB5.out [b]).trans hK6)
          clear hS6 hK6
          go_wp2_with (fail)
          go_ret
          exact ⟨rfl, HS6.out, HK6.out⟩
end Go.Proofs.Ytmhbibcfbencnaa
