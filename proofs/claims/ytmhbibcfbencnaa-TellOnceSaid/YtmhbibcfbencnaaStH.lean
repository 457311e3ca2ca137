/- The store: Put. -/
import Derived.Test.YtmhbibcfbencnaaStG
import Derived.Test.YtmhbibcfbencnaaSpA
namespace Go.Proofs.Ytmhbibcfbencnaa
open Go.RowKit Go.Lib
open Go.ChangeMaps (setBlock)
set_option linter.unusedSimpArgs false
set_option linter.unusedVariables false
/-- What Put does. -/
def stPut (m : St) (k : ByteArray) (t v : Int) : Int × St :=
  if keyB k = false ∨ rightB t = false then (1, m)
  else if (look ⟨startI t, k⟩ m).isSome = false ∧ 32 ≤ m.length then (6, m)
  else (0, put ⟨startI t, k⟩ (((look ⟨startI t, k⟩ m).getD Ag.zero).put v) m)
theorem sput_nil (k : ByteArray) (t v : Int) (w : World) : Calls Try.prog 20 #[.pointer none, .string k, .int .i64 t, .int .i64 v] w fun e w' => e = .returned (.int .i64 2) ∧ Below w.heap.size w w' := by
  go_enter Try.func20, Try.ntmps20
  go_wp2_with (fail)
  refine (start_any _ _).mono ?_
  rintro e w' ⟨rfl, rfl⟩
  go_wp2_with (fail)
  go_ret
  exact ⟨rfl, (Below.refl _ _).alloc (Nat.le_refl _) _⟩
set_option maxRecDepth 100000 in
set_option maxHeartbeats 4000000 in
theorem sput_any {w : World} {p b : Nat} {m : St} (h : StAt w p b m) (hn : (m.map (·.1)).Nodup) (hm : m.length ≤ 1000) (k : ByteArray) (hk : k.size ≤ maxLen) (t v : Int) :
    Calls Try.prog 20 #[.pointer (some ⟨p, 0, none⟩), .string k, .int .i64 t, .int .i64 v] w fun e w' => e = .returned (.int .i64 (stPut m k t v).1) ∧ StAt w' p b (stPut m k t v).2 ∧ Keep [b] w w' := by
  obtain ⟨⟨e0, m0⟩, hr⟩ : ∃ r, stPut m k t v = r := ⟨_, rfl⟩
  rw [hr]
  simp only
  have hst := fun w => start_any t w
  have hkb := fun w => key_any k w hk
  have hrb := fun w => right_any t w
  unfold stPut at hr
  obtain ⟨s, hs⟩ : ∃ s, startI t = s := ⟨_, rfl⟩
  obtain ⟨kb, hkb1⟩ : ∃ x, keyB k = x := ⟨_, rfl⟩
  obtain ⟨rb, hrb1⟩ : ∃ x, rightB t = x := ⟨_, rfl⟩
  obtain ⟨o, ho⟩ : ∃ x, (look ⟨s, k⟩ m).getD Ag.zero = x := ⟨_, rfl⟩
  rw [hs] at hst hr
  rw [ho] at hr
  rw [hkb1] at hkb hr
  rw [hrb1] at hrb hr
  obtain ⟨ro, hro⟩ : ∃ x, ((look ⟨s, k⟩ m).isSome || decide (m.length < 32)) = x := ⟨_, rfl⟩
  have HST := Lib.hid hst
  have HKB := Lib.hid hkb
  have HRB := Lib.hid hrb
  have HO := Lib.hid ho
  have HRO := Lib.hid hro
  clear hst hkb hrb ho hs hkb1 hrb1 hk
  cases kb with
  | false =>
    rw [if_pos (by simp)] at hr
    simp only [Prod.mk.injEq] at hr
    obtain ⟨rfl, rfl⟩ := hr
    go_enter Try.func20, Try.ntmps20
    go_wp2_with (fail)
    refine (HST.out _).mono ?_
    rintro e w' ⟨rfl, rfl⟩
    go_wp2_with (fail)
    refine (HKB.out _).mono ?_
    rintro e w' ⟨rfl, rfl⟩
    go_wp2_with (fail)
    go_ret
    exact ⟨rfl, h.below ((Below.refl _ w).alloc (Nat.le_refl _) _), Keep.of_below ((Below.refl _ w).alloc (Nat.le_refl _) _) _⟩
  | true =>
    cases rb with
    | false =>
      rw [if_pos (by simp)] at hr
      simp only [Prod.mk.injEq] at hr
      obtain ⟨rfl, rfl⟩ := hr
      go_enter Try.func20, Try.ntmps20
      go_wp2_with (fail)
      refine (HST.out _).mono ?_
      rintro e w' ⟨rfl, rfl⟩
      go_wp2_with (fail)
      refine (HKB.out _).mono ?_
      rintro e w' ⟨rfl, rfl⟩
      go_wp2_with (fail)
      refine (HRB.out _).mono ?_
      rintro e w' ⟨rfl, rfl⟩
      go_wp2_with (fail)
      go_ret
      exact ⟨rfl, h.below ((Below.refl _ w).alloc (Nat.le_refl _) _), Keep.of_below ((Below.refl _ w).alloc (Nat.le_refl _) _) _⟩
    | true =>
      rw [if_neg (by simp)] at hr
      cases ro with
      | false =>
        rw [if_pos (by simpa using hro)] at hr
        simp only [Prod.mk.injEq] at hr
        obtain ⟨rfl, rfl⟩ := hr
        clear hro
        go_enter Try.func20, Try.ntmps20
        go_wp2_with (fail)
        refine (HST.out _).mono ?_
        rintro e w' ⟨rfl, rfl⟩
        go_wp2_with (fail)
        refine (HKB.out _).mono ?_
        rintro e w' ⟨rfl, rfl⟩
        go_wp2_with (fail)
        refine (HRB.out _).mono ?_
        rintro e w' ⟨rfl, rfl⟩
        go_wp2_with (fail)
        have hS1 := h.below ((Below.refl _ w).alloc (Nat.le_refl _) (.cells #[.int .i64 s, .string k] 95))
        refine (room_any hS1 s k hm).mono ?_
        rintro e w2 ⟨rfl, hB⟩
        rw [HRO.out]
        have HS2 := Lib.hid (hS1.below hB)
        have HX2 := Lib.hid ((WxAt.new w s k).keep (Keep.of_below hB []))
        have HB2 := Lib.hid (((Below.refl _ w).alloc (Nat.le_refl _) _).trans (hB.mono (by simp)))
        clear hS1 hB
        go_wp2_with (fail)
        go_ret
        exact ⟨rfl, HS2.out, Keep.of_below HB2.out _⟩
      | true =>
        rw [if_neg (by simp at hro ⊢; intro h1; rcases hro with h2 | h2; rw [h1] at h2; cases h2; exact h2)] at hr
        simp only [Prod.mk.injEq] at hr
        obtain ⟨he0, hm0⟩ := hr
        subst he0
        have HM := Lib.hid hm0
        obtain ⟨a2, ha2⟩ : ∃ x, o.put v = x := ⟨_, rfl⟩
        rw [ha2] at HM
        have HA2 := Lib.hid ha2
        have HN := Lib.hid hn
        obtain ⟨o1, o2, o3, o4, o5, o6, o7, o8⟩ := o
        obtain ⟨r1, r2, r3, r4, r5, r6, r7, r8⟩ := a2
        clear hro hm0 ha2 hn
        go_enter Try.func20, Try.ntmps20
        go_wp2_with (fail)
        refine (HST.out _).mono ?_
        rintro e w' ⟨rfl, rfl⟩
        go_wp2_with (fail)
        refine (HKB.out _).mono ?_
        rintro e w' ⟨rfl, rfl⟩
        go_wp2_with (fail)
        refine (HRB.out _).mono ?_
        rintro e w' ⟨rfl, rfl⟩
        go_wp2_with (fail)
        have hS1 := h.below ((Below.refl _ w).alloc (Nat.le_refl _) (.cells #[.int .i64 s, .string k] 95))
        refine (room_any hS1 s k hm).mono ?_
        rintro e w2 ⟨rfl, hB⟩
        rw [HRO.out]
        have HS2 := Lib.hid (hS1.below hB)
        have HX2 := Lib.hid ((WxAt.new w s k).keep (Keep.of_below hB []))
        have HB2 := Lib.hid (((Below.refl _ w).alloc (Nat.le_refl _) _).trans (hB.mono (by simp)))
        clear hS1 hB
        clear h
        go_wp2_with (fail)
        refine wp_region_soup 10 [] (spOf [(9, Spec.is (Ag.val ⟨r1, r2, r3, r4, r5, r6, r7, r8⟩))]) (by kernel_rfl) (by kernel_rfl) (spOk_of (by simp [Spec.is_ok])) (pre_of (by simp [Spec.is_ok])) ?_
        simp only [List.take_succ_cons, List.take_zero, List.drop_succ_cons, List.drop_zero]
        iterate 9
          refine soup_q rfl rfl ?_
          apply Exists.intro
          refine ⟨fun W hk _ => ?_, ?_⟩
          · obtain ⟨h0, h1⟩ := (HS2.out.keep hk (by simp) (by simp)).cells
            obtain ⟨x0, x1, x2⟩ := (HX2.out.keep hk).facts
            obtain ⟨hl1, hl2⟩ := lookAg (HS2.out.keep hk (by simp) (by simp)).map ⟨s, k⟩
            rw [HO.out] at hl2
            simp only [Ag.val, ekW] at hl2
            clear hl1
            unfold Oper.same
            go_simp
            first | rfl | exact ⟨rfl, rfl⟩
          apply Exists.intro
          refine ⟨?_, ?_⟩
          · go_simp
            rfl
        refine soup_s rfl rfl rfl (fun W hk _ _ => ?_) ?_
        · unfold Oper.does
          go_simp
          refine (aput_any ⟨o1, o2, o3, o4, o5, o6, o7, o8⟩ v _).mono ?_
          rintro e w' ⟨rfl, hB⟩
          exact ⟨_, rfl, Keep.of_below hB _, hk.then_below hB, by rw [HA2.out]; rfl, trivial⟩
        intro v' hv
        obtain rfl : v' = _ := hv
        apply Exists.intro
        refine ⟨?_, ?_⟩
        · go_simp
          rfl
        refine soup_nil (fun W3 hk hS => ?_)
        have hS3 := HS2.out.keep hk (by simp) (by simp)
        have hK3 := (Keep.of_below HB2.out [b]).trans (hk.mono (by simp))
        have HS3 := Lib.hid hS3
        have HK3 := Lib.hid hK3
        clear hS3 hK3 hS hk
        refine BigFrame.wpList_want rfl (fun K hK => ?_)
        go_simp
        refine (sset_any HS3.out HN.out s k ⟨r1, r2, r3, r4, r5, r6, r7, r8⟩).mono ?_
        rintro e w4 ⟨rfl, hS4, hK4⟩
        refine hK _ _ ?_
        clear hK K
        rw [HM.out] at hS4
        have HS4 := Lib.hid hS4
        have HK4 := Lib.hid (HK3.out.trans hK4)
        clear hS4 hK4
        go_wp2_with (fail)
        go_ret
        exact ⟨rfl, HS4.out, HK4.out⟩
end Go.Proofs.Ytmhbibcfbencnaa
