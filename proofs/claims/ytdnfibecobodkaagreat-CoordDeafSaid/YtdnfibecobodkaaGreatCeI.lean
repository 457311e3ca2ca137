/- CoordDeaf. -/
import Derived.Test.YtdnfibecobodkaaGreatCeK
import Derived.Test.YtdnfibecobodkaaGreatCdB
import Derived.Deep.CutRange
namespace Go.Proofs.YtdnfibecobodkaaGreat
open Go.RowKit Go.Lib
set_option linter.unusedSimpArgs false
set_option linter.unusedVariables false
def Spec.tb1 (n : Nat) (ep nd : Int) (own : List Int) (on : Nat) : Spec := { p := fun _ v => ∃ a c, v = .agg #[.int .i64 ep, .int .i64 nd, .slice a on c], A := fun _ v w => ∃ a c, v = .agg #[.int .i64 ep, .int .i64 nd, .slice a on c] ∧ IRow n w (.slice a on c) own }
theorem Spec.tb1_ok (n : Nat) (ep nd : Int) (own : List Int) (on : Nat) : (Spec.tb1 n ep nd own on).ok :=
  ⟨fun x v w w' ⟨a, c, h1, h2⟩ hk => ⟨a, c, h1, h2.keep hk (by simp)⟩, fun _ _ _ h => h, fun _ => trivial, fun _ => ⟨_, none, 0, rfl⟩⟩
def Spec.pks (n : Nat) (l : List Pk) (tn : Nat) : Spec := { p := fun _ v => ∃ a c, v = .slice a tn c, A := fun _ v w => PRow n w v l }
theorem Spec.pks_ok (n : Nat) (l : List Pk) (tn : Nat) : (Spec.pks n l tn).ok :=
  ⟨fun x v w w' h hk => PRow.keep h hk (by simp), fun _ _ _ h => h, fun _ => trivial, fun _ => ⟨_, none, 0, rfl⟩⟩
set_option maxRecDepth 100000 in
set_option maxHeartbeats 16000000 in
theorem law_CoordDeaf (a0 : Int) (w0 : (Lit.int .u8 a0).wf = true) (a1 : Int) (w1 : (Lit.int .u8 a1).wf = true) (b2 : Option Addr) (l2 : List Ac) (e2 : Nat) (fr : Int) (wfr : (Lit.int .i64 fr).wf = true) (ms : List Value) (k : Nat) (mv pt cd : Int) (W : World) (hA : RowAt AcAt 28 W b2 l2) (hok : ∀ y ∈ l2, y.Ok) (hm : MsW ms k mv pt cd) : Calls Tryz.prog 5 #[.int .u8 a0, .int .u8 a1, .slice b2 l2.length e2, .int .i64 fr, .agg ms.toArray] W fun e w' => e = .returned (.bool true) ∧ Below W.heap.size W w' := by
  obtain ⟨n0, rfl, hn0⟩ : ∃ n : Nat, a0 = n ∧ n < 256 := by
    simp [Lit.wf, IntKind.min, IntKind.max, IntKind.signed, IntKind.bits] at w0
    exact ⟨a0.toNat, by omega, by omega⟩
  obtain ⟨n1, rfl, hn1⟩ : ∃ n : Nat, a1 = n ∧ n < 256 := by
    simp [Lit.wf, IntKind.min, IntKind.max, IntKind.signed, IntKind.bits] at w1
    exact ⟨a1.toNat, by omega, by omega⟩
  clear w0 w1 wfr
  have hbox := box_msg ms.toArray (by rw [List.size_toArray, hm.len])
  obtain ⟨W1, hW1⟩ : ∃ u, W.alloc (.cells ms.toArray 40) = u := ⟨_, rfl⟩
  have k1 : Keep [] W W1 := by rw [← hW1]; exact (Keep.refl _ _).alloc _
  have b1 : W1.heap[W.heap.size]? = some (.cells ms.toArray 40 (0, 0)) := by rw [← hW1]; exact World.alloc_heap_new W _
  have HB9 := Lib.hid b1
  have HSZ := Lib.hid (szMsgA hm.len)
  have HA := Lib.hid (RowAt.keep (fun _ _ _ h1 h2 h3 => h3.keep k1 h1 h2) hA k1 (by simp))
  have HO := Lib.hid hok
  have HM := Lib.hid hm
  have HK := Lib.hid k1
  obtain ⟨vm, hvm⟩ : ∃ vm, ms.toArray = vm := ⟨_, rfl⟩
  rw [hvm] at hbox hW1 HB9 HSZ ⊢
  have HVM := Lib.hid hvm
  clear k1 b1 hA hok hm hvm
  go_enter Tryz.func5, Tryz.ntmps5
  go_wp2_with (fail)
  refine (awake_any _).mono ?_
  rintro e W2 ⟨rfl, hB⟩
  have hk2 : Keep [] W1 W2 := Keep.of_below hB []
  have HA := Lib.hid (RowAt.keep (fun _ _ _ h1 h2 h3 => h3.keep hk2 h1 h2) HA.out hk2 (by simp))
  have HB9 := Lib.hid ((hk2.block _ (lt_of_heap HB9.out) (by simp)).trans HB9.out)
  have HK := Lib.hid (HK.out.trans hk2)
  clear hB hk2 hW1
  go_wp2_with (fail)
  refine (great_any e2 HA.out HO.out).mono ?_
  rintro e W3 ⟨b, rfl, hb, hk3⟩
  have HA := Lib.hid (RowAt.keep (fun _ _ _ h1 h2 h3 => h3.keep hk3 h1 h2) HA.out hk3 (by simp))
  have HB9 := Lib.hid ((hk3.block _ (lt_of_heap HB9.out) (by simp)).trans HB9.out)
  have HK := Lib.hid (HK.out.trans hk3)
  clear hk3
  cases b with
  | true =>
    clear hb
    go_wp2_with (fail)
    go_ret
    exact ⟨rfl, HK.out.below (Nat.le_refl _) (by simp)⟩
  | false =>
    have H200 := Lib.hid (hb rfl)
    clear hb
    obtain ⟨va, hva⟩ : ∃ va, (Ac.of ms k mv pt cd).cells.toArray = va := ⟨_, rfl⟩
    have hbl := built_act HM.out.len k mv pt cd
    have hok1 : (Ac.of ms k mv pt cd).Ok := ⟨HM.out, by simp [Ac.of, InR]⟩
    have hsl := slice_act (Ac.len hok1) W3
    rw [hva] at hsl hbl
    rw [HVM.out] at hbl
    obtain ⟨W4, hW4⟩ : ∃ u, W3.alloc (.cells va 60) = u := ⟨_, rfl⟩
    rw [hW4] at hsl
    have hk4 : Keep [] W3 W4 := by rw [← hW4]; exact (Keep.refl _ _).alloc _
    have hrow : RowAt AcAt 28 W4 (some ⟨W3.heap.size, 0, none⟩) [Ac.of ms k mv pt cd] := by
      intro _
      have hb4 : W4.heap[W3.heap.size]? = some (.cells va 60 (0, 0)) := by rw [← hW4]; exact World.alloc_heap_new W3 _
      refine ⟨W3.heap.size, 0, rfl, lt_of_heap hb4, fun i x hx => ?_⟩
      cases i with
      | zero =>
        obtain rfl : _ = x := by simpa using hx
        intro j v hj
        unfold World.cell?
        rw [hb4, ← hva]
        simpa using hj
      | succ i => simp at hx
    have HBL := Lib.hid hbl
    have HSL := Lib.hid hsl
    have HROW := Lib.hid hrow
    have HO1 : Hid (∀ y ∈ [Ac.of ms k mv pt cd], y.Ok) := Lib.hid (fun y hy => by rw [List.mem_singleton.1 hy]; exact hok1)
    have HA := Lib.hid (RowAt.keep (fun _ _ _ h1 h2 h3 => h3.keep hk4 h1 h2) HA.out hk4 (by simp))
    have HB9' := HB9
    have HB9 := Lib.hid ((hk4.block _ (lt_of_heap HB9.out) (by simp)).trans HB9.out)
    have HK := Lib.hid (HK.out.trans hk4)
    clear hbl hsl hrow hok1 hk4 hW4 hva
    go_wp2_with (first | ((with_reducible refine wpListG_load_row ?_ 40 (.tmp 9) ?_ (W.heap.size) ?_ 40 vm (0, 0) _ HB9'.out Tryz.underlying40 ?_ HSZ.out ?_); rfl; rfl; rfl; rfl) | ((with_reducible refine wpListG_build ?_ 60 (.tmp 29) ?_ (.agg vm) ?_ va HBL.out ?_); rfl; rfl; rfl) | ((with_reducible refine wpListG_slice ?_ 51 (.tmp 30) ?_ (.agg va) ?_ _ W4 HSL.out ?_); rfl; rfl; rfl))
    refine (great_any 1 HROW.out HO1.out).mono ?_
    rintro e W5 ⟨b, rfl, hb, hk5⟩
    have HA := Lib.hid (RowAt.keep (fun _ _ _ h1 h2 h3 => h3.keep hk5 h1 h2) HA.out hk5 (by simp))
    have HB9 := Lib.hid ((hk5.block _ (lt_of_heap HB9.out) (by simp)).trans HB9.out)
    have HK := Lib.hid (HK.out.trans hk5)
    clear hk5 HROW HO1 HSL HBL HB9' hb
    cases b with
    | true =>
      go_wp2_with (fail)
      go_ret
      exact ⟨rfl, HK.out.below (Nat.le_refl _) (by simp)⟩
    | false =>
      obtain ⟨n, hn⟩ : ∃ n, 1 + n0 % 4 = n := ⟨_, rfl⟩
      obtain ⟨s, hs⟩ : ∃ s, 1 + n1 % 8 = s := ⟨_, rfl⟩
      have HNB := Lib.hid (show (1 ≤ n ∧ n ≤ 4) ∧ 1 ≤ s ∧ s ≤ 8 from by omega)
      have HE0 := Lib.hid (show 1 + (n0 : Int) % 4 = (n : Int) from by omega)
      have HE1 := Lib.hid (show 1 + (n1 : Int) % 8 = (s : Int) from by omega)
      clear hn hs
      go_wp2_with (fail)
      rw [HE0.out, HE1.out]
      refine (tnew_any W5 HNB.out.1.1 HNB.out.1.2 HNB.out.2.1 HNB.out.2.2).mono ?_
      rintro e W6 ⟨at', ct, rfl, hrt, hk6⟩
      have HA := Lib.hid (RowAt.keep (fun _ _ _ h1 h2 h3 => h3.keep hk6 h1 h2) HA.out hk6 (by simp))
      have HB9 := Lib.hid ((hk6.block _ (lt_of_heap HB9.out) (by simp)).trans HB9.out)
      have HK := Lib.hid (HK.out.trans hk6)
      have HRT := Lib.hid hrt
      clear hk6 hrt
      go_wp2_with (fail)
      obtain ⟨W7, hW7⟩ : ∃ u, W6.alloc (.cells #[.int .i64 1, .int .i64 n, .slice at' s ct] 28) = u := ⟨_, rfl⟩
      have hk7 : Keep [] W6 W7 := by rw [← hW7]; exact (Keep.refl _ _).alloc _
      rw [hW7]
      have hin : IntsAt W7 at' (tnL n s) := IRow.at (base := W5.heap.size) (c := ct) (by rw [tnL_len]; exact HRT.out.keep hk7 (by simp))
      have hnew := newL (w := W7) ⟨1, n, at', ct, tnL n s⟩ hin (tn_right HNB.out.1.1 HNB.out.1.2 HNB.out.2.1 HNB.out.2.2 at' ct)
      unfold Tb.val at hnew
      simp only [tnL_len] at hnew
      refine hnew.mono ?_
      rintro e W8 ⟨p, rfl, ⟨F0, hc0, hF0, _⟩, hk8⟩
      have hc0' : CoS W8 p F0 (cd0 n s) := hc0
      have HC0 := Lib.hid hc0'
      have HF0 := Lib.hid (show ∀ x ∈ F0, W7.heap.size ≤ x from fun x hx => (hF0 x hx).1)
      have HK6 := Lib.hid HK.out
      have HB97 := Lib.hid ((hk7.block _ (lt_of_heap HB9.out) (by simp)).trans HB9.out)
      have HA6 := Lib.hid HA.out
      have hk68 := hk7.trans hk8
      have HA := Lib.hid (RowAt.keep (fun _ _ _ h1 h2 h3 => h3.keep hk68 h1 h2) HA.out hk68 (by simp))
      have HB9 := Lib.hid ((hk68.block _ (lt_of_heap HB9.out) (by simp)).trans HB9.out)
      have HK := Lib.hid (HK.out.trans hk68)
      have HK8 := Lib.hid hk8
      have HW7 := Lib.hid (show W.heap.size ≤ W7.heap.size from Nat.le_trans HK6.out.size hk7.size)
      have HBL7 := Lib.hid (show l2 ≠ [] → ∀ b off, b2 = some ⟨b, off, none⟩ → b < W7.heap.size from fun hne b off e => by
        obtain ⟨b', off', e', h1, _⟩ := HA6.out hne
        rw [e] at e'
        cases e'
        exact Nat.lt_of_lt_of_le h1 hk7.size)
      clear hnew hin hc0 hc0' hF0 hk68 hk7 hk8 hW7 HRT
      go_wp2_with (fail)
      go_loopw [15] (fun i wr => ∃ (j : Nat) (F : List Nat), i = .int .i64 j ∧ j ≤ l2.length ∧ CoS wr p F (runC (cd0 n s) (l2.take j)) ∧ (∀ x ∈ F, W7.heap.size ≤ x) ∧ Keep [] W7 wr ∧ Keep [] W wr ∧ RowAt AcAt 28 wr b2 l2) (fun i _ => l2.length - (intOf i).toNat)
      case atStart => exact ⟨0, F0, rfl, Nat.zero_le _, HC0.out, HF0.out, HK8.out, HK.out, HA.out⟩
      case round =>
        obtain ⟨j, F, rfl, hj, hc, hF, hk7, hkw, hA⟩ := hrel
        have h0j : (0 : Int) ≤ (j : Int) := Int.natCast_nonneg j
        have hinv : CdInv n s 200 (runC (cd0 n s) (l2.take j)) := inv_take HNB.out.1.1 H200.out j
        have HC := Lib.hid hc
        have HF := Lib.hid hF
        have HK7 := Lib.hid hk7
        have HKW := Lib.hid hkw
        have HAR := Lib.hid hA
        have HI := Lib.hid hinv
        clear hc hF hk7 hkw hA hinv HA HK HK8 HC0 HF0
        by_cases hlt : j < l2.length
        · have hjn : (j : Int) < (l2.length : Int) := by omega
          have h200 : l2.length ≤ 200 := H200.out
          have hne : l2 ≠ [] := by intro e; rw [e] at hlt; simp at hlt
          obtain ⟨b, off, rfl, hbl, hat⟩ := HAR.out hne
          obtain ⟨x, hxl⟩ : ∃ x, l2[j]? = some x := ⟨l2[j], List.getElem?_eq_getElem hlt⟩
          have hx := hat j x hxl
          have hxo := HO.out x (List.mem_of_getElem? hxl)
          have htk : runC (cd0 n s) (l2.take (j + 1)) = (oneF (runC (cd0 n s) (l2.take j)) x).2 := by
            rw [List.take_add_one, hxl]
            exact runC_snoc _ _ _
          obtain ⟨C, hC⟩ : ∃ C, runC (cd0 n s) (l2.take j) = C := ⟨_, rfl⟩
          rw [hC] at htk HC HI
          have HTK := Lib.hid htk
          have HSA := Lib.hid (szAct (Ac.len hxo))
          have HONE := Lib.hid (one_any HC.out (HI.out.toMem (by omega)) (HI.out.toFine (by omega) HNB.out.1.2 HNB.out.2.2) HI.out.last.1 hxo)
          unfold AcAt at hx
          obtain ⟨cl, hcl⟩ : ∃ cl, x.cells = cl := ⟨_, rfl⟩
          rw [hcl] at HSA HONE hx
          have HX := Lib.hid hx
          clear hat hxl hxo htk hC hcl hx hne
          go_wp2_with ((with_reducible refine wpList_load_mid ?_ 60 (.tmp 62) ?_ b (off + j * 28) ?_ cl _ HX.out Tryz.underlying60 ?_ HSA.out ?_); rfl; rfl; rfl; rfl)
          refine HONE.out.mono ?_
          rintro e w2 ⟨rfl, F', hc', hk', hup⟩
          have hlow : ∀ y ∈ F', W7.heap.size ≤ y := fun y hy => by
            rcases hup y hy with h | h
            · exact HF.out y h
            · exact Nat.le_trans HK7.out.size h
          have HC' := Lib.hid hc'
          have HF' := Lib.hid hlow
          have hkr := HK7.out.step hk' (fun y hy => .inr (HF.out y hy))
          have HK7' := Lib.hid hkr
          have HKW' := Lib.hid (HKW.out.step hk' (fun y hy => .inr (Nat.le_trans HW7.out (HF.out y hy))))
          have HAR' := Lib.hid (show RowAt AcAt 28 w2 (some ⟨b, off, none⟩) l2 from RowAt.keep (fun _ _ _ h1 h2 h3 => h3.keep hk' h1 h2) HAR.out hk' (fun hne b' off' e => by
            cases e
            intro hm
            have := HF.out _ hm
            have := HBL7.out hne _ _ rfl
            omega))
          clear hc' hk' hup hlow hkr
          go_wp2_with (fail)
          go_roundw
          case rel => exact ⟨j + 1, F', by go_num, by omega, by rw [HTK.out]; exact HC'.out, HF'.out, HK7'.out, HKW'.out, HAR'.out⟩
          case measure => go_light; simp [intOf]; omega
        · obtain rfl : j = l2.length := by omega
          rw [List.take_length] at HC HI
          obtain ⟨C, hC⟩ : ∃ C, runC (cd0 n s) l2 = C := ⟨_, rfl⟩
          rw [hC] at HC HI
          clear hC hj h0j hlt
          have hjn : ¬ (l2.length : Int) < (l2.length : Int) := by omega
          go_wp2_with (fail)
          clear hjn
          refine (movesS HC.out (HI.out.toFine (by omega) HNB.out.1.2 HNB.out.2.2) (HI.out.toMem (by omega))).mono ?_
          rintro e W10 ⟨v, rfl, hmr, hk10⟩
          have HLEN := Lib.hid (show (movesF C).length ≤ 100000 from by have h := (HI.out.toMem (by omega)).len; unfold movesF; rw [List.length_map, List.length_map]; omega)
          have HFI := Lib.hid (find_any hmr HLEN.out mv)
          obtain ⟨av, cv, rfl, _⟩ := own_shape hmr
          have hb9 := (hk10.block _ (Nat.lt_of_lt_of_le (lt_of_heap HB97.out) HK7.out.size) (by simp)).trans ((HK7.out.block _ (lt_of_heap HB97.out) (by simp)).trans HB97.out)
          have q1 : W10.cell? ⟨W.heap.size, 1, none⟩ = some (.int .i64 mv) := by unfold World.cell?; rw [hb9, ← HVM.out]; simpa using HM.out.c1
          have HMR := Lib.hid hmr
          have HB9 := Lib.hid hb9
          have HFR := Lib.hid (fun x hx => HC.out.lt x hx)
          have HC := Lib.hid (HC.out.kept hk10)
          have HK7 := Lib.hid (HK7.out.trans hk10)
          have HKW := Lib.hid (HKW.out.trans hk10)
          have HLR := Lib.hid (show wr.heap.size ≤ W10.heap.size from hk10.size)
          clear hmr hb9 hk10
          go_wp2_with (fail)
          refine HFI.out.mono ?_
          rintro e W11 ⟨rfl, hk11⟩
          clear q1
          obtain ⟨⟨⟨x1, x2, x3, x4⟩, ⟨st, dn⟩⟩, hx⟩ : ∃ x, (findMo mv (movesF C)).getD Mo.zero = x := ⟨_, rfl⟩
          obtain ⟨is, his⟩ : ∃ is, (findMo mv (movesF C)).isSome = is := ⟨_, rfl⟩
          have HIS := Lib.hid (show is = false → findMo mv (movesF C) = none from fun h => by rw [h] at his; cases hh : findMo mv (movesF C) with | none => rfl | some y => rw [hh] at his; cases his)
          have HISX := Lib.hid (show is = true → findMo mv (movesF C) = some ⟨⟨x1, x2, x3, x4⟩, ⟨st, dn⟩⟩ from fun h => by rw [h] at his; cases hh : findMo mv (movesF C) with | none => rw [hh] at his; cases his | some y => rw [hh] at hx; exact congrArg some hx)
          have HEN := Lib.hid (show is = true → x3 ≠ x4 ∧ dn ≤ 2 from fun h => by
            have h1 := HISX.out h
            rw [findMo_moves] at h1
            cases hf : findMv mv (C.m.map (·.2)) with
            | none => rw [hf] at h1; cases h1
            | some y =>
              rw [hf] at h1
              obtain ⟨q, hq, rfl, _⟩ := findMv_mem hf
              have e := HI.out.mem q hq
              simp only [Option.map_some, Option.some.injEq, Mo.mk.injEq] at h1
              obtain ⟨h2, h3⟩ := h1
              have e1 := e.ne
              have e2 := e.dn
              rw [h2] at e1
              rw [h3] at e2
              exact ⟨e1, e2⟩)
          have HNE := Lib.hid (show is = true → x3 ≠ x4 from fun h => (HEN.out h).1)
          have HD2 := Lib.hid (show is = true → dn ≤ 2 from fun h => (HEN.out h).2)
          rw [hx, his]
          simp only
          obtain ⟨own, hown⟩ : ∃ own, ownF (movesF C) k mv pt fr = own := ⟨_, rfl⟩
          have HOWN := Lib.hid hown
          obtain ⟨W12, hW12⟩ : ∃ u, W11.alloc (.cells #[.int .i64 x1, .int .i64 x2, .int .i64 x3, .int .i64 x4, .int .i64 st, .int .i64 dn] 56) = u := ⟨_, rfl⟩
          have k12 : Keep [] W11 W12 := by rw [← hW12]; exact (Keep.refl _ _).alloc _
          have b12 : W12.heap[W11.heap.size]? = some (.cells #[.int .i64 x1, .int .i64 x2, .int .i64 x3, .int .i64 x4, .int .i64 st, .int .i64 dn] 56 (0, 0)) := by rw [← hW12]; exact World.alloc_heap_new W11 _
          have hk12 := hk11.trans k12
          have hb9 := (hk12.block _ (lt_of_heap HB9.out) (by simp)).trans HB9.out
          have HB9 := Lib.hid hb9
          have HC := Lib.hid (HC.out.kept hk12)
          have HK7 := Lib.hid (HK7.out.trans hk12)
          have HKW := Lib.hid (HKW.out.trans hk12)
          have HMR := Lib.hid (HMR.out.keep hk12 (by simp))
          have HLR := Lib.hid (Nat.le_trans HLR.out hk12.size)
          have hW12' := Lib.hid hW12
          clear hk11 k12 hk12 hx his hown hW12 HFI HEN
          go_upto_region 15 with (fail)
          rw [hW12'.out]
          have q0 : W12.cell? ⟨W.heap.size, 0, none⟩ = some (.int .u8 k) := by unfold World.cell?; rw [hb9, ← HVM.out]; simpa using HM.out.c0
          have q2 : W12.cell? ⟨W.heap.size, 2, none⟩ = some (.int .i64 pt) := by unfold World.cell?; rw [hb9, ← HVM.out]; simpa using HM.out.c2
          obtain ⟨z0, z1, z2, z3, z4, z5, z6⟩ := (SixAt.mk b12).facts
          clear hb9 b12
          go_cut [19] from 74 to 131 (fun s5 wx => s5 = .bool own ∧ wx = W12)
          case first =>
            cases is with
            | false =>
              have HFM : Hid (findMo mv (movesF C) = none) := Lib.hid (HIS.out rfl)
              go_wp2_with (fail)
              go_meet
              exact ⟨by rw [← HOWN.out]; unfold ownF; rw [HFM.out], rfl⟩
            | true =>
              have HFM : Hid (findMo mv (movesF C) = some ⟨⟨x1, x2, x3, x4⟩, ⟨st, dn⟩⟩) := Lib.hid (HISX.out rfl)
              by_cases hp : x2 = pt
              · have ghp : ((x2 : Int) == pt) = true := by simpa using hp
                have Hhp := Lib.hid hp
                clear hp
                by_cases h10 : k = 10
                · subst h10
                  by_cases hst : st = 1
                  · have ghst : ((st : Int) == 1) = true := by simpa using hst
                    have Hhst := Lib.hid hst
                    clear hst
                    by_cases hf : fr = x4
                    · have ghf : ((fr : Int) == x4) = true := by simpa using hf
                      have Hhf := Lib.hid hf
                      clear hf
                      go_wp2_with (fail)
                      go_meet
                      exact ⟨by rw [← HOWN.out]; unfold ownF; rw [HFM.out]; simp [Hhp.out, Hhst.out, Hhf.out], rfl⟩
                    · have ghf : ((fr : Int) == x4) = false := by simpa using hf
                      have Hhf := Lib.hid hf
                      clear hf
                      go_wp2_with (fail)
                      go_meet
                      exact ⟨by rw [← HOWN.out]; unfold ownF; rw [HFM.out]; simp [Hhp.out, Hhst.out, Hhf.out], rfl⟩
                  · have ghst : ((st : Int) == 1) = false := by simpa using hst
                    have Hhst := Lib.hid hst
                    clear hst
                    go_wp2_with (fail)
                    go_meet
                    exact ⟨by rw [← HOWN.out]; unfold ownF; rw [HFM.out]; simp [Hhp.out, Hhst.out], rfl⟩
                · have g10 : ((k : Int) == 10) = false := by simp; omega
                  have Hh10 := Lib.hid h10
                  clear h10
                  by_cases h13 : k = 13
                  · subst h13
                    by_cases hst : st = 1
                    · subst hst
                      go_wp2_with (fail)
                      go_meet
                      exact ⟨by rw [← HOWN.out]; unfold ownF; rw [HFM.out]; simp [Hhp.out], rfl⟩
                    · have ghst : ((st : Int) == 1) = false := by simpa using hst
                      have Hhst := Lib.hid hst
                      clear hst
                      by_cases hf1 : fr = x3
                      · have ghf1 : ((fr : Int) == x3) = true := by simpa using hf1
                        have Hhf1 := Lib.hid hf1
                        clear hf1
                        have hft : ¬ fr = x4 := fun e => HNE.out rfl (Hhf1.out.symm.trans e)
                        have gft : ((fr : Int) == x4) = false := by simpa using hft
                        have Hhft := Lib.hid hft
                        have Hhne := Lib.hid (HNE.out rfl)
                        clear hft
                        by_cases hd : dn = 1
                        · have gd : (bits BinOp.and .i64 (dn : Int) 1 == 0) = false := by rw [hd]; rfl
                          have Hhd := Lib.hid hd
                          clear hd
                          go_wp2_with (fail)
                          go_meet
                          exact ⟨by rw [← HOWN.out]; unfold ownF; rw [HFM.out]; simp [Hhp.out, Hhst.out, Hhf1.out, Hhft.out, Hhne.out, Hhd.out], rfl⟩
                        · have gd : (bits BinOp.and .i64 (dn : Int) 1 == 0) = true := by
                            have h2 := HD2.out rfl
                            rcases (show dn = 0 ∨ dn = 2 by omega) with h | h <;> (rw [h]; rfl)
                          have Hhd := Lib.hid hd
                          clear hd
                          go_wp2_with (fail)
                          go_meet
                          exact ⟨by rw [← HOWN.out]; unfold ownF; rw [HFM.out]; simp [Hhp.out, Hhst.out, Hhf1.out, Hhft.out, Hhne.out, Hhd.out], rfl⟩
                      · have ghf1 : ((fr : Int) == x3) = false := by simpa using hf1
                        have Hhf1 := Lib.hid hf1
                        clear hf1
                        by_cases hf2 : fr = x4
                        · have ghf2 : ((fr : Int) == x4) = true := by simpa using hf2
                          have Hhf2 := Lib.hid hf2
                          clear hf2
                          have Hhne := Lib.hid (show ¬ x4 = x3 from fun e => HNE.out rfl e.symm)
                          by_cases hd : dn = 2
                          · have gd : (bits BinOp.and .i64 (dn : Int) 2 == 0) = false := by rw [hd]; rfl
                            have Hhd := Lib.hid hd
                            clear hd
                            go_wp2_with (fail)
                            go_meet
                            exact ⟨by rw [← HOWN.out]; unfold ownF; rw [HFM.out]; simp [Hhp.out, Hhst.out, Hhf1.out, Hhf2.out, Hhne.out, Hhd.out], rfl⟩
                          · have gd : (bits BinOp.and .i64 (dn : Int) 2 == 0) = true := by
                              have h2 := HD2.out rfl
                              rcases (show dn = 0 ∨ dn = 1 by omega) with h | h <;> (rw [h]; rfl)
                            have Hhd := Lib.hid hd
                            clear hd
                            go_wp2_with (fail)
                            go_meet
                            exact ⟨by rw [← HOWN.out]; unfold ownF; rw [HFM.out]; simp [Hhp.out, Hhst.out, Hhf1.out, Hhf2.out, Hhne.out, Hhd.out], rfl⟩
                        · have ghf2 : ((fr : Int) == x4) = false := by simpa using hf2
                          have Hhf2 := Lib.hid hf2
                          clear hf2
                          go_wp2_with (fail)
                          go_meet
                          exact ⟨by rw [← HOWN.out]; unfold ownF; rw [HFM.out]; simp [Hhp.out, Hhst.out, Hhf1.out, Hhf2.out], rfl⟩
                  · have g13 : ((k : Int) == 13) = false := by simp; omega
                    have Hh13 := Lib.hid h13
                    clear h13
                    go_wp2_with (fail)
                    go_meet
                    exact ⟨by rw [← HOWN.out]; unfold ownF; rw [HFM.out]; simp [Hhp.out, Hh10.out, Hh13.out], rfl⟩
              · have ghp : ((x2 : Int) == pt) = false := by simpa using hp
                have Hhp := Lib.hid hp
                clear hp
                go_wp2_with (fail)
                go_meet
                exact ⟨by rw [← HOWN.out]; unfold ownF; rw [HFM.out]; simp [Hhp.out], rfl⟩
          case rest =>
            obtain ⟨rfl, hwx⟩ := hcut
            have hwy := hwx.symm
            subst hwy
            clear z0 z1 z2 z3 z4 z5 z6 q0 q2 HIS HISX HNE HD2 hW12'
            obtain ⟨nl, hnl⟩ : ∃ nl, (movesF C).length = nl := ⟨_, rfl⟩
            have HNL := Lib.hid hnl
            rw [hnl] at HMR HLEN ⊢
            clear hnl HK7
            go_wp2_with (fail)
            refine (tableS HC.out (HI.out.toFine (by omega) HNB.out.1.2 HNB.out.2.2)).mono ?_
            rintro e W13 ⟨ta, td, rfl, hti, hk13⟩
            have HTB := Lib.hid (show wr.heap.size ≤ W12.heap.size from HLR.out)
            have HTT := Lib.hid hti
            have HC := Lib.hid (HC.out.kept hk13)
            have HMR := Lib.hid (MoRow.keep HMR.out hk13 (by simp))
            have HB9 := Lib.hid ((hk13.block _ (lt_of_heap HB9.out) (by simp)).trans HB9.out)
            have HKW := Lib.hid (HKW.out.trans hk13)
            have HLR := Lib.hid (Nat.le_trans HLR.out hk13.size)
            obtain ⟨on, hon⟩ : ∃ on, C.own.length = on := ⟨_, rfl⟩
            have HON := Lib.hid hon
            rw [hon] at HTT ⊢
            clear hti hk13 hon
            go_wp2_with (fail)
            obtain ⟨W14, hW14⟩ : ∃ u, W13.alloc (.cells #[.int .i64 C.ep, .int .i64 C.nd, .slice ta on td] 28) = u := ⟨_, rfl⟩
            have hk14 : Keep [] W13 W14 := by rw [← hW14]; exact (Keep.refl _ _).alloc _
            have HBT := Lib.hid (show W14.heap[W13.heap.size]? = some (.cells #[.int .i64 C.ep, .int .i64 C.nd, .slice ta on td] 28 (0, 0)) from by rw [← hW14]; exact World.alloc_heap_new W13 _)
            have HL13 := Lib.hid HLR.out
            rw [hW14]
            have HC := Lib.hid (HC.out.kept hk14)
            have HTT := Lib.hid (HTT.out.keep hk14 (by simp))
            have HMR := Lib.hid (MoRow.keep HMR.out hk14 (by simp))
            have HB9 := Lib.hid ((hk14.block _ (lt_of_heap HB9.out) (by simp)).trans HB9.out)
            have HKW := Lib.hid (HKW.out.trans hk14)
            have HLR := Lib.hid (Nat.le_trans HLR.out hk14.size)
            clear hk14 hW14
            refine (tickS HC.out (HI.out.toFine (by omega) HNB.out.1.2 HNB.out.2.2) (HI.out.toMem (by omega))).mono ?_
            rintro e W15 ⟨tv, rfl, htk, hk15⟩
            have HL14 := Lib.hid HLR.out
            have HC := Lib.hid (HC.out.kept hk15)
            have HTT := Lib.hid (HTT.out.keep hk15 (by simp))
            have HMR := Lib.hid (MoRow.keep HMR.out hk15 (by simp))
            have HB9 := Lib.hid ((hk15.block _ (lt_of_heap HB9.out) (by simp)).trans HB9.out)
            have HBT := Lib.hid ((hk15.block _ (lt_of_heap HBT.out) (by simp)).trans HBT.out)
            have HKW := Lib.hid (HKW.out.trans hk15)
            have HLR := Lib.hid (Nat.le_trans HLR.out hk15.size)
            have HPK := Lib.hid htk
            obtain ⟨tka, tkc, rfl, _⟩ := own_shape htk
            obtain ⟨tn, htn⟩ : ∃ tn, (tickF C).length = tn := ⟨_, rfl⟩
            have HTN := Lib.hid htn
            rw [htn] at HPK ⊢
            clear hk15 htk htn
            have HDP := Lib.hid (deaf_pure HI.out k mv pt fr cd)
            have HHS := Lib.hid (handleS HC.out (HI.out.toMem (by omega)) vm (by rw [← HVM.out, List.size_toArray, HM.out.len]) fr k mv pt cd (by rw [← HVM.out]; simpa using HM.out.c0) (by rw [← HVM.out]; simpa using HM.out.c1) (by rw [← HVM.out]; simpa using HM.out.c2) (by rw [← HVM.out]; simpa using HM.out.c6))
            rw [HOWN.out] at HDP
            rw [HDP.out.1] at HHS
            go_wp2_with ((with_reducible refine wpList_load_row ?_ 40 (.tmp 9) ?_ (W.heap.size) ?_ 40 vm (0, 0) _ HB9.out Tryz.underlying40 ?_ HSZ.out ?_); rfl; rfl; rfl; rfl)
            refine HHS.out.mono ?_
            rintro e W16 ⟨rfl, F', hc', hk16, hup⟩
            have HKW := Lib.hid (HKW.out.step hk16 (fun y hy => .inr (Nat.le_trans HW7.out (HF.out y hy))))
            have HMR := Lib.hid (MoRow.keep HMR.out hk16 (fun g hg hm => by have h1 := own_base HMR.out g hg; have h2 := HFR.out g hm; omega))
            have HTT := Lib.hid (HTT.out.keep hk16 (fun g hg hm => by have h1 := own_base HTT.out g hg; have h2 := HFR.out g hm; have h3 := HTB.out; omega))
            have HPK := Lib.hid (PRow.keep HPK.out hk16 (fun g hg hm => by have h1 := own_base HPK.out g hg; have h2 := HFR.out g hm; have h3 := HL14.out; omega))
            have HBT := Lib.hid ((hk16.block _ (lt_of_heap HBT.out) (fun hm => by have h2 := HFR.out _ hm; have h3 := HL13.out; omega)).trans HBT.out)
            have HC := Lib.hid hc'
            clear hk16 hup hc' HB9 HSZ HHS
            cases own with
            | true =>
              go_wp2_with (fail)
              go_ret
              exact ⟨rfl, HKW.out.below (Nat.le_refl _) (by simp)⟩
            | false =>
              have HLK := Lib.hid (HDP.out.2 rfl)
              obtain ⟨C2, hC2⟩ : ∃ C2, (coHandle C fr k mv pt cd).2 = C2 := ⟨_, rfl⟩
              have HI2 : Hid (CdInv n s 201 C2) := Lib.hid (hC2 ▸ HI.out.handle fr k mv pt cd)
              rw [hC2] at HLK HC
              have HFI := Lib.hid (HI2.out.toFine (by omega) HNB.out.1.2 HNB.out.2.2)
              have HME := Lib.hid (HI2.out.toMem (by omega))
              have HTL := Lib.hid (show tn ≤ 1000 from by rw [← HTN.out]; exact tick_len (HI.out.toFine (by omega) HNB.out.1.2 HNB.out.2.2))
              have HOL := Lib.hid (show on ≤ 64 from by rw [← HON.out]; exact (HI.out.toFine (by omega) HNB.out.1.2 HNB.out.2.2).len)
              clear HDP hC2 HOWN HI HI2 HLR HL13 HL14 HTB HFR HF
              go_wp2_with (fail)
              refine (movesS HC.out HFI.out HME.out).mono ?_
              rintro e W17 ⟨mv2, rfl, hm2, hk17⟩
              have HC := Lib.hid (HC.out.kept hk17)
              have HTT := Lib.hid (HTT.out.keep hk17 (by simp))
              have HMR := Lib.hid (MoRow.keep HMR.out hk17 (by simp))
              have HBT := Lib.hid ((hk17.block _ (lt_of_heap HBT.out) (by simp)).trans HBT.out)
              have HKW := Lib.hid (HKW.out.trans hk17)
              have HPK := Lib.hid (PRow.keep HPK.out hk17 (by simp))
              rw [HLK.out.moves] at hm2
              obtain ⟨bv, cv2, rfl, _⟩ := own_shape hm2
              rw [HNL.out] at hm2 ⊢
              have HM2 := Lib.hid hm2
              clear hm2 hk17
              go_wp2_with (fail)
              go_loopw [23] (fun i wr => ∃ j : Nat, i = .int .i64 j ∧ j ≤ nl ∧ Keep [] W17 wr) (fun i _ => nl - (intOf i).toNat)
              case atStart => exact ⟨0, rfl, Nat.zero_le _, Keep.refl _ _⟩
              case round =>
                obtain ⟨j, rfl, hj, hk0⟩ := hrel
                obtain ⟨Wq, hWq⟩ : ∃ u, u = wr := ⟨_, rfl⟩
                subst hWq
                have HKR := Lib.hid hk0
                have h0j : (0 : Int) ≤ (j : Int) := Int.natCast_nonneg j
                by_cases hlt : j < nl
                · have hjn : (j : Int) < (nl : Int) := by omega
                  have hlen := HLEN.out
                  have hlj : j < (movesF C).length := by rw [HNL.out]; exact hlt
                  obtain ⟨x, hx⟩ : ∃ x, (movesF C)[j]? = some x := ⟨(movesF C)[j], List.getElem?_eq_getElem hlj⟩
                  have hne : movesF C ≠ [] := by intro e; rw [e] at hlj; simp at hlj
                  have hrv := HMR.out
                  have hru := HM2.out
                  rw [← HNL.out] at hrv hru
                  obtain ⟨ga, ca, hv', hg0, hg1, _, hcell⟩ := rows_at Mo.len (MoRow.keep hrv hk0 (by simp)) hne
                  obtain ⟨gb, cb, hu', hh0, hh1, _, hcel2⟩ := rows_at Mo.len (MoRow.keep hru hk0 (by simp)) hne
                  simp only [Value.slice.injEq] at hv' hu'
                  obtain ⟨rfl, -, rfl⟩ := hv'
                  obtain ⟨rfl, -, rfl⟩ := hu'
                  have x0 := hcell j 0 _ hx (by omega)
                  have y0 := hcel2 j 0 _ hx (by omega)
                  have x1 := hcell j 1 _ hx (by omega)
                  have y1 := hcel2 j 1 _ hx (by omega)
                  have x2 := hcell j 2 _ hx (by omega)
                  have y2 := hcel2 j 2 _ hx (by omega)
                  have x3 := hcell j 3 _ hx (by omega)
                  have y3 := hcel2 j 3 _ hx (by omega)
                  have x4 := hcell j 4 _ hx (by omega)
                  have y4 := hcel2 j 4 _ hx (by omega)
                  have x5 := hcell j 5 _ hx (by omega)
                  have y5 := hcel2 j 5 _ hx (by omega)
                  obtain ⟨⟨m1, m2, m3, m4⟩, ⟨st', dn'⟩⟩ := x
                  simp only [Mo.cells, List.getElem?_cons_zero, List.getElem?_cons_succ, Nat.add_zero] at x0 x1 x2 x3 x4 x5 y0 y1 y2 y3 y4 y5
                  have HX0 := Lib.hid x0
                  have HY0 := Lib.hid y0
                  have HX1 := Lib.hid x1
                  have HY1 := Lib.hid y1
                  have HX2 := Lib.hid x2
                  have HY2 := Lib.hid y2
                  have HX3 := Lib.hid x3
                  have HY3 := Lib.hid y3
                  have HX4 := Lib.hid x4
                  have HY4 := Lib.hid y4
                  have HX5 := Lib.hid x5
                  have HY5 := Lib.hid y5
                  have HGA := Lib.hid hg1
                  have HGB := Lib.hid hh1
                  clear hrv hru hcell hcel2 hx x0 x1 x2 x3 x4 x5 y0 y1 y2 y3 y4 y5 hk0 hne
                  go_wp2_with (fail)
                  refine wp_region_soup 8 [] (fun _ => none) (by kernel_rfl) (by kernel_rfl) (spOk_of (l := []) (by simp)) (pre_of (l := []) (by simp)) ?_
                  simp only [List.take_succ_cons, List.take_zero, List.drop_succ_cons, List.drop_zero]
                  with_reducible refine soup_q ?_ ?_ ?_
                  · rfl
                  · rfl
                  with_reducible apply Exists.intro
                  with_reducible refine ⟨fun W hk _ => ?_, ?_⟩
                  · unfold Oper.same
                    go_simp
                    first | rfl | exact ⟨rfl, rfl⟩
                  with_reducible apply Exists.intro
                  with_reducible refine ⟨?_, ?_⟩
                  · go_simp
                    rfl
                  with_reducible refine soup_q ?_ ?_ ?_
                  · rfl
                  · rfl
                  with_reducible apply Exists.intro
                  with_reducible refine ⟨fun W hk _ => ?_, ?_⟩
                  · unfold Oper.same
                    go_simp
                    first | rfl | exact ⟨rfl, rfl⟩
                  with_reducible apply Exists.intro
                  with_reducible refine ⟨?_, ?_⟩
                  · go_simp
                    rfl
                  with_reducible refine soup_q ?_ ?_ ?_
                  · rfl
                  · rfl
                  with_reducible apply Exists.intro
                  with_reducible refine ⟨fun W hk _ => ?_, ?_⟩
                  · unfold Oper.same
                    go_simp
                    first | rfl | exact ⟨rfl, rfl⟩
                  with_reducible apply Exists.intro
                  with_reducible refine ⟨?_, ?_⟩
                  · go_simp
                    rfl
                  with_reducible refine soup_q ?_ ?_ ?_
                  · rfl
                  · rfl
                  with_reducible apply Exists.intro
                  with_reducible refine ⟨fun W hk _ => ?_, ?_⟩
                  · have q0 := (hk.cell _ HGB.out (by simp)).trans HY0.out
                    have q1 := (hk.cell _ HGB.out (by simp)).trans HY1.out
                    have q2 := (hk.cell _ HGB.out (by simp)).trans HY2.out
                    have q3 := (hk.cell _ HGB.out (by simp)).trans HY3.out
                    have q4 := (hk.cell _ HGB.out (by simp)).trans HY4.out
                    have q5 := (hk.cell _ HGB.out (by simp)).trans HY5.out
                    unfold Oper.same
                    go_simp
                    first | rfl | exact ⟨rfl, rfl⟩
                  with_reducible apply Exists.intro
                  with_reducible refine ⟨?_, ?_⟩
                  · go_simp
                    rfl
                  with_reducible refine soup_q ?_ ?_ ?_
                  · rfl
                  · rfl
                  with_reducible apply Exists.intro
                  with_reducible refine ⟨fun W hk _ => ?_, ?_⟩
                  · unfold Oper.same
                    go_simp
                    first | rfl | exact ⟨rfl, rfl⟩
                  with_reducible apply Exists.intro
                  with_reducible refine ⟨?_, ?_⟩
                  · go_simp
                    rfl
                  with_reducible refine soup_q ?_ ?_ ?_
                  · rfl
                  · rfl
                  with_reducible apply Exists.intro
                  with_reducible refine ⟨fun W hk _ => ?_, ?_⟩
                  · unfold Oper.same
                    go_simp
                    first | rfl | exact ⟨rfl, rfl⟩
                  with_reducible apply Exists.intro
                  with_reducible refine ⟨?_, ?_⟩
                  · go_simp
                    rfl
                  with_reducible refine soup_q ?_ ?_ ?_
                  · rfl
                  · rfl
                  with_reducible apply Exists.intro
                  with_reducible refine ⟨fun W hk _ => ?_, ?_⟩
                  · unfold Oper.same
                    go_simp
                    first | rfl | exact ⟨rfl, rfl⟩
                  with_reducible apply Exists.intro
                  with_reducible refine ⟨?_, ?_⟩
                  · go_simp
                    rfl
                  with_reducible refine soup_q ?_ ?_ ?_
                  · rfl
                  · rfl
                  with_reducible apply Exists.intro
                  with_reducible refine ⟨fun W hk _ => ?_, ?_⟩
                  · have q0 := (hk.cell _ HGA.out (by simp)).trans HX0.out
                    have q1 := (hk.cell _ HGA.out (by simp)).trans HX1.out
                    have q2 := (hk.cell _ HGA.out (by simp)).trans HX2.out
                    have q3 := (hk.cell _ HGA.out (by simp)).trans HX3.out
                    have q4 := (hk.cell _ HGA.out (by simp)).trans HX4.out
                    have q5 := (hk.cell _ HGA.out (by simp)).trans HX5.out
                    unfold Oper.same
                    go_simp
                    first | rfl | exact ⟨rfl, rfl⟩
                  with_reducible apply Exists.intro
                  with_reducible refine ⟨?_, ?_⟩
                  · go_simp
                    rfl
                  refine soup_nil (fun W18 hk hS => ?_)
                  have HKW' := Lib.hid (HKR.out.trans hk)
                  clear hk hS
                  go_wp2_with (fail)
                  go_roundw
                  case rel => exact ⟨j + 1, by go_num, by omega, HKW'.out⟩
                  case measure => go_light; simp [intOf]; omega
                · have hjn : ¬ (j : Int) < (nl : Int) := by omega
                  have HC := Lib.hid (HC.out.kept hk0)
                  have HTT := Lib.hid (HTT.out.keep hk0 (by simp))
                  have HPK := Lib.hid (PRow.keep HPK.out hk0 (by simp))
                  have HBT := Lib.hid ((hk0.block _ (lt_of_heap HBT.out) (by simp)).trans HBT.out)
                  have HKW := Lib.hid (HKW.out.trans hk0)
                  clear hk0 HKR HM2 HMR
                  go_wp2_with (fail)
                  refine wp_region_soup 15 [] (spOf [(7, Spec.tb1 Wq.heap.size C.ep C.nd C.own on), (9, Spec.is (.bool true)), (13, Spec.pks Wq.heap.size (tickF C) tn)]) (by kernel_rfl) (by kernel_rfl) (spOk_of (by simp [Spec.tb1_ok, Spec.is_ok, Spec.pks_ok])) (pre_of (by simp [Spec.tb1_ok, Spec.is_ok, Spec.pks_ok])) ?_
                  simp only [List.take_succ_cons, List.take_zero, List.drop_succ_cons, List.drop_zero]
                  with_reducible refine soup_q ?_ ?_ ?_
                  · rfl
                  · rfl
                  with_reducible apply Exists.intro
                  with_reducible refine ⟨fun W hk _ => ?_, ?_⟩
                  · unfold Oper.same
                    go_simp
                    first | rfl | exact ⟨rfl, rfl⟩
                  with_reducible apply Exists.intro
                  with_reducible refine ⟨?_, ?_⟩
                  · go_simp
                    rfl
                  with_reducible refine soup_q ?_ ?_ ?_
                  · rfl
                  · rfl
                  with_reducible apply Exists.intro
                  with_reducible refine ⟨fun W hk _ => ?_, ?_⟩
                  · unfold Oper.same
                    go_simp
                    first | rfl | exact ⟨rfl, rfl⟩
                  with_reducible apply Exists.intro
                  with_reducible refine ⟨?_, ?_⟩
                  · go_simp
                    rfl
                  with_reducible refine soup_q ?_ ?_ ?_
                  · rfl
                  · rfl
                  with_reducible apply Exists.intro
                  with_reducible refine ⟨fun W hk _ => ?_, ?_⟩
                  · unfold Oper.same
                    go_simp
                    first | rfl | exact ⟨rfl, rfl⟩
                  with_reducible apply Exists.intro
                  with_reducible refine ⟨?_, ?_⟩
                  · go_simp
                    rfl
                  with_reducible refine soup_q ?_ ?_ ?_
                  · rfl
                  · rfl
                  with_reducible apply Exists.intro
                  with_reducible refine ⟨fun W hk _ => ?_, ?_⟩
                  · unfold Oper.same
                    go_simp
                    first | rfl | exact ⟨rfl, rfl⟩
                  with_reducible apply Exists.intro
                  with_reducible refine ⟨?_, ?_⟩
                  · go_simp
                    rfl
                  with_reducible refine soup_q ?_ ?_ ?_
                  · rfl
                  · rfl
                  with_reducible apply Exists.intro
                  with_reducible refine ⟨fun W hk _ => ?_, ?_⟩
                  · unfold Oper.same
                    go_simp
                    first | rfl | exact ⟨rfl, rfl⟩
                  with_reducible apply Exists.intro
                  with_reducible refine ⟨?_, ?_⟩
                  · go_simp
                    rfl
                  with_reducible refine soup_q ?_ ?_ ?_
                  · rfl
                  · rfl
                  with_reducible apply Exists.intro
                  with_reducible refine ⟨fun W hk _ => ?_, ?_⟩
                  · unfold Oper.same
                    go_simp
                    first | rfl | exact ⟨rfl, rfl⟩
                  with_reducible apply Exists.intro
                  with_reducible refine ⟨?_, ?_⟩
                  · go_simp
                    rfl
                  with_reducible refine soup_q ?_ ?_ ?_
                  · rfl
                  · rfl
                  with_reducible apply Exists.intro
                  with_reducible refine ⟨fun W hk _ => ?_, ?_⟩
                  · unfold Oper.same
                    go_simp
                    first | rfl | exact ⟨rfl, rfl⟩
                  with_reducible apply Exists.intro
                  with_reducible refine ⟨?_, ?_⟩
                  · go_simp
                    rfl
                  refine soup_s rfl rfl rfl (fun W18 hk _ _ => ?_) ?_
                  · unfold Oper.does
                    go_simp
                    refine (tableS (HC.out.kept hk) HFI.out).mono ?_
                    rintro e w' ⟨a', d', rfl, hr, hk'⟩
                    rw [HLK.out.own, HON.out] at hr
                    rw [HLK.out.ep, HLK.out.nd, HLK.out.own, HON.out]
                    exact ⟨_, rfl, hk', hk.trans hk', ⟨a', d', rfl⟩, a', d', rfl, own_low hr hk.size⟩
                  rintro v ⟨ua, ud, rfl⟩
                  with_reducible apply Exists.intro
                  with_reducible refine ⟨?_, ?_⟩
                  · go_simp
                    rfl
                  with_reducible refine soup_q ?_ ?_ ?_
                  · rfl
                  · rfl
                  with_reducible apply Exists.intro
                  with_reducible refine ⟨fun W hk _ => ?_, ?_⟩
                  · obtain ⟨z0, z1, z2, z3⟩ := TbFacts ((hk.block _ (lt_of_heap HBT.out) (by simp)).trans HBT.out)
                    unfold Oper.same
                    go_simp
                    first | rfl | exact ⟨rfl, rfl⟩
                  with_reducible apply Exists.intro
                  with_reducible refine ⟨?_, ?_⟩
                  · go_simp
                    rfl
                  refine soup_s rfl rfl rfl (fun W18 hk _ hd => ?_) ?_
                  · obtain ⟨a', d', hv, hr⟩ := hd 7 (Dep.of 1 (by kernel_rfl))
                    simp only [Value.agg.injEq, Array.mk.injEq, List.cons.injEq, Value.slice.injEq, true_and, and_true] at hv
                    obtain ⟨rfl, rfl⟩ := hv
                    have ht := HTT.out.keep hk (by simp)
                    have hsame := tsame_true C.ep C.nd ud td (own := C.own) (a := ua) (b := ta) (w := W18) (by rw [← HON.out] at hr; exact hr.at) (by rw [← HON.out] at ht; exact ht.at) (by rw [HON.out]; have := HOL.out; omega)
                    rw [HON.out] at hsame
                    unfold Oper.does
                    go_simp
                    refine hsame.mono ?_
                    rintro e w' ⟨rfl, hk'⟩
                    exact ⟨_, rfl, hk', hk.trans hk', rfl, trivial⟩
                  intro v hv
                  obtain rfl : v = _ := hv
                  with_reducible apply Exists.intro
                  with_reducible refine ⟨?_, ?_⟩
                  · go_simp
                    rfl
                  with_reducible refine soup_q ?_ ?_ ?_
                  · rfl
                  · rfl
                  with_reducible apply Exists.intro
                  with_reducible refine ⟨fun W hk _ => ?_, ?_⟩
                  · unfold Oper.same
                    go_simp
                    first | rfl | exact ⟨rfl, rfl⟩
                  with_reducible apply Exists.intro
                  with_reducible refine ⟨?_, ?_⟩
                  · go_simp
                    rfl
                  with_reducible refine soup_q ?_ ?_ ?_
                  · rfl
                  · rfl
                  with_reducible apply Exists.intro
                  with_reducible refine ⟨fun W hk _ => ?_, ?_⟩
                  · unfold Oper.same
                    go_simp
                    first | rfl | exact ⟨rfl, rfl⟩
                  with_reducible apply Exists.intro
                  with_reducible refine ⟨?_, ?_⟩
                  · go_simp
                    rfl
                  with_reducible refine soup_q ?_ ?_ ?_
                  · rfl
                  · rfl
                  with_reducible apply Exists.intro
                  with_reducible refine ⟨fun W hk _ => ?_, ?_⟩
                  · unfold Oper.same
                    go_simp
                    first | rfl | exact ⟨rfl, rfl⟩
                  with_reducible apply Exists.intro
                  with_reducible refine ⟨?_, ?_⟩
                  · go_simp
                    rfl
                  refine soup_s rfl rfl rfl (fun W18 hk _ _ => ?_) ?_
                  · unfold Oper.does
                    go_simp
                    refine (tickS (HC.out.kept hk) HFI.out HME.out).mono ?_
                    rintro e w' ⟨v, rfl, hr, hk'⟩
                    rw [HLK.out.tick] at hr
                    obtain ⟨a', c', hv, _⟩ := own_shape hr
                    rw [HTN.out] at hv
                    exact ⟨_, rfl, hk', hk.trans hk', ⟨a', c', hv⟩, own_low hr hk.size⟩
                  rintro v ⟨qa, qc, rfl⟩
                  with_reducible apply Exists.intro
                  with_reducible refine ⟨?_, ?_⟩
                  · go_simp
                    rfl
                  with_reducible refine soup_q ?_ ?_ ?_
                  · rfl
                  · rfl
                  with_reducible apply Exists.intro
                  with_reducible refine ⟨fun W hk _ => ?_, ?_⟩
                  · unfold Oper.same
                    go_simp
                    first | rfl | exact ⟨rfl, rfl⟩
                  with_reducible apply Exists.intro
                  with_reducible refine ⟨?_, ?_⟩
                  · go_simp
                    rfl
                  refine soup_nil (fun W19 hk hS => ?_)
                  have HQ : Hid (PRow Wq.heap.size W19 (.slice qa tn qc) (tickF C)) := Lib.hid (hS 13)
                  have HPK := Lib.hid (PRow.keep HPK.out hk (by simp))
                  have HKW := Lib.hid (HKW.out.trans hk)
                  clear hk hS
                  go_wp2_with (fail)
                  refine (packets_true HQ.out HPK.out (by rw [HTN.out]; have := HTL.out; omega)).mono ?_
                  rintro e W20 ⟨rfl, hk⟩
                  have HKW := Lib.hid (HKW.out.trans hk)
                  clear hk
                  go_wp2_with (fail)
                  go_ret
                  exact ⟨rfl, HKW.out.below (Nat.le_refl _) (by simp)⟩
end Go.Proofs.YtdnfibecobodkaaGreat
