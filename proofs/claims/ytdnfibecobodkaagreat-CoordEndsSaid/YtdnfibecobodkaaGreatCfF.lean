/- CoordEnds. -/
import Derived.Test.YtdnfibecobodkaaGreatCfN
import Derived.Test.YtdnfibecobodkaaGreatCfO
import Derived.Test.YtdnfibecobodkaaGreatCeE
import Derived.Test.YtdnfibecobodkaaGreatCdB
namespace Go.Proofs.YtdnfibecobodkaaGreat
open Go.RowKit Go.Lib
set_option linter.unusedSimpArgs false
set_option linter.unusedVariables false
/-- A message goes into new memory. -/
theorem store_msg2 (w : World) {cs : Array Value} (hs : cs.size = 22) (h1 : cs.all (·.oneCell') = true) : ∃ w', (storeVar 40 ⟨w.heap.size, 0, none⟩ (.agg cs)).run Tryz.prog (w.alloc (.cells zMsg 40)) = .ok () w' ∧ Keep [] w w' ∧ MsAt w' w.heap.size cs := by
  have hz : (w.alloc (.cells zMsg 40)).heap[w.heap.size]? = some (.cells zMsg 40 (0, 0)) := World.alloc_heap_new w _
  refine ⟨_, run_storeVar_row (P := Tryz.prog) _ w.heap.size 40 40 _ cs hz (by rw [hs]; exact msg_size) (by rw [hs]; rfl) h1, ?_, ?_⟩
  · exact ((Keep.refl _ _).alloc _).setRow _ _ (.inr (Nat.le_refl _))
  · exact setRow_heap _ w.heap.size _ _ _ _ hz
def rnds (c : Cd) : Nat → Cd
  | 0 => c
  | k + 1 => rndF (rnds c k)
/-- Whose blocks lie outside. -/
def Out (F : List Nat) (a b : Nat) : Prop := ∀ x ∈ F, x < a ∨ b ≤ x
theorem Out.far {F : List Nat} {a b : Nat} {W : World} {e : TypeId} {S n : Nat} {v : Value} {xs : List Value} (h : Out F a b) (hr : W.ownsRow a e S v n xs) (hb : ∀ g, v.ownBlock = some g → g < b) : ∀ g, v.ownBlock = some g → g ∉ F := fun g hg hm => by
  have h1 := own_base hr g hg
  have h2 := hb g hg
  rcases h g hm with h3 | h3 <;> omega
theorem Out.up {F F' : List Nat} {a b : Nat} {W : World} (h : Out F a b) (hup : CoUp W F F') (hb : b ≤ W.heap.size) : Out F' a b := fun x hx => by
  rcases hup x hx with h1 | h1
  · exact h x h1
  · exact .inr (Nat.le_trans hb h1)
theorem row_lt {W : World} {base S n : Nat} {e : TypeId} {v : Value} {xs : List Value} (hr : W.ownsRow base e S v n xs) : ∀ g, v.ownBlock = some g → g < W.heap.size := fun g hg => by
  rcases hr.2 with ⟨hv, h0⟩ | ⟨g', cap, cur, hv, hb, hgg, r⟩
  · rw [hv] at hg; cases hg
  · rw [hv] at hg
    obtain rfl : g' = g := by simpa [Value.ownBlock] using hg
    exact lt_of_heap hgg
theorem cnt_all : ∀ l : List Mo, (l.countP fun y => isL y.s) + (l.countP fun y => isA y.s) = l.length
  | [] => rfl
  | y :: l => by
    have ih := cnt_all l
    rw [List.countP_cons, List.countP_cons, List.length_cons]
    by_cases h : y.s.st = 3
    · rw [show isL y.s = false from by unfold isL; rw [h]; rfl, show isA y.s = true from by unfold isA; rw [h]; rfl, if_neg (by decide), if_pos rfl]
      omega
    · rw [show isL y.s = true from by unfold isL; simpa using h, show isA y.s = false from by unfold isA; simpa using h]
      simp
      omega
theorem cnt_snoc {l : List Mo} {j : Nat} {x : Mo} (h : l[j]? = some x) : ((l.take (j + 1)).countP fun y => isL y.s) = ((l.take j).countP fun y => isL y.s) + if isL x.s then 1 else 0 := by
  rw [List.take_add_one, h, List.countP_append]
  simp [List.countP_cons]
set_option maxRecDepth 100000 in
set_option maxHeartbeats 16000000 in
theorem law_CoordEnds (a0 : Int) (w0 : (Lit.int .u8 a0).wf = true) (a1 : Int) (w1 : (Lit.int .u8 a1).wf = true) (b2 : Option Addr) (l2 : List Ac) (e2 : Nat) (W : World) (hA : RowAt AcAt 28 W b2 l2) (hok : ∀ y ∈ l2, y.Ok) : Calls Tryz.prog 6 #[.int .u8 a0, .int .u8 a1, .slice b2 l2.length e2] W fun e w' => e = .returned (.bool true) ∧ Below W.heap.size W w' := by
  obtain ⟨n0, rfl, hn0⟩ : ∃ n : Nat, a0 = n ∧ n < 256 := by
    simp [Lit.wf, IntKind.min, IntKind.max, IntKind.signed, IntKind.bits] at w0
    exact ⟨a0.toNat, by omega, by omega⟩
  obtain ⟨n1, rfl, hn1⟩ : ∃ n : Nat, a1 = n ∧ n < 256 := by
    simp [Lit.wf, IntKind.min, IntKind.max, IntKind.signed, IntKind.bits] at w1
    exact ⟨a1.toNat, by omega, by omega⟩
  clear w0 w1
  have HA := Lib.hid hA
  have HO := Lib.hid hok
  clear hA hok
  go_enter Tryz.func6, Tryz.ntmps6
  go_wp2_with (fail)
  refine (awake_any _).mono ?_
  rintro e W2 ⟨rfl, hB⟩
  have hk2 : Keep [] W W2 := Keep.of_below hB []
  have HA := Lib.hid (RowAt.keep (fun _ _ _ h1 h2 h3 => h3.keep hk2 h1 h2) HA.out hk2 (by simp))
  have HK := Lib.hid hk2
  clear hB hk2
  go_wp2_with (fail)
  refine (great_any e2 HA.out HO.out).mono ?_
  rintro e W3 ⟨b, rfl, hb, hk3⟩
  have HA := Lib.hid (RowAt.keep (fun _ _ _ h1 h2 h3 => h3.keep hk3 h1 h2) HA.out hk3 (by simp))
  have HK := Lib.hid (HK.out.trans hk3)
  clear hk3
  cases b with
  | true =>
    clear hb
    go_wp2_with (fail)
    go_ret
    exact ⟨rfl, HK.out.below (Nat.le_refl _) (by simp)⟩
  | false =>
    have H200 := Lib.hid (hb rfl)
    clear hb
    obtain ⟨n, hn⟩ : ∃ n, 1 + n0 % 4 = n := ⟨_, rfl⟩
    obtain ⟨s, hs⟩ : ∃ s, 1 + n1 % 8 = s := ⟨_, rfl⟩
    have HNB := Lib.hid (show (1 ≤ n ∧ n ≤ 4) ∧ 1 ≤ s ∧ s ≤ 8 from by omega)
    have HE0 := Lib.hid (show 1 + (n0 : Int) % 4 = (n : Int) from by omega)
    have HE1 := Lib.hid (show 1 + (n1 : Int) % 8 = (s : Int) from by omega)
    clear hn hs
    go_wp2_with (fail)
    rw [HE0.out, HE1.out]
    refine (tnew_any W3 HNB.out.1.1 HNB.out.1.2 HNB.out.2.1 HNB.out.2.2).mono ?_
    rintro e W6 ⟨at', ct, rfl, hrt, hk6⟩
    have HA := Lib.hid (RowAt.keep (fun _ _ _ h1 h2 h3 => h3.keep hk6 h1 h2) HA.out hk6 (by simp))
    have HK := Lib.hid (HK.out.trans hk6)
    have HRT := Lib.hid hrt
    clear hk6 hrt
    go_wp2_with (fail)
    obtain ⟨W7, hW7⟩ : ∃ u, W6.alloc (.cells #[.int .i64 1, .int .i64 n, .slice at' s ct] 28) = u := ⟨_, rfl⟩
    have hk7 : Keep [] W6 W7 := by rw [← hW7]; exact (Keep.refl _ _).alloc _
    have HB7 := Lib.hid (show W7.heap[W6.heap.size]? = some (.cells #[.int .i64 1, .int .i64 n, .slice at' s ct] 28 (0, 0)) from by rw [← hW7]; exact World.alloc_heap_new W6 _)
    rw [hW7]
    have HIN := Lib.hid (show IntsAt W7 at' (tnL n s) from IRow.at (base := W3.heap.size) (c := ct) (by rw [tnL_len]; exact HRT.out.keep hk7 (by simp)))
    have HTR := Lib.hid (tn_right HNB.out.1.1 HNB.out.1.2 HNB.out.2.1 HNB.out.2.2 at' ct)
    have HA := Lib.hid (RowAt.keep (fun _ _ _ h1 h2 h3 => h3.keep hk7 h1 h2) HA.out hk7 (by simp))
    have HK := Lib.hid (HK.out.trans hk7)
    have HW7 := Lib.hid HK.out.size
    have HA7 := Lib.hid HA.out
    have HBL7 := Lib.hid (show l2 ≠ [] → ∀ b off, b2 = some ⟨b, off, none⟩ → b < W7.heap.size from fun hne b off e => by
      obtain ⟨b', off', e', h1, _⟩ := HA7.out hne
      rw [e] at e'
      cases e'
      exact h1)
    clear hk7 hW7 HRT HA7
    have hnew := newL (w := W7) ⟨1, n, at', ct, tnL n s⟩ HIN.out HTR.out
    unfold Tb.val at hnew
    simp only [tnL_len] at hnew
    refine hnew.mono ?_
    rintro e W8 ⟨p, rfl, ⟨F0, hc0, hF0, _⟩, hk8⟩
    have hc0' : CoS W8 p F0 (cd0 n s) := hc0
    have HC := Lib.hid hc0'
    have HF := Lib.hid (show ∀ x ∈ F0, W7.heap.size ≤ x from fun x hx => (hF0 x hx).1)
    have HK7 := Lib.hid hk8
    have HA := Lib.hid (RowAt.keep (fun _ _ _ h1 h2 h3 => h3.keep hk8 h1 h2) HA.out hk8 (by simp))
    have HK := Lib.hid (HK.out.trans hk8)
    clear hnew hc0 hc0' hF0 hk8 HIN HTR HB7
    go_wp2_with (fail)
    go_loopw [11] (fun i wr => ∃ (j : Nat) (F : List Nat), i = .int .i64 j ∧ j ≤ l2.length ∧ CoS wr p F (runC (cd0 n s) (l2.take j)) ∧ (∀ x ∈ F, W7.heap.size ≤ x) ∧ Keep [] W7 wr ∧ Keep [] W wr ∧ RowAt AcAt 28 wr b2 l2) (fun i _ => l2.length - (intOf i).toNat)
    case atStart => exact ⟨0, F0, rfl, Nat.zero_le _, HC.out, HF.out, HK7.out, HK.out, HA.out⟩
    case round =>
      obtain ⟨j, F, rfl, hj, hc, hF, hk7, hkw, hA⟩ := hrel
      obtain ⟨Wr, hWr⟩ : ∃ u, u = wr := ⟨_, rfl⟩
      subst hWr
      have h0j : (0 : Int) ≤ (j : Int) := Int.natCast_nonneg j
      have hinv : CdInv n s 200 (runC (cd0 n s) (l2.take j)) := inv_take HNB.out.1.1 H200.out j
      clear HC HF HK7 HK HA
      have HC := Lib.hid hc
      have HF := Lib.hid hF
      have HK7 := Lib.hid hk7
      have HKW := Lib.hid hkw
      have HA := Lib.hid hA
      have HI := Lib.hid hinv
      clear hc hF hk7 hkw hA hinv
      by_cases hlt : j < l2.length
      · have hjn : (j : Int) < (l2.length : Int) := by omega
        have h200 : l2.length ≤ 200 := H200.out
        have hne : l2 ≠ [] := by intro e; rw [e] at hlt; simp at hlt
        obtain ⟨b, off, rfl, hbl, hat⟩ := HA.out hne
        obtain ⟨x, hxl⟩ : ∃ x, l2[j]? = some x := ⟨l2[j], List.getElem?_eq_getElem hlt⟩
        have hx := hat j x hxl
        have hxo := HO.out x (List.mem_of_getElem? hxl)
        have htk : runC (cd0 n s) (l2.take (j + 1)) = (oneF (runC (cd0 n s) (l2.take j)) x).2 := by
          rw [List.take_add_one, hxl]
          exact runC_snoc _ _ _
        obtain ⟨C, hC⟩ : ∃ C, runC (cd0 n s) (l2.take j) = C := ⟨_, rfl⟩
        rw [hC] at htk HC HI
        have HTK := Lib.hid htk
        have HSA := Lib.hid (szAct (Ac.len hxo))
        have HONE := Lib.hid (one_any HC.out (HI.out.toMem (by omega)) (HI.out.toFine (by omega) HNB.out.1.2 HNB.out.2.2) HI.out.last.1 hxo)
        unfold AcAt at hx
        obtain ⟨cl, hcl⟩ : ∃ cl, x.cells = cl := ⟨_, rfl⟩
        rw [hcl] at HSA HONE hx
        have HX := Lib.hid hx
        clear hat hxl hxo htk hC hcl hx hne
        go_wp2_with ((with_reducible refine wpList_load_mid ?_ 60 (.tmp 59) ?_ b (off + j * 28) ?_ cl _ HX.out Tryz.underlying60 ?_ HSA.out ?_); rfl; rfl; rfl; rfl)
        refine HONE.out.mono ?_
        rintro e w2 ⟨rfl, F', hc', hk', hup⟩
        have hlow : ∀ y ∈ F', W7.heap.size ≤ y := fun y hy => by
          rcases hup y hy with h | h
          · exact HF.out y h
          · exact Nat.le_trans HK7.out.size h
        have HC' := Lib.hid hc'
        have HF' := Lib.hid hlow
        have HK7' := Lib.hid (HK7.out.step hk' (fun y hy => .inr (HF.out y hy)))
        have HKW' := Lib.hid (HKW.out.step hk' (fun y hy => .inr (Nat.le_trans HW7.out (HF.out y hy))))
        have HA' := Lib.hid (show RowAt AcAt 28 w2 (some ⟨b, off, none⟩) l2 from RowAt.keep (fun _ _ _ h1 h2 h3 => h3.keep hk' h1 h2) HA.out hk' (fun hne b' off' e => by
          cases e
          intro hm
          have := HF.out _ hm
          have := HBL7.out hne _ _ rfl
          omega))
        clear hc' hk' hup hlow
        go_wp2_with (fail)
        go_roundw
        case rel => exact ⟨j + 1, F', by go_num, by omega, by rw [HTK.out]; exact HC'.out, HF'.out, HK7'.out, HKW'.out, HA'.out⟩
        case measure => go_light; simp [intOf]; omega
      · obtain rfl : j = l2.length := by omega
        rw [List.take_length] at HC HI
        obtain ⟨C, hC⟩ : ∃ C, runC (cd0 n s) l2 = C := ⟨_, rfl⟩
        rw [hC] at HC HI
        clear hC hj h0j hlt
        have hjn : ¬ (l2.length : Int) < (l2.length : Int) := by omega
        go_wp2_with (fail)
        clear hjn
        obtain ⟨i1, i2, i3, inil, iown, icom, iabo⟩ := ends_pure HI.out HNB.out.1 HNB.out.2
        have HINV : Hid (∀ k, k ≤ 3 → CdInv n s 400 (rnds C k)) := Lib.hid (fun k hk => by
          rcases (show k = 0 ∨ k = 1 ∨ k = 2 ∨ k = 3 by omega) with rfl | rfl | rfl | rfl
          · exact HI.out.mono (by omega)
          · exact i1
          · exact i2
          · exact i3)
        obtain ⟨C3, hC3⟩ : ∃ C3, rndF (rndF (rndF C)) = C3 := ⟨_, rfl⟩
        rw [hC3] at i3 inil iown icom iabo
        have HC3 : Hid (rnds C 3 = C3) := Lib.hid hC3
        have HI3 := Lib.hid i3
        have HNIL := Lib.hid inil
        have HOWN := Lib.hid iown
        have HCOM := Lib.hid icom
        have HABO := Lib.hid iabo
        clear i1 i2 i3 inil iown icom iabo hC3
        have HFI := Lib.hid (HI.out.toFine (by omega) HNB.out.1.2 HNB.out.2.2)
        have HME := Lib.hid (HI.out.toMem (by omega))
        refine (movesS HC.out HFI.out HME.out).mono ?_
        rintro e W10 ⟨v, rfl, hmr, hk10⟩
        obtain ⟨av, cv, rfl, _⟩ := own_shape hmr
        have HMU := Lib.hid hmr
        have HLT := Lib.hid (row_lt hmr)
        have HOUT := Lib.hid (show Out F Wr.heap.size W10.heap.size from fun x hx => .inl (HC.out.lt x hx))
        have HC := Lib.hid (HC.out.kept hk10)
        have HK7 := Lib.hid (HK7.out.trans hk10)
        have HKW := Lib.hid (HKW.out.trans hk10)
        have HLEN := Lib.hid (moves_len HFI.out)
        obtain ⟨nl, hnl⟩ : ∃ nl, (movesF C).length = nl := ⟨_, rfl⟩
        have HNL := Lib.hid hnl
        rw [hnl] at HMU HLT HLEN ⊢
        clear hmr hk10 hnl HA HBL7
        go_wp2_with (fail)
        refine (endedS HC.out).mono ?_
        rintro e W11 ⟨rfl, hk11⟩
        have HC := Lib.hid (HC.out.kept hk11)
        have HK7 := Lib.hid (HK7.out.trans hk11)
        have HKW := Lib.hid (HKW.out.trans hk11)
        have HMU := Lib.hid (MoRow.keep HMU.out hk11 (by simp))
        have HT11 := Lib.hid hk11.size
        clear hk11
        go_wp2_with (fail)
        go_loopw [15] (fun i wr => ∃ (k : Nat) (F : List Nat), i = .int .i64 k ∧ k ≤ 3 ∧ CoS wr p F (rnds C k) ∧ (∀ x ∈ F, W7.heap.size ≤ x) ∧ Out F Wr.heap.size W10.heap.size ∧ Keep [] W7 wr ∧ Keep [] W wr ∧ MoRow Wr.heap.size wr (.slice av nl cv) (movesF C) ∧ W10.heap.size ≤ wr.heap.size) (fun i _ => 3 - (intOf i).toNat)
        case atStart => exact ⟨0, F, rfl, Nat.zero_le _, HC.out, HF.out, HOUT.out, HK7.out, HKW.out, HMU.out, HT11.out⟩
        case round =>
          obtain ⟨k, F1, rfl, hk, hc, hF, ho, hk7, hkw, hmu, ht⟩ := hrel
          obtain ⟨Wk, hWk⟩ : ∃ u, u = wr := ⟨_, rfl⟩
          subst hWk
          have h0k : (0 : Int) ≤ (k : Int) := Int.natCast_nonneg k
          clear HC HF HOUT HK7 HKW HMU
          have HC := Lib.hid hc
          have HF := Lib.hid hF
          have HOUT := Lib.hid ho
          have HK7 := Lib.hid hk7
          have HKW := Lib.hid hkw
          have HMU := Lib.hid hmu
          have HT := Lib.hid ht
          clear hc hF ho hk7 hkw hmu ht
          by_cases hlk : k < 3
          · have hkn : (k : Int) < 3 := by omega
            obtain ⟨Ck, hCk⟩ : ∃ Ck, rnds C k = Ck := ⟨_, rfl⟩
            have HIK := Lib.hid (HINV.out k hk)
            rw [hCk] at HC HIK
            have HN : Hid (rnds C (k + 1) = ansL Ck (tickM Ck)) := Lib.hid (by show rndF (rnds C k) = _; rw [hCk]; rfl)
            have HFK := Lib.hid (HIK.out.fine2 (Nat.le_refl _) HNB.out.1.2 HNB.out.2.2)
            have HMK := Lib.hid (HIK.out.mem2 (by omega) (by have := HFK.out.num; omega))
            clear hCk
            go_wp2_with (fail)
            refine (tickS HC.out HFK.out HMK.out).mono ?_
            rintro e W12 ⟨tv, rfl, htv, hk12⟩
            rw [tick_map] at htv
            obtain ⟨ta, tc, rfl, _⟩ := own_shape htv
            have HPR := Lib.hid htv
            have HLP := Lib.hid (row_lt htv)
            have HO2 := Lib.hid (show Out F1 Wk.heap.size W12.heap.size from fun x hx => .inl (HC.out.lt x hx))
            have HC := Lib.hid (HC.out.kept hk12)
            have HK7 := Lib.hid (HK7.out.trans hk12)
            have HKW := Lib.hid (HKW.out.trans hk12)
            have HMU := Lib.hid (MoRow.keep HMU.out hk12 (by simp))
            have HT := Lib.hid (Nat.le_trans HT.out hk12.size)
            have HTL := Lib.hid (show (tickM Ck).length ≤ 1000 from tickM_len HFK.out)
            have HMO := Lib.hid (tickM_ok HFK.out)
            obtain ⟨M, hM⟩ : ∃ M, tickM Ck = M := ⟨_, rfl⟩
            rw [hM] at HPR HLP HTL HN HMO ⊢
            obtain ⟨tn, htn⟩ : ∃ tn, (M.map pkOf).length = tn := ⟨_, rfl⟩
            have HTN : Hid (M.length = tn) := Lib.hid (by rw [← htn, List.length_map])
            have HTM := Lib.hid htn
            rw [htn] at HPR HLP ⊢
            have htl : tn ≤ 1000 := by rw [← HTN.out]; exact HTL.out
            clear htv hk12 hM htn
            go_wp2_with (fail)
            go_loopw [17] (fun i wr => ∃ (i' : Nat) (F : List Nat), i = .int .i64 i' ∧ i' ≤ tn ∧ CoS wr p F (ansL Ck (M.take i')) ∧ (∀ x ∈ F, W7.heap.size ≤ x) ∧ Out F Wr.heap.size W10.heap.size ∧ Out F Wk.heap.size W12.heap.size ∧ Keep [] W7 wr ∧ Keep [] W wr ∧ MoRow Wr.heap.size wr (.slice av nl cv) (movesF C) ∧ W10.heap.size ≤ wr.heap.size ∧ PRow Wk.heap.size wr (.slice ta tn tc) (M.map pkOf) ∧ W12.heap.size ≤ wr.heap.size) (fun i _ => tn - (intOf i).toNat)
            case atStart => exact ⟨0, F1, rfl, Nat.zero_le _, HC.out, HF.out, HOUT.out, HO2.out, HK7.out, HKW.out, HMU.out, HT.out, HPR.out, Nat.le_refl _⟩
            case round =>
              obtain ⟨i, F2, rfl, hi, hc, hF, ho, ho2, hk7, hkw, hmu, ht, hpr, ht2⟩ := hrel
              obtain ⟨Wi, hWi⟩ : ∃ u, u = wr := ⟨_, rfl⟩
              subst hWi
              have h0i : (0 : Int) ≤ (i : Int) := Int.natCast_nonneg i
              clear HC HF HOUT HO2 HK7 HKW HMU HT HPR
              have HC := Lib.hid hc
              have HF := Lib.hid hF
              have HOUT := Lib.hid ho
              have HO2 := Lib.hid ho2
              have HK7 := Lib.hid hk7
              have HKW := Lib.hid hkw
              have HMU := Lib.hid hmu
              have HT := Lib.hid ht
              have HPR := Lib.hid hpr
              have HT2 := Lib.hid ht2
              clear hc hF ho ho2 hk7 hkw hmu ht hpr ht2
              by_cases hli : i < tn
              · have hin : (i : Int) < (tn : Int) := by omega
                obtain ⟨⟨to, m⟩, hp⟩ : ∃ x, M[i]? = some x := ⟨M[i]'(by rw [HTN.out]; exact hli), List.getElem?_eq_getElem _⟩
                have hmo := HMO.out _ (List.mem_of_getElem? hp)
                have hstep : ansL Ck (M.take (i + 1)) = ansF (ansL Ck (M.take i)) to m := by
                  rw [List.take_add_one, hp]
                  exact ansL_snoc _ _ _
                have hci := CdInv.ansL (M.take i) HIK.out
                have hmem : CdMem (ansL Ck (M.take i)) := hci.1.mem2 (by have := List.length_take_le i M; have := HTL.out; omega) (by have := HFK.out.num; omega)
                obtain ⟨Ci, hCi⟩ : ∃ Ci, ansL Ck (M.take i) = Ci := ⟨_, rfl⟩
                rw [hCi] at hstep hmem HC
                have HST := Lib.hid hstep
                have HMI := Lib.hid hmem
                have hne : M.map pkOf ≠ [] := by intro e; rw [List.map_eq_nil_iff] at e; rw [e] at hp; simp at hp
                have hpk : (M.map pkOf)[i]? = some (pkOf (to, m)) := by rw [List.getElem?_map, hp]; rfl
                have hprr := HPR.out
                rw [← HTM.out] at hprr
                obtain ⟨ga, ca, hv', hg0, hg1, _, hcell⟩ := rows_at Pk.len hprr hne
                simp only [Value.slice.injEq] at hv'
                obtain ⟨rfl, -, rfl⟩ := hv'
                have x1 := hcell i 1 _ hpk (by omega)
                have x2 := hcell i 2 _ hpk (by omega)
                simp only [Pk.cells, pkOf, List.getElem?_cons_zero, List.getElem?_cons_succ] at x1 x2
                obtain ⟨ds, hds⟩ : ∃ ds : ByteArray, ⟨(frameB m.enc).toArray⟩ = ds := ⟨_, rfl⟩
                rw [hds] at x2
                have HOF := Lib.hid (msgof_any (w := Wi) (s := ds) hmo (by rw [← hds]))
                have HX1 := Lib.hid x1
                have HGA := Lib.hid hg1
                have HMO2 := Lib.hid hmo
                clear hci hmem hstep hCi hp hmo hne hpk hprr hcell hds x1
                go_wp2_with (fail)
                clear x2
                refine HOF.out.mono ?_
                rintro e W13 ⟨vp, rfl, hir, hk13⟩
                obtain ⟨va, vc, rfl, _⟩ := own_shape hir
                obtain ⟨W14, hst, hk14, hm14⟩ := store_msg2 W13 (cs := m.cells (.slice va m.own.length vc)) rfl (Mg.one m va _ vc)
                unfold zMsg at hst
                have HSTO := Lib.hid hst
                have hk15 := hk13.trans hk14
                have HC := Lib.hid (HC.out.kept hk15)
                have HK7 := Lib.hid (HK7.out.trans hk15)
                have HKW := Lib.hid (HKW.out.trans hk15)
                have HMU := Lib.hid (MoRow.keep HMU.out hk15 (by simp))
                have HT := Lib.hid (Nat.le_trans HT.out hk15.size)
                have HPR := Lib.hid (PRow.keep HPR.out hk15 (by simp))
                have HT2 := Lib.hid (Nat.le_trans HT2.out hk15.size)
                have HX1 := Lib.hid ((hk15.cell _ HGA.out (by simp)).trans HX1.out)
                have HGA := Lib.hid (Nat.lt_of_lt_of_le HGA.out hk15.size)
                obtain ⟨y0, y1, y2, y3⟩ : W14.cell? ⟨W13.heap.size, 0, none⟩ = some (.int .u8 m.k) ∧ W14.cell? ⟨W13.heap.size, 1, none⟩ = some (.int .i64 m.mv) ∧ W14.cell? ⟨W13.heap.size, 2, none⟩ = some (.int .i64 m.pt) ∧ W14.cell? ⟨W13.heap.size, 3, none⟩ = some (.int .i64 m.to) := by
                  have h : W14.heap[W13.heap.size]? = some (.cells (m.cells (.slice va m.own.length vc)) 40 (0, 0)) := hm14
                  refine ⟨?_, ?_, ?_, ?_⟩ <;> (unfold World.cell?; rw [h]; rfl)
                have HM14 := Lib.hid (lt_of_heap (show W14.heap[W13.heap.size]? = some (.cells (m.cells (.slice va m.own.length vc)) 40 (0, 0)) from hm14))
                have HY1 := Lib.hid y1
                have HY2 := Lib.hid y2
                have HY3 := Lib.hid y3
                obtain ⟨mc, hmc⟩ : ∃ mc, m.cells (.slice va m.own.length vc) = mc := ⟨_, rfl⟩
                rw [hmc] at HSTO ⊢
                clear hir hk13 hk14 hm14 hst hk15 y1 y2 y3 hmc HOF HIK
                rcases HMO2.out.kind with hkk | hkk | hkk | hkk
                · obtain ⟨hk4, _, _, _⟩ := hkk
                  rw [hk4] at y0
                  have HANS : Hid (ansF Ci to m = (coHandle Ci m.to 10 m.mv m.pt 1).2) := Lib.hid (by unfold ansF; rw [if_pos hk4])
                  clear hk4
                  go_wp2_with ((with_reducible refine wpList_store_all ?_ 40 (.tmp 18) (.tmp 88) ?_ (W13.heap.size) ?_ mc ?_ HSTO.out ?_); rfl; rfl; rfl; rfl)
                  refine wp_region_soup 8 [] (spOf [(7, Spec.is (.agg (msR 10 m.mv m.pt 1)))]) (by kernel_rfl) (by kernel_rfl) (spOk_of (by simp [Spec.is_ok])) (pre_of (by simp [Spec.is_ok])) ?_
                  simp only [List.take_succ_cons, List.take_zero, List.drop_succ_cons, List.drop_zero]
                  with_reducible refine soup_q ?_ ?_ ?_
                  · rfl
                  · rfl
                  with_reducible apply Exists.intro
                  with_reducible refine ⟨fun W hk _ => ?_, ?_⟩
                  · unfold Oper.same
                    go_simp
                    first | rfl | exact ⟨rfl, rfl⟩
                  with_reducible apply Exists.intro
                  with_reducible refine ⟨?_, ?_⟩
                  · go_simp
                    rfl
                  with_reducible refine soup_q ?_ ?_ ?_
                  · rfl
                  · rfl
                  with_reducible apply Exists.intro
                  with_reducible refine ⟨fun W hk _ => ?_, ?_⟩
                  · unfold Oper.same
                    go_simp
                    first | rfl | exact ⟨rfl, rfl⟩
                  with_reducible apply Exists.intro
                  with_reducible refine ⟨?_, ?_⟩
                  · go_simp
                    rfl
                  with_reducible refine soup_q ?_ ?_ ?_
                  · rfl
                  · rfl
                  with_reducible apply Exists.intro
                  with_reducible refine ⟨fun W hk _ => ?_, ?_⟩
                  · have q0 := (hk.cell _ HM14.out (by simp)).trans HY3.out
                    unfold Oper.same
                    go_simp
                    first | rfl | exact ⟨rfl, rfl⟩
                  with_reducible apply Exists.intro
                  with_reducible refine ⟨?_, ?_⟩
                  · go_simp
                    rfl
                  with_reducible refine soup_q ?_ ?_ ?_
                  · rfl
                  · rfl
                  with_reducible apply Exists.intro
                  with_reducible refine ⟨fun W hk _ => ?_, ?_⟩
                  · unfold Oper.same
                    go_simp
                    first | rfl | exact ⟨rfl, rfl⟩
                  with_reducible apply Exists.intro
                  with_reducible refine ⟨?_, ?_⟩
                  · go_simp
                    rfl
                  with_reducible refine soup_q ?_ ?_ ?_
                  · rfl
                  · rfl
                  with_reducible apply Exists.intro
                  with_reducible refine ⟨fun W hk _ => ?_, ?_⟩
                  · have q0 := (hk.cell _ HM14.out (by simp)).trans HY1.out
                    unfold Oper.same
                    go_simp
                    first | rfl | exact ⟨rfl, rfl⟩
                  with_reducible apply Exists.intro
                  with_reducible refine ⟨?_, ?_⟩
                  · go_simp
                    rfl
                  with_reducible refine soup_q ?_ ?_ ?_
                  · rfl
                  · rfl
                  with_reducible apply Exists.intro
                  with_reducible refine ⟨fun W hk _ => ?_, ?_⟩
                  · unfold Oper.same
                    go_simp
                    first | rfl | exact ⟨rfl, rfl⟩
                  with_reducible apply Exists.intro
                  with_reducible refine ⟨?_, ?_⟩
                  · go_simp
                    rfl
                  with_reducible refine soup_q ?_ ?_ ?_
                  · rfl
                  · rfl
                  with_reducible apply Exists.intro
                  with_reducible refine ⟨fun W hk _ => ?_, ?_⟩
                  · have q0 := (hk.cell _ HM14.out (by simp)).trans HY2.out
                    unfold Oper.same
                    go_simp
                    first | rfl | exact ⟨rfl, rfl⟩
                  with_reducible apply Exists.intro
                  with_reducible refine ⟨?_, ?_⟩
                  · go_simp
                    rfl
                  refine soup_s rfl rfl rfl (fun W hk _ _ => ?_) ?_
                  · unfold Oper.does
                    go_simp
                    refine (saysR W m.mv m.pt 1).mono ?_
                    rintro e w' ⟨rfl, hk'⟩
                    exact ⟨_, rfl, hk', hk.trans hk', rfl, trivial⟩
                  intro v hv
                  obtain rfl : v = _ := hv
                  with_reducible apply Exists.intro
                  with_reducible refine ⟨?_, ?_⟩
                  · go_simp
                    rfl
                  refine soup_nil (fun W15 hk hS => ?_)
                  go_wp2_with (fail)
                  refine (handleS (HC.out.kept hk) HMI.out (msR 10 m.mv m.pt 1) rfl m.to 10 m.mv m.pt 1 rfl rfl rfl rfl).mono ?_
                  rintro e W16 ⟨rfl, F3, hc', hk', hup⟩
                  have HC' := Lib.hid hc'
                  have HF' := Lib.hid (show ∀ y ∈ F3, W7.heap.size ≤ y from fun y hy => by
                    rcases hup y hy with h | h
                    · exact HF.out y h
                    · exact Nat.le_trans (Nat.le_trans HK7.out.size hk.size) h)
                  have HO' := Lib.hid (HOUT.out.up hup (Nat.le_trans HT.out hk.size))
                  have HO2' := Lib.hid (HO2.out.up hup (Nat.le_trans HT2.out hk.size))
                  have HK7' := Lib.hid ((HK7.out.trans hk).step hk' (fun y hy => .inr (HF.out y hy)))
                  have HKW' := Lib.hid ((HKW.out.trans hk).step hk' (fun y hy => .inr (Nat.le_trans HW7.out (HF.out y hy))))
                  have HMU' := Lib.hid (MoRow.keep (MoRow.keep HMU.out hk (by simp)) hk' (HOUT.out.far HMU.out HLT.out))
                  have HPR' := Lib.hid (PRow.keep (PRow.keep HPR.out hk (by simp)) hk' (HO2.out.far HPR.out HLP.out))
                  have HT' := Lib.hid (Nat.le_trans (Nat.le_trans HT.out hk.size) hk'.size)
                  have HT2' := Lib.hid (Nat.le_trans (Nat.le_trans HT2.out hk.size) hk'.size)
                  clear hc' hk' hup hk hS
                  go_wp2_with (fail)
                  go_roundw
                  case rel => exact ⟨i + 1, F3, by go_num, by omega, by rw [HST.out, HANS.out]; exact HC'.out, HF'.out, HO'.out, HO2'.out, HK7'.out, HKW'.out, HMU'.out, HT'.out, HPR'.out, HT2'.out⟩
                  case measure => go_light; simp [intOf]; omega
                · obtain ⟨hk4, _, _, _, _⟩ := hkk
                  rw [hk4] at y0
                  have HANS : Hid (ansF Ci to m = (coHandle Ci to 13 m.mv m.pt 0).2) := Lib.hid (by unfold ansF; rw [if_neg (by omega), if_pos (by omega)])
                  clear hk4
                  go_wp2_with ((with_reducible refine wpList_store_all ?_ 40 (.tmp 18) (.tmp 88) ?_ (W13.heap.size) ?_ mc ?_ HSTO.out ?_); rfl; rfl; rfl; rfl)
                  refine wp_region_soup 11 [] (spOf [(10, Spec.is (.agg (msR 13 m.mv m.pt 0)))]) (by kernel_rfl) (by kernel_rfl) (spOk_of (by simp [Spec.is_ok])) (pre_of (by simp [Spec.is_ok])) ?_
                  simp only [List.take_succ_cons, List.take_zero, List.drop_succ_cons, List.drop_zero]
                  with_reducible refine soup_q ?_ ?_ ?_
                  · rfl
                  · rfl
                  with_reducible apply Exists.intro
                  with_reducible refine ⟨fun W hk _ => ?_, ?_⟩
                  · unfold Oper.same
                    go_simp
                    first | rfl | exact ⟨rfl, rfl⟩
                  with_reducible apply Exists.intro
                  with_reducible refine ⟨?_, ?_⟩
                  · go_simp
                    rfl
                  with_reducible refine soup_q ?_ ?_ ?_
                  · rfl
                  · rfl
                  with_reducible apply Exists.intro
                  with_reducible refine ⟨fun W hk _ => ?_, ?_⟩
                  · unfold Oper.same
                    go_simp
                    first | rfl | exact ⟨rfl, rfl⟩
                  with_reducible apply Exists.intro
                  with_reducible refine ⟨?_, ?_⟩
                  · go_simp
                    rfl
                  with_reducible refine soup_q ?_ ?_ ?_
                  · rfl
                  · rfl
                  with_reducible apply Exists.intro
                  with_reducible refine ⟨fun W hk _ => ?_, ?_⟩
                  · unfold Oper.same
                    go_simp
                    first | rfl | exact ⟨rfl, rfl⟩
                  with_reducible apply Exists.intro
                  with_reducible refine ⟨?_, ?_⟩
                  · go_simp
                    rfl
                  with_reducible refine soup_q ?_ ?_ ?_
                  · rfl
                  · rfl
                  with_reducible apply Exists.intro
                  with_reducible refine ⟨fun W hk _ => ?_, ?_⟩
                  · unfold Oper.same
                    go_simp
                    first | rfl | exact ⟨rfl, rfl⟩
                  with_reducible apply Exists.intro
                  with_reducible refine ⟨?_, ?_⟩
                  · go_simp
                    rfl
                  with_reducible refine soup_q ?_ ?_ ?_
                  · rfl
                  · rfl
                  with_reducible apply Exists.intro
                  with_reducible refine ⟨fun W hk _ => ?_, ?_⟩
                  · unfold Oper.same
                    go_simp
                    first | rfl | exact ⟨rfl, rfl⟩
                  with_reducible apply Exists.intro
                  with_reducible refine ⟨?_, ?_⟩
                  · go_simp
                    rfl
                  with_reducible refine soup_q ?_ ?_ ?_
                  · rfl
                  · rfl
                  with_reducible apply Exists.intro
                  with_reducible refine ⟨fun W hk _ => ?_, ?_⟩
                  · have q0 := (hk.cell _ HGA.out (by simp)).trans HX1.out
                    unfold Oper.same
                    go_simp
                    first | rfl | exact ⟨rfl, rfl⟩
                  with_reducible apply Exists.intro
                  with_reducible refine ⟨?_, ?_⟩
                  · go_simp
                    rfl
                  with_reducible refine soup_q ?_ ?_ ?_
                  · rfl
                  · rfl
                  with_reducible apply Exists.intro
                  with_reducible refine ⟨fun W hk _ => ?_, ?_⟩
                  · unfold Oper.same
                    go_simp
                    first | rfl | exact ⟨rfl, rfl⟩
                  with_reducible apply Exists.intro
                  with_reducible refine ⟨?_, ?_⟩
                  · go_simp
                    rfl
                  with_reducible refine soup_q ?_ ?_ ?_
                  · rfl
                  · rfl
                  with_reducible apply Exists.intro
                  with_reducible refine ⟨fun W hk _ => ?_, ?_⟩
                  · have q0 := (hk.cell _ HM14.out (by simp)).trans HY1.out
                    unfold Oper.same
                    go_simp
                    first | rfl | exact ⟨rfl, rfl⟩
                  with_reducible apply Exists.intro
                  with_reducible refine ⟨?_, ?_⟩
                  · go_simp
                    rfl
                  with_reducible refine soup_q ?_ ?_ ?_
                  · rfl
                  · rfl
                  with_reducible apply Exists.intro
                  with_reducible refine ⟨fun W hk _ => ?_, ?_⟩
                  · unfold Oper.same
                    go_simp
                    first | rfl | exact ⟨rfl, rfl⟩
                  with_reducible apply Exists.intro
                  with_reducible refine ⟨?_, ?_⟩
                  · go_simp
                    rfl
                  with_reducible refine soup_q ?_ ?_ ?_
                  · rfl
                  · rfl
                  with_reducible apply Exists.intro
                  with_reducible refine ⟨fun W hk _ => ?_, ?_⟩
                  · have q0 := (hk.cell _ HM14.out (by simp)).trans HY2.out
                    unfold Oper.same
                    go_simp
                    first | rfl | exact ⟨rfl, rfl⟩
                  with_reducible apply Exists.intro
                  with_reducible refine ⟨?_, ?_⟩
                  · go_simp
                    rfl
                  refine soup_s rfl rfl rfl (fun W hk _ _ => ?_) ?_
                  · unfold Oper.does
                    go_simp
                    refine (saysD W m.mv m.pt).mono ?_
                    rintro e w' ⟨rfl, hk'⟩
                    exact ⟨_, rfl, hk', hk.trans hk', rfl, trivial⟩
                  intro v hv
                  obtain rfl : v = _ := hv
                  with_reducible apply Exists.intro
                  with_reducible refine ⟨?_, ?_⟩
                  · go_simp
                    rfl
                  refine soup_nil (fun W15 hk hS => ?_)
                  go_wp2_with (fail)
                  refine (handleS (HC.out.kept hk) HMI.out (msR 13 m.mv m.pt 0) rfl to 13 m.mv m.pt 0 rfl rfl rfl rfl).mono ?_
                  rintro e W16 ⟨rfl, F3, hc', hk', hup⟩
                  have HC' := Lib.hid hc'
                  have HF' := Lib.hid (show ∀ y ∈ F3, W7.heap.size ≤ y from fun y hy => by
                    rcases hup y hy with h | h
                    · exact HF.out y h
                    · exact Nat.le_trans (Nat.le_trans HK7.out.size hk.size) h)
                  have HO' := Lib.hid (HOUT.out.up hup (Nat.le_trans HT.out hk.size))
                  have HO2' := Lib.hid (HO2.out.up hup (Nat.le_trans HT2.out hk.size))
                  have HK7' := Lib.hid ((HK7.out.trans hk).step hk' (fun y hy => .inr (HF.out y hy)))
                  have HKW' := Lib.hid ((HKW.out.trans hk).step hk' (fun y hy => .inr (Nat.le_trans HW7.out (HF.out y hy))))
                  have HMU' := Lib.hid (MoRow.keep (MoRow.keep HMU.out hk (by simp)) hk' (HOUT.out.far HMU.out HLT.out))
                  have HPR' := Lib.hid (PRow.keep (PRow.keep HPR.out hk (by simp)) hk' (HO2.out.far HPR.out HLP.out))
                  have HT' := Lib.hid (Nat.le_trans (Nat.le_trans HT.out hk.size) hk'.size)
                  have HT2' := Lib.hid (Nat.le_trans (Nat.le_trans HT2.out hk.size) hk'.size)
                  clear hc' hk' hup hk hS
                  go_wp2_with (fail)
                  go_roundw
                  case rel => exact ⟨i + 1, F3, by go_num, by omega, by rw [HST.out, HANS.out]; exact HC'.out, HF'.out, HO'.out, HO2'.out, HK7'.out, HKW'.out, HMU'.out, HT'.out, HPR'.out, HT2'.out⟩
                  case measure => go_light; simp [intOf]; omega
                · obtain ⟨hk4, _⟩ := hkk
                  rw [hk4] at y0
                  have HANS : Hid (ansF Ci to m = (coHandle Ci to 13 m.mv m.pt 0).2) := Lib.hid (by unfold ansF; rw [if_neg (by omega), if_pos (by omega)])
                  clear hk4
                  go_wp2_with ((with_reducible refine wpList_store_all ?_ 40 (.tmp 18) (.tmp 88) ?_ (W13.heap.size) ?_ mc ?_ HSTO.out ?_); rfl; rfl; rfl; rfl)
                  refine wp_region_soup 11 [] (spOf [(10, Spec.is (.agg (msR 13 m.mv m.pt 0)))]) (by kernel_rfl) (by kernel_rfl) (spOk_of (by simp [Spec.is_ok])) (pre_of (by simp [Spec.is_ok])) ?_
                  simp only [List.take_succ_cons, List.take_zero, List.drop_succ_cons, List.drop_zero]
                  with_reducible refine soup_q ?_ ?_ ?_
                  · rfl
                  · rfl
                  with_reducible apply Exists.intro
                  with_reducible refine ⟨fun W hk _ => ?_, ?_⟩
                  · unfold Oper.same
                    go_simp
                    first | rfl | exact ⟨rfl, rfl⟩
                  with_reducible apply Exists.intro
                  with_reducible refine ⟨?_, ?_⟩
                  · go_simp
                    rfl
                  with_reducible refine soup_q ?_ ?_ ?_
                  · rfl
                  · rfl
                  with_reducible apply Exists.intro
                  with_reducible refine ⟨fun W hk _ => ?_, ?_⟩
                  · unfold Oper.same
                    go_simp
                    first | rfl | exact ⟨rfl, rfl⟩
                  with_reducible apply Exists.intro
                  with_reducible refine ⟨?_, ?_⟩
                  · go_simp
                    rfl
                  with_reducible refine soup_q ?_ ?_ ?_
                  · rfl
                  · rfl
                  with_reducible apply Exists.intro
                  with_reducible refine ⟨fun W hk _ => ?_, ?_⟩
                  · unfold Oper.same
                    go_simp
                    first | rfl | exact ⟨rfl, rfl⟩
                  with_reducible apply Exists.intro
                  with_reducible refine ⟨?_, ?_⟩
                  · go_simp
                    rfl
                  with_reducible refine soup_q ?_ ?_ ?_
                  · rfl
                  · rfl
                  with_reducible apply Exists.intro
                  with_reducible refine ⟨fun W hk _ => ?_, ?_⟩
                  · unfold Oper.same
                    go_simp
                    first | rfl | exact ⟨rfl, rfl⟩
                  with_reducible apply Exists.intro
                  with_reducible refine ⟨?_, ?_⟩
                  · go_simp
                    rfl
                  with_reducible refine soup_q ?_ ?_ ?_
                  · rfl
                  · rfl
                  with_reducible apply Exists.intro
                  with_reducible refine ⟨fun W hk _ => ?_, ?_⟩
                  · unfold Oper.same
                    go_simp
                    first | rfl | exact ⟨rfl, rfl⟩
                  with_reducible apply Exists.intro
                  with_reducible refine ⟨?_, ?_⟩
                  · go_simp
                    rfl
                  with_reducible refine soup_q ?_ ?_ ?_
                  · rfl
                  · rfl
                  with_reducible apply Exists.intro
                  with_reducible refine ⟨fun W hk _ => ?_, ?_⟩
                  · have q0 := (hk.cell _ HGA.out (by simp)).trans HX1.out
                    unfold Oper.same
                    go_simp
                    first | rfl | exact ⟨rfl, rfl⟩
                  with_reducible apply Exists.intro
                  with_reducible refine ⟨?_, ?_⟩
                  · go_simp
                    rfl
                  with_reducible refine soup_q ?_ ?_ ?_
                  · rfl
                  · rfl
                  with_reducible apply Exists.intro
                  with_reducible refine ⟨fun W hk _ => ?_, ?_⟩
                  · unfold Oper.same
                    go_simp
                    first | rfl | exact ⟨rfl, rfl⟩
                  with_reducible apply Exists.intro
                  with_reducible refine ⟨?_, ?_⟩
                  · go_simp
                    rfl
                  with_reducible refine soup_q ?_ ?_ ?_
                  · rfl
                  · rfl
                  with_reducible apply Exists.intro
                  with_reducible refine ⟨fun W hk _ => ?_, ?_⟩
                  · have q0 := (hk.cell _ HM14.out (by simp)).trans HY1.out
                    unfold Oper.same
                    go_simp
                    first | rfl | exact ⟨rfl, rfl⟩
                  with_reducible apply Exists.intro
                  with_reducible refine ⟨?_, ?_⟩
                  · go_simp
                    rfl
                  with_reducible refine soup_q ?_ ?_ ?_
                  · rfl
                  · rfl
                  with_reducible apply Exists.intro
                  with_reducible refine ⟨fun W hk _ => ?_, ?_⟩
                  · unfold Oper.same
                    go_simp
                    first | rfl | exact ⟨rfl, rfl⟩
                  with_reducible apply Exists.intro
                  with_reducible refine ⟨?_, ?_⟩
                  · go_simp
                    rfl
                  with_reducible refine soup_q ?_ ?_ ?_
                  · rfl
                  · rfl
                  with_reducible apply Exists.intro
                  with_reducible refine ⟨fun W hk _ => ?_, ?_⟩
                  · have q0 := (hk.cell _ HM14.out (by simp)).trans HY2.out
                    unfold Oper.same
                    go_simp
                    first | rfl | exact ⟨rfl, rfl⟩
                  with_reducible apply Exists.intro
                  with_reducible refine ⟨?_, ?_⟩
                  · go_simp
                    rfl
                  refine soup_s rfl rfl rfl (fun W hk _ _ => ?_) ?_
                  · unfold Oper.does
                    go_simp
                    refine (saysD W m.mv m.pt).mono ?_
                    rintro e w' ⟨rfl, hk'⟩
                    exact ⟨_, rfl, hk', hk.trans hk', rfl, trivial⟩
                  intro v hv
                  obtain rfl : v = _ := hv
                  with_reducible apply Exists.intro
                  with_reducible refine ⟨?_, ?_⟩
                  · go_simp
                    rfl
                  refine soup_nil (fun W15 hk hS => ?_)
                  go_wp2_with (fail)
                  refine (handleS (HC.out.kept hk) HMI.out (msR 13 m.mv m.pt 0) rfl to 13 m.mv m.pt 0 rfl rfl rfl rfl).mono ?_
                  rintro e W16 ⟨rfl, F3, hc', hk', hup⟩
                  have HC' := Lib.hid hc'
                  have HF' := Lib.hid (show ∀ y ∈ F3, W7.heap.size ≤ y from fun y hy => by
                    rcases hup y hy with h | h
                    · exact HF.out y h
                    · exact Nat.le_trans (Nat.le_trans HK7.out.size hk.size) h)
                  have HO' := Lib.hid (HOUT.out.up hup (Nat.le_trans HT.out hk.size))
                  have HO2' := Lib.hid (HO2.out.up hup (Nat.le_trans HT2.out hk.size))
                  have HK7' := Lib.hid ((HK7.out.trans hk).step hk' (fun y hy => .inr (HF.out y hy)))
                  have HKW' := Lib.hid ((HKW.out.trans hk).step hk' (fun y hy => .inr (Nat.le_trans HW7.out (HF.out y hy))))
                  have HMU' := Lib.hid (MoRow.keep (MoRow.keep HMU.out hk (by simp)) hk' (HOUT.out.far HMU.out HLT.out))
                  have HPR' := Lib.hid (PRow.keep (PRow.keep HPR.out hk (by simp)) hk' (HO2.out.far HPR.out HLP.out))
                  have HT' := Lib.hid (Nat.le_trans (Nat.le_trans HT.out hk.size) hk'.size)
                  have HT2' := Lib.hid (Nat.le_trans (Nat.le_trans HT2.out hk.size) hk'.size)
                  clear hc' hk' hup hk hS
                  go_wp2_with (fail)
                  go_roundw
                  case rel => exact ⟨i + 1, F3, by go_num, by omega, by rw [HST.out, HANS.out]; exact HC'.out, HF'.out, HO'.out, HO2'.out, HK7'.out, HKW'.out, HMU'.out, HT'.out, HPR'.out, HT2'.out⟩
                  case measure => go_light; simp [intOf]; omega
                · obtain ⟨hk4, _, _, _⟩ := hkk
                  rw [hk4] at y0
                  have HANS : Hid (ansF Ci to m = Ci) := Lib.hid (by unfold ansF; rw [if_neg (by omega), if_neg (by omega)])
                  clear hk4
                  go_wp2_with ((with_reducible refine wpList_store_all ?_ 40 (.tmp 18) (.tmp 88) ?_ (W13.heap.size) ?_ mc ?_ HSTO.out ?_); rfl; rfl; rfl; rfl)
                  go_roundw
                  case rel => exact ⟨i + 1, F2, by go_num, by omega, by rw [HST.out, HANS.out]; exact HC.out, HF.out, HOUT.out, HO2.out, HK7.out, HKW.out, HMU.out, HT.out, HPR.out, HT2.out⟩
                  case measure => go_light; simp [intOf]; omega
              · obtain rfl : i = tn := by omega
                have hin : ¬ (i : Int) < (i : Int) := by omega
                have hfin : M.take i = M := by rw [← HTN.out, List.take_length]
                rw [hfin, ← HN.out] at HC
                clear hfin
                go_wp2_with (fail)
                go_roundw
                case rel => exact ⟨k + 1, F2, by go_num, by omega, HC.out, HF.out, HOUT.out, HK7.out, HKW.out, HMU.out, HT.out⟩
                case measure => go_light; simp [intOf]; omega
          · obtain rfl : k = 3 := by omega
            have hkn : ¬ (3 : Int) < 3 := by omega
            rw [HC3.out] at HC
            clear hk h0k hlk
            have HI3F := Lib.hid (HI3.out.fine2 (Nat.le_refl _) HNB.out.1.2 HNB.out.2.2)
            have HI3M := Lib.hid (HI3.out.mem2 (by omega) (by have := HI3F.out.num; omega))
            obtain ⟨T, hT⟩ : ∃ T, ((movesF C).countP fun y => isL y.s) = T := ⟨_, rfl⟩
            have hall := cnt_all (movesF C)
            rw [hT, HNL.out] at hall
            have hcom := HCOM.out
            have habo := HABO.out
            rw [hT] at hcom
            have habo2 : C3.abo = C.abo + (nl : Int) - (T : Int) := by omega
            have hcnt := HI.out.cnt
            have hb1 : 0 ≤ C.com ∧ C.com ≤ 200 := by omega
            have hb2 : 0 ≤ C.abo ∧ C.abo ≤ 200 := by omega
            have hb3 : T ≤ nl := by omega
            have hb4 : nl ≤ 400 := HLEN.out
            have HTT := Lib.hid hT
            have HRG := Lib.hid (fun a d => HI3.out.right HNB.out.1 HNB.out.2 a d)
            have HOLEN := Lib.hid HI3.out.len
            obtain ⟨cm, hcm⟩ : ∃ cm, C.com = cm := ⟨_, rfl⟩
            obtain ⟨am, ham⟩ : ∃ am, C.abo = am := ⟨_, rfl⟩
            rw [hcm] at hcom hb1 ⊢
            rw [ham] at habo2 hb2 ⊢
            clear hT hall habo hcnt hcm ham HCOM HABO
            go_wp2_with (fail)
            refine (endedS HC.out).mono ?_
            rw [hcom, habo2]
            rintro e W20 ⟨rfl, hk⟩
            have HC := Lib.hid (HC.out.kept hk)
            have HMU := Lib.hid (MoRow.keep HMU.out hk (by simp))
            have HKW := Lib.hid (HKW.out.trans hk)
            clear hk hcom habo2 hkn
            go_wp2_with (fail)
            refine (tableS HC.out HI3F.out).mono ?_
            rintro e W21 ⟨ua, ud, rfl, hu, hk⟩
            have HC := Lib.hid (HC.out.kept hk)
            have HMU := Lib.hid (MoRow.keep HMU.out hk (by simp))
            have HKW := Lib.hid (HKW.out.trans hk)
            have HU := Lib.hid hu
            obtain ⟨on, hon⟩ : ∃ on, C3.own.length = on := ⟨_, rfl⟩
            have HON := Lib.hid hon
            rw [hon]
            clear hk hu hon
            go_wp2_with (fail)
            obtain ⟨W22, hW22⟩ : ∃ u, W21.alloc (.cells #[.int .i64 C3.ep, .int .i64 C3.nd, .slice ua on ud] 28) = u := ⟨_, rfl⟩
            have hk : Keep [] W21 W22 := by rw [← hW22]; exact (Keep.refl _ _).alloc _
            have HBT := Lib.hid (show W22.heap[W21.heap.size]? = some (.cells #[.int .i64 C3.ep, .int .i64 C3.nd, .slice ua on ud] 28 (0, 0)) from by rw [← hW22]; exact World.alloc_heap_new W21 _)
            rw [hW22]
            have HC := Lib.hid (HC.out.kept hk)
            have HMU := Lib.hid (MoRow.keep HMU.out hk (by simp))
            have HKW := Lib.hid (HKW.out.trans hk)
            have HU := Lib.hid (HU.out.keep hk (by simp))
            clear hk hW22
            go_loopw [23, 24] (fun th i wr => ∃ j : Nat, i = .int .i64 j ∧ j ≤ nl ∧ th = .int .i64 (((movesF C).take j).countP (fun y => isL y.s) : Nat) ∧ Keep [] W22 wr) (fun _ i _ => nl - (intOf i).toNat)
            case atStart => exact ⟨0, rfl, Nat.zero_le _, rfl, Keep.refl _ _⟩
            case round =>
              obtain ⟨j, rfl, hj, rfl, hk0⟩ := hrel
              obtain ⟨Wq, hWq⟩ : ∃ u, u = wr := ⟨_, rfl⟩
              subst hWq
              have HKR := Lib.hid hk0
              have h0j : (0 : Int) ≤ (j : Int) := Int.natCast_nonneg j
              by_cases hlt : j < nl
              · have hjn : (j : Int) < (nl : Int) := by omega
                have hlj : j < (movesF C).length := by rw [HNL.out]; exact hlt
                obtain ⟨x, hx⟩ : ∃ x, (movesF C)[j]? = some x := ⟨(movesF C)[j], List.getElem?_eq_getElem hlj⟩
                have hne : movesF C ≠ [] := by intro e; rw [e] at hlj; simp at hlj
                have hov := HOWN.out x (List.mem_of_getElem? hx)
                have hrv := HMU.out
                rw [← HNL.out] at hrv
                obtain ⟨ga, ca, hv', hg0, hg1, _, hcell⟩ := rows_at Mo.len (MoRow.keep hrv hk0 (by simp)) hne
                simp only [Value.slice.injEq] at hv'
                obtain ⟨rfl, -, rfl⟩ := hv'
                have x1 := hcell j 1 _ hx (by omega)
                have x2 := hcell j 2 _ hx (by omega)
                have x3 := hcell j 3 _ hx (by omega)
                have x4 := hcell j 4 _ hx (by omega)
                obtain ⟨⟨mv, part, fr, to⟩, ⟨st, dn⟩⟩ := x
                simp only at hov
                obtain ⟨⟨hp0, hp1⟩, hov⟩ := hov
                obtain ⟨pn, rfl⟩ := Int.eq_ofNat_of_zero_le hp0
                rw [Int.toNat_natCast] at hov
                simp only [Mo.cells, List.getElem?_cons_zero, List.getElem?_cons_succ] at x1 x2 x3 x4
                have hoc := fun W' (hk : Keep [] W22 W') => towner_any (w := W') (C3.tb ua ud) (HU.out.at.keep hk (by simp)) (HRG.out ua ud) pn (show pn < C3.own.length by have := HOLEN.out; omega)
                obtain ⟨o, ho⟩ : ∃ o, C3.own[pn]?.getD 0 = o := ⟨_, rfl⟩
                rw [ho] at hov
                unfold Tb.val Cd.tb at hoc
                simp only [ho, HON.out] at hoc
                obtain ⟨t0, ht0⟩ : ∃ t0, ((movesF C).take j).countP (fun y => isL y.s) = t0 := ⟨_, rfl⟩
                have ht0b : t0 ≤ 400 := by rw [← ht0]; exact Nat.le_trans List.countP_le_length (Nat.le_trans (List.length_take_le _ _) (by omega))
                have HT0 := Lib.hid ht0
                rw [ht0]
                have HOC := Lib.hid hoc
                have HOV := Lib.hid hov
                have HXJ := Lib.hid hx
                have HX1 := Lib.hid x1
                have HX2 := Lib.hid x2
                have HX3 := Lib.hid x3
                have HX4 := Lib.hid x4
                have HGA := Lib.hid hg1
                have HBR := Lib.hid ((hk0.block _ (lt_of_heap HBT.out) (by simp)).trans HBT.out)
                clear hrv hcell hx x1 x2 x3 x4 hk0 hne ht0 hoc hov hp0 hp1 ho
                by_cases hst : st = 3
                · have heo : o = fr := by rw [HOV.out]; rw [if_pos hst]
                  have heo2 := heo.symm
                  subst heo2
                  clear heo
                  have hsn : ((movesF C).take (j + 1)).countP (fun y => isL y.s) = t0 + 0 := by
                    rw [cnt_snoc HXJ.out, HT0.out]
                    rw [show isL (⟨⟨mv, (pn : Int), fr, to⟩, ⟨st, dn⟩⟩ : Mo).s = false from by unfold isL; simpa using hst]
                    rfl
                  have HSN := Lib.hid hsn
                  clear hsn
                  subst hst
                  go_wp2_with (fail)
                  refine wp_region_soup 11 [] (spOf [(6, Spec.is (.tuple #[.int .i64 fr, .bool true]))]) (by kernel_rfl) (by kernel_rfl) (spOk_of (by simp [Spec.is_ok])) (pre_of (by simp [Spec.is_ok])) ?_
                  simp only [List.take_succ_cons, List.take_zero, List.drop_succ_cons, List.drop_zero]
                  with_reducible refine soup_q ?_ ?_ ?_
                  · rfl
                  · rfl
                  with_reducible apply Exists.intro
                  with_reducible refine ⟨fun W hk _ => ?_, ?_⟩
                  · obtain ⟨z0, z1, z2, z3⟩ := TbFacts ((hk.block _ (lt_of_heap HBR.out) (by simp)).trans HBR.out)
                    unfold Oper.same
                    go_simp
                    first | rfl | exact ⟨rfl, rfl⟩
                  with_reducible apply Exists.intro
                  with_reducible refine ⟨?_, ?_⟩
                  · go_simp
                    rfl
                  with_reducible refine soup_q ?_ ?_ ?_
                  · rfl
                  · rfl
                  with_reducible apply Exists.intro
                  with_reducible refine ⟨fun W hk _ => ?_, ?_⟩
                  · unfold Oper.same
                    go_simp
                    first | rfl | exact ⟨rfl, rfl⟩
                  with_reducible apply Exists.intro
                  with_reducible refine ⟨?_, ?_⟩
                  · go_simp
                    rfl
                  with_reducible refine soup_q ?_ ?_ ?_
                  · rfl
                  · rfl
                  with_reducible apply Exists.intro
                  with_reducible refine ⟨fun W hk _ => ?_, ?_⟩
                  · unfold Oper.same
                    go_simp
                    first | rfl | exact ⟨rfl, rfl⟩
                  with_reducible apply Exists.intro
                  with_reducible refine ⟨?_, ?_⟩
                  · go_simp
                    rfl
                  with_reducible refine soup_q ?_ ?_ ?_
                  · rfl
                  · rfl
                  with_reducible apply Exists.intro
                  with_reducible refine ⟨fun W hk _ => ?_, ?_⟩
                  · unfold Oper.same
                    go_simp
                    first | rfl | exact ⟨rfl, rfl⟩
                  with_reducible apply Exists.intro
                  with_reducible refine ⟨?_, ?_⟩
                  · go_simp
                    rfl
                  with_reducible refine soup_q ?_ ?_ ?_
                  · rfl
                  · rfl
                  with_reducible apply Exists.intro
                  with_reducible refine ⟨fun W hk _ => ?_, ?_⟩
                  · unfold Oper.same
                    go_simp
                    first | rfl | exact ⟨rfl, rfl⟩
                  with_reducible apply Exists.intro
                  with_reducible refine ⟨?_, ?_⟩
                  · go_simp
                    rfl
                  with_reducible refine soup_q ?_ ?_ ?_
                  · rfl
                  · rfl
                  with_reducible apply Exists.intro
                  with_reducible refine ⟨fun W hk _ => ?_, ?_⟩
                  · have q0 := (hk.cell _ HGA.out (by simp)).trans HX1.out
                    unfold Oper.same
                    go_simp
                    first | rfl | exact ⟨rfl, rfl⟩
                  with_reducible apply Exists.intro
                  with_reducible refine ⟨?_, ?_⟩
                  · go_simp
                    rfl
                  refine soup_s rfl rfl rfl (fun W hk _ _ => ?_) ?_
                  · unfold Oper.does
                    go_simp
                    refine (HOC.out W (HKR.out.trans hk)).mono ?_
                    rintro e w' ⟨rfl, hk'⟩
                    exact ⟨_, rfl, hk', hk.trans hk', rfl, trivial⟩
                  intro v hv
                  obtain rfl : v = _ := hv
                  with_reducible apply Exists.intro
                  with_reducible refine ⟨?_, ?_⟩
                  · go_simp
                    rfl
                  with_reducible refine soup_q ?_ ?_ ?_
                  · rfl
                  · rfl
                  with_reducible apply Exists.intro
                  with_reducible refine ⟨fun W hk _ => ?_, ?_⟩
                  · unfold Oper.same
                    go_simp
                    first | rfl | exact ⟨rfl, rfl⟩
                  with_reducible apply Exists.intro
                  with_reducible refine ⟨?_, ?_⟩
                  · go_simp
                    rfl
                  with_reducible refine soup_q ?_ ?_ ?_
                  · rfl
                  · rfl
                  with_reducible apply Exists.intro
                  with_reducible refine ⟨fun W hk _ => ?_, ?_⟩
                  · unfold Oper.same
                    go_simp
                    first | rfl | exact ⟨rfl, rfl⟩
                  with_reducible apply Exists.intro
                  with_reducible refine ⟨?_, ?_⟩
                  · go_simp
                    rfl
                  with_reducible refine soup_q ?_ ?_ ?_
                  · rfl
                  · rfl
                  with_reducible apply Exists.intro
                  with_reducible refine ⟨fun W hk _ => ?_, ?_⟩
                  · unfold Oper.same
                    go_simp
                    first | rfl | exact ⟨rfl, rfl⟩
                  with_reducible apply Exists.intro
                  with_reducible refine ⟨?_, ?_⟩
                  · go_simp
                    rfl
                  with_reducible refine soup_q ?_ ?_ ?_
                  · rfl
                  · rfl
                  with_reducible apply Exists.intro
                  with_reducible refine ⟨fun W hk _ => ?_, ?_⟩
                  · unfold Oper.same
                    go_simp
                    first | rfl | exact ⟨rfl, rfl⟩
                  with_reducible apply Exists.intro
                  with_reducible refine ⟨?_, ?_⟩
                  · go_simp
                    rfl
                  refine soup_nil (fun W24 hk hS => ?_)
                  have HKR := Lib.hid (HKR.out.trans hk)
                  have y2 := (hk.cell _ HGA.out (by simp)).trans HX2.out
                  have y3 := (hk.cell _ HGA.out (by simp)).trans HX3.out
                  have y4 := (hk.cell _ HGA.out (by simp)).trans HX4.out
                  clear hk hS
                  go_wp2_with (fail)
                  go_roundw
                  case rel => exact ⟨j + 1, by go_num, by omega, by rw [HSN.out]; first | rfl | (push_cast; rfl), HKR.out⟩
                  case measure => go_light; simp [intOf]; omega
                · have heo : o = to := by rw [HOV.out]; rw [if_neg hst]
                  have heo2 := heo.symm
                  subst heo2
                  clear heo
                  have hsn : ((movesF C).take (j + 1)).countP (fun y => isL y.s) = t0 + 1 := by
                    rw [cnt_snoc HXJ.out, HT0.out]
                    rw [show isL (⟨⟨mv, (pn : Int), fr, to⟩, ⟨st, dn⟩⟩ : Mo).s = true from by unfold isL; simpa using hst]
                    rfl
                  have HSN := Lib.hid hsn
                  clear hsn
                  have gst : (st == 3) = false := by simpa using hst
                  have gst2 : (st != 3) = true := by simpa using hst
                  clear hst
                  go_wp2_with (fail)
                  refine wp_region_soup 11 [] (spOf [(6, Spec.is (.tuple #[.int .i64 to, .bool true]))]) (by kernel_rfl) (by kernel_rfl) (spOk_of (by simp [Spec.is_ok])) (pre_of (by simp [Spec.is_ok])) ?_
                  simp only [List.take_succ_cons, List.take_zero, List.drop_succ_cons, List.drop_zero]
                  with_reducible refine soup_q ?_ ?_ ?_
                  · rfl
                  · rfl
                  with_reducible apply Exists.intro
                  with_reducible refine ⟨fun W hk _ => ?_, ?_⟩
                  · obtain ⟨z0, z1, z2, z3⟩ := TbFacts ((hk.block _ (lt_of_heap HBR.out) (by simp)).trans HBR.out)
                    unfold Oper.same
                    go_simp
                    first | rfl | exact ⟨rfl, rfl⟩
                  with_reducible apply Exists.intro
                  with_reducible refine ⟨?_, ?_⟩
                  · go_simp
                    rfl
                  with_reducible refine soup_q ?_ ?_ ?_
                  · rfl
                  · rfl
                  with_reducible apply Exists.intro
                  with_reducible refine ⟨fun W hk _ => ?_, ?_⟩
                  · unfold Oper.same
                    go_simp
                    first | rfl | exact ⟨rfl, rfl⟩
                  with_reducible apply Exists.intro
                  with_reducible refine ⟨?_, ?_⟩
                  · go_simp
                    rfl
                  with_reducible refine soup_q ?_ ?_ ?_
                  · rfl
                  · rfl
                  with_reducible apply Exists.intro
                  with_reducible refine ⟨fun W hk _ => ?_, ?_⟩
                  · unfold Oper.same
                    go_simp
                    first | rfl | exact ⟨rfl, rfl⟩
                  with_reducible apply Exists.intro
                  with_reducible refine ⟨?_, ?_⟩
                  · go_simp
                    rfl
                  with_reducible refine soup_q ?_ ?_ ?_
                  · rfl
                  · rfl
                  with_reducible apply Exists.intro
                  with_reducible refine ⟨fun W hk _ => ?_, ?_⟩
                  · unfold Oper.same
                    go_simp
                    first | rfl | exact ⟨rfl, rfl⟩
                  with_reducible apply Exists.intro
                  with_reducible refine ⟨?_, ?_⟩
                  · go_simp
                    rfl
                  with_reducible refine soup_q ?_ ?_ ?_
                  · rfl
                  · rfl
                  with_reducible apply Exists.intro
                  with_reducible refine ⟨fun W hk _ => ?_, ?_⟩
                  · unfold Oper.same
                    go_simp
                    first | rfl | exact ⟨rfl, rfl⟩
                  with_reducible apply Exists.intro
                  with_reducible refine ⟨?_, ?_⟩
                  · go_simp
                    rfl
                  with_reducible refine soup_q ?_ ?_ ?_
                  · rfl
                  · rfl
                  with_reducible apply Exists.intro
                  with_reducible refine ⟨fun W hk _ => ?_, ?_⟩
                  · have q0 := (hk.cell _ HGA.out (by simp)).trans HX1.out
                    unfold Oper.same
                    go_simp
                    first | rfl | exact ⟨rfl, rfl⟩
                  with_reducible apply Exists.intro
                  with_reducible refine ⟨?_, ?_⟩
                  · go_simp
                    rfl
                  refine soup_s rfl rfl rfl (fun W hk _ _ => ?_) ?_
                  · unfold Oper.does
                    go_simp
                    refine (HOC.out W (HKR.out.trans hk)).mono ?_
                    rintro e w' ⟨rfl, hk'⟩
                    exact ⟨_, rfl, hk', hk.trans hk', rfl, trivial⟩
                  intro v hv
                  obtain rfl : v = _ := hv
                  with_reducible apply Exists.intro
                  with_reducible refine ⟨?_, ?_⟩
                  · go_simp
                    rfl
                  with_reducible refine soup_q ?_ ?_ ?_
                  · rfl
                  · rfl
                  with_reducible apply Exists.intro
                  with_reducible refine ⟨fun W hk _ => ?_, ?_⟩
                  · unfold Oper.same
                    go_simp
                    first | rfl | exact ⟨rfl, rfl⟩
                  with_reducible apply Exists.intro
                  with_reducible refine ⟨?_, ?_⟩
                  · go_simp
                    rfl
                  with_reducible refine soup_q ?_ ?_ ?_
                  · rfl
                  · rfl
                  with_reducible apply Exists.intro
                  with_reducible refine ⟨fun W hk _ => ?_, ?_⟩
                  · unfold Oper.same
                    go_simp
                    first | rfl | exact ⟨rfl, rfl⟩
                  with_reducible apply Exists.intro
                  with_reducible refine ⟨?_, ?_⟩
                  · go_simp
                    rfl
                  with_reducible refine soup_q ?_ ?_ ?_
                  · rfl
                  · rfl
                  with_reducible apply Exists.intro
                  with_reducible refine ⟨fun W hk _ => ?_, ?_⟩
                  · unfold Oper.same
                    go_simp
                    first | rfl | exact ⟨rfl, rfl⟩
                  with_reducible apply Exists.intro
                  with_reducible refine ⟨?_, ?_⟩
                  · go_simp
                    rfl
                  with_reducible refine soup_q ?_ ?_ ?_
                  · rfl
                  · rfl
                  with_reducible apply Exists.intro
                  with_reducible refine ⟨fun W hk _ => ?_, ?_⟩
                  · unfold Oper.same
                    go_simp
                    first | rfl | exact ⟨rfl, rfl⟩
                  with_reducible apply Exists.intro
                  with_reducible refine ⟨?_, ?_⟩
                  · go_simp
                    rfl
                  refine soup_nil (fun W24 hk hS => ?_)
                  have HKR := Lib.hid (HKR.out.trans hk)
                  have y2 := (hk.cell _ HGA.out (by simp)).trans HX2.out
                  have y3 := (hk.cell _ HGA.out (by simp)).trans HX3.out
                  have y4 := (hk.cell _ HGA.out (by simp)).trans HX4.out
                  clear hk hS
                  go_wp2_with (fail)
                  go_roundw
                  case rel => exact ⟨j + 1, by go_num, by omega, by rw [HSN.out]; first | rfl | (push_cast; rfl), HKR.out⟩
                  case measure => go_light; simp [intOf]; omega
              · obtain rfl : j = nl := by omega
                have hjn : ¬ (j : Int) < (j : Int) := by omega
                have hct : ((movesF C).take j).countP (fun y => isL y.s) = T := by rw [← HNL.out, List.take_length]; exact HTT.out
                rw [hct]
                have HC := Lib.hid (HC.out.kept hk0)
                have HKW := Lib.hid (HKW.out.trans hk0)
                clear hk0 hct
                go_wp2_with (fail)
                refine (movesS HC.out HI3F.out HI3M.out).mono ?_
                rintro e W25 ⟨v2, rfl, hm2, hk⟩
                have hm0 : movesF C3 = [] := by unfold movesF; rw [HNIL.out]; rfl
                rw [hm0] at hm2
                obtain ⟨zv, zc, rfl, _⟩ := own_shape hm2
                rw [List.length_nil]
                have HKW := Lib.hid (HKW.out.trans hk)
                have ht4 : T ≤ 400 := by omega
                clear hk hm2 hm0
                go_wp2_with (fail)
                go_ret
                exact ⟨rfl, HKW.out.below (Nat.le_refl _) (by simp)⟩
end Go.Proofs.YtdnfibecobodkaaGreat
