/- CoordOnce. -/
import Derived.Test.YtdnfibecobodkaaGreatCgA
import Derived.Test.YtdnfibecobodkaaGreatCgB
import Derived.Test.YtdnfibecobodkaaGreatCdB
namespace Go.Proofs.YtdnfibecobodkaaGreat
open Go.RowKit Go.Lib
set_option linter.unusedSimpArgs false
set_option linter.unusedVariables false
def zAct : Array Value := #[.int .i64 0, .int .i64 0, .int .i64 0, .int .i64 0, .int .u8 0, .int .i64 0, .int .i64 0, .int .i64 0, .int .i64 0, .int .i64 0, .int .i64 0, .int .u64 0, .int .i64 0, .int .i64 0, .int .i64 0, .int .i64 0, .int .u8 0, .string ⟨#[]⟩, .int .i64 0, .int .i64 0, .int .i64 0, .int .i64 0, .int .i64 0, .slice none 0 0, .slice none 0 0, .string ⟨#[]⟩, .int .i64 0, .int .i64 0]
/-- An act goes into new memory. -/
theorem store_act (w : World) {x : Ac} (hx : x.Ok) : ∃ w', (storeVar 60 ⟨w.heap.size, 0, none⟩ (.agg x.cells.toArray)).run Tryz.prog (w.alloc (.cells zAct 60)) = .ok () w' ∧ Keep [] w w' ∧ ActAt w' w.heap.size x x.cells.toArray := by
  have hz : (w.alloc (.cells zAct 60)).heap[w.heap.size]? = some (.cells zAct 60 (0, 0)) := World.alloc_heap_new w _
  have hl := Ac.len hx
  have h1 : x.cells.toArray.all (·.oneCell') = true := by
    have h := hx.1.one
    have hi : ∀ (k : IntKind) (i : Int), (Value.int k i).oneCell' = true := fun _ _ => rfl
    simp [Ac.cells, hi]
    simpa using h
  refine ⟨_, run_storeVar_row (P := Tryz.prog) _ w.heap.size 60 60 _ x.cells.toArray hz (by rw [List.size_toArray]; exact szAct hl) (Eq.trans (show zAct.size = 28 from rfl) (by rw [List.size_toArray, hl])) h1, ?_, ?_⟩
  · exact ((Keep.refl _ _).alloc _).setRow _ _ (.inr (Nat.le_refl _))
  · exact ActAt.of hx (setRow_heap _ w.heap.size _ _ _ _ hz)
set_option maxRecDepth 100000 in
set_option maxHeartbeats 16000000 in
theorem law_CoordOnce (a0 : Int) (w0 : (Lit.int .u8 a0).wf = true) (a1 : Int) (w1 : (Lit.int .u8 a1).wf = true) (b2 : Option Addr) (l2 : List Ac) (e2 : Nat) (W : World) (hA : RowAt AcAt 28 W b2 l2) (hok : ∀ y ∈ l2, y.Ok) : Calls Tryz.prog 7 #[.int .u8 a0, .int .u8 a1, .slice b2 l2.length e2] W fun e w' => e = .returned (.bool true) ∧ Below W.heap.size W w' := by
  obtain ⟨n0, rfl, hn0⟩ : ∃ n : Nat, a0 = n ∧ n < 256 := by
    simp [Lit.wf, IntKind.min, IntKind.max, IntKind.signed, IntKind.bits] at w0
    exact ⟨a0.toNat, by omega, by omega⟩
  obtain ⟨n1, rfl, hn1⟩ : ∃ n : Nat, a1 = n ∧ n < 256 := by
    simp [Lit.wf, IntKind.min, IntKind.max, IntKind.signed, IntKind.bits] at w1
    exact ⟨a1.toNat, by omega, by omega⟩
  clear w0 w1
  have HA := Lib.hid hA
  have HO := Lib.hid hok
  clear hA hok
  go_enter Tryz.func7, Tryz.ntmps7
  go_wp2_with (fail)
  refine (awake_any _).mono ?_
  rintro e W2 ⟨rfl, hB⟩
  have hk2 : Keep [] W W2 := Keep.of_below hB []
  have HA := Lib.hid (RowAt.keep (fun _ _ _ h1 h2 h3 => h3.keep hk2 h1 h2) HA.out hk2 (by simp))
  have HK := Lib.hid hk2
  clear hB hk2
  go_wp2_with (fail)
  refine (great_any e2 HA.out HO.out).mono ?_
  rintro e W3 ⟨b, rfl, hb, hk3⟩
  have HA := Lib.hid (RowAt.keep (fun _ _ _ h1 h2 h3 => h3.keep hk3 h1 h2) HA.out hk3 (by simp))
  have HK := Lib.hid (HK.out.trans hk3)
  clear hk3
  cases b with
  | true =>
    clear hb
    go_wp2_with (fail)
    go_ret
    exact ⟨rfl, HK.out.below (Nat.le_refl _) (by simp)⟩
  | false =>
    have H200 := Lib.hid (hb rfl)
    clear hb
    obtain ⟨n, hn⟩ : ∃ n, 1 + n0 % 4 = n := ⟨_, rfl⟩
    obtain ⟨s, hs⟩ : ∃ s, 1 + n1 % 8 = s := ⟨_, rfl⟩
    have HNB := Lib.hid (show (1 ≤ n ∧ n ≤ 4) ∧ 1 ≤ s ∧ s ≤ 8 from by omega)
    have HE0 := Lib.hid (show 1 + (n0 : Int) % 4 = (n : Int) from by omega)
    have HE1 := Lib.hid (show 1 + (n1 : Int) % 8 = (s : Int) from by omega)
    clear hn hs
    go_wp2_with (fail)
    rw [HE0.out, HE1.out]
    refine (tnew_any W3 HNB.out.1.1 HNB.out.1.2 HNB.out.2.1 HNB.out.2.2).mono ?_
    rintro e W6 ⟨at', ct, rfl, hrt, hk6⟩
    have HA := Lib.hid (RowAt.keep (fun _ _ _ h1 h2 h3 => h3.keep hk6 h1 h2) HA.out hk6 (by simp))
    have HK := Lib.hid (HK.out.trans hk6)
    have HRT := Lib.hid hrt
    have HK06 := Lib.hid HK.out
    have HA06 := Lib.hid HA.out
    clear hk6 hrt
    go_wp2_with (fail)
    obtain ⟨W7, hW7⟩ : ∃ u, W6.alloc (.cells #[.int .i64 1, .int .i64 n, .slice at' s ct] 28) = u := ⟨_, rfl⟩
    have hk7 : Keep [] W6 W7 := by rw [← hW7]; exact (Keep.refl _ _).alloc _
    have HB7 := Lib.hid (show W7.heap[W6.heap.size]? = some (.cells #[.int .i64 1, .int .i64 n, .slice at' s ct] 28 (0, 0)) from by rw [← hW7]; exact World.alloc_heap_new W6 _)
    rw [hW7]
    have HIN := Lib.hid (show IntsAt W7 at' (tnL n s) from IRow.at (base := W3.heap.size) (c := ct) (by rw [tnL_len]; exact HRT.out.keep hk7 (by simp)))
    have HTR := Lib.hid (tn_right HNB.out.1.1 HNB.out.1.2 HNB.out.2.1 HNB.out.2.2 at' ct)
    have HA := Lib.hid (RowAt.keep (fun _ _ _ h1 h2 h3 => h3.keep hk7 h1 h2) HA.out hk7 (by simp))
    have HK := Lib.hid (HK.out.trans hk7)
    have HW7 := Lib.hid HK.out.size
    have HA7 := Lib.hid HA.out
    have HBL7 := Lib.hid (show l2 ≠ [] → ∀ b off, b2 = some ⟨b, off, none⟩ → b < W7.heap.size from fun hne b off e => by
      obtain ⟨b', off', e', h1, _⟩ := HA7.out hne
      rw [e] at e'
      cases e'
      exact h1)
    have HK67 := Lib.hid hk7
    have HW06 := Lib.hid HK06.out.size
    have HIN6 := Lib.hid (show IntsAt W6 at' (tnL n s) from IRow.at (base := W3.heap.size) (c := ct) (by rw [tnL_len]; exact HRT.out))
    have HBL6 := Lib.hid (show l2 ≠ [] → ∀ b off, b2 = some ⟨b, off, none⟩ → b < W6.heap.size from fun hne b off e => by
      obtain ⟨b', off', e', h1, _⟩ := HA06.out hne
      rw [e] at e'
      cases e'
      exact h1)
    clear hk7 hW7 HRT HA7 HA06
    have hnew := newL (w := W7) ⟨1, n, at', ct, tnL n s⟩ HIN.out HTR.out
    unfold Tb.val at hnew
    simp only [tnL_len] at hnew
    refine hnew.mono ?_
    rintro e W8 ⟨p, rfl, ⟨F0, hc0, hF0, _⟩, hk8⟩
    have hc0' : CoS W8 p F0 (cd0 n s) := hc0
    have HC := Lib.hid hc0'
    have HF := Lib.hid (show ∀ x ∈ F0, W7.heap.size ≤ x from fun x hx => (hF0 x hx).1)
    have HK7 := Lib.hid hk8
    have HA := Lib.hid (RowAt.keep (fun _ _ _ h1 h2 h3 => h3.keep hk8 h1 h2) HA.out hk8 (by simp))
    have HK := Lib.hid (HK.out.trans hk8)
    have hk67 := HK67.out
    have HK6 := Lib.hid (hk67.trans HK7.out)
    have HIN8 := Lib.hid (HIN.out.keep HK7.out (by simp))
    have HB8 := Lib.hid ((HK7.out.block _ (lt_of_heap HB7.out) (by simp)).trans HB7.out)
    have HW67 := Lib.hid (lt_of_heap HB7.out)
    have HNF := Lib.hid (show ∀ b off, at' = some ⟨b, off, none⟩ → b ∉ F0 ∧ b ≠ W6.heap.size from fun b off e => by
      have hne : tnL n s ≠ [] := by intro e2; have := tnL_len n s; rw [e2] at this; have := HNB.out.2.1; simp at *; omega
      obtain ⟨b', off', e', hlt, _⟩ := HIN6.out hne
      rw [e] at e'
      cases e'
      exact ⟨fun hm => by have := HF.out _ hm; have := HW67.out; omega, by omega⟩)
    have HI0 := Lib.hid (cd0_inv (s := s) HNB.out.1.1)
    clear hnew hc0 hc0' hF0 hk8 hk67 HTR
    go_wp2_with (fail)
    refine (movesS HC.out (HI0.out.toFine (by omega) HNB.out.1.2 HNB.out.2.2) (HI0.out.toMem (by omega))).mono ?_
    rintro e W9 ⟨wv0, rfl, hmr, hk9⟩
    have HMR := Lib.hid hmr
    have HLTF := Lib.hid (show ∀ g, wv0.ownBlock = some g → g ∉ F0 ∧ W7.heap.size ≤ g from fun g hg => by
      have h1 := own_base hmr g hg
      have h2 := HK7.out.size
      exact ⟨fun hm => by have := HC.out.lt g hm; omega, by omega⟩)
    have HC := Lib.hid (HC.out.kept hk9)
    have HK6 := Lib.hid (HK6.out.trans hk9)
    have HK := Lib.hid (HK.out.trans hk9)
    have HA := Lib.hid (RowAt.keep (fun _ _ _ h1 h2 h3 => h3.keep hk9 h1 h2) HA.out hk9 (by simp))
    have HIN8 := Lib.hid (HIN8.out.keep hk9 (by simp))
    have HB8 := Lib.hid ((hk9.block _ (lt_of_heap HB8.out) (by simp)).trans HB8.out)
    have HBE : Hid (W9.heap[W6.heap.size]? = some (.cells #[.int .i64 (cd0 n s).ep, .int .i64 (cd0 n s).nd, .slice at' (cd0 n s).own.length ct] 28 (0, 0))) := Lib.hid (by show W9.heap[W6.heap.size]? = some (.cells #[.int .i64 1, .int .i64 n, .slice at' (tnL n s).length ct] 28 (0, 0)); rw [tnL_len]; exact HB8.out)
    obtain ⟨av, cv, rfl, _⟩ := own_shape hmr
    have HS9 := Lib.hid (Nat.le_trans HK7.out.size hk9.size)
    clear hmr hk9 HK7
    go_wp2_with (fail)
    go_loopw [11, 12] (fun wv i wr => ∃ (j : Nat) (F : List Nat) (ta : Option Addr) (tc b0 : Nat), i = .int .i64 j ∧ j ≤ l2.length ∧ CoS wr p F (runC (cd0 n s) (l2.take j)) ∧ (∀ x ∈ F, W7.heap.size ≤ x) ∧ Keep [] W6 wr ∧ Keep [] W wr ∧ RowAt AcAt 28 wr b2 l2 ∧ MoRow b0 wr wv (movesF (runC (cd0 n s) (l2.take j))) ∧ (∀ g, wv.ownBlock = some g → g ∉ F ∧ W7.heap.size ≤ g) ∧ wr.heap[W6.heap.size]? = some (.cells #[.int .i64 (runC (cd0 n s) (l2.take j)).ep, .int .i64 (runC (cd0 n s) (l2.take j)).nd, .slice ta (runC (cd0 n s) (l2.take j)).own.length tc] 28 (0, 0)) ∧ IntsAt wr ta (runC (cd0 n s) (l2.take j)).own ∧ (∀ b off, ta = some ⟨b, off, none⟩ → b ∉ F ∧ b ≠ W6.heap.size) ∧ W7.heap.size ≤ wr.heap.size) (fun _ i _ => l2.length - (intOf i).toNat)
    case atStart => exact ⟨0, F0, at', ct, W8.heap.size, rfl, Nat.zero_le _, HC.out, HF.out, HK6.out, HK.out, HA.out, HMR.out, HLTF.out, HBE.out, HIN8.out, HNF.out, HS9.out⟩
    case round =>
      obtain ⟨j, F, ta, tc, b0, rfl, hj, hc, hF, hk6, hkw, hA, hmr, hnw, hbt, hti, hnt, hs7⟩ := hrel
      obtain ⟨Wr, hWr⟩ : ∃ u, u = wr := ⟨_, rfl⟩
      subst hWr
      have h0j : (0 : Int) ≤ (j : Int) := Int.natCast_nonneg j
      have hinv : CdInv n s 200 (runC (cd0 n s) (l2.take j)) := inv_take HNB.out.1.1 H200.out j
      clear HC HF HK6 HK HA HMR HLTF HBE HIN8 HNF HB8 HI0 HS9
      obtain ⟨av', cv', rfl, _⟩ := own_shape hmr
      have HC := Lib.hid hc
      have HF := Lib.hid hF
      have HK6 := Lib.hid hk6
      have HKW := Lib.hid hkw
      have HA := Lib.hid hA
      have HMR := Lib.hid hmr
      have HNW := Lib.hid hnw
      have HBT := Lib.hid hbt
      have HTI := Lib.hid hti
      have HNT := Lib.hid hnt
      have HSZ7 := Lib.hid hs7
      have HI := Lib.hid hinv
      clear hc hF hk6 hkw hA hmr hnw hbt hti hnt hs7 hinv
      have h200 : l2.length ≤ 200 := H200.out
      by_cases hlt : j < l2.length
      · have hjn : (j : Int) < (l2.length : Int) := by omega
        have hne : l2 ≠ [] := by intro e; rw [e] at hlt; simp at hlt
        obtain ⟨b, off, rfl, hbl, hat⟩ := HA.out hne
        obtain ⟨x, hxl⟩ : ∃ x, l2[j]? = some x := ⟨l2[j], List.getElem?_eq_getElem hlt⟩
        have hx := hat j x hxl
        have hxo := HO.out x (List.mem_of_getElem? hxl)
        have htk : runC (cd0 n s) (l2.take (j + 1)) = (oneF (runC (cd0 n s) (l2.take j)) x).2 := by
          rw [List.take_add_one, hxl]
          exact runC_snoc _ _ _
        obtain ⟨C, hC⟩ : ∃ C, runC (cd0 n s) (l2.take j) = C := ⟨_, rfl⟩
        rw [hC] at htk HC HI HMR HNW HBT HTI ⊢
        obtain ⟨C2, hC2⟩ : ∃ C2, (oneF C x).2 = C2 := ⟨_, rfl⟩
        have HW2 : Hid (Went C C2) := Lib.hid (hC2 ▸ Went.one HI.out x)
        have HI2 : Hid (CdInv n s 201 C2) := Lib.hid (hC2 ▸ HI.out.one x)
        rw [hC2] at htk
        have HTK := Lib.hid htk
        have HFI := Lib.hid (HI.out.toFine (by omega) HNB.out.1.2 HNB.out.2.2)
        have HME := Lib.hid (HI.out.toMem (by omega))
        have HFI2 := Lib.hid (HI2.out.toFine (by omega) HNB.out.1.2 HNB.out.2.2)
        have HME2 := Lib.hid (HI2.out.toMem (by omega))
        have HGO := Lib.hid (goes_pure HI.out HI2.out HW2.out (by omega))
        have HBL := Lib.hid (HBL7.out hne b off rfl)
        have HBLb := Lib.hid (HBL6.out hne b off rfl)
        have HSA := Lib.hid (szAct (Ac.len hxo))
        obtain ⟨W1, hst, hk1, ha1⟩ := store_act Wr hxo
        unfold zAct at hst
        have HSAY := Lib.hid (fun (W : World) (base : Nat) (v : Value) (hv : MoRow base W v (movesF C)) => says_any hxo hv (by have := moves_len HFI.out; omega))
        have HSW := Lib.hid (saysF_w hxo (movesF C))
        obtain ⟨sy, hsy⟩ : ∃ sy, saysF x (movesF C) = sy := ⟨_, rfl⟩
        rw [hsy] at HSAY HSW
        have hof : oneF C x = if x.dd = 0 then (((coOrd C x.part x.to).1, (coOrd C x.part x.to).2.1, false), (coOrd C x.part x.to).2.2) else if x.dd = 1 then ((0, (coAbort C x.part).1, false), (coAbort C x.part).2) else if x.dd = 2 ∨ x.dd = 4 then ((0, 0, (coHandle C sy.fr sy.k sy.mv sy.pt sy.cd).1), (coHandle C sy.fr sy.k sy.mv sy.pt sy.cd).2) else ((0, 0, false), C) := by unfold oneF; rw [hsy]
        unfold AcAt at hx
        obtain ⟨cl, hcl⟩ : ∃ cl, x.cells = cl := ⟨_, rfl⟩
        rw [hcl] at HSA HSAY hx hst ha1
        have HX := Lib.hid hx
        obtain ⟨cs, hcs⟩ : ∃ cs, cl.toArray = cs := ⟨_, rfl⟩
        rw [hcs] at hst ha1
        have HSC : Hid ((Tryz.prog.info? 60).map (·.size) = some cs.size) := Lib.hid (by rw [← hcs, List.size_toArray]; exact HSA.out)
        have HCS := Lib.hid hcs
        have HST := Lib.hid hst
        have HAT := Lib.hid ha1
        have HK1 := Lib.hid hk1
        obtain ⟨dd, part, to, fr, ms, kk, mv, pt, cd, wh, code⟩ := x
        simp only at hof
        obtain ⟨a0, a1, a2⟩ : _ ∧ _ ∧ _ := ⟨HAT.out.c0, HAT.out.c1, HAT.out.c2⟩
        simp only at a0 a1 a2
        clear hat hxl hxo htk hC hcl hx hne hst hk1 ha1 hsy hcs hbl
        have HOF := Lib.hid hof
        have HC2 := Lib.hid hC2
        clear hof hC2
        by_cases hd0 : dd = 0
        · have hr : C2 = (coOrd C part to).2.2 := by rw [← HC2.out, HOF.out, if_pos hd0]
          have HR := Lib.hid hr
          subst hd0
          clear hr
          go_wp2_with (first | ((with_reducible refine wpList_load_mid ?_ 60 (.tmp 55) ?_ b (off + j * 28) ?_ cl _ HX.out Tryz.underlying60 ?_ HSA.out ?_); rfl; rfl; rfl; rfl) | ((with_reducible refine wpList_store_all ?_ 60 (.tmp 13) (.tmp 56) ?_ Wr.heap.size ?_ cs ?_ HST.out ?_); rfl; rfl; rfl; exact congrArg Value.agg HCS.out))
          refine (ordS (HC.out.kept HK1.out) HME.out HI.out.last.1 part to).mono ?_
          rintro e Wx ⟨rfl, hn⟩
          have hn : CoN Wr p F Wx C2 := by rw [HR.out]; exact CoN.from HK1.out hn
          obtain ⟨F', hc', hk', hup⟩ := hn
          have hmr := MoRow.keep HMR.out hk' (fun g hg => (HNW.out g hg).1)
          have hbt := (hk'.block _ (lt_of_heap HBT.out) (fun hm => by have := HF.out _ hm; have := HW67.out; omega)).trans HBT.out
          have hti := HTI.out.keep hk' (fun _ b off e => (HNT.out b off e).1)
          have HF' := Lib.hid (show ∀ y ∈ F', W7.heap.size ≤ y from fun y hy => by
            rcases hup y hy with h | h
            · exact HF.out y h
            · exact Nat.le_trans HSZ7.out h)
          have HC' := Lib.hid hc'
          have HK6' := Lib.hid (HK6.out.step hk' (fun y hy => .inr (Nat.le_trans (Nat.le_of_lt HW67.out) (HF.out y hy))))
          have HKW' := Lib.hid (HKW.out.step hk' (fun y hy => .inr (Nat.le_trans HW7.out (HF.out y hy))))
          have HA' := Lib.hid (show RowAt AcAt 28 Wx (some ⟨b, off, none⟩) l2 from RowAt.keep (fun _ _ _ h1 h2 h3 => h3.keep hk' h1 h2) HA.out hk' (fun hne b' off' e => by
            cases e
            intro hm
            have := HF.out _ hm
            have := HBL.out
            omega))
          have HMR' := Lib.hid hmr
          have HBT' := Lib.hid hbt
          have HTI' := Lib.hid hti
          have HSX := Lib.hid (Nat.le_trans HSZ7.out hk'.size)
          clear hc' hk' hup hmr hbt hti HST HAT HSC HX
          go_wp2_with (fail)
          refine (movesS HC'.out HFI2.out HME2.out).mono ?_
          rintro e W20 ⟨nv, rfl, hnr, hk20⟩
          obtain ⟨an, cn, rfl, _⟩ := own_shape hnr
          have HNR := Lib.hid hnr
          have HNB2 := Lib.hid (show ∀ g, (Value.slice an (movesF C2).length cn).ownBlock = some g → g ∉ F' ∧ W7.heap.size ≤ g from fun g hg => by
            have h1 := own_base hnr g hg
            exact ⟨fun hm => by have := HC'.out.lt g hm; omega, Nat.le_trans HSX.out h1⟩)
          have HKX := Lib.hid hk20
          clear hnr hk20
          go_wp2_with (fail)
          refine (tableS (HC'.out.kept HKX.out) HFI2.out).mono ?_
          rintro e W21 ⟨ua, uc, rfl, hur, hk21⟩
          have HUR := Lib.hid hur
          have HNR := Lib.hid (MoRow.keep HNR.out hk21 (by simp))
          have HUB := Lib.hid (show ∀ b off, ua = some ⟨b, off, none⟩ → b ∉ F' ∧ b ≠ W6.heap.size from fun b off e => by
            have h1 : W20.heap.size ≤ b := by
              have hne : C2.own ≠ [] := by intro e2; have := HI2.out.len; rw [e2] at this; have := HNB.out.2.1; simp at *; omega
              obtain ⟨b', off', e', _, _⟩ := hur.at hne
              have h2 := own_base hur b' (by rw [e']; rfl)
              rw [e] at e'
              cases e'
              exact h2
            have h3 := HKX.out.size
            have h4 := HSX.out
            have h5 := HW67.out
            exact ⟨fun hm => by have := HC'.out.lt b hm; omega, by omega⟩)
          have HKX := Lib.hid (HKX.out.trans hk21)
          clear hur hk21
          go_upto_region 25 with (fail)
          obtain ⟨W22, hW22⟩ : ∃ u, W21.alloc (.cells #[.int .i64 C2.ep, .int .i64 C2.nd, .slice ua C2.own.length uc] 28) = u := ⟨_, rfl⟩
          have hk22 : Keep [] W21 W22 := by rw [← hW22]; exact (Keep.refl _ _).alloc _
          have HBU := Lib.hid (show W22.heap[W21.heap.size]? = some (.cells #[.int .i64 C2.ep, .int .i64 C2.nd, .slice ua C2.own.length uc] 28 (0, 0)) from by rw [← hW22]; exact World.alloc_heap_new W21 _)
          rw [hW22]
          have HUR := Lib.hid (HUR.out.keep hk22 (by simp))
          have HNR := Lib.hid (MoRow.keep HNR.out hk22 (by simp))
          have HKX := Lib.hid (HKX.out.trans hk22)
          clear hk22 hW22
          have HMRX := Lib.hid (MoRow.keep HMR'.out HKX.out (by simp))
          have HTIX := Lib.hid (HTI'.out.keep HKX.out (by simp))
          have HBTX := Lib.hid ((HKX.out.block _ (lt_of_heap HBT'.out) (by simp)).trans HBT'.out)
          have hgo := goes_any HMRX.out HNR.out tc uc (nd := C.nd) (nd' := C2.nd) HTIX.out HUR.out.at HGO.out (HI.out.right HNB.out.1 HNB.out.2 ta tc) (HI2.out.right HNB.out.1 HNB.out.2 ua uc)
          have HGOES := Lib.hid hgo
          obtain ⟨d0, d1, d2, d3⟩ := TbFacts HBTX.out
          obtain ⟨f0, f1, f2, f3⟩ := TbFacts HBU.out
          clear hgo
          go_wp2_with (fail)
          refine HGOES.out.mono ?_
          rintro e W23 ⟨rfl, hk23⟩
          have HKX := Lib.hid (HKX.out.trans hk23)
          have HNR := Lib.hid (MoRow.keep HNR.out hk23 (by simp))
          have HUR := Lib.hid (HUR.out.keep hk23 (by simp))
          have HBU := Lib.hid ((hk23.block _ (lt_of_heap HBU.out) (by simp)).trans HBU.out)
          have HTELL := Lib.hid (tells_any (HC'.out.kept HKX.out) HI2.out (by omega) HNB.out.1.2 HNB.out.2.2 HNR.out HUR.out)
          clear hk23 d0 d1 d2 d3 f0 f1 f2 f3
          obtain ⟨f0, f1, f2, f3⟩ := TbFacts HBU.out
          go_wp2_with (fail)
          refine HTELL.out.mono ?_
          rintro e W24 ⟨rfl, hk24⟩
          have HKX := Lib.hid (HKX.out.trans hk24)
          have HNR := Lib.hid (MoRow.keep HNR.out hk24 (by simp))
          have HUR := Lib.hid (HUR.out.keep hk24 (by simp))
          have HBU := Lib.hid ((hk24.block _ (lt_of_heap HBU.out) (by simp)).trans HBU.out)
          have HBTX := Lib.hid ((HKX.out.block _ (lt_of_heap HBT'.out) (by simp)).trans HBT'.out)
          clear hk24 f0 f1 f2 f3
          obtain ⟨d0, d1, d2, d3⟩ := TbFacts HBTX.out
          obtain ⟨f0, f1, f2, f3⟩ := TbFacts HBU.out
          go_wp2_with (fail)
          obtain ⟨W25, hW25⟩ : ∃ u, (((W24.setCell ⟨W6.heap.size, 0, none⟩ (.int .i64 C2.ep)).setCell ⟨W6.heap.size, 1, none⟩ (.int .i64 C2.nd)).setCell ⟨W6.heap.size, 2, none⟩ (.slice ua C2.own.length uc)) = u := ⟨_, rfl⟩
          have hk25 : Keep [W6.heap.size] W24 W25 := by
            rw [← hW25]
            exact (((Keep.refl _ _).setCell _ _ _ (.inl (by simp))).setCell _ _ _ (.inl (by simp))).setCell _ _ _ (.inl (by simp))
          have HBZ := Lib.hid (show W25.heap[W6.heap.size]? = some (.cells #[.int .i64 C2.ep, .int .i64 C2.nd, .slice ua C2.own.length uc] 28 (0, 0)) from by
            have h := HBTX.out
            rw [← hW25]
            simp [World.setCell, Array.getElem?_modify, h])
          rw [hW25]
          have hc7 := (HC'.out.kept HKX.out).keep hk25 (fun y hy hm => by have h1 := HF'.out y hy; have h2 := HW67.out; simp at hm; omega)
          have hrel := And.intro hc7 (And.intro ((HK6'.out.trans HKX.out).step hk25 (by simp)) (And.intro ((HKW'.out.trans HKX.out).step hk25 (by simp; exact HW06.out)) (And.intro
            (RowAt.keep (fun _ _ _ h1 h2 h3 => h3.keep hk25 h1 h2) (RowAt.keep (fun _ _ _ h1 h2 h3 => h3.keep HKX.out h1 h2) HA'.out HKX.out (by simp)) hk25 (fun hne b' off' e => by
              cases e
              have := HBLb.out
              simp
              omega))
            (And.intro (MoRow.keep HNR.out hk25 (fun g hg => by have h1 := (HNB2.out g hg).2; have h2 := HW67.out; simp; omega))
              (HUR.out.at.keep hk25 (fun _ b off e => by simpa using (HUB.out b off e).2))))))
          have HREL := Lib.hid hrel
          have HSE := Lib.hid (Nat.le_trans (Nat.le_trans HSX.out HKX.out.size) hk25.size)
          clear hc7 hrel hk25 hW25 d0 d1 d2 d3 f0 f1 f2 f3
          go_roundw
          case rel => exact ⟨j + 1, F', ua, uc, _, by go_num, by omega, by rw [HTK.out]; exact HREL.out.1, HF'.out, HREL.out.2.1, HREL.out.2.2.1, HREL.out.2.2.2.1, by rw [HTK.out]; exact HREL.out.2.2.2.2.1, HNB2.out, by rw [HTK.out]; exact HBZ.out, by rw [HTK.out]; exact HREL.out.2.2.2.2.2, HUB.out, HSE.out⟩
          case measure => go_light; simp [intOf]; omega
        · have h0 : ((dd : Int) == 0) = false := by simpa using hd0
          by_cases hd1 : dd = 1
          · have hr : C2 = (coAbort C part).2 := by rw [← HC2.out, HOF.out, if_neg hd0, if_pos hd1]
            have HR := Lib.hid hr
            subst hd1
            clear hr hd0 h0
            go_wp2_with (first | ((with_reducible refine wpList_load_mid ?_ 60 (.tmp 55) ?_ b (off + j * 28) ?_ cl _ HX.out Tryz.underlying60 ?_ HSA.out ?_); rfl; rfl; rfl; rfl) | ((with_reducible refine wpList_store_all ?_ 60 (.tmp 13) (.tmp 56) ?_ Wr.heap.size ?_ cs ?_ HST.out ?_); rfl; rfl; rfl; exact congrArg Value.agg HCS.out))
            refine (abortS (HC.out.kept HK1.out) HME.out part).mono ?_
            rintro e Wx ⟨rfl, hn⟩
            have hn : CoN Wr p F Wx C2 := by rw [HR.out]; exact CoN.from HK1.out hn
            obtain ⟨F', hc', hk', hup⟩ := hn
            have hmr := MoRow.keep HMR.out hk' (fun g hg => (HNW.out g hg).1)
            have hbt := (hk'.block _ (lt_of_heap HBT.out) (fun hm => by have := HF.out _ hm; have := HW67.out; omega)).trans HBT.out
            have hti := HTI.out.keep hk' (fun _ b off e => (HNT.out b off e).1)
            have HF' := Lib.hid (show ∀ y ∈ F', W7.heap.size ≤ y from fun y hy => by
              rcases hup y hy with h | h
              · exact HF.out y h
              · exact Nat.le_trans HSZ7.out h)
            have HC' := Lib.hid hc'
            have HK6' := Lib.hid (HK6.out.step hk' (fun y hy => .inr (Nat.le_trans (Nat.le_of_lt HW67.out) (HF.out y hy))))
            have HKW' := Lib.hid (HKW.out.step hk' (fun y hy => .inr (Nat.le_trans HW7.out (HF.out y hy))))
            have HA' := Lib.hid (show RowAt AcAt 28 Wx (some ⟨b, off, none⟩) l2 from RowAt.keep (fun _ _ _ h1 h2 h3 => h3.keep hk' h1 h2) HA.out hk' (fun hne b' off' e => by
              cases e
              intro hm
              have := HF.out _ hm
              have := HBL.out
              omega))
            have HMR' := Lib.hid hmr
            have HBT' := Lib.hid hbt
            have HTI' := Lib.hid hti
            have HSX := Lib.hid (Nat.le_trans HSZ7.out hk'.size)
            clear hc' hk' hup hmr hbt hti HST HAT HSC HX
            go_wp2_with (fail)
            refine (movesS HC'.out HFI2.out HME2.out).mono ?_
            rintro e W20 ⟨nv, rfl, hnr, hk20⟩
            obtain ⟨an, cn, rfl, _⟩ := own_shape hnr
            have HNR := Lib.hid hnr
            have HNB2 := Lib.hid (show ∀ g, (Value.slice an (movesF C2).length cn).ownBlock = some g → g ∉ F' ∧ W7.heap.size ≤ g from fun g hg => by
              have h1 := own_base hnr g hg
              exact ⟨fun hm => by have := HC'.out.lt g hm; omega, Nat.le_trans HSX.out h1⟩)
            have HKX := Lib.hid hk20
            clear hnr hk20
            go_wp2_with (fail)
            refine (tableS (HC'.out.kept HKX.out) HFI2.out).mono ?_
            rintro e W21 ⟨ua, uc, rfl, hur, hk21⟩
            have HUR := Lib.hid hur
            have HNR := Lib.hid (MoRow.keep HNR.out hk21 (by simp))
            have HUB := Lib.hid (show ∀ b off, ua = some ⟨b, off, none⟩ → b ∉ F' ∧ b ≠ W6.heap.size from fun b off e => by
              have h1 : W20.heap.size ≤ b := by
                have hne : C2.own ≠ [] := by intro e2; have := HI2.out.len; rw [e2] at this; have := HNB.out.2.1; simp at *; omega
                obtain ⟨b', off', e', _, _⟩ := hur.at hne
                have h2 := own_base hur b' (by rw [e']; rfl)
                rw [e] at e'
                cases e'
                exact h2
              have h3 := HKX.out.size
              have h4 := HSX.out
              have h5 := HW67.out
              exact ⟨fun hm => by have := HC'.out.lt b hm; omega, by omega⟩)
            have HKX := Lib.hid (HKX.out.trans hk21)
            clear hur hk21
            go_upto_region 25 with (fail)
            obtain ⟨W22, hW22⟩ : ∃ u, W21.alloc (.cells #[.int .i64 C2.ep, .int .i64 C2.nd, .slice ua C2.own.length uc] 28) = u := ⟨_, rfl⟩
            have hk22 : Keep [] W21 W22 := by rw [← hW22]; exact (Keep.refl _ _).alloc _
            have HBU := Lib.hid (show W22.heap[W21.heap.size]? = some (.cells #[.int .i64 C2.ep, .int .i64 C2.nd, .slice ua C2.own.length uc] 28 (0, 0)) from by rw [← hW22]; exact World.alloc_heap_new W21 _)
            rw [hW22]
            have HUR := Lib.hid (HUR.out.keep hk22 (by simp))
            have HNR := Lib.hid (MoRow.keep HNR.out hk22 (by simp))
            have HKX := Lib.hid (HKX.out.trans hk22)
            clear hk22 hW22
            have HMRX := Lib.hid (MoRow.keep HMR'.out HKX.out (by simp))
            have HTIX := Lib.hid (HTI'.out.keep HKX.out (by simp))
            have HBTX := Lib.hid ((HKX.out.block _ (lt_of_heap HBT'.out) (by simp)).trans HBT'.out)
            have hgo := goes_any HMRX.out HNR.out tc uc (nd := C.nd) (nd' := C2.nd) HTIX.out HUR.out.at HGO.out (HI.out.right HNB.out.1 HNB.out.2 ta tc) (HI2.out.right HNB.out.1 HNB.out.2 ua uc)
            have HGOES := Lib.hid hgo
            obtain ⟨d0, d1, d2, d3⟩ := TbFacts HBTX.out
            obtain ⟨f0, f1, f2, f3⟩ := TbFacts HBU.out
            clear hgo
            go_wp2_with (fail)
            refine HGOES.out.mono ?_
            rintro e W23 ⟨rfl, hk23⟩
            have HKX := Lib.hid (HKX.out.trans hk23)
            have HNR := Lib.hid (MoRow.keep HNR.out hk23 (by simp))
            have HUR := Lib.hid (HUR.out.keep hk23 (by simp))
            have HBU := Lib.hid ((hk23.block _ (lt_of_heap HBU.out) (by simp)).trans HBU.out)
            have HTELL := Lib.hid (tells_any (HC'.out.kept HKX.out) HI2.out (by omega) HNB.out.1.2 HNB.out.2.2 HNR.out HUR.out)
            clear hk23 d0 d1 d2 d3 f0 f1 f2 f3
            obtain ⟨f0, f1, f2, f3⟩ := TbFacts HBU.out
            go_wp2_with (fail)
            refine HTELL.out.mono ?_
            rintro e W24 ⟨rfl, hk24⟩
            have HKX := Lib.hid (HKX.out.trans hk24)
            have HNR := Lib.hid (MoRow.keep HNR.out hk24 (by simp))
            have HUR := Lib.hid (HUR.out.keep hk24 (by simp))
            have HBU := Lib.hid ((hk24.block _ (lt_of_heap HBU.out) (by simp)).trans HBU.out)
            have HBTX := Lib.hid ((HKX.out.block _ (lt_of_heap HBT'.out) (by simp)).trans HBT'.out)
            clear hk24 f0 f1 f2 f3
            obtain ⟨d0, d1, d2, d3⟩ := TbFacts HBTX.out
            obtain ⟨f0, f1, f2, f3⟩ := TbFacts HBU.out
            go_wp2_with (fail)
            obtain ⟨W25, hW25⟩ : ∃ u, (((W24.setCell ⟨W6.heap.size, 0, none⟩ (.int .i64 C2.ep)).setCell ⟨W6.heap.size, 1, none⟩ (.int .i64 C2.nd)).setCell ⟨W6.heap.size, 2, none⟩ (.slice ua C2.own.length uc)) = u := ⟨_, rfl⟩
            have hk25 : Keep [W6.heap.size] W24 W25 := by
              rw [← hW25]
              exact (((Keep.refl _ _).setCell _ _ _ (.inl (by simp))).setCell _ _ _ (.inl (by simp))).setCell _ _ _ (.inl (by simp))
            have HBZ := Lib.hid (show W25.heap[W6.heap.size]? = some (.cells #[.int .i64 C2.ep, .int .i64 C2.nd, .slice ua C2.own.length uc] 28 (0, 0)) from by
              have h := HBTX.out
              rw [← hW25]
              simp [World.setCell, Array.getElem?_modify, h])
            rw [hW25]
            have hc7 := (HC'.out.kept HKX.out).keep hk25 (fun y hy hm => by have h1 := HF'.out y hy; have h2 := HW67.out; simp at hm; omega)
            have hrel := And.intro hc7 (And.intro ((HK6'.out.trans HKX.out).step hk25 (by simp)) (And.intro ((HKW'.out.trans HKX.out).step hk25 (by simp; exact HW06.out)) (And.intro
              (RowAt.keep (fun _ _ _ h1 h2 h3 => h3.keep hk25 h1 h2) (RowAt.keep (fun _ _ _ h1 h2 h3 => h3.keep HKX.out h1 h2) HA'.out HKX.out (by simp)) hk25 (fun hne b' off' e => by
                cases e
                have := HBLb.out
                simp
                omega))
              (And.intro (MoRow.keep HNR.out hk25 (fun g hg => by have h1 := (HNB2.out g hg).2; have h2 := HW67.out; simp; omega))
                (HUR.out.at.keep hk25 (fun _ b off e => by simpa using (HUB.out b off e).2))))))
            have HREL := Lib.hid hrel
            have HSE := Lib.hid (Nat.le_trans (Nat.le_trans HSX.out HKX.out.size) hk25.size)
            clear hc7 hrel hk25 hW25 d0 d1 d2 d3 f0 f1 f2 f3
            go_roundw
            case rel => exact ⟨j + 1, F', ua, uc, _, by go_num, by omega, by rw [HTK.out]; exact HREL.out.1, HF'.out, HREL.out.2.1, HREL.out.2.2.1, HREL.out.2.2.2.1, by rw [HTK.out]; exact HREL.out.2.2.2.2.1, HNB2.out, by rw [HTK.out]; exact HBZ.out, by rw [HTK.out]; exact HREL.out.2.2.2.2.2, HUB.out, HSE.out⟩
            case measure => go_light; simp [intOf]; omega
          · have h1 : ((dd : Int) == 1) = false := by simpa using hd1
            by_cases hd2 : dd = 2
            · have hr : C2 = (coHandle C sy.fr sy.k sy.mv sy.pt sy.cd).2 := by rw [← HC2.out, HOF.out, if_neg hd0, if_neg hd1, if_pos (.inl hd2)]
              have HR := Lib.hid hr
              subst hd2
              clear hr hd0 hd1 h0 h1
              go_wp2_with (first | ((with_reducible refine wpList_load_mid ?_ 60 (.tmp 55) ?_ b (off + j * 28) ?_ cl _ HX.out Tryz.underlying60 ?_ HSA.out ?_); rfl; rfl; rfl; rfl) | ((with_reducible refine wpList_store_all ?_ 60 (.tmp 13) (.tmp 56) ?_ Wr.heap.size ?_ cs ?_ HST.out ?_); rfl; rfl; rfl; exact congrArg Value.agg HCS.out) | ((with_reducible refine wpList_load_row ?_ 60 (.tmp 13) ?_ Wr.heap.size ?_ 60 cs (0, 0) _ HAT.out.blk Tryz.underlying60 ?_ HSC.out ?_); rfl; rfl; rfl; rfl))
              have hsay := HSAY.out W1 b0 _ (MoRow.keep HMR.out HK1.out (by simp))
              rw [HCS.out] at hsay
              refine hsay.mono ?_
              rintro e W2 ⟨rfl, hk2⟩
              obtain ⟨W3, hst3, hk3, hb3⟩ := store_msg3 W2 (cs := sy.ms.toArray) (by rw [List.size_toArray, HSW.out.len]) (by simpa using HSW.out.one)
              unfold zMsg at hst3
              have HST3 := Lib.hid hst3
              have HB3 : Hid (W3.heap[W2.heap.size]? = some (.cells sy.ms.toArray 40 (0, 0))) := Lib.hid hb3
              have HSY3 : Hid ((Tryz.prog.info? 40).map (·.size) = some sy.ms.toArray.size) := Lib.hid (szMsgA HSW.out.len)
              have HK1 := Lib.hid ((HK1.out.trans hk2).trans hk3)
              obtain ⟨mc, hmc⟩ : ∃ mc, sy.ms.toArray = mc := ⟨_, rfl⟩
              have HMC := Lib.hid hmc
              rw [hmc] at HST3 HB3 HSY3 ⊢
              clear hk2 hk3 hst3 hb3 hsay hmc
              go_wp2_with (first | ((with_reducible refine wpList_store_all ?_ 40 (.tmp 15) (.tmp 81) ?_ W2.heap.size ?_ mc ?_ HST3.out ?_); rfl; rfl; rfl; rfl) | ((with_reducible refine wpList_load_row ?_ 40 (.tmp 15) ?_ W2.heap.size ?_ 40 mc (0, 0) _ HB3.out Tryz.underlying40 ?_ HSY3.out ?_); rfl; rfl; rfl; rfl))
              refine (handleS (HC.out.kept HK1.out) HME.out mc (by rw [← HMC.out, List.size_toArray, HSW.out.len]) sy.fr sy.k sy.mv sy.pt sy.cd (by rw [← HMC.out]; simpa using HSW.out.c0) (by rw [← HMC.out]; simpa using HSW.out.c1) (by rw [← HMC.out]; simpa using HSW.out.c2) (by rw [← HMC.out]; simpa using HSW.out.c6)).mono ?_
              rintro e Wx ⟨rfl, hn⟩
              have hn : CoN Wr p F Wx C2 := by rw [HR.out]; exact CoN.from HK1.out hn
              obtain ⟨F', hc', hk', hup⟩ := hn
              have hmr := MoRow.keep HMR.out hk' (fun g hg => (HNW.out g hg).1)
              have hbt := (hk'.block _ (lt_of_heap HBT.out) (fun hm => by have := HF.out _ hm; have := HW67.out; omega)).trans HBT.out
              have hti := HTI.out.keep hk' (fun _ b off e => (HNT.out b off e).1)
              have HF' := Lib.hid (show ∀ y ∈ F', W7.heap.size ≤ y from fun y hy => by
                rcases hup y hy with h | h
                · exact HF.out y h
                · exact Nat.le_trans HSZ7.out h)
              have HC' := Lib.hid hc'
              have HK6' := Lib.hid (HK6.out.step hk' (fun y hy => .inr (Nat.le_trans (Nat.le_of_lt HW67.out) (HF.out y hy))))
              have HKW' := Lib.hid (HKW.out.step hk' (fun y hy => .inr (Nat.le_trans HW7.out (HF.out y hy))))
              have HA' := Lib.hid (show RowAt AcAt 28 Wx (some ⟨b, off, none⟩) l2 from RowAt.keep (fun _ _ _ h1 h2 h3 => h3.keep hk' h1 h2) HA.out hk' (fun hne b' off' e => by
                cases e
                intro hm
                have := HF.out _ hm
                have := HBL.out
                omega))
              have HMR' := Lib.hid hmr
              have HBT' := Lib.hid hbt
              have HTI' := Lib.hid hti
              have HSX := Lib.hid (Nat.le_trans HSZ7.out hk'.size)
              clear hc' hk' hup hmr hbt hti HST HAT HSC HX
              go_wp2_with (fail)
              refine (movesS HC'.out HFI2.out HME2.out).mono ?_
              rintro e W20 ⟨nv, rfl, hnr, hk20⟩
              obtain ⟨an, cn, rfl, _⟩ := own_shape hnr
              have HNR := Lib.hid hnr
              have HNB2 := Lib.hid (show ∀ g, (Value.slice an (movesF C2).length cn).ownBlock = some g → g ∉ F' ∧ W7.heap.size ≤ g from fun g hg => by
                have h1 := own_base hnr g hg
                exact ⟨fun hm => by have := HC'.out.lt g hm; omega, Nat.le_trans HSX.out h1⟩)
              have HKX := Lib.hid hk20
              clear hnr hk20
              go_wp2_with (fail)
              refine (tableS (HC'.out.kept HKX.out) HFI2.out).mono ?_
              rintro e W21 ⟨ua, uc, rfl, hur, hk21⟩
              have HUR := Lib.hid hur
              have HNR := Lib.hid (MoRow.keep HNR.out hk21 (by simp))
              have HUB := Lib.hid (show ∀ b off, ua = some ⟨b, off, none⟩ → b ∉ F' ∧ b ≠ W6.heap.size from fun b off e => by
                have h1 : W20.heap.size ≤ b := by
                  have hne : C2.own ≠ [] := by intro e2; have := HI2.out.len; rw [e2] at this; have := HNB.out.2.1; simp at *; omega
                  obtain ⟨b', off', e', _, _⟩ := hur.at hne
                  have h2 := own_base hur b' (by rw [e']; rfl)
                  rw [e] at e'
                  cases e'
                  exact h2
                have h3 := HKX.out.size
                have h4 := HSX.out
                have h5 := HW67.out
                exact ⟨fun hm => by have := HC'.out.lt b hm; omega, by omega⟩)
              have HKX := Lib.hid (HKX.out.trans hk21)
              clear hur hk21
              go_upto_region 25 with (fail)
              obtain ⟨W22, hW22⟩ : ∃ u, W21.alloc (.cells #[.int .i64 C2.ep, .int .i64 C2.nd, .slice ua C2.own.length uc] 28) = u := ⟨_, rfl⟩
              have hk22 : Keep [] W21 W22 := by rw [← hW22]; exact (Keep.refl _ _).alloc _
              have HBU := Lib.hid (show W22.heap[W21.heap.size]? = some (.cells #[.int .i64 C2.ep, .int .i64 C2.nd, .slice ua C2.own.length uc] 28 (0, 0)) from by rw [← hW22]; exact World.alloc_heap_new W21 _)
              rw [hW22]
              have HUR := Lib.hid (HUR.out.keep hk22 (by simp))
              have HNR := Lib.hid (MoRow.keep HNR.out hk22 (by simp))
              have HKX := Lib.hid (HKX.out.trans hk22)
              clear hk22 hW22
              have HMRX := Lib.hid (MoRow.keep HMR'.out HKX.out (by simp))
              have HTIX := Lib.hid (HTI'.out.keep HKX.out (by simp))
              have HBTX := Lib.hid ((HKX.out.block _ (lt_of_heap HBT'.out) (by simp)).trans HBT'.out)
              have hgo := goes_any HMRX.out HNR.out tc uc (nd := C.nd) (nd' := C2.nd) HTIX.out HUR.out.at HGO.out (HI.out.right HNB.out.1 HNB.out.2 ta tc) (HI2.out.right HNB.out.1 HNB.out.2 ua uc)
              have HGOES := Lib.hid hgo
              obtain ⟨d0, d1, d2, d3⟩ := TbFacts HBTX.out
              obtain ⟨f0, f1, f2, f3⟩ := TbFacts HBU.out
              clear hgo
              go_wp2_with (fail)
              refine HGOES.out.mono ?_
              rintro e W23 ⟨rfl, hk23⟩
              have HKX := Lib.hid (HKX.out.trans hk23)
              have HNR := Lib.hid (MoRow.keep HNR.out hk23 (by simp))
              have HUR := Lib.hid (HUR.out.keep hk23 (by simp))
              have HBU := Lib.hid ((hk23.block _ (lt_of_heap HBU.out) (by simp)).trans HBU.out)
              have HTELL := Lib.hid (tells_any (HC'.out.kept HKX.out) HI2.out (by omega) HNB.out.1.2 HNB.out.2.2 HNR.out HUR.out)
              clear hk23 d0 d1 d2 d3 f0 f1 f2 f3
              obtain ⟨f0, f1, f2, f3⟩ := TbFacts HBU.out
              go_wp2_with (fail)
              refine HTELL.out.mono ?_
              rintro e W24 ⟨rfl, hk24⟩
              have HKX := Lib.hid (HKX.out.trans hk24)
              have HNR := Lib.hid (MoRow.keep HNR.out hk24 (by simp))
              have HUR := Lib.hid (HUR.out.keep hk24 (by simp))
              have HBU := Lib.hid ((hk24.block _ (lt_of_heap HBU.out) (by simp)).trans HBU.out)
              have HBTX := Lib.hid ((HKX.out.block _ (lt_of_heap HBT'.out) (by simp)).trans HBT'.out)
              clear hk24 f0 f1 f2 f3
              obtain ⟨d0, d1, d2, d3⟩ := TbFacts HBTX.out
              obtain ⟨f0, f1, f2, f3⟩ := TbFacts HBU.out
              go_wp2_with (fail)
              obtain ⟨W25, hW25⟩ : ∃ u, (((W24.setCell ⟨W6.heap.size, 0, none⟩ (.int .i64 C2.ep)).setCell ⟨W6.heap.size, 1, none⟩ (.int .i64 C2.nd)).setCell ⟨W6.heap.size, 2, none⟩ (.slice ua C2.own.length uc)) = u := ⟨_, rfl⟩
              have hk25 : Keep [W6.heap.size] W24 W25 := by
                rw [← hW25]
                exact (((Keep.refl _ _).setCell _ _ _ (.inl (by simp))).setCell _ _ _ (.inl (by simp))).setCell _ _ _ (.inl (by simp))
              have HBZ := Lib.hid (show W25.heap[W6.heap.size]? = some (.cells #[.int .i64 C2.ep, .int .i64 C2.nd, .slice ua C2.own.length uc] 28 (0, 0)) from by
                have h := HBTX.out
                rw [← hW25]
                simp [World.setCell, Array.getElem?_modify, h])
              rw [hW25]
              have hc7 := (HC'.out.kept HKX.out).keep hk25 (fun y hy hm => by have h1 := HF'.out y hy; have h2 := HW67.out; simp at hm; omega)
              have hrel := And.intro hc7 (And.intro ((HK6'.out.trans HKX.out).step hk25 (by simp)) (And.intro ((HKW'.out.trans HKX.out).step hk25 (by simp; exact HW06.out)) (And.intro
                (RowAt.keep (fun _ _ _ h1 h2 h3 => h3.keep hk25 h1 h2) (RowAt.keep (fun _ _ _ h1 h2 h3 => h3.keep HKX.out h1 h2) HA'.out HKX.out (by simp)) hk25 (fun hne b' off' e => by
                  cases e
                  have := HBLb.out
                  simp
                  omega))
                (And.intro (MoRow.keep HNR.out hk25 (fun g hg => by have h1 := (HNB2.out g hg).2; have h2 := HW67.out; simp; omega))
                  (HUR.out.at.keep hk25 (fun _ b off e => by simpa using (HUB.out b off e).2))))))
              have HREL := Lib.hid hrel
              have HSE := Lib.hid (Nat.le_trans (Nat.le_trans HSX.out HKX.out.size) hk25.size)
              clear hc7 hrel hk25 hW25 d0 d1 d2 d3 f0 f1 f2 f3
              go_roundw
              case rel => exact ⟨j + 1, F', ua, uc, _, by go_num, by omega, by rw [HTK.out]; exact HREL.out.1, HF'.out, HREL.out.2.1, HREL.out.2.2.1, HREL.out.2.2.2.1, by rw [HTK.out]; exact HREL.out.2.2.2.2.1, HNB2.out, by rw [HTK.out]; exact HBZ.out, by rw [HTK.out]; exact HREL.out.2.2.2.2.2, HUB.out, HSE.out⟩
              case measure => go_light; simp [intOf]; omega
            · have h2 : ((dd : Int) == 2) = false := by simpa using hd2
              by_cases hd4 : dd = 4
              · have hr : C2 = (coHandle C sy.fr sy.k sy.mv sy.pt sy.cd).2 := by rw [← HC2.out, HOF.out, if_neg hd0, if_neg hd1, if_pos (.inr hd4)]
                have HR := Lib.hid hr
                subst hd4
                clear hr hd0 hd1 hd2 h0 h1 h2
                go_wp2_with (first | ((with_reducible refine wpList_load_mid ?_ 60 (.tmp 55) ?_ b (off + j * 28) ?_ cl _ HX.out Tryz.underlying60 ?_ HSA.out ?_); rfl; rfl; rfl; rfl) | ((with_reducible refine wpList_store_all ?_ 60 (.tmp 13) (.tmp 56) ?_ Wr.heap.size ?_ cs ?_ HST.out ?_); rfl; rfl; rfl; exact congrArg Value.agg HCS.out) | ((with_reducible refine wpList_load_row ?_ 60 (.tmp 13) ?_ Wr.heap.size ?_ 60 cs (0, 0) _ HAT.out.blk Tryz.underlying60 ?_ HSC.out ?_); rfl; rfl; rfl; rfl))
                have hsay := HSAY.out W1 b0 _ (MoRow.keep HMR.out HK1.out (by simp))
                rw [HCS.out] at hsay
                refine hsay.mono ?_
                rintro e W2 ⟨rfl, hk2⟩
                obtain ⟨W3, hst3, hk3, hb3⟩ := store_msg3 W2 (cs := sy.ms.toArray) (by rw [List.size_toArray, HSW.out.len]) (by simpa using HSW.out.one)
                unfold zMsg at hst3
                have HST3 := Lib.hid hst3
                have HB3 : Hid (W3.heap[W2.heap.size]? = some (.cells sy.ms.toArray 40 (0, 0))) := Lib.hid hb3
                have HSY3 : Hid ((Tryz.prog.info? 40).map (·.size) = some sy.ms.toArray.size) := Lib.hid (szMsgA HSW.out.len)
                have HK1 := Lib.hid ((HK1.out.trans hk2).trans hk3)
                obtain ⟨mc, hmc⟩ : ∃ mc, sy.ms.toArray = mc := ⟨_, rfl⟩
                have HMC := Lib.hid hmc
                rw [hmc] at HST3 HB3 HSY3 ⊢
                clear hk2 hk3 hst3 hb3 hsay hmc
                go_wp2_with (first | ((with_reducible refine wpList_store_all ?_ 40 (.tmp 15) (.tmp 81) ?_ W2.heap.size ?_ mc ?_ HST3.out ?_); rfl; rfl; rfl; rfl) | ((with_reducible refine wpList_load_row ?_ 40 (.tmp 15) ?_ W2.heap.size ?_ 40 mc (0, 0) _ HB3.out Tryz.underlying40 ?_ HSY3.out ?_); rfl; rfl; rfl; rfl))
                refine (handleS (HC.out.kept HK1.out) HME.out mc (by rw [← HMC.out, List.size_toArray, HSW.out.len]) sy.fr sy.k sy.mv sy.pt sy.cd (by rw [← HMC.out]; simpa using HSW.out.c0) (by rw [← HMC.out]; simpa using HSW.out.c1) (by rw [← HMC.out]; simpa using HSW.out.c2) (by rw [← HMC.out]; simpa using HSW.out.c6)).mono ?_
                rintro e Wx ⟨rfl, hn⟩
                have hn : CoN Wr p F Wx C2 := by rw [HR.out]; exact CoN.from HK1.out hn
                obtain ⟨F', hc', hk', hup⟩ := hn
                have hmr := MoRow.keep HMR.out hk' (fun g hg => (HNW.out g hg).1)
                have hbt := (hk'.block _ (lt_of_heap HBT.out) (fun hm => by have := HF.out _ hm; have := HW67.out; omega)).trans HBT.out
                have hti := HTI.out.keep hk' (fun _ b off e => (HNT.out b off e).1)
                have HF' := Lib.hid (show ∀ y ∈ F', W7.heap.size ≤ y from fun y hy => by
                  rcases hup y hy with h | h
                  · exact HF.out y h
                  · exact Nat.le_trans HSZ7.out h)
                have HC' := Lib.hid hc'
                have HK6' := Lib.hid (HK6.out.step hk' (fun y hy => .inr (Nat.le_trans (Nat.le_of_lt HW67.out) (HF.out y hy))))
                have HKW' := Lib.hid (HKW.out.step hk' (fun y hy => .inr (Nat.le_trans HW7.out (HF.out y hy))))
                have HA' := Lib.hid (show RowAt AcAt 28 Wx (some ⟨b, off, none⟩) l2 from RowAt.keep (fun _ _ _ h1 h2 h3 => h3.keep hk' h1 h2) HA.out hk' (fun hne b' off' e => by
                  cases e
                  intro hm
                  have := HF.out _ hm
                  have := HBL.out
                  omega))
                have HMR' := Lib.hid hmr
                have HBT' := Lib.hid hbt
                have HTI' := Lib.hid hti
                have HSX := Lib.hid (Nat.le_trans HSZ7.out hk'.size)
                clear hc' hk' hup hmr hbt hti HST HAT HSC HX
                go_wp2_with (fail)
                refine (movesS HC'.out HFI2.out HME2.out).mono ?_
                rintro e W20 ⟨nv, rfl, hnr, hk20⟩
                obtain ⟨an, cn, rfl, _⟩ := own_shape hnr
                have HNR := Lib.hid hnr
                have HNB2 := Lib.hid (show ∀ g, (Value.slice an (movesF C2).length cn).ownBlock = some g → g ∉ F' ∧ W7.heap.size ≤ g from fun g hg => by
                  have h1 := own_base hnr g hg
                  exact ⟨fun hm => by have := HC'.out.lt g hm; omega, Nat.le_trans HSX.out h1⟩)
                have HKX := Lib.hid hk20
                clear hnr hk20
                go_wp2_with (fail)
                refine (tableS (HC'.out.kept HKX.out) HFI2.out).mono ?_
                rintro e W21 ⟨ua, uc, rfl, hur, hk21⟩
                have HUR := Lib.hid hur
                have HNR := Lib.hid (MoRow.keep HNR.out hk21 (by simp))
                have HUB := Lib.hid (show ∀ b off, ua = some ⟨b, off, none⟩ → b ∉ F' ∧ b ≠ W6.heap.size from fun b off e => by
                  have h1 : W20.heap.size ≤ b := by
                    have hne : C2.own ≠ [] := by intro e2; have := HI2.out.len; rw [e2] at this; have := HNB.out.2.1; simp at *; omega
                    obtain ⟨b', off', e', _, _⟩ := hur.at hne
                    have h2 := own_base hur b' (by rw [e']; rfl)
                    rw [e] at e'
                    cases e'
                    exact h2
                  have h3 := HKX.out.size
                  have h4 := HSX.out
                  have h5 := HW67.out
                  exact ⟨fun hm => by have := HC'.out.lt b hm; omega, by omega⟩)
                have HKX := Lib.hid (HKX.out.trans hk21)
                clear hur hk21
                go_upto_region 25 with (fail)
                obtain ⟨W22, hW22⟩ : ∃ u, W21.alloc (.cells #[.int .i64 C2.ep, .int .i64 C2.nd, .slice ua C2.own.length uc] 28) = u := ⟨_, rfl⟩
                have hk22 : Keep [] W21 W22 := by rw [← hW22]; exact (Keep.refl _ _).alloc _
                have HBU := Lib.hid (show W22.heap[W21.heap.size]? = some (.cells #[.int .i64 C2.ep, .int .i64 C2.nd, .slice ua C2.own.length uc] 28 (0, 0)) from by rw [← hW22]; exact World.alloc_heap_new W21 _)
                rw [hW22]
                have HUR := Lib.hid (HUR.out.keep hk22 (by simp))
                have HNR := Lib.hid (MoRow.keep HNR.out hk22 (by simp))
                have HKX := Lib.hid (HKX.out.trans hk22)
                clear hk22 hW22
                have HMRX := Lib.hid (MoRow.keep HMR'.out HKX.out (by simp))
                have HTIX := Lib.hid (HTI'.out.keep HKX.out (by simp))
                have HBTX := Lib.hid ((HKX.out.block _ (lt_of_heap HBT'.out) (by simp)).trans HBT'.out)
                have hgo := goes_any HMRX.out HNR.out tc uc (nd := C.nd) (nd' := C2.nd) HTIX.out HUR.out.at HGO.out (HI.out.right HNB.out.1 HNB.out.2 ta tc) (HI2.out.right HNB.out.1 HNB.out.2 ua uc)
                have HGOES := Lib.hid hgo
                obtain ⟨d0, d1, d2, d3⟩ := TbFacts HBTX.out
                obtain ⟨f0, f1, f2, f3⟩ := TbFacts HBU.out
                clear hgo
                go_wp2_with (fail)
                refine HGOES.out.mono ?_
                rintro e W23 ⟨rfl, hk23⟩
                have HKX := Lib.hid (HKX.out.trans hk23)
                have HNR := Lib.hid (MoRow.keep HNR.out hk23 (by simp))
                have HUR := Lib.hid (HUR.out.keep hk23 (by simp))
                have HBU := Lib.hid ((hk23.block _ (lt_of_heap HBU.out) (by simp)).trans HBU.out)
                have HTELL := Lib.hid (tells_any (HC'.out.kept HKX.out) HI2.out (by omega) HNB.out.1.2 HNB.out.2.2 HNR.out HUR.out)
                clear hk23 d0 d1 d2 d3 f0 f1 f2 f3
                obtain ⟨f0, f1, f2, f3⟩ := TbFacts HBU.out
                go_wp2_with (fail)
                refine HTELL.out.mono ?_
                rintro e W24 ⟨rfl, hk24⟩
                have HKX := Lib.hid (HKX.out.trans hk24)
                have HNR := Lib.hid (MoRow.keep HNR.out hk24 (by simp))
                have HUR := Lib.hid (HUR.out.keep hk24 (by simp))
                have HBU := Lib.hid ((hk24.block _ (lt_of_heap HBU.out) (by simp)).trans HBU.out)
                have HBTX := Lib.hid ((HKX.out.block _ (lt_of_heap HBT'.out) (by simp)).trans HBT'.out)
                clear hk24 f0 f1 f2 f3
                obtain ⟨d0, d1, d2, d3⟩ := TbFacts HBTX.out
                obtain ⟨f0, f1, f2, f3⟩ := TbFacts HBU.out
                go_wp2_with (fail)
                obtain ⟨W25, hW25⟩ : ∃ u, (((W24.setCell ⟨W6.heap.size, 0, none⟩ (.int .i64 C2.ep)).setCell ⟨W6.heap.size, 1, none⟩ (.int .i64 C2.nd)).setCell ⟨W6.heap.size, 2, none⟩ (.slice ua C2.own.length uc)) = u := ⟨_, rfl⟩
                have hk25 : Keep [W6.heap.size] W24 W25 := by
                  rw [← hW25]
                  exact (((Keep.refl _ _).setCell _ _ _ (.inl (by simp))).setCell _ _ _ (.inl (by simp))).setCell _ _ _ (.inl (by simp))
                have HBZ := Lib.hid (show W25.heap[W6.heap.size]? = some (.cells #[.int .i64 C2.ep, .int .i64 C2.nd, .slice ua C2.own.length uc] 28 (0, 0)) from by
                  have h := HBTX.out
                  rw [← hW25]
                  simp [World.setCell, Array.getElem?_modify, h])
                rw [hW25]
                have hc7 := (HC'.out.kept HKX.out).keep hk25 (fun y hy hm => by have h1 := HF'.out y hy; have h2 := HW67.out; simp at hm; omega)
                have hrel := And.intro hc7 (And.intro ((HK6'.out.trans HKX.out).step hk25 (by simp)) (And.intro ((HKW'.out.trans HKX.out).step hk25 (by simp; exact HW06.out)) (And.intro
                  (RowAt.keep (fun _ _ _ h1 h2 h3 => h3.keep hk25 h1 h2) (RowAt.keep (fun _ _ _ h1 h2 h3 => h3.keep HKX.out h1 h2) HA'.out HKX.out (by simp)) hk25 (fun hne b' off' e => by
                    cases e
                    have := HBLb.out
                    simp
                    omega))
                  (And.intro (MoRow.keep HNR.out hk25 (fun g hg => by have h1 := (HNB2.out g hg).2; have h2 := HW67.out; simp; omega))
                    (HUR.out.at.keep hk25 (fun _ b off e => by simpa using (HUB.out b off e).2))))))
                have HREL := Lib.hid hrel
                have HSE := Lib.hid (Nat.le_trans (Nat.le_trans HSX.out HKX.out.size) hk25.size)
                clear hc7 hrel hk25 hW25 d0 d1 d2 d3 f0 f1 f2 f3
                go_roundw
                case rel => exact ⟨j + 1, F', ua, uc, _, by go_num, by omega, by rw [HTK.out]; exact HREL.out.1, HF'.out, HREL.out.2.1, HREL.out.2.2.1, HREL.out.2.2.2.1, by rw [HTK.out]; exact HREL.out.2.2.2.2.1, HNB2.out, by rw [HTK.out]; exact HBZ.out, by rw [HTK.out]; exact HREL.out.2.2.2.2.2, HUB.out, HSE.out⟩
                case measure => go_light; simp [intOf]; omega
              · have h4 : ((dd : Int) == 4) = false := by simpa using hd4
                have hr : C2 = C := by rw [← HC2.out, HOF.out, if_neg hd0, if_neg hd1, if_neg (by simp [hd2, hd4])]
                have HR := Lib.hid hr
                clear hr hd0 hd1 hd2 hd4
                go_wp2_with (first | ((with_reducible refine wpList_load_mid ?_ 60 (.tmp 55) ?_ b (off + j * 28) ?_ cl _ HX.out Tryz.underlying60 ?_ HSA.out ?_); rfl; rfl; rfl; rfl) | ((with_reducible refine wpList_store_all ?_ 60 (.tmp 13) (.tmp 56) ?_ Wr.heap.size ?_ cs ?_ HST.out ?_); rfl; rfl; rfl; exact congrArg Value.agg HCS.out))
                obtain ⟨Wx, hWx⟩ : ∃ u, u = W1 := ⟨_, rfl⟩
                subst hWx
                have hn : CoN Wr p F Wx C2 := by rw [HR.out]; exact HC.out.stay HK1.out
                obtain ⟨F', hc', hk', hup⟩ := hn
                have hmr := MoRow.keep HMR.out hk' (fun g hg => (HNW.out g hg).1)
                have hbt := (hk'.block _ (lt_of_heap HBT.out) (fun hm => by have := HF.out _ hm; have := HW67.out; omega)).trans HBT.out
                have hti := HTI.out.keep hk' (fun _ b off e => (HNT.out b off e).1)
                have HF' := Lib.hid (show ∀ y ∈ F', W7.heap.size ≤ y from fun y hy => by
                  rcases hup y hy with h | h
                  · exact HF.out y h
                  · exact Nat.le_trans HSZ7.out h)
                have HC' := Lib.hid hc'
                have HK6' := Lib.hid (HK6.out.step hk' (fun y hy => .inr (Nat.le_trans (Nat.le_of_lt HW67.out) (HF.out y hy))))
                have HKW' := Lib.hid (HKW.out.step hk' (fun y hy => .inr (Nat.le_trans HW7.out (HF.out y hy))))
                have HA' := Lib.hid (show RowAt AcAt 28 Wx (some ⟨b, off, none⟩) l2 from RowAt.keep (fun _ _ _ h1 h2 h3 => h3.keep hk' h1 h2) HA.out hk' (fun hne b' off' e => by
                  cases e
                  intro hm
                  have := HF.out _ hm
                  have := HBL.out
                  omega))
                have HMR' := Lib.hid hmr
                have HBT' := Lib.hid hbt
                have HTI' := Lib.hid hti
                have HSX := Lib.hid (Nat.le_trans HSZ7.out hk'.size)
                clear hc' hk' hup hmr hbt hti HST HAT HSC HX
                refine (movesS HC'.out HFI2.out HME2.out).mono ?_
                rintro e W20 ⟨nv, rfl, hnr, hk20⟩
                obtain ⟨an, cn, rfl, _⟩ := own_shape hnr
                have HNR := Lib.hid hnr
                have HNB2 := Lib.hid (show ∀ g, (Value.slice an (movesF C2).length cn).ownBlock = some g → g ∉ F' ∧ W7.heap.size ≤ g from fun g hg => by
                  have h1 := own_base hnr g hg
                  exact ⟨fun hm => by have := HC'.out.lt g hm; omega, Nat.le_trans HSX.out h1⟩)
                have HKX := Lib.hid hk20
                clear hnr hk20
                go_wp2_with (fail)
                refine (tableS (HC'.out.kept HKX.out) HFI2.out).mono ?_
                rintro e W21 ⟨ua, uc, rfl, hur, hk21⟩
                have HUR := Lib.hid hur
                have HNR := Lib.hid (MoRow.keep HNR.out hk21 (by simp))
                have HUB := Lib.hid (show ∀ b off, ua = some ⟨b, off, none⟩ → b ∉ F' ∧ b ≠ W6.heap.size from fun b off e => by
                  have h1 : W20.heap.size ≤ b := by
                    have hne : C2.own ≠ [] := by intro e2; have := HI2.out.len; rw [e2] at this; have := HNB.out.2.1; simp at *; omega
                    obtain ⟨b', off', e', _, _⟩ := hur.at hne
                    have h2 := own_base hur b' (by rw [e']; rfl)
                    rw [e] at e'
                    cases e'
                    exact h2
                  have h3 := HKX.out.size
                  have h4 := HSX.out
                  have h5 := HW67.out
                  exact ⟨fun hm => by have := HC'.out.lt b hm; omega, by omega⟩)
                have HKX := Lib.hid (HKX.out.trans hk21)
                clear hur hk21
                go_upto_region 25 with (fail)
                obtain ⟨W22, hW22⟩ : ∃ u, W21.alloc (.cells #[.int .i64 C2.ep, .int .i64 C2.nd, .slice ua C2.own.length uc] 28) = u := ⟨_, rfl⟩
                have hk22 : Keep [] W21 W22 := by rw [← hW22]; exact (Keep.refl _ _).alloc _
                have HBU := Lib.hid (show W22.heap[W21.heap.size]? = some (.cells #[.int .i64 C2.ep, .int .i64 C2.nd, .slice ua C2.own.length uc] 28 (0, 0)) from by rw [← hW22]; exact World.alloc_heap_new W21 _)
                rw [hW22]
                have HUR := Lib.hid (HUR.out.keep hk22 (by simp))
                have HNR := Lib.hid (MoRow.keep HNR.out hk22 (by simp))
                have HKX := Lib.hid (HKX.out.trans hk22)
                clear hk22 hW22
                have HMRX := Lib.hid (MoRow.keep HMR'.out HKX.out (by simp))
                have HTIX := Lib.hid (HTI'.out.keep HKX.out (by simp))
                have HBTX := Lib.hid ((HKX.out.block _ (lt_of_heap HBT'.out) (by simp)).trans HBT'.out)
                have hgo := goes_any HMRX.out HNR.out tc uc (nd := C.nd) (nd' := C2.nd) HTIX.out HUR.out.at HGO.out (HI.out.right HNB.out.1 HNB.out.2 ta tc) (HI2.out.right HNB.out.1 HNB.out.2 ua uc)
                have HGOES := Lib.hid hgo
                obtain ⟨d0, d1, d2, d3⟩ := TbFacts HBTX.out
                obtain ⟨f0, f1, f2, f3⟩ := TbFacts HBU.out
                clear hgo
                go_wp2_with (fail)
                refine HGOES.out.mono ?_
                rintro e W23 ⟨rfl, hk23⟩
                have HKX := Lib.hid (HKX.out.trans hk23)
                have HNR := Lib.hid (MoRow.keep HNR.out hk23 (by simp))
                have HUR := Lib.hid (HUR.out.keep hk23 (by simp))
                have HBU := Lib.hid ((hk23.block _ (lt_of_heap HBU.out) (by simp)).trans HBU.out)
                have HTELL := Lib.hid (tells_any (HC'.out.kept HKX.out) HI2.out (by omega) HNB.out.1.2 HNB.out.2.2 HNR.out HUR.out)
                clear hk23 d0 d1 d2 d3 f0 f1 f2 f3
                obtain ⟨f0, f1, f2, f3⟩ := TbFacts HBU.out
                go_wp2_with (fail)
                refine HTELL.out.mono ?_
                rintro e W24 ⟨rfl, hk24⟩
                have HKX := Lib.hid (HKX.out.trans hk24)
                have HNR := Lib.hid (MoRow.keep HNR.out hk24 (by simp))
                have HUR := Lib.hid (HUR.out.keep hk24 (by simp))
                have HBU := Lib.hid ((hk24.block _ (lt_of_heap HBU.out) (by simp)).trans HBU.out)
                have HBTX := Lib.hid ((HKX.out.block _ (lt_of_heap HBT'.out) (by simp)).trans HBT'.out)
                clear hk24 f0 f1 f2 f3
                obtain ⟨d0, d1, d2, d3⟩ := TbFacts HBTX.out
                obtain ⟨f0, f1, f2, f3⟩ := TbFacts HBU.out
                go_wp2_with (fail)
                obtain ⟨W25, hW25⟩ : ∃ u, (((W24.setCell ⟨W6.heap.size, 0, none⟩ (.int .i64 C2.ep)).setCell ⟨W6.heap.size, 1, none⟩ (.int .i64 C2.nd)).setCell ⟨W6.heap.size, 2, none⟩ (.slice ua C2.own.length uc)) = u := ⟨_, rfl⟩
                have hk25 : Keep [W6.heap.size] W24 W25 := by
                  rw [← hW25]
                  exact (((Keep.refl _ _).setCell _ _ _ (.inl (by simp))).setCell _ _ _ (.inl (by simp))).setCell _ _ _ (.inl (by simp))
                have HBZ := Lib.hid (show W25.heap[W6.heap.size]? = some (.cells #[.int .i64 C2.ep, .int .i64 C2.nd, .slice ua C2.own.length uc] 28 (0, 0)) from by
                  have h := HBTX.out
                  rw [← hW25]
                  simp [World.setCell, Array.getElem?_modify, h])
                rw [hW25]
                have hc7 := (HC'.out.kept HKX.out).keep hk25 (fun y hy hm => by have h1 := HF'.out y hy; have h2 := HW67.out; simp at hm; omega)
                have hrel := And.intro hc7 (And.intro ((HK6'.out.trans HKX.out).step hk25 (by simp)) (And.intro ((HKW'.out.trans HKX.out).step hk25 (by simp; exact HW06.out)) (And.intro
                  (RowAt.keep (fun _ _ _ h1 h2 h3 => h3.keep hk25 h1 h2) (RowAt.keep (fun _ _ _ h1 h2 h3 => h3.keep HKX.out h1 h2) HA'.out HKX.out (by simp)) hk25 (fun hne b' off' e => by
                    cases e
                    have := HBLb.out
                    simp
                    omega))
                  (And.intro (MoRow.keep HNR.out hk25 (fun g hg => by have h1 := (HNB2.out g hg).2; have h2 := HW67.out; simp; omega))
                    (HUR.out.at.keep hk25 (fun _ b off e => by simpa using (HUB.out b off e).2))))))
                have HREL := Lib.hid hrel
                have HSE := Lib.hid (Nat.le_trans (Nat.le_trans HSX.out HKX.out.size) hk25.size)
                clear hc7 hrel hk25 hW25 d0 d1 d2 d3 f0 f1 f2 f3
                go_roundw
                case rel => exact ⟨j + 1, F', ua, uc, _, by go_num, by omega, by rw [HTK.out]; exact HREL.out.1, HF'.out, HREL.out.2.1, HREL.out.2.2.1, HREL.out.2.2.2.1, by rw [HTK.out]; exact HREL.out.2.2.2.2.1, HNB2.out, by rw [HTK.out]; exact HBZ.out, by rw [HTK.out]; exact HREL.out.2.2.2.2.2, HUB.out, HSE.out⟩
                case measure => go_light; simp [intOf]; omega
      · obtain rfl : j = l2.length := by omega
        have hjn : ¬ (l2.length : Int) < (l2.length : Int) := by omega
        go_wp2_with (fail)
        go_ret
        exact ⟨rfl, HKW.out.below (Nat.le_refl _) (by simp)⟩
end Go.Proofs.YtdnfibecobodkaaGreat
