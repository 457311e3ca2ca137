/- CoordPlays. -/
import Derived.Test.YteejdfpfdnkiiaaGreatPl
import Derived.Deep.CutRange
namespace Go.Proofs.YteejdfpfdnkiiaaGreat
open Go.RowKit Go.Lib
set_option linter.unusedSimpArgs false
set_option linter.unusedVariables false
set_option maxRecDepth 100000 in
set_option maxHeartbeats 16000000 in
theorem law_CoordPlays (t : Tb) (b : Option Addr) (l : List Ac) (e : Nat) (W : World) (hI : IntsAt W t.oa t.owner) (hA : RowAt AcAt 28 W b l) (hok : ∀ y ∈ l, y.Ok) : Calls Tryz.prog 3 #[t.val, .slice b l.length e] W fun e w' => e = .returned (.bool true) ∧ Below W.heap.size W w' := by
  obtain ⟨rt, hrt⟩ : ∃ x, t.right = x := ⟨_, rfl⟩
  have HRT := Lib.hid hrt
  have hnw := fun (w : World) (hk : Keep [] W w) (h : t.right = true) => newL (w := w) t (hI.keep hk (by simp)) h
  have hbad := fun (w : World) (hk : Keep [] W w) (h : t.right = false) => cnew_bad (w := w) t (hI.keep hk (by simp)) h
  have href := fun (w : World) (hk : Keep [] W w) => refRight_any t w (hI.keep hk (by simp))
  have hpar := fun (h : t.right = true) => right_parts h
  rw [hrt] at href
  obtain ⟨ep, nd, oa, oc, own⟩ := t
  simp only [Tb.val] at hnw hbad href hI hpar ⊢
  obtain ⟨w1, hw1⟩ : ∃ u, W.alloc (.cells #[.int .i64 ep, .int .i64 nd, .slice oa own.length oc] 24) = u := ⟨_, rfl⟩
  have k1 : Keep [] W w1 := by rw [← hw1]; exact (Keep.refl _ _).alloc _
  have b1 : w1.heap[W.heap.size]? = some (.cells #[.int .i64 ep, .int .i64 nd, .slice oa own.length oc] 24 (0, 0)) := by rw [← hw1]; exact World.alloc_heap_new W _
  have s1 : w1.heap.size = W.heap.size + 1 := by rw [← hw1, World.size_alloc]
  have HNW := Lib.hid hnw
  have HBAD := Lib.hid hbad
  have HREF := Lib.hid href
  have HPAR := Lib.hid hpar
  have HA := Lib.hid hA
  have HO := Lib.hid hok
  have HI := Lib.hid hI
  have HK := Lib.hid k1
  have HT := Lib.hid b1
  obtain ⟨c0, c1, c2, c3⟩ := TbFacts b1
  clear hnw hbad href hpar hA hok hI k1 b1 hrt
  go_enter Tryz.func3, Tryz.ntmps3
  go_wp2_with (fail)
  refine (awake_any _).mono ?_
  rintro e2 w2 ⟨rfl, hB⟩
  have hk2 : Keep [] w1 w2 := Keep.of_below hB []
  have HK := Lib.hid (HK.out.trans hk2)
  have HT := Lib.hid ((hk2.block _ (lt_of_heap HT.out) (by simp)).trans HT.out)
  clear hk2 hB c0 c1 c2 c3 hw1
  obtain ⟨c0, c1, c2, c3⟩ := TbFacts HT.out
  by_cases hlo : (300 : Int) < (own.length : Int)
  · go_wp2_with (fail)
    go_ret
    exact ⟨rfl, HK.out.below (Nat.le_refl _) (by simp)⟩
  by_cases hep : 2147483647 < ep
  · go_wp2_with (fail)
    go_ret
    exact ⟨rfl, HK.out.below (Nat.le_refl _) (by simp)⟩
  have hlo2 : decide ((300 : Int) < (own.length : Int)) = false := by simpa using hlo
  have hep2 : decide (2147483647 < ep) = false := by simpa using hep
  go_wp2_with (fail)
  refine (great_any e (HA.out.keep (X := []) (fun _ _ _ h1 h2 h3 => h3.keep HK.out h1 h2) HK.out (by simp)) HO.out).mono ?_
  rintro e3 w3 ⟨g, rfl, hg, hk3⟩
  have HK := Lib.hid (HK.out.trans hk3)
  have HT := Lib.hid ((hk3.block _ (lt_of_heap HT.out) (by simp)).trans HT.out)
  clear hk3 c0 c1 c2 c3
  obtain ⟨c0, c1, c2, c3⟩ := TbFacts HT.out
  cases g with
  | true =>
    go_wp2_with (fail)
    go_ret
    exact ⟨rfl, HK.out.below (Nat.le_refl _) (by simp)⟩
  | false =>
    have hl200 := hg rfl
    clear hg
    go_wp2_with (fail)
    cases rt with
    | false =>
      refine (HBAD.out _ HK.out HRT.out).mono ?_
      rintro e4 w4 ⟨rfl, hk4⟩
      have HK := Lib.hid (HK.out.trans hk4)
      have HT := Lib.hid ((hk4.block _ (lt_of_heap HT.out) (by simp)).trans HT.out)
      clear hk4 c0 c1 c2 c3
      obtain ⟨c0, c1, c2, c3⟩ := TbFacts HT.out
      go_wp2_with (fail)
      refine (HREF.out _ HK.out).mono ?_
      rintro e5 w5 ⟨rfl, hB5⟩
      have HK := Lib.hid (HK.out.trans (Keep.of_below hB5 []))
      clear hB5 HT c0 c1 c2 c3
      go_wp2_with (fail)
      refine (ord_no_one (none_nil _) 0 1).mono ?_
      rintro e6 w6 ⟨rfl, rfl⟩
      obtain ⟨w7, hw7⟩ : ∃ u, w6.alloc (.cells #[.int .i64 0, .int .i64 0, .slice none 0 0, .pointer none, .map none, .int .i64 0, .int .i64 0] 38) = u := ⟨_, rfl⟩
      have HZ := Lib.hid (show w7.heap[w6.heap.size]? = some (.cells #[.int .i64 0, .int .i64 0, .slice none 0 0, .pointer none, .map none, .int .i64 0, .int .i64 0] 38 (0, 0)) from by rw [← hw7]; exact World.alloc_heap_new w6 _)
      have HK := Lib.hid (HK.out.trans (show Keep [] w6 w7 from by rw [← hw7]; exact (Keep.refl _ _).alloc _))
      go_wp2_with (fail)
      refine (ord_no_one (none_zero HZ.out) 0 1).mono ?_
      rintro e8 w8 ⟨rfl, rfl⟩
      go_wp2_with (fail)
      refine (abort_nil _ 0).mono ?_
      rintro e9 w9 ⟨rfl, hk9⟩
      have HK := Lib.hid (HK.out.trans hk9)
      clear hk9
      go_wp2_with (fail)
      refine (tick_nil _).mono ?_
      rintro e10 w10 ⟨rfl, hk10⟩
      have HK := Lib.hid (HK.out.trans hk10)
      clear hk10
      go_wp2_with (fail)
      refine (saysR _ 1 0 1).mono ?_
      rintro e11 w11 ⟨rfl, hk11⟩
      have HK := Lib.hid (HK.out.trans hk11)
      clear hk11
      go_wp2_with (fail)
      refine (handle_nil _ 1 _ rfl).mono ?_
      rintro e12 w12 ⟨rfl, hk12⟩
      have HK := Lib.hid (HK.out.trans hk12)
      clear hk12
      go_wp2_with (fail)
      have hfld := fun (W : World) => field_tb (.int .i64 0) (.int .i64 0) (.slice none 0 0) W
      refine (table_nil _).mono ?_
      rintro e13 w13 ⟨rfl, hk13⟩
      have HK := Lib.hid (HK.out.trans hk13)
      clear hk13
      go_wp2_with (fail)
      refine (moves_nil _).mono ?_
      rintro e14 w14 ⟨rfl, hk14⟩
      have HK := Lib.hid (HK.out.trans hk14)
      clear hk14
      go_wp2_with (fail)
      go_ret
      exact ⟨rfl, HK.out.below (Nat.le_refl _) (by simp)⟩
    | true =>
      obtain ⟨r1, r2, r3, r4, r5, r6⟩ := HPAR.out HRT.out
      have hci := cdT_inv (t := ⟨ep, nd, oa, oc, own⟩) HRT.out (by simp only; omega)
      have HCI := Lib.hid hci
      have HRB := Lib.hid (And.intro (And.intro r2 r3) (And.intro r4 r5))
      clear hci r1 r2 r3 r4 r5 r6
      refine (HNW.out _ HK.out HRT.out).mono ?_
      rintro e4 w4 ⟨p, rfl, ⟨F0, hc0, hF0, _⟩, hk4⟩
      have HC : Hid (CoS w4 p F0 (cdT ⟨ep, nd, oa, oc, own⟩)) := Lib.hid hc0
      have HF := Lib.hid (show ∀ x ∈ F0, w3.heap.size ≤ x from fun x hx => (hF0 x hx).1)
      have HK3 := Lib.hid HK.out.size
      have HK34 := Lib.hid hk4.size
      have HK := Lib.hid (HK.out.trans hk4)
      have HT := Lib.hid ((hk4.block _ (lt_of_heap HT.out) (by simp)).trans HT.out)
      clear hk4 hc0 hF0 c0 c1 c2 c3
      obtain ⟨c0, c1, c2, c3⟩ := TbFacts HT.out
      go_wp2_with (fail)
      refine (HREF.out _ HK.out).mono ?_
      rintro e5 w5 ⟨rfl, hB5⟩
      have hk5 : Keep [] w4 w5 := Keep.of_below hB5 []
      have HC := Lib.hid (HC.out.kept hk5)
      have HK45 := Lib.hid hk5.size
      have HK := Lib.hid (HK.out.trans hk5)
      have HT := Lib.hid ((hk5.block _ (lt_of_heap HT.out) (by simp)).trans HT.out)
      clear hk5 hB5 c0 c1 c2 c3
      obtain ⟨c0, c1, c2, c3⟩ := TbFacts HT.out
      have HK5 := Lib.hid HK.out.size
      obtain ⟨w6, hw6⟩ : ∃ u, w5.alloc (.cells #[.int .i64 0, .int .i64 0, .slice none 0 0, .slice none 0 0, .int .i64 0, .int .i64 0, .int .i64 0] 54) = u := ⟨_, rfl⟩
      have t6 : w6.heap[w5.heap.size]? = some (.cells #[.int .i64 0, .int .i64 0, .slice none 0 0, .slice none 0 0, .int .i64 0, .int .i64 0, .int .i64 0] 54 (0, 0)) := by rw [← hw6]; exact World.alloc_heap_new w5 _
      obtain ⟨w7, hw7⟩ : ∃ u, w6.setRow w5.heap.size #[.int .i64 ep, .int .i64 nd, .slice oa own.length oc, .slice none 0 0, .int .i64 0, .int .i64 0, .int .i64 0] = u := ⟨_, rfl⟩
      have hst7 := run_storeVar_row (P := Tryz.prog) w6 w5.heap.size 54 54 _ #[.int .i64 ep, .int .i64 nd, .slice oa own.length oc, .slice none 0 0, .int .i64 0, .int .i64 0, .int .i64 0] t6 (by kernel_rfl) rfl (by simp [Value.oneCell'])
      rw [hw7] at hst7
      have HD := Lib.hid (show w7.heap[w5.heap.size]? = some (.cells #[.int .i64 ep, .int .i64 nd, .slice oa own.length oc, .slice none 0 0, .int .i64 0, .int .i64 0, .int .i64 0] 54 (0, 0)) from by rw [← hw7]; exact setRow_heap w6 _ _ _ _ _ t6)
      have k67 : Keep [] w5 w7 := ((Keep.refl [] w5).step (show Keep [] w5 w6 from by rw [← hw6]; exact (Keep.refl _ _).alloc _) (by simp)).step (show Keep [w5.heap.size] w6 w7 from by rw [← hw7]; exact (Keep.refl _ _).setRow _ _ (.inl (by simp))) (fun y hy => .inr (by rw [List.mem_singleton.1 hy]; exact Nat.le_refl _))
      have HST7 := Lib.hid hst7
      have HDF := Lib.hid (show w5.heap.size ∉ F0 from fun hm => by have := HC.out.lt _ hm; omega)
      have HC := Lib.hid (HC.out.kept k67)
      have HK57 := Lib.hid k67.size
      have HK := Lib.hid (HK.out.trans k67)
      clear t6 hst7 hw7 k67
      go_wp2_with ((with_reducible refine wpList_store_all ?_ 54 (.tmp 11) (.tmp 107) ?_ w5.heap.size ?_ _ ?_ HST7.out ?_); rfl; rfl; rfl; rfl)
      have HR0 : Hid (RelX w3.heap.size w5.heap.size p W (cdT ⟨ep, nd, oa, oc, own⟩) (Dx.of (cdT ⟨ep, nd, oa, oc, own⟩)) F0 #[.int .i64 ep, .int .i64 nd, .slice oa own.length oc, .slice none 0 0, .int .i64 0, .int .i64 0, .int .i64 0] #[.int .i64 ep, .int .i64 nd, .slice oa own.length oc, .slice none 0 0, .int .i64 0, .int .i64 0, .int .i64 0] w7) := Lib.hid ⟨HC.out, HF.out, HDF.out, HD.out, ⟨oa, oc, none, 0, rfl, HI.out.keep HK.out (by simp), FlAt.nil _ _, Nat.le_refl _, fun b off hb => by
        have hne : own ≠ [] := fun h0 => by have := HRB.out.2.1; rw [h0] at this; simp at this
        obtain ⟨b', off', e', hlt, _⟩ := HI.out hne
        rw [hb] at e'
        cases e'
        have h3 := HK3.out
        have h5 := HK5.out
        have h7 := HK57.out
        exact ⟨fun hm => by have := HF.out _ hm; omega, by omega, by omega⟩, fun b off hb => by cases hb⟩, HK.out, by have := HK34.out; have := HK45.out; have := HK57.out; omega, HK3.out, HK5.out⟩
      clear c0 c1 c2 c3 HT HC HF HDF HD HK
      go_loopw [12] (fun i wr => ∃ (j : Nat) (F : List Nat) (cs : Array Value), i = .int .i64 j ∧ j ≤ l.length ∧ RelX w3.heap.size w5.heap.size p W (runA (cdT ⟨ep, nd, oa, oc, own⟩) (l.take j)) (Dx.of (runA (cdT ⟨ep, nd, oa, oc, own⟩) (l.take j))) F cs cs wr) (fun i _ => l.length - (intOf i).toNat)
      case atStart => exact ⟨0, F0, _, rfl, Nat.zero_le _, HR0.out⟩
      case round =>
        obtain ⟨j, F, cs, rfl, hj, hr⟩ := hrel
        have hinv := inv_takeA (t := ⟨ep, nd, oa, oc, own⟩) HRT.out (by simp only; omega) hl200 j
        obtain ⟨c, hcc⟩ : ∃ c, runA (cdT ⟨ep, nd, oa, oc, own⟩) (l.take j) = c := ⟨_, rfl⟩
        rw [hcc] at hr hinv
        have HCC := Lib.hid hcc
        have HIV := Lib.hid hinv
        have HFN := Lib.hid (hinv.toFine (by omega) (by have := HRB.out.1; simp only; omega) (by have := HRB.out.2; simp only; omega))
        have HMM := Lib.hid (hinv.toMem (by omega))
        clear HR0
        have HR := Lib.hid hr
        obtain ⟨oa', oc', la', lc', hcs, hI', hL', hcap, _, _⟩ := hr.doc
        have HCS := Lib.hid hcs
        have HIO := Lib.hid hI'
        have HLA := Lib.hid hL'
        have HCP := Lib.hid hcap
        have HSZ := Lib.hid (szDx hr.doc.size)
        have h0j : (0 : Int) ≤ (j : Int) := Int.natCast_nonneg j
        by_cases hlt : j < l.length
        · have hjn : (j : Int) < (l.length : Int) := by omega
          have hne : l ≠ [] := by intro e; rw [e] at hlt; simp at hlt
          have hal : RowAt AcAt 28 wr b l := RowAt.keep (X := []) (fun _ _ _ h1 h2 h3 => h3.keep hr.keep h1 h2) HA.out hr.keep (by simp)
          obtain ⟨lb, off, rfl, hbl, hat⟩ := hal hne
          obtain ⟨x, hxl⟩ : ∃ x, l[j]? = some x := ⟨l[j], List.getElem?_eq_getElem hlt⟩
          have hx := hat j x hxl
          have hxo := HO.out x (List.mem_of_getElem? hxl)
          obtain ⟨c2, hc2⟩ : ∃ c2, actF c x = c2 := ⟨_, rfl⟩
          have HNX := Lib.hid (show runA (cdT ⟨ep, nd, oa, oc, own⟩) (l.take (j + 1)) = c2 from by rw [runA_snoc _ hxl, HCC.out, hc2])
          have hinv2 := HIV.out.act x
          rw [hc2] at hinv2
          have HIV2 := Lib.hid hinv2
          have HFN2 := Lib.hid (hinv2.toFine (by omega) (by have := HRB.out.1; simp only; omega) (by have := HRB.out.2; simp only; omega))
          have HMM2 := Lib.hid (hinv2.toMem (by omega))
          obtain ⟨wa, hst, hka, hact⟩ := store_act wr hxo
          have HRA := Lib.hid (hr.kept hka)
          have HNG := Lib.hid (show wr.heap.size ≠ w5.heap.size from by have := lt_of_heap hr.blk; omega)
          have HSAY := Lib.hid (fun (W : World) (base : Nat) (v : Value) (hv : MoRow base W v (movesF c)) => says_any hxo hv (by have := moves_num HFN.out; omega))
          have HSW := Lib.hid (saysF_w hxo (movesF c))
          obtain ⟨sy, hsy⟩ : ∃ sy, saysF x (movesF c) = sy := ⟨_, rfl⟩
          have hacf : c2 = if x.dd = 0 then (coOrd c x.part x.to).2.2 else if x.dd = 1 then (coAbort c x.part).2 else if x.dd = 2 ∨ x.dd = 4 then (coHandle c sy.fr sy.k sy.mv sy.pt sy.cd).2 else c := by rw [← hc2]; unfold actF; rw [hsy]
          rw [hsy] at HSAY HSW
          obtain ⟨cl, hcl⟩ : ∃ cl, x.cells = cl := ⟨_, rfl⟩
          have hsz := szAct (Ac.len hxo)
          unfold AcAt at hx
          rw [hcl] at hx hst hact hsz HSAY
          have HX := Lib.hid hx
          have HSA := Lib.hid hsz
          have HSTA := Lib.hid hst
          have HACT := Lib.hid hact
          obtain ⟨x0, x1, x2, x3, x5, x6⟩ : _ ∧ _ ∧ _ ∧ _ ∧ _ ∧ _ := ⟨hact.c0, hact.c1, hact.c2, hact.c3, hact.c5, hact.c6⟩
          have HIO := Lib.hid (hI'.keep hka (by simp))
          have HLA := Lib.hid (hL'.kept hka)
          obtain ⟨dd, hdd⟩ : ∃ q, x.dd = q := ⟨_, rfl⟩
          obtain ⟨part, hpart⟩ : ∃ q, x.part = q := ⟨_, rfl⟩
          obtain ⟨tto, hto⟩ : ∃ q, x.to = q := ⟨_, rfl⟩
          rw [hdd] at x0 hacf
          rw [hpart] at x1 hacf
          rw [hto] at x2 hacf
          have HPT := Lib.hid (And.intro hdd (And.intro hpart hto))
          have HACF := Lib.hid hacf
          clear hcc hinv hr hcs hI' hL' hcap hat hxl hx hst hact hsz hcl hxo hc2 hinv2 hka hsy hdd hpart hto hacf hal hbl
          unfold zAct at HSTA
          go_upto_region 17 with (first | ((with_reducible refine wpList_load_mid ?_ 56 (.tmp 116) ?_ lb (off + j * 28) ?_ cl _ HX.out Tryz.underlying56 ?_ HSA.out ?_); rfl; rfl; rfl; rfl) | ((with_reducible refine wpList_store_all ?_ 56 (.tmp 13) (.tmp 117) ?_ wr.heap.size ?_ cl.toArray ?_ HSTA.out ?_); rfl; rfl; rfl; rfl))
          rename_i hsw
          dsimp only [Act.put]
          go_cut [119] from 118 to 119 (fun s y => s = .int .i64 dd ∧ wa = y)
          case first =>
            go_wp2_with (fail)
            go_meet
            exact ⟨rfl, rfl⟩
          obtain ⟨rfl, rfl⟩ := hcut
          refine hsw _ _ ?_
          go_cut [] from 108 to 228 (fun y => ∃ (F2 : List Nat) (cs2 : Array Value), RelX w3.heap.size w5.heap.size p W c2 (Dx.of c2) F2 cs2 cs2 y)
          case first =>
            by_cases hd0 : dd = 0
            · subst hd0
              have HC2 := Lib.hid (show c2 = (coOrd c part tto).2.2 from HACF.out.trans (if_pos rfl))
              have hord := rord_any (d := Dx.of c) oc' lc' HIO.out HLA.out (by have := moves_num HFN.out; show (movesF c).length ≤ 500; omega) HCP.out (show 0 ≤ c.last from HIV.out.last.1) (show c.last ≤ 1000000 from by have := HIV.out.last.2; omega) part tto
              rw [dx_ord HIV.out (by omega) part tto, ← HCS.out, ← HC2.out] at hord
              unfold OrdP at hord
              simp only at hord
              have HORD := Lib.hid hord
              have hprog := fun (w : World) (h : CoS w p F c) => ordS h HMM.out HIV.out.last.1 part tto
              rw [← HC2.out] at hprog
              obtain ⟨nn, hnn⟩ : ∃ q, (coOrd c part tto).1 = q := ⟨_, rfl⟩
              obtain ⟨ff, hff⟩ : ∃ q, (coOrd c part tto).2.1 = q := ⟨_, rfl⟩
              rw [hnn, hff] at HORD hprog
              have HPROG := Lib.hid hprog
              have hba := HRA.out.blk
              have HBA := Lib.hid hba
              clear hord hprog hnn hff hba
              go_wp2_with (((with_reducible refine wpList_load_row ?_ 54 (.tmp 11) ?_ (w5.heap.size) ?_ 54 cs (0, 0) _ HBA.out Tryz.underlying54 ?_ HSZ.out ?_); rfl; rfl; rfl; rfl))
              refine HORD.out.mono ?_
              rintro e y1 ⟨⟨cs1, rfl, hdx⟩, hk1⟩
              have hr1 := HRA.out.dx HCS.out hk1 hdx
              have HSZ1 := Lib.hid (szDx hr1.doc.size)
              obtain ⟨y2, hst2, hk2, hb2⟩ := new_dx y1 hr1.doc.size hr1.doc.one
              unfold zDx at hst2
              have HST2 := Lib.hid hst2
              have HB2 := Lib.hid hb2
              have HR1 := Lib.hid hr1
              have HR2 := Lib.hid (hr1.kept hk2)
              have HLT := Lib.hid (show y1.heap.size ∉ F from fun hm => by have := hr1.co.lt _ hm; omega)
              have HNE := Lib.hid (show y1.heap.size ≠ w5.heap.size from by have := lt_of_heap hr1.blk; omega)
              have HACT := Lib.hid (HACT.out.keep (hk1.trans hk2) (by simp))
              clear x0 x1 x2 x3 x5 x6 hk1 hdx hr1 hst2 hk2 hb2
              obtain ⟨x0, x1, x2, x3, x5, x6⟩ : _ ∧ _ ∧ _ ∧ _ ∧ _ ∧ _ := ⟨HACT.out.c0, HACT.out.c1, HACT.out.c2, HACT.out.c3, HACT.out.c5, HACT.out.c6⟩
              rw [HPT.out.1] at x0
              rw [HPT.out.2.1] at x1
              rw [HPT.out.2.2] at x2
              go_wp2_with (((with_reducible refine wpList_store_all ?_ 54 (.tmp 14) (.tmp 129) ?_ (y1.heap.size) ?_ cs1 ?_ HST2.out ?_); rfl; rfl; rfl; rfl))
              refine (HPROG.out _ HR2.out.co).mono ?_
              rintro e y3 ⟨rfl, hn⟩
              obtain ⟨F2, hr3⟩ := HR2.out.act hn
              have HB3 : Hid (y3.heap[y1.heap.size]? = some (.cells cs1 54 (0, 0))) := Lib.hid (by
                obtain ⟨F', _, hk', _⟩ := hn
                exact (hk'.block _ (lt_of_heap HB2.out) HLT.out).trans HB2.out)
              obtain ⟨y4, hst4, hk4, hb4⟩ := set_dx hr3.blk HRA.out.doc.size HR1.out.doc.size HR1.out.doc.one
              have HST4 := Lib.hid hst4
              have HR4 := Lib.hid (hr3.put hk4 hb4)
              clear x0 x1 x2 x3 x5 x6 hn hr3 hst4 hk4 hb4
              go_wp2_with (first | ((with_reducible refine wpList_load_row ?_ 54 (.tmp 14) ?_ (y1.heap.size) ?_ 54 cs1 (0, 0) _ HB3.out Tryz.underlying54 ?_ HSZ1.out ?_); rfl; rfl; rfl; rfl) | ((with_reducible refine wpList_store_all ?_ 54 (.tmp 11) (.tmp 141) ?_ (w5.heap.size) ?_ cs1 ?_ HST4.out ?_); rfl; rfl; rfl; rfl))
              go_meet
              exact ⟨F2, cs1, HR4.out⟩
            · have g0 : ((dd : Int) == 0) = false := by simpa using hd0
              by_cases hd1 : dd = 1
              · subst hd1
                have HC2 := Lib.hid (show c2 = (coAbort c part).2 from HACF.out.trans ((if_neg (by decide)).trans (if_pos rfl)))
                clear g0 hd0
                have habo := rabort_any (d := Dx.of c) oc' lc' HIO.out HLA.out (by have := moves_num HFN.out; show (movesF c).length ≤ 500; omega) HCP.out part
                rw [dx_abort HIV.out part, ← HCS.out, ← HC2.out] at habo
                unfold AboP at habo
                simp only at habo
                have HABO := Lib.hid habo
                have hprog := fun (w : World) (h : CoS w p F c) => abortS h HMM.out part
                rw [← HC2.out] at hprog
                obtain ⟨ff, hff⟩ : ∃ q, (coAbort c part).1 = q := ⟨_, rfl⟩
                rw [hff] at HABO hprog
                have HPROG := Lib.hid hprog
                have hba := HRA.out.blk
                have HBA := Lib.hid hba
                clear habo hprog hff hba
                go_wp2_with (((with_reducible refine wpList_load_row ?_ 54 (.tmp 11) ?_ (w5.heap.size) ?_ 54 cs (0, 0) _ HBA.out Tryz.underlying54 ?_ HSZ.out ?_); rfl; rfl; rfl; rfl))
                refine HABO.out.mono ?_
                rintro e y1 ⟨⟨cs1, rfl, hdx⟩, hk1⟩
                have hr1 := HRA.out.dx HCS.out hk1 hdx
                have HSZ1 := Lib.hid (szDx hr1.doc.size)
                obtain ⟨y2, hst2, hk2, hb2⟩ := new_dx y1 hr1.doc.size hr1.doc.one
                unfold zDx at hst2
                have HST2 := Lib.hid hst2
                have HB2 := Lib.hid hb2
                have HR1 := Lib.hid hr1
                have HR2 := Lib.hid (hr1.kept hk2)
                have HLT := Lib.hid (show y1.heap.size ∉ F from fun hm => by have := hr1.co.lt _ hm; omega)
                have HNE := Lib.hid (show y1.heap.size ≠ w5.heap.size from by have := lt_of_heap hr1.blk; omega)
                have HACT := Lib.hid (HACT.out.keep (hk1.trans hk2) (by simp))
                clear x0 x1 x2 x3 x5 x6 hk1 hdx hr1 hst2 hk2 hb2
                obtain ⟨y3, hst3, hk3, hb3⟩ := set_dx HR2.out.blk HRA.out.doc.size HR1.out.doc.size HR1.out.doc.one
                have HST3 := Lib.hid hst3
                have HR3 := Lib.hid (HR2.out.put hk3 hb3)
                have HACT := Lib.hid (HACT.out.keep hk3 (by
                  have h1 := lt_of_heap HACT.out.blk
                  simp
                  exact HNG.out))
                clear hst3 hk3 hb3
                obtain ⟨x0, x1, x2, x3, x5, x6⟩ : _ ∧ _ ∧ _ ∧ _ ∧ _ ∧ _ := ⟨HACT.out.c0, HACT.out.c1, HACT.out.c2, HACT.out.c3, HACT.out.c5, HACT.out.c6⟩
                rw [HPT.out.1] at x0
                rw [HPT.out.2.1] at x1
                rw [HPT.out.2.2] at x2
                go_wp2_with (first | ((with_reducible refine wpList_store_all ?_ 54 (.tmp 19) (.tmp 157) ?_ (y1.heap.size) ?_ cs1 ?_ HST2.out ?_); rfl; rfl; rfl; rfl) | ((with_reducible refine wpList_load_row ?_ 54 (.tmp 19) ?_ (y1.heap.size) ?_ 54 cs1 (0, 0) _ HB2.out Tryz.underlying54 ?_ HSZ1.out ?_); rfl; rfl; rfl; rfl) | ((with_reducible refine wpList_store_all ?_ 54 (.tmp 11) (.tmp 159) ?_ (w5.heap.size) ?_ cs1 ?_ HST3.out ?_); rfl; rfl; rfl; rfl))
                refine (HPROG.out _ HR3.out.co).mono ?_
                rintro e y4 ⟨rfl, hn⟩
                obtain ⟨F2, hr4⟩ := HR3.out.act hn
                have HR4 := Lib.hid hr4
                clear x0 x1 x2 x3 x5 x6 hn hr4
                go_wp2_with (fail)
                go_meet
                exact ⟨F2, cs1, HR4.out⟩
              · have g1 : ((dd : Int) == 1) = false := by simpa using hd1
                by_cases hd2 : dd = 2
                · subst hd2
                  have HC2 := Lib.hid (show c2 = (coHandle c sy.fr sy.k sy.mv sy.pt sy.cd).2 from HACF.out.trans ((if_neg (by decide)).trans ((if_neg (by decide)).trans (if_pos (.inl rfl)))))
                  clear g0 g1 hd0 hd1
                  clear x0 x1 x2 x3 x5 x6
                  go_wp2_with (fail)
                  refine wp_region_soup 9 [] (spOf [(2, Spec.mov wa.heap.size (movesF c)), (3, Spec.is (.tuple #[.int .i64 sy.fr, .agg sy.ms.toArray])), (7, Spec.new wa.heap.size zMsg 47)]) (by kernel_rfl) (by kernel_rfl) (spOk_of (by simp [Spec.is_ok, Spec.mov_ok, Spec.new_ok])) (pre_of (by simp [Spec.is_ok, Spec.mov_ok, Spec.new_ok])) ?_
                  simp only [List.take_succ_cons, List.take_zero, List.drop_succ_cons, List.drop_zero]
                  with_reducible refine soup_q ?_ ?_ ?_
                  · rfl
                  · rfl
                  with_reducible apply Exists.intro
                  with_reducible refine ⟨fun y0 hk _ => ?_, ?_⟩
                  · exact same_load_mid 56 (.tmp 13) rfl wr.heap.size 0 rfl cl _ (fun q v hq => (hk.cell _ (lt_of_heap HACT.out.blk) (by simp)).trans (HACT.out.whole rfl q v hq)) Tryz.underlying56 rfl HSA.out
                  with_reducible apply Exists.intro
                  with_reducible refine ⟨?_, ?_⟩
                  · go_simp
                    rfl
                  with_reducible refine soup_q ?_ ?_ ?_
                  · rfl
                  · rfl
                  with_reducible apply Exists.intro
                  with_reducible refine ⟨fun W hk _ => ?_, ?_⟩
                  · unfold Oper.same
                    go_simp
                    first | rfl | exact ⟨rfl, rfl⟩
                  with_reducible apply Exists.intro
                  with_reducible refine ⟨?_, ?_⟩
                  · go_simp
                    rfl
                  refine soup_s rfl rfl rfl (fun y0 hk _ _ => ?_) ?_
                  · unfold Oper.does
                    go_simp
                    refine (movesS (HRA.out.co.kept hk) HFN.out HMM.out).mono ?_
                    rintro e w' ⟨v, rfl, hr, hk'⟩
                    have hr' : MoRow wa.heap.size w' v (movesF c) := own_low hr hk.size
                    obtain ⟨a', c', hv, _⟩ := own_shape hr
                    exact ⟨_, rfl, hk', hk.trans hk', ⟨a', c', hv⟩, hr'⟩
                  rintro v ⟨am, cm, rfl⟩
                  with_reducible apply Exists.intro
                  with_reducible refine ⟨?_, ?_⟩
                  · go_simp
                    rfl
                  refine soup_s rfl rfl rfl (fun y0 hk _ hd => ?_) ?_
                  · have hr : MoRow wa.heap.size y0 _ (movesF c) := hd 2 (Dep.of 1 (by kernel_rfl))
                    unfold Oper.does
                    go_simp
                    refine (HSAY.out y0 _ _ hr).mono ?_
                    rintro e w' ⟨rfl, hk'⟩
                    exact ⟨_, rfl, hk', hk.trans hk', rfl, trivial⟩
                  intro v hv
                  obtain rfl : v = _ := hv
                  with_reducible apply Exists.intro
                  with_reducible refine ⟨?_, ?_⟩
                  · go_simp
                    rfl
                  iterate 3
                    with_reducible refine soup_q ?_ ?_ ?_
                    · rfl
                    · rfl
                    with_reducible apply Exists.intro
                    with_reducible refine ⟨fun W hk _ => ?_, ?_⟩
                    · unfold Oper.same
                      go_simp
                      first | rfl | exact ⟨rfl, rfl⟩
                    with_reducible apply Exists.intro
                    with_reducible refine ⟨?_, ?_⟩
                    · go_simp
                      rfl
                  refine soup_s rfl rfl rfl (fun y0 hk _ _ => ?_) ?_
                  · unfold Oper.does
                    go_simp
                    exact ⟨(Keep.refl _ _).alloc _, hk.alloc _, ⟨_, rfl, hk.size⟩, _, rfl, hk.size, World.alloc_heap_new y0 _⟩
                  rintro v ⟨gx, rfl, hgx⟩
                  with_reducible apply Exists.intro
                  with_reducible refine ⟨?_, ?_⟩
                  · go_simp
                    rfl
                  with_reducible refine soup_q ?_ ?_ ?_
                  · rfl
                  · rfl
                  with_reducible apply Exists.intro
                  with_reducible refine ⟨fun W hk _ => ?_, ?_⟩
                  · unfold Oper.same
                    go_simp
                    first | rfl | exact ⟨rfl, rfl⟩
                  with_reducible apply Exists.intro
                  with_reducible refine ⟨?_, ?_⟩
                  · go_simp
                    rfl
                  refine soup_nil (fun y0 hk hS => ?_)
                  obtain ⟨g', e1, _, hb5⟩ := hS 7
                  obtain rfl : gx = g' := by simpa using e1
                  obtain ⟨y5, hy5⟩ : ∃ u, y0.setRow gx sy.ms.toArray = u := ⟨_, rfl⟩
                  have hst := run_storeVar_row (P := Tryz.prog) y0 gx 47 47 _ sy.ms.toArray hb5 (szMsgA HSW.out.len) (Eq.trans (show zMsg.size = 22 from rfl) (by rw [List.size_toArray, HSW.out.len])) (by simpa using HSW.out.one)
                  rw [hy5] at hst
                  have HSTM := Lib.hid hst
                  have HSY : Hid ((Tryz.prog.info? 47).map (·.size) = some sy.ms.toArray.size) := Lib.hid (szMsgA HSW.out.len)
                  have hbm : y5.heap[gx]? = some (.cells sy.ms.toArray 47 (0, 0)) := by rw [← hy5]; exact setRow_heap y0 gx _ _ _ _ hb5
                  have hk15 : Keep [] wa y5 := by rw [← hy5]; exact hk.setRow _ _ (.inr hgx)
                  have HBM := Lib.hid hbm
                  have HRA0 := HRA
                  have HRA := Lib.hid (HRA.out.kept hk15)
                  have HGF := Lib.hid (show gx ∉ F ∧ gx ≠ w5.heap.size from ⟨fun hm => by have := HRA0.out.co.lt _ hm; omega, by have := lt_of_heap HRA0.out.blk; omega⟩)
                  have hhan := rhandle_any (w := y5) (d := Dx.of c) oc' lc' (HIO.out.keep hk15 (by simp)) (HLA.out.kept hk15) (by have := moves_num HFN.out; show (movesF c).length ≤ 500; omega) HCP.out (fun y hy => (HIV.out.mo hy).2.1) (fun y hy => (HIV.out.mo hy).2.2) ⟨HMM.out.cnt.1, HMM.out.cnt.2.1⟩ ⟨HMM.out.cnt.2.2.1, HMM.out.cnt.2.2.2⟩ sy.ms.toArray (by rw [List.size_toArray, HSW.out.len]) sy.fr sy.k sy.mv sy.pt sy.cd (by simpa using HSW.out.c0) (by simpa using HSW.out.c1) (by simpa using HSW.out.c2) (by simpa using HSW.out.c6)
                  rw [dx_handle HIV.out, ← HCS.out, ← HC2.out] at hhan
                  unfold HanP at hhan
                  simp only at hhan
                  have HHAN := Lib.hid hhan
                  have hprog := fun (w : World) (h : CoS w p F c) => handleS h HMM.out sy.ms.toArray (by rw [List.size_toArray, HSW.out.len]) sy.fr sy.k sy.mv sy.pt sy.cd (by simpa using HSW.out.c0) (by simpa using HSW.out.c1) (by simpa using HSW.out.c2) (by simpa using HSW.out.c6)
                  rw [← HC2.out] at hprog
                  obtain ⟨is, his⟩ : ∃ q, (coHandle c sy.fr sy.k sy.mv sy.pt sy.cd).1 = q := ⟨_, rfl⟩
                  rw [his] at HHAN hprog
                  have HPROG := Lib.hid hprog
                  have HBA := Lib.hid HRA.out.blk
                  clear hk hS e1 hb5 hst hy5 hbm hk15 hhan hprog his
                  go_wp2_with (first | ((with_reducible refine wpList_store_all ?_ 47 (.tmp 22) (.tmp 175) ?_ (gx) ?_ sy.ms.toArray ?_ HSTM.out ?_); rfl; rfl; rfl; rfl) | ((with_reducible refine wpList_load_row ?_ 47 (.tmp 22) ?_ (gx) ?_ 47 sy.ms.toArray (0, 0) _ HBM.out Tryz.underlying47 ?_ HSY.out ?_); rfl; rfl; rfl; rfl) | ((with_reducible refine wpList_load_row ?_ 54 (.tmp 11) ?_ (w5.heap.size) ?_ 54 cs (0, 0) _ HBA.out Tryz.underlying54 ?_ HSZ.out ?_); rfl; rfl; rfl; rfl))
                  refine HHAN.out.mono ?_
                  rintro e y1 ⟨⟨cs1, rfl, hdx⟩, hk1⟩
                  have hr1 := HRA.out.dx HCS.out hk1 hdx
                  have HSZ1 := Lib.hid (szDx hr1.doc.size)
                  obtain ⟨y2, hst2, hk2, hb2⟩ := new_dx y1 hr1.doc.size hr1.doc.one
                  unfold zDx at hst2
                  have HST2 := Lib.hid hst2
                  have HB2 := Lib.hid hb2
                  have HR2 := Lib.hid (hr1.kept hk2)
                  obtain ⟨y3, hst3, hk3, hb3⟩ := set_dx HR2.out.blk HRA.out.doc.size hr1.doc.size hr1.doc.one
                  have HST3 := Lib.hid hst3
                  have HR3 := Lib.hid (HR2.out.put hk3 hb3)
                  have HBM := Lib.hid ((hk3.block _ (Nat.lt_of_lt_of_le (lt_of_heap HBM.out) (hk1.trans hk2).size) (by simpa using HGF.out.2)).trans (((hk1.trans hk2).block _ (lt_of_heap HBM.out) (by simp)).trans HBM.out))
                  clear hk1 hdx hr1 hst2 hk2 hb2 hst3 hk3 hb3
                  go_wp2_with (first | ((with_reducible refine wpList_store_all ?_ 54 (.tmp 23) (.tmp 181) ?_ (y1.heap.size) ?_ cs1 ?_ HST2.out ?_); rfl; rfl; rfl; rfl) | ((with_reducible refine wpList_load_row ?_ 54 (.tmp 23) ?_ (y1.heap.size) ?_ 54 cs1 (0, 0) _ HB2.out Tryz.underlying54 ?_ HSZ1.out ?_); rfl; rfl; rfl; rfl) | ((with_reducible refine wpList_store_all ?_ 54 (.tmp 11) (.tmp 183) ?_ (w5.heap.size) ?_ cs1 ?_ HST3.out ?_); rfl; rfl; rfl; rfl) | ((with_reducible refine wpList_load_row ?_ 47 (.tmp 22) ?_ (gx) ?_ 47 sy.ms.toArray (0, 0) _ HBM.out Tryz.underlying47 ?_ HSY.out ?_); rfl; rfl; rfl; rfl))
                  refine (HPROG.out _ HR3.out.co).mono ?_
                  rintro e y4 ⟨rfl, hn⟩
                  obtain ⟨F2, hr4⟩ := HR3.out.act hn
                  have HR4 := Lib.hid hr4
                  clear hn hr4
                  go_wp2_with (fail)
                  go_meet
                  exact ⟨F2, cs1, HR4.out⟩
                · have g2 : ((dd : Int) == 2) = false := by simpa using hd2
                  by_cases hd4 : dd = 4
                  · subst hd4
                    have HC2 := Lib.hid (show c2 = (coHandle c sy.fr sy.k sy.mv sy.pt sy.cd).2 from HACF.out.trans ((if_neg (by decide)).trans ((if_neg (by decide)).trans (if_pos (.inr rfl)))))
                    clear g0 g1 g2 hd0 hd1 hd2
                    clear x0 x1 x2 x3 x5 x6
                    go_wp2_with (fail)
                    refine wp_region_soup 9 [] (spOf [(2, Spec.mov wa.heap.size (movesF c)), (3, Spec.is (.tuple #[.int .i64 sy.fr, .agg sy.ms.toArray])), (7, Spec.new wa.heap.size zMsg 47)]) (by kernel_rfl) (by kernel_rfl) (spOk_of (by simp [Spec.is_ok, Spec.mov_ok, Spec.new_ok])) (pre_of (by simp [Spec.is_ok, Spec.mov_ok, Spec.new_ok])) ?_
                    simp only [List.take_succ_cons, List.take_zero, List.drop_succ_cons, List.drop_zero]
                    with_reducible refine soup_q ?_ ?_ ?_
                    · rfl
                    · rfl
                    with_reducible apply Exists.intro
                    with_reducible refine ⟨fun y0 hk _ => ?_, ?_⟩
                    · exact same_load_mid 56 (.tmp 13) rfl wr.heap.size 0 rfl cl _ (fun q v hq => (hk.cell _ (lt_of_heap HACT.out.blk) (by simp)).trans (HACT.out.whole rfl q v hq)) Tryz.underlying56 rfl HSA.out
                    with_reducible apply Exists.intro
                    with_reducible refine ⟨?_, ?_⟩
                    · go_simp
                      rfl
                    with_reducible refine soup_q ?_ ?_ ?_
                    · rfl
                    · rfl
                    with_reducible apply Exists.intro
                    with_reducible refine ⟨fun W hk _ => ?_, ?_⟩
                    · unfold Oper.same
                      go_simp
                      first | rfl | exact ⟨rfl, rfl⟩
                    with_reducible apply Exists.intro
                    with_reducible refine ⟨?_, ?_⟩
                    · go_simp
                      rfl
                    refine soup_s rfl rfl rfl (fun y0 hk _ _ => ?_) ?_
                    · unfold Oper.does
                      go_simp
                      refine (movesS (HRA.out.co.kept hk) HFN.out HMM.out).mono ?_
                      rintro e w' ⟨v, rfl, hr, hk'⟩
                      have hr' : MoRow wa.heap.size w' v (movesF c) := own_low hr hk.size
                      obtain ⟨a', c', hv, _⟩ := own_shape hr
                      exact ⟨_, rfl, hk', hk.trans hk', ⟨a', c', hv⟩, hr'⟩
                    rintro v ⟨am, cm, rfl⟩
                    with_reducible apply Exists.intro
                    with_reducible refine ⟨?_, ?_⟩
                    · go_simp
                      rfl
                    refine soup_s rfl rfl rfl (fun y0 hk _ hd => ?_) ?_
                    · have hr : MoRow wa.heap.size y0 _ (movesF c) := hd 2 (Dep.of 1 (by kernel_rfl))
                      unfold Oper.does
                      go_simp
                      refine (HSAY.out y0 _ _ hr).mono ?_
                      rintro e w' ⟨rfl, hk'⟩
                      exact ⟨_, rfl, hk', hk.trans hk', rfl, trivial⟩
                    intro v hv
                    obtain rfl : v = _ := hv
                    with_reducible apply Exists.intro
                    with_reducible refine ⟨?_, ?_⟩
                    · go_simp
                      rfl
                    iterate 3
                      with_reducible refine soup_q ?_ ?_ ?_
                      · rfl
                      · rfl
                      with_reducible apply Exists.intro
                      with_reducible refine ⟨fun W hk _ => ?_, ?_⟩
                      · unfold Oper.same
                        go_simp
                        first | rfl | exact ⟨rfl, rfl⟩
                      with_reducible apply Exists.intro
                      with_reducible refine ⟨?_, ?_⟩
                      · go_simp
                        rfl
                    refine soup_s rfl rfl rfl (fun y0 hk _ _ => ?_) ?_
                    · unfold Oper.does
                      go_simp
                      exact ⟨(Keep.refl _ _).alloc _, hk.alloc _, ⟨_, rfl, hk.size⟩, _, rfl, hk.size, World.alloc_heap_new y0 _⟩
                    rintro v ⟨gx, rfl, hgx⟩
                    with_reducible apply Exists.intro
                    with_reducible refine ⟨?_, ?_⟩
                    · go_simp
                      rfl
                    with_reducible refine soup_q ?_ ?_ ?_
                    · rfl
                    · rfl
                    with_reducible apply Exists.intro
                    with_reducible refine ⟨fun W hk _ => ?_, ?_⟩
                    · unfold Oper.same
                      go_simp
                      first | rfl | exact ⟨rfl, rfl⟩
                    with_reducible apply Exists.intro
                    with_reducible refine ⟨?_, ?_⟩
                    · go_simp
                      rfl
                    refine soup_nil (fun y0 hk hS => ?_)
                    obtain ⟨g', e1, _, hb5⟩ := hS 7
                    obtain rfl : gx = g' := by simpa using e1
                    obtain ⟨y5, hy5⟩ : ∃ u, y0.setRow gx sy.ms.toArray = u := ⟨_, rfl⟩
                    have hst := run_storeVar_row (P := Tryz.prog) y0 gx 47 47 _ sy.ms.toArray hb5 (szMsgA HSW.out.len) (Eq.trans (show zMsg.size = 22 from rfl) (by rw [List.size_toArray, HSW.out.len])) (by simpa using HSW.out.one)
                    rw [hy5] at hst
                    have HSTM := Lib.hid hst
                    have HSY : Hid ((Tryz.prog.info? 47).map (·.size) = some sy.ms.toArray.size) := Lib.hid (szMsgA HSW.out.len)
                    have hbm : y5.heap[gx]? = some (.cells sy.ms.toArray 47 (0, 0)) := by rw [← hy5]; exact setRow_heap y0 gx _ _ _ _ hb5
                    have hk15 : Keep [] wa y5 := by rw [← hy5]; exact hk.setRow _ _ (.inr hgx)
                    have HBM := Lib.hid hbm
                    have HRA0 := HRA
                    have HRA := Lib.hid (HRA.out.kept hk15)
                    have HGF := Lib.hid (show gx ∉ F ∧ gx ≠ w5.heap.size from ⟨fun hm => by have := HRA0.out.co.lt _ hm; omega, by have := lt_of_heap HRA0.out.blk; omega⟩)
                    have hhan := rhandle_any (w := y5) (d := Dx.of c) oc' lc' (HIO.out.keep hk15 (by simp)) (HLA.out.kept hk15) (by have := moves_num HFN.out; show (movesF c).length ≤ 500; omega) HCP.out (fun y hy => (HIV.out.mo hy).2.1) (fun y hy => (HIV.out.mo hy).2.2) ⟨HMM.out.cnt.1, HMM.out.cnt.2.1⟩ ⟨HMM.out.cnt.2.2.1, HMM.out.cnt.2.2.2⟩ sy.ms.toArray (by rw [List.size_toArray, HSW.out.len]) sy.fr sy.k sy.mv sy.pt sy.cd (by simpa using HSW.out.c0) (by simpa using HSW.out.c1) (by simpa using HSW.out.c2) (by simpa using HSW.out.c6)
                    rw [dx_handle HIV.out, ← HCS.out, ← HC2.out] at hhan
                    unfold HanP at hhan
                    simp only at hhan
                    have HHAN := Lib.hid hhan
                    have hprog := fun (w : World) (h : CoS w p F c) => handleS h HMM.out sy.ms.toArray (by rw [List.size_toArray, HSW.out.len]) sy.fr sy.k sy.mv sy.pt sy.cd (by simpa using HSW.out.c0) (by simpa using HSW.out.c1) (by simpa using HSW.out.c2) (by simpa using HSW.out.c6)
                    rw [← HC2.out] at hprog
                    obtain ⟨is, his⟩ : ∃ q, (coHandle c sy.fr sy.k sy.mv sy.pt sy.cd).1 = q := ⟨_, rfl⟩
                    rw [his] at HHAN hprog
                    have HPROG := Lib.hid hprog
                    have HBA := Lib.hid HRA.out.blk
                    clear hk hS e1 hb5 hst hy5 hbm hk15 hhan hprog his
                    go_wp2_with (first | ((with_reducible refine wpList_store_all ?_ 47 (.tmp 22) (.tmp 175) ?_ (gx) ?_ sy.ms.toArray ?_ HSTM.out ?_); rfl; rfl; rfl; rfl) | ((with_reducible refine wpList_load_row ?_ 47 (.tmp 22) ?_ (gx) ?_ 47 sy.ms.toArray (0, 0) _ HBM.out Tryz.underlying47 ?_ HSY.out ?_); rfl; rfl; rfl; rfl) | ((with_reducible refine wpList_load_row ?_ 54 (.tmp 11) ?_ (w5.heap.size) ?_ 54 cs (0, 0) _ HBA.out Tryz.underlying54 ?_ HSZ.out ?_); rfl; rfl; rfl; rfl))
                    refine HHAN.out.mono ?_
                    rintro e y1 ⟨⟨cs1, rfl, hdx⟩, hk1⟩
                    have hr1 := HRA.out.dx HCS.out hk1 hdx
                    have HSZ1 := Lib.hid (szDx hr1.doc.size)
                    obtain ⟨y2, hst2, hk2, hb2⟩ := new_dx y1 hr1.doc.size hr1.doc.one
                    unfold zDx at hst2
                    have HST2 := Lib.hid hst2
                    have HB2 := Lib.hid hb2
                    have HR2 := Lib.hid (hr1.kept hk2)
                    obtain ⟨y3, hst3, hk3, hb3⟩ := set_dx HR2.out.blk HRA.out.doc.size hr1.doc.size hr1.doc.one
                    have HST3 := Lib.hid hst3
                    have HR3 := Lib.hid (HR2.out.put hk3 hb3)
                    have HBM := Lib.hid ((hk3.block _ (Nat.lt_of_lt_of_le (lt_of_heap HBM.out) (hk1.trans hk2).size) (by simpa using HGF.out.2)).trans (((hk1.trans hk2).block _ (lt_of_heap HBM.out) (by simp)).trans HBM.out))
                    clear hk1 hdx hr1 hst2 hk2 hb2 hst3 hk3 hb3
                    go_wp2_with (first | ((with_reducible refine wpList_store_all ?_ 54 (.tmp 23) (.tmp 181) ?_ (y1.heap.size) ?_ cs1 ?_ HST2.out ?_); rfl; rfl; rfl; rfl) | ((with_reducible refine wpList_load_row ?_ 54 (.tmp 23) ?_ (y1.heap.size) ?_ 54 cs1 (0, 0) _ HB2.out Tryz.underlying54 ?_ HSZ1.out ?_); rfl; rfl; rfl; rfl) | ((with_reducible refine wpList_store_all ?_ 54 (.tmp 11) (.tmp 183) ?_ (w5.heap.size) ?_ cs1 ?_ HST3.out ?_); rfl; rfl; rfl; rfl) | ((with_reducible refine wpList_load_row ?_ 47 (.tmp 22) ?_ (gx) ?_ 47 sy.ms.toArray (0, 0) _ HBM.out Tryz.underlying47 ?_ HSY.out ?_); rfl; rfl; rfl; rfl))
                    refine (HPROG.out _ HR3.out.co).mono ?_
                    rintro e y4 ⟨rfl, hn⟩
                    obtain ⟨F2, hr4⟩ := HR3.out.act hn
                    have HR4 := Lib.hid hr4
                    clear hn hr4
                    go_wp2_with (fail)
                    go_meet
                    exact ⟨F2, cs1, HR4.out⟩
                  · have g4 : ((dd : Int) == 4) = false := by simpa using hd4
                    have HC2 := Lib.hid (show c2 = c from HACF.out.trans ((if_neg hd0).trans ((if_neg hd1).trans (if_neg (fun h => h.elim hd2 hd4)))))
                    by_cases hd3 : dd = 3
                    · subst hd3
                      clear g0 g1 g2 g4 hd0 hd1 hd2 hd4
                      have HR := HRA
                      go_wp2_with (fail)
                      refine wp_region_soup 3 [] (spOf [(1, Spec.pr W.heap.size (tickF c))]) (by kernel_rfl) (by kernel_rfl) (spOk_of (by simp [Spec.pr_ok])) (pre_of (by simp [Spec.pr_ok])) ?_
                      simp only [List.take_succ_cons, List.take_zero, List.drop_succ_cons, List.drop_zero]
                      with_reducible refine soup_q ?_ ?_ ?_
                      · rfl
                      · rfl
                      with_reducible apply Exists.intro
                      with_reducible refine ⟨fun W hk _ => ?_, ?_⟩
                      · unfold Oper.same
                        go_simp
                        first | rfl | exact ⟨rfl, rfl⟩
                      with_reducible apply Exists.intro
                      with_reducible refine ⟨?_, ?_⟩
                      · go_simp
                        rfl
                      refine soup_s rfl rfl rfl (fun y0 hk _ _ => ?_) ?_
                      · unfold Oper.does
                        go_simp
                        refine (tickS (HR.out.co.kept hk) HFN.out HMM.out).mono ?_
                        rintro e' w' ⟨v, rfl, hr, hk'⟩
                        exact ⟨_, rfl, hk', hk.trans hk', trivial, own_low hr (HR.out.keep.trans hk).size⟩
                      intro v _
                      with_reducible apply Exists.intro
                      with_reducible refine ⟨?_, ?_⟩
                      · go_simp
                        rfl
                      with_reducible refine soup_q ?_ ?_ ?_
                      · rfl
                      · rfl
                      with_reducible apply Exists.intro
                      with_reducible refine ⟨fun y0 hk _ => ?_, ?_⟩
                      · exact same_load_dx (.tmp 11) rfl w5.heap.size rfl cs ((hk.block _ (lt_of_heap HR.out.blk) (by simp)).trans HR.out.blk) HSZ.out
                      with_reducible apply Exists.intro
                      with_reducible refine ⟨?_, ?_⟩
                      · go_simp
                        rfl
                      refine soup_nil (fun y0 hk hS => ?_)
                      have hr0 := hS 1
                      have HPR := Lib.hid hr0
                      have hry := HR.out.kept hk
                      have HRY := Lib.hid hry
                      have htk := rtick_any (w := y0) c HFN.out (fun y hy => (HIV.out.mo hy).1) (fun y hy => (HIV.out.mo hy).2.1) oc' lc' (HIO.out.keep hk (by simp)) (HLA.out.kept hk)
                      rw [← HCS.out] at htk
                      have HTK := Lib.hid htk
                      clear hr0 hk hS hry htk
                      go_wp2_with (fail)
                      refine HTK.out.mono ?_
                      rintro e8 y8 ⟨u, rfl, hu, hk8⟩
                      have HU := Lib.hid hu
                      have HRY := Lib.hid (HRY.out.kept hk8)
                      have HPR := Lib.hid (PRow.keep HPR.out hk8 (by simp))
                      clear hu hk8
                      go_wp2_with (fail)
                      refine (packets_true HPR.out HU.out (by have := tick_len HFN.out; omega)).mono ?_
                      rintro e9 y9 ⟨rfl, hk9⟩
                      have HRY := Lib.hid (HRY.out.kept hk9)
                      have HK3 := Lib.hid HRY.out.keep
                      clear hk9
                      go_wp2_with (fail)
                      go_meet
                      exact ⟨F, cs, by rw [HC2.out]; exact HRY.out⟩
                    · have g3 : ((dd : Int) == 3) = false := by simpa using hd3
                      clear hd0 hd1 hd2 hd4 hd3
                      go_wp2_with (fail)
                      go_meet
                      exact ⟨F, cs, by rw [HC2.out]; exact HRA.out⟩
          case rest =>
            obtain ⟨F2, cs2, hr2⟩ := hcut
            clear HR HCS HIO HLA HCP HSZ HRA HSAY HSW HX HSA HSTA HACT x0 x1 x2 x3 x5 x6 HPT HACF HIV HFN HMM HCC
            have HR2 := Lib.hid hr2
            obtain ⟨oa2, oc2, la2, lc2, hcs2, hI2, hL2, hcap2, _, _⟩ := hr2.doc
            have HI2 := Lib.hid hI2
            have HL2 := Lib.hid hL2
            have HCS2 := Lib.hid hcs2
            clear hr2 hI2 hL2 hcs2
            go_wp2_with (fail)
            refine (endedS HR2.out.co).mono ?_
            rintro e y1 ⟨rfl, hk1⟩
            have HI2 := Lib.hid (HI2.out.keep hk1 (by simp))
            have HL2 := Lib.hid (HL2.out.kept hk1)
            have HR3 := Lib.hid (HR2.out.kept hk1)
            clear hk1
            have hb3 : y1.heap[w5.heap.size]? = some (.cells #[.int .i64 c2.ep, .int .i64 c2.nd, .slice oa2 c2.own.length oc2, .slice la2 (movesF c2).length lc2, .int .i64 c2.last, .int .i64 c2.com, .int .i64 c2.abo] 54 (0, 0)) := by
              have h := HR3.out.blk
              rw [HCS2.out] at h
              exact h
            have HB3 := Lib.hid hb3
            clear hb3
            go_wp2_with (fail)
            refine wp_region_soup 26 [] (spOf [(1, Spec.mov y1.heap.size (movesF c2)), (4, Spec.is (.bool true)), (8, Spec.tbl y1.heap.size c2.ep c2.nd c2.own), (11, Spec.is (.bool true))]) (by kernel_rfl) (by kernel_rfl) (spOk_of (by simp [Spec.is_ok, Spec.mov_ok, Spec.tbl_ok])) (pre_of (by simp [Spec.is_ok, Spec.mov_ok, Spec.tbl_ok])) ?_
            simp only [List.take_succ_cons, List.take_zero, List.drop_succ_cons, List.drop_zero]
            with_reducible refine soup_q ?_ ?_ ?_
            · rfl
            · rfl
            with_reducible apply Exists.intro
            with_reducible refine ⟨fun W hk _ => ?_, ?_⟩
            · unfold Oper.same
              go_simp
              first | rfl | exact ⟨rfl, rfl⟩
            with_reducible apply Exists.intro
            with_reducible refine ⟨?_, ?_⟩
            · go_simp
              rfl
            refine soup_s rfl rfl rfl (fun y0 hk _ hd => ?_) ?_
            · unfold Oper.does
              go_simp
              refine (movesS (HR3.out.co.kept hk) HFN2.out HMM2.out).mono ?_
              rintro e w' ⟨v, rfl, hr, hk'⟩
              have hr' : MoRow y1.heap.size w' v (movesF c2) := own_low hr hk.size
              obtain ⟨a', c', hv, _⟩ := own_shape hr
              exact ⟨_, rfl, hk', hk.trans hk', ⟨a', c', hv⟩, hr'⟩
            rintro v ⟨am, cm, rfl⟩
            with_reducible apply Exists.intro
            with_reducible refine ⟨?_, ?_⟩
            · go_simp
              rfl
            with_reducible refine soup_q ?_ ?_ ?_
            · rfl
            · rfl
            with_reducible apply Exists.intro
            with_reducible refine ⟨fun W hk _ => ?_, ?_⟩
            · unfold Oper.same
              go_simp
              first | rfl | exact ⟨rfl, rfl⟩
            with_reducible apply Exists.intro
            with_reducible refine ⟨?_, ?_⟩
            · go_simp
              rfl
            with_reducible refine soup_q ?_ ?_ ?_
            · rfl
            · rfl
            with_reducible apply Exists.intro
            with_reducible refine ⟨fun W hk _ => ?_, ?_⟩
            · obtain ⟨d0, d1, d2, d3, d4, d5, d6, d7⟩ := DxFacts ((hk.block _ (lt_of_heap HB3.out) (by simp)).trans HB3.out)
              unfold Oper.same
              go_simp
              first | rfl | exact ⟨rfl, rfl⟩
            with_reducible apply Exists.intro
            with_reducible refine ⟨?_, ?_⟩
            · go_simp
              rfl
            refine soup_s rfl rfl rfl (fun y0 hk _ hd => ?_) ?_
            · have hr : MoRow y1.heap.size y0 _ (movesF c2) := hd 1 (Dep.of 1 (by kernel_rfl))
              unfold Oper.does
              go_simp
              refine (same_true lc2 hr (HL2.out.kept hk) (by have := moves_num HFN2.out; omega)).mono ?_
              rintro e w' ⟨rfl, hk'⟩
              exact ⟨_, rfl, hk', hk.trans hk', rfl, trivial⟩
            intro v hv
            obtain rfl : v = _ := hv
            with_reducible apply Exists.intro
            with_reducible refine ⟨?_, ?_⟩
            · go_simp
              rfl
            iterate 3
              with_reducible refine soup_q ?_ ?_ ?_
              · rfl
              · rfl
              with_reducible apply Exists.intro
              with_reducible refine ⟨fun W hk _ => ?_, ?_⟩
              · unfold Oper.same
                go_simp
                first | rfl | exact ⟨rfl, rfl⟩
              with_reducible apply Exists.intro
              with_reducible refine ⟨?_, ?_⟩
              · go_simp
                rfl
            refine soup_s rfl rfl rfl (fun y0 hk _ hd => ?_) ?_
            · unfold Oper.does
              go_simp
              refine (tableS (HR3.out.co.kept hk) HFN2.out).mono ?_
              rintro e w' ⟨a, d, rfl, hr, hk'⟩
              exact ⟨_, rfl, hk', hk.trans hk', ⟨a, d, rfl⟩, a, d, rfl, own_low hr hk.size⟩
            rintro v ⟨at', ct', rfl⟩
            with_reducible apply Exists.intro
            with_reducible refine ⟨?_, ?_⟩
            · go_simp
              rfl
            with_reducible refine soup_q ?_ ?_ ?_
            · rfl
            · rfl
            with_reducible apply Exists.intro
            with_reducible refine ⟨fun W hk _ => ?_, ?_⟩
            · unfold Oper.same
              go_simp
              first | rfl | exact ⟨rfl, rfl⟩
            with_reducible apply Exists.intro
            with_reducible refine ⟨?_, ?_⟩
            · go_simp
              rfl
            with_reducible refine soup_q ?_ ?_ ?_
            · rfl
            · rfl
            with_reducible apply Exists.intro
            with_reducible refine ⟨fun W hk _ => ?_, ?_⟩
            · obtain ⟨d0, d1, d2, d3, d4, d5, d6, d7⟩ := DxFacts ((hk.block _ (lt_of_heap HB3.out) (by simp)).trans HB3.out)
              unfold Oper.same
              go_simp
              first | rfl | exact ⟨rfl, rfl⟩
            with_reducible apply Exists.intro
            with_reducible refine ⟨?_, ?_⟩
            · go_simp
              rfl
            refine soup_s rfl rfl rfl (fun y0 hk _ hd => ?_) ?_
            · have hr : IntsAt y0 at' c2.own := by
                obtain ⟨a, c', e1, h1⟩ := hd 8 (Dep.of 1 (by kernel_rfl))
                have e2 : at' = a ∧ ct' = c' := by simpa using e1
                rw [e2.1]
                exact h1.at
              unfold Oper.does
              go_simp
              refine (rtsame_true c2.ep c2.nd ct' oc2 hr (HI2.out.keep hk (by simp)) (by have := HFN2.out.len; omega)).mono ?_
              rintro e w' ⟨rfl, hk'⟩
              exact ⟨_, rfl, hk', hk.trans hk', rfl, trivial⟩
            intro v hv
            obtain rfl : v = _ := hv
            with_reducible apply Exists.intro
            with_reducible refine ⟨?_, ?_⟩
            · go_simp
              rfl
            iterate 5
              with_reducible refine soup_q ?_ ?_ ?_
              · rfl
              · rfl
              with_reducible apply Exists.intro
              with_reducible refine ⟨fun W hk _ => ?_, ?_⟩
              · unfold Oper.same
                go_simp
                first | rfl | exact ⟨rfl, rfl⟩
              with_reducible apply Exists.intro
              with_reducible refine ⟨?_, ?_⟩
              · go_simp
                rfl
            with_reducible refine soup_q ?_ ?_ ?_
            · rfl
            · rfl
            with_reducible apply Exists.intro
            with_reducible refine ⟨fun W hk _ => ?_, ?_⟩
            · obtain ⟨d0, d1, d2, d3, d4, d5, d6, d7⟩ := DxFacts ((hk.block _ (lt_of_heap HB3.out) (by simp)).trans HB3.out)
              unfold Oper.same
              go_simp
              first | rfl | exact ⟨rfl, rfl⟩
            with_reducible apply Exists.intro
            with_reducible refine ⟨?_, ?_⟩
            · go_simp
              rfl
            iterate 5
              with_reducible refine soup_q ?_ ?_ ?_
              · rfl
              · rfl
              with_reducible apply Exists.intro
              with_reducible refine ⟨fun W hk _ => ?_, ?_⟩
              · unfold Oper.same
                go_simp
                first | rfl | exact ⟨rfl, rfl⟩
              with_reducible apply Exists.intro
              with_reducible refine ⟨?_, ?_⟩
              · go_simp
                rfl
            with_reducible refine soup_q ?_ ?_ ?_
            · rfl
            · rfl
            with_reducible apply Exists.intro
            with_reducible refine ⟨fun W hk _ => ?_, ?_⟩
            · obtain ⟨d0, d1, d2, d3, d4, d5, d6, d7⟩ := DxFacts ((hk.block _ (lt_of_heap HB3.out) (by simp)).trans HB3.out)
              unfold Oper.same
              go_simp
              first | rfl | exact ⟨rfl, rfl⟩
            with_reducible apply Exists.intro
            with_reducible refine ⟨?_, ?_⟩
            · go_simp
              rfl
            iterate 2
              with_reducible refine soup_q ?_ ?_ ?_
              · rfl
              · rfl
              with_reducible apply Exists.intro
              with_reducible refine ⟨fun W hk _ => ?_, ?_⟩
              · unfold Oper.same
                go_simp
                first | rfl | exact ⟨rfl, rfl⟩
              with_reducible apply Exists.intro
              with_reducible refine ⟨?_, ?_⟩
              · go_simp
                rfl
            refine soup_nil (fun y0 hk hS => ?_)
            have HR5 := Lib.hid (HR3.out.kept hk)
            clear hk hS
            go_wp2_with (fail)
            go_roundw
            case rel => exact ⟨j + 1, F2, cs2, by go_num, by omega, by rw [HNX.out]; exact HR5.out⟩
            case measure => go_light; simp [intOf]; omega
        · obtain rfl : j = l.length := by omega
          have hjn : ¬ (l.length : Int) < (l.length : Int) := by omega
          clear hcc hinv hr hcs hI' hL' hcap
          go_wp2_with (fail)
          refine wp_region_soup 3 [] (spOf [(1, Spec.pr W.heap.size (tickF c))]) (by kernel_rfl) (by kernel_rfl) (spOk_of (by simp [Spec.pr_ok])) (pre_of (by simp [Spec.pr_ok])) ?_
          simp only [List.take_succ_cons, List.take_zero, List.drop_succ_cons, List.drop_zero]
          with_reducible refine soup_q ?_ ?_ ?_
          · rfl
          · rfl
          with_reducible apply Exists.intro
          with_reducible refine ⟨fun W hk _ => ?_, ?_⟩
          · unfold Oper.same
            go_simp
            first | rfl | exact ⟨rfl, rfl⟩
          with_reducible apply Exists.intro
          with_reducible refine ⟨?_, ?_⟩
          · go_simp
            rfl
          refine soup_s rfl rfl rfl (fun y0 hk _ _ => ?_) ?_
          · unfold Oper.does
            go_simp
            refine (tickS (HR.out.co.kept hk) HFN.out HMM.out).mono ?_
            rintro e' w' ⟨v, rfl, hr, hk'⟩
            exact ⟨_, rfl, hk', hk.trans hk', trivial, own_low hr (HR.out.keep.trans hk).size⟩
          intro v _
          with_reducible apply Exists.intro
          with_reducible refine ⟨?_, ?_⟩
          · go_simp
            rfl
          with_reducible refine soup_q ?_ ?_ ?_
          · rfl
          · rfl
          with_reducible apply Exists.intro
          with_reducible refine ⟨fun y0 hk _ => ?_, ?_⟩
          · exact same_load_dx (.tmp 11) rfl w5.heap.size rfl cs ((hk.block _ (lt_of_heap HR.out.blk) (by simp)).trans HR.out.blk) HSZ.out
          with_reducible apply Exists.intro
          with_reducible refine ⟨?_, ?_⟩
          · go_simp
            rfl
          refine soup_nil (fun y0 hk hS => ?_)
          have hr0 := hS 1
          have HPR := Lib.hid hr0
          have hry := HR.out.kept hk
          have HRY := Lib.hid hry
          have htk := rtick_any (w := y0) c HFN.out (fun y hy => (HIV.out.mo hy).1) (fun y hy => (HIV.out.mo hy).2.1) oc' lc' (HIO.out.keep hk (by simp)) (HLA.out.kept hk)
          rw [← HCS.out] at htk
          have HTK := Lib.hid htk
          clear hr0 hk hS hry htk
          go_wp2_with (fail)
          refine HTK.out.mono ?_
          rintro e8 y8 ⟨u, rfl, hu, hk8⟩
          have HU := Lib.hid hu
          have HRY := Lib.hid (HRY.out.kept hk8)
          have HPR := Lib.hid (PRow.keep HPR.out hk8 (by simp))
          clear hu hk8
          go_wp2_with (fail)
          refine (packets_true HPR.out HU.out (by have := tick_len HFN.out; omega)).mono ?_
          rintro e9 y9 ⟨rfl, hk9⟩
          have HRY := Lib.hid (HRY.out.kept hk9)
          have HK3 := Lib.hid HRY.out.keep
          clear hk9
          go_wp2_with (fail)
          go_ret
          exact ⟨rfl, HK3.out.below (Nat.le_refl _) (by simp)⟩
end Go.Proofs.YteejdfpfdnkiiaaGreat
