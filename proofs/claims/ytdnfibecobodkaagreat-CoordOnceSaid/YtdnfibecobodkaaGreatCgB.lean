/- tells: does a tick tell each move's sides what they must know? -/
import Derived.Test.YtdnfibecobodkaaGreatCgO
namespace Go.Proofs.YtdnfibecobodkaaGreat
open Go.RowKit Go.Lib
set_option linter.unusedSimpArgs false
set_option linter.unusedVariables false
/-- A message goes into new memory. -/
theorem store_msg3 (w : World) {cs : Array Value} (hs : cs.size = 22) (h1 : cs.all (·.oneCell') = true) : ∃ w', (storeVar 40 ⟨w.heap.size, 0, none⟩ (.agg cs)).run Tryz.prog (w.alloc (.cells zMsg 40)) = .ok () w' ∧ Keep [] w w' ∧ MsAt w' w.heap.size cs := by
  have hz : (w.alloc (.cells zMsg 40)).heap[w.heap.size]? = some (.cells zMsg 40 (0, 0)) := World.alloc_heap_new w _
  refine ⟨_, run_storeVar_row (P := Tryz.prog) _ w.heap.size 40 40 _ cs hz (by rw [hs]; exact msg_size) (by rw [hs]; rfl) h1, ?_, ?_⟩
  · exact ((Keep.refl _ _).alloc _).setRow _ _ (.inr (Nat.le_refl _))
  · exact setRow_heap _ w.heap.size _ _ _ _ hz
set_option maxRecDepth 100000 in
set_option maxHeartbeats 16000000 in
theorem tells_any {n s k : Nat} {w : World} {p : Nat} {F : List Nat} {c : Cd} (hc : CoS w p F c) (hI : CdInv n s k c) (hk : k ≤ 300) (hn : n ≤ 4) (hs : s ≤ 8) {b1 b2 : Nat} {v : Value} (hv : MoRow b1 w v (movesF c)) {ua : Option Addr} {ud : Nat} (hu : IRow b2 w (.slice ua c.own.length ud) c.own) :
    Calls Tryz.prog 31 #[.pointer (some ⟨p, 0, none⟩), v, .agg #[.int .i64 c.ep, .int .i64 c.nd, .slice ua c.own.length ud]] w fun e w' => e = .returned (.bool true) ∧ Keep [] w w' := by
  have hfi := hI.toFine hk hn hs
  have hme := hI.toMem hk
  have hep := hfi.ep
  have hnd := hI.nd
  have hol := hI.len
  obtain ⟨W1, hW1⟩ : ∃ x, w.alloc (.cells #[.int .i64 c.ep, .int .i64 c.nd, .slice ua c.own.length ud] 28) = x := ⟨_, rfl⟩
  have k1 : Keep [] w W1 := by rw [← hW1]; exact (Keep.refl _ _).alloc _
  have HBT := Lib.hid (show W1.heap[w.heap.size]? = some (.cells #[.int .i64 c.ep, .int .i64 c.nd, .slice ua c.own.length ud] 28 (0, 0)) from by rw [← hW1]; exact World.alloc_heap_new w _)
  have HK := Lib.hid k1
  have HC := Lib.hid (hc.kept k1)
  have HV := Lib.hid (MoRow.keep hv k1 (by simp))
  have HU := Lib.hid (hu.keep k1 (by simp))
  have HI := Lib.hid hI
  have HFI := Lib.hid hfi
  have HME := Lib.hid hme
  have HFR := Lib.hid (tick_from hI)
  have HCN := Lib.hid (tick_cnt hI)
  have HMO := Lib.hid (tickM_ok hfi)
  have HTL := Lib.hid (tickM_len hfi)
  have HML := Lib.hid (moves_len hfi)
  obtain ⟨av, cv, rfl, _⟩ := own_shape hv
  obtain ⟨nl, hnl⟩ : ∃ x, (movesF c).length = x := ⟨_, rfl⟩
  obtain ⟨on, hon⟩ : ∃ x, c.own.length = x := ⟨_, rfl⟩
  have HNL := Lib.hid hnl
  have HON := Lib.hid hon
  have hon8 : on ≤ 8 := by omega
  rw [hnl] at HV HML ⊢
  rw [hon] at hW1 HBT ⊢
  have HEP := Lib.hid (show ((c.ep.toNat : Nat) : Int) = c.ep from Int.toNat_of_nonneg hep.1)
  have HND := Lib.hid (show ((c.nd.toNat : Nat) : Int) = c.nd from by rw [hnd]; simp)
  have HN := Lib.hid hnd
  have HNN := Lib.hid hn
  clear hc hI hv hu hfi hme hep hnd hol k1 hnl hon hk hn hs
  go_enter Tryz.func31, Tryz.ntmps31
  go_wp2_with (fail)
  refine (tickS HC.out HFI.out HME.out).mono ?_
  rintro e W2 ⟨tv, rfl, htv, hk2⟩
  rw [tick_map] at htv
  obtain ⟨ta, tc, rfl, _⟩ := own_shape htv
  have HPR := Lib.hid htv
  have HK := Lib.hid (HK.out.trans hk2)
  have HV := Lib.hid (MoRow.keep HV.out hk2 (by simp))
  have HU := Lib.hid (HU.out.keep hk2 (by simp))
  have HBT := Lib.hid ((hk2.block _ (lt_of_heap HBT.out) (by simp)).trans HBT.out)
  obtain ⟨M, hM⟩ : ∃ M, tickM c = M := ⟨_, rfl⟩
  rw [hM] at HPR HTL HMO HFR HCN ⊢
  obtain ⟨tn, htn⟩ : ∃ tn, (M.map pkOf).length = tn := ⟨_, rfl⟩
  have HTN : Hid (M.length = tn) := Lib.hid (by rw [← htn, List.length_map])
  have HTM := Lib.hid htn
  rw [htn] at HPR ⊢
  have htl : tn ≤ 1000 := by rw [← HTN.out]; exact HTL.out
  clear htv hk2 hM htn HC HME hW1
  go_wp2_with (fail)
  go_loopw [8, 9] (fun cn i wr => ∃ i' : Nat, i = .int .i64 i' ∧ i' ≤ tn ∧ cn = .int .i64 ((M.take i').countP is14 : Nat) ∧ Keep [] W2 wr) (fun _ i _ => tn - (intOf i).toNat)
  case atStart => exact ⟨0, rfl, Nat.zero_le _, rfl, Keep.refl _ _⟩
  case round =>
    obtain ⟨i, rfl, hi, rfl, hk0⟩ := hrel
    obtain ⟨Wi, hWi⟩ : ∃ u, u = wr := ⟨_, rfl⟩
    subst hWi
    have h0i : (0 : Int) ≤ (i : Int) := Int.natCast_nonneg i
    by_cases hli : i < tn
    · have hin : (i : Int) < (tn : Int) := by omega
      obtain ⟨⟨to, m⟩, hp⟩ : ∃ x, M[i]? = some x := ⟨M[i]'(by rw [HTN.out]; exact hli), List.getElem?_eq_getElem _⟩
      have hfr := HFR.out _ (List.mem_of_getElem? hp)
      have hmo := HMO.out _ (List.mem_of_getElem? hp)
      have HC14 := Lib.hid (cnt14_snoc hp)
      obtain ⟨t0, ht0⟩ : ∃ t0, (M.take i).countP is14 = t0 := ⟨_, rfl⟩
      have ht0b : t0 ≤ 1000 := by rw [← ht0]; exact Nat.le_trans List.countP_le_length (Nat.le_trans (List.length_take_le _ _) (by omega))
      rw [ht0] at HC14 ⊢
      have hne : M.map pkOf ≠ [] := by intro e; rw [List.map_eq_nil_iff] at e; rw [e] at hp; simp at hp
      have hpk : (M.map pkOf)[i]? = some (pkOf (to, m)) := by rw [List.getElem?_map, hp]; rfl
      have hprr := HPR.out
      rw [← HTM.out] at hprr
      obtain ⟨ga, ca, hv', hg0, hg1, _, hcell⟩ := rows_at Pk.len (PRow.keep hprr hk0 (by simp)) hne
      simp only [Value.slice.injEq] at hv'
      obtain ⟨rfl, -, rfl⟩ := hv'
      have x0 := hcell i 0 _ hpk (by omega)
      have x1 := hcell i 1 _ hpk (by omega)
      have x2 := hcell i 2 _ hpk (by omega)
      simp only [Pk.cells, pkOf, List.getElem?_cons_zero, List.getElem?_cons_succ, Nat.add_zero] at x0 x1 x2
      obtain ⟨ds, hds⟩ : ∃ ds : ByteArray, ⟨(frameB m.enc).toArray⟩ = ds := ⟨_, rfl⟩
      rw [hds] at x2
      have HOF := Lib.hid (msgof_any (w := Wi) (s := ds) hmo (by rw [← hds]))
      have HX0 := Lib.hid x0
      have HX1 := Lib.hid x1
      have HGA := Lib.hid hg1
      have HK0 := Lib.hid hk0
      clear hmo hne hpk hprr hcell hds x0 x1 ht0 hp hk0
      go_wp2_with (fail)
      clear x2
      refine HOF.out.mono ?_
      rintro e W13 ⟨vp, rfl, hir, hk13⟩
      obtain ⟨va, vc, rfl, _⟩ := own_shape hir
      obtain ⟨W14, hst, hk14, hm14⟩ := store_msg3 W13 (cs := m.cells (.slice va m.own.length vc)) rfl (Mg.one m va _ vc)
      unfold zMsg at hst
      have HSTO := Lib.hid hst
      have hk15 := hk13.trans hk14
      have HKR := Lib.hid (HK0.out.trans hk15)
      have HIR := Lib.hid (IRow.keep hir hk14 (by simp))
      have HX1 := Lib.hid ((hk15.cell _ HGA.out (by simp)).trans HX1.out)
      have x0 := (hk15.cell _ HGA.out (by simp)).trans HX0.out
      have HGA := Lib.hid (Nat.lt_of_lt_of_le HGA.out hk15.size)
      obtain ⟨y0, y1, y2, y3, y17, y18, y19⟩ : W14.cell? ⟨W13.heap.size, 0, none⟩ = some (.int .u8 m.k) ∧ W14.cell? ⟨W13.heap.size, 1, none⟩ = some (.int .i64 m.mv) ∧ W14.cell? ⟨W13.heap.size, 2, none⟩ = some (.int .i64 m.pt) ∧ W14.cell? ⟨W13.heap.size, 3, none⟩ = some (.int .i64 m.to) ∧ W14.cell? ⟨W13.heap.size, 17, none⟩ = some (.int .i64 m.ep) ∧ W14.cell? ⟨W13.heap.size, 18, none⟩ = some (.int .i64 m.nd) ∧ W14.cell? ⟨W13.heap.size, 19, none⟩ = some (.slice va m.own.length vc) := by
        have h : W14.heap[W13.heap.size]? = some (.cells (m.cells (.slice va m.own.length vc)) 40 (0, 0)) := hm14
        refine ⟨?_, ?_, ?_, ?_, ?_, ?_, ?_⟩ <;> (unfold World.cell?; rw [h]; rfl)
      have HM14 := Lib.hid (lt_of_heap (show W14.heap[W13.heap.size]? = some (.cells (m.cells (.slice va m.own.length vc)) 40 (0, 0)) from hm14))
      obtain ⟨mc, hmc⟩ : ∃ mc, m.cells (.slice va m.own.length vc) = mc := ⟨_, rfl⟩
      rw [hmc] at HSTO ⊢
      clear hir hk13 hk14 hm14 hst hk15 hmc HOF
      rcases hfr with hfr | ⟨q, hq, h1, h2, hpe⟩ | ⟨q, hq, h1, h2, hpe⟩ | ⟨q, hq, h1, h2, hpe⟩ | ⟨q, hq, h1, h2, hpe⟩ | ⟨q, hq, h1, h2, hpe⟩
      · have hm : m = m14 c := hfr
        have HISN : Hid (is14 (to, m) = true) := Lib.hid (by rw [hm]; rfl)
        have y17' : W14.cell? ⟨W13.heap.size, 17, none⟩ = some (.int .i64 c.ep) := by rw [y17, hm, ← HEP.out]; rfl
        have y18' : W14.cell? ⟨W13.heap.size, 18, none⟩ = some (.int .i64 c.nd) := by rw [y18, hm, ← HND.out]; rfl
        have y0' : W14.cell? ⟨W13.heap.size, 0, none⟩ = some (.int .u8 14) := by rw [y0, hm]; rfl
        have hmown : m.own = c.own := by rw [hm]; rfl
        have y19' : W14.cell? ⟨W13.heap.size, 19, none⟩ = some (.slice va on vc) := by rw [y19, hmown, HON.out]
        have hir2 : IRow Wi.heap.size W14 (.slice va c.own.length vc) c.own := by have h := HIR.out; rw [hmown] at h; exact h
        have HSM := Lib.hid (tsame_true c.ep c.nd vc ud (w := W14) hir2.at (HU.out.keep (HKR.out) (by simp)).at (by rw [HON.out]; omega))
        rw [HON.out] at HSM
        clear y0 y17 y18 y19 hm hmown hir2 hfr
        obtain ⟨d0, d1, d2, d3⟩ := TbFacts ((HKR.out.block _ (lt_of_heap HBT.out) (by simp)).trans HBT.out)
        clear y1 y2 y3
        go_wp2_with ((with_reducible refine wpList_store_all ?_ 40 (.tmp 10) (.tmp 32) ?_ (W13.heap.size) ?_ mc ?_ HSTO.out ?_); rfl; rfl; rfl; rfl)
        refine HSM.out.mono ?_
        rintro e W15 ⟨rfl, hk15⟩
        have HKE := Lib.hid (HKR.out.trans hk15)
        clear hk15 y0' y17' y18' y19' d0 d1 d2 d3 x0
        go_wp2_with (fail)
        go_roundw
        case rel => exact ⟨i + 1, by go_num, by omega, by rw [HC14.out, HISN.out]; first | rfl | (push_cast; rfl), HKE.out⟩
        case measure => go_light; simp [intOf]; omega
      · have e := HI.out.mem q hq
        have hfm := found_moves HI.out hq
        obtain ⟨hmv, hpt, hfrr, htoo, hfne⟩ : (1 ≤ q.2.mv) ∧ (0 ≤ q.2.part) ∧ (0 ≤ q.2.fr) ∧ (0 ≤ q.2.to) ∧ q.2.fr ≠ q.2.to := ⟨e.mv.1, e.part.1, e.fr.1, e.to.1, e.ne⟩
        have hto : to = q.2.fr := congrArg Prod.fst hpe
        have hm : m = m4 q.2 := congrArg Prod.snd hpe
        have HISN : Hid (is14 (to, m) = false) := Lib.hid (by rw [hm]; rfl)
        have HY0 : Hid (W14.cell? ⟨W13.heap.size, 0, none⟩ = some (.int .u8 4)) := Lib.hid (by rw [y0, hm]; rfl)
        have HY1 : Hid (W14.cell? ⟨W13.heap.size, 1, none⟩ = some (.int .i64 q.2.mv)) := Lib.hid (by rw [y1, hm]; exact congrArg (fun z => some (Value.int .i64 z)) (Int.toNat_of_nonneg (show 0 ≤ q.2.mv by omega)))
        have HY2 : Hid (W14.cell? ⟨W13.heap.size, 2, none⟩ = some (.int .i64 q.2.part)) := Lib.hid (by rw [y2, hm]; exact congrArg (fun z => some (Value.int .i64 z)) (Int.toNat_of_nonneg hpt))
        have HY3 : Hid (W14.cell? ⟨W13.heap.size, 3, none⟩ = some (.int .i64 q.2.to)) := Lib.hid (by rw [y3, hm]; exact congrArg (fun z => some (Value.int .i64 z)) (Int.toNat_of_nonneg htoo))
        obtain ⟨⟨st, dn⟩, ht⟩ : ∃ t, atOf q.2.mv c.at_ = t := ⟨_, rfl⟩
        rw [ht] at h1 h2 hfm
        simp only at h1 h2
        obtain ⟨qk, ⟨mvq, part, fr, to'⟩⟩ := q
        simp only at *
        have HFM := Lib.hid hfm
        have hto2 := hto.symm
        subst hto2
        subst h1
        subst h2
        have gft : (fr == to') = false := by simpa using hfne
        have gda : (bits BinOp.and .i64 0 1 != 0) = false := rfl
        have HFI := Lib.hid (find_any (w := W14) (MoRow.keep HV.out HKR.out (by simp)) (by rw [HNL.out]; have := HML.out; omega) mvq)
        clear y0 y1 y2 y3 y17 y18 y19
        have y0 := HY0.out
        have y1 := HY1.out
        clear hm hpe ht hq e hfm hfne hmv hpt hfrr htoo
        go_wp2_with ((with_reducible refine wpList_store_all ?_ 40 (.tmp 10) (.tmp 32) ?_ (W13.heap.size) ?_ mc ?_ HSTO.out ?_); rfl; rfl; rfl; rfl)
        refine HFI.out.mono ?_
        rintro e W15 ⟨rfl, hk15⟩
        rw [HFM.out]
        simp only [Option.getD_some, Option.isSome_some]
        obtain ⟨W16, hW16⟩ : ∃ x, W15.alloc (.cells #[.int .i64 mvq, .int .i64 part, .int .i64 fr, .int .i64 to', .int .i64 1, .int .i64 0] 56) = x := ⟨_, rfl⟩
        have k16 : Keep [] W15 W16 := by rw [← hW16]; exact (Keep.refl _ _).alloc _
        have HZ := Lib.hid (show SixAt W16 W15.heap.size (.int .i64 mvq) (.int .i64 part) (.int .i64 fr) (.int .i64 to') (.int .i64 1) (.int .i64 0) from ⟨by rw [← hW16]; exact World.alloc_heap_new W15 _⟩)
        have HW16 := Lib.hid hW16
        have hk := hk15.trans k16
        have K16 := Lib.hid hk
        have HY0 := Lib.hid ((hk.cell _ HM14.out (by simp)).trans HY0.out)
        have HY1 := Lib.hid ((hk.cell _ HM14.out (by simp)).trans HY1.out)
        have HY2 := Lib.hid ((hk.cell _ HM14.out (by simp)).trans HY2.out)
        have HY3 := Lib.hid ((hk.cell _ HM14.out (by simp)).trans HY3.out)
        have HX1 := Lib.hid ((hk.cell _ HGA.out (by simp)).trans HX1.out)
        have HGA := Lib.hid (Nat.lt_of_lt_of_le HGA.out hk.size)
        have HMB := Lib.hid (Nat.lt_of_lt_of_le HM14.out hk.size)
        have HZB := Lib.hid (lt_of_heap HZ.out.blk)
        clear hk hk15 k16 hW16 y0 y1 x0
        go_upto_region 15 with (fail)
        rw [HW16.out]
        have K17 := Lib.hid (Keep.refl [] W16)
        refine wp_region_soup 7 [] (fun _ => none) (by kernel_rfl) (by kernel_rfl) (spOk_of (l := []) (by simp)) (pre_of (l := []) (by simp)) ?_
        simp only [List.take_succ_cons, List.take_zero, List.drop_succ_cons, List.drop_zero]
        with_reducible refine soup_q ?_ ?_ ?_
        · rfl
        · rfl
        with_reducible apply Exists.intro
        with_reducible refine ⟨fun W hk _ => ?_, ?_⟩
        · unfold Oper.same
          go_simp
          first | rfl | exact ⟨rfl, rfl⟩
        with_reducible apply Exists.intro
        with_reducible refine ⟨?_, ?_⟩
        · go_simp
          rfl
        with_reducible refine soup_q ?_ ?_ ?_
        · rfl
        · rfl
        with_reducible apply Exists.intro
        with_reducible refine ⟨fun W hk _ => ?_, ?_⟩
        · unfold Oper.same
          go_simp
          first | rfl | exact ⟨rfl, rfl⟩
        with_reducible apply Exists.intro
        with_reducible refine ⟨?_, ?_⟩
        · go_simp
          rfl
        with_reducible refine soup_q ?_ ?_ ?_
        · rfl
        · rfl
        with_reducible apply Exists.intro
        with_reducible refine ⟨fun W hk _ => ?_, ?_⟩
        · unfold Oper.same
          go_simp
          first | rfl | exact ⟨rfl, rfl⟩
        with_reducible apply Exists.intro
        with_reducible refine ⟨?_, ?_⟩
        · go_simp
          rfl
        with_reducible refine soup_q ?_ ?_ ?_
        · rfl
        · rfl
        with_reducible apply Exists.intro
        with_reducible refine ⟨fun W hk _ => ?_, ?_⟩
        · unfold Oper.same
          go_simp
          first | rfl | exact ⟨rfl, rfl⟩
        with_reducible apply Exists.intro
        with_reducible refine ⟨?_, ?_⟩
        · go_simp
          rfl
        with_reducible refine soup_q ?_ ?_ ?_
        · rfl
        · rfl
        with_reducible apply Exists.intro
        with_reducible refine ⟨fun W hk _ => ?_, ?_⟩
        · have x1 := ((K17.out.trans hk).cell _ HGA.out (by simp)).trans HX1.out
          unfold Oper.same
          go_simp
          first | rfl | exact ⟨rfl, rfl⟩
        with_reducible apply Exists.intro
        with_reducible refine ⟨?_, ?_⟩
        · go_simp
          rfl
        with_reducible refine soup_q ?_ ?_ ?_
        · rfl
        · rfl
        with_reducible apply Exists.intro
        with_reducible refine ⟨fun W hk _ => ?_, ?_⟩
        · unfold Oper.same
          go_simp
          first | rfl | exact ⟨rfl, rfl⟩
        with_reducible apply Exists.intro
        with_reducible refine ⟨?_, ?_⟩
        · go_simp
          rfl
        with_reducible refine soup_q ?_ ?_ ?_
        · rfl
        · rfl
        with_reducible apply Exists.intro
        with_reducible refine ⟨fun W hk _ => ?_, ?_⟩
        · have z3 := ((K17.out.trans hk).cell _ HZB.out (by simp)).trans HZ.out.facts.2.2.2.1
          unfold Oper.same
          go_simp
          first | rfl | exact ⟨rfl, rfl⟩
        with_reducible apply Exists.intro
        with_reducible refine ⟨?_, ?_⟩
        · go_simp
          rfl
        refine soup_nil (fun W17 hk hS => ?_)
        have K17 := Lib.hid (K17.out.trans hk)
        clear hk hS
        go_wp2_with (fail)
        refine wp_region_soup 33 [] (fun _ => none) (by kernel_rfl) (by kernel_rfl) (spOk_of (l := []) (by simp)) (pre_of (l := []) (by simp)) ?_
        simp only [List.take_succ_cons, List.take_zero, List.drop_succ_cons, List.drop_zero]
        with_reducible refine soup_q ?_ ?_ ?_
        · rfl
        · rfl
        with_reducible apply Exists.intro
        with_reducible refine ⟨fun W hk _ => ?_, ?_⟩
        · unfold Oper.same
          go_simp
          first | rfl | exact ⟨rfl, rfl⟩
        with_reducible apply Exists.intro
        with_reducible refine ⟨?_, ?_⟩
        · go_simp
          rfl
        with_reducible refine soup_q ?_ ?_ ?_
        · rfl
        · rfl
        with_reducible apply Exists.intro
        with_reducible refine ⟨fun W hk _ => ?_, ?_⟩
        · unfold Oper.same
          go_simp
          first | rfl | exact ⟨rfl, rfl⟩
        with_reducible apply Exists.intro
        with_reducible refine ⟨?_, ?_⟩
        · go_simp
          rfl
        with_reducible refine soup_q ?_ ?_ ?_
        · rfl
        · rfl
        with_reducible apply Exists.intro
        with_reducible refine ⟨fun W hk _ => ?_, ?_⟩
        · unfold Oper.same
          go_simp
          first | rfl | exact ⟨rfl, rfl⟩
        with_reducible apply Exists.intro
        with_reducible refine ⟨?_, ?_⟩
        · go_simp
          rfl
        with_reducible refine soup_q ?_ ?_ ?_
        · rfl
        · rfl
        with_reducible apply Exists.intro
        with_reducible refine ⟨fun W hk _ => ?_, ?_⟩
        · unfold Oper.same
          go_simp
          first | rfl | exact ⟨rfl, rfl⟩
        with_reducible apply Exists.intro
        with_reducible refine ⟨?_, ?_⟩
        · go_simp
          rfl
        with_reducible refine soup_q ?_ ?_ ?_
        · rfl
        · rfl
        with_reducible apply Exists.intro
        with_reducible refine ⟨fun W hk _ => ?_, ?_⟩
        · have y2 := ((K17.out.trans hk).cell _ HMB.out (by simp)).trans HY2.out
          unfold Oper.same
          go_simp
          first | rfl | exact ⟨rfl, rfl⟩
        with_reducible apply Exists.intro
        with_reducible refine ⟨?_, ?_⟩
        · go_simp
          rfl
        with_reducible refine soup_q ?_ ?_ ?_
        · rfl
        · rfl
        with_reducible apply Exists.intro
        with_reducible refine ⟨fun W hk _ => ?_, ?_⟩
        · unfold Oper.same
          go_simp
          first | rfl | exact ⟨rfl, rfl⟩
        with_reducible apply Exists.intro
        with_reducible refine ⟨?_, ?_⟩
        · go_simp
          rfl
        with_reducible refine soup_q ?_ ?_ ?_
        · rfl
        · rfl
        with_reducible apply Exists.intro
        with_reducible refine ⟨fun W hk _ => ?_, ?_⟩
        · have z1 := ((K17.out.trans hk).cell _ HZB.out (by simp)).trans HZ.out.facts.2.1
          unfold Oper.same
          go_simp
          first | rfl | exact ⟨rfl, rfl⟩
        with_reducible apply Exists.intro
        with_reducible refine ⟨?_, ?_⟩
        · go_simp
          rfl
        with_reducible refine soup_q ?_ ?_ ?_
        · rfl
        · rfl
        with_reducible apply Exists.intro
        with_reducible refine ⟨fun W hk _ => ?_, ?_⟩
        · unfold Oper.same
          go_simp
          first | rfl | exact ⟨rfl, rfl⟩
        with_reducible apply Exists.intro
        with_reducible refine ⟨?_, ?_⟩
        · go_simp
          rfl
        with_reducible refine soup_q ?_ ?_ ?_
        · rfl
        · rfl
        with_reducible apply Exists.intro
        with_reducible refine ⟨fun W hk _ => ?_, ?_⟩
        · unfold Oper.same
          go_simp
          first | rfl | exact ⟨rfl, rfl⟩
        with_reducible apply Exists.intro
        with_reducible refine ⟨?_, ?_⟩
        · go_simp
          rfl
        with_reducible refine soup_q ?_ ?_ ?_
        · rfl
        · rfl
        with_reducible apply Exists.intro
        with_reducible refine ⟨fun W hk _ => ?_, ?_⟩
        · unfold Oper.same
          go_simp
          first | rfl | exact ⟨rfl, rfl⟩
        with_reducible apply Exists.intro
        with_reducible refine ⟨?_, ?_⟩
        · go_simp
          rfl
        with_reducible refine soup_q ?_ ?_ ?_
        · rfl
        · rfl
        with_reducible apply Exists.intro
        with_reducible refine ⟨fun W hk _ => ?_, ?_⟩
        · unfold Oper.same
          go_simp
          first | rfl | exact ⟨rfl, rfl⟩
        with_reducible apply Exists.intro
        with_reducible refine ⟨?_, ?_⟩
        · go_simp
          rfl
        with_reducible refine soup_q ?_ ?_ ?_
        · rfl
        · rfl
        with_reducible apply Exists.intro
        with_reducible refine ⟨fun W hk _ => ?_, ?_⟩
        · unfold Oper.same
          go_simp
          first | rfl | exact ⟨rfl, rfl⟩
        with_reducible apply Exists.intro
        with_reducible refine ⟨?_, ?_⟩
        · go_simp
          rfl
        with_reducible refine soup_q ?_ ?_ ?_
        · rfl
        · rfl
        with_reducible apply Exists.intro
        with_reducible refine ⟨fun W hk _ => ?_, ?_⟩
        · unfold Oper.same
          go_simp
          first | rfl | exact ⟨rfl, rfl⟩
        with_reducible apply Exists.intro
        with_reducible refine ⟨?_, ?_⟩
        · go_simp
          rfl
        with_reducible refine soup_q ?_ ?_ ?_
        · rfl
        · rfl
        with_reducible apply Exists.intro
        with_reducible refine ⟨fun W hk _ => ?_, ?_⟩
        · unfold Oper.same
          go_simp
          first | rfl | exact ⟨rfl, rfl⟩
        with_reducible apply Exists.intro
        with_reducible refine ⟨?_, ?_⟩
        · go_simp
          rfl
        with_reducible refine soup_q ?_ ?_ ?_
        · rfl
        · rfl
        with_reducible apply Exists.intro
        with_reducible refine ⟨fun W hk _ => ?_, ?_⟩
        · have x1 := ((K17.out.trans hk).cell _ HGA.out (by simp)).trans HX1.out
          unfold Oper.same
          go_simp
          first | rfl | exact ⟨rfl, rfl⟩
        with_reducible apply Exists.intro
        with_reducible refine ⟨?_, ?_⟩
        · go_simp
          rfl
        with_reducible refine soup_q ?_ ?_ ?_
        · rfl
        · rfl
        with_reducible apply Exists.intro
        with_reducible refine ⟨fun W hk _ => ?_, ?_⟩
        · unfold Oper.same
          go_simp
          first | rfl | exact ⟨rfl, rfl⟩
        with_reducible apply Exists.intro
        with_reducible refine ⟨?_, ?_⟩
        · go_simp
          rfl
        with_reducible refine soup_q ?_ ?_ ?_
        · rfl
        · rfl
        with_reducible apply Exists.intro
        with_reducible refine ⟨fun W hk _ => ?_, ?_⟩
        · have z2 := ((K17.out.trans hk).cell _ HZB.out (by simp)).trans HZ.out.facts.2.2.1
          unfold Oper.same
          go_simp
          first | rfl | exact ⟨rfl, rfl⟩
        with_reducible apply Exists.intro
        with_reducible refine ⟨?_, ?_⟩
        · go_simp
          rfl
        with_reducible refine soup_q ?_ ?_ ?_
        · rfl
        · rfl
        with_reducible apply Exists.intro
        with_reducible refine ⟨fun W hk _ => ?_, ?_⟩
        · unfold Oper.same
          go_simp
          first | rfl | exact ⟨rfl, rfl⟩
        with_reducible apply Exists.intro
        with_reducible refine ⟨?_, ?_⟩
        · go_simp
          rfl
        with_reducible refine soup_q ?_ ?_ ?_
        · rfl
        · rfl
        with_reducible apply Exists.intro
        with_reducible refine ⟨fun W hk _ => ?_, ?_⟩
        · unfold Oper.same
          go_simp
          first | rfl | exact ⟨rfl, rfl⟩
        with_reducible apply Exists.intro
        with_reducible refine ⟨?_, ?_⟩
        · go_simp
          rfl
        iterate 8
          with_reducible refine soup_no ?_ ?_
          · rfl
          with_reducible apply Exists.intro
          with_reducible refine ⟨?_, ?_⟩
          · go_simp
            rfl
        with_reducible refine soup_q ?_ ?_ ?_
        · rfl
        · rfl
        with_reducible apply Exists.intro
        with_reducible refine ⟨fun W hk _ => ?_, ?_⟩
        · unfold Oper.same
          go_simp
          first | rfl | exact ⟨rfl, rfl⟩
        with_reducible apply Exists.intro
        with_reducible refine ⟨?_, ?_⟩
        · go_simp
          rfl
        with_reducible refine soup_q ?_ ?_ ?_
        · rfl
        · rfl
        with_reducible apply Exists.intro
        with_reducible refine ⟨fun W hk _ => ?_, ?_⟩
        · unfold Oper.same
          go_simp
          first | rfl | exact ⟨rfl, rfl⟩
        with_reducible apply Exists.intro
        with_reducible refine ⟨?_, ?_⟩
        · go_simp
          rfl
        with_reducible refine soup_q ?_ ?_ ?_
        · rfl
        · rfl
        with_reducible apply Exists.intro
        with_reducible refine ⟨fun W hk _ => ?_, ?_⟩
        · unfold Oper.same
          go_simp
          first | rfl | exact ⟨rfl, rfl⟩
        with_reducible apply Exists.intro
        with_reducible refine ⟨?_, ?_⟩
        · go_simp
          rfl
        with_reducible refine soup_q ?_ ?_ ?_
        · rfl
        · rfl
        with_reducible apply Exists.intro
        with_reducible refine ⟨fun W hk _ => ?_, ?_⟩
        · unfold Oper.same
          go_simp
          first | rfl | exact ⟨rfl, rfl⟩
        with_reducible apply Exists.intro
        with_reducible refine ⟨?_, ?_⟩
        · go_simp
          rfl
        with_reducible refine soup_q ?_ ?_ ?_
        · rfl
        · rfl
        with_reducible apply Exists.intro
        with_reducible refine ⟨fun W hk _ => ?_, ?_⟩
        · have z5 := ((K17.out.trans hk).cell _ HZB.out (by simp)).trans HZ.out.facts.2.2.2.2.2.1
          unfold Oper.same
          go_simp
          first | rfl | exact ⟨rfl, rfl⟩
        with_reducible apply Exists.intro
        with_reducible refine ⟨?_, ?_⟩
        · go_simp
          rfl
        with_reducible refine soup_q ?_ ?_ ?_
        · rfl
        · rfl
        with_reducible apply Exists.intro
        with_reducible refine ⟨fun W hk _ => ?_, ?_⟩
        · unfold Oper.same
          go_simp
          first | rfl | exact ⟨rfl, rfl⟩
        with_reducible apply Exists.intro
        with_reducible refine ⟨?_, ?_⟩
        · go_simp
          rfl
        refine soup_nil (fun W18 hk hS => ?_)
        have K18 := Lib.hid (K17.out.trans hk)
        clear hk hS
        have y0 := (K18.out.cell _ HMB.out (by simp)).trans HY0.out
        have y1 := (K18.out.cell _ HMB.out (by simp)).trans HY1.out
        have y2 := (K18.out.cell _ HMB.out (by simp)).trans HY2.out
        have y3 := (K18.out.cell _ HMB.out (by simp)).trans HY3.out
        have z0 := (K18.out.cell _ HZB.out (by simp)).trans HZ.out.facts.1
        have z1 := (K18.out.cell _ HZB.out (by simp)).trans HZ.out.facts.2.1
        have z2 := (K18.out.cell _ HZB.out (by simp)).trans HZ.out.facts.2.2.1
        have z3 := (K18.out.cell _ HZB.out (by simp)).trans HZ.out.facts.2.2.2.1
        have z4 := (K18.out.cell _ HZB.out (by simp)).trans HZ.out.facts.2.2.2.2.1
        have z5 := (K18.out.cell _ HZB.out (by simp)).trans HZ.out.facts.2.2.2.2.2.1
        go_wp2_with (fail)
        have HKE := Lib.hid ((HKR.out.trans K16.out).trans K18.out)
        go_roundw
        case rel => exact ⟨i + 1, by go_num, by omega, by rw [HC14.out, HISN.out]; first | rfl | (push_cast; rfl), HKE.out⟩
        case measure => go_light; simp [intOf]; omega
      · have e := HI.out.mem q hq
        have hfm := found_moves HI.out hq
        obtain ⟨hmv, hpt, hfrr, htoo, hfne⟩ : (1 ≤ q.2.mv) ∧ (0 ≤ q.2.part) ∧ (0 ≤ q.2.fr) ∧ (0 ≤ q.2.to) ∧ q.2.fr ≠ q.2.to := ⟨e.mv.1, e.part.1, e.fr.1, e.to.1, e.ne⟩
        have hto : to = q.2.fr := congrArg Prod.fst hpe
        have hm : m = m11 c q.2 := congrArg Prod.snd hpe
        have HISN : Hid (is14 (to, m) = false) := Lib.hid (by rw [hm]; rfl)
        have HY0 : Hid (W14.cell? ⟨W13.heap.size, 0, none⟩ = some (.int .u8 11)) := Lib.hid (by rw [y0, hm]; rfl)
        have HY1 : Hid (W14.cell? ⟨W13.heap.size, 1, none⟩ = some (.int .i64 q.2.mv)) := Lib.hid (by rw [y1, hm]; exact congrArg (fun z => some (Value.int .i64 z)) (Int.toNat_of_nonneg (show 0 ≤ q.2.mv by omega)))
        have HY2 : Hid (W14.cell? ⟨W13.heap.size, 2, none⟩ = some (.int .i64 q.2.part)) := Lib.hid (by rw [y2, hm]; exact congrArg (fun z => some (Value.int .i64 z)) (Int.toNat_of_nonneg hpt))
        have HY3 := Lib.hid y3
        have HY17 : Hid (W14.cell? ⟨W13.heap.size, 17, none⟩ = some (.int .i64 c.ep)) := Lib.hid (by rw [y17, hm, ← HEP.out]; rfl)
        have HY18 : Hid (W14.cell? ⟨W13.heap.size, 18, none⟩ = some (.int .i64 c.nd)) := Lib.hid (by rw [y18, hm, ← HND.out]; rfl)
        have hmown : m.own = c.own := by rw [hm]; rfl
        have HY19 : Hid (W14.cell? ⟨W13.heap.size, 19, none⟩ = some (.slice va on vc)) := Lib.hid (by rw [y19, hmown, HON.out])
        have HIR2 : Hid (IRow Wi.heap.size W14 (.slice va c.own.length vc) c.own) := Lib.hid (by have h := HIR.out; rw [hmown] at h; exact h)
        clear hmown
        obtain ⟨⟨st, dn⟩, ht⟩ : ∃ t, atOf q.2.mv c.at_ = t := ⟨_, rfl⟩
        rw [ht] at h1 h2 hfm
        simp only at h1 h2
        obtain ⟨qk, ⟨mvq, part, fr, to'⟩⟩ := q
        simp only at *
        have HFM := Lib.hid hfm
        have hto2 := hto.symm
        subst hto2
        subst h1
        subst h2
        have gft : (fr == to') = false := by simpa using hfne
        have gda : (bits BinOp.and .i64 2 1 != 0) = false := rfl
        have HFI := Lib.hid (find_any (w := W14) (MoRow.keep HV.out HKR.out (by simp)) (by rw [HNL.out]; have := HML.out; omega) mvq)
        clear y0 y1 y2 y3 y17 y18 y19
        have y0 := HY0.out
        have y1 := HY1.out
        clear hm hpe ht hq e hfm hfne hmv hpt hfrr htoo
        go_wp2_with ((with_reducible refine wpList_store_all ?_ 40 (.tmp 10) (.tmp 32) ?_ (W13.heap.size) ?_ mc ?_ HSTO.out ?_); rfl; rfl; rfl; rfl)
        refine HFI.out.mono ?_
        rintro e W15 ⟨rfl, hk15⟩
        rw [HFM.out]
        simp only [Option.getD_some, Option.isSome_some]
        obtain ⟨W16, hW16⟩ : ∃ x, W15.alloc (.cells #[.int .i64 mvq, .int .i64 part, .int .i64 fr, .int .i64 to', .int .i64 2, .int .i64 2] 56) = x := ⟨_, rfl⟩
        have k16 : Keep [] W15 W16 := by rw [← hW16]; exact (Keep.refl _ _).alloc _
        have HZ := Lib.hid (show SixAt W16 W15.heap.size (.int .i64 mvq) (.int .i64 part) (.int .i64 fr) (.int .i64 to') (.int .i64 2) (.int .i64 2) from ⟨by rw [← hW16]; exact World.alloc_heap_new W15 _⟩)
        have HW16 := Lib.hid hW16
        have hk := hk15.trans k16
        have K16 := Lib.hid hk
        have HY0 := Lib.hid ((hk.cell _ HM14.out (by simp)).trans HY0.out)
        have HY1 := Lib.hid ((hk.cell _ HM14.out (by simp)).trans HY1.out)
        have HY2 := Lib.hid ((hk.cell _ HM14.out (by simp)).trans HY2.out)
        have HY3 := Lib.hid ((hk.cell _ HM14.out (by simp)).trans HY3.out)
        have HY17 := Lib.hid ((hk.cell _ HM14.out (by simp)).trans HY17.out)
        have HY18 := Lib.hid ((hk.cell _ HM14.out (by simp)).trans HY18.out)
        have HY19 := Lib.hid ((hk.cell _ HM14.out (by simp)).trans HY19.out)
        have HX1 := Lib.hid ((hk.cell _ HGA.out (by simp)).trans HX1.out)
        have HGA := Lib.hid (Nat.lt_of_lt_of_le HGA.out hk.size)
        have HMB := Lib.hid (Nat.lt_of_lt_of_le HM14.out hk.size)
        have HZB := Lib.hid (lt_of_heap HZ.out.blk)
        clear hk hk15 k16 hW16 y0 y1 x0
        go_upto_region 15 with (fail)
        rw [HW16.out]
        have K17 := Lib.hid (Keep.refl [] W16)
        refine wp_region_soup 7 [] (fun _ => none) (by kernel_rfl) (by kernel_rfl) (spOk_of (l := []) (by simp)) (pre_of (l := []) (by simp)) ?_
        simp only [List.take_succ_cons, List.take_zero, List.drop_succ_cons, List.drop_zero]
        with_reducible refine soup_q ?_ ?_ ?_
        · rfl
        · rfl
        with_reducible apply Exists.intro
        with_reducible refine ⟨fun W hk _ => ?_, ?_⟩
        · unfold Oper.same
          go_simp
          first | rfl | exact ⟨rfl, rfl⟩
        with_reducible apply Exists.intro
        with_reducible refine ⟨?_, ?_⟩
        · go_simp
          rfl
        with_reducible refine soup_q ?_ ?_ ?_
        · rfl
        · rfl
        with_reducible apply Exists.intro
        with_reducible refine ⟨fun W hk _ => ?_, ?_⟩
        · unfold Oper.same
          go_simp
          first | rfl | exact ⟨rfl, rfl⟩
        with_reducible apply Exists.intro
        with_reducible refine ⟨?_, ?_⟩
        · go_simp
          rfl
        with_reducible refine soup_q ?_ ?_ ?_
        · rfl
        · rfl
        with_reducible apply Exists.intro
        with_reducible refine ⟨fun W hk _ => ?_, ?_⟩
        · unfold Oper.same
          go_simp
          first | rfl | exact ⟨rfl, rfl⟩
        with_reducible apply Exists.intro
        with_reducible refine ⟨?_, ?_⟩
        · go_simp
          rfl
        with_reducible refine soup_q ?_ ?_ ?_
        · rfl
        · rfl
        with_reducible apply Exists.intro
        with_reducible refine ⟨fun W hk _ => ?_, ?_⟩
        · unfold Oper.same
          go_simp
          first | rfl | exact ⟨rfl, rfl⟩
        with_reducible apply Exists.intro
        with_reducible refine ⟨?_, ?_⟩
        · go_simp
          rfl
        with_reducible refine soup_q ?_ ?_ ?_
        · rfl
        · rfl
        with_reducible apply Exists.intro
        with_reducible refine ⟨fun W hk _ => ?_, ?_⟩
        · have x1 := ((K17.out.trans hk).cell _ HGA.out (by simp)).trans HX1.out
          unfold Oper.same
          go_simp
          first | rfl | exact ⟨rfl, rfl⟩
        with_reducible apply Exists.intro
        with_reducible refine ⟨?_, ?_⟩
        · go_simp
          rfl
        with_reducible refine soup_q ?_ ?_ ?_
        · rfl
        · rfl
        with_reducible apply Exists.intro
        with_reducible refine ⟨fun W hk _ => ?_, ?_⟩
        · unfold Oper.same
          go_simp
          first | rfl | exact ⟨rfl, rfl⟩
        with_reducible apply Exists.intro
        with_reducible refine ⟨?_, ?_⟩
        · go_simp
          rfl
        with_reducible refine soup_q ?_ ?_ ?_
        · rfl
        · rfl
        with_reducible apply Exists.intro
        with_reducible refine ⟨fun W hk _ => ?_, ?_⟩
        · have z3 := ((K17.out.trans hk).cell _ HZB.out (by simp)).trans HZ.out.facts.2.2.2.1
          unfold Oper.same
          go_simp
          first | rfl | exact ⟨rfl, rfl⟩
        with_reducible apply Exists.intro
        with_reducible refine ⟨?_, ?_⟩
        · go_simp
          rfl
        refine soup_nil (fun W17 hk hS => ?_)
        have K17 := Lib.hid (K17.out.trans hk)
        clear hk hS
        go_wp2_with (fail)
        refine wp_region_soup 33 [] (fun _ => none) (by kernel_rfl) (by kernel_rfl) (spOk_of (l := []) (by simp)) (pre_of (l := []) (by simp)) ?_
        simp only [List.take_succ_cons, List.take_zero, List.drop_succ_cons, List.drop_zero]
        with_reducible refine soup_q ?_ ?_ ?_
        · rfl
        · rfl
        with_reducible apply Exists.intro
        with_reducible refine ⟨fun W hk _ => ?_, ?_⟩
        · unfold Oper.same
          go_simp
          first | rfl | exact ⟨rfl, rfl⟩
        with_reducible apply Exists.intro
        with_reducible refine ⟨?_, ?_⟩
        · go_simp
          rfl
        with_reducible refine soup_q ?_ ?_ ?_
        · rfl
        · rfl
        with_reducible apply Exists.intro
        with_reducible refine ⟨fun W hk _ => ?_, ?_⟩
        · unfold Oper.same
          go_simp
          first | rfl | exact ⟨rfl, rfl⟩
        with_reducible apply Exists.intro
        with_reducible refine ⟨?_, ?_⟩
        · go_simp
          rfl
        with_reducible refine soup_q ?_ ?_ ?_
        · rfl
        · rfl
        with_reducible apply Exists.intro
        with_reducible refine ⟨fun W hk _ => ?_, ?_⟩
        · unfold Oper.same
          go_simp
          first | rfl | exact ⟨rfl, rfl⟩
        with_reducible apply Exists.intro
        with_reducible refine ⟨?_, ?_⟩
        · go_simp
          rfl
        with_reducible refine soup_q ?_ ?_ ?_
        · rfl
        · rfl
        with_reducible apply Exists.intro
        with_reducible refine ⟨fun W hk _ => ?_, ?_⟩
        · unfold Oper.same
          go_simp
          first | rfl | exact ⟨rfl, rfl⟩
        with_reducible apply Exists.intro
        with_reducible refine ⟨?_, ?_⟩
        · go_simp
          rfl
        with_reducible refine soup_q ?_ ?_ ?_
        · rfl
        · rfl
        with_reducible apply Exists.intro
        with_reducible refine ⟨fun W hk _ => ?_, ?_⟩
        · have y2 := ((K17.out.trans hk).cell _ HMB.out (by simp)).trans HY2.out
          unfold Oper.same
          go_simp
          first | rfl | exact ⟨rfl, rfl⟩
        with_reducible apply Exists.intro
        with_reducible refine ⟨?_, ?_⟩
        · go_simp
          rfl
        with_reducible refine soup_q ?_ ?_ ?_
        · rfl
        · rfl
        with_reducible apply Exists.intro
        with_reducible refine ⟨fun W hk _ => ?_, ?_⟩
        · unfold Oper.same
          go_simp
          first | rfl | exact ⟨rfl, rfl⟩
        with_reducible apply Exists.intro
        with_reducible refine ⟨?_, ?_⟩
        · go_simp
          rfl
        with_reducible refine soup_q ?_ ?_ ?_
        · rfl
        · rfl
        with_reducible apply Exists.intro
        with_reducible refine ⟨fun W hk _ => ?_, ?_⟩
        · have z1 := ((K17.out.trans hk).cell _ HZB.out (by simp)).trans HZ.out.facts.2.1
          unfold Oper.same
          go_simp
          first | rfl | exact ⟨rfl, rfl⟩
        with_reducible apply Exists.intro
        with_reducible refine ⟨?_, ?_⟩
        · go_simp
          rfl
        with_reducible refine soup_q ?_ ?_ ?_
        · rfl
        · rfl
        with_reducible apply Exists.intro
        with_reducible refine ⟨fun W hk _ => ?_, ?_⟩
        · unfold Oper.same
          go_simp
          first | rfl | exact ⟨rfl, rfl⟩
        with_reducible apply Exists.intro
        with_reducible refine ⟨?_, ?_⟩
        · go_simp
          rfl
        with_reducible refine soup_q ?_ ?_ ?_
        · rfl
        · rfl
        with_reducible apply Exists.intro
        with_reducible refine ⟨fun W hk _ => ?_, ?_⟩
        · unfold Oper.same
          go_simp
          first | rfl | exact ⟨rfl, rfl⟩
        with_reducible apply Exists.intro
        with_reducible refine ⟨?_, ?_⟩
        · go_simp
          rfl
        with_reducible refine soup_q ?_ ?_ ?_
        · rfl
        · rfl
        with_reducible apply Exists.intro
        with_reducible refine ⟨fun W hk _ => ?_, ?_⟩
        · unfold Oper.same
          go_simp
          first | rfl | exact ⟨rfl, rfl⟩
        with_reducible apply Exists.intro
        with_reducible refine ⟨?_, ?_⟩
        · go_simp
          rfl
        with_reducible refine soup_q ?_ ?_ ?_
        · rfl
        · rfl
        with_reducible apply Exists.intro
        with_reducible refine ⟨fun W hk _ => ?_, ?_⟩
        · unfold Oper.same
          go_simp
          first | rfl | exact ⟨rfl, rfl⟩
        with_reducible apply Exists.intro
        with_reducible refine ⟨?_, ?_⟩
        · go_simp
          rfl
        with_reducible refine soup_q ?_ ?_ ?_
        · rfl
        · rfl
        with_reducible apply Exists.intro
        with_reducible refine ⟨fun W hk _ => ?_, ?_⟩
        · unfold Oper.same
          go_simp
          first | rfl | exact ⟨rfl, rfl⟩
        with_reducible apply Exists.intro
        with_reducible refine ⟨?_, ?_⟩
        · go_simp
          rfl
        with_reducible refine soup_q ?_ ?_ ?_
        · rfl
        · rfl
        with_reducible apply Exists.intro
        with_reducible refine ⟨fun W hk _ => ?_, ?_⟩
        · unfold Oper.same
          go_simp
          first | rfl | exact ⟨rfl, rfl⟩
        with_reducible apply Exists.intro
        with_reducible refine ⟨?_, ?_⟩
        · go_simp
          rfl
        with_reducible refine soup_q ?_ ?_ ?_
        · rfl
        · rfl
        with_reducible apply Exists.intro
        with_reducible refine ⟨fun W hk _ => ?_, ?_⟩
        · unfold Oper.same
          go_simp
          first | rfl | exact ⟨rfl, rfl⟩
        with_reducible apply Exists.intro
        with_reducible refine ⟨?_, ?_⟩
        · go_simp
          rfl
        with_reducible refine soup_q ?_ ?_ ?_
        · rfl
        · rfl
        with_reducible apply Exists.intro
        with_reducible refine ⟨fun W hk _ => ?_, ?_⟩
        · have x1 := ((K17.out.trans hk).cell _ HGA.out (by simp)).trans HX1.out
          unfold Oper.same
          go_simp
          first | rfl | exact ⟨rfl, rfl⟩
        with_reducible apply Exists.intro
        with_reducible refine ⟨?_, ?_⟩
        · go_simp
          rfl
        with_reducible refine soup_q ?_ ?_ ?_
        · rfl
        · rfl
        with_reducible apply Exists.intro
        with_reducible refine ⟨fun W hk _ => ?_, ?_⟩
        · unfold Oper.same
          go_simp
          first | rfl | exact ⟨rfl, rfl⟩
        with_reducible apply Exists.intro
        with_reducible refine ⟨?_, ?_⟩
        · go_simp
          rfl
        with_reducible refine soup_q ?_ ?_ ?_
        · rfl
        · rfl
        with_reducible apply Exists.intro
        with_reducible refine ⟨fun W hk _ => ?_, ?_⟩
        · have z2 := ((K17.out.trans hk).cell _ HZB.out (by simp)).trans HZ.out.facts.2.2.1
          unfold Oper.same
          go_simp
          first | rfl | exact ⟨rfl, rfl⟩
        with_reducible apply Exists.intro
        with_reducible refine ⟨?_, ?_⟩
        · go_simp
          rfl
        with_reducible refine soup_q ?_ ?_ ?_
        · rfl
        · rfl
        with_reducible apply Exists.intro
        with_reducible refine ⟨fun W hk _ => ?_, ?_⟩
        · unfold Oper.same
          go_simp
          first | rfl | exact ⟨rfl, rfl⟩
        with_reducible apply Exists.intro
        with_reducible refine ⟨?_, ?_⟩
        · go_simp
          rfl
        with_reducible refine soup_q ?_ ?_ ?_
        · rfl
        · rfl
        with_reducible apply Exists.intro
        with_reducible refine ⟨fun W hk _ => ?_, ?_⟩
        · unfold Oper.same
          go_simp
          first | rfl | exact ⟨rfl, rfl⟩
        with_reducible apply Exists.intro
        with_reducible refine ⟨?_, ?_⟩
        · go_simp
          rfl
        iterate 8
          with_reducible refine soup_no ?_ ?_
          · rfl
          with_reducible apply Exists.intro
          with_reducible refine ⟨?_, ?_⟩
          · go_simp
            rfl
        with_reducible refine soup_q ?_ ?_ ?_
        · rfl
        · rfl
        with_reducible apply Exists.intro
        with_reducible refine ⟨fun W hk _ => ?_, ?_⟩
        · unfold Oper.same
          go_simp
          first | rfl | exact ⟨rfl, rfl⟩
        with_reducible apply Exists.intro
        with_reducible refine ⟨?_, ?_⟩
        · go_simp
          rfl
        with_reducible refine soup_q ?_ ?_ ?_
        · rfl
        · rfl
        with_reducible apply Exists.intro
        with_reducible refine ⟨fun W hk _ => ?_, ?_⟩
        · unfold Oper.same
          go_simp
          first | rfl | exact ⟨rfl, rfl⟩
        with_reducible apply Exists.intro
        with_reducible refine ⟨?_, ?_⟩
        · go_simp
          rfl
        with_reducible refine soup_q ?_ ?_ ?_
        · rfl
        · rfl
        with_reducible apply Exists.intro
        with_reducible refine ⟨fun W hk _ => ?_, ?_⟩
        · unfold Oper.same
          go_simp
          first | rfl | exact ⟨rfl, rfl⟩
        with_reducible apply Exists.intro
        with_reducible refine ⟨?_, ?_⟩
        · go_simp
          rfl
        with_reducible refine soup_q ?_ ?_ ?_
        · rfl
        · rfl
        with_reducible apply Exists.intro
        with_reducible refine ⟨fun W hk _ => ?_, ?_⟩
        · unfold Oper.same
          go_simp
          first | rfl | exact ⟨rfl, rfl⟩
        with_reducible apply Exists.intro
        with_reducible refine ⟨?_, ?_⟩
        · go_simp
          rfl
        with_reducible refine soup_q ?_ ?_ ?_
        · rfl
        · rfl
        with_reducible apply Exists.intro
        with_reducible refine ⟨fun W hk _ => ?_, ?_⟩
        · have z5 := ((K17.out.trans hk).cell _ HZB.out (by simp)).trans HZ.out.facts.2.2.2.2.2.1
          unfold Oper.same
          go_simp
          first | rfl | exact ⟨rfl, rfl⟩
        with_reducible apply Exists.intro
        with_reducible refine ⟨?_, ?_⟩
        · go_simp
          rfl
        with_reducible refine soup_q ?_ ?_ ?_
        · rfl
        · rfl
        with_reducible apply Exists.intro
        with_reducible refine ⟨fun W hk _ => ?_, ?_⟩
        · unfold Oper.same
          go_simp
          first | rfl | exact ⟨rfl, rfl⟩
        with_reducible apply Exists.intro
        with_reducible refine ⟨?_, ?_⟩
        · go_simp
          rfl
        refine soup_nil (fun W18 hk hS => ?_)
        have K18 := Lib.hid (K17.out.trans hk)
        clear hk hS
        have y0 := (K18.out.cell _ HMB.out (by simp)).trans HY0.out
        have y1 := (K18.out.cell _ HMB.out (by simp)).trans HY1.out
        have y2 := (K18.out.cell _ HMB.out (by simp)).trans HY2.out
        have y3 := (K18.out.cell _ HMB.out (by simp)).trans HY3.out
        have z0 := (K18.out.cell _ HZB.out (by simp)).trans HZ.out.facts.1
        have z1 := (K18.out.cell _ HZB.out (by simp)).trans HZ.out.facts.2.1
        have z2 := (K18.out.cell _ HZB.out (by simp)).trans HZ.out.facts.2.2.1
        have z3 := (K18.out.cell _ HZB.out (by simp)).trans HZ.out.facts.2.2.2.1
        have z4 := (K18.out.cell _ HZB.out (by simp)).trans HZ.out.facts.2.2.2.2.1
        have z5 := (K18.out.cell _ HZB.out (by simp)).trans HZ.out.facts.2.2.2.2.2.1
        have y17 := (K18.out.cell _ HMB.out (by simp)).trans HY17.out
        have y18 := (K18.out.cell _ HMB.out (by simp)).trans HY18.out
        have y19 := (K18.out.cell _ HMB.out (by simp)).trans HY19.out
        obtain ⟨d0, d1, d2, d3⟩ := TbFacts (((HKR.out.trans K16.out).trans K18.out).block _ (lt_of_heap HBT.out) (by simp) |>.trans HBT.out)
        have HSM := Lib.hid (tsame_true c.ep c.nd vc ud (w := W18) (IRow.keep HIR2.out (K16.out.trans K18.out) (by simp)).at (HU.out.keep (HKR.out.trans (K16.out.trans K18.out)) (by simp)).at (by rw [HON.out]; omega))
        rw [HON.out] at HSM
        go_wp2_with (fail)
        refine HSM.out.mono ?_
        rintro e W19 ⟨rfl, hk19⟩
        have K19 := Lib.hid (K18.out.trans hk19)
        clear hk19 y0 y1 y2 y3 z0 z1 z2 z3 z4 z5 y17 y18 y19 d0 d1 d2 d3
        have y0 := (K19.out.cell _ HMB.out (by simp)).trans HY0.out
        have y1 := (K19.out.cell _ HMB.out (by simp)).trans HY1.out
        have y2 := (K19.out.cell _ HMB.out (by simp)).trans HY2.out
        have y3 := (K19.out.cell _ HMB.out (by simp)).trans HY3.out
        have z0 := (K19.out.cell _ HZB.out (by simp)).trans HZ.out.facts.1
        have z1 := (K19.out.cell _ HZB.out (by simp)).trans HZ.out.facts.2.1
        have z2 := (K19.out.cell _ HZB.out (by simp)).trans HZ.out.facts.2.2.1
        have z3 := (K19.out.cell _ HZB.out (by simp)).trans HZ.out.facts.2.2.2.1
        have z4 := (K19.out.cell _ HZB.out (by simp)).trans HZ.out.facts.2.2.2.2.1
        have z5 := (K19.out.cell _ HZB.out (by simp)).trans HZ.out.facts.2.2.2.2.2.1
        go_wp2_with (fail)
        have HKE := Lib.hid ((HKR.out.trans K16.out).trans K19.out)
        go_roundw
        case rel => exact ⟨i + 1, by go_num, by omega, by rw [HC14.out, HISN.out]; first | rfl | (push_cast; rfl), HKE.out⟩
        case measure => go_light; simp [intOf]; omega
      · have e := HI.out.mem q hq
        have hfm := found_moves HI.out hq
        obtain ⟨hmv, hpt, hfrr, htoo, hfne⟩ : (1 ≤ q.2.mv) ∧ (0 ≤ q.2.part) ∧ (0 ≤ q.2.fr) ∧ (0 ≤ q.2.to) ∧ q.2.fr ≠ q.2.to := ⟨e.mv.1, e.part.1, e.fr.1, e.to.1, e.ne⟩
        have hto : to = q.2.to := congrArg Prod.fst hpe
        have hm : m = m11 c q.2 := congrArg Prod.snd hpe
        have HISN : Hid (is14 (to, m) = false) := Lib.hid (by rw [hm]; rfl)
        have HY0 : Hid (W14.cell? ⟨W13.heap.size, 0, none⟩ = some (.int .u8 11)) := Lib.hid (by rw [y0, hm]; rfl)
        have HY1 : Hid (W14.cell? ⟨W13.heap.size, 1, none⟩ = some (.int .i64 q.2.mv)) := Lib.hid (by rw [y1, hm]; exact congrArg (fun z => some (Value.int .i64 z)) (Int.toNat_of_nonneg (show 0 ≤ q.2.mv by omega)))
        have HY2 : Hid (W14.cell? ⟨W13.heap.size, 2, none⟩ = some (.int .i64 q.2.part)) := Lib.hid (by rw [y2, hm]; exact congrArg (fun z => some (Value.int .i64 z)) (Int.toNat_of_nonneg hpt))
        have HY3 := Lib.hid y3
        have HY17 : Hid (W14.cell? ⟨W13.heap.size, 17, none⟩ = some (.int .i64 c.ep)) := Lib.hid (by rw [y17, hm, ← HEP.out]; rfl)
        have HY18 : Hid (W14.cell? ⟨W13.heap.size, 18, none⟩ = some (.int .i64 c.nd)) := Lib.hid (by rw [y18, hm, ← HND.out]; rfl)
        have hmown : m.own = c.own := by rw [hm]; rfl
        have HY19 : Hid (W14.cell? ⟨W13.heap.size, 19, none⟩ = some (.slice va on vc)) := Lib.hid (by rw [y19, hmown, HON.out])
        have HIR2 : Hid (IRow Wi.heap.size W14 (.slice va c.own.length vc) c.own) := Lib.hid (by have h := HIR.out; rw [hmown] at h; exact h)
        clear hmown
        obtain ⟨⟨st, dn⟩, ht⟩ : ∃ t, atOf q.2.mv c.at_ = t := ⟨_, rfl⟩
        rw [ht] at h1 h2 hfm
        simp only at h1 h2
        obtain ⟨qk, ⟨mvq, part, fr, to'⟩⟩ := q
        simp only at *
        have HFM := Lib.hid hfm
        have hto2 := hto.symm
        subst hto2
        subst h1
        have gft : (fr == to') = false := by simpa using hfne
        have gtf : (to' != fr) = true := by simpa using fun e : to' = fr => hfne e.symm
        have gtg : (to' == fr) = false := by simpa using fun e : to' = fr => hfne e.symm
        have gda : (bits BinOp.and .i64 (dn : Int) 2 != 0) = false := by rcases h2 with h | h <;> (rw [h]; rfl)
        have HFI := Lib.hid (find_any (w := W14) (MoRow.keep HV.out HKR.out (by simp)) (by rw [HNL.out]; have := HML.out; omega) mvq)
        clear y0 y1 y2 y3 y17 y18 y19
        have y0 := HY0.out
        have y1 := HY1.out
        clear hm hpe ht hq e hfm hfne hmv hpt hfrr htoo h2
        go_wp2_with ((with_reducible refine wpList_store_all ?_ 40 (.tmp 10) (.tmp 32) ?_ (W13.heap.size) ?_ mc ?_ HSTO.out ?_); rfl; rfl; rfl; rfl)
        refine HFI.out.mono ?_
        rintro e W15 ⟨rfl, hk15⟩
        rw [HFM.out]
        simp only [Option.getD_some, Option.isSome_some]
        obtain ⟨W16, hW16⟩ : ∃ x, W15.alloc (.cells #[.int .i64 mvq, .int .i64 part, .int .i64 fr, .int .i64 to', .int .i64 2, .int .i64 (dn : Int)] 56) = x := ⟨_, rfl⟩
        have k16 : Keep [] W15 W16 := by rw [← hW16]; exact (Keep.refl _ _).alloc _
        have HZ := Lib.hid (show SixAt W16 W15.heap.size (.int .i64 mvq) (.int .i64 part) (.int .i64 fr) (.int .i64 to') (.int .i64 2) (.int .i64 (dn : Int)) from ⟨by rw [← hW16]; exact World.alloc_heap_new W15 _⟩)
        have HW16 := Lib.hid hW16
        have hk := hk15.trans k16
        have K16 := Lib.hid hk
        have HY0 := Lib.hid ((hk.cell _ HM14.out (by simp)).trans HY0.out)
        have HY1 := Lib.hid ((hk.cell _ HM14.out (by simp)).trans HY1.out)
        have HY2 := Lib.hid ((hk.cell _ HM14.out (by simp)).trans HY2.out)
        have HY3 := Lib.hid ((hk.cell _ HM14.out (by simp)).trans HY3.out)
        have HY17 := Lib.hid ((hk.cell _ HM14.out (by simp)).trans HY17.out)
        have HY18 := Lib.hid ((hk.cell _ HM14.out (by simp)).trans HY18.out)
        have HY19 := Lib.hid ((hk.cell _ HM14.out (by simp)).trans HY19.out)
        have HX1 := Lib.hid ((hk.cell _ HGA.out (by simp)).trans HX1.out)
        have HGA := Lib.hid (Nat.lt_of_lt_of_le HGA.out hk.size)
        have HMB := Lib.hid (Nat.lt_of_lt_of_le HM14.out hk.size)
        have HZB := Lib.hid (lt_of_heap HZ.out.blk)
        clear hk hk15 k16 hW16 y0 y1 x0
        go_upto_region 15 with (fail)
        rw [HW16.out]
        have K17 := Lib.hid (Keep.refl [] W16)
        refine wp_region_soup 7 [] (fun _ => none) (by kernel_rfl) (by kernel_rfl) (spOk_of (l := []) (by simp)) (pre_of (l := []) (by simp)) ?_
        simp only [List.take_succ_cons, List.take_zero, List.drop_succ_cons, List.drop_zero]
        with_reducible refine soup_q ?_ ?_ ?_
        · rfl
        · rfl
        with_reducible apply Exists.intro
        with_reducible refine ⟨fun W hk _ => ?_, ?_⟩
        · unfold Oper.same
          go_simp
          first | rfl | exact ⟨rfl, rfl⟩
        with_reducible apply Exists.intro
        with_reducible refine ⟨?_, ?_⟩
        · go_simp
          rfl
        with_reducible refine soup_q ?_ ?_ ?_
        · rfl
        · rfl
        with_reducible apply Exists.intro
        with_reducible refine ⟨fun W hk _ => ?_, ?_⟩
        · unfold Oper.same
          go_simp
          first | rfl | exact ⟨rfl, rfl⟩
        with_reducible apply Exists.intro
        with_reducible refine ⟨?_, ?_⟩
        · go_simp
          rfl
        with_reducible refine soup_q ?_ ?_ ?_
        · rfl
        · rfl
        with_reducible apply Exists.intro
        with_reducible refine ⟨fun W hk _ => ?_, ?_⟩
        · unfold Oper.same
          go_simp
          first | rfl | exact ⟨rfl, rfl⟩
        with_reducible apply Exists.intro
        with_reducible refine ⟨?_, ?_⟩
        · go_simp
          rfl
        with_reducible refine soup_q ?_ ?_ ?_
        · rfl
        · rfl
        with_reducible apply Exists.intro
        with_reducible refine ⟨fun W hk _ => ?_, ?_⟩
        · unfold Oper.same
          go_simp
          first | rfl | exact ⟨rfl, rfl⟩
        with_reducible apply Exists.intro
        with_reducible refine ⟨?_, ?_⟩
        · go_simp
          rfl
        with_reducible refine soup_q ?_ ?_ ?_
        · rfl
        · rfl
        with_reducible apply Exists.intro
        with_reducible refine ⟨fun W hk _ => ?_, ?_⟩
        · have x1 := ((K17.out.trans hk).cell _ HGA.out (by simp)).trans HX1.out
          unfold Oper.same
          go_simp
          first | rfl | exact ⟨rfl, rfl⟩
        with_reducible apply Exists.intro
        with_reducible refine ⟨?_, ?_⟩
        · go_simp
          rfl
        with_reducible refine soup_q ?_ ?_ ?_
        · rfl
        · rfl
        with_reducible apply Exists.intro
        with_reducible refine ⟨fun W hk _ => ?_, ?_⟩
        · unfold Oper.same
          go_simp
          first | rfl | exact ⟨rfl, rfl⟩
        with_reducible apply Exists.intro
        with_reducible refine ⟨?_, ?_⟩
        · go_simp
          rfl
        with_reducible refine soup_q ?_ ?_ ?_
        · rfl
        · rfl
        with_reducible apply Exists.intro
        with_reducible refine ⟨fun W hk _ => ?_, ?_⟩
        · have z3 := ((K17.out.trans hk).cell _ HZB.out (by simp)).trans HZ.out.facts.2.2.2.1
          unfold Oper.same
          go_simp
          first | rfl | exact ⟨rfl, rfl⟩
        with_reducible apply Exists.intro
        with_reducible refine ⟨?_, ?_⟩
        · go_simp
          rfl
        refine soup_nil (fun W17 hk hS => ?_)
        have K17 := Lib.hid (K17.out.trans hk)
        clear hk hS
        go_wp2_with (fail)
        refine wp_region_soup 33 [] (fun _ => none) (by kernel_rfl) (by kernel_rfl) (spOk_of (l := []) (by simp)) (pre_of (l := []) (by simp)) ?_
        simp only [List.take_succ_cons, List.take_zero, List.drop_succ_cons, List.drop_zero]
        with_reducible refine soup_q ?_ ?_ ?_
        · rfl
        · rfl
        with_reducible apply Exists.intro
        with_reducible refine ⟨fun W hk _ => ?_, ?_⟩
        · unfold Oper.same
          go_simp
          first | rfl | exact ⟨rfl, rfl⟩
        with_reducible apply Exists.intro
        with_reducible refine ⟨?_, ?_⟩
        · go_simp
          rfl
        with_reducible refine soup_q ?_ ?_ ?_
        · rfl
        · rfl
        with_reducible apply Exists.intro
        with_reducible refine ⟨fun W hk _ => ?_, ?_⟩
        · unfold Oper.same
          go_simp
          first | rfl | exact ⟨rfl, rfl⟩
        with_reducible apply Exists.intro
        with_reducible refine ⟨?_, ?_⟩
        · go_simp
          rfl
        with_reducible refine soup_q ?_ ?_ ?_
        · rfl
        · rfl
        with_reducible apply Exists.intro
        with_reducible refine ⟨fun W hk _ => ?_, ?_⟩
        · unfold Oper.same
          go_simp
          first | rfl | exact ⟨rfl, rfl⟩
        with_reducible apply Exists.intro
        with_reducible refine ⟨?_, ?_⟩
        · go_simp
          rfl
        with_reducible refine soup_q ?_ ?_ ?_
        · rfl
        · rfl
        with_reducible apply Exists.intro
        with_reducible refine ⟨fun W hk _ => ?_, ?_⟩
        · unfold Oper.same
          go_simp
          first | rfl | exact ⟨rfl, rfl⟩
        with_reducible apply Exists.intro
        with_reducible refine ⟨?_, ?_⟩
        · go_simp
          rfl
        with_reducible refine soup_q ?_ ?_ ?_
        · rfl
        · rfl
        with_reducible apply Exists.intro
        with_reducible refine ⟨fun W hk _ => ?_, ?_⟩
        · have y2 := ((K17.out.trans hk).cell _ HMB.out (by simp)).trans HY2.out
          unfold Oper.same
          go_simp
          first | rfl | exact ⟨rfl, rfl⟩
        with_reducible apply Exists.intro
        with_reducible refine ⟨?_, ?_⟩
        · go_simp
          rfl
        with_reducible refine soup_q ?_ ?_ ?_
        · rfl
        · rfl
        with_reducible apply Exists.intro
        with_reducible refine ⟨fun W hk _ => ?_, ?_⟩
        · unfold Oper.same
          go_simp
          first | rfl | exact ⟨rfl, rfl⟩
        with_reducible apply Exists.intro
        with_reducible refine ⟨?_, ?_⟩
        · go_simp
          rfl
        with_reducible refine soup_q ?_ ?_ ?_
        · rfl
        · rfl
        with_reducible apply Exists.intro
        with_reducible refine ⟨fun W hk _ => ?_, ?_⟩
        · have z1 := ((K17.out.trans hk).cell _ HZB.out (by simp)).trans HZ.out.facts.2.1
          unfold Oper.same
          go_simp
          first | rfl | exact ⟨rfl, rfl⟩
        with_reducible apply Exists.intro
        with_reducible refine ⟨?_, ?_⟩
        · go_simp
          rfl
        with_reducible refine soup_q ?_ ?_ ?_
        · rfl
        · rfl
        with_reducible apply Exists.intro
        with_reducible refine ⟨fun W hk _ => ?_, ?_⟩
        · unfold Oper.same
          go_simp
          first | rfl | exact ⟨rfl, rfl⟩
        with_reducible apply Exists.intro
        with_reducible refine ⟨?_, ?_⟩
        · go_simp
          rfl
        with_reducible refine soup_q ?_ ?_ ?_
        · rfl
        · rfl
        with_reducible apply Exists.intro
        with_reducible refine ⟨fun W hk _ => ?_, ?_⟩
        · unfold Oper.same
          go_simp
          first | rfl | exact ⟨rfl, rfl⟩
        with_reducible apply Exists.intro
        with_reducible refine ⟨?_, ?_⟩
        · go_simp
          rfl
        with_reducible refine soup_q ?_ ?_ ?_
        · rfl
        · rfl
        with_reducible apply Exists.intro
        with_reducible refine ⟨fun W hk _ => ?_, ?_⟩
        · unfold Oper.same
          go_simp
          first | rfl | exact ⟨rfl, rfl⟩
        with_reducible apply Exists.intro
        with_reducible refine ⟨?_, ?_⟩
        · go_simp
          rfl
        with_reducible refine soup_q ?_ ?_ ?_
        · rfl
        · rfl
        with_reducible apply Exists.intro
        with_reducible refine ⟨fun W hk _ => ?_, ?_⟩
        · unfold Oper.same
          go_simp
          first | rfl | exact ⟨rfl, rfl⟩
        with_reducible apply Exists.intro
        with_reducible refine ⟨?_, ?_⟩
        · go_simp
          rfl
        with_reducible refine soup_q ?_ ?_ ?_
        · rfl
        · rfl
        with_reducible apply Exists.intro
        with_reducible refine ⟨fun W hk _ => ?_, ?_⟩
        · unfold Oper.same
          go_simp
          first | rfl | exact ⟨rfl, rfl⟩
        with_reducible apply Exists.intro
        with_reducible refine ⟨?_, ?_⟩
        · go_simp
          rfl
        with_reducible refine soup_q ?_ ?_ ?_
        · rfl
        · rfl
        with_reducible apply Exists.intro
        with_reducible refine ⟨fun W hk _ => ?_, ?_⟩
        · unfold Oper.same
          go_simp
          first | rfl | exact ⟨rfl, rfl⟩
        with_reducible apply Exists.intro
        with_reducible refine ⟨?_, ?_⟩
        · go_simp
          rfl
        with_reducible refine soup_q ?_ ?_ ?_
        · rfl
        · rfl
        with_reducible apply Exists.intro
        with_reducible refine ⟨fun W hk _ => ?_, ?_⟩
        · unfold Oper.same
          go_simp
          first | rfl | exact ⟨rfl, rfl⟩
        with_reducible apply Exists.intro
        with_reducible refine ⟨?_, ?_⟩
        · go_simp
          rfl
        with_reducible refine soup_q ?_ ?_ ?_
        · rfl
        · rfl
        with_reducible apply Exists.intro
        with_reducible refine ⟨fun W hk _ => ?_, ?_⟩
        · have x1 := ((K17.out.trans hk).cell _ HGA.out (by simp)).trans HX1.out
          unfold Oper.same
          go_simp
          first | rfl | exact ⟨rfl, rfl⟩
        with_reducible apply Exists.intro
        with_reducible refine ⟨?_, ?_⟩
        · go_simp
          rfl
        with_reducible refine soup_q ?_ ?_ ?_
        · rfl
        · rfl
        with_reducible apply Exists.intro
        with_reducible refine ⟨fun W hk _ => ?_, ?_⟩
        · unfold Oper.same
          go_simp
          first | rfl | exact ⟨rfl, rfl⟩
        with_reducible apply Exists.intro
        with_reducible refine ⟨?_, ?_⟩
        · go_simp
          rfl
        with_reducible refine soup_q ?_ ?_ ?_
        · rfl
        · rfl
        with_reducible apply Exists.intro
        with_reducible refine ⟨fun W hk _ => ?_, ?_⟩
        · have z2 := ((K17.out.trans hk).cell _ HZB.out (by simp)).trans HZ.out.facts.2.2.1
          unfold Oper.same
          go_simp
          first | rfl | exact ⟨rfl, rfl⟩
        with_reducible apply Exists.intro
        with_reducible refine ⟨?_, ?_⟩
        · go_simp
          rfl
        with_reducible refine soup_q ?_ ?_ ?_
        · rfl
        · rfl
        with_reducible apply Exists.intro
        with_reducible refine ⟨fun W hk _ => ?_, ?_⟩
        · unfold Oper.same
          go_simp
          first | rfl | exact ⟨rfl, rfl⟩
        with_reducible apply Exists.intro
        with_reducible refine ⟨?_, ?_⟩
        · go_simp
          rfl
        with_reducible refine soup_q ?_ ?_ ?_
        · rfl
        · rfl
        with_reducible apply Exists.intro
        with_reducible refine ⟨fun W hk _ => ?_, ?_⟩
        · unfold Oper.same
          go_simp
          first | rfl | exact ⟨rfl, rfl⟩
        with_reducible apply Exists.intro
        with_reducible refine ⟨?_, ?_⟩
        · go_simp
          rfl
        with_reducible refine soup_q ?_ ?_ ?_
        · rfl
        · rfl
        with_reducible apply Exists.intro
        with_reducible refine ⟨fun W hk _ => ?_, ?_⟩
        · unfold Oper.same
          go_simp
          first | rfl | exact ⟨rfl, rfl⟩
        with_reducible apply Exists.intro
        with_reducible refine ⟨?_, ?_⟩
        · go_simp
          rfl
        with_reducible refine soup_q ?_ ?_ ?_
        · rfl
        · rfl
        with_reducible apply Exists.intro
        with_reducible refine ⟨fun W hk _ => ?_, ?_⟩
        · unfold Oper.same
          go_simp
          first | rfl | exact ⟨rfl, rfl⟩
        with_reducible apply Exists.intro
        with_reducible refine ⟨?_, ?_⟩
        · go_simp
          rfl
        with_reducible refine soup_q ?_ ?_ ?_
        · rfl
        · rfl
        with_reducible apply Exists.intro
        with_reducible refine ⟨fun W hk _ => ?_, ?_⟩
        · unfold Oper.same
          go_simp
          first | rfl | exact ⟨rfl, rfl⟩
        with_reducible apply Exists.intro
        with_reducible refine ⟨?_, ?_⟩
        · go_simp
          rfl
        with_reducible refine soup_q ?_ ?_ ?_
        · rfl
        · rfl
        with_reducible apply Exists.intro
        with_reducible refine ⟨fun W hk _ => ?_, ?_⟩
        · unfold Oper.same
          go_simp
          first | rfl | exact ⟨rfl, rfl⟩
        with_reducible apply Exists.intro
        with_reducible refine ⟨?_, ?_⟩
        · go_simp
          rfl
        with_reducible refine soup_q ?_ ?_ ?_
        · rfl
        · rfl
        with_reducible apply Exists.intro
        with_reducible refine ⟨fun W hk _ => ?_, ?_⟩
        · have x1 := ((K17.out.trans hk).cell _ HGA.out (by simp)).trans HX1.out
          unfold Oper.same
          go_simp
          first | rfl | exact ⟨rfl, rfl⟩
        with_reducible apply Exists.intro
        with_reducible refine ⟨?_, ?_⟩
        · go_simp
          rfl
        with_reducible refine soup_q ?_ ?_ ?_
        · rfl
        · rfl
        with_reducible apply Exists.intro
        with_reducible refine ⟨fun W hk _ => ?_, ?_⟩
        · unfold Oper.same
          go_simp
          first | rfl | exact ⟨rfl, rfl⟩
        with_reducible apply Exists.intro
        with_reducible refine ⟨?_, ?_⟩
        · go_simp
          rfl
        with_reducible refine soup_q ?_ ?_ ?_
        · rfl
        · rfl
        with_reducible apply Exists.intro
        with_reducible refine ⟨fun W hk _ => ?_, ?_⟩
        · have z3 := ((K17.out.trans hk).cell _ HZB.out (by simp)).trans HZ.out.facts.2.2.2.1
          unfold Oper.same
          go_simp
          first | rfl | exact ⟨rfl, rfl⟩
        with_reducible apply Exists.intro
        with_reducible refine ⟨?_, ?_⟩
        · go_simp
          rfl
        with_reducible refine soup_q ?_ ?_ ?_
        · rfl
        · rfl
        with_reducible apply Exists.intro
        with_reducible refine ⟨fun W hk _ => ?_, ?_⟩
        · unfold Oper.same
          go_simp
          first | rfl | exact ⟨rfl, rfl⟩
        with_reducible apply Exists.intro
        with_reducible refine ⟨?_, ?_⟩
        · go_simp
          rfl
        with_reducible refine soup_q ?_ ?_ ?_
        · rfl
        · rfl
        with_reducible apply Exists.intro
        with_reducible refine ⟨fun W hk _ => ?_, ?_⟩
        · unfold Oper.same
          go_simp
          first | rfl | exact ⟨rfl, rfl⟩
        with_reducible apply Exists.intro
        with_reducible refine ⟨?_, ?_⟩
        · go_simp
          rfl
        with_reducible refine soup_q ?_ ?_ ?_
        · rfl
        · rfl
        with_reducible apply Exists.intro
        with_reducible refine ⟨fun W hk _ => ?_, ?_⟩
        · unfold Oper.same
          go_simp
          first | rfl | exact ⟨rfl, rfl⟩
        with_reducible apply Exists.intro
        with_reducible refine ⟨?_, ?_⟩
        · go_simp
          rfl
        with_reducible refine soup_q ?_ ?_ ?_
        · rfl
        · rfl
        with_reducible apply Exists.intro
        with_reducible refine ⟨fun W hk _ => ?_, ?_⟩
        · unfold Oper.same
          go_simp
          first | rfl | exact ⟨rfl, rfl⟩
        with_reducible apply Exists.intro
        with_reducible refine ⟨?_, ?_⟩
        · go_simp
          rfl
        with_reducible refine soup_q ?_ ?_ ?_
        · rfl
        · rfl
        with_reducible apply Exists.intro
        with_reducible refine ⟨fun W hk _ => ?_, ?_⟩
        · unfold Oper.same
          go_simp
          first | rfl | exact ⟨rfl, rfl⟩
        with_reducible apply Exists.intro
        with_reducible refine ⟨?_, ?_⟩
        · go_simp
          rfl
        with_reducible refine soup_q ?_ ?_ ?_
        · rfl
        · rfl
        with_reducible apply Exists.intro
        with_reducible refine ⟨fun W hk _ => ?_, ?_⟩
        · have z5 := ((K17.out.trans hk).cell _ HZB.out (by simp)).trans HZ.out.facts.2.2.2.2.2.1
          unfold Oper.same
          go_simp
          first | rfl | exact ⟨rfl, rfl⟩
        with_reducible apply Exists.intro
        with_reducible refine ⟨?_, ?_⟩
        · go_simp
          rfl
        with_reducible refine soup_q ?_ ?_ ?_
        · rfl
        · rfl
        with_reducible apply Exists.intro
        with_reducible refine ⟨fun W hk _ => ?_, ?_⟩
        · unfold Oper.same
          go_simp
          first | rfl | exact ⟨rfl, rfl⟩
        with_reducible apply Exists.intro
        with_reducible refine ⟨?_, ?_⟩
        · go_simp
          rfl
        refine soup_nil (fun W18 hk hS => ?_)
        have K18 := Lib.hid (K17.out.trans hk)
        clear hk hS
        have y0 := (K18.out.cell _ HMB.out (by simp)).trans HY0.out
        have y1 := (K18.out.cell _ HMB.out (by simp)).trans HY1.out
        have y2 := (K18.out.cell _ HMB.out (by simp)).trans HY2.out
        have y3 := (K18.out.cell _ HMB.out (by simp)).trans HY3.out
        have z0 := (K18.out.cell _ HZB.out (by simp)).trans HZ.out.facts.1
        have z1 := (K18.out.cell _ HZB.out (by simp)).trans HZ.out.facts.2.1
        have z2 := (K18.out.cell _ HZB.out (by simp)).trans HZ.out.facts.2.2.1
        have z3 := (K18.out.cell _ HZB.out (by simp)).trans HZ.out.facts.2.2.2.1
        have z4 := (K18.out.cell _ HZB.out (by simp)).trans HZ.out.facts.2.2.2.2.1
        have z5 := (K18.out.cell _ HZB.out (by simp)).trans HZ.out.facts.2.2.2.2.2.1
        have y17 := (K18.out.cell _ HMB.out (by simp)).trans HY17.out
        have y18 := (K18.out.cell _ HMB.out (by simp)).trans HY18.out
        have y19 := (K18.out.cell _ HMB.out (by simp)).trans HY19.out
        obtain ⟨d0, d1, d2, d3⟩ := TbFacts (((HKR.out.trans K16.out).trans K18.out).block _ (lt_of_heap HBT.out) (by simp) |>.trans HBT.out)
        have HSM := Lib.hid (tsame_true c.ep c.nd vc ud (w := W18) (IRow.keep HIR2.out (K16.out.trans K18.out) (by simp)).at (HU.out.keep (HKR.out.trans (K16.out.trans K18.out)) (by simp)).at (by rw [HON.out]; omega))
        rw [HON.out] at HSM
        go_wp2_with (fail)
        refine HSM.out.mono ?_
        rintro e W19 ⟨rfl, hk19⟩
        have K19 := Lib.hid (K18.out.trans hk19)
        clear hk19 y0 y1 y2 y3 z0 z1 z2 z3 z4 z5 y17 y18 y19 d0 d1 d2 d3
        have y0 := (K19.out.cell _ HMB.out (by simp)).trans HY0.out
        have y1 := (K19.out.cell _ HMB.out (by simp)).trans HY1.out
        have y2 := (K19.out.cell _ HMB.out (by simp)).trans HY2.out
        have y3 := (K19.out.cell _ HMB.out (by simp)).trans HY3.out
        have z0 := (K19.out.cell _ HZB.out (by simp)).trans HZ.out.facts.1
        have z1 := (K19.out.cell _ HZB.out (by simp)).trans HZ.out.facts.2.1
        have z2 := (K19.out.cell _ HZB.out (by simp)).trans HZ.out.facts.2.2.1
        have z3 := (K19.out.cell _ HZB.out (by simp)).trans HZ.out.facts.2.2.2.1
        have z4 := (K19.out.cell _ HZB.out (by simp)).trans HZ.out.facts.2.2.2.2.1
        have z5 := (K19.out.cell _ HZB.out (by simp)).trans HZ.out.facts.2.2.2.2.2.1
        go_wp2_with (fail)
        have HKE := Lib.hid ((HKR.out.trans K16.out).trans K19.out)
        go_roundw
        case rel => exact ⟨i + 1, by go_num, by omega, by rw [HC14.out, HISN.out]; first | rfl | (push_cast; rfl), HKE.out⟩
        case measure => go_light; simp [intOf]; omega
      · have e := HI.out.mem q hq
        have hfm := found_moves HI.out hq
        obtain ⟨hmv, hpt, hfrr, htoo, hfne⟩ : (1 ≤ q.2.mv) ∧ (0 ≤ q.2.part) ∧ (0 ≤ q.2.fr) ∧ (0 ≤ q.2.to) ∧ q.2.fr ≠ q.2.to := ⟨e.mv.1, e.part.1, e.fr.1, e.to.1, e.ne⟩
        have hto : to = q.2.fr := congrArg Prod.fst hpe
        have hm : m = m12 q.2 := congrArg Prod.snd hpe
        have HISN : Hid (is14 (to, m) = false) := Lib.hid (by rw [hm]; rfl)
        have HY0 : Hid (W14.cell? ⟨W13.heap.size, 0, none⟩ = some (.int .u8 12)) := Lib.hid (by rw [y0, hm]; rfl)
        have HY1 : Hid (W14.cell? ⟨W13.heap.size, 1, none⟩ = some (.int .i64 q.2.mv)) := Lib.hid (by rw [y1, hm]; exact congrArg (fun z => some (Value.int .i64 z)) (Int.toNat_of_nonneg (show 0 ≤ q.2.mv by omega)))
        have HY2 : Hid (W14.cell? ⟨W13.heap.size, 2, none⟩ = some (.int .i64 q.2.part)) := Lib.hid (by rw [y2, hm]; exact congrArg (fun z => some (Value.int .i64 z)) (Int.toNat_of_nonneg hpt))
        have HY3 := Lib.hid y3
        obtain ⟨⟨st, dn⟩, ht⟩ : ∃ t, atOf q.2.mv c.at_ = t := ⟨_, rfl⟩
        rw [ht] at h1 h2 hfm
        simp only at h1 h2
        obtain ⟨qk, ⟨mvq, part, fr, to'⟩⟩ := q
        simp only at *
        have HFM := Lib.hid hfm
        have hto2 := hto.symm
        subst hto2
        subst h1
        have gft : (fr == to') = false := by simpa using hfne
        have gda : (bits BinOp.and .i64 (dn : Int) 1 != 0) = false := by rcases h2 with h | h <;> (rw [h]; rfl)
        have HFI := Lib.hid (find_any (w := W14) (MoRow.keep HV.out HKR.out (by simp)) (by rw [HNL.out]; have := HML.out; omega) mvq)
        clear y0 y1 y2 y3 y17 y18 y19
        have y0 := HY0.out
        have y1 := HY1.out
        clear hm hpe ht hq e hfm hfne hmv hpt hfrr htoo h2
        go_wp2_with ((with_reducible refine wpList_store_all ?_ 40 (.tmp 10) (.tmp 32) ?_ (W13.heap.size) ?_ mc ?_ HSTO.out ?_); rfl; rfl; rfl; rfl)
        refine HFI.out.mono ?_
        rintro e W15 ⟨rfl, hk15⟩
        rw [HFM.out]
        simp only [Option.getD_some, Option.isSome_some]
        obtain ⟨W16, hW16⟩ : ∃ x, W15.alloc (.cells #[.int .i64 mvq, .int .i64 part, .int .i64 fr, .int .i64 to', .int .i64 3, .int .i64 (dn : Int)] 56) = x := ⟨_, rfl⟩
        have k16 : Keep [] W15 W16 := by rw [← hW16]; exact (Keep.refl _ _).alloc _
        have HZ := Lib.hid (show SixAt W16 W15.heap.size (.int .i64 mvq) (.int .i64 part) (.int .i64 fr) (.int .i64 to') (.int .i64 3) (.int .i64 (dn : Int)) from ⟨by rw [← hW16]; exact World.alloc_heap_new W15 _⟩)
        have HW16 := Lib.hid hW16
        have hk := hk15.trans k16
        have K16 := Lib.hid hk
        have HY0 := Lib.hid ((hk.cell _ HM14.out (by simp)).trans HY0.out)
        have HY1 := Lib.hid ((hk.cell _ HM14.out (by simp)).trans HY1.out)
        have HY2 := Lib.hid ((hk.cell _ HM14.out (by simp)).trans HY2.out)
        have HY3 := Lib.hid ((hk.cell _ HM14.out (by simp)).trans HY3.out)
        have HX1 := Lib.hid ((hk.cell _ HGA.out (by simp)).trans HX1.out)
        have HGA := Lib.hid (Nat.lt_of_lt_of_le HGA.out hk.size)
        have HMB := Lib.hid (Nat.lt_of_lt_of_le HM14.out hk.size)
        have HZB := Lib.hid (lt_of_heap HZ.out.blk)
        clear hk hk15 k16 hW16 y0 y1 x0
        go_upto_region 15 with (fail)
        rw [HW16.out]
        have K17 := Lib.hid (Keep.refl [] W16)
        refine wp_region_soup 7 [] (fun _ => none) (by kernel_rfl) (by kernel_rfl) (spOk_of (l := []) (by simp)) (pre_of (l := []) (by simp)) ?_
        simp only [List.take_succ_cons, List.take_zero, List.drop_succ_cons, List.drop_zero]
        with_reducible refine soup_q ?_ ?_ ?_
        · rfl
        · rfl
        with_reducible apply Exists.intro
        with_reducible refine ⟨fun W hk _ => ?_, ?_⟩
        · unfold Oper.same
          go_simp
          first | rfl | exact ⟨rfl, rfl⟩
        with_reducible apply Exists.intro
        with_reducible refine ⟨?_, ?_⟩
        · go_simp
          rfl
        with_reducible refine soup_q ?_ ?_ ?_
        · rfl
        · rfl
        with_reducible apply Exists.intro
        with_reducible refine ⟨fun W hk _ => ?_, ?_⟩
        · unfold Oper.same
          go_simp
          first | rfl | exact ⟨rfl, rfl⟩
        with_reducible apply Exists.intro
        with_reducible refine ⟨?_, ?_⟩
        · go_simp
          rfl
        with_reducible refine soup_q ?_ ?_ ?_
        · rfl
        · rfl
        with_reducible apply Exists.intro
        with_reducible refine ⟨fun W hk _ => ?_, ?_⟩
        · unfold Oper.same
          go_simp
          first | rfl | exact ⟨rfl, rfl⟩
        with_reducible apply Exists.intro
        with_reducible refine ⟨?_, ?_⟩
        · go_simp
          rfl
        with_reducible refine soup_q ?_ ?_ ?_
        · rfl
        · rfl
        with_reducible apply Exists.intro
        with_reducible refine ⟨fun W hk _ => ?_, ?_⟩
        · unfold Oper.same
          go_simp
          first | rfl | exact ⟨rfl, rfl⟩
        with_reducible apply Exists.intro
        with_reducible refine ⟨?_, ?_⟩
        · go_simp
          rfl
        with_reducible refine soup_q ?_ ?_ ?_
        · rfl
        · rfl
        with_reducible apply Exists.intro
        with_reducible refine ⟨fun W hk _ => ?_, ?_⟩
        · have x1 := ((K17.out.trans hk).cell _ HGA.out (by simp)).trans HX1.out
          unfold Oper.same
          go_simp
          first | rfl | exact ⟨rfl, rfl⟩
        with_reducible apply Exists.intro
        with_reducible refine ⟨?_, ?_⟩
        · go_simp
          rfl
        with_reducible refine soup_q ?_ ?_ ?_
        · rfl
        · rfl
        with_reducible apply Exists.intro
        with_reducible refine ⟨fun W hk _ => ?_, ?_⟩
        · unfold Oper.same
          go_simp
          first | rfl | exact ⟨rfl, rfl⟩
        with_reducible apply Exists.intro
        with_reducible refine ⟨?_, ?_⟩
        · go_simp
          rfl
        with_reducible refine soup_q ?_ ?_ ?_
        · rfl
        · rfl
        with_reducible apply Exists.intro
        with_reducible refine ⟨fun W hk _ => ?_, ?_⟩
        · have z3 := ((K17.out.trans hk).cell _ HZB.out (by simp)).trans HZ.out.facts.2.2.2.1
          unfold Oper.same
          go_simp
          first | rfl | exact ⟨rfl, rfl⟩
        with_reducible apply Exists.intro
        with_reducible refine ⟨?_, ?_⟩
        · go_simp
          rfl
        refine soup_nil (fun W17 hk hS => ?_)
        have K17 := Lib.hid (K17.out.trans hk)
        clear hk hS
        go_wp2_with (fail)
        refine wp_region_soup 33 [] (fun _ => none) (by kernel_rfl) (by kernel_rfl) (spOk_of (l := []) (by simp)) (pre_of (l := []) (by simp)) ?_
        simp only [List.take_succ_cons, List.take_zero, List.drop_succ_cons, List.drop_zero]
        with_reducible refine soup_q ?_ ?_ ?_
        · rfl
        · rfl
        with_reducible apply Exists.intro
        with_reducible refine ⟨fun W hk _ => ?_, ?_⟩
        · unfold Oper.same
          go_simp
          first | rfl | exact ⟨rfl, rfl⟩
        with_reducible apply Exists.intro
        with_reducible refine ⟨?_, ?_⟩
        · go_simp
          rfl
        with_reducible refine soup_q ?_ ?_ ?_
        · rfl
        · rfl
        with_reducible apply Exists.intro
        with_reducible refine ⟨fun W hk _ => ?_, ?_⟩
        · unfold Oper.same
          go_simp
          first | rfl | exact ⟨rfl, rfl⟩
        with_reducible apply Exists.intro
        with_reducible refine ⟨?_, ?_⟩
        · go_simp
          rfl
        with_reducible refine soup_q ?_ ?_ ?_
        · rfl
        · rfl
        with_reducible apply Exists.intro
        with_reducible refine ⟨fun W hk _ => ?_, ?_⟩
        · unfold Oper.same
          go_simp
          first | rfl | exact ⟨rfl, rfl⟩
        with_reducible apply Exists.intro
        with_reducible refine ⟨?_, ?_⟩
        · go_simp
          rfl
        with_reducible refine soup_q ?_ ?_ ?_
        · rfl
        · rfl
        with_reducible apply Exists.intro
        with_reducible refine ⟨fun W hk _ => ?_, ?_⟩
        · unfold Oper.same
          go_simp
          first | rfl | exact ⟨rfl, rfl⟩
        with_reducible apply Exists.intro
        with_reducible refine ⟨?_, ?_⟩
        · go_simp
          rfl
        with_reducible refine soup_q ?_ ?_ ?_
        · rfl
        · rfl
        with_reducible apply Exists.intro
        with_reducible refine ⟨fun W hk _ => ?_, ?_⟩
        · have y2 := ((K17.out.trans hk).cell _ HMB.out (by simp)).trans HY2.out
          unfold Oper.same
          go_simp
          first | rfl | exact ⟨rfl, rfl⟩
        with_reducible apply Exists.intro
        with_reducible refine ⟨?_, ?_⟩
        · go_simp
          rfl
        with_reducible refine soup_q ?_ ?_ ?_
        · rfl
        · rfl
        with_reducible apply Exists.intro
        with_reducible refine ⟨fun W hk _ => ?_, ?_⟩
        · unfold Oper.same
          go_simp
          first | rfl | exact ⟨rfl, rfl⟩
        with_reducible apply Exists.intro
        with_reducible refine ⟨?_, ?_⟩
        · go_simp
          rfl
        with_reducible refine soup_q ?_ ?_ ?_
        · rfl
        · rfl
        with_reducible apply Exists.intro
        with_reducible refine ⟨fun W hk _ => ?_, ?_⟩
        · have z1 := ((K17.out.trans hk).cell _ HZB.out (by simp)).trans HZ.out.facts.2.1
          unfold Oper.same
          go_simp
          first | rfl | exact ⟨rfl, rfl⟩
        with_reducible apply Exists.intro
        with_reducible refine ⟨?_, ?_⟩
        · go_simp
          rfl
        with_reducible refine soup_q ?_ ?_ ?_
        · rfl
        · rfl
        with_reducible apply Exists.intro
        with_reducible refine ⟨fun W hk _ => ?_, ?_⟩
        · unfold Oper.same
          go_simp
          first | rfl | exact ⟨rfl, rfl⟩
        with_reducible apply Exists.intro
        with_reducible refine ⟨?_, ?_⟩
        · go_simp
          rfl
        with_reducible refine soup_q ?_ ?_ ?_
        · rfl
        · rfl
        with_reducible apply Exists.intro
        with_reducible refine ⟨fun W hk _ => ?_, ?_⟩
        · unfold Oper.same
          go_simp
          first | rfl | exact ⟨rfl, rfl⟩
        with_reducible apply Exists.intro
        with_reducible refine ⟨?_, ?_⟩
        · go_simp
          rfl
        with_reducible refine soup_q ?_ ?_ ?_
        · rfl
        · rfl
        with_reducible apply Exists.intro
        with_reducible refine ⟨fun W hk _ => ?_, ?_⟩
        · unfold Oper.same
          go_simp
          first | rfl | exact ⟨rfl, rfl⟩
        with_reducible apply Exists.intro
        with_reducible refine ⟨?_, ?_⟩
        · go_simp
          rfl
        with_reducible refine soup_q ?_ ?_ ?_
        · rfl
        · rfl
        with_reducible apply Exists.intro
        with_reducible refine ⟨fun W hk _ => ?_, ?_⟩
        · unfold Oper.same
          go_simp
          first | rfl | exact ⟨rfl, rfl⟩
        with_reducible apply Exists.intro
        with_reducible refine ⟨?_, ?_⟩
        · go_simp
          rfl
        with_reducible refine soup_q ?_ ?_ ?_
        · rfl
        · rfl
        with_reducible apply Exists.intro
        with_reducible refine ⟨fun W hk _ => ?_, ?_⟩
        · unfold Oper.same
          go_simp
          first | rfl | exact ⟨rfl, rfl⟩
        with_reducible apply Exists.intro
        with_reducible refine ⟨?_, ?_⟩
        · go_simp
          rfl
        with_reducible refine soup_q ?_ ?_ ?_
        · rfl
        · rfl
        with_reducible apply Exists.intro
        with_reducible refine ⟨fun W hk _ => ?_, ?_⟩
        · unfold Oper.same
          go_simp
          first | rfl | exact ⟨rfl, rfl⟩
        with_reducible apply Exists.intro
        with_reducible refine ⟨?_, ?_⟩
        · go_simp
          rfl
        with_reducible refine soup_q ?_ ?_ ?_
        · rfl
        · rfl
        with_reducible apply Exists.intro
        with_reducible refine ⟨fun W hk _ => ?_, ?_⟩
        · unfold Oper.same
          go_simp
          first | rfl | exact ⟨rfl, rfl⟩
        with_reducible apply Exists.intro
        with_reducible refine ⟨?_, ?_⟩
        · go_simp
          rfl
        with_reducible refine soup_q ?_ ?_ ?_
        · rfl
        · rfl
        with_reducible apply Exists.intro
        with_reducible refine ⟨fun W hk _ => ?_, ?_⟩
        · have x1 := ((K17.out.trans hk).cell _ HGA.out (by simp)).trans HX1.out
          unfold Oper.same
          go_simp
          first | rfl | exact ⟨rfl, rfl⟩
        with_reducible apply Exists.intro
        with_reducible refine ⟨?_, ?_⟩
        · go_simp
          rfl
        with_reducible refine soup_q ?_ ?_ ?_
        · rfl
        · rfl
        with_reducible apply Exists.intro
        with_reducible refine ⟨fun W hk _ => ?_, ?_⟩
        · unfold Oper.same
          go_simp
          first | rfl | exact ⟨rfl, rfl⟩
        with_reducible apply Exists.intro
        with_reducible refine ⟨?_, ?_⟩
        · go_simp
          rfl
        with_reducible refine soup_q ?_ ?_ ?_
        · rfl
        · rfl
        with_reducible apply Exists.intro
        with_reducible refine ⟨fun W hk _ => ?_, ?_⟩
        · have z2 := ((K17.out.trans hk).cell _ HZB.out (by simp)).trans HZ.out.facts.2.2.1
          unfold Oper.same
          go_simp
          first | rfl | exact ⟨rfl, rfl⟩
        with_reducible apply Exists.intro
        with_reducible refine ⟨?_, ?_⟩
        · go_simp
          rfl
        with_reducible refine soup_q ?_ ?_ ?_
        · rfl
        · rfl
        with_reducible apply Exists.intro
        with_reducible refine ⟨fun W hk _ => ?_, ?_⟩
        · unfold Oper.same
          go_simp
          first | rfl | exact ⟨rfl, rfl⟩
        with_reducible apply Exists.intro
        with_reducible refine ⟨?_, ?_⟩
        · go_simp
          rfl
        with_reducible refine soup_q ?_ ?_ ?_
        · rfl
        · rfl
        with_reducible apply Exists.intro
        with_reducible refine ⟨fun W hk _ => ?_, ?_⟩
        · unfold Oper.same
          go_simp
          first | rfl | exact ⟨rfl, rfl⟩
        with_reducible apply Exists.intro
        with_reducible refine ⟨?_, ?_⟩
        · go_simp
          rfl
        iterate 8
          with_reducible refine soup_no ?_ ?_
          · rfl
          with_reducible apply Exists.intro
          with_reducible refine ⟨?_, ?_⟩
          · go_simp
            rfl
        with_reducible refine soup_q ?_ ?_ ?_
        · rfl
        · rfl
        with_reducible apply Exists.intro
        with_reducible refine ⟨fun W hk _ => ?_, ?_⟩
        · unfold Oper.same
          go_simp
          first | rfl | exact ⟨rfl, rfl⟩
        with_reducible apply Exists.intro
        with_reducible refine ⟨?_, ?_⟩
        · go_simp
          rfl
        with_reducible refine soup_q ?_ ?_ ?_
        · rfl
        · rfl
        with_reducible apply Exists.intro
        with_reducible refine ⟨fun W hk _ => ?_, ?_⟩
        · unfold Oper.same
          go_simp
          first | rfl | exact ⟨rfl, rfl⟩
        with_reducible apply Exists.intro
        with_reducible refine ⟨?_, ?_⟩
        · go_simp
          rfl
        with_reducible refine soup_q ?_ ?_ ?_
        · rfl
        · rfl
        with_reducible apply Exists.intro
        with_reducible refine ⟨fun W hk _ => ?_, ?_⟩
        · unfold Oper.same
          go_simp
          first | rfl | exact ⟨rfl, rfl⟩
        with_reducible apply Exists.intro
        with_reducible refine ⟨?_, ?_⟩
        · go_simp
          rfl
        with_reducible refine soup_q ?_ ?_ ?_
        · rfl
        · rfl
        with_reducible apply Exists.intro
        with_reducible refine ⟨fun W hk _ => ?_, ?_⟩
        · unfold Oper.same
          go_simp
          first | rfl | exact ⟨rfl, rfl⟩
        with_reducible apply Exists.intro
        with_reducible refine ⟨?_, ?_⟩
        · go_simp
          rfl
        with_reducible refine soup_q ?_ ?_ ?_
        · rfl
        · rfl
        with_reducible apply Exists.intro
        with_reducible refine ⟨fun W hk _ => ?_, ?_⟩
        · have z5 := ((K17.out.trans hk).cell _ HZB.out (by simp)).trans HZ.out.facts.2.2.2.2.2.1
          unfold Oper.same
          go_simp
          first | rfl | exact ⟨rfl, rfl⟩
        with_reducible apply Exists.intro
        with_reducible refine ⟨?_, ?_⟩
        · go_simp
          rfl
        with_reducible refine soup_q ?_ ?_ ?_
        · rfl
        · rfl
        with_reducible apply Exists.intro
        with_reducible refine ⟨fun W hk _ => ?_, ?_⟩
        · unfold Oper.same
          go_simp
          first | rfl | exact ⟨rfl, rfl⟩
        with_reducible apply Exists.intro
        with_reducible refine ⟨?_, ?_⟩
        · go_simp
          rfl
        refine soup_nil (fun W18 hk hS => ?_)
        have K18 := Lib.hid (K17.out.trans hk)
        clear hk hS
        have y0 := (K18.out.cell _ HMB.out (by simp)).trans HY0.out
        have y1 := (K18.out.cell _ HMB.out (by simp)).trans HY1.out
        have y2 := (K18.out.cell _ HMB.out (by simp)).trans HY2.out
        have y3 := (K18.out.cell _ HMB.out (by simp)).trans HY3.out
        have z0 := (K18.out.cell _ HZB.out (by simp)).trans HZ.out.facts.1
        have z1 := (K18.out.cell _ HZB.out (by simp)).trans HZ.out.facts.2.1
        have z2 := (K18.out.cell _ HZB.out (by simp)).trans HZ.out.facts.2.2.1
        have z3 := (K18.out.cell _ HZB.out (by simp)).trans HZ.out.facts.2.2.2.1
        have z4 := (K18.out.cell _ HZB.out (by simp)).trans HZ.out.facts.2.2.2.2.1
        have z5 := (K18.out.cell _ HZB.out (by simp)).trans HZ.out.facts.2.2.2.2.2.1
        go_wp2_with (fail)
        have HKE := Lib.hid ((HKR.out.trans K16.out).trans K18.out)
        go_roundw
        case rel => exact ⟨i + 1, by go_num, by omega, by rw [HC14.out, HISN.out]; first | rfl | (push_cast; rfl), HKE.out⟩
        case measure => go_light; simp [intOf]; omega
      · have e := HI.out.mem q hq
        have hfm := found_moves HI.out hq
        obtain ⟨hmv, hpt, hfrr, htoo, hfne⟩ : (1 ≤ q.2.mv) ∧ (0 ≤ q.2.part) ∧ (0 ≤ q.2.fr) ∧ (0 ≤ q.2.to) ∧ q.2.fr ≠ q.2.to := ⟨e.mv.1, e.part.1, e.fr.1, e.to.1, e.ne⟩
        have hto : to = q.2.to := congrArg Prod.fst hpe
        have hm : m = m12 q.2 := congrArg Prod.snd hpe
        have HISN : Hid (is14 (to, m) = false) := Lib.hid (by rw [hm]; rfl)
        have HY0 : Hid (W14.cell? ⟨W13.heap.size, 0, none⟩ = some (.int .u8 12)) := Lib.hid (by rw [y0, hm]; rfl)
        have HY1 : Hid (W14.cell? ⟨W13.heap.size, 1, none⟩ = some (.int .i64 q.2.mv)) := Lib.hid (by rw [y1, hm]; exact congrArg (fun z => some (Value.int .i64 z)) (Int.toNat_of_nonneg (show 0 ≤ q.2.mv by omega)))
        have HY2 : Hid (W14.cell? ⟨W13.heap.size, 2, none⟩ = some (.int .i64 q.2.part)) := Lib.hid (by rw [y2, hm]; exact congrArg (fun z => some (Value.int .i64 z)) (Int.toNat_of_nonneg hpt))
        have HY3 := Lib.hid y3
        obtain ⟨⟨st, dn⟩, ht⟩ : ∃ t, atOf q.2.mv c.at_ = t := ⟨_, rfl⟩
        rw [ht] at h1 h2 hfm
        simp only at h1 h2
        obtain ⟨qk, ⟨mvq, part, fr, to'⟩⟩ := q
        simp only at *
        have HFM := Lib.hid hfm
        have hto2 := hto.symm
        subst hto2
        subst h1
        have gft : (fr == to') = false := by simpa using hfne
        have gtf : (to' != fr) = true := by simpa using fun e : to' = fr => hfne e.symm
        have gtg : (to' == fr) = false := by simpa using fun e : to' = fr => hfne e.symm
        have gda : (bits BinOp.and .i64 (dn : Int) 2 != 0) = false := by rcases h2 with h | h <;> (rw [h]; rfl)
        have HFI := Lib.hid (find_any (w := W14) (MoRow.keep HV.out HKR.out (by simp)) (by rw [HNL.out]; have := HML.out; omega) mvq)
        clear y0 y1 y2 y3 y17 y18 y19
        have y0 := HY0.out
        have y1 := HY1.out
        clear hm hpe ht hq e hfm hfne hmv hpt hfrr htoo h2
        go_wp2_with ((with_reducible refine wpList_store_all ?_ 40 (.tmp 10) (.tmp 32) ?_ (W13.heap.size) ?_ mc ?_ HSTO.out ?_); rfl; rfl; rfl; rfl)
        refine HFI.out.mono ?_
        rintro e W15 ⟨rfl, hk15⟩
        rw [HFM.out]
        simp only [Option.getD_some, Option.isSome_some]
        obtain ⟨W16, hW16⟩ : ∃ x, W15.alloc (.cells #[.int .i64 mvq, .int .i64 part, .int .i64 fr, .int .i64 to', .int .i64 3, .int .i64 (dn : Int)] 56) = x := ⟨_, rfl⟩
        have k16 : Keep [] W15 W16 := by rw [← hW16]; exact (Keep.refl _ _).alloc _
        have HZ := Lib.hid (show SixAt W16 W15.heap.size (.int .i64 mvq) (.int .i64 part) (.int .i64 fr) (.int .i64 to') (.int .i64 3) (.int .i64 (dn : Int)) from ⟨by rw [← hW16]; exact World.alloc_heap_new W15 _⟩)
        have HW16 := Lib.hid hW16
        have hk := hk15.trans k16
        have K16 := Lib.hid hk
        have HY0 := Lib.hid ((hk.cell _ HM14.out (by simp)).trans HY0.out)
        have HY1 := Lib.hid ((hk.cell _ HM14.out (by simp)).trans HY1.out)
        have HY2 := Lib.hid ((hk.cell _ HM14.out (by simp)).trans HY2.out)
        have HY3 := Lib.hid ((hk.cell _ HM14.out (by simp)).trans HY3.out)
        have HX1 := Lib.hid ((hk.cell _ HGA.out (by simp)).trans HX1.out)
        have HGA := Lib.hid (Nat.lt_of_lt_of_le HGA.out hk.size)
        have HMB := Lib.hid (Nat.lt_of_lt_of_le HM14.out hk.size)
        have HZB := Lib.hid (lt_of_heap HZ.out.blk)
        clear hk hk15 k16 hW16 y0 y1 x0
        go_upto_region 15 with (fail)
        rw [HW16.out]
        have K17 := Lib.hid (Keep.refl [] W16)
        refine wp_region_soup 7 [] (fun _ => none) (by kernel_rfl) (by kernel_rfl) (spOk_of (l := []) (by simp)) (pre_of (l := []) (by simp)) ?_
        simp only [List.take_succ_cons, List.take_zero, List.drop_succ_cons, List.drop_zero]
        with_reducible refine soup_q ?_ ?_ ?_
        · rfl
        · rfl
        with_reducible apply Exists.intro
        with_reducible refine ⟨fun W hk _ => ?_, ?_⟩
        · unfold Oper.same
          go_simp
          first | rfl | exact ⟨rfl, rfl⟩
        with_reducible apply Exists.intro
        with_reducible refine ⟨?_, ?_⟩
        · go_simp
          rfl
        with_reducible refine soup_q ?_ ?_ ?_
        · rfl
        · rfl
        with_reducible apply Exists.intro
        with_reducible refine ⟨fun W hk _ => ?_, ?_⟩
        · unfold Oper.same
          go_simp
          first | rfl | exact ⟨rfl, rfl⟩
        with_reducible apply Exists.intro
        with_reducible refine ⟨?_, ?_⟩
        · go_simp
          rfl
        with_reducible refine soup_q ?_ ?_ ?_
        · rfl
        · rfl
        with_reducible apply Exists.intro
        with_reducible refine ⟨fun W hk _ => ?_, ?_⟩
        · unfold Oper.same
          go_simp
          first | rfl | exact ⟨rfl, rfl⟩
        with_reducible apply Exists.intro
        with_reducible refine ⟨?_, ?_⟩
        · go_simp
          rfl
        with_reducible refine soup_q ?_ ?_ ?_
        · rfl
        · rfl
        with_reducible apply Exists.intro
        with_reducible refine ⟨fun W hk _ => ?_, ?_⟩
        · unfold Oper.same
          go_simp
          first | rfl | exact ⟨rfl, rfl⟩
        with_reducible apply Exists.intro
        with_reducible refine ⟨?_, ?_⟩
        · go_simp
          rfl
        with_reducible refine soup_q ?_ ?_ ?_
        · rfl
        · rfl
        with_reducible apply Exists.intro
        with_reducible refine ⟨fun W hk _ => ?_, ?_⟩
        · have x1 := ((K17.out.trans hk).cell _ HGA.out (by simp)).trans HX1.out
          unfold Oper.same
          go_simp
          first | rfl | exact ⟨rfl, rfl⟩
        with_reducible apply Exists.intro
        with_reducible refine ⟨?_, ?_⟩
        · go_simp
          rfl
        with_reducible refine soup_q ?_ ?_ ?_
        · rfl
        · rfl
        with_reducible apply Exists.intro
        with_reducible refine ⟨fun W hk _ => ?_, ?_⟩
        · unfold Oper.same
          go_simp
          first | rfl | exact ⟨rfl, rfl⟩
        with_reducible apply Exists.intro
        with_reducible refine ⟨?_, ?_⟩
        · go_simp
          rfl
        with_reducible refine soup_q ?_ ?_ ?_
        · rfl
        · rfl
        with_reducible apply Exists.intro
        with_reducible refine ⟨fun W hk _ => ?_, ?_⟩
        · have z3 := ((K17.out.trans hk).cell _ HZB.out (by simp)).trans HZ.out.facts.2.2.2.1
          unfold Oper.same
          go_simp
          first | rfl | exact ⟨rfl, rfl⟩
        with_reducible apply Exists.intro
        with_reducible refine ⟨?_, ?_⟩
        · go_simp
          rfl
        refine soup_nil (fun W17 hk hS => ?_)
        have K17 := Lib.hid (K17.out.trans hk)
        clear hk hS
        go_wp2_with (fail)
        refine wp_region_soup 33 [] (fun _ => none) (by kernel_rfl) (by kernel_rfl) (spOk_of (l := []) (by simp)) (pre_of (l := []) (by simp)) ?_
        simp only [List.take_succ_cons, List.take_zero, List.drop_succ_cons, List.drop_zero]
        with_reducible refine soup_q ?_ ?_ ?_
        · rfl
        · rfl
        with_reducible apply Exists.intro
        with_reducible refine ⟨fun W hk _ => ?_, ?_⟩
        · unfold Oper.same
          go_simp
          first | rfl | exact ⟨rfl, rfl⟩
        with_reducible apply Exists.intro
        with_reducible refine ⟨?_, ?_⟩
        · go_simp
          rfl
        with_reducible refine soup_q ?_ ?_ ?_
        · rfl
        · rfl
        with_reducible apply Exists.intro
        with_reducible refine ⟨fun W hk _ => ?_, ?_⟩
        · unfold Oper.same
          go_simp
          first | rfl | exact ⟨rfl, rfl⟩
        with_reducible apply Exists.intro
        with_reducible refine ⟨?_, ?_⟩
        · go_simp
          rfl
        with_reducible refine soup_q ?_ ?_ ?_
        · rfl
        · rfl
        with_reducible apply Exists.intro
        with_reducible refine ⟨fun W hk _ => ?_, ?_⟩
        · unfold Oper.same
          go_simp
          first | rfl | exact ⟨rfl, rfl⟩
        with_reducible apply Exists.intro
        with_reducible refine ⟨?_, ?_⟩
        · go_simp
          rfl
        with_reducible refine soup_q ?_ ?_ ?_
        · rfl
        · rfl
        with_reducible apply Exists.intro
        with_reducible refine ⟨fun W hk _ => ?_, ?_⟩
        · unfold Oper.same
          go_simp
          first | rfl | exact ⟨rfl, rfl⟩
        with_reducible apply Exists.intro
        with_reducible refine ⟨?_, ?_⟩
        · go_simp
          rfl
        with_reducible refine soup_q ?_ ?_ ?_
        · rfl
        · rfl
        with_reducible apply Exists.intro
        with_reducible refine ⟨fun W hk _ => ?_, ?_⟩
        · have y2 := ((K17.out.trans hk).cell _ HMB.out (by simp)).trans HY2.out
          unfold Oper.same
          go_simp
          first | rfl | exact ⟨rfl, rfl⟩
        with_reducible apply Exists.intro
        with_reducible refine ⟨?_, ?_⟩
        · go_simp
          rfl
        with_reducible refine soup_q ?_ ?_ ?_
        · rfl
        · rfl
        with_reducible apply Exists.intro
        with_reducible refine ⟨fun W hk _ => ?_, ?_⟩
        · unfold Oper.same
          go_simp
          first | rfl | exact ⟨rfl, rfl⟩
        with_reducible apply Exists.intro
        with_reducible refine ⟨?_, ?_⟩
        · go_simp
          rfl
        with_reducible refine soup_q ?_ ?_ ?_
        · rfl
        · rfl
        with_reducible apply Exists.intro
        with_reducible refine ⟨fun W hk _ => ?_, ?_⟩
        · have z1 := ((K17.out.trans hk).cell _ HZB.out (by simp)).trans HZ.out.facts.2.1
          unfold Oper.same
          go_simp
          first | rfl | exact ⟨rfl, rfl⟩
        with_reducible apply Exists.intro
        with_reducible refine ⟨?_, ?_⟩
        · go_simp
          rfl
        with_reducible refine soup_q ?_ ?_ ?_
        · rfl
        · rfl
        with_reducible apply Exists.intro
        with_reducible refine ⟨fun W hk _ => ?_, ?_⟩
        · unfold Oper.same
          go_simp
          first | rfl | exact ⟨rfl, rfl⟩
        with_reducible apply Exists.intro
        with_reducible refine ⟨?_, ?_⟩
        · go_simp
          rfl
        with_reducible refine soup_q ?_ ?_ ?_
        · rfl
        · rfl
        with_reducible apply Exists.intro
        with_reducible refine ⟨fun W hk _ => ?_, ?_⟩
        · unfold Oper.same
          go_simp
          first | rfl | exact ⟨rfl, rfl⟩
        with_reducible apply Exists.intro
        with_reducible refine ⟨?_, ?_⟩
        · go_simp
          rfl
        with_reducible refine soup_q ?_ ?_ ?_
        · rfl
        · rfl
        with_reducible apply Exists.intro
        with_reducible refine ⟨fun W hk _ => ?_, ?_⟩
        · unfold Oper.same
          go_simp
          first | rfl | exact ⟨rfl, rfl⟩
        with_reducible apply Exists.intro
        with_reducible refine ⟨?_, ?_⟩
        · go_simp
          rfl
        with_reducible refine soup_q ?_ ?_ ?_
        · rfl
        · rfl
        with_reducible apply Exists.intro
        with_reducible refine ⟨fun W hk _ => ?_, ?_⟩
        · unfold Oper.same
          go_simp
          first | rfl | exact ⟨rfl, rfl⟩
        with_reducible apply Exists.intro
        with_reducible refine ⟨?_, ?_⟩
        · go_simp
          rfl
        with_reducible refine soup_q ?_ ?_ ?_
        · rfl
        · rfl
        with_reducible apply Exists.intro
        with_reducible refine ⟨fun W hk _ => ?_, ?_⟩
        · unfold Oper.same
          go_simp
          first | rfl | exact ⟨rfl, rfl⟩
        with_reducible apply Exists.intro
        with_reducible refine ⟨?_, ?_⟩
        · go_simp
          rfl
        with_reducible refine soup_q ?_ ?_ ?_
        · rfl
        · rfl
        with_reducible apply Exists.intro
        with_reducible refine ⟨fun W hk _ => ?_, ?_⟩
        · unfold Oper.same
          go_simp
          first | rfl | exact ⟨rfl, rfl⟩
        with_reducible apply Exists.intro
        with_reducible refine ⟨?_, ?_⟩
        · go_simp
          rfl
        with_reducible refine soup_q ?_ ?_ ?_
        · rfl
        · rfl
        with_reducible apply Exists.intro
        with_reducible refine ⟨fun W hk _ => ?_, ?_⟩
        · unfold Oper.same
          go_simp
          first | rfl | exact ⟨rfl, rfl⟩
        with_reducible apply Exists.intro
        with_reducible refine ⟨?_, ?_⟩
        · go_simp
          rfl
        with_reducible refine soup_q ?_ ?_ ?_
        · rfl
        · rfl
        with_reducible apply Exists.intro
        with_reducible refine ⟨fun W hk _ => ?_, ?_⟩
        · have x1 := ((K17.out.trans hk).cell _ HGA.out (by simp)).trans HX1.out
          unfold Oper.same
          go_simp
          first | rfl | exact ⟨rfl, rfl⟩
        with_reducible apply Exists.intro
        with_reducible refine ⟨?_, ?_⟩
        · go_simp
          rfl
        with_reducible refine soup_q ?_ ?_ ?_
        · rfl
        · rfl
        with_reducible apply Exists.intro
        with_reducible refine ⟨fun W hk _ => ?_, ?_⟩
        · unfold Oper.same
          go_simp
          first | rfl | exact ⟨rfl, rfl⟩
        with_reducible apply Exists.intro
        with_reducible refine ⟨?_, ?_⟩
        · go_simp
          rfl
        with_reducible refine soup_q ?_ ?_ ?_
        · rfl
        · rfl
        with_reducible apply Exists.intro
        with_reducible refine ⟨fun W hk _ => ?_, ?_⟩
        · have z2 := ((K17.out.trans hk).cell _ HZB.out (by simp)).trans HZ.out.facts.2.2.1
          unfold Oper.same
          go_simp
          first | rfl | exact ⟨rfl, rfl⟩
        with_reducible apply Exists.intro
        with_reducible refine ⟨?_, ?_⟩
        · go_simp
          rfl
        with_reducible refine soup_q ?_ ?_ ?_
        · rfl
        · rfl
        with_reducible apply Exists.intro
        with_reducible refine ⟨fun W hk _ => ?_, ?_⟩
        · unfold Oper.same
          go_simp
          first | rfl | exact ⟨rfl, rfl⟩
        with_reducible apply Exists.intro
        with_reducible refine ⟨?_, ?_⟩
        · go_simp
          rfl
        with_reducible refine soup_q ?_ ?_ ?_
        · rfl
        · rfl
        with_reducible apply Exists.intro
        with_reducible refine ⟨fun W hk _ => ?_, ?_⟩
        · unfold Oper.same
          go_simp
          first | rfl | exact ⟨rfl, rfl⟩
        with_reducible apply Exists.intro
        with_reducible refine ⟨?_, ?_⟩
        · go_simp
          rfl
        with_reducible refine soup_q ?_ ?_ ?_
        · rfl
        · rfl
        with_reducible apply Exists.intro
        with_reducible refine ⟨fun W hk _ => ?_, ?_⟩
        · unfold Oper.same
          go_simp
          first | rfl | exact ⟨rfl, rfl⟩
        with_reducible apply Exists.intro
        with_reducible refine ⟨?_, ?_⟩
        · go_simp
          rfl
        with_reducible refine soup_q ?_ ?_ ?_
        · rfl
        · rfl
        with_reducible apply Exists.intro
        with_reducible refine ⟨fun W hk _ => ?_, ?_⟩
        · unfold Oper.same
          go_simp
          first | rfl | exact ⟨rfl, rfl⟩
        with_reducible apply Exists.intro
        with_reducible refine ⟨?_, ?_⟩
        · go_simp
          rfl
        with_reducible refine soup_q ?_ ?_ ?_
        · rfl
        · rfl
        with_reducible apply Exists.intro
        with_reducible refine ⟨fun W hk _ => ?_, ?_⟩
        · unfold Oper.same
          go_simp
          first | rfl | exact ⟨rfl, rfl⟩
        with_reducible apply Exists.intro
        with_reducible refine ⟨?_, ?_⟩
        · go_simp
          rfl
        with_reducible refine soup_q ?_ ?_ ?_
        · rfl
        · rfl
        with_reducible apply Exists.intro
        with_reducible refine ⟨fun W hk _ => ?_, ?_⟩
        · unfold Oper.same
          go_simp
          first | rfl | exact ⟨rfl, rfl⟩
        with_reducible apply Exists.intro
        with_reducible refine ⟨?_, ?_⟩
        · go_simp
          rfl
        with_reducible refine soup_q ?_ ?_ ?_
        · rfl
        · rfl
        with_reducible apply Exists.intro
        with_reducible refine ⟨fun W hk _ => ?_, ?_⟩
        · have x1 := ((K17.out.trans hk).cell _ HGA.out (by simp)).trans HX1.out
          unfold Oper.same
          go_simp
          first | rfl | exact ⟨rfl, rfl⟩
        with_reducible apply Exists.intro
        with_reducible refine ⟨?_, ?_⟩
        · go_simp
          rfl
        with_reducible refine soup_q ?_ ?_ ?_
        · rfl
        · rfl
        with_reducible apply Exists.intro
        with_reducible refine ⟨fun W hk _ => ?_, ?_⟩
        · unfold Oper.same
          go_simp
          first | rfl | exact ⟨rfl, rfl⟩
        with_reducible apply Exists.intro
        with_reducible refine ⟨?_, ?_⟩
        · go_simp
          rfl
        with_reducible refine soup_q ?_ ?_ ?_
        · rfl
        · rfl
        with_reducible apply Exists.intro
        with_reducible refine ⟨fun W hk _ => ?_, ?_⟩
        · have z3 := ((K17.out.trans hk).cell _ HZB.out (by simp)).trans HZ.out.facts.2.2.2.1
          unfold Oper.same
          go_simp
          first | rfl | exact ⟨rfl, rfl⟩
        with_reducible apply Exists.intro
        with_reducible refine ⟨?_, ?_⟩
        · go_simp
          rfl
        with_reducible refine soup_q ?_ ?_ ?_
        · rfl
        · rfl
        with_reducible apply Exists.intro
        with_reducible refine ⟨fun W hk _ => ?_, ?_⟩
        · unfold Oper.same
          go_simp
          first | rfl | exact ⟨rfl, rfl⟩
        with_reducible apply Exists.intro
        with_reducible refine ⟨?_, ?_⟩
        · go_simp
          rfl
        with_reducible refine soup_q ?_ ?_ ?_
        · rfl
        · rfl
        with_reducible apply Exists.intro
        with_reducible refine ⟨fun W hk _ => ?_, ?_⟩
        · unfold Oper.same
          go_simp
          first | rfl | exact ⟨rfl, rfl⟩
        with_reducible apply Exists.intro
        with_reducible refine ⟨?_, ?_⟩
        · go_simp
          rfl
        with_reducible refine soup_q ?_ ?_ ?_
        · rfl
        · rfl
        with_reducible apply Exists.intro
        with_reducible refine ⟨fun W hk _ => ?_, ?_⟩
        · unfold Oper.same
          go_simp
          first | rfl | exact ⟨rfl, rfl⟩
        with_reducible apply Exists.intro
        with_reducible refine ⟨?_, ?_⟩
        · go_simp
          rfl
        with_reducible refine soup_q ?_ ?_ ?_
        · rfl
        · rfl
        with_reducible apply Exists.intro
        with_reducible refine ⟨fun W hk _ => ?_, ?_⟩
        · unfold Oper.same
          go_simp
          first | rfl | exact ⟨rfl, rfl⟩
        with_reducible apply Exists.intro
        with_reducible refine ⟨?_, ?_⟩
        · go_simp
          rfl
        with_reducible refine soup_q ?_ ?_ ?_
        · rfl
        · rfl
        with_reducible apply Exists.intro
        with_reducible refine ⟨fun W hk _ => ?_, ?_⟩
        · unfold Oper.same
          go_simp
          first | rfl | exact ⟨rfl, rfl⟩
        with_reducible apply Exists.intro
        with_reducible refine ⟨?_, ?_⟩
        · go_simp
          rfl
        with_reducible refine soup_q ?_ ?_ ?_
        · rfl
        · rfl
        with_reducible apply Exists.intro
        with_reducible refine ⟨fun W hk _ => ?_, ?_⟩
        · have z5 := ((K17.out.trans hk).cell _ HZB.out (by simp)).trans HZ.out.facts.2.2.2.2.2.1
          unfold Oper.same
          go_simp
          first | rfl | exact ⟨rfl, rfl⟩
        with_reducible apply Exists.intro
        with_reducible refine ⟨?_, ?_⟩
        · go_simp
          rfl
        with_reducible refine soup_q ?_ ?_ ?_
        · rfl
        · rfl
        with_reducible apply Exists.intro
        with_reducible refine ⟨fun W hk _ => ?_, ?_⟩
        · unfold Oper.same
          go_simp
          first | rfl | exact ⟨rfl, rfl⟩
        with_reducible apply Exists.intro
        with_reducible refine ⟨?_, ?_⟩
        · go_simp
          rfl
        refine soup_nil (fun W18 hk hS => ?_)
        have K18 := Lib.hid (K17.out.trans hk)
        clear hk hS
        have y0 := (K18.out.cell _ HMB.out (by simp)).trans HY0.out
        have y1 := (K18.out.cell _ HMB.out (by simp)).trans HY1.out
        have y2 := (K18.out.cell _ HMB.out (by simp)).trans HY2.out
        have y3 := (K18.out.cell _ HMB.out (by simp)).trans HY3.out
        have z0 := (K18.out.cell _ HZB.out (by simp)).trans HZ.out.facts.1
        have z1 := (K18.out.cell _ HZB.out (by simp)).trans HZ.out.facts.2.1
        have z2 := (K18.out.cell _ HZB.out (by simp)).trans HZ.out.facts.2.2.1
        have z3 := (K18.out.cell _ HZB.out (by simp)).trans HZ.out.facts.2.2.2.1
        have z4 := (K18.out.cell _ HZB.out (by simp)).trans HZ.out.facts.2.2.2.2.1
        have z5 := (K18.out.cell _ HZB.out (by simp)).trans HZ.out.facts.2.2.2.2.2.1
        go_wp2_with (fail)
        have HKE := Lib.hid ((HKR.out.trans K16.out).trans K18.out)
        go_roundw
        case rel => exact ⟨i + 1, by go_num, by omega, by rw [HC14.out, HISN.out]; first | rfl | (push_cast; rfl), HKE.out⟩
        case measure => go_light; simp [intOf]; omega
    · obtain rfl : i = tn := by omega
      have hin : ¬ (i : Int) < (i : Int) := by omega
      have hct : (M.take i).countP is14 = n + 4 := by rw [← HTN.out, List.take_length]; exact HCN.out.1
      rw [hct]
      clear hct
      go_wp2_with (fail)
      go_loopw [15, 16] (fun wn i wr => ∃ j : Nat, i = .int .i64 j ∧ j ≤ nl ∧ wn = .int .i64 (wantF ((movesF c).take j) : Nat) ∧ Keep [] Wi wr) (fun _ i _ => nl - (intOf i).toNat)
      case atStart => exact ⟨0, rfl, Nat.zero_le _, rfl, Keep.refl _ _⟩
      case round =>
        obtain ⟨j, rfl, hj, rfl, hkk⟩ := hrel
        obtain ⟨Wq, hWq⟩ : ∃ u, u = wr := ⟨_, rfl⟩
        subst hWq
        have h0j : (0 : Int) ≤ (j : Int) := Int.natCast_nonneg j
        have hk2 := hk0.trans hkk
        have hmln := HML.out
        by_cases hlt : j < nl
        · have hjn : (j : Int) < (nl : Int) := by omega
          have hlj : j < (movesF c).length := by rw [HNL.out]; exact hlt
          obtain ⟨x, hx⟩ : ∃ x, (movesF c)[j]? = some x := ⟨(movesF c)[j], List.getElem?_eq_getElem hlj⟩
          have hne : movesF c ≠ [] := by intro e; rw [e] at hlj; simp at hlj
          have hrv := HV.out
          rw [← HNL.out] at hrv
          obtain ⟨gb, cb, hv', hh0, hh1, _, hcell⟩ := rows_at Mo.len (MoRow.keep hrv hk2 (by simp)) hne
          simp only [Value.slice.injEq] at hv'
          obtain ⟨rfl, -, rfl⟩ := hv'
          have x4 := hcell j 4 _ hx (by omega)
          have x5 := hcell j 5 _ hx (by omega)
          have hws := wantF_snoc hx
          obtain ⟨w0, hw0⟩ : ∃ w0, wantF ((movesF c).take j) = w0 := ⟨_, rfl⟩
          have hw0b : w0 ≤ 1000 := by rw [← hw0]; exact Nat.le_trans (wantF_le _) (by rw [List.length_take]; omega)
          rw [hw0] at hws ⊢
          obtain ⟨x', ⟨st, dn⟩⟩ := x
          simp only [Mo.cells, List.getElem?_cons_zero, List.getElem?_cons_succ] at x4 x5
          unfold wantO at hws
          simp only at hws
          have HKK := Lib.hid hkk
          clear hrv hcell hx hne hw0 hkk hk2
          by_cases hst : st = 3
          · by_cases hd : dn = 0
            · rw [if_pos ⟨hst, hd⟩] at hws
              have HWS := Lib.hid hws
              subst hst hd
              have x5' : Wq.cell? ⟨gb, j * 6 + 5, none⟩ = some (.int .i64 0) := x5
              clear hws x5
              go_wp2_with (fail)
              go_roundw
              case rel => exact ⟨j + 1, by go_num, by omega, by rw [HWS.out]; first | rfl | (push_cast; rfl), HKK.out⟩
              case measure => go_light; simp [intOf]; omega
            · rw [if_neg (fun e => hd e.2)] at hws
              have HWS := Lib.hid hws
              have gd : ((dn : Int) == 0) = false := by simpa using hd
              subst hst
              clear hws hd
              go_wp2_with (fail)
              go_roundw
              case rel => exact ⟨j + 1, by go_num, by omega, by rw [HWS.out]; first | rfl | (push_cast; rfl), HKK.out⟩
              case measure => go_light; simp [intOf]; omega
          · rw [if_neg (fun e => hst e.1)] at hws
            have HWS := Lib.hid hws
            have gst : (st == 3) = false := by simpa using hst
            clear hws hst
            go_wp2_with (fail)
            go_roundw
            case rel => exact ⟨j + 1, by go_num, by omega, by rw [HWS.out]; first | rfl | (push_cast; rfl), HKK.out⟩
            case measure => go_light; simp [intOf]; omega
        · obtain rfl : j = nl := by omega
          have hjn : ¬ (j : Int) < (j : Int) := by omega
          have hall : (movesF c).take j = movesF c := by rw [← HNL.out, List.take_length]
          rw [hall]
          obtain ⟨wn, hwn⟩ : ∃ wn, wantF (movesF c) = wn := ⟨_, rfl⟩
          have hlen := HCN.out.2
          rw [hwn, HTN.out] at hlen
          rw [hwn]
          have hwb : wn ≤ 1000 := by omega
          have hn4 : n ≤ 4 := HNN.out
          obtain ⟨d0, d1, d2, d3⟩ := TbFacts ((hk2.block _ (lt_of_heap HBT.out) (by simp)).trans HBT.out)
          rw [HN.out] at d1
          have HKE := Lib.hid hk2
          have g1 : (((n + 4 : Nat) : Int) == (n : Int) + 4) = true := by simp
          have g2 : ((i : Int) == (n : Int) + 4 + (wn : Int)) = true := by simp; omega
          clear hall hwn hlen hk2 hkk
          go_wp2_with (fail)
          go_ret
          exact ⟨rfl, HK.out.trans HKE.out⟩
end Go.Proofs.YtdnfibecobodkaaGreat
