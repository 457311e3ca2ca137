/- one: an act of a coordinator. -/
import Derived.Test.YtdnfibecobodkaaGreatCeD
import Derived.OwnWalk
namespace Go.Proofs.YtdnfibecobodkaaGreat
open Go.RowKit Go.Lib
set_option linter.unusedSimpArgs false
set_option linter.unusedVariables false
def oneF (c : Cd) (x : Ac) : (Int × Int × Bool) × Cd :=
  if x.dd = 0 then (((coOrd c x.part x.to).1, (coOrd c x.part x.to).2.1, false), (coOrd c x.part x.to).2.2)
  else if x.dd = 1 then ((0, (coAbort c x.part).1, false), (coAbort c x.part).2)
  else if x.dd = 2 ∨ x.dd = 4 then ((0, 0, (coHandle c (saysF x (movesF c)).fr (saysF x (movesF c)).k (saysF x (movesF c)).mv (saysF x (movesF c)).pt (saysF x (movesF c)).cd).1), (coHandle c (saysF x (movesF c)).fr (saysF x (movesF c)).k (saysF x (movesF c)).mv (saysF x (movesF c)).pt (saysF x (movesF c)).cd).2)
  else ((0, 0, false), c)
def Spec.mov (n : Nat) (l : List Mo) : Spec := { p := fun _ v => ∃ a c, v = .slice a l.length c, A := fun _ v w => MoRow n w v l }
theorem Spec.mov_ok (n : Nat) (l : List Mo) : (Spec.mov n l).ok :=
  ⟨fun x v w w' h hk => MoRow.keep h hk (by simp), fun _ _ _ h => h, fun _ => trivial, fun _ => ⟨_, none, 0, rfl⟩⟩
theorem szAct {cs : List Value} (h : cs.length = 28) : (Tryz.prog.info? 60).map (·.size) = some cs.length := by
  rw [h]
  kernel_rfl
theorem ActAt.all {W : World} {g : Nat} {x : Ac} (h : ActAt W g x x.cells.toArray) : W.rangeAt g 0 x.cells := fun j v hj => by
  unfold World.cell?
  rw [h.blk, Nat.zero_add]
  simpa using hj
theorem CoN.low0 {w w1 w' : World} {p : Nat} {F : List Nat} {c : Cd} (hk : Keep [] w w1) (h : CoN w1 p F w' c) : CoN w p F w' c := CoN.from hk h
theorem CoS.stay {w w' : World} {p : Nat} {F : List Nat} {c : Cd} (h : CoS w p F c) (hk : Keep [] w w') : CoN w p F w' c := ⟨F, h.kept hk, hk.mono (by simp), fun x hx => .inl hx⟩
def OneP (w : World) (p : Nat) (F : List Nat) (r : (Int × Int × Bool) × Cd) (e : Ending) (w' : World) : Prop := e = .returned (.tuple #[.int .i64 r.1.1, .int .i64 r.1.2.1, .bool r.1.2.2]) ∧ CoN w p F w' r.2
set_option maxRecDepth 100000 in
set_option maxHeartbeats 8000000 in
theorem one_any {w : World} {p : Nat} {F : List Nat} {c : Cd} (h : CoS w p F c) (hm : CdMem c) (hf : CdFine c) (hl : 0 ≤ c.last) {x : Ac} (hx : x.Ok) : Calls Tryz.prog 23 #[.pointer (some ⟨p, 0, none⟩), .agg x.cells.toArray] w (OneP w p F (oneF c x)) := by
  have hsz : x.cells.toArray.size = 28 := by rw [List.size_toArray]; exact Ac.len hx
  have hbox := box_act x.cells.toArray hsz
  obtain ⟨w1, hw1⟩ : ∃ u, w.alloc (.cells x.cells.toArray 60) = u := ⟨_, rfl⟩
  have k1 : Keep [] w w1 := by rw [← hw1]; exact (Keep.refl _ _).alloc _
  have a1 : ActAt w1 w.heap.size x x.cells.toArray := ActAt.of hx (by rw [← hw1]; exact World.alloc_heap_new w _)
  have HALL := Lib.hid a1.all
  have HSZ := Lib.hid (szAct (Ac.len hx))
  have HSAY := Lib.hid (fun (W : World) (base : Nat) (v : Value) (hv : MoRow base W v (movesF c)) => says_any hx hv (by have := hf.num; unfold movesF; rw [List.length_map, List.length_map]; omega))
  have HW := Lib.hid (saysF_w hx (movesF c))
  obtain ⟨sy, hsy⟩ : ∃ sy, saysF x (movesF c) = sy := ⟨_, rfl⟩
  rw [hsy] at HSAY HW
  have hof : oneF c x = if x.dd = 0 then (((coOrd c x.part x.to).1, (coOrd c x.part x.to).2.1, false), (coOrd c x.part x.to).2.2) else if x.dd = 1 then ((0, (coAbort c x.part).1, false), (coAbort c x.part).2) else if x.dd = 2 ∨ x.dd = 4 then ((0, 0, (coHandle c sy.fr sy.k sy.mv sy.pt sy.cd).1), (coHandle c sy.fr sy.k sy.mv sy.pt sy.cd).2) else ((0, 0, false), c) := by unfold oneF; rw [hsy]
  obtain ⟨cl, hcl⟩ : ∃ cl, x.cells = cl := ⟨_, rfl⟩
  rw [hcl] at hbox hw1 a1 HALL HSZ HSAY ⊢
  obtain ⟨cs, hcs⟩ : ∃ cs, cl.toArray = cs := ⟨_, rfl⟩
  rw [hcs] at hbox hw1 a1 ⊢
  obtain ⟨dd, part, to, fr, ms, k, mv, pt, cd, wh, code⟩ := x
  simp only at hof
  have HA := Lib.hid a1
  have HC := Lib.hid (h.kept k1)
  have HC0 := Lib.hid h
  have HK := Lib.hid k1
  have HCS := Lib.hid hcs
  clear hcs hsz hx a1 k1 h hsy hcl
  by_cases hd0 : dd = 0
  · have HRES := Lib.hid (hof.trans (if_pos hd0))
    subst hd0
    clear hof
    obtain ⟨a0, a1, a2, a3, a5, a6⟩ : _ ∧ _ ∧ _ ∧ _ ∧ _ ∧ _ := ⟨HA.out.c0, HA.out.c1, HA.out.c2, HA.out.c3, HA.out.c5, HA.out.c6⟩
    go_enter Tryz.func23, Tryz.ntmps23
    go_wp2_with (fail)
    refine (ordS HC.out hm hl part to).mono ?_
    rintro e w2 ⟨rfl, hn⟩
    have HN := Lib.hid (CoN.from HK.out hn)
    clear hn
    go_wp2_with (fail)
    refine bodyPost_ret (results_tmp3 rfl _ _ _) rfl ?_
    rw [HRES.out]
    exact ⟨rfl, HN.out⟩
  · have h0 : ((dd : Int) == 0) = false := by simpa using hd0
    rw [if_neg hd0] at hof
    by_cases hd1 : dd = 1
    · have HRES := Lib.hid (hof.trans (if_pos hd1))
      subst hd1
      clear hof
      obtain ⟨a0, a1, a2, a3, a5, a6⟩ : _ ∧ _ ∧ _ ∧ _ ∧ _ ∧ _ := ⟨HA.out.c0, HA.out.c1, HA.out.c2, HA.out.c3, HA.out.c5, HA.out.c6⟩
      go_enter Tryz.func23, Tryz.ntmps23
      go_wp2_with (fail)
      refine (abortS HC.out hm part).mono ?_
      rintro e w2 ⟨rfl, hn⟩
      have HN := Lib.hid (CoN.from HK.out hn)
      clear hn
      go_wp2_with (fail)
      refine bodyPost_ret (results_tmp3 rfl _ _ _) rfl ?_
      rw [HRES.out]
      exact ⟨rfl, HN.out⟩
    · have h1 : ((dd : Int) == 1) = false := by simpa using hd1
      rw [if_neg hd1] at hof
      by_cases hd2 : dd = 2
      · have HRES := Lib.hid (hof.trans (if_pos (.inl hd2)))
        subst hd2
        clear hof
        obtain ⟨a0, a1, a2, a3, a5, a6⟩ : _ ∧ _ ∧ _ ∧ _ ∧ _ ∧ _ := ⟨HA.out.c0, HA.out.c1, HA.out.c2, HA.out.c3, HA.out.c5, HA.out.c6⟩
        go_enter Tryz.func23, Tryz.ntmps23
        go_wp2_with (fail)
        clear a0 a1 a2 a3 a5 a6
        refine wp_region_soup 9 [] (spOf [(2, Spec.mov w1.heap.size (movesF c)), (3, Spec.is (.tuple #[.int .i64 sy.fr, .agg sy.ms.toArray])), (7, Spec.new w1.heap.size zMsg 40)]) (by kernel_rfl) (by kernel_rfl) (spOk_of (by simp [Spec.is_ok, Spec.mov_ok, Spec.new_ok])) (pre_of (by simp [Spec.is_ok, Spec.mov_ok, Spec.new_ok])) ?_
        simp only [List.take_succ_cons, List.take_zero, List.drop_succ_cons, List.drop_zero]
        with_reducible refine soup_q ?_ ?_ ?_
        · rfl
        · rfl
        with_reducible apply Exists.intro
        with_reducible refine ⟨fun W hk _ => ?_, ?_⟩
        · exact same_load_mid 60 (.tmp 3) rfl w.heap.size 0 rfl cl _ (fun j v hj => (hk.cell _ (lt_of_heap HA.out.blk) (by simp)).trans (HALL.out j v hj)) Tryz.underlying60 rfl HSZ.out
        with_reducible apply Exists.intro
        with_reducible refine ⟨?_, ?_⟩
        · go_simp
          rfl
        with_reducible refine soup_q ?_ ?_ ?_
        · rfl
        · rfl
        with_reducible apply Exists.intro
        with_reducible refine ⟨fun W hk _ => ?_, ?_⟩
        · unfold Oper.same
          go_simp
          first | rfl | exact ⟨rfl, rfl⟩
        with_reducible apply Exists.intro
        with_reducible refine ⟨?_, ?_⟩
        · go_simp
          rfl
        refine soup_s rfl rfl rfl (fun W hk _ _ => ?_) ?_
        · unfold Oper.does
          go_simp
          refine (movesS (HC.out.kept hk) hf hm).mono ?_
          rintro e w' ⟨v, rfl, hr, hk'⟩
          have hr' : MoRow w1.heap.size w' v (movesF c) := own_low hr hk.size
          obtain ⟨a', c', hv, _⟩ := own_shape hr
          exact ⟨_, rfl, hk', hk.trans hk', ⟨a', c', hv⟩, hr'⟩
        rintro v ⟨am, cm, rfl⟩
        with_reducible apply Exists.intro
        with_reducible refine ⟨?_, ?_⟩
        · go_simp
          rfl
        refine soup_s rfl rfl rfl (fun W hk _ hd => ?_) ?_
        · have hr : MoRow w1.heap.size W _ (movesF c) := hd 2 (Dep.of 1 (by kernel_rfl))
          unfold Oper.does
          go_simp
          refine (HSAY.out W _ _ hr).mono ?_
          rintro e w' ⟨rfl, hk'⟩
          exact ⟨_, rfl, hk', hk.trans hk', rfl, trivial⟩
        intro v hv
        obtain rfl : v = _ := hv
        with_reducible apply Exists.intro
        with_reducible refine ⟨?_, ?_⟩
        · go_simp
          rfl
        with_reducible refine soup_q ?_ ?_ ?_
        · rfl
        · rfl
        with_reducible apply Exists.intro
        with_reducible refine ⟨fun W hk _ => ?_, ?_⟩
        · unfold Oper.same
          go_simp
          first | rfl | exact ⟨rfl, rfl⟩
        with_reducible apply Exists.intro
        with_reducible refine ⟨?_, ?_⟩
        · go_simp
          rfl
        with_reducible refine soup_q ?_ ?_ ?_
        · rfl
        · rfl
        with_reducible apply Exists.intro
        with_reducible refine ⟨fun W hk _ => ?_, ?_⟩
        · unfold Oper.same
          go_simp
          first | rfl | exact ⟨rfl, rfl⟩
        with_reducible apply Exists.intro
        with_reducible refine ⟨?_, ?_⟩
        · go_simp
          rfl
        with_reducible refine soup_q ?_ ?_ ?_
        · rfl
        · rfl
        with_reducible apply Exists.intro
        with_reducible refine ⟨fun W hk _ => ?_, ?_⟩
        · unfold Oper.same
          go_simp
          first | rfl | exact ⟨rfl, rfl⟩
        with_reducible apply Exists.intro
        with_reducible refine ⟨?_, ?_⟩
        · go_simp
          rfl
        refine soup_s rfl rfl rfl (fun W hk _ _ => ?_) ?_
        · unfold Oper.does
          go_simp
          exact ⟨(Keep.refl _ _).alloc _, hk.alloc _, ⟨_, rfl, hk.size⟩, _, rfl, hk.size, World.alloc_heap_new W _⟩
        rintro v ⟨gx, rfl, hgx⟩
        with_reducible apply Exists.intro
        with_reducible refine ⟨?_, ?_⟩
        · go_simp
          rfl
        with_reducible refine soup_q ?_ ?_ ?_
        · rfl
        · rfl
        with_reducible apply Exists.intro
        with_reducible refine ⟨fun W hk _ => ?_, ?_⟩
        · unfold Oper.same
          go_simp
          first | rfl | exact ⟨rfl, rfl⟩
        with_reducible apply Exists.intro
        with_reducible refine ⟨?_, ?_⟩
        · go_simp
          rfl
        refine soup_nil (fun W hk hS => ?_)
        obtain ⟨g', e1, _, hb5⟩ := hS 7
        obtain rfl : gx = g' := by simpa using e1
        obtain ⟨W5, hW5⟩ : ∃ u, W.setRow gx sy.ms.toArray = u := ⟨_, rfl⟩
        have hst := run_storeVar_row (P := Tryz.prog) W gx 40 40 _ sy.ms.toArray hb5 (szMsgA HW.out.len) (Eq.trans (show zMsg.size = 22 from rfl) (by rw [List.size_toArray, HW.out.len])) (by simpa using HW.out.one)
        rw [hW5] at hst
        have HST := Lib.hid hst
        have HSY : Hid ((Tryz.prog.info? 40).map (·.size) = some sy.ms.toArray.size) := Lib.hid (szMsgA HW.out.len)
        have HF : Hid (W5.heap[gx]? = some (.cells sy.ms.toArray 40 (0, 0))) := Lib.hid (by rw [← hW5]; exact setRow_heap W gx _ _ _ _ hb5)
        have hk15 : Keep [] w1 W5 := by rw [← hW5]; exact hk.setRow _ _ (.inr hgx)
        have HK5 := Lib.hid (HK.out.trans hk15)
        have HC5 := Lib.hid (HC.out.kept hk15)
        clear hk hS e1 hb5 hst hW5 hk15
        go_wp2_with (first | ((with_reducible refine wpList_store_all ?_ 40 (.tmp 10) (.tmp 41) ?_ gx ?_ sy.ms.toArray ?_ HST.out ?_); rfl; rfl; rfl; rfl) | ((with_reducible refine wpList_load_row ?_ 40 (.tmp 10) ?_ gx ?_ 40 sy.ms.toArray (0, 0) _ HF.out Tryz.underlying40 ?_ HSY.out ?_); rfl; rfl; rfl; rfl))
        refine (handleS HC5.out hm sy.ms.toArray (by rw [List.size_toArray, HW.out.len]) sy.fr sy.k sy.mv sy.pt sy.cd (by simpa using HW.out.c0) (by simpa using HW.out.c1) (by simpa using HW.out.c2) (by simpa using HW.out.c6)).mono ?_
        rintro e w6 ⟨rfl, hn⟩
        have HN := Lib.hid (CoN.from HK5.out hn)
        clear hn
        go_wp2_with (fail)
        refine bodyPost_ret (results_tmp3 rfl _ _ _) rfl ?_
        rw [HRES.out]
        exact ⟨rfl, HN.out⟩
      · have h2 : ((dd : Int) == 2) = false := by simpa using hd2
        by_cases hd4 : dd = 4
        · have HRES := Lib.hid (hof.trans (if_pos (.inr hd4)))
          subst hd4
          clear hof
          obtain ⟨a0, a1, a2, a3, a5, a6⟩ : _ ∧ _ ∧ _ ∧ _ ∧ _ ∧ _ := ⟨HA.out.c0, HA.out.c1, HA.out.c2, HA.out.c3, HA.out.c5, HA.out.c6⟩
          go_enter Tryz.func23, Tryz.ntmps23
          go_wp2_with (fail)
          clear a0 a1 a2 a3 a5 a6
          refine wp_region_soup 9 [] (spOf [(2, Spec.mov w1.heap.size (movesF c)), (3, Spec.is (.tuple #[.int .i64 sy.fr, .agg sy.ms.toArray])), (7, Spec.new w1.heap.size zMsg 40)]) (by kernel_rfl) (by kernel_rfl) (spOk_of (by simp [Spec.is_ok, Spec.mov_ok, Spec.new_ok])) (pre_of (by simp [Spec.is_ok, Spec.mov_ok, Spec.new_ok])) ?_
          simp only [List.take_succ_cons, List.take_zero, List.drop_succ_cons, List.drop_zero]
          with_reducible refine soup_q ?_ ?_ ?_
          · rfl
          · rfl
          with_reducible apply Exists.intro
          with_reducible refine ⟨fun W hk _ => ?_, ?_⟩
          · exact same_load_mid 60 (.tmp 3) rfl w.heap.size 0 rfl cl _ (fun j v hj => (hk.cell _ (lt_of_heap HA.out.blk) (by simp)).trans (HALL.out j v hj)) Tryz.underlying60 rfl HSZ.out
          with_reducible apply Exists.intro
          with_reducible refine ⟨?_, ?_⟩
          · go_simp
            rfl
          with_reducible refine soup_q ?_ ?_ ?_
          · rfl
          · rfl
          with_reducible apply Exists.intro
          with_reducible refine ⟨fun W hk _ => ?_, ?_⟩
          · unfold Oper.same
            go_simp
            first | rfl | exact ⟨rfl, rfl⟩
          with_reducible apply Exists.intro
          with_reducible refine ⟨?_, ?_⟩
          · go_simp
            rfl
          refine soup_s rfl rfl rfl (fun W hk _ _ => ?_) ?_
          · unfold Oper.does
            go_simp
            refine (movesS (HC.out.kept hk) hf hm).mono ?_
            rintro e w' ⟨v, rfl, hr, hk'⟩
            have hr' : MoRow w1.heap.size w' v (movesF c) := own_low hr hk.size
            obtain ⟨a', c', hv, _⟩ := own_shape hr
            exact ⟨_, rfl, hk', hk.trans hk', ⟨a', c', hv⟩, hr'⟩
          rintro v ⟨am, cm, rfl⟩
          with_reducible apply Exists.intro
          with_reducible refine ⟨?_, ?_⟩
          · go_simp
            rfl
          refine soup_s rfl rfl rfl (fun W hk _ hd => ?_) ?_
          · have hr : MoRow w1.heap.size W _ (movesF c) := hd 2 (Dep.of 1 (by kernel_rfl))
            unfold Oper.does
            go_simp
            refine (HSAY.out W _ _ hr).mono ?_
            rintro e w' ⟨rfl, hk'⟩
            exact ⟨_, rfl, hk', hk.trans hk', rfl, trivial⟩
          intro v hv
          obtain rfl : v = _ := hv
          with_reducible apply Exists.intro
          with_reducible refine ⟨?_, ?_⟩
          · go_simp
            rfl
          with_reducible refine soup_q ?_ ?_ ?_
          · rfl
          · rfl
          with_reducible apply Exists.intro
          with_reducible refine ⟨fun W hk _ => ?_, ?_⟩
          · unfold Oper.same
            go_simp
            first | rfl | exact ⟨rfl, rfl⟩
          with_reducible apply Exists.intro
          with_reducible refine ⟨?_, ?_⟩
          · go_simp
            rfl
          with_reducible refine soup_q ?_ ?_ ?_
          · rfl
          · rfl
          with_reducible apply Exists.intro
          with_reducible refine ⟨fun W hk _ => ?_, ?_⟩
          · unfold Oper.same
            go_simp
            first | rfl | exact ⟨rfl, rfl⟩
          with_reducible apply Exists.intro
          with_reducible refine ⟨?_, ?_⟩
          · go_simp
            rfl
          with_reducible refine soup_q ?_ ?_ ?_
          · rfl
          · rfl
          with_reducible apply Exists.intro
          with_reducible refine ⟨fun W hk _ => ?_, ?_⟩
          · unfold Oper.same
            go_simp
            first | rfl | exact ⟨rfl, rfl⟩
          with_reducible apply Exists.intro
          with_reducible refine ⟨?_, ?_⟩
          · go_simp
            rfl
          refine soup_s rfl rfl rfl (fun W hk _ _ => ?_) ?_
          · unfold Oper.does
            go_simp
            exact ⟨(Keep.refl _ _).alloc _, hk.alloc _, ⟨_, rfl, hk.size⟩, _, rfl, hk.size, World.alloc_heap_new W _⟩
          rintro v ⟨gx, rfl, hgx⟩
          with_reducible apply Exists.intro
          with_reducible refine ⟨?_, ?_⟩
          · go_simp
            rfl
          with_reducible refine soup_q ?_ ?_ ?_
          · rfl
          · rfl
          with_reducible apply Exists.intro
          with_reducible refine ⟨fun W hk _ => ?_, ?_⟩
          · unfold Oper.same
            go_simp
            first | rfl | exact ⟨rfl, rfl⟩
          with_reducible apply Exists.intro
          with_reducible refine ⟨?_, ?_⟩
          · go_simp
            rfl
          refine soup_nil (fun W hk hS => ?_)
          obtain ⟨g', e1, _, hb5⟩ := hS 7
          obtain rfl : gx = g' := by simpa using e1
          obtain ⟨W5, hW5⟩ : ∃ u, W.setRow gx sy.ms.toArray = u := ⟨_, rfl⟩
          have hst := run_storeVar_row (P := Tryz.prog) W gx 40 40 _ sy.ms.toArray hb5 (szMsgA HW.out.len) (Eq.trans (show zMsg.size = 22 from rfl) (by rw [List.size_toArray, HW.out.len])) (by simpa using HW.out.one)
          rw [hW5] at hst
          have HST := Lib.hid hst
          have HSY : Hid ((Tryz.prog.info? 40).map (·.size) = some sy.ms.toArray.size) := Lib.hid (szMsgA HW.out.len)
          have HF : Hid (W5.heap[gx]? = some (.cells sy.ms.toArray 40 (0, 0))) := Lib.hid (by rw [← hW5]; exact setRow_heap W gx _ _ _ _ hb5)
          have hk15 : Keep [] w1 W5 := by rw [← hW5]; exact hk.setRow _ _ (.inr hgx)
          have HK5 := Lib.hid (HK.out.trans hk15)
          have HC5 := Lib.hid (HC.out.kept hk15)
          clear hk hS e1 hb5 hst hW5 hk15
          go_wp2_with (first | ((with_reducible refine wpList_store_all ?_ 40 (.tmp 10) (.tmp 41) ?_ gx ?_ sy.ms.toArray ?_ HST.out ?_); rfl; rfl; rfl; rfl) | ((with_reducible refine wpList_load_row ?_ 40 (.tmp 10) ?_ gx ?_ 40 sy.ms.toArray (0, 0) _ HF.out Tryz.underlying40 ?_ HSY.out ?_); rfl; rfl; rfl; rfl))
          refine (handleS HC5.out hm sy.ms.toArray (by rw [List.size_toArray, HW.out.len]) sy.fr sy.k sy.mv sy.pt sy.cd (by simpa using HW.out.c0) (by simpa using HW.out.c1) (by simpa using HW.out.c2) (by simpa using HW.out.c6)).mono ?_
          rintro e w6 ⟨rfl, hn⟩
          have HN := Lib.hid (CoN.from HK5.out hn)
          clear hn
          go_wp2_with (fail)
          refine bodyPost_ret (results_tmp3 rfl _ _ _) rfl ?_
          rw [HRES.out]
          exact ⟨rfl, HN.out⟩
        · have h4 : ((dd : Int) == 4) = false := by simpa using hd4
          rw [if_neg (by simp [hd2, hd4])] at hof
          have HRES := Lib.hid hof
          clear hof
          obtain ⟨a0, a1, a2, a3, a5, a6⟩ : _ ∧ _ ∧ _ ∧ _ ∧ _ ∧ _ := ⟨HA.out.c0, HA.out.c1, HA.out.c2, HA.out.c3, HA.out.c5, HA.out.c6⟩
          go_enter Tryz.func23, Tryz.ntmps23
          go_wp2_with (fail)
          refine bodyPost_ret (results_tmp3 rfl _ _ _) rfl ?_
          rw [HRES.out]
          exact ⟨rfl, HC0.out.stay HK.out⟩
end Go.Proofs.YtdnfibecobodkaaGreat
