/- The coordinator: Handle. -/
import Derived.Test.YteejdfpfdnkiiaaGreatCcG
namespace Go.Proofs.YteejdfpfdnkiiaaGreat
open Go.RowKit Go.Lib
open Go.ChangeMaps (setBlock)
set_option linter.unusedSimpArgs false
set_option linter.unusedVariables false
/-- What Handle comes to. -/
def coHandle (c : Cd) (fr : Int) (k : Nat) (mv pt code : Int) : Bool × Cd :=
  match findMv mv (c.m.map (·.2)) with
  | none => (false, c)
  | some x => if x.part ≠ pt then (false, c) else if k = 10 ∧ (atOf x.mv c.at_).st = 1 ∧ fr = x.to then (true, coReady c x code) else if k = 13 ∧ (atOf x.mv c.at_).st ≠ 1 then coDone c x fr else (false, c)
/-- What is always so of a coordinator. -/
structure CdMem (c : Cd) : Prop where
  keys : (c.m.map (·.1)).Nodup
  ats : (c.at_.map (·.1)).Nodup
  cnt : 0 ≤ c.com ∧ c.com ≤ 1000000 ∧ 0 ≤ c.abo ∧ c.abo ≤ 1000000
  len : c.m.length ≤ 1000
  ord : (c.m.map (·.2)).Pairwise (fun x y => x.mv < y.mv)
  dn : ∀ k, (atOf k c.at_).dn ≤ 3
theorem box_msg (cs : Array Value) (hs : cs.size = 22) (W : World) : (Instr.box 47 (.agg cs)).run Tryz.prog W = .ok (.pointer (some ⟨W.heap.size, 0, none⟩)) (W.alloc (.cells cs 47)) := rfl
theorem CoN.same {w w' : World} {p : Nat} {oa : Option Addr} {oc bp : Nat} {om : Option Nat} {ab : Nat} {c : Cd} (h : CoAt w' p oa oc bp om ab c) (hk : Keep [] w w') : CoN w p (cfoot p oa oc c.own.length bp om ab) w' c := CoN.of h (hk.mono (by simp)) (fun b hb => .inl hb) (fun b hb => .inl hb)
theorem CoN.from {w W w' : World} {p : Nat} {F : List Nat} {c : Cd} (hk : Keep [] w W) (h : CoN W p F w' c) : CoN w p F w' c := by
  obtain ⟨F', h1, h2, h3⟩ := h
  exact ⟨F', h1, (hk.mono (by simp)).trans h2, fun x hx => (h3 x hx).imp id (fun e => Nat.le_trans hk.size e)⟩
set_option maxRecDepth 100000 in
set_option maxHeartbeats 8000000 in
theorem chandle_any {w : World} {p : Nat} {oa : Option Addr} {oc bp : Nat} {om : Option Nat} {ab : Nat} {c : Cd} (h : CoAt w p oa oc bp om ab c) (hm : CdMem c) (cs : Array Value) (hcs : cs.size = 22) (fr : Int) (k : Nat) (mv pt code : Int) (h0 : cs[0]? = some (.int .u8 k)) (h1 : cs[1]? = some (.int .i64 mv)) (h2 : cs[2]? = some (.int .i64 pt)) (h6 : cs[6]? = some (.int .i64 code)) : Calls Tryz.prog 11 #[.pointer (some ⟨p, 0, none⟩), .int .i64 fr, .agg cs] w fun e w' => e = .returned (.bool (coHandle c fr k mv pt code).1) ∧ CoN w p (cfoot p oa oc c.own.length bp om ab) w' (coHandle c fr k mv pt code).2 := by
  have hbox := box_msg cs hcs
  obtain ⟨w1, hw1⟩ : ∃ u, w.alloc (.cells cs 47) = u := ⟨_, rfl⟩
  have k1 : Keep [] w w1 := by rw [← hw1]; exact (Keep.refl _ _).alloc _
  have hma : MsAt w1 w.heap.size cs := by rw [← hw1]; exact World.alloc_heap_new w _
  have hc1 := h.kept k1
  obtain ⟨x, hx⟩ : ∃ x, (findMv mv (c.m.map (·.2))).getD En.zero = x := ⟨_, rfl⟩
  obtain ⟨is, his⟩ : ∃ is, (findMv mv (c.m.map (·.2))).isSome = is := ⟨_, rfl⟩
  have hby := fun (W : World) (hk : Keep [] w1 W) => by_gen (ptr := .pointer (some ⟨bp, 0, none⟩)) (w := W) (L := c.m.map (·.2)) (by rw [List.length_map]; exact hm.len) mv (fun W2 hB => all_any ((hc1.kept hk).book.below hB) hm.len hm.ord)
  unfold ByP at hby
  rw [hx, his] at hby
  obtain ⟨x1, x2, x3, x4⟩ := x
  unfold En.val at hby
  simp only at hby
  have HBY := Lib.hid hby
  have H0 := Lib.hid h0
  have H1 := Lib.hid h1
  have H2 := Lib.hid h2
  have H6 := Lib.hid h6
  have HC := Lib.hid hc1
  have HM := Lib.hid hma
  have HK1 := Lib.hid k1
  have hpl := lt_of_heap hc1.blk
  have hml := lt_of_heap hma
  clear h h0 h1 h2 h6 hc1 hma k1 hby
  cases is with
  | false =>
    have hf : findMv mv (c.m.map (·.2)) = none := by cases hh : findMv mv (c.m.map (·.2)) with | none => rfl | some y => rw [hh] at his; cases his
    have HF := Lib.hid hf
    clear hf hx his
    have hres : coHandle c fr k mv pt code = (false, c) := by unfold coHandle; rw [HF.out]
    have HRES := Lib.hid hres
    clear hres
    go_enter Tryz.func11, Tryz.ntmps11
    go_wp2_with (fail)
    refine (none_any HC.out).mono ?_
    rintro e w0 ⟨rfl, hw0⟩
    rw [hw0]
    clear hw0
    go_wp2_with (fail)
    refine wp_region_soup 12 [] (spOf [(6, Spec.is (.tuple #[.agg #[.int .i64 x1, .int .i64 x2, .int .i64 x3, .int .i64 x4], .bool false])), (10, Spec.cellN w1.heap.size 78 4), (11, Spec.wrN w1.heap.size 78 4)]) (by kernel_rfl) (by kernel_rfl) (spOk_call_new (by decide) (by decide) (by decide) (Spec.is_ok _) (fun _ _ _ _ _ _ _ _ => trivial)) (pre_call_new (Spec.is_ok _)) ?_
    simp only [List.take_succ_cons, List.take_zero, List.drop_succ_cons, List.drop_zero]
    iterate 3
      with_reducible refine soup_q ?_ ?_ ?_
      · rfl
      · rfl
      with_reducible apply Exists.intro
      with_reducible refine ⟨fun W hk _ => ?_, ?_⟩
      · unfold Oper.same
        go_simp
        first | rfl | exact ⟨rfl, rfl⟩
      with_reducible apply Exists.intro
      with_reducible refine ⟨?_, ?_⟩
      · go_simp
        rfl
    with_reducible refine soup_q ?_ ?_ ?_
    · rfl
    · rfl
    with_reducible apply Exists.intro
    with_reducible refine ⟨fun W hk _ => ?_, ?_⟩
    · have c0 := (HC.out.kept hk).facts.2.2.2.1
      unfold Oper.same
      go_simp
      first | rfl | exact ⟨rfl, rfl⟩
    with_reducible apply Exists.intro
    with_reducible refine ⟨?_, ?_⟩
    · go_simp
      rfl
    with_reducible refine soup_q ?_ ?_ ?_
    · rfl
    · rfl
    with_reducible apply Exists.intro
    with_reducible refine ⟨fun W hk _ => ?_, ?_⟩
    · unfold Oper.same
      go_simp
      first | rfl | exact ⟨rfl, rfl⟩
    with_reducible apply Exists.intro
    with_reducible refine ⟨?_, ?_⟩
    · go_simp
      rfl
    with_reducible refine soup_q ?_ ?_ ?_
    · rfl
    · rfl
    with_reducible apply Exists.intro
    with_reducible refine ⟨fun W hk _ => ?_, ?_⟩
    · have c0 : W.cell? ⟨w.heap.size, 1, none⟩ = some (.int .i64 mv) := ((HM.out.keep hk (by simp)).cell 1).trans H1.out
      unfold Oper.same
      go_simp
      first | rfl | exact ⟨rfl, rfl⟩
    with_reducible apply Exists.intro
    with_reducible refine ⟨?_, ?_⟩
    · go_simp
      rfl
    refine soup_s rfl rfl rfl (fun W hk _ _ => ?_) ?_
    · unfold Oper.does
      go_simp
      refine (HBY.out W hk).mono ?_
      rintro e w' ⟨rfl, hB⟩
      have hk' := Keep.of_below hB []
      exact ⟨_, rfl, hk', hk.trans hk', rfl, trivial⟩
    intro v hv
    obtain rfl : v = _ := hv
    with_reducible apply Exists.intro
    with_reducible refine ⟨?_, ?_⟩
    · go_simp
      rfl
    iterate 3
      with_reducible refine soup_q ?_ ?_ ?_
      · rfl
      · rfl
      with_reducible apply Exists.intro
      with_reducible refine ⟨fun W hk _ => ?_, ?_⟩
      · unfold Oper.same
        go_simp
        first | rfl | exact ⟨rfl, rfl⟩
      with_reducible apply Exists.intro
      with_reducible refine ⟨?_, ?_⟩
      · go_simp
        rfl
    refine soup_s rfl rfl rfl (fun W hk _ _ => ?_) ?_
    · unfold Oper.does
      go_simp
      exact ⟨(Keep.refl _ _).alloc _, hk.alloc _, ⟨_, rfl, hk.size⟩, _, _, rfl, hk.size, rfl, World.alloc_heap_new W _⟩
    rintro v ⟨g, rfl, hg⟩
    with_reducible apply Exists.intro
    with_reducible refine ⟨?_, ?_⟩
    · go_simp
      rfl
    refine soup_s rfl rfl rfl (fun W hk _ hd => ?_) ?_
    · obtain ⟨g', cs0, e1, e2, e3, e4⟩ := hd 10 (Dep.of 3 (by kernel_rfl))
      obtain rfl : g = g' := by simpa using e1
      have hst := run_storeVar_row (P := Tryz.prog) W g 78 78 cs0 #[.int .i64 x1, .int .i64 x2, .int .i64 x3, .int .i64 x4] e4 (by kernel_rfl) e3 (by simp [Value.oneCell'])
      refine does_store _ (.tmp 7) (.tmp 20) rfl rfl rfl hst ⟨⟨g, cs0, _, e2, e4, rfl, rfl⟩, hk.setRow _ _ (.inr e2), rfl, fun g' cs' e => ?_⟩
      have e5 : [Value.pointer (some ⟨g, 0, none⟩), Value.agg #[.int .i64 x1, .int .i64 x2, .int .i64 x3, .int .i64 x4]] = [Value.pointer (some ⟨g', 0, none⟩), Value.agg cs'] := e
      simp only [List.cons.injEq, Value.pointer.injEq, Option.some.injEq, Addr.mk.injEq, Value.agg.injEq, and_true] at e5
      obtain ⟨rfl, rfl⟩ := e5
      exact setRow_heap W g _ _ _ _ e4
    rintro v rfl
    with_reducible apply Exists.intro
    with_reducible refine ⟨?_, ?_⟩
    · go_simp
      rfl
    refine soup_nil (fun W hk hS => ?_)
    have ht := hS 11 g _ rfl
    have he2 : EnAt W g ⟨x1, x2, x3, x4⟩ := ht
    have hm2 := HM.out.keep hk (by simp)
    have HK := Lib.hid (HK1.out.trans hk)
    have HC := Lib.hid (HC.out.kept hk)
    obtain ⟨c0, c1, c2, c3, c4, c5, c6, c7⟩ := HC.out.facts
    obtain ⟨e0, e1, e2, e3, e4⟩ := he2.facts
    have d0 := (hm2.cell 0).trans H0.out
    have d2 := (hm2.cell 2).trans H2.out
    have d6 := (hm2.cell 6).trans H6.out
    have HE := Lib.hid he2
    have HM2 := Lib.hid hm2
    clear hk hS ht he2 hm2
    go_wp2_with (fail)
    go_ret
    rw [HRES.out]
    exact ⟨rfl, CoN.same HC.out HK.out⟩
  | true =>
    have hf : findMv mv (c.m.map (·.2)) = some ⟨x1, x2, x3, x4⟩ := by
      cases hh : findMv mv (c.m.map (·.2)) with
      | none => rw [hh] at his; cases his
      | some y => rw [hh] at hx; rw [← hx]; rfl
    have HF := Lib.hid hf
    clear hf hx his
    by_cases hpt : x2 = pt
    · subst hpt
      obtain ⟨⟨st, dn⟩, hst⟩ : ∃ s, atOf x1 c.at_ = s := ⟨_, rfl⟩
      have HST := Lib.hid hst
      clear hst
      by_cases hk10 : k = 10
      · subst hk10
        by_cases hs : st = 1
        · subst hs
          by_cases hf : fr = x4
          · have hg : ((fr : Int) == x4) = true := by simpa using hf
            have hres : coHandle c fr 10 mv x2 code = (true, coReady c ⟨x1, x2, x3, x4⟩ code) := by unfold coHandle; rw [HF.out]; simp only [HST.out, ne_eq, not_true_eq_false, if_false]; simp [hf]
            have HRES := Lib.hid hres
            clear hres
            go_enter Tryz.func11, Tryz.ntmps11
            go_wp2_with (fail)
            refine (none_any HC.out).mono ?_
            rintro e w0 ⟨rfl, hw0⟩
            rw [hw0]
            clear hw0
            go_wp2_with (fail)
            refine wp_region_soup 12 [] (spOf [(6, Spec.is (.tuple #[.agg #[.int .i64 x1, .int .i64 x2, .int .i64 x3, .int .i64 x4], .bool true])), (10, Spec.cellN w1.heap.size 78 4), (11, Spec.wrN w1.heap.size 78 4)]) (by kernel_rfl) (by kernel_rfl) (spOk_call_new (by decide) (by decide) (by decide) (Spec.is_ok _) (fun _ _ _ _ _ _ _ _ => trivial)) (pre_call_new (Spec.is_ok _)) ?_
            simp only [List.take_succ_cons, List.take_zero, List.drop_succ_cons, List.drop_zero]
            iterate 3
              with_reducible refine soup_q ?_ ?_ ?_
              · rfl
              · rfl
              with_reducible apply Exists.intro
              with_reducible refine ⟨fun W hk _ => ?_, ?_⟩
              · unfold Oper.same
                go_simp
                first | rfl | exact ⟨rfl, rfl⟩
              with_reducible apply Exists.intro
              with_reducible refine ⟨?_, ?_⟩
              · go_simp
                rfl
            with_reducible refine soup_q ?_ ?_ ?_
            · rfl
            · rfl
            with_reducible apply Exists.intro
            with_reducible refine ⟨fun W hk _ => ?_, ?_⟩
            · have c0 := (HC.out.kept hk).facts.2.2.2.1
              unfold Oper.same
              go_simp
              first | rfl | exact ⟨rfl, rfl⟩
            with_reducible apply Exists.intro
            with_reducible refine ⟨?_, ?_⟩
            · go_simp
              rfl
            with_reducible refine soup_q ?_ ?_ ?_
            · rfl
            · rfl
            with_reducible apply Exists.intro
            with_reducible refine ⟨fun W hk _ => ?_, ?_⟩
            · unfold Oper.same
              go_simp
              first | rfl | exact ⟨rfl, rfl⟩
            with_reducible apply Exists.intro
            with_reducible refine ⟨?_, ?_⟩
            · go_simp
              rfl
            with_reducible refine soup_q ?_ ?_ ?_
            · rfl
            · rfl
            with_reducible apply Exists.intro
            with_reducible refine ⟨fun W hk _ => ?_, ?_⟩
            · have c0 : W.cell? ⟨w.heap.size, 1, none⟩ = some (.int .i64 mv) := ((HM.out.keep hk (by simp)).cell 1).trans H1.out
              unfold Oper.same
              go_simp
              first | rfl | exact ⟨rfl, rfl⟩
            with_reducible apply Exists.intro
            with_reducible refine ⟨?_, ?_⟩
            · go_simp
              rfl
            refine soup_s rfl rfl rfl (fun W hk _ _ => ?_) ?_
            · unfold Oper.does
              go_simp
              refine (HBY.out W hk).mono ?_
              rintro e w' ⟨rfl, hB⟩
              have hk' := Keep.of_below hB []
              exact ⟨_, rfl, hk', hk.trans hk', rfl, trivial⟩
            intro v hv
            obtain rfl : v = _ := hv
            with_reducible apply Exists.intro
            with_reducible refine ⟨?_, ?_⟩
            · go_simp
              rfl
            iterate 3
              with_reducible refine soup_q ?_ ?_ ?_
              · rfl
              · rfl
              with_reducible apply Exists.intro
              with_reducible refine ⟨fun W hk _ => ?_, ?_⟩
              · unfold Oper.same
                go_simp
                first | rfl | exact ⟨rfl, rfl⟩
              with_reducible apply Exists.intro
              with_reducible refine ⟨?_, ?_⟩
              · go_simp
                rfl
            refine soup_s rfl rfl rfl (fun W hk _ _ => ?_) ?_
            · unfold Oper.does
              go_simp
              exact ⟨(Keep.refl _ _).alloc _, hk.alloc _, ⟨_, rfl, hk.size⟩, _, _, rfl, hk.size, rfl, World.alloc_heap_new W _⟩
            rintro v ⟨g, rfl, hg⟩
            with_reducible apply Exists.intro
            with_reducible refine ⟨?_, ?_⟩
            · go_simp
              rfl
            refine soup_s rfl rfl rfl (fun W hk _ hd => ?_) ?_
            · obtain ⟨g', cs0, e1, e2, e3, e4⟩ := hd 10 (Dep.of 3 (by kernel_rfl))
              obtain rfl : g = g' := by simpa using e1
              have hst := run_storeVar_row (P := Tryz.prog) W g 78 78 cs0 #[.int .i64 x1, .int .i64 x2, .int .i64 x3, .int .i64 x4] e4 (by kernel_rfl) e3 (by simp [Value.oneCell'])
              refine does_store _ (.tmp 7) (.tmp 20) rfl rfl rfl hst ⟨⟨g, cs0, _, e2, e4, rfl, rfl⟩, hk.setRow _ _ (.inr e2), rfl, fun g' cs' e => ?_⟩
              have e5 : [Value.pointer (some ⟨g, 0, none⟩), Value.agg #[.int .i64 x1, .int .i64 x2, .int .i64 x3, .int .i64 x4]] = [Value.pointer (some ⟨g', 0, none⟩), Value.agg cs'] := e
              simp only [List.cons.injEq, Value.pointer.injEq, Option.some.injEq, Addr.mk.injEq, Value.agg.injEq, and_true] at e5
              obtain ⟨rfl, rfl⟩ := e5
              exact setRow_heap W g _ _ _ _ e4
            rintro v rfl
            with_reducible apply Exists.intro
            with_reducible refine ⟨?_, ?_⟩
            · go_simp
              rfl
            refine soup_nil (fun W hk hS => ?_)
            have ht := hS 11 g _ rfl
            have he2 : EnAt W g ⟨x1, x2, x3, x4⟩ := ht
            have hm2 := HM.out.keep hk (by simp)
            have HK := Lib.hid (HK1.out.trans hk)
            have HC := Lib.hid (HC.out.kept hk)
            obtain ⟨c0, c1, c2, c3, c4, c5, c6, c7⟩ := HC.out.facts
            obtain ⟨e0, e1, e2, e3, e4⟩ := he2.facts
            have d0 := (hm2.cell 0).trans H0.out
            have d2 := (hm2.cell 2).trans H2.out
            have d6 := (hm2.cell 6).trans H6.out
            have HE := Lib.hid he2
            have HM2 := Lib.hid hm2
            clear hk hS ht he2 hm2
            go_wp2_with (fail)
            have hpl3 := lt_of_heap HC.out.blk
            have hel3 := lt_of_heap HE.out
            clear c0 c1 c2 c3 c4 c5 c6 c7 e0 e1 e2 e3 e4 d0 d2 d6
            refine wp_region_soup 6 [] (fun _ => none) (by kernel_rfl) (by kernel_rfl) (spOk_of (l := []) (by simp)) (pre_of (l := []) (by simp)) ?_
            simp only [List.take_succ_cons, List.take_zero, List.drop_succ_cons, List.drop_zero]
            iterate 3
              with_reducible refine soup_q ?_ ?_ ?_
              · rfl
              · rfl
              with_reducible apply Exists.intro
              with_reducible refine ⟨fun W hk _ => ?_, ?_⟩
              · unfold Oper.same
                go_simp
                first | rfl | exact ⟨rfl, rfl⟩
              with_reducible apply Exists.intro
              with_reducible refine ⟨?_, ?_⟩
              · go_simp
                rfl
            with_reducible refine soup_q ?_ ?_ ?_
            · rfl
            · rfl
            with_reducible apply Exists.intro
            with_reducible refine ⟨fun W hk _ => ?_, ?_⟩
            · have c0 := (HC.out.kept hk).facts.2.2.2.2.1
              unfold Oper.same
              go_simp
              first | rfl | exact ⟨rfl, rfl⟩
            with_reducible apply Exists.intro
            with_reducible refine ⟨?_, ?_⟩
            · go_simp
              rfl
            with_reducible refine soup_q ?_ ?_ ?_
            · rfl
            · rfl
            with_reducible apply Exists.intro
            with_reducible refine ⟨fun W hk _ => ?_, ?_⟩
            · unfold Oper.same
              go_simp
              first | rfl | exact ⟨rfl, rfl⟩
            with_reducible apply Exists.intro
            with_reducible refine ⟨?_, ?_⟩
            · go_simp
              rfl
            with_reducible refine soup_q ?_ ?_ ?_
            · rfl
            · rfl
            with_reducible apply Exists.intro
            with_reducible refine ⟨fun W hk _ => ?_, ?_⟩
            · have c0 := (HE.out.keep hk (by simp)).facts.1
              unfold Oper.same
              go_simp
              first | rfl | exact ⟨rfl, rfl⟩
            with_reducible apply Exists.intro
            with_reducible refine ⟨?_, ?_⟩
            · go_simp
              rfl
            refine soup_nil (fun W hk hS => ?_)
            have hlk := lookSt (HC.out.kept hk).map x1
            rw [HST.out] at hlk
            simp only at hlk
            have hfd := field0
            have HK := Lib.hid (HK.out.trans hk)
            have HC := Lib.hid (HC.out.kept hk)
            have he2 := HE.out.keep hk (by simp)
            have hm2 := HM2.out.keep hk (by simp)
            obtain ⟨e0, e1, e2, e3, e4⟩ := he2.facts
            have d0 := (hm2.cell 0).trans H0.out
            have d6 := (hm2.cell 6).trans H6.out
            clear hk hS he2 hm2
            go_wp2_with (fail)
            have hrd := cready_any HC.out hm.ats ⟨x1, x2, x3, x4⟩ code
            unfold En.val at hrd
            simp only at hrd
            refine hrd.mono ?_
            rintro e w5 ⟨rfl, hn5⟩
            have HN := Lib.hid hn5
            clear hn5 hrd
            go_wp2_with (fail)
            go_ret
            rw [HRES.out]
            exact ⟨rfl, CoN.from HK.out HN.out⟩
          · have hg : ((fr : Int) == x4) = false := by simpa using hf
            have hres : coHandle c fr 10 mv x2 code = (false, c) := by unfold coHandle; rw [HF.out]; simp only [HST.out, ne_eq, not_true_eq_false, if_false]; simp [hf]
            have HRES := Lib.hid hres
            clear hres
            go_enter Tryz.func11, Tryz.ntmps11
            go_wp2_with (fail)
            refine (none_any HC.out).mono ?_
            rintro e w0 ⟨rfl, hw0⟩
            rw [hw0]
            clear hw0
            go_wp2_with (fail)
            refine wp_region_soup 12 [] (spOf [(6, Spec.is (.tuple #[.agg #[.int .i64 x1, .int .i64 x2, .int .i64 x3, .int .i64 x4], .bool true])), (10, Spec.cellN w1.heap.size 78 4), (11, Spec.wrN w1.heap.size 78 4)]) (by kernel_rfl) (by kernel_rfl) (spOk_call_new (by decide) (by decide) (by decide) (Spec.is_ok _) (fun _ _ _ _ _ _ _ _ => trivial)) (pre_call_new (Spec.is_ok _)) ?_
            simp only [List.take_succ_cons, List.take_zero, List.drop_succ_cons, List.drop_zero]
            iterate 3
              with_reducible refine soup_q ?_ ?_ ?_
              · rfl
              · rfl
              with_reducible apply Exists.intro
              with_reducible refine ⟨fun W hk _ => ?_, ?_⟩
              · unfold Oper.same
                go_simp
                first | rfl | exact ⟨rfl, rfl⟩
              with_reducible apply Exists.intro
              with_reducible refine ⟨?_, ?_⟩
              · go_simp
                rfl
            with_reducible refine soup_q ?_ ?_ ?_
            · rfl
            · rfl
            with_reducible apply Exists.intro
            with_reducible refine ⟨fun W hk _ => ?_, ?_⟩
            · have c0 := (HC.out.kept hk).facts.2.2.2.1
              unfold Oper.same
              go_simp
              first | rfl | exact ⟨rfl, rfl⟩
            with_reducible apply Exists.intro
            with_reducible refine ⟨?_, ?_⟩
            · go_simp
              rfl
            with_reducible refine soup_q ?_ ?_ ?_
            · rfl
            · rfl
            with_reducible apply Exists.intro
            with_reducible refine ⟨fun W hk _ => ?_, ?_⟩
            · unfold Oper.same
              go_simp
              first | rfl | exact ⟨rfl, rfl⟩
            with_reducible apply Exists.intro
            with_reducible refine ⟨?_, ?_⟩
            · go_simp
              rfl
            with_reducible refine soup_q ?_ ?_ ?_
            · rfl
            · rfl
            with_reducible apply Exists.intro
            with_reducible refine ⟨fun W hk _ => ?_, ?_⟩
            · have c0 : W.cell? ⟨w.heap.size, 1, none⟩ = some (.int .i64 mv) := ((HM.out.keep hk (by simp)).cell 1).trans H1.out
              unfold Oper.same
              go_simp
              first | rfl | exact ⟨rfl, rfl⟩
            with_reducible apply Exists.intro
            with_reducible refine ⟨?_, ?_⟩
            · go_simp
              rfl
            refine soup_s rfl rfl rfl (fun W hk _ _ => ?_) ?_
            · unfold Oper.does
              go_simp
              refine (HBY.out W hk).mono ?_
              rintro e w' ⟨rfl, hB⟩
              have hk' := Keep.of_below hB []
              exact ⟨_, rfl, hk', hk.trans hk', rfl, trivial⟩
            intro v hv
            obtain rfl : v = _ := hv
            with_reducible apply Exists.intro
            with_reducible refine ⟨?_, ?_⟩
            · go_simp
              rfl
            iterate 3
              with_reducible refine soup_q ?_ ?_ ?_
              · rfl
              · rfl
              with_reducible apply Exists.intro
              with_reducible refine ⟨fun W hk _ => ?_, ?_⟩
              · unfold Oper.same
                go_simp
                first | rfl | exact ⟨rfl, rfl⟩
              with_reducible apply Exists.intro
              with_reducible refine ⟨?_, ?_⟩
              · go_simp
                rfl
            refine soup_s rfl rfl rfl (fun W hk _ _ => ?_) ?_
            · unfold Oper.does
              go_simp
              exact ⟨(Keep.refl _ _).alloc _, hk.alloc _, ⟨_, rfl, hk.size⟩, _, _, rfl, hk.size, rfl, World.alloc_heap_new W _⟩
            rintro v ⟨g, rfl, hg⟩
            with_reducible apply Exists.intro
            with_reducible refine ⟨?_, ?_⟩
            · go_simp
              rfl
            refine soup_s rfl rfl rfl (fun W hk _ hd => ?_) ?_
            · obtain ⟨g', cs0, e1, e2, e3, e4⟩ := hd 10 (Dep.of 3 (by kernel_rfl))
              obtain rfl : g = g' := by simpa using e1
              have hst := run_storeVar_row (P := Tryz.prog) W g 78 78 cs0 #[.int .i64 x1, .int .i64 x2, .int .i64 x3, .int .i64 x4] e4 (by kernel_rfl) e3 (by simp [Value.oneCell'])
              refine does_store _ (.tmp 7) (.tmp 20) rfl rfl rfl hst ⟨⟨g, cs0, _, e2, e4, rfl, rfl⟩, hk.setRow _ _ (.inr e2), rfl, fun g' cs' e => ?_⟩
              have e5 : [Value.pointer (some ⟨g, 0, none⟩), Value.agg #[.int .i64 x1, .int .i64 x2, .int .i64 x3, .int .i64 x4]] = [Value.pointer (some ⟨g', 0, none⟩), Value.agg cs'] := e
              simp only [List.cons.injEq, Value.pointer.injEq, Option.some.injEq, Addr.mk.injEq, Value.agg.injEq, and_true] at e5
              obtain ⟨rfl, rfl⟩ := e5
              exact setRow_heap W g _ _ _ _ e4
            rintro v rfl
            with_reducible apply Exists.intro
            with_reducible refine ⟨?_, ?_⟩
            · go_simp
              rfl
            refine soup_nil (fun W hk hS => ?_)
            have ht := hS 11 g _ rfl
            have he2 : EnAt W g ⟨x1, x2, x3, x4⟩ := ht
            have hm2 := HM.out.keep hk (by simp)
            have HK := Lib.hid (HK1.out.trans hk)
            have HC := Lib.hid (HC.out.kept hk)
            obtain ⟨c0, c1, c2, c3, c4, c5, c6, c7⟩ := HC.out.facts
            obtain ⟨e0, e1, e2, e3, e4⟩ := he2.facts
            have d0 := (hm2.cell 0).trans H0.out
            have d2 := (hm2.cell 2).trans H2.out
            have d6 := (hm2.cell 6).trans H6.out
            have HE := Lib.hid he2
            have HM2 := Lib.hid hm2
            clear hk hS ht he2 hm2
            go_wp2_with (fail)
            have hpl3 := lt_of_heap HC.out.blk
            have hel3 := lt_of_heap HE.out
            clear c0 c1 c2 c3 c4 c5 c6 c7 e0 e1 e2 e3 e4 d0 d2 d6
            refine wp_region_soup 6 [] (fun _ => none) (by kernel_rfl) (by kernel_rfl) (spOk_of (l := []) (by simp)) (pre_of (l := []) (by simp)) ?_
            simp only [List.take_succ_cons, List.take_zero, List.drop_succ_cons, List.drop_zero]
            iterate 3
              with_reducible refine soup_q ?_ ?_ ?_
              · rfl
              · rfl
              with_reducible apply Exists.intro
              with_reducible refine ⟨fun W hk _ => ?_, ?_⟩
              · unfold Oper.same
                go_simp
                first | rfl | exact ⟨rfl, rfl⟩
              with_reducible apply Exists.intro
              with_reducible refine ⟨?_, ?_⟩
              · go_simp
                rfl
            with_reducible refine soup_q ?_ ?_ ?_
            · rfl
            · rfl
            with_reducible apply Exists.intro
            with_reducible refine ⟨fun W hk _ => ?_, ?_⟩
            · have c0 := (HC.out.kept hk).facts.2.2.2.2.1
              unfold Oper.same
              go_simp
              first | rfl | exact ⟨rfl, rfl⟩
            with_reducible apply Exists.intro
            with_reducible refine ⟨?_, ?_⟩
            · go_simp
              rfl
            with_reducible refine soup_q ?_ ?_ ?_
            · rfl
            · rfl
            with_reducible apply Exists.intro
            with_reducible refine ⟨fun W hk _ => ?_, ?_⟩
            · unfold Oper.same
              go_simp
              first | rfl | exact ⟨rfl, rfl⟩
            with_reducible apply Exists.intro
            with_reducible refine ⟨?_, ?_⟩
            · go_simp
              rfl
            with_reducible refine soup_q ?_ ?_ ?_
            · rfl
            · rfl
            with_reducible apply Exists.intro
            with_reducible refine ⟨fun W hk _ => ?_, ?_⟩
            · have c0 := (HE.out.keep hk (by simp)).facts.1
              unfold Oper.same
              go_simp
              first | rfl | exact ⟨rfl, rfl⟩
            with_reducible apply Exists.intro
            with_reducible refine ⟨?_, ?_⟩
            · go_simp
              rfl
            refine soup_nil (fun W hk hS => ?_)
            have hlk := lookSt (HC.out.kept hk).map x1
            rw [HST.out] at hlk
            simp only at hlk
            have hfd := field0
            have HK := Lib.hid (HK.out.trans hk)
            have HC := Lib.hid (HC.out.kept hk)
            have he2 := HE.out.keep hk (by simp)
            have hm2 := HM2.out.keep hk (by simp)
            obtain ⟨e0, e1, e2, e3, e4⟩ := he2.facts
            have d0 := (hm2.cell 0).trans H0.out
            have d6 := (hm2.cell 6).trans H6.out
            clear hk hS he2 hm2
            go_wp2_with (fail)
            go_ret
            rw [HRES.out]
            exact ⟨rfl, CoN.same HC.out HK.out⟩
        · have hg : ((st : Int) == 1) = false := by simpa using hs
          have hres : coHandle c fr 10 mv x2 code = (false, c) := by unfold coHandle; rw [HF.out]; simp only [HST.out, ne_eq, not_true_eq_false, if_false]; simp [hs]
          have HRES := Lib.hid hres
          clear hres
          go_enter Tryz.func11, Tryz.ntmps11
          go_wp2_with (fail)
          refine (none_any HC.out).mono ?_
          rintro e w0 ⟨rfl, hw0⟩
          rw [hw0]
          clear hw0
          go_wp2_with (fail)
          refine wp_region_soup 12 [] (spOf [(6, Spec.is (.tuple #[.agg #[.int .i64 x1, .int .i64 x2, .int .i64 x3, .int .i64 x4], .bool true])), (10, Spec.cellN w1.heap.size 78 4), (11, Spec.wrN w1.heap.size 78 4)]) (by kernel_rfl) (by kernel_rfl) (spOk_call_new (by decide) (by decide) (by decide) (Spec.is_ok _) (fun _ _ _ _ _ _ _ _ => trivial)) (pre_call_new (Spec.is_ok _)) ?_
          simp only [List.take_succ_cons, List.take_zero, List.drop_succ_cons, List.drop_zero]
          iterate 3
            with_reducible refine soup_q ?_ ?_ ?_
            · rfl
            · rfl
            with_reducible apply Exists.intro
            with_reducible refine ⟨fun W hk _ => ?_, ?_⟩
            · unfold Oper.same
              go_simp
              first | rfl | exact ⟨rfl, rfl⟩
            with_reducible apply Exists.intro
            with_reducible refine ⟨?_, ?_⟩
            · go_simp
              rfl
          with_reducible refine soup_q ?_ ?_ ?_
          · rfl
          · rfl
          with_reducible apply Exists.intro
          with_reducible refine ⟨fun W hk _ => ?_, ?_⟩
          · have c0 := (HC.out.kept hk).facts.2.2.2.1
            unfold Oper.same
            go_simp
            first | rfl | exact ⟨rfl, rfl⟩
          with_reducible apply Exists.intro
          with_reducible refine ⟨?_, ?_⟩
          · go_simp
            rfl
          with_reducible refine soup_q ?_ ?_ ?_
          · rfl
          · rfl
          with_reducible apply Exists.intro
          with_reducible refine ⟨fun W hk _ => ?_, ?_⟩
          · unfold Oper.same
            go_simp
            first | rfl | exact ⟨rfl, rfl⟩
          with_reducible apply Exists.intro
          with_reducible refine ⟨?_, ?_⟩
          · go_simp
            rfl
          with_reducible refine soup_q ?_ ?_ ?_
          · rfl
          · rfl
          with_reducible apply Exists.intro
          with_reducible refine ⟨fun W hk _ => ?_, ?_⟩
          · have c0 : W.cell? ⟨w.heap.size, 1, none⟩ = some (.int .i64 mv) := ((HM.out.keep hk (by simp)).cell 1).trans H1.out
            unfold Oper.same
            go_simp
            first | rfl | exact ⟨rfl, rfl⟩
          with_reducible apply Exists.intro
          with_reducible refine ⟨?_, ?_⟩
          · go_simp
            rfl
          refine soup_s rfl rfl rfl (fun W hk _ _ => ?_) ?_
          · unfold Oper.does
            go_simp
            refine (HBY.out W hk).mono ?_
            rintro e w' ⟨rfl, hB⟩
            have hk' := Keep.of_below hB []
            exact ⟨_, rfl, hk', hk.trans hk', rfl, trivial⟩
          intro v hv
          obtain rfl : v = _ := hv
          with_reducible apply Exists.intro
          with_reducible refine ⟨?_, ?_⟩
          · go_simp
            rfl
          iterate 3
            with_reducible refine soup_q ?_ ?_ ?_
            · rfl
            · rfl
            with_reducible apply Exists.intro
            with_reducible refine ⟨fun W hk _ => ?_, ?_⟩
            · unfold Oper.same
              go_simp
              first | rfl | exact ⟨rfl, rfl⟩
            with_reducible apply Exists.intro
            with_reducible refine ⟨?_, ?_⟩
            · go_simp
              rfl
          refine soup_s rfl rfl rfl (fun W hk _ _ => ?_) ?_
          · unfold Oper.does
            go_simp
            exact ⟨(Keep.refl _ _).alloc _, hk.alloc _, ⟨_, rfl, hk.size⟩, _, _, rfl, hk.size, rfl, World.alloc_heap_new W _⟩
          rintro v ⟨g, rfl, hg⟩
          with_reducible apply Exists.intro
          with_reducible refine ⟨?_, ?_⟩
          · go_simp
            rfl
          refine soup_s rfl rfl rfl (fun W hk _ hd => ?_) ?_
          · obtain ⟨g', cs0, e1, e2, e3, e4⟩ := hd 10 (Dep.of 3 (by kernel_rfl))
            obtain rfl : g = g' := by simpa using e1
            have hst := run_storeVar_row (P := Tryz.prog) W g 78 78 cs0 #[.int .i64 x1, .int .i64 x2, .int .i64 x3, .int .i64 x4] e4 (by kernel_rfl) e3 (by simp [Value.oneCell'])
            refine does_store _ (.tmp 7) (.tmp 20) rfl rfl rfl hst ⟨⟨g, cs0, _, e2, e4, rfl, rfl⟩, hk.setRow _ _ (.inr e2), rfl, fun g' cs' e => ?_⟩
            have e5 : [Value.pointer (some ⟨g, 0, none⟩), Value.agg #[.int .i64 x1, .int .i64 x2, .int .i64 x3, .int .i64 x4]] = [Value.pointer (some ⟨g', 0, none⟩), Value.agg cs'] := e
            simp only [List.cons.injEq, Value.pointer.injEq, Option.some.injEq, Addr.mk.injEq, Value.agg.injEq, and_true] at e5
            obtain ⟨rfl, rfl⟩ := e5
            exact setRow_heap W g _ _ _ _ e4
          rintro v rfl
          with_reducible apply Exists.intro
          with_reducible refine ⟨?_, ?_⟩
          · go_simp
            rfl
          refine soup_nil (fun W hk hS => ?_)
          have ht := hS 11 g _ rfl
          have he2 : EnAt W g ⟨x1, x2, x3, x4⟩ := ht
          have hm2 := HM.out.keep hk (by simp)
          have HK := Lib.hid (HK1.out.trans hk)
          have HC := Lib.hid (HC.out.kept hk)
          obtain ⟨c0, c1, c2, c3, c4, c5, c6, c7⟩ := HC.out.facts
          obtain ⟨e0, e1, e2, e3, e4⟩ := he2.facts
          have d0 := (hm2.cell 0).trans H0.out
          have d2 := (hm2.cell 2).trans H2.out
          have d6 := (hm2.cell 6).trans H6.out
          have HE := Lib.hid he2
          have HM2 := Lib.hid hm2
          clear hk hS ht he2 hm2
          go_wp2_with (fail)
          have hpl3 := lt_of_heap HC.out.blk
          have hel3 := lt_of_heap HE.out
          clear c0 c1 c2 c3 c4 c5 c6 c7 e0 e1 e2 e3 e4 d0 d2 d6
          refine wp_region_soup 6 [] (fun _ => none) (by kernel_rfl) (by kernel_rfl) (spOk_of (l := []) (by simp)) (pre_of (l := []) (by simp)) ?_
          simp only [List.take_succ_cons, List.take_zero, List.drop_succ_cons, List.drop_zero]
          iterate 3
            with_reducible refine soup_q ?_ ?_ ?_
            · rfl
            · rfl
            with_reducible apply Exists.intro
            with_reducible refine ⟨fun W hk _ => ?_, ?_⟩
            · unfold Oper.same
              go_simp
              first | rfl | exact ⟨rfl, rfl⟩
            with_reducible apply Exists.intro
            with_reducible refine ⟨?_, ?_⟩
            · go_simp
              rfl
          with_reducible refine soup_q ?_ ?_ ?_
          · rfl
          · rfl
          with_reducible apply Exists.intro
          with_reducible refine ⟨fun W hk _ => ?_, ?_⟩
          · have c0 := (HC.out.kept hk).facts.2.2.2.2.1
            unfold Oper.same
            go_simp
            first | rfl | exact ⟨rfl, rfl⟩
          with_reducible apply Exists.intro
          with_reducible refine ⟨?_, ?_⟩
          · go_simp
            rfl
          with_reducible refine soup_q ?_ ?_ ?_
          · rfl
          · rfl
          with_reducible apply Exists.intro
          with_reducible refine ⟨fun W hk _ => ?_, ?_⟩
          · unfold Oper.same
            go_simp
            first | rfl | exact ⟨rfl, rfl⟩
          with_reducible apply Exists.intro
          with_reducible refine ⟨?_, ?_⟩
          · go_simp
            rfl
          with_reducible refine soup_q ?_ ?_ ?_
          · rfl
          · rfl
          with_reducible apply Exists.intro
          with_reducible refine ⟨fun W hk _ => ?_, ?_⟩
          · have c0 := (HE.out.keep hk (by simp)).facts.1
            unfold Oper.same
            go_simp
            first | rfl | exact ⟨rfl, rfl⟩
          with_reducible apply Exists.intro
          with_reducible refine ⟨?_, ?_⟩
          · go_simp
            rfl
          refine soup_nil (fun W hk hS => ?_)
          have hlk := lookSt (HC.out.kept hk).map x1
          rw [HST.out] at hlk
          simp only at hlk
          have hfd := field0
          have HK := Lib.hid (HK.out.trans hk)
          have HC := Lib.hid (HC.out.kept hk)
          have he2 := HE.out.keep hk (by simp)
          have hm2 := HM2.out.keep hk (by simp)
          obtain ⟨e0, e1, e2, e3, e4⟩ := he2.facts
          have d0 := (hm2.cell 0).trans H0.out
          have d6 := (hm2.cell 6).trans H6.out
          clear hk hS he2 hm2
          go_wp2_with (fail)
          go_ret
          rw [HRES.out]
          exact ⟨rfl, CoN.same HC.out HK.out⟩
      · have hg10 : ((k : Int) == 10) = false := by simp; omega
        by_cases hk13 : k = 13
        · subst hk13
          by_cases hs : st = 1
          · subst hs
            have hres : coHandle c fr 13 mv x2 code = (false, c) := by unfold coHandle; rw [HF.out]; simp only [HST.out, ne_eq, not_true_eq_false, if_false]; simp
            have HRES := Lib.hid hres
            clear hres
            go_enter Tryz.func11, Tryz.ntmps11
            go_wp2_with (fail)
            refine (none_any HC.out).mono ?_
            rintro e w0 ⟨rfl, hw0⟩
            rw [hw0]
            clear hw0
            go_wp2_with (fail)
            refine wp_region_soup 12 [] (spOf [(6, Spec.is (.tuple #[.agg #[.int .i64 x1, .int .i64 x2, .int .i64 x3, .int .i64 x4], .bool true])), (10, Spec.cellN w1.heap.size 78 4), (11, Spec.wrN w1.heap.size 78 4)]) (by kernel_rfl) (by kernel_rfl) (spOk_call_new (by decide) (by decide) (by decide) (Spec.is_ok _) (fun _ _ _ _ _ _ _ _ => trivial)) (pre_call_new (Spec.is_ok _)) ?_
            simp only [List.take_succ_cons, List.take_zero, List.drop_succ_cons, List.drop_zero]
            iterate 3
              with_reducible refine soup_q ?_ ?_ ?_
              · rfl
              · rfl
              with_reducible apply Exists.intro
              with_reducible refine ⟨fun W hk _ => ?_, ?_⟩
              · unfold Oper.same
                go_simp
                first | rfl | exact ⟨rfl, rfl⟩
              with_reducible apply Exists.intro
              with_reducible refine ⟨?_, ?_⟩
              · go_simp
                rfl
            with_reducible refine soup_q ?_ ?_ ?_
            · rfl
            · rfl
            with_reducible apply Exists.intro
            with_reducible refine ⟨fun W hk _ => ?_, ?_⟩
            · have c0 := (HC.out.kept hk).facts.2.2.2.1
              unfold Oper.same
              go_simp
              first | rfl | exact ⟨rfl, rfl⟩
            with_reducible apply Exists.intro
            with_reducible refine ⟨?_, ?_⟩
            · go_simp
              rfl
            with_reducible refine soup_q ?_ ?_ ?_
            · rfl
            · rfl
            with_reducible apply Exists.intro
            with_reducible refine ⟨fun W hk _ => ?_, ?_⟩
            · unfold Oper.same
              go_simp
              first | rfl | exact ⟨rfl, rfl⟩
            with_reducible apply Exists.intro
            with_reducible refine ⟨?_, ?_⟩
            · go_simp
              rfl
            with_reducible refine soup_q ?_ ?_ ?_
            · rfl
            · rfl
            with_reducible apply Exists.intro
            with_reducible refine ⟨fun W hk _ => ?_, ?_⟩
            · have c0 : W.cell? ⟨w.heap.size, 1, none⟩ = some (.int .i64 mv) := ((HM.out.keep hk (by simp)).cell 1).trans H1.out
              unfold Oper.same
              go_simp
              first | rfl | exact ⟨rfl, rfl⟩
            with_reducible apply Exists.intro
            with_reducible refine ⟨?_, ?_⟩
            · go_simp
              rfl
            refine soup_s rfl rfl rfl (fun W hk _ _ => ?_) ?_
            · unfold Oper.does
              go_simp
              refine (HBY.out W hk).mono ?_
              rintro e w' ⟨rfl, hB⟩
              have hk' := Keep.of_below hB []
              exact ⟨_, rfl, hk', hk.trans hk', rfl, trivial⟩
            intro v hv
            obtain rfl : v = _ := hv
            with_reducible apply Exists.intro
            with_reducible refine ⟨?_, ?_⟩
            · go_simp
              rfl
            iterate 3
              with_reducible refine soup_q ?_ ?_ ?_
              · rfl
              · rfl
              with_reducible apply Exists.intro
              with_reducible refine ⟨fun W hk _ => ?_, ?_⟩
              · unfold Oper.same
                go_simp
                first | rfl | exact ⟨rfl, rfl⟩
              with_reducible apply Exists.intro
              with_reducible refine ⟨?_, ?_⟩
              · go_simp
                rfl
            refine soup_s rfl rfl rfl (fun W hk _ _ => ?_) ?_
            · unfold Oper.does
              go_simp
              exact ⟨(Keep.refl _ _).alloc _, hk.alloc _, ⟨_, rfl, hk.size⟩, _, _, rfl, hk.size, rfl, World.alloc_heap_new W _⟩
            rintro v ⟨g, rfl, hg⟩
            with_reducible apply Exists.intro
            with_reducible refine ⟨?_, ?_⟩
            · go_simp
              rfl
            refine soup_s rfl rfl rfl (fun W hk _ hd => ?_) ?_
            · obtain ⟨g', cs0, e1, e2, e3, e4⟩ := hd 10 (Dep.of 3 (by kernel_rfl))
              obtain rfl : g = g' := by simpa using e1
              have hst := run_storeVar_row (P := Tryz.prog) W g 78 78 cs0 #[.int .i64 x1, .int .i64 x2, .int .i64 x3, .int .i64 x4] e4 (by kernel_rfl) e3 (by simp [Value.oneCell'])
              refine does_store _ (.tmp 7) (.tmp 20) rfl rfl rfl hst ⟨⟨g, cs0, _, e2, e4, rfl, rfl⟩, hk.setRow _ _ (.inr e2), rfl, fun g' cs' e => ?_⟩
              have e5 : [Value.pointer (some ⟨g, 0, none⟩), Value.agg #[.int .i64 x1, .int .i64 x2, .int .i64 x3, .int .i64 x4]] = [Value.pointer (some ⟨g', 0, none⟩), Value.agg cs'] := e
              simp only [List.cons.injEq, Value.pointer.injEq, Option.some.injEq, Addr.mk.injEq, Value.agg.injEq, and_true] at e5
              obtain ⟨rfl, rfl⟩ := e5
              exact setRow_heap W g _ _ _ _ e4
            rintro v rfl
            with_reducible apply Exists.intro
            with_reducible refine ⟨?_, ?_⟩
            · go_simp
              rfl
            refine soup_nil (fun W hk hS => ?_)
            have ht := hS 11 g _ rfl
            have he2 : EnAt W g ⟨x1, x2, x3, x4⟩ := ht
            have hm2 := HM.out.keep hk (by simp)
            have HK := Lib.hid (HK1.out.trans hk)
            have HC := Lib.hid (HC.out.kept hk)
            obtain ⟨c0, c1, c2, c3, c4, c5, c6, c7⟩ := HC.out.facts
            obtain ⟨e0, e1, e2, e3, e4⟩ := he2.facts
            have d0 := (hm2.cell 0).trans H0.out
            have d2 := (hm2.cell 2).trans H2.out
            have d6 := (hm2.cell 6).trans H6.out
            have HE := Lib.hid he2
            have HM2 := Lib.hid hm2
            clear hk hS ht he2 hm2
            go_wp2_with (fail)
            have hpl3 := lt_of_heap HC.out.blk
            have hel3 := lt_of_heap HE.out
            clear c0 c1 c2 c3 c4 c5 c6 c7 e0 e1 e2 e3 e4 d0 d2 d6
            refine wp_region_soup 6 [] (fun _ => none) (by kernel_rfl) (by kernel_rfl) (spOk_of (l := []) (by simp)) (pre_of (l := []) (by simp)) ?_
            simp only [List.take_succ_cons, List.take_zero, List.drop_succ_cons, List.drop_zero]
            iterate 3
              with_reducible refine soup_q ?_ ?_ ?_
              · rfl
              · rfl
              with_reducible apply Exists.intro
              with_reducible refine ⟨fun W hk _ => ?_, ?_⟩
              · unfold Oper.same
                go_simp
                first | rfl | exact ⟨rfl, rfl⟩
              with_reducible apply Exists.intro
              with_reducible refine ⟨?_, ?_⟩
              · go_simp
                rfl
            with_reducible refine soup_q ?_ ?_ ?_
            · rfl
            · rfl
            with_reducible apply Exists.intro
            with_reducible refine ⟨fun W hk _ => ?_, ?_⟩
            · have c0 := (HC.out.kept hk).facts.2.2.2.2.1
              unfold Oper.same
              go_simp
              first | rfl | exact ⟨rfl, rfl⟩
            with_reducible apply Exists.intro
            with_reducible refine ⟨?_, ?_⟩
            · go_simp
              rfl
            with_reducible refine soup_q ?_ ?_ ?_
            · rfl
            · rfl
            with_reducible apply Exists.intro
            with_reducible refine ⟨fun W hk _ => ?_, ?_⟩
            · unfold Oper.same
              go_simp
              first | rfl | exact ⟨rfl, rfl⟩
            with_reducible apply Exists.intro
            with_reducible refine ⟨?_, ?_⟩
            · go_simp
              rfl
            with_reducible refine soup_q ?_ ?_ ?_
            · rfl
            · rfl
            with_reducible apply Exists.intro
            with_reducible refine ⟨fun W hk _ => ?_, ?_⟩
            · have c0 := (HE.out.keep hk (by simp)).facts.1
              unfold Oper.same
              go_simp
              first | rfl | exact ⟨rfl, rfl⟩
            with_reducible apply Exists.intro
            with_reducible refine ⟨?_, ?_⟩
            · go_simp
              rfl
            refine soup_nil (fun W hk hS => ?_)
            have hlk := lookSt (HC.out.kept hk).map x1
            rw [HST.out] at hlk
            simp only at hlk
            have hfd := field0
            have HK := Lib.hid (HK.out.trans hk)
            have HC := Lib.hid (HC.out.kept hk)
            have he2 := HE.out.keep hk (by simp)
            have hm2 := HM2.out.keep hk (by simp)
            obtain ⟨e0, e1, e2, e3, e4⟩ := he2.facts
            have d0 := (hm2.cell 0).trans H0.out
            have d6 := (hm2.cell 6).trans H6.out
            clear hk hS he2 hm2
            go_wp2_with (fail)
            go_ret
            rw [HRES.out]
            exact ⟨rfl, CoN.same HC.out HK.out⟩
          · have hg : ((st : Int) == 1) = false := by simpa using hs
            have hres : coHandle c fr 13 mv x2 code = coDone c ⟨x1, x2, x3, x4⟩ fr := by unfold coHandle; rw [HF.out]; simp only [HST.out, ne_eq, not_true_eq_false, if_false]; simp [hs]
            have HRES := Lib.hid hres
            clear hres
            go_enter Tryz.func11, Tryz.ntmps11
            go_wp2_with (fail)
            refine (none_any HC.out).mono ?_
            rintro e w0 ⟨rfl, hw0⟩
            rw [hw0]
            clear hw0
            go_wp2_with (fail)
            refine wp_region_soup 12 [] (spOf [(6, Spec.is (.tuple #[.agg #[.int .i64 x1, .int .i64 x2, .int .i64 x3, .int .i64 x4], .bool true])), (10, Spec.cellN w1.heap.size 78 4), (11, Spec.wrN w1.heap.size 78 4)]) (by kernel_rfl) (by kernel_rfl) (spOk_call_new (by decide) (by decide) (by decide) (Spec.is_ok _) (fun _ _ _ _ _ _ _ _ => trivial)) (pre_call_new (Spec.is_ok _)) ?_
            simp only [List.take_succ_cons, List.take_zero, List.drop_succ_cons, List.drop_zero]
            iterate 3
              with_reducible refine soup_q ?_ ?_ ?_
              · rfl
              · rfl
              with_reducible apply Exists.intro
              with_reducible refine ⟨fun W hk _ => ?_, ?_⟩
              · unfold Oper.same
                go_simp
                first | rfl | exact ⟨rfl, rfl⟩
              with_reducible apply Exists.intro
              with_reducible refine ⟨?_, ?_⟩
              · go_simp
                rfl
            with_reducible refine soup_q ?_ ?_ ?_
            · rfl
            · rfl
            with_reducible apply Exists.intro
            with_reducible refine ⟨fun W hk _ => ?_, ?_⟩
            · have c0 := (HC.out.kept hk).facts.2.2.2.1
              unfold Oper.same
              go_simp
              first | rfl | exact ⟨rfl, rfl⟩
            with_reducible apply Exists.intro
            with_reducible refine ⟨?_, ?_⟩
            · go_simp
              rfl
            with_reducible refine soup_q ?_ ?_ ?_
            · rfl
            · rfl
            with_reducible apply Exists.intro
            with_reducible refine ⟨fun W hk _ => ?_, ?_⟩
            · unfold Oper.same
              go_simp
              first | rfl | exact ⟨rfl, rfl⟩
            with_reducible apply Exists.intro
            with_reducible refine ⟨?_, ?_⟩
            · go_simp
              rfl
            with_reducible refine soup_q ?_ ?_ ?_
            · rfl
            · rfl
            with_reducible apply Exists.intro
            with_reducible refine ⟨fun W hk _ => ?_, ?_⟩
            · have c0 : W.cell? ⟨w.heap.size, 1, none⟩ = some (.int .i64 mv) := ((HM.out.keep hk (by simp)).cell 1).trans H1.out
              unfold Oper.same
              go_simp
              first | rfl | exact ⟨rfl, rfl⟩
            with_reducible apply Exists.intro
            with_reducible refine ⟨?_, ?_⟩
            · go_simp
              rfl
            refine soup_s rfl rfl rfl (fun W hk _ _ => ?_) ?_
            · unfold Oper.does
              go_simp
              refine (HBY.out W hk).mono ?_
              rintro e w' ⟨rfl, hB⟩
              have hk' := Keep.of_below hB []
              exact ⟨_, rfl, hk', hk.trans hk', rfl, trivial⟩
            intro v hv
            obtain rfl : v = _ := hv
            with_reducible apply Exists.intro
            with_reducible refine ⟨?_, ?_⟩
            · go_simp
              rfl
            iterate 3
              with_reducible refine soup_q ?_ ?_ ?_
              · rfl
              · rfl
              with_reducible apply Exists.intro
              with_reducible refine ⟨fun W hk _ => ?_, ?_⟩
              · unfold Oper.same
                go_simp
                first | rfl | exact ⟨rfl, rfl⟩
              with_reducible apply Exists.intro
              with_reducible refine ⟨?_, ?_⟩
              · go_simp
                rfl
            refine soup_s rfl rfl rfl (fun W hk _ _ => ?_) ?_
            · unfold Oper.does
              go_simp
              exact ⟨(Keep.refl _ _).alloc _, hk.alloc _, ⟨_, rfl, hk.size⟩, _, _, rfl, hk.size, rfl, World.alloc_heap_new W _⟩
            rintro v ⟨g, rfl, hg⟩
            with_reducible apply Exists.intro
            with_reducible refine ⟨?_, ?_⟩
            · go_simp
              rfl
            refine soup_s rfl rfl rfl (fun W hk _ hd => ?_) ?_
            · obtain ⟨g', cs0, e1, e2, e3, e4⟩ := hd 10 (Dep.of 3 (by kernel_rfl))
              obtain rfl : g = g' := by simpa using e1
              have hst := run_storeVar_row (P := Tryz.prog) W g 78 78 cs0 #[.int .i64 x1, .int .i64 x2, .int .i64 x3, .int .i64 x4] e4 (by kernel_rfl) e3 (by simp [Value.oneCell'])
              refine does_store _ (.tmp 7) (.tmp 20) rfl rfl rfl hst ⟨⟨g, cs0, _, e2, e4, rfl, rfl⟩, hk.setRow _ _ (.inr e2), rfl, fun g' cs' e => ?_⟩
              have e5 : [Value.pointer (some ⟨g, 0, none⟩), Value.agg #[.int .i64 x1, .int .i64 x2, .int .i64 x3, .int .i64 x4]] = [Value.pointer (some ⟨g', 0, none⟩), Value.agg cs'] := e
              simp only [List.cons.injEq, Value.pointer.injEq, Option.some.injEq, Addr.mk.injEq, Value.agg.injEq, and_true] at e5
              obtain ⟨rfl, rfl⟩ := e5
              exact setRow_heap W g _ _ _ _ e4
            rintro v rfl
            with_reducible apply Exists.intro
            with_reducible refine ⟨?_, ?_⟩
            · go_simp
              rfl
            refine soup_nil (fun W hk hS => ?_)
            have ht := hS 11 g _ rfl
            have he2 : EnAt W g ⟨x1, x2, x3, x4⟩ := ht
            have hm2 := HM.out.keep hk (by simp)
            have HK := Lib.hid (HK1.out.trans hk)
            have HC := Lib.hid (HC.out.kept hk)
            obtain ⟨c0, c1, c2, c3, c4, c5, c6, c7⟩ := HC.out.facts
            obtain ⟨e0, e1, e2, e3, e4⟩ := he2.facts
            have d0 := (hm2.cell 0).trans H0.out
            have d2 := (hm2.cell 2).trans H2.out
            have d6 := (hm2.cell 6).trans H6.out
            have HE := Lib.hid he2
            have HM2 := Lib.hid hm2
            clear hk hS ht he2 hm2
            go_wp2_with (fail)
            have hpl3 := lt_of_heap HC.out.blk
            have hel3 := lt_of_heap HE.out
            clear c0 c1 c2 c3 c4 c5 c6 c7 e0 e1 e2 e3 e4 d0 d2 d6
            refine wp_region_soup 6 [] (fun _ => none) (by kernel_rfl) (by kernel_rfl) (spOk_of (l := []) (by simp)) (pre_of (l := []) (by simp)) ?_
            simp only [List.take_succ_cons, List.take_zero, List.drop_succ_cons, List.drop_zero]
            iterate 3
              with_reducible refine soup_q ?_ ?_ ?_
              · rfl
              · rfl
              with_reducible apply Exists.intro
              with_reducible refine ⟨fun W hk _ => ?_, ?_⟩
              · unfold Oper.same
                go_simp
                first | rfl | exact ⟨rfl, rfl⟩
              with_reducible apply Exists.intro
              with_reducible refine ⟨?_, ?_⟩
              · go_simp
                rfl
            with_reducible refine soup_q ?_ ?_ ?_
            · rfl
            · rfl
            with_reducible apply Exists.intro
            with_reducible refine ⟨fun W hk _ => ?_, ?_⟩
            · have c0 := (HC.out.kept hk).facts.2.2.2.2.1
              unfold Oper.same
              go_simp
              first | rfl | exact ⟨rfl, rfl⟩
            with_reducible apply Exists.intro
            with_reducible refine ⟨?_, ?_⟩
            · go_simp
              rfl
            with_reducible refine soup_q ?_ ?_ ?_
            · rfl
            · rfl
            with_reducible apply Exists.intro
            with_reducible refine ⟨fun W hk _ => ?_, ?_⟩
            · unfold Oper.same
              go_simp
              first | rfl | exact ⟨rfl, rfl⟩
            with_reducible apply Exists.intro
            with_reducible refine ⟨?_, ?_⟩
            · go_simp
              rfl
            with_reducible refine soup_q ?_ ?_ ?_
            · rfl
            · rfl
            with_reducible apply Exists.intro
            with_reducible refine ⟨fun W hk _ => ?_, ?_⟩
            · have c0 := (HE.out.keep hk (by simp)).facts.1
              unfold Oper.same
              go_simp
              first | rfl | exact ⟨rfl, rfl⟩
            with_reducible apply Exists.intro
            with_reducible refine ⟨?_, ?_⟩
            · go_simp
              rfl
            refine soup_nil (fun W hk hS => ?_)
            have hlk := lookSt (HC.out.kept hk).map x1
            rw [HST.out] at hlk
            simp only at hlk
            have hfd := field0
            have HK := Lib.hid (HK.out.trans hk)
            have HC := Lib.hid (HC.out.kept hk)
            have he2 := HE.out.keep hk (by simp)
            have hm2 := HM2.out.keep hk (by simp)
            obtain ⟨e0, e1, e2, e3, e4⟩ := he2.facts
            have d0 := (hm2.cell 0).trans H0.out
            have d6 := (hm2.cell 6).trans H6.out
            clear hk hS he2 hm2
            go_wp2_with (fail)
            have hdn := cdone_any HC.out hm.keys hm.ats hm.cnt ⟨x1, x2, x3, x4⟩ fr (hm.dn x1)
            obtain ⟨bd, cd, hcd⟩ : ∃ bd cd, coDone c ⟨x1, x2, x3, x4⟩ fr = (bd, cd) := ⟨_, _, rfl⟩
            rw [hcd] at hdn HRES
            unfold En.val at hdn
            simp only at hdn
            refine hdn.mono ?_
            rintro e w5 ⟨rfl, hn5⟩
            have HN := Lib.hid hn5
            clear hn5 hcd hdn
            go_wp2_with (fail)
            go_ret
            rw [HRES.out]
            exact ⟨rfl, CoN.from HK.out HN.out⟩
        · have hg13 : ((k : Int) == 13) = false := by simp; omega
          have hres : coHandle c fr k mv x2 code = (false, c) := by unfold coHandle; rw [HF.out]; simp only [HST.out, ne_eq, not_true_eq_false, if_false]; simp [hk10, hk13]
          have HRES := Lib.hid hres
          clear hres
          go_enter Tryz.func11, Tryz.ntmps11
          go_wp2_with (fail)
          refine (none_any HC.out).mono ?_
          rintro e w0 ⟨rfl, hw0⟩
          rw [hw0]
          clear hw0
          go_wp2_with (fail)
          refine wp_region_soup 12 [] (spOf [(6, Spec.is (.tuple #[.agg #[.int .i64 x1, .int .i64 x2, .int .i64 x3, .int .i64 x4], .bool true])), (10, Spec.cellN w1.heap.size 78 4), (11, Spec.wrN w1.heap.size 78 4)]) (by kernel_rfl) (by kernel_rfl) (spOk_call_new (by decide) (by decide) (by decide) (Spec.is_ok _) (fun _ _ _ _ _ _ _ _ => trivial)) (pre_call_new (Spec.is_ok _)) ?_
          simp only [List.take_succ_cons, List.take_zero, List.drop_succ_cons, List.drop_zero]
          iterate 3
            with_reducible refine soup_q ?_ ?_ ?_
            · rfl
            · rfl
            with_reducible apply Exists.intro
            with_reducible refine ⟨fun W hk _ => ?_, ?_⟩
            · unfold Oper.same
              go_simp
              first | rfl | exact ⟨rfl, rfl⟩
            with_reducible apply Exists.intro
            with_reducible refine ⟨?_, ?_⟩
            · go_simp
              rfl
          with_reducible refine soup_q ?_ ?_ ?_
          · rfl
          · rfl
          with_reducible apply Exists.intro
          with_reducible refine ⟨fun W hk _ => ?_, ?_⟩
          · have c0 := (HC.out.kept hk).facts.2.2.2.1
            unfold Oper.same
            go_simp
            first | rfl | exact ⟨rfl, rfl⟩
          with_reducible apply Exists.intro
          with_reducible refine ⟨?_, ?_⟩
          · go_simp
            rfl
          with_reducible refine soup_q ?_ ?_ ?_
          · rfl
          · rfl
          with_reducible apply Exists.intro
          with_reducible refine ⟨fun W hk _ => ?_, ?_⟩
          · unfold Oper.same
            go_simp
            first | rfl | exact ⟨rfl, rfl⟩
          with_reducible apply Exists.intro
          with_reducible refine ⟨?_, ?_⟩
          · go_simp
            rfl
          with_reducible refine soup_q ?_ ?_ ?_
          · rfl
          · rfl
          with_reducible apply Exists.intro
          with_reducible refine ⟨fun W hk _ => ?_, ?_⟩
          · have c0 : W.cell? ⟨w.heap.size, 1, none⟩ = some (.int .i64 mv) := ((HM.out.keep hk (by simp)).cell 1).trans H1.out
            unfold Oper.same
            go_simp
            first | rfl | exact ⟨rfl, rfl⟩
          with_reducible apply Exists.intro
          with_reducible refine ⟨?_, ?_⟩
          · go_simp
            rfl
          refine soup_s rfl rfl rfl (fun W hk _ _ => ?_) ?_
          · unfold Oper.does
            go_simp
            refine (HBY.out W hk).mono ?_
            rintro e w' ⟨rfl, hB⟩
            have hk' := Keep.of_below hB []
            exact ⟨_, rfl, hk', hk.trans hk', rfl, trivial⟩
          intro v hv
          obtain rfl : v = _ := hv
          with_reducible apply Exists.intro
          with_reducible refine ⟨?_, ?_⟩
          · go_simp
            rfl
          iterate 3
            with_reducible refine soup_q ?_ ?_ ?_
            · rfl
            · rfl
            with_reducible apply Exists.intro
            with_reducible refine ⟨fun W hk _ => ?_, ?_⟩
            · unfold Oper.same
              go_simp
              first | rfl | exact ⟨rfl, rfl⟩
            with_reducible apply Exists.intro
            with_reducible refine ⟨?_, ?_⟩
            · go_simp
              rfl
          refine soup_s rfl rfl rfl (fun W hk _ _ => ?_) ?_
          · unfold Oper.does
            go_simp
            exact ⟨(Keep.refl _ _).alloc _, hk.alloc _, ⟨_, rfl, hk.size⟩, _, _, rfl, hk.size, rfl, World.alloc_heap_new W _⟩
          rintro v ⟨g, rfl, hg⟩
          with_reducible apply Exists.intro
          with_reducible refine ⟨?_, ?_⟩
          · go_simp
            rfl
          refine soup_s rfl rfl rfl (fun W hk _ hd => ?_) ?_
          · obtain ⟨g', cs0, e1, e2, e3, e4⟩ := hd 10 (Dep.of 3 (by kernel_rfl))
            obtain rfl : g = g' := by simpa using e1
            have hst := run_storeVar_row (P := Tryz.prog) W g 78 78 cs0 #[.int .i64 x1, .int .i64 x2, .int .i64 x3, .int .i64 x4] e4 (by kernel_rfl) e3 (by simp [Value.oneCell'])
            refine does_store _ (.tmp 7) (.tmp 20) rfl rfl rfl hst ⟨⟨g, cs0, _, e2, e4, rfl, rfl⟩, hk.setRow _ _ (.inr e2), rfl, fun g' cs' e => ?_⟩
            have e5 : [Value.pointer (some ⟨g, 0, none⟩), Value.agg #[.int .i64 x1, .int .i64 x2, .int .i64 x3, .int .i64 x4]] = [Value.pointer (some ⟨g', 0, none⟩), Value.agg cs'] := e
            simp only [List.cons.injEq, Value.pointer.injEq, Option.some.injEq, Addr.mk.injEq, Value.agg.injEq, and_true] at e5
            obtain ⟨rfl, rfl⟩ := e5
            exact setRow_heap W g _ _ _ _ e4
          rintro v rfl
          with_reducible apply Exists.intro
          with_reducible refine ⟨?_, ?_⟩
          · go_simp
            rfl
          refine soup_nil (fun W hk hS => ?_)
          have ht := hS 11 g _ rfl
          have he2 : EnAt W g ⟨x1, x2, x3, x4⟩ := ht
          have hm2 := HM.out.keep hk (by simp)
          have HK := Lib.hid (HK1.out.trans hk)
          have HC := Lib.hid (HC.out.kept hk)
          obtain ⟨c0, c1, c2, c3, c4, c5, c6, c7⟩ := HC.out.facts
          obtain ⟨e0, e1, e2, e3, e4⟩ := he2.facts
          have d0 := (hm2.cell 0).trans H0.out
          have d2 := (hm2.cell 2).trans H2.out
          have d6 := (hm2.cell 6).trans H6.out
          have HE := Lib.hid he2
          have HM2 := Lib.hid hm2
          clear hk hS ht he2 hm2
          go_wp2_with (fail)
          have hpl3 := lt_of_heap HC.out.blk
          have hel3 := lt_of_heap HE.out
          clear c0 c1 c2 c3 c4 c5 c6 c7 e0 e1 e2 e3 e4 d0 d2 d6
          refine wp_region_soup 6 [] (fun _ => none) (by kernel_rfl) (by kernel_rfl) (spOk_of (l := []) (by simp)) (pre_of (l := []) (by simp)) ?_
          simp only [List.take_succ_cons, List.take_zero, List.drop_succ_cons, List.drop_zero]
          iterate 3
            with_reducible refine soup_q ?_ ?_ ?_
            · rfl
            · rfl
            with_reducible apply Exists.intro
            with_reducible refine ⟨fun W hk _ => ?_, ?_⟩
            · unfold Oper.same
              go_simp
              first | rfl | exact ⟨rfl, rfl⟩
            with_reducible apply Exists.intro
            with_reducible refine ⟨?_, ?_⟩
            · go_simp
              rfl
          with_reducible refine soup_q ?_ ?_ ?_
          · rfl
          · rfl
          with_reducible apply Exists.intro
          with_reducible refine ⟨fun W hk _ => ?_, ?_⟩
          · have c0 := (HC.out.kept hk).facts.2.2.2.2.1
            unfold Oper.same
            go_simp
            first | rfl | exact ⟨rfl, rfl⟩
          with_reducible apply Exists.intro
          with_reducible refine ⟨?_, ?_⟩
          · go_simp
            rfl
          with_reducible refine soup_q ?_ ?_ ?_
          · rfl
          · rfl
          with_reducible apply Exists.intro
          with_reducible refine ⟨fun W hk _ => ?_, ?_⟩
          · unfold Oper.same
            go_simp
            first | rfl | exact ⟨rfl, rfl⟩
          with_reducible apply Exists.intro
          with_reducible refine ⟨?_, ?_⟩
          · go_simp
            rfl
          with_reducible refine soup_q ?_ ?_ ?_
          · rfl
          · rfl
          with_reducible apply Exists.intro
          with_reducible refine ⟨fun W hk _ => ?_, ?_⟩
          · have c0 := (HE.out.keep hk (by simp)).facts.1
            unfold Oper.same
            go_simp
            first | rfl | exact ⟨rfl, rfl⟩
          with_reducible apply Exists.intro
          with_reducible refine ⟨?_, ?_⟩
          · go_simp
            rfl
          refine soup_nil (fun W hk hS => ?_)
          have hlk := lookSt (HC.out.kept hk).map x1
          rw [HST.out] at hlk
          simp only at hlk
          have hfd := field0
          have HK := Lib.hid (HK.out.trans hk)
          have HC := Lib.hid (HC.out.kept hk)
          have he2 := HE.out.keep hk (by simp)
          have hm2 := HM2.out.keep hk (by simp)
          obtain ⟨e0, e1, e2, e3, e4⟩ := he2.facts
          have d0 := (hm2.cell 0).trans H0.out
          have d6 := (hm2.cell 6).trans H6.out
          clear hk hS he2 hm2
          go_wp2_with (fail)
          all_goals first | (go_ret; rw [HRES.out]; exact ⟨rfl, CoN.same HC.out HK.out⟩) | rfl
    · have hg : ((x2 : Int) == pt) = false := by simpa using hpt
      have hres : coHandle c fr k mv pt code = (false, c) := by unfold coHandle; rw [HF.out]; simp [hpt]
      have HRES := Lib.hid hres
      clear hres
      go_enter Tryz.func11, Tryz.ntmps11
      go_wp2_with (fail)
      refine (none_any HC.out).mono ?_
      rintro e w0 ⟨rfl, hw0⟩
      rw [hw0]
      clear hw0
      go_wp2_with (fail)
      refine wp_region_soup 12 [] (spOf [(6, Spec.is (.tuple #[.agg #[.int .i64 x1, .int .i64 x2, .int .i64 x3, .int .i64 x4], .bool true])), (10, Spec.cellN w1.heap.size 78 4), (11, Spec.wrN w1.heap.size 78 4)]) (by kernel_rfl) (by kernel_rfl) (spOk_call_new (by decide) (by decide) (by decide) (Spec.is_ok _) (fun _ _ _ _ _ _ _ _ => trivial)) (pre_call_new (Spec.is_ok _)) ?_
      simp only [List.take_succ_cons, List.take_zero, List.drop_succ_cons, List.drop_zero]
      iterate 3
        with_reducible refine soup_q ?_ ?_ ?_
        · rfl
        · rfl
        with_reducible apply Exists.intro
        with_reducible refine ⟨fun W hk _ => ?_, ?_⟩
        · unfold Oper.same
          go_simp
          first | rfl | exact ⟨rfl, rfl⟩
        with_reducible apply Exists.intro
        with_reducible refine ⟨?_, ?_⟩
        · go_simp
          rfl
      with_reducible refine soup_q ?_ ?_ ?_
      · rfl
      · rfl
      with_reducible apply Exists.intro
      with_reducible refine ⟨fun W hk _ => ?_, ?_⟩
      · have c0 := (HC.out.kept hk).facts.2.2.2.1
        unfold Oper.same
        go_simp
        first | rfl | exact ⟨rfl, rfl⟩
      with_reducible apply Exists.intro
      with_reducible refine ⟨?_, ?_⟩
      · go_simp
        rfl
      with_reducible refine soup_q ?_ ?_ ?_
      · rfl
      · rfl
      with_reducible apply Exists.intro
      with_reducible refine ⟨fun W hk _ => ?_, ?_⟩
      · unfold Oper.same
        go_simp
        first | rfl | exact ⟨rfl, rfl⟩
      with_reducible apply Exists.intro
      with_reducible refine ⟨?_, ?_⟩
      · go_simp
        rfl
      with_reducible refine soup_q ?_ ?_ ?_
      · rfl
      · rfl
      with_reducible apply Exists.intro
      with_reducible refine ⟨fun W hk _ => ?_, ?_⟩
      · have c0 : W.cell? ⟨w.heap.size, 1, none⟩ = some (.int .i64 mv) := ((HM.out.keep hk (by simp)).cell 1).trans H1.out
        unfold Oper.same
        go_simp
        first | rfl | exact ⟨rfl, rfl⟩
      with_reducible apply Exists.intro
      with_reducible refine ⟨?_, ?_⟩
      · go_simp
        rfl
      refine soup_s rfl rfl rfl (fun W hk _ _ => ?_) ?_
      · unfold Oper.does
        go_simp
        refine (HBY.out W hk).mono ?_
        rintro e w' ⟨rfl, hB⟩
        have hk' := Keep.of_below hB []
        exact ⟨_, rfl, hk', hk.trans hk', rfl, trivial⟩
      intro v hv
      obtain rfl : v = _ := hv
      with_reducible apply Exists.intro
      with_reducible refine ⟨?_, ?_⟩
      · go_simp
        rfl
      iterate 3
        with_reducible refine soup_q ?_ ?_ ?_
        · rfl
        · rfl
        with_reducible apply Exists.intro
        with_reducible refine ⟨fun W hk _ => ?_, ?_⟩
        · unfold Oper.same
          go_simp
          first | rfl | exact ⟨rfl, rfl⟩
        with_reducible apply Exists.intro
        with_reducible refine ⟨?_, ?_⟩
        · go_simp
          rfl
      refine soup_s rfl rfl rfl (fun W hk _ _ => ?_) ?_
      · unfold Oper.does
        go_simp
        exact ⟨(Keep.refl _ _).alloc _, hk.alloc _, ⟨_, rfl, hk.size⟩, _, _, rfl, hk.size, rfl, World.alloc_heap_new W _⟩
      rintro v ⟨g, rfl, hg⟩
      with_reducible apply Exists.intro
      with_reducible refine ⟨?_, ?_⟩
      · go_simp
        rfl
      refine soup_s rfl rfl rfl (fun W hk _ hd => ?_) ?_
      · obtain ⟨g', cs0, e1, e2, e3, e4⟩ := hd 10 (Dep.of 3 (by kernel_rfl))
        obtain rfl : g = g' := by simpa using e1
        have hst := run_storeVar_row (P := Tryz.prog) W g 78 78 cs0 #[.int .i64 x1, .int .i64 x2, .int .i64 x3, .int .i64 x4] e4 (by kernel_rfl) e3 (by simp [Value.oneCell'])
        refine does_store _ (.tmp 7) (.tmp 20) rfl rfl rfl hst ⟨⟨g, cs0, _, e2, e4, rfl, rfl⟩, hk.setRow _ _ (.inr e2), rfl, fun g' cs' e => ?_⟩
        have e5 : [Value.pointer (some ⟨g, 0, none⟩), Value.agg #[.int .i64 x1, .int .i64 x2, .int .i64 x3, .int .i64 x4]] = [Value.pointer (some ⟨g', 0, none⟩), Value.agg cs'] := e
        simp only [List.cons.injEq, Value.pointer.injEq, Option.some.injEq, Addr.mk.injEq, Value.agg.injEq, and_true] at e5
        obtain ⟨rfl, rfl⟩ := e5
        exact setRow_heap W g _ _ _ _ e4
      rintro v rfl
      with_reducible apply Exists.intro
      with_reducible refine ⟨?_, ?_⟩
      · go_simp
        rfl
      refine soup_nil (fun W hk hS => ?_)
      have ht := hS 11 g _ rfl
      have he2 : EnAt W g ⟨x1, x2, x3, x4⟩ := ht
      have hm2 := HM.out.keep hk (by simp)
      have HK := Lib.hid (HK1.out.trans hk)
      have HC := Lib.hid (HC.out.kept hk)
      obtain ⟨c0, c1, c2, c3, c4, c5, c6, c7⟩ := HC.out.facts
      obtain ⟨e0, e1, e2, e3, e4⟩ := he2.facts
      have d0 := (hm2.cell 0).trans H0.out
      have d2 := (hm2.cell 2).trans H2.out
      have d6 := (hm2.cell 6).trans H6.out
      have HE := Lib.hid he2
      have HM2 := Lib.hid hm2
      clear hk hS ht he2 hm2
      go_wp2_with (fail)
      go_ret
      rw [HRES.out]
      exact ⟨rfl, CoN.same HC.out HK.out⟩
end Go.Proofs.YteejdfpfdnkiiaaGreat
