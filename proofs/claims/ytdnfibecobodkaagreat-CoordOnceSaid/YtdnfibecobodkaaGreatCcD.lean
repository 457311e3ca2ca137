/- The coordinator: Abort. -/
import Derived.Test.YtdnfibecobodkaaGreatCcC
namespace Go.Proofs.YtdnfibecobodkaaGreat
open Go.RowKit Go.Lib
open Go.ChangeMaps (setBlock)
set_option linter.unusedSimpArgs false
set_option linter.unusedVariables false
/-- A move in a block. -/
def EnAt (W : World) (b : Nat) (x : En) : Prop := W.heap[b]? = some (.cells #[.int .i64 x.mv, .int .i64 x.part, .int .i64 x.fr, .int .i64 x.to] 85 (0, 0))
theorem EnAt.keep {X : List Nat} {W W' : World} {b : Nat} {x : En} (h : EnAt W b x) (hk : Keep X W W') (hx : b ∉ X) : EnAt W' b x := (hk.block b (lt_of_heap h) hx).trans h
theorem EnAt.facts {W : World} {b : Nat} {x : En} (h : EnAt W b x) : W.cell? ⟨b, 0, none⟩ = some (.int .i64 x.mv) ∧ W.cell? ⟨b, 1, none⟩ = some (.int .i64 x.part) ∧ W.cell? ⟨b, 2, none⟩ = some (.int .i64 x.fr) ∧ W.cell? ⟨b, 3, none⟩ = some (.int .i64 x.to) ∧ (∀ o, W.frozen? ⟨b, o, none⟩ = false) := by
  unfold EnAt at h
  refine ⟨?_, ?_, ?_, ?_, fun o => ?_⟩
  all_goals first | (unfold World.cell?; rw [h]; rfl) | (unfold World.frozen?; rw [h]; simp)
theorem field0 (a b : Value) (W : World) : (Instr.field 83 (.agg #[a, b]) 0).run Tryz.prog W = .ok a W := by kernel_rfl
/-- What Abort comes to. -/
def coAbort (c : Cd) (part : Int) : Int × Cd :=
  if part < 0 ∨ (c.own.length : Int) ≤ part then (21, c)
  else if (look part c.m).isSome = false then (4, c)
  else if (atOf ((look part c.m).getD En.zero).mv c.at_).st = 1 then (0, { c with at_ := put ((look part c.m).getD En.zero).mv ⟨3, 0⟩ c.at_ })
  else (11, c)
set_option maxRecDepth 100000 in
set_option maxHeartbeats 4000000 in
theorem cabort_any {w : World} {p : Nat} {oa : Option Addr} {oc bp : Nat} {om : Option Nat} {ab : Nat} {c : Cd} (h : CoAt w p oa oc bp om ab c) (hn2 : (c.at_.map (·.1)).Nodup) (part : Int) : Calls Tryz.prog 11 #[.pointer (some ⟨p, 0, none⟩), .int .i64 part] w fun e w' => e = .returned (.int .i64 (coAbort c part).1) ∧ CoAt w' p oa oc bp om ab (coAbort c part).2 ∧ Keep (cfoot p oa oc c.own.length bp om ab) w w' := by
  have HC := Lib.hid h
  have hpl := lt_of_heap h.blk
  have hof := of_any h.book part
  obtain ⟨x, hx⟩ : ∃ x, (look part c.m).getD En.zero = x := ⟨_, rfl⟩
  obtain ⟨b, hb⟩ : ∃ b, (look part c.m).isSome = b := ⟨_, rfl⟩
  have hco : coAbort c part = if part < 0 ∨ (c.own.length : Int) ≤ part then (21, c) else if b = false then (4, c) else if (atOf x.mv c.at_).st = 1 then (0, { c with at_ := put x.mv ⟨3, 0⟩ c.at_ }) else (11, c) := by unfold coAbort; rw [hx, hb]
  rw [hx, hb] at hof
  obtain ⟨x1, x2, x3, x4⟩ := x
  unfold En.val at hof
  simp only at hof hco
  have HOF := Lib.hid hof
  have HCO := Lib.hid hco
  clear h hof hx hb hco
  by_cases hp : part < 0 ∨ (c.own.length : Int) ≤ part
  · have hres : coAbort c part = (21, c) := by rw [HCO.out, if_pos hp]
    have HRES := Lib.hid hres
    clear hres
    by_cases hp0 : part < 0
    · clear hp
      have hp2 : part < 1000 := by omega
      go_enter Tryz.func11, Tryz.ntmps11
      go_wp2_with (fail)
      refine (none_any HC.out).mono ?_
      rintro e w0 ⟨rfl, hw0⟩
      rw [hw0]
      clear hw0
      obtain ⟨c0, c1, c2, c3, c4, c5, c6, c7⟩ := HC.out.facts
      go_wp2_with (fail)
      refine HOF.out.mono ?_
      rintro e w1 ⟨rfl, hB⟩
      have hk1 : Keep [] w w1 := Keep.of_below hB []
      clear c0 c1 c2 c3 c4 c5 c6 c7
      obtain ⟨w2, hw2⟩ : ∃ u, w1.alloc (.cells #[.int .i64 x1, .int .i64 x2, .int .i64 x3, .int .i64 x4] 85) = u := ⟨_, rfl⟩
      have hk2 : Keep [] w1 w2 := by rw [← hw2]; exact (Keep.refl _ _).alloc _
      have he : EnAt w2 w1.heap.size ⟨x1, x2, x3, x4⟩ := by rw [← hw2]; exact World.alloc_heap_new w1 _
      have hc2 := HC.out.kept (hk1.trans hk2)
      obtain ⟨c0, c1, c2, c3, c4, c5, c6, c7⟩ := hc2.facts
      obtain ⟨e0, e1, e2, e3, e4⟩ := he.facts
      have HE := Lib.hid he
      have HC2 := Lib.hid hc2
      have HK2 := Lib.hid (hk1.trans hk2)
      have hpl2 := lt_of_heap hc2.blk
      have hel := lt_of_heap he
      clear he hc2 hk1 hk2 hB
      go_wp2_with (fail)
      go_ret
      rw [HRES.out]
      exact ⟨rfl, HC2.out, HK2.out.mono (by simp)⟩
    · have hp2 : ¬ part < (c.own.length : Int) := by omega
      clear hp
      go_enter Tryz.func11, Tryz.ntmps11
      go_wp2_with (fail)
      refine (none_any HC.out).mono ?_
      rintro e w0 ⟨rfl, hw0⟩
      rw [hw0]
      clear hw0
      obtain ⟨c0, c1, c2, c3, c4, c5, c6, c7⟩ := HC.out.facts
      go_wp2_with (fail)
      refine HOF.out.mono ?_
      rintro e w1 ⟨rfl, hB⟩
      have hk1 : Keep [] w w1 := Keep.of_below hB []
      clear c0 c1 c2 c3 c4 c5 c6 c7
      obtain ⟨w2, hw2⟩ : ∃ u, w1.alloc (.cells #[.int .i64 x1, .int .i64 x2, .int .i64 x3, .int .i64 x4] 85) = u := ⟨_, rfl⟩
      have hk2 : Keep [] w1 w2 := by rw [← hw2]; exact (Keep.refl _ _).alloc _
      have he : EnAt w2 w1.heap.size ⟨x1, x2, x3, x4⟩ := by rw [← hw2]; exact World.alloc_heap_new w1 _
      have hc2 := HC.out.kept (hk1.trans hk2)
      obtain ⟨c0, c1, c2, c3, c4, c5, c6, c7⟩ := hc2.facts
      obtain ⟨e0, e1, e2, e3, e4⟩ := he.facts
      have HE := Lib.hid he
      have HC2 := Lib.hid hc2
      have HK2 := Lib.hid (hk1.trans hk2)
      have hpl2 := lt_of_heap hc2.blk
      have hel := lt_of_heap he
      clear he hc2 hk1 hk2 hB
      go_wp2_with (fail)
      go_ret
      rw [HRES.out]
      exact ⟨rfl, HC2.out, HK2.out.mono (by simp)⟩
  · have hp1 : ¬ part < 0 := by omega
    have hp2 : part < (c.own.length : Int) := by omega
    cases b with
    | false =>
      have hres : coAbort c part = (4, c) := by rw [HCO.out, if_neg hp, if_pos rfl]
      have HRES := Lib.hid hres
      clear hp hres
      go_enter Tryz.func11, Tryz.ntmps11
      go_wp2_with (fail)
      refine (none_any HC.out).mono ?_
      rintro e w0 ⟨rfl, hw0⟩
      rw [hw0]
      clear hw0
      obtain ⟨c0, c1, c2, c3, c4, c5, c6, c7⟩ := HC.out.facts
      go_wp2_with (fail)
      refine HOF.out.mono ?_
      rintro e w1 ⟨rfl, hB⟩
      have hk1 : Keep [] w w1 := Keep.of_below hB []
      clear c0 c1 c2 c3 c4 c5 c6 c7
      obtain ⟨w2, hw2⟩ : ∃ u, w1.alloc (.cells #[.int .i64 x1, .int .i64 x2, .int .i64 x3, .int .i64 x4] 85) = u := ⟨_, rfl⟩
      have hk2 : Keep [] w1 w2 := by rw [← hw2]; exact (Keep.refl _ _).alloc _
      have he : EnAt w2 w1.heap.size ⟨x1, x2, x3, x4⟩ := by rw [← hw2]; exact World.alloc_heap_new w1 _
      have hc2 := HC.out.kept (hk1.trans hk2)
      obtain ⟨c0, c1, c2, c3, c4, c5, c6, c7⟩ := hc2.facts
      obtain ⟨e0, e1, e2, e3, e4⟩ := he.facts
      have HE := Lib.hid he
      have HC2 := Lib.hid hc2
      have HK2 := Lib.hid (hk1.trans hk2)
      have hpl2 := lt_of_heap hc2.blk
      have hel := lt_of_heap he
      clear he hc2 hk1 hk2 hB
      go_wp2_with (fail)
      go_ret
      rw [HRES.out]
      exact ⟨rfl, HC2.out, HK2.out.mono (by simp)⟩
    | true =>
      obtain ⟨⟨st, dn⟩, hst⟩ : ∃ s, atOf x1 c.at_ = s := ⟨_, rfl⟩
      by_cases h1 : st = 1
      · have hres : coAbort c part = (0, { c with at_ := put x1 ⟨3, 0⟩ c.at_ }) := by rw [HCO.out, if_neg hp, if_neg (by simp), hst, if_pos h1]
        have HRES := Lib.hid hres
        subst h1
        clear hp hres
        go_enter Tryz.func11, Tryz.ntmps11
        go_wp2_with (fail)
        refine (none_any HC.out).mono ?_
        rintro e w0 ⟨rfl, hw0⟩
        rw [hw0]
        clear hw0
        obtain ⟨c0, c1, c2, c3, c4, c5, c6, c7⟩ := HC.out.facts
        go_wp2_with (fail)
        refine HOF.out.mono ?_
        rintro e w1 ⟨rfl, hB⟩
        have hk1 : Keep [] w w1 := Keep.of_below hB []
        clear c0 c1 c2 c3 c4 c5 c6 c7
        obtain ⟨w2, hw2⟩ : ∃ u, w1.alloc (.cells #[.int .i64 x1, .int .i64 x2, .int .i64 x3, .int .i64 x4] 85) = u := ⟨_, rfl⟩
        have hk2 : Keep [] w1 w2 := by rw [← hw2]; exact (Keep.refl _ _).alloc _
        have he : EnAt w2 w1.heap.size ⟨x1, x2, x3, x4⟩ := by rw [← hw2]; exact World.alloc_heap_new w1 _
        have hc2 := HC.out.kept (hk1.trans hk2)
        obtain ⟨c0, c1, c2, c3, c4, c5, c6, c7⟩ := hc2.facts
        obtain ⟨e0, e1, e2, e3, e4⟩ := he.facts
        have HE := Lib.hid he
        have HC2 := Lib.hid hc2
        have HK2 := Lib.hid (hk1.trans hk2)
        have hpl2 := lt_of_heap hc2.blk
        have hel := lt_of_heap he
        clear he hc2 hk1 hk2 hB
        go_wp2_with (fail)
        refine wp_region_soup 6 [] (fun _ => none) (by kernel_rfl) (by kernel_rfl) (spOk_of (l := []) (by simp)) (pre_of (l := []) (by simp)) ?_
        simp only [List.take_succ_cons, List.take_zero, List.drop_succ_cons, List.drop_zero]
        with_reducible refine soup_q ?_ ?_ ?_
        · rfl
        · rfl
        with_reducible apply Exists.intro
        with_reducible refine ⟨fun W hk _ => ?_, ?_⟩
        · unfold Oper.same
          go_simp
          first | rfl | exact ⟨rfl, rfl⟩
        with_reducible apply Exists.intro
        with_reducible refine ⟨?_, ?_⟩
        · go_simp
          rfl
        with_reducible refine soup_q ?_ ?_ ?_
        · rfl
        · rfl
        with_reducible apply Exists.intro
        with_reducible refine ⟨fun W hk _ => ?_, ?_⟩
        · unfold Oper.same
          go_simp
          first | rfl | exact ⟨rfl, rfl⟩
        with_reducible apply Exists.intro
        with_reducible refine ⟨?_, ?_⟩
        · go_simp
          rfl
        with_reducible refine soup_q ?_ ?_ ?_
        · rfl
        · rfl
        with_reducible apply Exists.intro
        with_reducible refine ⟨fun W hk _ => ?_, ?_⟩
        · unfold Oper.same
          go_simp
          first | rfl | exact ⟨rfl, rfl⟩
        with_reducible apply Exists.intro
        with_reducible refine ⟨?_, ?_⟩
        · go_simp
          rfl
        with_reducible refine soup_q ?_ ?_ ?_
        · rfl
        · rfl
        with_reducible apply Exists.intro
        with_reducible refine ⟨fun W hk _ => ?_, ?_⟩
        · have c0 := (HC2.out.kept hk).facts.2.2.2.2.1
          unfold Oper.same
          go_simp
          first | rfl | exact ⟨rfl, rfl⟩
        with_reducible apply Exists.intro
        with_reducible refine ⟨?_, ?_⟩
        · go_simp
          rfl
        with_reducible refine soup_q ?_ ?_ ?_
        · rfl
        · rfl
        with_reducible apply Exists.intro
        with_reducible refine ⟨fun W hk _ => ?_, ?_⟩
        · unfold Oper.same
          go_simp
          first | rfl | exact ⟨rfl, rfl⟩
        with_reducible apply Exists.intro
        with_reducible refine ⟨?_, ?_⟩
        · go_simp
          rfl
        with_reducible refine soup_q ?_ ?_ ?_
        · rfl
        · rfl
        with_reducible apply Exists.intro
        with_reducible refine ⟨fun W hk _ => ?_, ?_⟩
        · have c0 := (HE.out.keep hk (by simp)).facts.1
          unfold Oper.same
          go_simp
          first | rfl | exact ⟨rfl, rfl⟩
        with_reducible apply Exists.intro
        with_reducible refine ⟨?_, ?_⟩
        · go_simp
          rfl
        refine soup_nil (fun W hk hS => ?_)
        have hm3 := HC2.out.map.keep hk (by simp)
        have hlk := lookSt hm3 x1
        have HK3 := Lib.hid (HK2.out.trans hk)
        have HC3 := Lib.hid (HC2.out.kept hk)
        have HE := Lib.hid (HE.out.keep hk (by simp))
        rw [hst] at hlk
        simp only at hlk
        have hfd := field0
        clear hk hS hm3
        go_wp2_with (fail)
        clear hlk
        have hpl3 := lt_of_heap HC3.out.blk
        have hel3 := lt_of_heap HE.out
        refine wp_region_soup 7 [] (fun _ => none) (by kernel_rfl) (by kernel_rfl) (spOk_of (l := []) (by simp)) (pre_of (l := []) (by simp)) ?_
        simp only [List.take_succ_cons, List.take_zero, List.drop_succ_cons, List.drop_zero]
        with_reducible refine soup_q ?_ ?_ ?_
        · rfl
        · rfl
        with_reducible apply Exists.intro
        with_reducible refine ⟨fun W hk _ => ?_, ?_⟩
        · unfold Oper.same
          go_simp
          first | rfl | exact ⟨rfl, rfl⟩
        with_reducible apply Exists.intro
        with_reducible refine ⟨?_, ?_⟩
        · go_simp
          rfl
        with_reducible refine soup_q ?_ ?_ ?_
        · rfl
        · rfl
        with_reducible apply Exists.intro
        with_reducible refine ⟨fun W hk _ => ?_, ?_⟩
        · unfold Oper.same
          go_simp
          first | rfl | exact ⟨rfl, rfl⟩
        with_reducible apply Exists.intro
        with_reducible refine ⟨?_, ?_⟩
        · go_simp
          rfl
        with_reducible refine soup_q ?_ ?_ ?_
        · rfl
        · rfl
        with_reducible apply Exists.intro
        with_reducible refine ⟨fun W hk _ => ?_, ?_⟩
        · unfold Oper.same
          go_simp
          first | rfl | exact ⟨rfl, rfl⟩
        with_reducible apply Exists.intro
        with_reducible refine ⟨?_, ?_⟩
        · go_simp
          rfl
        with_reducible refine soup_q ?_ ?_ ?_
        · rfl
        · rfl
        with_reducible apply Exists.intro
        with_reducible refine ⟨fun W hk _ => ?_, ?_⟩
        · have c0 := (HC3.out.kept hk).facts.2.2.2.2.1
          unfold Oper.same
          go_simp
          first | rfl | exact ⟨rfl, rfl⟩
        with_reducible apply Exists.intro
        with_reducible refine ⟨?_, ?_⟩
        · go_simp
          rfl
        with_reducible refine soup_q ?_ ?_ ?_
        · rfl
        · rfl
        with_reducible apply Exists.intro
        with_reducible refine ⟨fun W hk _ => ?_, ?_⟩
        · unfold Oper.same
          go_simp
          first | rfl | exact ⟨rfl, rfl⟩
        with_reducible apply Exists.intro
        with_reducible refine ⟨?_, ?_⟩
        · go_simp
          rfl
        with_reducible refine soup_q ?_ ?_ ?_
        · rfl
        · rfl
        with_reducible apply Exists.intro
        with_reducible refine ⟨fun W hk _ => ?_, ?_⟩
        · have c0 := (HE.out.keep hk (by simp)).facts.1
          unfold Oper.same
          go_simp
          first | rfl | exact ⟨rfl, rfl⟩
        with_reducible apply Exists.intro
        with_reducible refine ⟨?_, ?_⟩
        · go_simp
          rfl
        with_reducible refine soup_q ?_ ?_ ?_
        · rfl
        · rfl
        with_reducible apply Exists.intro
        with_reducible refine ⟨fun W hk _ => ?_, ?_⟩
        · unfold Oper.same
          go_simp
          first | rfl | exact ⟨rfl, rfl⟩
        with_reducible apply Exists.intro
        with_reducible refine ⟨?_, ?_⟩
        · go_simp
          rfl
        refine soup_nil (fun W hk hS => ?_)
        obtain ⟨o, hup, hmp2⟩ := upSt (HC3.out.map.keep hk (by simp)) hn2 x1 3 0 0 rfl
        have HMP := Lib.hid hmp2
        have HC4 := Lib.hid (HC3.out.kept hk)
        have HK4 := Lib.hid (HK3.out.trans hk)
        clear hk hS hmp2
        go_wp2_with (fail)
        go_ret
        rw [HRES.out]
        exact ⟨rfl, HC4.out.setAt ((Keep.refl _ _).setBlock _ _ (.inl (by simp))) HMP.out, (HK4.out.mono (by simp)).setBlock _ _ (.inl (by simp [cfoot]))⟩
      · have hres : coAbort c part = (11, c) := by rw [HCO.out, if_neg hp, if_neg (by simp), hst, if_neg h1]
        have HRES := Lib.hid hres
        have hne : ((st : Int) == 1) = false := by simpa using h1
        clear hp hres h1
        go_enter Tryz.func11, Tryz.ntmps11
        go_wp2_with (fail)
        refine (none_any HC.out).mono ?_
        rintro e w0 ⟨rfl, hw0⟩
        rw [hw0]
        clear hw0
        obtain ⟨c0, c1, c2, c3, c4, c5, c6, c7⟩ := HC.out.facts
        go_wp2_with (fail)
        refine HOF.out.mono ?_
        rintro e w1 ⟨rfl, hB⟩
        have hk1 : Keep [] w w1 := Keep.of_below hB []
        clear c0 c1 c2 c3 c4 c5 c6 c7
        obtain ⟨w2, hw2⟩ : ∃ u, w1.alloc (.cells #[.int .i64 x1, .int .i64 x2, .int .i64 x3, .int .i64 x4] 85) = u := ⟨_, rfl⟩
        have hk2 : Keep [] w1 w2 := by rw [← hw2]; exact (Keep.refl _ _).alloc _
        have he : EnAt w2 w1.heap.size ⟨x1, x2, x3, x4⟩ := by rw [← hw2]; exact World.alloc_heap_new w1 _
        have hc2 := HC.out.kept (hk1.trans hk2)
        obtain ⟨c0, c1, c2, c3, c4, c5, c6, c7⟩ := hc2.facts
        obtain ⟨e0, e1, e2, e3, e4⟩ := he.facts
        have HE := Lib.hid he
        have HC2 := Lib.hid hc2
        have HK2 := Lib.hid (hk1.trans hk2)
        have hpl2 := lt_of_heap hc2.blk
        have hel := lt_of_heap he
        clear he hc2 hk1 hk2 hB
        go_wp2_with (fail)
        refine wp_region_soup 6 [] (fun _ => none) (by kernel_rfl) (by kernel_rfl) (spOk_of (l := []) (by simp)) (pre_of (l := []) (by simp)) ?_
        simp only [List.take_succ_cons, List.take_zero, List.drop_succ_cons, List.drop_zero]
        with_reducible refine soup_q ?_ ?_ ?_
        · rfl
        · rfl
        with_reducible apply Exists.intro
        with_reducible refine ⟨fun W hk _ => ?_, ?_⟩
        · unfold Oper.same
          go_simp
          first | rfl | exact ⟨rfl, rfl⟩
        with_reducible apply Exists.intro
        with_reducible refine ⟨?_, ?_⟩
        · go_simp
          rfl
        with_reducible refine soup_q ?_ ?_ ?_
        · rfl
        · rfl
        with_reducible apply Exists.intro
        with_reducible refine ⟨fun W hk _ => ?_, ?_⟩
        · unfold Oper.same
          go_simp
          first | rfl | exact ⟨rfl, rfl⟩
        with_reducible apply Exists.intro
        with_reducible refine ⟨?_, ?_⟩
        · go_simp
          rfl
        with_reducible refine soup_q ?_ ?_ ?_
        · rfl
        · rfl
        with_reducible apply Exists.intro
        with_reducible refine ⟨fun W hk _ => ?_, ?_⟩
        · unfold Oper.same
          go_simp
          first | rfl | exact ⟨rfl, rfl⟩
        with_reducible apply Exists.intro
        with_reducible refine ⟨?_, ?_⟩
        · go_simp
          rfl
        with_reducible refine soup_q ?_ ?_ ?_
        · rfl
        · rfl
        with_reducible apply Exists.intro
        with_reducible refine ⟨fun W hk _ => ?_, ?_⟩
        · have c0 := (HC2.out.kept hk).facts.2.2.2.2.1
          unfold Oper.same
          go_simp
          first | rfl | exact ⟨rfl, rfl⟩
        with_reducible apply Exists.intro
        with_reducible refine ⟨?_, ?_⟩
        · go_simp
          rfl
        with_reducible refine soup_q ?_ ?_ ?_
        · rfl
        · rfl
        with_reducible apply Exists.intro
        with_reducible refine ⟨fun W hk _ => ?_, ?_⟩
        · unfold Oper.same
          go_simp
          first | rfl | exact ⟨rfl, rfl⟩
        with_reducible apply Exists.intro
        with_reducible refine ⟨?_, ?_⟩
        · go_simp
          rfl
        with_reducible refine soup_q ?_ ?_ ?_
        · rfl
        · rfl
        with_reducible apply Exists.intro
        with_reducible refine ⟨fun W hk _ => ?_, ?_⟩
        · have c0 := (HE.out.keep hk (by simp)).facts.1
          unfold Oper.same
          go_simp
          first | rfl | exact ⟨rfl, rfl⟩
        with_reducible apply Exists.intro
        with_reducible refine ⟨?_, ?_⟩
        · go_simp
          rfl
        refine soup_nil (fun W hk hS => ?_)
        have hm3 := HC2.out.map.keep hk (by simp)
        have hlk := lookSt hm3 x1
        have HK3 := Lib.hid (HK2.out.trans hk)
        have HC3 := Lib.hid (HC2.out.kept hk)
        have HE := Lib.hid (HE.out.keep hk (by simp))
        rw [hst] at hlk
        simp only at hlk
        have hfd := field0
        clear hk hS hm3
        go_wp2_with (fail)
        go_ret
        rw [HRES.out]
        exact ⟨rfl, HC3.out, HK3.out.mono (by simp)⟩
end Go.Proofs.YtdnfibecobodkaaGreat
