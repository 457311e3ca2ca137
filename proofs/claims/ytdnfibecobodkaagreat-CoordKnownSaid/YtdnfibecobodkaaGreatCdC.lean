/- CoordKnown. -/
import Derived.Test.YtdnfibecobodkaaGreatCdB
namespace Go.Proofs.YtdnfibecobodkaaGreat
open Go.RowKit Go.Lib
set_option linter.unusedSimpArgs false
set_option linter.unusedVariables false
theorem prow_one {base : Nat} {W : World} {v : Value} {l : List Pk} (h : PRow base W v l) (hl : l ≠ []) : ∃ g c, v = .slice (some ⟨g, 0, none⟩) l.length c ∧ base ≤ g ∧ g < W.heap.size ∧ W.cell? ⟨g, 1, none⟩ = (l[0]?.map (·.to)).map (.int .i64 ·) := by
  rcases h.2 with ⟨hv, h0⟩ | ⟨g, cap, cur, hv, hb, hg, hn, hc, hcs, htk⟩
  · exact absurd (List.length_eq_zero_iff.1 h0) hl
  · refine ⟨g, cap, hv, hb, lt_of_heap hg, ?_⟩
    unfold World.cell?
    rw [hg]
    cases l with
    | nil => exact absurd rfl hl
    | cons x r =>
      have h1 : (cur.toList.take ((x :: r).length * 3))[1]? = ((x :: r).flatMap Pk.cells)[1]? := by rw [htk]
      rw [List.getElem?_take_of_lt (by simp; omega), Array.getElem?_toList] at h1
      simpa [Pk.cells] using h1
set_option maxRecDepth 100000 in
set_option maxHeartbeats 4000000 in
theorem rsame_true {w : World} (ep nd : Int) {a b : Option Addr} (c d : Nat) {own : List Int} (ha : IntsAt w a own) (hb : IntsAt w b own) (hl : own.length ≤ 1000) : Calls Tryz.prog 16 #[.agg #[.int .i64 ep, .int .i64 nd, .slice a own.length c], .agg #[.int .i64 ep, .int .i64 nd, .slice b own.length d]] w fun e w' => e = .returned (.bool true) ∧ Keep [] w w' := by
  obtain ⟨w1, hw1⟩ : ∃ u, w.alloc (.cells #[.int .i64 ep, .int .i64 nd, .slice a own.length c] 28) = u := ⟨_, rfl⟩
  obtain ⟨w2, hw2⟩ : ∃ u, w1.alloc (.cells #[.int .i64 ep, .int .i64 nd, .slice b own.length d] 28) = u := ⟨_, rfl⟩
  have s1 : w1.heap.size = w.heap.size + 1 := by rw [← hw1, World.size_alloc]
  have k1 : Keep [] w w1 := by rw [← hw1]; exact (Keep.refl _ _).alloc _
  have k2 : Keep [] w1 w2 := by rw [← hw2]; exact (Keep.refl _ _).alloc _
  have b1 : w2.heap[w.heap.size]? = some (.cells #[.int .i64 ep, .int .i64 nd, .slice a own.length c] 28 (0, 0)) := (k2.block _ (by rw [s1]; omega) (by simp)).trans (by rw [← hw1]; exact World.alloc_heap_new w _)
  have b2 : w2.heap[w.heap.size + 1]? = some (.cells #[.int .i64 ep, .int .i64 nd, .slice b own.length d] 28 (0, 0)) := by rw [← hw2, ← s1]; exact World.alloc_heap_new w1 _
  obtain ⟨c0, c1, c2, c3⟩ := TbFacts b1
  obtain ⟨d0, d1, d2, d3⟩ := TbFacts b2
  have HK := Lib.hid (k1.trans k2)
  have HA := Lib.hid (ha.keep (k1.trans k2) (by simp))
  have HB := Lib.hid (hb.keep (k1.trans k2) (by simp))
  have H1 := Lib.hid b1
  have H2 := Lib.hid b2
  clear ha hb b1 b2 k1 k2
  go_enter Tryz.func16, Tryz.ntmps16
  go_wp2_with (fail)
  go_loopw [5] (fun i wr => ∃ j : Nat, i = .int .i64 j ∧ j ≤ own.length ∧ Keep [] w2 wr) (fun i _ => own.length - (intOf i).toNat)
  case atStart => exact ⟨0, rfl, Nat.zero_le _, Keep.refl _ _⟩
  case round =>
    obtain ⟨j, rfl, hj, hk0⟩ := hrel
    have HKR := Lib.hid hk0
    have h0j : (0 : Int) ≤ (j : Int) := Int.natCast_nonneg j
    clear c0 c1 c2 c3 d0 d1 d2 d3
    obtain ⟨c0, c1, c2, c3⟩ := TbFacts ((hk0.block _ (lt_of_heap H1.out) (by simp)).trans H1.out)
    have H1 := Lib.hid ((hk0.block _ (lt_of_heap H1.out) (by simp)).trans H1.out)
    have H2 := Lib.hid ((hk0.block _ (lt_of_heap H2.out) (by simp)).trans H2.out)
    by_cases hlt : j < own.length
    · have hjn : (j : Int) < (own.length : Int) := by omega
      have hne : own ≠ [] := by intro e; rw [e] at hlt; simp at hlt
      obtain ⟨ba, oa, rfl, hba, hca⟩ := HA.out hne
      obtain ⟨bb, ob, rfl, hbb, hcb⟩ := HB.out hne
      obtain ⟨x, hxl⟩ : ∃ x, own[j]? = some x := ⟨own[j], List.getElem?_eq_getElem hlt⟩
      have hx := hca j hlt
      have hy := hcb j hlt
      rw [hxl, Option.getD_some] at hx hy
      have HCA := Lib.hid ((hk0.cell _ hba (by simp)).trans hx)
      have HCB := Lib.hid ((hk0.cell _ hbb (by simp)).trans hy)
      have HLA := Lib.hid (Nat.lt_of_lt_of_le hba hk0.size)
      have HLB := Lib.hid (Nat.lt_of_lt_of_le hbb hk0.size)
      clear hca hcb hx hy hxl hk0 hne
      go_wp2_with (fail)
      clear c0 c1 c2 c3
      refine wp_region_soup 10 [] (fun _ => none) (by kernel_rfl) (by kernel_rfl) (spOk_of (l := []) (by simp)) (pre_of (l := []) (by simp)) ?_
      simp only [List.take_succ_cons, List.take_zero, List.drop_succ_cons, List.drop_zero]
      with_reducible refine soup_q ?_ ?_ ?_
      · rfl
      · rfl
      with_reducible apply Exists.intro
      with_reducible refine ⟨fun W hk _ => ?_, ?_⟩
      · unfold Oper.same
        go_simp
        first | rfl | exact ⟨rfl, rfl⟩
      with_reducible apply Exists.intro
      with_reducible refine ⟨?_, ?_⟩
      · go_simp
        rfl
      with_reducible refine soup_q ?_ ?_ ?_
      · rfl
      · rfl
      with_reducible apply Exists.intro
      with_reducible refine ⟨fun W hk _ => ?_, ?_⟩
      · have c0 := (TbFacts ((hk.block _ (lt_of_heap H1.out) (by simp)).trans H1.out)).2.2.1
        unfold Oper.same
        go_simp
        first | rfl | exact ⟨rfl, rfl⟩
      with_reducible apply Exists.intro
      with_reducible refine ⟨?_, ?_⟩
      · go_simp
        rfl
      with_reducible refine soup_q ?_ ?_ ?_
      · rfl
      · rfl
      with_reducible apply Exists.intro
      with_reducible refine ⟨fun W hk _ => ?_, ?_⟩
      · unfold Oper.same
        go_simp
        first | rfl | exact ⟨rfl, rfl⟩
      with_reducible apply Exists.intro
      with_reducible refine ⟨?_, ?_⟩
      · go_simp
        rfl
      with_reducible refine soup_q ?_ ?_ ?_
      · rfl
      · rfl
      with_reducible apply Exists.intro
      with_reducible refine ⟨fun W hk _ => ?_, ?_⟩
      · unfold Oper.same
        go_simp
        first | rfl | exact ⟨rfl, rfl⟩
      with_reducible apply Exists.intro
      with_reducible refine ⟨?_, ?_⟩
      · go_simp
        rfl
      with_reducible refine soup_q ?_ ?_ ?_
      · rfl
      · rfl
      with_reducible apply Exists.intro
      with_reducible refine ⟨fun W hk _ => ?_, ?_⟩
      · have c0 := (hk.cell _ HLA.out (by simp)).trans HCA.out
        unfold Oper.same
        go_simp
        first | rfl | exact ⟨rfl, rfl⟩
      with_reducible apply Exists.intro
      with_reducible refine ⟨?_, ?_⟩
      · go_simp
        rfl
      with_reducible refine soup_q ?_ ?_ ?_
      · rfl
      · rfl
      with_reducible apply Exists.intro
      with_reducible refine ⟨fun W hk _ => ?_, ?_⟩
      · unfold Oper.same
        go_simp
        first | rfl | exact ⟨rfl, rfl⟩
      with_reducible apply Exists.intro
      with_reducible refine ⟨?_, ?_⟩
      · go_simp
        rfl
      with_reducible refine soup_q ?_ ?_ ?_
      · rfl
      · rfl
      with_reducible apply Exists.intro
      with_reducible refine ⟨fun W hk _ => ?_, ?_⟩
      · have c0 := (TbFacts ((hk.block _ (lt_of_heap H2.out) (by simp)).trans H2.out)).2.2.1
        unfold Oper.same
        go_simp
        first | rfl | exact ⟨rfl, rfl⟩
      with_reducible apply Exists.intro
      with_reducible refine ⟨?_, ?_⟩
      · go_simp
        rfl
      with_reducible refine soup_q ?_ ?_ ?_
      · rfl
      · rfl
      with_reducible apply Exists.intro
      with_reducible refine ⟨fun W hk _ => ?_, ?_⟩
      · unfold Oper.same
        go_simp
        first | rfl | exact ⟨rfl, rfl⟩
      with_reducible apply Exists.intro
      with_reducible refine ⟨?_, ?_⟩
      · go_simp
        rfl
      with_reducible refine soup_q ?_ ?_ ?_
      · rfl
      · rfl
      with_reducible apply Exists.intro
      with_reducible refine ⟨fun W hk _ => ?_, ?_⟩
      · unfold Oper.same
        go_simp
        first | rfl | exact ⟨rfl, rfl⟩
      with_reducible apply Exists.intro
      with_reducible refine ⟨?_, ?_⟩
      · go_simp
        rfl
      with_reducible refine soup_q ?_ ?_ ?_
      · rfl
      · rfl
      with_reducible apply Exists.intro
      with_reducible refine ⟨fun W hk _ => ?_, ?_⟩
      · have c0 := (hk.cell _ HLB.out (by simp)).trans HCB.out
        unfold Oper.same
        go_simp
        first | rfl | exact ⟨rfl, rfl⟩
      with_reducible apply Exists.intro
      with_reducible refine ⟨?_, ?_⟩
      · go_simp
        rfl
      refine soup_nil (fun W hk hS => ?_)
      have HKR := Lib.hid (HKR.out.trans hk)
      clear hk hS
      go_wp2_with (fail)
      go_roundw
      case rel => exact ⟨j + 1, by go_num, by omega, HKR.out⟩
      case measure => simp [intOf]; omega
    · obtain rfl : own.length = j := by omega
      clear hk0
      go_wp2_with (fail)
      go_ret
      exact ⟨rfl, HK.out.trans HKR.out⟩
set_option maxRecDepth 100000 in
set_option maxHeartbeats 8000000 in
theorem law_CoordKnown (w : World) : Calls Tryz.prog 3 #[] w fun e w' => e = .returned (.bool true) ∧ Below w.heap.size w w' := by
  go_enter Tryz.func3, Tryz.ntmps3
  go_wp2_with (fail)
  refine (first_any _).mono ?_
  rintro e w1 ⟨gf, rfl, hI, hk⟩
  have HI := Lib.hid hI
  have HB := Lib.hid (hk.below (B := w.heap.size) (Nat.le_refl _) (by simp))
  have HB0 := Lib.hid (show w.heap.size ≤ w1.heap.size from hk.size)
  unfold Tb.val
  simp only [List.length_cons, List.length_nil]
  clear hI hk
  go_wp2_with (fail)
  have hnew := newL (w := w1) ⟨1, 2, some ⟨gf, 0, none⟩, 2, [0, 1]⟩ HI.out (by kernel_rfl)
  unfold Tb.val at hnew
  refine hnew.mono ?_
  rintro e w2 ⟨p, rfl, hc, hk⟩
  have HC : Hid (CoP w1.heap.size [] w2 p k0) := Lib.hid hc
  have HS := Lib.hid hk.size
  have HB := Lib.hid (HB.out.trans (hk.below HB.out.size (by simp)))
  clear hnew hc hk
  have HB1 : Hid (w.heap.size ≤ w1.heap.size) := Lib.hid (by have h := HB0.out; exact h)
  go_wp2_with (fail)
  refine (ordL HC.out HS.out k0_mem (by decide) 0 1).mono ?_
  rw [go_ord]
  rintro e w3 ⟨rfl, hc, hkp⟩
  have HB := Lib.hid (HB.out.trans ((hkp.below HS.out).mono HB1.out))
  have HS := Lib.hid (Nat.le_trans HS.out hkp.size)
  have HC := Lib.hid hc
  clear hc hkp
  go_wp2_with (fail)
  refine (ordL HC.out HS.out k1_mem (by decide) 0 1).mono ?_
  rw [go_ord2]
  rintro e w4 ⟨rfl, hc, hkp⟩
  have HB := Lib.hid (HB.out.trans ((hkp.below HS.out).mono HB1.out))
  have HS := Lib.hid (Nat.le_trans HS.out hkp.size)
  have HC := Lib.hid hc
  clear hc hkp
  go_wp2_with (fail)
  refine (abortL HC.out HS.out k1_mem 1).mono ?_
  rw [go_ab]
  rintro e w5 ⟨rfl, hc, hkp⟩
  have HB := Lib.hid (HB.out.trans ((hkp.below HS.out).mono HB1.out))
  have HS := Lib.hid (Nat.le_trans HS.out hkp.size)
  have HC := Lib.hid hc
  clear hc hkp
  go_wp2_with (fail)
  refine (tickL HC.out k1_fine k1_mem).mono ?_
  rintro e w6 ⟨v, rfl, hr, hk⟩
  obtain ⟨L1, hL1⟩ : ∃ L1, tickF k1 = L1 := ⟨_, rfl⟩
  have g1 := go_t1
  rw [hL1] at hr g1
  obtain ⟨hlen, hto⟩ := g1
  obtain ⟨ga, ca, rfl, hga, hga2, hgc⟩ := prow_one hr (by intro e; rw [e] at hlen; simp at hlen)
  rw [hlen]
  have x0 : w6.cell? ⟨ga, 1, none⟩ = some (.int .i64 0) := by
    have h := hgc
    rw [hto] at h
    simpa using h
  have HX := Lib.hid x0
  have HXL := Lib.hid hga2
  have HC := Lib.hid (HC.out.add hk [ga] (by intro x hx; simp only [List.mem_cons, List.not_mem_nil, or_false] at hx; subst hx; exact ⟨hga, hga2⟩))
  have HB := Lib.hid (HB.out.trans (hk.below (Nat.le_trans HB1.out HS.out) (by simp)))
  have HS := Lib.hid (Nat.le_trans HS.out hk.size)
  clear hr hk hL1 hlen hto hga hga2 hgc x0
  go_wp2_with (fail)
  refine (saysR _ 1 0 1).mono ?_
  rintro e w7 ⟨rfl, hk⟩
  have HC := Lib.hid (HC.out.kept hk)
  have HB := Lib.hid (HB.out.trans (hk.below (Nat.le_trans HB1.out HS.out) (by simp)))
  have HS := Lib.hid (Nat.le_trans HS.out hk.size)
  have HX := Lib.hid ((hk.cell 1 HXL.out (by simp)).trans HX.out)
  have HXL := Lib.hid (Nat.lt_of_lt_of_le HXL.out hk.size)
  clear hk
  go_wp2_with (fail)
  refine (handleL HC.out HS.out k1_mem _ rfl 0 10 1 0 1 rfl rfl rfl rfl).mono ?_
  rw [go_no]
  rintro e w8 ⟨rfl, hc, hkp⟩
  have HB := Lib.hid (HB.out.trans ((hkp.below HS.out).mono HB1.out))
  have HS := Lib.hid (Nat.le_trans HS.out hkp.size)
  have HC := Lib.hid hc
  have HX := Lib.hid ((World.cell?_of_block (hkp.block (k := ga) (by simp) HXL.out)).trans HX.out)
  have HXL := Lib.hid (Nat.lt_of_lt_of_le HXL.out hkp.size)
  clear hc hkp
  go_wp2_with (fail)
  refine (saysR _ 1 0 1).mono ?_
  rintro e w9 ⟨rfl, hk⟩
  have HC := Lib.hid (HC.out.kept hk)
  have HB := Lib.hid (HB.out.trans (hk.below (Nat.le_trans HB1.out HS.out) (by simp)))
  have HS := Lib.hid (Nat.le_trans HS.out hk.size)
  have HX := Lib.hid ((hk.cell 1 HXL.out (by simp)).trans HX.out)
  have HXL := Lib.hid (Nat.lt_of_lt_of_le HXL.out hk.size)
  clear hk
  go_wp2_with (fail)
  refine (handleL HC.out HS.out k1_mem _ rfl 1 10 1 0 1 rfl rfl rfl rfl).mono ?_
  rw [go_rdy]
  rintro e w10 ⟨rfl, hc, hkp⟩
  have HB := Lib.hid (HB.out.trans ((hkp.below HS.out).mono HB1.out))
  have HS := Lib.hid (Nat.le_trans HS.out hkp.size)
  have HC := Lib.hid hc
  have HX := Lib.hid ((World.cell?_of_block (hkp.block (k := ga) (by simp) HXL.out)).trans HX.out)
  have HXL := Lib.hid (Nat.lt_of_lt_of_le HXL.out hkp.size)
  clear hc hkp
  go_wp2_with (fail)
  refine (abortL HC.out HS.out k2_mem 0).mono ?_
  rw [go_ab2]
  rintro e w11 ⟨rfl, hc, hkp⟩
  have HB := Lib.hid (HB.out.trans ((hkp.below HS.out).mono HB1.out))
  have HS := Lib.hid (Nat.le_trans HS.out hkp.size)
  have HC := Lib.hid hc
  have HX := Lib.hid ((World.cell?_of_block (hkp.block (k := ga) (by simp) HXL.out)).trans HX.out)
  have HXL := Lib.hid (Nat.lt_of_lt_of_le HXL.out hkp.size)
  clear hc hkp
  go_wp2_with (fail)
  refine (tableL HC.out k2_fine).mono ?_
  rintro e w12 ⟨a, d, rfl, hr, hk⟩
  have hr2 : IRow w11.heap.size w12 (.slice a [(1 : Int), 1].length d) [1, 1] := hr
  obtain ⟨g, rfl, hg1, hg2, hgc⟩ := row_one hr2 (by simp)
  obtain ⟨w13, hw13⟩ : ∃ u, w12.alloc (.cells #[.int .i64 2, .int .i64 2, .slice (some ⟨g, 0, none⟩) 2 d] 28) = u := ⟨_, rfl⟩
  have k13 : Keep [] w12 w13 := by rw [← hw13]; exact (Keep.refl _ _).alloc _
  have b13 : w13.heap[w12.heap.size]? = some (.cells #[.int .i64 2, .int .i64 2, .slice (some ⟨g, 0, none⟩) 2 d] 28 (0, 0)) := by rw [← hw13]; exact World.alloc_heap_new w12 _
  have HSZ : Hid (w11.heap.size ≤ w12.heap.size) := Lib.hid hk.size
  have hk := hk.trans k13
  have HX := Lib.hid ((hk.cell 1 HXL.out (by simp)).trans HX.out)
  have HXL := Lib.hid (Nat.lt_of_lt_of_le HXL.out hk.size)
  have HC := Lib.hid (HC.out.add hk [w12.heap.size, g] (by intro x hx; have h1 := k13.size; have h2 := lt_of_heap b13; have h3 := HSZ.out; simp only [List.mem_cons, List.not_mem_nil, or_false] at hx; rcases hx with rfl | rfl <;> omega))
  have HB := Lib.hid (HB.out.trans (hk.below (Nat.le_trans HB1.out HS.out) (by simp)))
  have HS := Lib.hid (Nat.le_trans HS.out hk.size)
  have HT := Lib.hid b13
  have HR := Lib.hid (hr2.keep k13 (by simp))
  have HGL := Lib.hid (Nat.lt_of_lt_of_le hg2 k13.size)
  rw [show (k2.ep : Int) = 2 from rfl, show (k2.nd : Int) = 2 from rfl, show k2.own.length = 2 from rfl]
  clear hr hr2 hk k13 b13 hg1 hg2 hgc
  go_wp2_with (fail)
  refine (tickL HC.out k2_fine k2_mem).mono ?_
  rintro e w14 ⟨v, rfl, hr, hk⟩
  obtain ⟨L2, hL2⟩ : ∃ L2, tickF k2 = L2 := ⟨_, rfl⟩
  have g1 := go_t2
  rw [hL2] at hr g1
  obtain ⟨hlen, hto⟩ := g1
  obtain ⟨gb, cb, rfl, hga, hga2, hgc⟩ := prow_one hr (by intro e; rw [e] at hlen; simp at hlen)
  rw [hlen]
  have x0 : w14.cell? ⟨gb, 1, none⟩ = some (.int .i64 1) := by
    have h := hgc
    rw [hto] at h
    simpa using h
  have HX := Lib.hid ((hk.cell 1 HXL.out (by simp)).trans HX.out)
  have HXL := Lib.hid (Nat.lt_of_lt_of_le HXL.out hk.size)
  have HT := Lib.hid ((hk.block _ (lt_of_heap HT.out) (by simp)).trans HT.out)
  have HR := Lib.hid (HR.out.keep hk (by simp))
  have HGL := Lib.hid (Nat.lt_of_lt_of_le HGL.out hk.size)
  have HC := Lib.hid (HC.out.kept hk)
  have HB := Lib.hid (HB.out.trans (hk.below (Nat.le_trans HB1.out HS.out) (by simp)))
  have HS := Lib.hid (Nat.le_trans HS.out hk.size)
  have HY := Lib.hid x0
  have HYL := Lib.hid hga2
  clear hr hk hL2 hlen hto hga hga2 hgc x0
  obtain ⟨t0, t1, t2, t3⟩ := TbFacts HT.out
  have x0 := HX.out
  have y0 := HY.out
  obtain ⟨w15, hw15⟩ : ∃ u, w14.alloc (.cells #[.int .i64 1, .int .i64 1] 3) = u := ⟨_, rfl⟩
  have k15 : Keep [] w14 w15 := by rw [← hw15]; exact (Keep.refl _ _).alloc _
  have b15 : w15.heap[w14.heap.size]? = some (.cells #[.int .i64 1, .int .i64 1] 3 (0, 0)) := by rw [← hw15]; exact World.alloc_heap_new w14 _
  have hi15 : IntsAt w15 (some ⟨w14.heap.size, 0, none⟩) [1, 1] := fun _ => ⟨w14.heap.size, 0, rfl, lt_of_heap b15, fun j hj => by
    have hj2 : j = 0 ∨ j = 1 := by simp at hj; omega
    unfold World.cell?
    rw [Nat.zero_add]
    rcases hj2 with rfl | rfl <;> (rw [b15]; rfl)⟩
  have hsm := rsame_true (w := w15) 2 2 d 2 ((HR.out.keep k15 (by simp)).at) hi15 (by simp)
  simp only [List.length_cons, List.length_nil] at hsm
  have HSM := Lib.hid hsm
  have hk := k15
  have HX := Lib.hid ((hk.cell 1 HXL.out (by simp)).trans HX.out)
  have HXL := Lib.hid (Nat.lt_of_lt_of_le HXL.out hk.size)
  have HY := Lib.hid ((hk.cell 1 HYL.out (by simp)).trans HY.out)
  have HYL := Lib.hid (Nat.lt_of_lt_of_le HYL.out hk.size)
  have HC := Lib.hid (HC.out.kept hk)
  have HB := Lib.hid (HB.out.trans (hk.below (Nat.le_trans HB1.out HS.out) (by simp)))
  have HS := Lib.hid (Nat.le_trans HS.out hk.size)
  clear hk k15 b15 hi15 hsm
  go_wp2_with (fail)
  refine HSM.out.mono ?_
  rintro e w16 ⟨rfl, hk⟩
  have HY := Lib.hid ((hk.cell 1 HYL.out (by simp)).trans HY.out)
  have HC := Lib.hid (HC.out.kept hk)
  have HB := Lib.hid (HB.out.trans (hk.below (Nat.le_trans HB1.out HS.out) (by simp)))
  have HS := Lib.hid (Nat.le_trans HS.out hk.size)
  have y0 := HY.out
  clear hk t0 t1 t2 t3 x0
  go_wp2_with (fail)
  clear y0
  refine (saysD _ 1 0).mono ?_
  rintro e w17 ⟨rfl, hk⟩
  have HC := Lib.hid (HC.out.kept hk)
  have HB := Lib.hid (HB.out.trans (hk.below (Nat.le_trans HB1.out HS.out) (by simp)))
  have HS := Lib.hid (Nat.le_trans HS.out hk.size)
  clear hk
  go_wp2_with (fail)
  refine (handleL HC.out HS.out k2_mem _ rfl 1 13 1 0 0 rfl rfl rfl rfl).mono ?_
  rw [go_d1]
  rintro e w18 ⟨rfl, hc, hkp⟩
  have HB := Lib.hid (HB.out.trans ((hkp.below HS.out).mono HB1.out))
  have HS := Lib.hid (Nat.le_trans HS.out hkp.size)
  have HC := Lib.hid hc
  clear hc hkp
  go_wp2_with (fail)
  refine (saysD _ 1 0).mono ?_
  rintro e w19 ⟨rfl, hk⟩
  have HC := Lib.hid (HC.out.kept hk)
  have HB := Lib.hid (HB.out.trans (hk.below (Nat.le_trans HB1.out HS.out) (by simp)))
  have HS := Lib.hid (Nat.le_trans HS.out hk.size)
  clear hk
  go_wp2_with (fail)
  refine (handleL HC.out HS.out k3_mem _ rfl 1 13 1 0 0 rfl rfl rfl rfl).mono ?_
  rw [go_d2]
  rintro e w20 ⟨rfl, hc, hkp⟩
  have HB := Lib.hid (HB.out.trans ((hkp.below HS.out).mono HB1.out))
  have HS := Lib.hid (Nat.le_trans HS.out hkp.size)
  have HC := Lib.hid hc
  clear hc hkp
  go_wp2_with (fail)
  refine (saysD _ 1 0).mono ?_
  rintro e w21 ⟨rfl, hk⟩
  have HC := Lib.hid (HC.out.kept hk)
  have HB := Lib.hid (HB.out.trans (hk.below (Nat.le_trans HB1.out HS.out) (by simp)))
  have HS := Lib.hid (Nat.le_trans HS.out hk.size)
  clear hk
  go_wp2_with (fail)
  refine (handleL HC.out HS.out k3_mem _ rfl 0 13 1 0 0 rfl rfl rfl rfl).mono ?_
  rw [go_d3]
  rintro e w22 ⟨rfl, hc, hkp⟩
  have HB := Lib.hid (HB.out.trans ((hkp.below HS.out).mono HB1.out))
  have HS := Lib.hid (Nat.le_trans HS.out hkp.size)
  have HC := Lib.hid hc
  clear hc hkp
  go_wp2_with (fail)
  refine (endedL HC.out).mono ?_
  rintro e w23 ⟨rfl, hk⟩
  have HC := Lib.hid (HC.out.kept hk)
  have HB := Lib.hid (HB.out.trans (hk.below (Nat.le_trans HB1.out HS.out) (by simp)))
  have HS := Lib.hid (Nat.le_trans HS.out hk.size)
  clear hk
  rw [show (k4.com : Int) = 1 from rfl, show (k4.abo : Int) = 0 from rfl]
  go_wp2_with (fail)
  refine (awake_any _).mono ?_
  rintro e w24 ⟨rfl, hBa⟩
  have hk := Keep.of_below hBa []
  have HC := Lib.hid (HC.out.kept hk)
  have HB := Lib.hid (HB.out.trans (hk.below (Nat.le_trans HB1.out HS.out) (by simp)))
  have HS := Lib.hid (Nat.le_trans HS.out hk.size)
  clear hk hBa
  go_wp2_with (fail)
  refine (movesL HC.out k4_fine k4_mem).mono ?_
  rintro e w25 ⟨v, rfl, hr, hk⟩
  have hr2 : MoRow w24.heap.size w25 v [] := hr
  have hvs : ∃ a c, v = .slice a 0 c := by obtain ⟨a, c, h, _⟩ := own_shape hr2; exact ⟨a, c, h⟩
  obtain ⟨a, c, rfl⟩ := hvs
  have HB := Lib.hid (HB.out.trans (hk.below (Nat.le_trans HB1.out HS.out) (by simp)))
  clear hr hr2 hk
  go_wp2_with (fail)
  go_ret
  exact ⟨rfl, HB.out⟩
end Go.Proofs.YtdnfibecobodkaaGreat
