/- The law's awake. -/
import Derived.Test.YtdnfibecobodkaaGreatCdA
namespace Go.Proofs.YtdnfibecobodkaaGreat
open Go.RowKit Go.Lib
set_option linter.unusedSimpArgs false
set_option linter.unusedVariables false
theorem row_one {base : Nat} {W : World} {a : Option Addr} {d : Nat} {l : List Int} (h : IRow base W (.slice a l.length d) l) (hl : l ≠ []) : ∃ g, a = some ⟨g, 0, none⟩ ∧ base ≤ g ∧ g < W.heap.size ∧ ∀ j, j < l.length → W.cell? ⟨g, j, none⟩ = some (.int .i64 (l[j]?.getD 0)) := by
  rcases h.2 with ⟨hv, h0⟩ | ⟨g, cap, cur, hv, hb, hg, r⟩
  · exact absurd (List.length_eq_zero_iff.1 h0) hl
  · simp only [Value.slice.injEq, true_and] at hv
    obtain ⟨rfl, rfl⟩ := hv
    obtain ⟨b', o', e, h2, h3⟩ := h.at hl
    cases e
    exact ⟨g, rfl, hb, h2, fun j hj => by simpa using h3 j hj⟩
set_option maxRecDepth 100000 in
set_option maxHeartbeats 4000000 in
theorem awake_any (w : World) : Calls Tryz.prog 19 #[] w fun e w' => e = .returned (.bool true) ∧ Below w.heap.size w w' := by
  go_enter Tryz.func19, Tryz.ntmps19
  go_wp2_with (fail)
  refine (first_any _).mono ?_
  rintro e w1 ⟨gf, rfl, hI, hk⟩
  have HI := Lib.hid hI
  have HB := Lib.hid (hk.below (B := w.heap.size) (Nat.le_refl _) (by simp))
  have HB0 := Lib.hid (show w.heap.size ≤ w1.heap.size from hk.size)
  unfold Tb.val
  simp only [List.length_cons, List.length_nil]
  clear hI hk
  go_wp2_with (fail)
  have hnew := newL (w := w1) ⟨1, 2, some ⟨gf, 0, none⟩, 2, [0, 1]⟩ HI.out (by kernel_rfl)
  unfold Tb.val at hnew
  refine hnew.mono ?_
  rintro e w2 ⟨p, rfl, hc, hk⟩
  have HC : Hid (CoP w1.heap.size [] w2 p k0) := Lib.hid hc
  have HS := Lib.hid hk.size
  have HB := Lib.hid (HB.out.trans (hk.below HB.out.size (by simp)))
  clear hnew hc hk
  have HB1 : Hid (w.heap.size ≤ w1.heap.size) := Lib.hid (by have h := HB0.out; exact h)
  go_wp2_with (fail)
  refine (ordL HC.out HS.out k0_mem (by decide) 0 1).mono ?_
  rw [go_ord]
  rintro e w3 ⟨rfl, hc, hkp⟩
  have HB := Lib.hid (HB.out.trans ((hkp.below HS.out).mono HB1.out))
  have HS := Lib.hid (Nat.le_trans HS.out hkp.size)
  have HC := Lib.hid hc
  clear hc hkp
  go_wp2_with (fail)
  refine (saysR _ 1 0 1).mono ?_
  rintro e w4 ⟨rfl, hk⟩
  have HC := Lib.hid (HC.out.kept hk)
  have HB := Lib.hid (HB.out.trans (hk.below (Nat.le_trans HB1.out HS.out) (by simp)))
  have HS := Lib.hid (Nat.le_trans HS.out hk.size)
  clear hk
  go_wp2_with (fail)
  refine (handleL HC.out HS.out k1_mem _ rfl 1 10 1 0 1 rfl rfl rfl rfl).mono ?_
  rw [go_rdy]
  rintro e w5 ⟨rfl, hc, hkp⟩
  have HB := Lib.hid (HB.out.trans ((hkp.below HS.out).mono HB1.out))
  have HS := Lib.hid (Nat.le_trans HS.out hkp.size)
  have HC := Lib.hid hc
  clear hc hkp
  go_wp2_with (fail)
  refine (tableL HC.out k2_fine).mono ?_
  rintro e w6 ⟨a, d, rfl, hr, hk⟩
  have hr2 : IRow w5.heap.size w6 (.slice a [(1 : Int), 1].length d) [1, 1] := hr
  obtain ⟨g, rfl, hg1, hg2, hgc⟩ := row_one hr2 (by simp)
  obtain ⟨w7, hw7⟩ : ∃ u, w6.alloc (.cells #[.int .i64 2, .int .i64 2, .slice (some ⟨g, 0, none⟩) 2 d] 28) = u := ⟨_, rfl⟩
  have k7 : Keep [] w6 w7 := by rw [← hw7]; exact (Keep.refl _ _).alloc _
  have b7 : w7.heap[w6.heap.size]? = some (.cells #[.int .i64 2, .int .i64 2, .slice (some ⟨g, 0, none⟩) 2 d] 28 (0, 0)) := by rw [← hw7]; exact World.alloc_heap_new w6 _
  have hk57 := hk.trans k7
  have HC := Lib.hid (HC.out.add hk57 [w6.heap.size, g] (by intro x hx; have h1 := hk.size; have h2 := lt_of_heap b7; simp only [List.mem_cons, List.not_mem_nil, or_false] at hx; rcases hx with rfl | rfl <;> omega))
  have HB := Lib.hid (HB.out.trans (hk57.below (Nat.le_trans HB1.out HS.out) (by simp)))
  have HS := Lib.hid (Nat.le_trans HS.out hk57.size)
  have HT := Lib.hid b7
  have HG := Lib.hid ((k7.cell 0 hg2 (by simp)).trans (hgc 0 (by simp)))
  have HGL := Lib.hid (Nat.lt_of_lt_of_le hg2 k7.size)
  rw [show (k2.ep : Int) = 2 from rfl, show (k2.nd : Int) = 2 from rfl, show k2.own.length = 2 from rfl]
  clear hr hr2 hk k7 b7 hk57 hg1 hg2 hgc
  go_wp2_with (fail)
  refine (saysD _ 1 0).mono ?_
  rintro e w8 ⟨rfl, hk⟩
  have HC := Lib.hid (HC.out.kept hk)
  have HB := Lib.hid (HB.out.trans (hk.below (Nat.le_trans HB1.out HS.out) (by simp)))
  have HS := Lib.hid (Nat.le_trans HS.out hk.size)
  have HT := Lib.hid ((hk.block _ (lt_of_heap HT.out) (by simp)).trans HT.out)
  have HG := Lib.hid ((hk.cell 0 HGL.out (by simp)).trans HG.out)
  have HGL := Lib.hid (Nat.lt_of_lt_of_le HGL.out hk.size)
  clear hk
  go_wp2_with (fail)
  refine (handleL HC.out HS.out k2_mem _ rfl 1 13 1 0 0 rfl rfl rfl rfl).mono ?_
  rw [go_d1]
  rintro e w9 ⟨rfl, hc, hkp⟩
  have HB := Lib.hid (HB.out.trans ((hkp.below HS.out).mono HB1.out))
  have HS := Lib.hid (Nat.le_trans HS.out hkp.size)
  have HC := Lib.hid hc
  have HT := Lib.hid ((hkp.block (by simp) (lt_of_heap HT.out)).trans HT.out)
  have HG := Lib.hid ((World.cell?_of_block (hkp.block (k := g) (by simp) HGL.out)).trans HG.out)
  have HGL := Lib.hid (Nat.lt_of_lt_of_le HGL.out hkp.size)
  clear hc hkp
  go_wp2_with (fail)
  refine (saysD _ 1 0).mono ?_
  rintro e w10 ⟨rfl, hk⟩
  have HC := Lib.hid (HC.out.kept hk)
  have HB := Lib.hid (HB.out.trans (hk.below (Nat.le_trans HB1.out HS.out) (by simp)))
  have HS := Lib.hid (Nat.le_trans HS.out hk.size)
  have HT := Lib.hid ((hk.block _ (lt_of_heap HT.out) (by simp)).trans HT.out)
  have HG := Lib.hid ((hk.cell 0 HGL.out (by simp)).trans HG.out)
  have HGL := Lib.hid (Nat.lt_of_lt_of_le HGL.out hk.size)
  clear hk
  go_wp2_with (fail)
  refine (handleL HC.out HS.out k3_mem _ rfl 0 13 1 0 0 rfl rfl rfl rfl).mono ?_
  rw [go_d3]
  rintro e w11 ⟨rfl, hc, hkp⟩
  have HB := Lib.hid (HB.out.trans ((hkp.below HS.out).mono HB1.out))
  have HS := Lib.hid (Nat.le_trans HS.out hkp.size)
  have HC := Lib.hid hc
  have HT := Lib.hid ((hkp.block (by simp) (lt_of_heap HT.out)).trans HT.out)
  have HG := Lib.hid ((World.cell?_of_block (hkp.block (k := g) (by simp) HGL.out)).trans HG.out)
  have HGL := Lib.hid (Nat.lt_of_lt_of_le HGL.out hkp.size)
  clear hc hkp
  go_wp2_with (fail)
  refine (endedL HC.out).mono ?_
  rintro e w12 ⟨rfl, hk⟩
  have HC := Lib.hid (HC.out.kept hk)
  have HB := Lib.hid (HB.out.trans (hk.below (Nat.le_trans HB1.out HS.out) (by simp)))
  have HS := Lib.hid (Nat.le_trans HS.out hk.size)
  have HT := Lib.hid ((hk.block _ (lt_of_heap HT.out) (by simp)).trans HT.out)
  have HG := Lib.hid ((hk.cell 0 HGL.out (by simp)).trans HG.out)
  have HGL := Lib.hid (Nat.lt_of_lt_of_le HGL.out hk.size)
  clear hk
  obtain ⟨t0, t1, t2, t3⟩ := TbFacts HT.out
  have g0 : w12.cell? ⟨g, 0, none⟩ = some (.int .i64 1) := HG.out
  rw [show (k4.com : Int) = 1 from rfl, show (k4.abo : Int) = 0 from rfl]
  go_wp2_with (fail)
  refine (movesL HC.out k4_fine k4_mem).mono ?_
  rintro e w13 ⟨v, rfl, hr, hk⟩
  have hr2 : MoRow w12.heap.size w13 v [] := hr
  have hvs : ∃ a c, v = .slice a 0 c := by obtain ⟨a, c, h, _⟩ := own_shape hr2; exact ⟨a, c, h⟩
  obtain ⟨a, c, rfl⟩ := hvs
  have HB := Lib.hid (HB.out.trans (hk.below (Nat.le_trans HB1.out HS.out) (by simp)))
  clear hr hr2 hk
  go_wp2_with (fail)
  go_ret
  exact ⟨rfl, HB.out⟩
end Go.Proofs.YtdnfibecobodkaaGreat
