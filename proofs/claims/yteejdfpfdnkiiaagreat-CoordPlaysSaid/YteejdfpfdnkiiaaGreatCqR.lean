/- The document's coordinator: Abort. -/
import Derived.Test.YteejdfpfdnkiiaaGreatCqP
namespace Go.Proofs.YteejdfpfdnkiiaaGreat
open Go.RowKit Go.Lib
set_option linter.unusedSimpArgs false
set_option linter.unusedVariables false
def dxAbo (d : Dx) (part : Int) : Dx × Int :=
  if part < 0 ∨ (d.own.length : Int) ≤ part then (d, 21)
  else match fnd part d.L with
    | none => (d, 4)
    | some i => if ((d.L[i]?).getD Mo.zero).s.st = 1 then ({ d with L := d.L.set i ⟨((d.L[i]?).getD Mo.zero).x, ⟨3, ((d.L[i]?).getD Mo.zero).s.dn⟩⟩ }, 0) else (d, 11)
theorem fnd_lt {part : Int} {L : List Mo} {i : Nat} (h : fnd part L = some i) : ∃ x, L[i]? = some x ∧ i < L.length ∧ x.x.part = part := by
  unfold fnd at h
  obtain ⟨hi, h2, _⟩ := List.findIdx?_eq_some_iff_getElem.1 h
  exact ⟨L[i], List.getElem?_eq_getElem hi, hi, by simpa using h2⟩
set_option maxRecDepth 100000 in
set_option maxHeartbeats 8000000 in
theorem rabort_any {w : World} {d : Dx} {oa la : Option Addr} (oc lc : Nat) (hI : IntsAt w oa d.own) (hl : FlAt w la d.L) (hlen : d.L.length ≤ 500) (hcap : d.L.length ≤ lc) (part : Int) : Calls Tryz.prog 16 #[.agg (d.cells oa oc la lc), .int .i64 part] w (AboP w oa la (dxAbo d part)) := by
  obtain ⟨ep, nd, own, L, last, com, abo⟩ := d
  simp only [Dx.cells] at *
  obtain ⟨w1, hw1⟩ : ∃ u, w.alloc (.cells #[.int .i64 ep, .int .i64 nd, .slice oa own.length oc, .slice la L.length lc, .int .i64 last, .int .i64 com, .int .i64 abo] 54) = u := ⟨_, rfl⟩
  obtain ⟨w2, hw2⟩ : ∃ u, w1.alloc (.cells #[.int .i64 0, .int .i64 0, .slice none 0 0, .slice none 0 0, .int .i64 0, .int .i64 0, .int .i64 0] 54) = u := ⟨_, rfl⟩
  have s1 : w1.heap.size = w.heap.size + 1 := by rw [← hw1, World.size_alloc]
  have k1 : Keep [] w w1 := by rw [← hw1]; exact (Keep.refl _ _).alloc _
  have k2 : Keep [] w1 w2 := by rw [← hw2]; exact (Keep.refl _ _).alloc _
  have b1 : w1.heap[w.heap.size]? = some (.cells #[.int .i64 ep, .int .i64 nd, .slice oa own.length oc, .slice la L.length lc, .int .i64 last, .int .i64 com, .int .i64 abo] 54 (0, 0)) := by rw [← hw1]; exact World.alloc_heap_new w _
  replace b1 := (k2.block _ (lt_of_heap b1) (by simp)).trans b1
  have b2 : w2.heap[w.heap.size + 1]? = some (.cells #[.int .i64 0, .int .i64 0, .slice none 0 0, .slice none 0 0, .int .i64 0, .int .i64 0, .int .i64 0] 54 (0, 0)) := by rw [← hw2, ← s1]; exact World.alloc_heap_new w1 _
  have k := k1.trans k2
  have HIW := Lib.hid hI
  have HLW := Lib.hid hl
  have HK := Lib.hid k
  have HB := Lib.hid b1
  have HZ := Lib.hid b2
  obtain ⟨d0, d1, d2, d3, d4, d5, d6, d7⟩ := DxFacts b1
  clear k1 k2 k b1 b2 hI hl
  go_enter Tryz.func16, Tryz.ntmps16
  by_cases hp0 : part < 0
  · have HRES := Lib.hid (show dxAbo ⟨ep, nd, own, L, last, com, abo⟩ part = (⟨ep, nd, own, L, last, com, abo⟩, 21) from by unfold dxAbo; simp only; rw [if_pos (.inl hp0)])
    obtain ⟨w3, hw3⟩ : ∃ u, w2.setRow (w.heap.size + 1) #[.int .i64 ep, .int .i64 nd, .slice oa own.length oc, .slice la L.length lc, .int .i64 last, .int .i64 com, .int .i64 abo] = u := ⟨_, rfl⟩
    have hst3 := run_storeVar_row (P := Tryz.prog) w2 (w.heap.size + 1) 54 54 _ #[.int .i64 ep, .int .i64 nd, .slice oa own.length oc, .slice la L.length lc, .int .i64 last, .int .i64 com, .int .i64 abo] HZ.out (by kernel_rfl) rfl (by simp [Value.oneCell'])
    rw [hw3] at hst3
    have r3 : w3.heap[w.heap.size + 1]? = some (.cells #[.int .i64 ep, .int .i64 nd, .slice oa own.length oc, .slice la L.length lc, .int .i64 last, .int .i64 com, .int .i64 abo] 54 (0, 0)) := by rw [← hw3]; exact setRow_heap w2 _ _ _ _ _ HZ.out
    have k3 : Keep [w.heap.size + 1] w2 w3 := by rw [← hw3]; exact (Keep.refl _ _).setRow _ _ (.inl (by simp))
    have HST3 := Lib.hid hst3
    have HR3 := Lib.hid r3
    have HK3 := Lib.hid (HK.out.step k3 (fun y hy => .inr (by rw [List.mem_singleton.1 hy]; omega)))
    clear hst3 r3 k3 hw3
    go_wp2_with (first | ((with_reducible refine wpList_load_row ?_ 54 (.tmp 2) ?_ (w.heap.size) ?_ 54 #[.int .i64 ep, .int .i64 nd, .slice oa own.length oc, .slice la L.length lc, .int .i64 last, .int .i64 com, .int .i64 abo] (0, 0) _ HB.out Tryz.underlying54 ?_ ?_ ?_); rfl; rfl; rfl; rfl; kernel_rfl) | ((with_reducible refine wpList_store_all ?_ 54 (.tmp 4) (.tmp 18) ?_ (w.heap.size + 1) ?_ _ ?_ HST3.out ?_); rfl; rfl; rfl; rfl))
    refine bodyPost_ret (results_c1 rfl _ _ w3 (w.heap.size + 1) _ (.int .i64 21) rfl rfl (load_dx HR3.out)) rfl ?_
    rw [HRES.out]
    exact ⟨⟨_, rfl, DxP.same (d := ⟨ep, nd, own, L, last, com, abo⟩) HIW.out HLW.out hcap HK3.out⟩, HK3.out⟩
  by_cases hp1 : (own.length : Int) ≤ part
  · have hd1 : decide ((own.length : Int) ≤ part) = true := by simpa using hp1
    have hd0 : decide (part < 0) = false := by simpa using hp0
    have HRES := Lib.hid (show dxAbo ⟨ep, nd, own, L, last, com, abo⟩ part = (⟨ep, nd, own, L, last, com, abo⟩, 21) from by unfold dxAbo; simp only; rw [if_pos (.inr hp1)])
    obtain ⟨w3, hw3⟩ : ∃ u, w2.setRow (w.heap.size + 1) #[.int .i64 ep, .int .i64 nd, .slice oa own.length oc, .slice la L.length lc, .int .i64 last, .int .i64 com, .int .i64 abo] = u := ⟨_, rfl⟩
    have hst3 := run_storeVar_row (P := Tryz.prog) w2 (w.heap.size + 1) 54 54 _ #[.int .i64 ep, .int .i64 nd, .slice oa own.length oc, .slice la L.length lc, .int .i64 last, .int .i64 com, .int .i64 abo] HZ.out (by kernel_rfl) rfl (by simp [Value.oneCell'])
    rw [hw3] at hst3
    have r3 : w3.heap[w.heap.size + 1]? = some (.cells #[.int .i64 ep, .int .i64 nd, .slice oa own.length oc, .slice la L.length lc, .int .i64 last, .int .i64 com, .int .i64 abo] 54 (0, 0)) := by rw [← hw3]; exact setRow_heap w2 _ _ _ _ _ HZ.out
    have k3 : Keep [w.heap.size + 1] w2 w3 := by rw [← hw3]; exact (Keep.refl _ _).setRow _ _ (.inl (by simp))
    have HST3 := Lib.hid hst3
    have HR3 := Lib.hid r3
    have HK3 := Lib.hid (HK.out.step k3 (fun y hy => .inr (by rw [List.mem_singleton.1 hy]; omega)))
    clear hst3 r3 k3 hw3
    go_wp2_with (first | ((with_reducible refine wpList_load_row ?_ 54 (.tmp 2) ?_ (w.heap.size) ?_ 54 #[.int .i64 ep, .int .i64 nd, .slice oa own.length oc, .slice la L.length lc, .int .i64 last, .int .i64 com, .int .i64 abo] (0, 0) _ HB.out Tryz.underlying54 ?_ ?_ ?_); rfl; rfl; rfl; rfl; kernel_rfl) | ((with_reducible refine wpList_store_all ?_ 54 (.tmp 4) (.tmp 18) ?_ (w.heap.size + 1) ?_ _ ?_ HST3.out ?_); rfl; rfl; rfl; rfl))
    refine bodyPost_ret (results_c1 rfl _ _ w3 (w.heap.size + 1) _ (.int .i64 21) rfl rfl (load_dx HR3.out)) rfl ?_
    rw [HRES.out]
    exact ⟨⟨_, rfl, DxP.same (d := ⟨ep, nd, own, L, last, com, abo⟩) HIW.out HLW.out hcap HK3.out⟩, HK3.out⟩
  have hd1 : decide ((own.length : Int) ≤ part) = false := by simpa using hp1
  have hd0 : decide (part < 0) = false := by simpa using hp0
  have hno : ¬ (part < 0 ∨ (own.length : Int) ≤ part) := by omega
  have HFN := Lib.hid (rfind_any (w := w2) (d := ⟨ep, nd, own, L, last, com, abo⟩) (oa := oa) oc lc (HLW.out.kept HK.out) (by simp only; omega) part)
  simp only [Dx.cells] at HFN
  go_wp2_with ((with_reducible refine wpList_load_row ?_ 54 (.tmp 2) ?_ (w.heap.size) ?_ 54 #[.int .i64 ep, .int .i64 nd, .slice oa own.length oc, .slice la L.length lc, .int .i64 last, .int .i64 com, .int .i64 abo] (0, 0) _ HB.out Tryz.underlying54 ?_ ?_ ?_); rfl; rfl; rfl; rfl; kernel_rfl)
  refine HFN.out.mono ?_
  rintro e w5 ⟨rfl, hk5⟩
  clear hw1 hw2
  clear d0 d1 d2 d3 d4 d5 d6 d7
  have HK := Lib.hid (HK.out.trans hk5)
  have HB := Lib.hid ((hk5.block _ (lt_of_heap HB.out) (by simp)).trans HB.out)
  have HZ := Lib.hid ((hk5.block _ (lt_of_heap HZ.out) (by simp)).trans HZ.out)
  obtain ⟨d0, d1, d2, d3, d4, d5, d6, d7⟩ := DxFacts HB.out
  clear hk5
  have hwb5 := lt_of_heap HZ.out
  cases hf : fnd part L with
  | none =>
    simp only [fI]
    have HF := Lib.hid hf
    clear hf
    have HRES := Lib.hid (show dxAbo ⟨ep, nd, own, L, last, com, abo⟩ part = (⟨ep, nd, own, L, last, com, abo⟩, 4) from by unfold dxAbo; simp only; rw [if_neg hno, HF.out])
    obtain ⟨w6, hw6⟩ : ∃ u, w5.setRow (w.heap.size + 1) #[.int .i64 ep, .int .i64 nd, .slice oa own.length oc, .slice la L.length lc, .int .i64 last, .int .i64 com, .int .i64 abo] = u := ⟨_, rfl⟩
    have hst6 := run_storeVar_row (P := Tryz.prog) w5 (w.heap.size + 1) 54 54 _ #[.int .i64 ep, .int .i64 nd, .slice oa own.length oc, .slice la L.length lc, .int .i64 last, .int .i64 com, .int .i64 abo] HZ.out (by kernel_rfl) rfl (by simp [Value.oneCell'])
    rw [hw6] at hst6
    have r6 : w6.heap[w.heap.size + 1]? = some (.cells #[.int .i64 ep, .int .i64 nd, .slice oa own.length oc, .slice la L.length lc, .int .i64 last, .int .i64 com, .int .i64 abo] 54 (0, 0)) := by rw [← hw6]; exact setRow_heap w5 _ _ _ _ _ HZ.out
    have k6 : Keep [w.heap.size + 1] w5 w6 := by rw [← hw6]; exact (Keep.refl _ _).setRow _ _ (.inl (by simp))
    have HST6 := Lib.hid hst6
    have HR6 := Lib.hid r6
    have HK6 := Lib.hid (HK.out.step k6 (fun y hy => .inr (by rw [List.mem_singleton.1 hy]; omega)))
    clear hst6 r6 k6 hw6
    go_wp2_with (first | ((with_reducible refine wpList_load_row ?_ 54 (.tmp 2) ?_ (w.heap.size) ?_ 54 #[.int .i64 ep, .int .i64 nd, .slice oa own.length oc, .slice la L.length lc, .int .i64 last, .int .i64 com, .int .i64 abo] (0, 0) _ HB.out Tryz.underlying54 ?_ ?_ ?_); rfl; rfl; rfl; rfl; kernel_rfl) | ((with_reducible refine wpList_store_all ?_ 54 (.tmp 4) (.tmp 24) ?_ (w.heap.size + 1) ?_ _ ?_ HST6.out ?_); rfl; rfl; rfl; rfl))
    refine bodyPost_ret (results_c1 rfl _ _ w6 (w.heap.size + 1) _ (.int .i64 4) rfl rfl (load_dx HR6.out)) rfl ?_
    rw [HRES.out]
    exact ⟨⟨_, rfl, DxP.same (d := ⟨ep, nd, own, L, last, com, abo⟩) HIW.out HLW.out hcap HK6.out⟩, HK6.out⟩
  | some i =>
    simp only [fI]
    have HF := Lib.hid hf
    obtain ⟨x, hx, hil, hpx⟩ := fnd_lt hf
    clear hpx
    have hi0 : (0 : Int) ≤ (i : Int) := Int.natCast_nonneg i
    have hil2 : (i : Int) < (L.length : Int) := by omega
    obtain ⟨lb, lo, rfl, hlb, hlc⟩ := (HLW.out.kept HK.out).get hx
    have hgd : (L[i]?).getD Mo.zero = x := by rw [hx]; rfl
    obtain ⟨⟨x1, x2, x3, x4⟩, ⟨st, dn⟩⟩ := x
    have q0 : w5.cell? ⟨lb, lo + i * 6, none⟩ = some (.int .i64 x1) := hlc 0 _ rfl
    have q1 := hlc 1 _ rfl
    have q2 := hlc 2 _ rfl
    have q3 := hlc 3 _ rfl
    have q4 := hlc 4 _ rfl
    have q5 := hlc 5 _ rfl
    have HX := Lib.hid hx
    have HGD := Lib.hid hgd
    clear hf hlc hx hgd
    by_cases hst : st = 1
    · subst hst
      obtain ⟨w6, hw6⟩ : ∃ u, w5.alloc (.cells #[.int .i64 0, .int .i64 0, .int .i64 0, .int .i64 0, .int .i64 0, .int .i64 0] 91) = u := ⟨_, rfl⟩
      have t6 : w6.heap[w5.heap.size]? = some (.cells #[.int .i64 0, .int .i64 0, .int .i64 0, .int .i64 0, .int .i64 0, .int .i64 0] 91 (0, 0)) := by rw [← hw6]; exact World.alloc_heap_new w5 _
      obtain ⟨w7, hw7⟩ : ∃ u, w6.setRow w5.heap.size #[.int .i64 x1, .int .i64 x2, .int .i64 x3, .int .i64 x4, .int .i64 1, .int .i64 dn] = u := ⟨_, rfl⟩
      have hst7 := run_storeVar_row (P := Tryz.prog) w6 w5.heap.size 91 91 _ #[.int .i64 x1, .int .i64 x2, .int .i64 x3, .int .i64 x4, .int .i64 1, .int .i64 dn] t6 (by kernel_rfl) rfl (by simp [Value.oneCell'])
      rw [hw7] at hst7
      have t7 : w7.heap[w5.heap.size]? = some (.cells #[.int .i64 x1, .int .i64 x2, .int .i64 x3, .int .i64 x4, .int .i64 1, .int .i64 dn] 91 (0, 0)) := by rw [← hw7]; exact setRow_heap w6 _ _ _ _ _ t6
      have k6 : Keep [] w5 w6 := by rw [← hw6]; exact (Keep.refl _ _).alloc _
      have k7 : Keep [w5.heap.size] w6 w7 := by rw [← hw7]; exact (Keep.refl _ _).setRow _ _ (.inl (by simp))
      obtain ⟨w8, hw8⟩ : ∃ u, w7.setCell ⟨w5.heap.size, 4, none⟩ (.int .i64 3) = u := ⟨_, rfl⟩
      have t8 : w8.heap[w5.heap.size]? = some (.cells #[.int .i64 x1, .int .i64 x2, .int .i64 x3, .int .i64 x4, .int .i64 3, .int .i64 dn] 91 (0, 0)) := by rw [← hw8]; simp [World.setCell, Array.getElem?_modify, t7]
      have k8 : Keep [w5.heap.size] w7 w8 := by rw [← hw8]; exact (Keep.refl _ _).setCell _ _ _ (.inl (by simp))
      have k68 : Keep [] w5 w8 := (k6.step k7 (fun y hy => .inr (by rw [List.mem_singleton.1 hy]; exact Nat.le_refl _))).step k8 (fun y hy => .inr (by rw [List.mem_singleton.1 hy]; exact Nat.le_refl _))
      have HST7 := Lib.hid hst7
      obtain ⟨m0, m1, m2, m3, m4, m5, m6⟩ := MvFacts t7
      obtain ⟨n0, n1, n2, n3, n4, n5, n6⟩ := MvFacts t8
      have hb8 := (k68.block _ (lt_of_heap HB.out) (by simp)).trans HB.out
      have HK := Lib.hid (HK.out.trans k68)
      have HZ := Lib.hid ((k68.block _ (lt_of_heap HZ.out) (by simp)).trans HZ.out)
      have HB8 := Lib.hid hb8
      clear t6 t7 t8 k6 k7 k8 k68 hst7 hw7 hb8
      have HWT := Lib.hid (rwith_any (w := w8) (d := ⟨ep, nd, own, L, last, com, abo⟩) (oa := oa) oc lc (HLW.out.kept HK.out) (by simp only; omega) hil ⟨⟨x1, x2, x3, x4⟩, ⟨3, dn⟩⟩)
      simp only [Dx.cells, Mo.cells] at HWT
      go_wp2_with (first | ((with_reducible refine wpList_store_all ?_ 91 (.tmp 7) (.tmp 37) ?_ w5.heap.size ?_ _ ?_ HST7.out ?_); rfl; rfl; rfl; rfl) | ((with_reducible refine wpList_load_row ?_ 54 (.tmp 2) ?_ (w.heap.size) ?_ 54 #[.int .i64 ep, .int .i64 nd, .slice oa own.length oc, .slice (some ⟨lb, lo, none⟩) L.length lc, .int .i64 last, .int .i64 com, .int .i64 abo] (0, 0) _ HB8.out Tryz.underlying54 ?_ ?_ ?_); rfl; rfl; rfl; rfl; kernel_rfl))
      refine HWT.out.mono ?_
      rintro e w9 ⟨g, c, rfl, hfl, hlc9, hg1, hg2, hk9⟩
      have HK9S := Lib.hid (show w.heap.size ≤ w8.heap.size from HK.out.size)
      have HK := Lib.hid (HK.out.trans hk9)
      have hz9 := (hk9.block _ (lt_of_heap HZ.out) (by simp)).trans HZ.out
      simp only [List.length_set] at hlc9 ⊢
      obtain ⟨w10, hw10⟩ : ∃ u, w9.setRow (w.heap.size + 1) #[.int .i64 ep, .int .i64 nd, .slice oa own.length oc, .slice (some ⟨g, 0, none⟩) L.length c, .int .i64 last, .int .i64 com, .int .i64 abo] = u := ⟨_, rfl⟩
      have hst10 := run_storeVar_row (P := Tryz.prog) w9 (w.heap.size + 1) 54 54 _ #[.int .i64 ep, .int .i64 nd, .slice oa own.length oc, .slice (some ⟨g, 0, none⟩) L.length c, .int .i64 last, .int .i64 com, .int .i64 abo] hz9 (by kernel_rfl) rfl (by simp [Value.oneCell'])
      rw [hw10] at hst10
      have r10 : w10.heap[w.heap.size + 1]? = some (.cells #[.int .i64 ep, .int .i64 nd, .slice oa own.length oc, .slice (some ⟨g, 0, none⟩) L.length c, .int .i64 last, .int .i64 com, .int .i64 abo] 54 (0, 0)) := by rw [← hw10]; exact setRow_heap w9 _ _ _ _ _ hz9
      have k10 : Keep [w.heap.size + 1] w9 w10 := by rw [← hw10]; exact (Keep.refl _ _).setRow _ _ (.inl (by simp))
      have HST10 := Lib.hid hst10
      have HR10 := Lib.hid r10
      have HK10 := Lib.hid (HK.out.step k10 (fun y hy => .inr (by rw [List.mem_singleton.1 hy]; omega)))
      have HKX := Lib.hid k10
      clear hst10 r10 k10 hw10
      have hgz : g ≠ w.heap.size + 1 := by
        have := lt_of_heap HZ.out
        omega
      have hk10 : Keep [w.heap.size + 1] w9 w10 := HKX.out
      have HF10 := Lib.hid (hfl.keep hk10 (fun _ b off hb => by cases hb; simpa using hgz))
      have hs10 := hk10.size
      clear hfl hk9 hz9 hk10
      go_wp2_with ((with_reducible refine wpList_store_all ?_ 54 (.tmp 4) (.tmp 42) ?_ (w.heap.size + 1) ?_ _ ?_ HST10.out ?_); rfl; rfl; rfl; rfl)
      refine bodyPost_ret (results_c1 rfl _ _ w10 (w.heap.size + 1) _ (.int .i64 0) rfl rfl (load_dx HR10.out)) rfl ?_
      have hres : dxAbo ⟨ep, nd, own, L, last, com, abo⟩ part = (⟨ep, nd, own, L.set i ⟨⟨x1, x2, x3, x4⟩, ⟨3, dn⟩⟩, last, com, abo⟩, 0) := by
        unfold dxAbo
        simp only
        rw [if_neg hno, HF.out]
        simp only [HGD.out]
        rw [if_pos trivial]
      rw [hres]
      exact ⟨⟨_, rfl, oa, oc, some ⟨g, 0, none⟩, c, by simp [Dx.cells], HIW.out.keep HK10.out (by simp), HF10.out, by simpa using hlc9, .inl rfl, .inr (fun b off hb => by cases hb; exact ⟨by have := HK.out.size; have := HK9S.out; omega, by omega⟩)⟩, HK10.out⟩
    have hs1 : (st == 1) = false := by simpa using hst
    have hs2 : decide (st = 1) = false := by simpa using hst
    have HRES := Lib.hid (show dxAbo ⟨ep, nd, own, L, last, com, abo⟩ part = (⟨ep, nd, own, L, last, com, abo⟩, 11) from by unfold dxAbo; simp only; rw [if_neg hno, HF.out]; simp only [HGD.out]; rw [if_neg hst])
    obtain ⟨w6, hw6⟩ : ∃ u, w5.setRow (w.heap.size + 1) #[.int .i64 ep, .int .i64 nd, .slice oa own.length oc, .slice (some ⟨lb, lo, none⟩) L.length lc, .int .i64 last, .int .i64 com, .int .i64 abo] = u := ⟨_, rfl⟩
    have hst6 := run_storeVar_row (P := Tryz.prog) w5 (w.heap.size + 1) 54 54 _ #[.int .i64 ep, .int .i64 nd, .slice oa own.length oc, .slice (some ⟨lb, lo, none⟩) L.length lc, .int .i64 last, .int .i64 com, .int .i64 abo] HZ.out (by kernel_rfl) rfl (by simp [Value.oneCell'])
    rw [hw6] at hst6
    have r6 : w6.heap[w.heap.size + 1]? = some (.cells #[.int .i64 ep, .int .i64 nd, .slice oa own.length oc, .slice (some ⟨lb, lo, none⟩) L.length lc, .int .i64 last, .int .i64 com, .int .i64 abo] 54 (0, 0)) := by rw [← hw6]; exact setRow_heap w5 _ _ _ _ _ HZ.out
    have k6 : Keep [w.heap.size + 1] w5 w6 := by rw [← hw6]; exact (Keep.refl _ _).setRow _ _ (.inl (by simp))
    have HST6 := Lib.hid hst6
    have HR6 := Lib.hid r6
    have HK6 := Lib.hid (HK.out.step k6 (fun y hy => .inr (by rw [List.mem_singleton.1 hy]; omega)))
    clear hst6 r6 k6 hw6
    go_wp2_with (first | ((with_reducible refine wpList_load_row ?_ 54 (.tmp 2) ?_ (w.heap.size) ?_ 54 #[.int .i64 ep, .int .i64 nd, .slice oa own.length oc, .slice (some ⟨lb, lo, none⟩) L.length lc, .int .i64 last, .int .i64 com, .int .i64 abo] (0, 0) _ HB.out Tryz.underlying54 ?_ ?_ ?_); rfl; rfl; rfl; rfl; kernel_rfl) | ((with_reducible refine wpList_store_all ?_ 54 (.tmp 4) (.tmp 32) ?_ (w.heap.size + 1) ?_ _ ?_ HST6.out ?_); rfl; rfl; rfl; rfl))
    refine bodyPost_ret (results_c1 rfl _ _ w6 (w.heap.size + 1) _ (.int .i64 11) rfl rfl (load_dx HR6.out)) rfl ?_
    rw [HRES.out]
    exact ⟨⟨_, rfl, DxP.same (d := ⟨ep, nd, own, L, last, com, abo⟩) HIW.out HLW.out hcap HK6.out⟩, HK6.out⟩
end Go.Proofs.YteejdfpfdnkiiaaGreat
