/- The document's coordinator: Handle. -/
import Derived.Test.YteejdfpfdnkiiaaGreatCqR
namespace Go.Proofs.YteejdfpfdnkiiaaGreat
open Go.RowKit Go.Lib
set_option linter.unusedSimpArgs false
set_option linter.unusedVariables false
def dxHan (d : Dx) (fr : Int) (k : Nat) (mv pt code : Int) : Dx × Bool :=
  match fnd pt d.L with
  | none => (d, false)
  | some i =>
    let x := (d.L[i]?).getD Mo.zero
    if x.x.mv ≠ mv then (d, false)
    else if k = 10 ∧ x.s.st = 1 ∧ fr = x.x.to then
      if code = 1 ∧ (Tb.mk d.ep d.nd none 0 d.own).may x.x.part x.x.to = 0 then ({ d with ep := d.ep + 1, own := d.own.set x.x.part.toNat x.x.to, L := d.L.set i ⟨x.x, ⟨2, x.s.dn⟩⟩ }, true)
      else ({ d with L := d.L.set i ⟨x.x, ⟨3, x.s.dn⟩⟩ }, true)
    else if k ≠ 13 ∨ x.s.st = 1 ∨ (fr ≠ x.x.fr ∧ fr ≠ x.x.to) then (d, false)
    else if x.s.dn = (if fr = x.x.to then 2 else 1) then (d, false)
    else if x.s.dn + (if fr = x.x.to then 2 else 1) < 3 then ({ d with L := d.L.set i ⟨x.x, ⟨x.s.st, x.s.dn + (if fr = x.x.to then 2 else 1)⟩⟩ }, true)
    else ({ d with L := d.L.take i ++ d.L.drop (i + 1), com := if x.s.st = 2 then d.com + 1 else d.com, abo := if x.s.st = 2 then d.abo else d.abo + 1 }, true)
def HanP (w : World) (oa la : Option Addr) (r : Dx × Bool) (e : Ending) (w' : World) : Prop := (∃ cs, e = .returned (.tuple #[.agg cs, .bool r.2]) ∧ DxP w oa la r.1 cs w') ∧ Keep [] w w'
theorem dn3 {d : Nat} (h : d ≤ 2) : d = 0 ∨ d = 1 ∨ d = 2 := by omega
theorem fl_drop_any {W : World} {b off : Nat} {L : List Mo} (h : FlAt W (some ⟨b, off, none⟩) L) (i o : Nat) (ho : o = off + i * 6) : FlAt W (some ⟨b, o, none⟩) (L.drop i) := by subst ho; exact h.drop i
set_option maxRecDepth 100000 in
set_option maxHeartbeats 16000000 in
theorem rhandle_any {w : World} {d : Dx} {oa la : Option Addr} (oc lc : Nat) (hI : IntsAt w oa d.own) (hl : FlAt w la d.L) (hlen : d.L.length ≤ 500) (hcap : d.L.length ≤ lc) (hdn : ∀ x ∈ d.L, x.s.dn ≤ 2) (hne : ∀ x ∈ d.L, x.x.fr ≠ x.x.to) (hc0 : 0 ≤ d.com ∧ d.com ≤ 1000000) (ha0 : 0 ≤ d.abo ∧ d.abo ≤ 1000000) (cs : Array Value) (hcs : cs.size = 22) (fr : Int) (k : Nat) (mv pt code : Int) (h0 : cs[0]? = some (.int .u8 k)) (h1 : cs[1]? = some (.int .i64 mv)) (h2 : cs[2]? = some (.int .i64 pt)) (h6 : cs[6]? = some (.int .i64 code)) : Calls Tryz.prog 18 #[.agg (d.cells oa oc la lc), .int .i64 fr, .agg cs] w (HanP w oa la (dxHan d fr k mv pt code)) := by
  obtain ⟨ep, nd, own, L, last, com, abo⟩ := d
  simp only [Dx.cells] at *
  have hbox := box_msg cs hcs
  obtain ⟨w1, hw1⟩ : ∃ u, w.alloc (.cells #[.int .i64 ep, .int .i64 nd, .slice oa own.length oc, .slice la L.length lc, .int .i64 last, .int .i64 com, .int .i64 abo] 54) = u := ⟨_, rfl⟩
  obtain ⟨w2, hw2⟩ : ∃ u, w1.alloc (.cells cs 47) = u := ⟨_, rfl⟩
  obtain ⟨w3, hw3⟩ : ∃ u, w2.alloc (.cells #[.int .i64 0, .int .i64 0, .slice none 0 0, .slice none 0 0, .int .i64 0, .int .i64 0, .int .i64 0] 54) = u := ⟨_, rfl⟩
  have s1 : w1.heap.size = w.heap.size + 1 := by rw [← hw1, World.size_alloc]
  have s2 : w2.heap.size = w.heap.size + 1 + 1 := by rw [← hw2, World.size_alloc, s1]
  have k1 : Keep [] w w1 := by rw [← hw1]; exact (Keep.refl _ _).alloc _
  have k2 : Keep [] w1 w2 := by rw [← hw2]; exact (Keep.refl _ _).alloc _
  have k3 : Keep [] w2 w3 := by rw [← hw3]; exact (Keep.refl _ _).alloc _
  have b1 : w1.heap[w.heap.size]? = some (.cells #[.int .i64 ep, .int .i64 nd, .slice oa own.length oc, .slice la L.length lc, .int .i64 last, .int .i64 com, .int .i64 abo] 54 (0, 0)) := by rw [← hw1]; exact World.alloc_heap_new w _
  replace b1 := ((k2.trans k3).block _ (lt_of_heap b1) (by simp)).trans b1
  have b2 : MsAt w2 (w.heap.size + 1) cs := by rw [← hw2, ← s1]; exact World.alloc_heap_new w1 _
  replace b2 := b2.keep k3 (by simp)
  have b3 : w3.heap[w.heap.size + 1 + 1]? = some (.cells #[.int .i64 0, .int .i64 0, .slice none 0 0, .slice none 0 0, .int .i64 0, .int .i64 0, .int .i64 0] 54 (0, 0)) := by rw [← hw3, ← s2]; exact World.alloc_heap_new w2 _
  have H0 := Lib.hid h0
  have H1 := Lib.hid h1
  have H2 := Lib.hid h2
  have H6 := Lib.hid h6
  have HIW := Lib.hid hI
  have HLW := Lib.hid hl
  have HDN := Lib.hid hdn
  have HNE := Lib.hid hne
  have HK := Lib.hid ((k1.trans k2).trans k3)
  have HB := Lib.hid b1
  have HM := Lib.hid b2
  have HZ := Lib.hid b3
  have e2 := (b2.cell 2).trans h2
  have HFN := Lib.hid (rfind_any (w := w3) (d := ⟨ep, nd, own, L, last, com, abo⟩) (oa := oa) oc lc (hl.kept HK.out) (by simp only; omega) pt)
  simp only [Dx.cells] at HFN
  clear h0 h1 h2 h6 hI hl k1 k2 k3 b1 b2 b3 hdn hne
  go_enter Tryz.func18, Tryz.ntmps18
  go_wp2_with ((with_reducible refine wpList_load_row ?_ 54 (.tmp 3) ?_ (w.heap.size) ?_ 54 #[.int .i64 ep, .int .i64 nd, .slice oa own.length oc, .slice la L.length lc, .int .i64 last, .int .i64 com, .int .i64 abo] (0, 0) _ HB.out Tryz.underlying54 ?_ ?_ ?_); rfl; rfl; rfl; rfl; kernel_rfl)
  refine HFN.out.mono ?_
  rintro e w5 ⟨rfl, hk5⟩
  clear hw1 hw2 hw3 e2 hbox
  have HK := Lib.hid (HK.out.trans hk5)
  have HB := Lib.hid ((hk5.block _ (lt_of_heap HB.out) (by simp)).trans HB.out)
  have HM := Lib.hid (HM.out.keep hk5 (by simp))
  have HZ := Lib.hid ((hk5.block _ (lt_of_heap HZ.out) (by simp)).trans HZ.out)
  clear hk5
  have hwb5 := lt_of_heap HZ.out
  cases hf : fnd pt L with
  | none =>
    simp only [fI]
    have HF := Lib.hid hf
    clear hf
    go_wp2_with (fail)
    refine wp_region_soup 13 [] (fun _ => none) (by kernel_rfl) (by kernel_rfl) (spOk_of (l := []) (by simp)) (pre_of (l := []) (by simp)) ?_
    simp only [List.take_succ_cons, List.take_zero, List.drop_succ_cons, List.drop_zero]
    iterate 3
      with_reducible refine soup_q ?_ ?_ ?_
      · rfl
      · rfl
      with_reducible apply Exists.intro
      with_reducible refine ⟨fun W hk _ => ?_, ?_⟩
      · unfold Oper.same
        go_simp
        first | rfl | exact ⟨rfl, rfl⟩
      with_reducible apply Exists.intro
      with_reducible refine ⟨?_, ?_⟩
      · go_simp
        rfl
    iterate 9
      with_reducible refine soup_no ?_ ?_
      · rfl
      with_reducible apply Exists.intro
      with_reducible refine ⟨?_, ?_⟩
      · go_simp
        rfl
    with_reducible refine soup_q ?_ ?_ ?_
    · rfl
    · rfl
    with_reducible apply Exists.intro
    with_reducible refine ⟨fun W hk _ => ?_, ?_⟩
    · unfold Oper.same
      go_simp
      first | rfl | exact ⟨rfl, rfl⟩
    with_reducible apply Exists.intro
    with_reducible refine ⟨?_, ?_⟩
    · go_simp
      rfl
    refine soup_nil (fun W hk hS => ?_)
    have HK := Lib.hid (HK.out.trans hk)
    have HB := Lib.hid ((hk.block _ (lt_of_heap HB.out) (by simp)).trans HB.out)
    have HM := Lib.hid (HM.out.keep hk (by simp))
    have HZ := Lib.hid ((hk.block _ (lt_of_heap HZ.out) (by simp)).trans HZ.out)
    clear hk hS
    obtain ⟨w7, hw7⟩ : ∃ u, W.setRow (w.heap.size + 1 + 1) #[.int .i64 ep, .int .i64 nd, .slice oa own.length oc, .slice la L.length lc, .int .i64 last, .int .i64 com, .int .i64 abo] = u := ⟨_, rfl⟩
    have hst7 := run_storeVar_row (P := Tryz.prog) W (w.heap.size + 1 + 1) 54 54 _ #[.int .i64 ep, .int .i64 nd, .slice oa own.length oc, .slice la L.length lc, .int .i64 last, .int .i64 com, .int .i64 abo] HZ.out (by kernel_rfl) rfl (by simp [Value.oneCell'])
    rw [hw7] at hst7
    have r7 : w7.heap[w.heap.size + 1 + 1]? = some (.cells #[.int .i64 ep, .int .i64 nd, .slice oa own.length oc, .slice la L.length lc, .int .i64 last, .int .i64 com, .int .i64 abo] 54 (0, 0)) := by rw [← hw7]; exact setRow_heap W _ _ _ _ _ HZ.out
    have k7 : Keep [w.heap.size + 1 + 1] W w7 := by rw [← hw7]; exact (Keep.refl _ _).setRow _ _ (.inl (by simp))
    have HST7 := Lib.hid hst7
    have HR7 := Lib.hid r7
    have HKX7 := Lib.hid k7
    have HK7 := Lib.hid (HK.out.step k7 (fun y hy => .inr (by rw [List.mem_singleton.1 hy]; omega)))
    clear hst7 r7 k7 hw7
    go_wp2_with (first | ((with_reducible refine wpList_load_row ?_ 54 (.tmp 3) ?_ (w.heap.size) ?_ 54 #[.int .i64 ep, .int .i64 nd, .slice oa own.length oc, .slice la L.length lc, .int .i64 last, .int .i64 com, .int .i64 abo] (0, 0) _ HB.out Tryz.underlying54 ?_ ?_ ?_); rfl; rfl; rfl; rfl; kernel_rfl) | ((with_reducible refine wpList_store_all ?_ 54 (.tmp 6) (.tmp 31) ?_ (w.heap.size + 1 + 1) ?_ _ ?_ HST7.out ?_); rfl; rfl; rfl; rfl))
    refine bodyPost_ret (results_c1 rfl _ _ w7 (w.heap.size + 1 + 1) _ (.bool false) rfl rfl (load_dx HR7.out)) rfl ?_
    have hres : dxHan ⟨ep, nd, own, L, last, com, abo⟩ fr k mv pt code = (⟨ep, nd, own, L, last, com, abo⟩, false) := by
      unfold dxHan
      simp only
      rw [HF.out]
    rw [hres]
    exact ⟨⟨_, rfl, DxP.same (d := ⟨ep, nd, own, L, last, com, abo⟩) HIW.out HLW.out hcap HK7.out⟩, HK7.out⟩
  | some i =>
    simp only [fI]
    have HF := Lib.hid hf
    obtain ⟨x, hx, hil, hpx⟩ := fnd_lt hf
    clear hpx
    have hi0 : (0 : Int) ≤ (i : Int) := Int.natCast_nonneg i
    have hil2 : (i : Int) < (L.length : Int) := by omega
    have hdx := HDN.out x (List.mem_of_getElem? hx)
    have HNX := Lib.hid (HNE.out x (List.mem_of_getElem? hx))
    obtain ⟨lb, lo, rfl, hlb, hlc⟩ := (HLW.out.kept HK.out).get hx
    have hgd : (L[i]?).getD Mo.zero = x := by rw [hx]; rfl
    obtain ⟨⟨x1, x2, x3, x4⟩, ⟨st, dn⟩⟩ := x
    simp only at hdx HNX
    have HQ0 : Hid (w5.cell? ⟨lb, lo + i * 6, none⟩ = some (.int .i64 x1)) := Lib.hid (hlc 0 _ rfl)
    have HLC := Lib.hid hlc
    have HLB := Lib.hid hlb
    have HX := Lib.hid hx
    have HGD := Lib.hid hgd
    clear hf hlc hx hgd hlb
    by_cases hmv : x1 = mv
    · subst hmv
      go_wp2_with (fail)
      refine wp_region_soup 13 [] (fun _ => none) (by kernel_rfl) (by kernel_rfl) (spOk_of (l := []) (by simp)) (pre_of (l := []) (by simp)) ?_
      simp only [List.take_succ_cons, List.take_zero, List.drop_succ_cons, List.drop_zero]
      iterate 4
        with_reducible refine soup_q ?_ ?_ ?_
        · rfl
        · rfl
        with_reducible apply Exists.intro
        with_reducible refine ⟨fun W hk _ => ?_, ?_⟩
        · unfold Oper.same
          go_simp
          first | rfl | exact ⟨rfl, rfl⟩
        with_reducible apply Exists.intro
        with_reducible refine ⟨?_, ?_⟩
        · go_simp
          rfl
      with_reducible refine soup_q ?_ ?_ ?_
      · rfl
      · rfl
      with_reducible apply Exists.intro
      with_reducible refine ⟨fun W hk _ => ?_, ?_⟩
      · have hb := (hk.block _ (lt_of_heap HB.out) (by simp)).trans HB.out
        obtain ⟨d0, d1, d2, d3, d4, d5, d6, d7⟩ := DxFacts hb
        clear hb
        unfold Oper.same
        go_simp
        first | rfl | exact ⟨rfl, rfl⟩
      with_reducible apply Exists.intro
      with_reducible refine ⟨?_, ?_⟩
      · go_simp
        rfl
      iterate 3
        with_reducible refine soup_q ?_ ?_ ?_
        · rfl
        · rfl
        with_reducible apply Exists.intro
        with_reducible refine ⟨fun W hk _ => ?_, ?_⟩
        · unfold Oper.same
          go_simp
          first | rfl | exact ⟨rfl, rfl⟩
        with_reducible apply Exists.intro
        with_reducible refine ⟨?_, ?_⟩
        · go_simp
          rfl
      with_reducible refine soup_q ?_ ?_ ?_
      · rfl
      · rfl
      with_reducible apply Exists.intro
      with_reducible refine ⟨fun W hk _ => ?_, ?_⟩
      · have q := (hk.cell _ HLB.out (by simp)).trans HQ0.out
        unfold Oper.same
        go_simp
        first | rfl | exact ⟨rfl, rfl⟩
      with_reducible apply Exists.intro
      with_reducible refine ⟨?_, ?_⟩
      · go_simp
        rfl
      with_reducible refine soup_q ?_ ?_ ?_
      · rfl
      · rfl
      with_reducible apply Exists.intro
      with_reducible refine ⟨fun W hk _ => ?_, ?_⟩
      · unfold Oper.same
        go_simp
        first | rfl | exact ⟨rfl, rfl⟩
      with_reducible apply Exists.intro
      with_reducible refine ⟨?_, ?_⟩
      · go_simp
        rfl
      with_reducible refine soup_q ?_ ?_ ?_
      · rfl
      · rfl
      with_reducible apply Exists.intro
      with_reducible refine ⟨fun W hk _ => ?_, ?_⟩
      · have hm1 := ((HM.out.keep hk (by simp)).cell 1).trans H1.out
        unfold Oper.same
        go_simp
        first | rfl | exact ⟨rfl, rfl⟩
      with_reducible apply Exists.intro
      with_reducible refine ⟨?_, ?_⟩
      · go_simp
        rfl
      iterate 2
        with_reducible refine soup_q ?_ ?_ ?_
        · rfl
        · rfl
        with_reducible apply Exists.intro
        with_reducible refine ⟨fun W hk _ => ?_, ?_⟩
        · unfold Oper.same
          go_simp
          first | rfl | exact ⟨rfl, rfl⟩
        with_reducible apply Exists.intro
        with_reducible refine ⟨?_, ?_⟩
        · go_simp
          rfl
      refine soup_nil (fun W hk hS => ?_)
      have HQ := Lib.hid (fun j u hj => (hk.cell _ HLB.out (by simp)).trans (HLC.out j u hj))
      have HK := Lib.hid (HK.out.trans hk)
      have HB := Lib.hid ((hk.block _ (lt_of_heap HB.out) (by simp)).trans HB.out)
      have HM := Lib.hid (HM.out.keep hk (by simp))
      have HZ := Lib.hid ((hk.block _ (lt_of_heap HZ.out) (by simp)).trans HZ.out)
      clear hk hS
      have q0 : W.cell? ⟨lb, lo + i * 6, none⟩ = some (.int .i64 x1) := HQ.out 0 _ rfl
      have q1 := HQ.out 1 _ rfl
      have q2 := HQ.out 2 _ rfl
      have q3 := HQ.out 3 _ rfl
      have q4 := HQ.out 4 _ rfl
      have q5 := HQ.out 5 _ rfl
      obtain ⟨d0, d1, d2, d3, d4, d5, d6, d7⟩ := DxFacts HB.out
      obtain ⟨w6, hw6⟩ : ∃ u, W.alloc (.cells #[.int .i64 0, .int .i64 0, .int .i64 0, .int .i64 0, .int .i64 0, .int .i64 0] 91) = u := ⟨_, rfl⟩
      have t6 : w6.heap[W.heap.size]? = some (.cells #[.int .i64 0, .int .i64 0, .int .i64 0, .int .i64 0, .int .i64 0, .int .i64 0] 91 (0, 0)) := by rw [← hw6]; exact World.alloc_heap_new W _
      obtain ⟨w7, hw7⟩ : ∃ u, w6.setRow W.heap.size #[.int .i64 x1, .int .i64 x2, .int .i64 x3, .int .i64 x4, .int .i64 st, .int .i64 dn] = u := ⟨_, rfl⟩
      have hst7 := run_storeVar_row (P := Tryz.prog) w6 W.heap.size 91 91 _ #[.int .i64 x1, .int .i64 x2, .int .i64 x3, .int .i64 x4, .int .i64 st, .int .i64 dn] t6 (by kernel_rfl) rfl (by simp [Value.oneCell'])
      rw [hw7] at hst7
      have t7 : w7.heap[W.heap.size]? = some (.cells #[.int .i64 x1, .int .i64 x2, .int .i64 x3, .int .i64 x4, .int .i64 st, .int .i64 dn] 91 (0, 0)) := by rw [← hw7]; exact setRow_heap w6 _ _ _ _ _ t6
      have k6 : Keep [] W w6 := by rw [← hw6]; exact (Keep.refl _ _).alloc _
      have k7 : Keep [W.heap.size] w6 w7 := by rw [← hw7]; exact (Keep.refl _ _).setRow _ _ (.inl (by simp))
      have k67 : Keep [] W w7 := k6.step k7 (fun y hy => .inr (by rw [List.mem_singleton.1 hy]; exact Nat.le_refl _))
      have hvs := lt_of_heap HZ.out
      have HST7 := Lib.hid hst7
      have HV := Lib.hid t7
      obtain ⟨m0, m1, m2, m3, m4, m5, m6⟩ := MvFacts t7
      have HK := Lib.hid (HK.out.trans k67)
      have HB := Lib.hid ((k67.block _ (lt_of_heap HB.out) (by simp)).trans HB.out)
      have HM := Lib.hid (HM.out.keep k67 (by simp))
      have HZ := Lib.hid ((k67.block _ (lt_of_heap HZ.out) (by simp)).trans HZ.out)
      have e0 := (HM.out.cell 0).trans H0.out
      clear t6 t7 k6 k7 k67 hst7 hw7
      have hvs7 := lt_of_heap HV.out
      go_upto_region 5 with ((with_reducible refine wpList_store_all ?_ 91 (.tmp 9) (.tmp 36) ?_ W.heap.size ?_ _ ?_ HST7.out ?_); rfl; rfl; rfl; rfl)
      clear q0 q1 q2 q3 q4 q5 d0 d1 d2 d3 d4 d5 d6 d7 hw6
      have e6 := (HM.out.cell 6).trans H6.out
      by_cases hA : k = 10 ∧ st = 1 ∧ fr = x4
      · obtain ⟨rfl, rfl, rfl⟩ := hA
        obtain ⟨w8, hw8⟩ : ∃ u, w7.setCell ⟨W.heap.size, 4, none⟩ (.int .i64 3) = u := ⟨_, rfl⟩
        have t8 : w8.heap[W.heap.size]? = some (.cells #[.int .i64 x1, .int .i64 x2, .int .i64 x3, .int .i64 fr, .int .i64 3, .int .i64 dn] 91 (0, 0)) := by rw [← hw8]; simp [World.setCell, Array.getElem?_modify, HV.out]
        have k8 : Keep [W.heap.size] w7 w8 := by rw [← hw8]; exact (Keep.refl _ _).setCell _ _ _ (.inl (by simp))
        have HK := Lib.hid (HK.out.step k8 (fun y hy => .inr (by rw [List.mem_singleton.1 hy]; omega)))
        have HB := Lib.hid ((k8.block _ (lt_of_heap HB.out) (by simp; omega)).trans HB.out)
        have HM := Lib.hid (HM.out.keep k8 (by simp; omega))
        have HZ := Lib.hid ((k8.block _ (lt_of_heap HZ.out) (by simp; omega)).trans HZ.out)
        have HV := Lib.hid t8
        obtain ⟨n8_0, n8_1, n8_2, n8_3, n8_4, n8_5, n8_6⟩ := MvFacts t8
        clear t8 k8
        have g6 := (HM.out.cell 6).trans H6.out
        have HK8S := Lib.hid HK.out.size
        have hvs8 := lt_of_heap HV.out
        by_cases hcd : code = 1
        · subst hcd
          obtain ⟨my, hmy⟩ : ∃ m, (Tb.mk ep nd oa oc own).may x2 fr = m := ⟨_, rfl⟩
          have hmv := refMove_any ⟨ep, nd, oa, oc, own⟩ x2 fr w8 (HIW.out.keep HK.out (by simp))
          unfold Tb.val at hmv
          simp only at hmv
          rw [hmy] at hmv
          have HMV := Lib.hid hmv
          have HMY := Lib.hid (show (Tb.mk ep nd none 0 own).may x2 fr = my from hmy)
          obtain ⟨d0, d1, d2, d3, d4, d5, d6, d7⟩ := DxFacts HB.out
          clear hmv hmy
          go_wp2_with (fail)
          refine HMV.out.mono ?_
          rintro e wm ⟨hmm, hkm⟩
          have HV := Lib.hid ((hkm.block _ (lt_of_heap HV.out) (by simp)).trans HV.out)
          have HK := Lib.hid (HK.out.trans hkm)
          have HB := Lib.hid ((hkm.block _ (lt_of_heap HB.out) (by simp)).trans HB.out)
          have HM := Lib.hid (HM.out.keep hkm (by simp))
          have HZ := Lib.hid ((hkm.block _ (lt_of_heap HZ.out) (by simp)).trans HZ.out)
          have hwm := lt_of_heap HV.out
          clear d0 d1 d2 d3 d4 d5 d6 d7 hw8 e0 e6 g6 m0 m1 m2 m3 m4 m5 m6 n8_0 n8_1 n8_2 n8_3 n8_4 n8_5 n8_6
          rcases hmm with ⟨hm, rfl⟩ | ⟨hm, a, c, rfl, hr⟩
          · have hy1 : (my == 0) = false := by simpa using hm
            have hy2 : decide (my = 0) = false := by simpa using hm
            obtain ⟨wa, hwa⟩ : ∃ u, wm.alloc (.cells #[.int .i64 0, .int .i64 0, .slice none 0 0] 24) = u := ⟨_, rfl⟩
            have ta : wa.heap[wm.heap.size]? = some (.cells #[.int .i64 0, .int .i64 0, .slice none 0 0] 24 (0, 0)) := by rw [← hwa]; exact World.alloc_heap_new wm _
            obtain ⟨wt, hwt⟩ : ∃ u, wa.setRow wm.heap.size #[.int .i64 0, .int .i64 0, .slice none 0 0] = u := ⟨_, rfl⟩
            have hstt := run_storeVar_row (P := Tryz.prog) wa wm.heap.size 24 24 _ #[.int .i64 0, .int .i64 0, .slice none 0 0] ta (by kernel_rfl) rfl (by simp [Value.oneCell'])
            rw [hwt] at hstt
            have tt : wt.heap[wm.heap.size]? = some (.cells #[.int .i64 0, .int .i64 0, .slice none 0 0] 24 (0, 0)) := by rw [← hwt]; exact setRow_heap wa _ _ _ _ _ ta
            have hkt : Keep [] wm wt := by
              have h1 : Keep [] wm wa := by rw [← hwa]; exact (Keep.refl _ _).alloc _
              have h2 : Keep [wm.heap.size] wa wt := by rw [← hwt]; exact (Keep.refl _ _).setRow _ _ (.inl (by simp))
              exact h1.step h2 (fun y hy => .inr (by rw [List.mem_singleton.1 hy]; exact Nat.le_refl _))
            have HSTT := Lib.hid hstt
            have HV := Lib.hid ((hkt.block _ (lt_of_heap HV.out) (by simp)).trans HV.out)
            obtain ⟨u0, u1, u2, u3⟩ := TbFacts tt
            obtain ⟨m0, m1, m2, m3, m4, m5, m6⟩ := MvFacts HV.out
            have HK := Lib.hid (HK.out.trans hkt)
            have HB := Lib.hid ((hkt.block _ (lt_of_heap HB.out) (by simp)).trans HB.out)
            have HM := Lib.hid (HM.out.keep hkt (by simp))
            have HZ := Lib.hid ((hkt.block _ (lt_of_heap HZ.out) (by simp)).trans HZ.out)
            have HT := Lib.hid tt
            clear hstt ta tt hwt
            clear hkt
            have HWT := Lib.hid (rwith_any (w := wt) (d := ⟨ep, nd, own, L, last, com, abo⟩) (oa := oa) oc lc (HLW.out.kept HK.out) (by simp only; omega) hil ⟨⟨x1, x2, x3, fr⟩, ⟨3, dn⟩⟩)
            simp only [Dx.cells, Mo.cells, List.length_set] at HWT
            go_wp2_with (first | ((with_reducible refine wpList_store_all ?_ 24 (.tmp 10) (.tmp 63) ?_ wm.heap.size ?_ _ ?_ HSTT.out ?_); rfl; rfl; rfl; rfl) | ((with_reducible refine wpList_load_row ?_ 54 (.tmp 3) ?_ (w.heap.size) ?_ 54 #[.int .i64 ep, .int .i64 nd, .slice oa own.length oc, .slice (some ⟨lb, lo, none⟩) L.length lc, .int .i64 last, .int .i64 com, .int .i64 abo] (0, 0) _ HB.out Tryz.underlying54 ?_ ?_ ?_); rfl; rfl; rfl; rfl; kernel_rfl))
            refine HWT.out.mono ?_
            rintro e w9 ⟨g, c9, rfl, hfl, hlc9, hg1, hg2, hk9⟩
            have HK9S := Lib.hid (show w.heap.size ≤ wt.heap.size from HK.out.size)
            have HZW := lt_of_heap HZ.out
            have HK := Lib.hid (HK.out.trans hk9)
            have HZ := Lib.hid ((hk9.block _ (lt_of_heap HZ.out) (by simp)).trans HZ.out)
            obtain ⟨w10, hw10⟩ : ∃ u, w9.setRow (w.heap.size + 1 + 1) #[.int .i64 ep, .int .i64 nd, .slice oa own.length oc, .slice (some ⟨g, 0, none⟩) L.length c9, .int .i64 last, .int .i64 com, .int .i64 abo] = u := ⟨_, rfl⟩
            have hst10 := run_storeVar_row (P := Tryz.prog) w9 (w.heap.size + 1 + 1) 54 54 _ #[.int .i64 ep, .int .i64 nd, .slice oa own.length oc, .slice (some ⟨g, 0, none⟩) L.length c9, .int .i64 last, .int .i64 com, .int .i64 abo] HZ.out (by kernel_rfl) rfl (by simp [Value.oneCell'])
            rw [hw10] at hst10
            have r10 : w10.heap[w.heap.size + 1 + 1]? = some (.cells #[.int .i64 ep, .int .i64 nd, .slice oa own.length oc, .slice (some ⟨g, 0, none⟩) L.length c9, .int .i64 last, .int .i64 com, .int .i64 abo] 54 (0, 0)) := by rw [← hw10]; exact setRow_heap w9 _ _ _ _ _ HZ.out
            have k10 : Keep [w.heap.size + 1 + 1] w9 w10 := by rw [← hw10]; exact (Keep.refl _ _).setRow _ _ (.inl (by simp))
            have HST10 := Lib.hid hst10
            have HR10 := Lib.hid r10
            have HKX10 := Lib.hid k10
            have HK10 := Lib.hid (HK.out.step k10 (fun y hy => .inr (by rw [List.mem_singleton.1 hy]; omega)))
            clear hst10 r10 k10 hw10
            have hgz : g ≠ w.heap.size + 1 + 1 := by omega
            have HF10 := Lib.hid (hfl.keep HKX10.out (fun _ b off hb => by cases hb; simpa using hgz))
            have hs10 := HKX10.out.size
            clear hfl hk9
            go_wp2_with ((with_reducible refine wpList_store_all ?_ 54 (.tmp 6) (.tmp 73) ?_ (w.heap.size + 1 + 1) ?_ _ ?_ HST10.out ?_); rfl; rfl; rfl; rfl)
            refine bodyPost_ret (results_c1 rfl _ _ w10 (w.heap.size + 1 + 1) _ (.bool true) rfl rfl (load_dx HR10.out)) rfl ?_
            have hres : dxHan ⟨ep, nd, own, L, last, com, abo⟩ fr 10 x1 pt 1 = (⟨ep, nd, own, L.set i ⟨⟨x1, x2, x3, fr⟩, ⟨3, dn⟩⟩, last, com, abo⟩, true) := by
              unfold dxHan
              simp only
              rw [HF.out]
              simp only [HGD.out]
              rw [if_neg (by simp), if_pos (by simp)]
              rw [if_neg (fun h => hm (by rw [← HMY.out]; exact h.2))]
            rw [hres]
            exact ⟨⟨_, rfl, oa, oc, some ⟨g, 0, none⟩, c9, by simp [Dx.cells], HIW.out.keep HK10.out (by simp), HF10.out, by simpa using hlc9, .inl rfl, .inr (fun b off hb => by cases hb; exact ⟨by have := HK9S.out; omega, by omega⟩)⟩, HK10.out⟩
          · subst hm
            have HNA := Lib.hid (show ∀ b off, a = some ⟨b, off, none⟩ → w8.heap.size ≤ b ∧ b < wm.heap.size from fun b off hb => ⟨own_base hr b (by rw [hb]; rfl), own_lt hr b (by rw [hb]; rfl)⟩)
            have HRA := Lib.hid hr.at
            have h8s := HK8S.out
            obtain ⟨wa, hwa⟩ : ∃ u, wm.alloc (.cells #[.int .i64 0, .int .i64 0, .slice none 0 0] 24) = u := ⟨_, rfl⟩
            have ta : wa.heap[wm.heap.size]? = some (.cells #[.int .i64 0, .int .i64 0, .slice none 0 0] 24 (0, 0)) := by rw [← hwa]; exact World.alloc_heap_new wm _
            obtain ⟨wt, hwt⟩ : ∃ u, wa.setRow wm.heap.size #[.int .i64 (ep + 1), .int .i64 nd, .slice a own.length c] = u := ⟨_, rfl⟩
            have hstt := run_storeVar_row (P := Tryz.prog) wa wm.heap.size 24 24 _ #[.int .i64 (ep + 1), .int .i64 nd, .slice a own.length c] ta (by kernel_rfl) rfl (by simp [Value.oneCell'])
            rw [hwt] at hstt
            have tt : wt.heap[wm.heap.size]? = some (.cells #[.int .i64 (ep + 1), .int .i64 nd, .slice a own.length c] 24 (0, 0)) := by rw [← hwt]; exact setRow_heap wa _ _ _ _ _ ta
            have hkt : Keep [] wm wt := by
              have h1 : Keep [] wm wa := by rw [← hwa]; exact (Keep.refl _ _).alloc _
              have h2 : Keep [wm.heap.size] wa wt := by rw [← hwt]; exact (Keep.refl _ _).setRow _ _ (.inl (by simp))
              exact h1.step h2 (fun y hy => .inr (by rw [List.mem_singleton.1 hy]; exact Nat.le_refl _))
            have HSTT := Lib.hid hstt
            have HV := Lib.hid ((hkt.block _ (lt_of_heap HV.out) (by simp)).trans HV.out)
            obtain ⟨u0, u1, u2, u3⟩ := TbFacts tt
            obtain ⟨m0, m1, m2, m3, m4, m5, m6⟩ := MvFacts HV.out
            have HK := Lib.hid (HK.out.trans hkt)
            have HB := Lib.hid ((hkt.block _ (lt_of_heap HB.out) (by simp)).trans HB.out)
            have HM := Lib.hid (HM.out.keep hkt (by simp))
            have HZ := Lib.hid ((hkt.block _ (lt_of_heap HZ.out) (by simp)).trans HZ.out)
            have HT := Lib.hid tt
            clear hstt ta tt hwt
            have HKT := Lib.hid hkt
            clear hkt hr
            obtain ⟨d0, d1, d2, d3, d4, d5, d6, d7⟩ := DxFacts HB.out
            obtain ⟨w11, hw11⟩ : ∃ u, ((wt.setCell ⟨w.heap.size, 0, none⟩ (.int .i64 (ep + 1))).setCell ⟨w.heap.size, 1, none⟩ (.int .i64 nd)).setCell ⟨w.heap.size, 2, none⟩ (.slice a own.length c) = u := ⟨_, rfl⟩
            have b11 : w11.heap[w.heap.size]? = some (.cells #[.int .i64 (ep + 1), .int .i64 nd, .slice a own.length c, .slice (some ⟨lb, lo, none⟩) L.length lc, .int .i64 last, .int .i64 com, .int .i64 abo] 54 (0, 0)) := by rw [← hw11]; simp [World.setCell, Array.getElem?_modify, HB.out]
            have k11 : Keep [w.heap.size] wt w11 := by rw [← hw11]; exact (((Keep.refl _ _).setCell _ _ _ (.inl (by simp))).setCell _ _ _ (.inl (by simp))).setCell _ _ _ (.inl (by simp))
            have HK := Lib.hid (HK.out.step k11 (fun y hy => .inr (by rw [List.mem_singleton.1 hy]; exact Nat.le_refl _)))
            have HB := Lib.hid b11
            have HM := Lib.hid (HM.out.keep k11 (by simp))
            have HZ := Lib.hid ((k11.block _ (lt_of_heap HZ.out) (by simp <;> omega)).trans HZ.out)
            have HV := Lib.hid ((k11.block _ (lt_of_heap HV.out) (by simp <;> omega)).trans HV.out)
            have HRA := Lib.hid ((HRA.out.keep HKT.out (by simp)).keep k11 (fun _ b off hb => by have := (HNA.out b off hb).1; simp; omega))
            have HN11 := Lib.hid k11.size
            have HNT := Lib.hid HKT.out.size
            obtain ⟨p0, p1, p2, p3, p4, p5, p6⟩ := MvFacts HV.out
            clear b11 k11
            obtain ⟨w12, hw12⟩ : ∃ u, w11.setCell ⟨W.heap.size, 4, none⟩ (.int .i64 2) = u := ⟨_, rfl⟩
            have t12 : w12.heap[W.heap.size]? = some (.cells #[.int .i64 x1, .int .i64 x2, .int .i64 x3, .int .i64 fr, .int .i64 2, .int .i64 dn] 91 (0, 0)) := by rw [← hw12]; simp [World.setCell, Array.getElem?_modify, HV.out]
            have k12 : Keep [W.heap.size] w11 w12 := by rw [← hw12]; exact (Keep.refl _ _).setCell _ _ _ (.inl (by simp))
            have HK := Lib.hid (HK.out.step k12 (fun y hy => .inr (by rw [List.mem_singleton.1 hy]; omega)))
            have HB := Lib.hid ((k12.block _ (lt_of_heap HB.out) (by simp; omega)).trans HB.out)
            have HM := Lib.hid (HM.out.keep k12 (by simp; omega))
            have HZ := Lib.hid ((k12.block _ (lt_of_heap HZ.out) (by simp; omega)).trans HZ.out)
            have HV := Lib.hid t12
            obtain ⟨n12_0, n12_1, n12_2, n12_3, n12_4, n12_5, n12_6⟩ := MvFacts t12
            have KX12 := Lib.hid k12
            clear t12 k12
            have HRB := Lib.hid (HRA.out.keep KX12.out (fun _ b off hb => by have := (HNA.out b off hb).1; simp; omega))
            have HN12 := Lib.hid KX12.out.size
            have HWT := Lib.hid (rwith_any (w := w12) (d := ⟨ep + 1, nd, own.set x2.toNat fr, L, last, com, abo⟩) (oa := a) c lc (HLW.out.kept HK.out) (by simp only; omega) hil ⟨⟨x1, x2, x3, fr⟩, ⟨2, dn⟩⟩)
            simp only [Dx.cells, Mo.cells, List.length_set] at HWT
            go_wp2_with (first | ((with_reducible refine wpList_store_all ?_ 24 (.tmp 10) (.tmp 63) ?_ wm.heap.size ?_ _ ?_ HSTT.out ?_); rfl; rfl; rfl; rfl) | ((with_reducible refine wpList_load_row ?_ 54 (.tmp 3) ?_ (w.heap.size) ?_ 54 #[.int .i64 (ep + 1), .int .i64 nd, .slice a own.length c, .slice (some ⟨lb, lo, none⟩) L.length lc, .int .i64 last, .int .i64 com, .int .i64 abo] (0, 0) _ HB.out Tryz.underlying54 ?_ ?_ ?_); rfl; rfl; rfl; rfl; kernel_rfl))
            refine HWT.out.mono ?_
            rintro e w9 ⟨g, c9, rfl, hfl, hlc9, hg1, hg2, hk9⟩
            have HK9S := Lib.hid (show w.heap.size ≤ w12.heap.size from HK.out.size)
            have HZW := lt_of_heap HZ.out
            have HK := Lib.hid (HK.out.trans hk9)
            have HZ := Lib.hid ((hk9.block _ (lt_of_heap HZ.out) (by simp)).trans HZ.out)
            obtain ⟨w13, hw13⟩ : ∃ u, w9.setRow (w.heap.size + 1 + 1) #[.int .i64 (ep + 1), .int .i64 nd, .slice a own.length c, .slice (some ⟨g, 0, none⟩) L.length c9, .int .i64 last, .int .i64 com, .int .i64 abo] = u := ⟨_, rfl⟩
            have hst13 := run_storeVar_row (P := Tryz.prog) w9 (w.heap.size + 1 + 1) 54 54 _ #[.int .i64 (ep + 1), .int .i64 nd, .slice a own.length c, .slice (some ⟨g, 0, none⟩) L.length c9, .int .i64 last, .int .i64 com, .int .i64 abo] HZ.out (by kernel_rfl) rfl (by simp [Value.oneCell'])
            rw [hw13] at hst13
            have r13 : w13.heap[w.heap.size + 1 + 1]? = some (.cells #[.int .i64 (ep + 1), .int .i64 nd, .slice a own.length c, .slice (some ⟨g, 0, none⟩) L.length c9, .int .i64 last, .int .i64 com, .int .i64 abo] 54 (0, 0)) := by rw [← hw13]; exact setRow_heap w9 _ _ _ _ _ HZ.out
            have k13 : Keep [w.heap.size + 1 + 1] w9 w13 := by rw [← hw13]; exact (Keep.refl _ _).setRow _ _ (.inl (by simp))
            have HST13 := Lib.hid hst13
            have HR13 := Lib.hid r13
            have HKX13 := Lib.hid k13
            have HK13 := Lib.hid (HK.out.step k13 (fun y hy => .inr (by rw [List.mem_singleton.1 hy]; omega)))
            clear hst13 r13 k13 hw13
            have hgz : g ≠ w.heap.size + 1 + 1 := by omega
            have HF10 := Lib.hid (hfl.keep HKX13.out (fun _ b off hb => by cases hb; simpa using hgz))
            have hs10 := HKX13.out.size
            have HW9K := Lib.hid hk9
            have HW9S := Lib.hid hk9.size
            clear hfl hk9
            go_wp2_with ((with_reducible refine wpList_store_all ?_ 54 (.tmp 6) (.tmp 73) ?_ (w.heap.size + 1 + 1) ?_ _ ?_ HST13.out ?_); rfl; rfl; rfl; rfl)
            refine bodyPost_ret (results_c1 rfl _ _ w13 (w.heap.size + 1 + 1) _ (.bool true) rfl rfl (load_dx HR13.out)) rfl ?_
            have hres : dxHan ⟨ep, nd, own, L, last, com, abo⟩ fr 10 x1 pt 1 = (⟨ep + 1, nd, own.set x2.toNat fr, L.set i ⟨⟨x1, x2, x3, fr⟩, ⟨2, dn⟩⟩, last, com, abo⟩, true) := by
              unfold dxHan
              simp only
              rw [HF.out]
              simp only [HGD.out]
              rw [if_neg (by simp), if_pos (by simp)]
              rw [if_pos (by first | exact ⟨rfl, HMY.out⟩ | exact ⟨trivial, HMY.out⟩)]
            rw [hres]
            exact ⟨⟨_, rfl, a, c, some ⟨g, 0, none⟩, c9, by simp [Dx.cells], ((HRB.out.keep HW9K.out (by simp)).keep HKX13.out (fun _ b off hb => by have := (HNA.out b off hb).1; simp; omega)), HF10.out, by simpa using hlc9, .inr (fun b off hb => ⟨by have := (HNA.out b off hb).1; omega, by have := (HNA.out b off hb).2; have := HN11.out; have := HN12.out; have := HNT.out; have := HW9S.out; omega⟩), .inr (fun b off hb => by cases hb; exact ⟨by have := HK9S.out; omega, by omega⟩)⟩, HK13.out⟩
        · have hc1 : (code == 1) = false := by simpa using hcd
          have hc2 : decide (code = 1) = false := by simpa using hcd
          have HWT := Lib.hid (rwith_any (w := w8) (d := ⟨ep, nd, own, L, last, com, abo⟩) (oa := oa) oc lc (HLW.out.kept HK.out) (by simp only; omega) hil ⟨⟨x1, x2, x3, fr⟩, ⟨3, dn⟩⟩)
          simp only [Dx.cells, Mo.cells, List.length_set] at HWT
          go_wp2_with (first | ((with_reducible refine wpList_load_row ?_ 54 (.tmp 3) ?_ (w.heap.size) ?_ 54 #[.int .i64 ep, .int .i64 nd, .slice oa own.length oc, .slice (some ⟨lb, lo, none⟩) L.length lc, .int .i64 last, .int .i64 com, .int .i64 abo] (0, 0) _ HB.out Tryz.underlying54 ?_ ?_ ?_); rfl; rfl; rfl; rfl; kernel_rfl))
          refine HWT.out.mono ?_
          rintro e w9 ⟨g, c9, rfl, hfl, hlc9, hg1, hg2, hk9⟩
          have HK9S := Lib.hid (show w.heap.size ≤ w8.heap.size from HK.out.size)
          have HZW := lt_of_heap HZ.out
          have HK := Lib.hid (HK.out.trans hk9)
          have HZ := Lib.hid ((hk9.block _ (lt_of_heap HZ.out) (by simp)).trans HZ.out)
          obtain ⟨w10, hw10⟩ : ∃ u, w9.setRow (w.heap.size + 1 + 1) #[.int .i64 ep, .int .i64 nd, .slice oa own.length oc, .slice (some ⟨g, 0, none⟩) L.length c9, .int .i64 last, .int .i64 com, .int .i64 abo] = u := ⟨_, rfl⟩
          have hst10 := run_storeVar_row (P := Tryz.prog) w9 (w.heap.size + 1 + 1) 54 54 _ #[.int .i64 ep, .int .i64 nd, .slice oa own.length oc, .slice (some ⟨g, 0, none⟩) L.length c9, .int .i64 last, .int .i64 com, .int .i64 abo] HZ.out (by kernel_rfl) rfl (by simp [Value.oneCell'])
          rw [hw10] at hst10
          have r10 : w10.heap[w.heap.size + 1 + 1]? = some (.cells #[.int .i64 ep, .int .i64 nd, .slice oa own.length oc, .slice (some ⟨g, 0, none⟩) L.length c9, .int .i64 last, .int .i64 com, .int .i64 abo] 54 (0, 0)) := by rw [← hw10]; exact setRow_heap w9 _ _ _ _ _ HZ.out
          have k10 : Keep [w.heap.size + 1 + 1] w9 w10 := by rw [← hw10]; exact (Keep.refl _ _).setRow _ _ (.inl (by simp))
          have HST10 := Lib.hid hst10
          have HR10 := Lib.hid r10
          have HKX10 := Lib.hid k10
          have HK10 := Lib.hid (HK.out.step k10 (fun y hy => .inr (by rw [List.mem_singleton.1 hy]; omega)))
          clear hst10 r10 k10 hw10
          have hgz : g ≠ w.heap.size + 1 + 1 := by omega
          have HF10 := Lib.hid (hfl.keep HKX10.out (fun _ b off hb => by cases hb; simpa using hgz))
          have hs10 := HKX10.out.size
          clear hfl hk9
          go_wp2_with ((with_reducible refine wpList_store_all ?_ 54 (.tmp 6) (.tmp 73) ?_ (w.heap.size + 1 + 1) ?_ _ ?_ HST10.out ?_); rfl; rfl; rfl; rfl)
          refine bodyPost_ret (results_c1 rfl _ _ w10 (w.heap.size + 1 + 1) _ (.bool true) rfl rfl (load_dx HR10.out)) rfl ?_
          have hres : dxHan ⟨ep, nd, own, L, last, com, abo⟩ fr 10 x1 pt code = (⟨ep, nd, own, L.set i ⟨⟨x1, x2, x3, fr⟩, ⟨3, dn⟩⟩, last, com, abo⟩, true) := by
            unfold dxHan
            simp only
            rw [HF.out]
            simp only [HGD.out]
            rw [if_neg (by simp), if_pos (by simp)]
            rw [if_neg (fun h => hcd h.1)]
          rw [hres]
          exact ⟨⟨_, rfl, oa, oc, some ⟨g, 0, none⟩, c9, by simp [Dx.cells], HIW.out.keep HK10.out (by simp), HF10.out, by simpa using hlc9, .inl rfl, .inr (fun b off hb => by cases hb; exact ⟨by have := HK9S.out; omega, by omega⟩)⟩, HK10.out⟩
      by_cases h10 : k = 10
      · subst h10
        by_cases hst : st = 1
        · subst hst
          have hf4 : ¬ fr = x4 := fun h => hA ⟨rfl, rfl, h⟩
          have hf41 : (fr == x4) = false := by simpa using hf4
          have hf42 : decide (fr = x4) = false := by simpa using hf4
          have hf43 : (fr != x4) = true := by simpa using hf4
          obtain ⟨w8, hw8⟩ : ∃ u, w7.setRow (w.heap.size + 1 + 1) #[.int .i64 ep, .int .i64 nd, .slice oa own.length oc, .slice (some ⟨lb, lo, none⟩) L.length lc, .int .i64 last, .int .i64 com, .int .i64 abo] = u := ⟨_, rfl⟩
          have hst8 := run_storeVar_row (P := Tryz.prog) w7 (w.heap.size + 1 + 1) 54 54 _ #[.int .i64 ep, .int .i64 nd, .slice oa own.length oc, .slice (some ⟨lb, lo, none⟩) L.length lc, .int .i64 last, .int .i64 com, .int .i64 abo] HZ.out (by kernel_rfl) rfl (by simp [Value.oneCell'])
          rw [hw8] at hst8
          have r8 : w8.heap[w.heap.size + 1 + 1]? = some (.cells #[.int .i64 ep, .int .i64 nd, .slice oa own.length oc, .slice (some ⟨lb, lo, none⟩) L.length lc, .int .i64 last, .int .i64 com, .int .i64 abo] 54 (0, 0)) := by rw [← hw8]; exact setRow_heap w7 _ _ _ _ _ HZ.out
          have k8 : Keep [w.heap.size + 1 + 1] w7 w8 := by rw [← hw8]; exact (Keep.refl _ _).setRow _ _ (.inl (by simp))
          have HST8 := Lib.hid hst8
          have HR8 := Lib.hid r8
          have HKX8 := Lib.hid k8
          have HK8 := Lib.hid (HK.out.step k8 (fun y hy => .inr (by rw [List.mem_singleton.1 hy]; omega)))
          clear hst8 r8 k8 hw8
          go_wp2_with (first | ((with_reducible refine wpList_load_row ?_ 54 (.tmp 3) ?_ (w.heap.size) ?_ 54 #[.int .i64 ep, .int .i64 nd, .slice oa own.length oc, .slice (some ⟨lb, lo, none⟩) L.length lc, .int .i64 last, .int .i64 com, .int .i64 abo] (0, 0) _ HB.out Tryz.underlying54 ?_ ?_ ?_); rfl; rfl; rfl; rfl; kernel_rfl) | ((with_reducible refine wpList_store_all ?_ 54 (.tmp 6) (.tmp 94) ?_ (w.heap.size + 1 + 1) ?_ _ ?_ HST8.out ?_); rfl; rfl; rfl; rfl))
          refine bodyPost_ret (results_c1 rfl _ _ w8 (w.heap.size + 1 + 1) _ (.bool false) rfl rfl (load_dx HR8.out)) rfl ?_
          have hres : dxHan ⟨ep, nd, own, L, last, com, abo⟩ fr 10 x1 pt code = (⟨ep, nd, own, L, last, com, abo⟩, false) := by
            unfold dxHan
            simp only
            rw [HF.out]
            simp only [HGD.out]
            rw [if_neg (by simp), if_neg hA, if_pos (.inl (by decide))]
          rw [hres]
          exact ⟨⟨_, rfl, DxP.same (d := ⟨ep, nd, own, L, last, com, abo⟩) HIW.out HLW.out hcap HK8.out⟩, HK8.out⟩
        · have hst1 : (st == 1) = false := by simpa using hst
          have hst2 : decide (st = 1) = false := by simpa using hst
          have hst3 : (st != 1) = true := by simpa using hst
          obtain ⟨w8, hw8⟩ : ∃ u, w7.setRow (w.heap.size + 1 + 1) #[.int .i64 ep, .int .i64 nd, .slice oa own.length oc, .slice (some ⟨lb, lo, none⟩) L.length lc, .int .i64 last, .int .i64 com, .int .i64 abo] = u := ⟨_, rfl⟩
          have hst8 := run_storeVar_row (P := Tryz.prog) w7 (w.heap.size + 1 + 1) 54 54 _ #[.int .i64 ep, .int .i64 nd, .slice oa own.length oc, .slice (some ⟨lb, lo, none⟩) L.length lc, .int .i64 last, .int .i64 com, .int .i64 abo] HZ.out (by kernel_rfl) rfl (by simp [Value.oneCell'])
          rw [hw8] at hst8
          have r8 : w8.heap[w.heap.size + 1 + 1]? = some (.cells #[.int .i64 ep, .int .i64 nd, .slice oa own.length oc, .slice (some ⟨lb, lo, none⟩) L.length lc, .int .i64 last, .int .i64 com, .int .i64 abo] 54 (0, 0)) := by rw [← hw8]; exact setRow_heap w7 _ _ _ _ _ HZ.out
          have k8 : Keep [w.heap.size + 1 + 1] w7 w8 := by rw [← hw8]; exact (Keep.refl _ _).setRow _ _ (.inl (by simp))
          have HST8 := Lib.hid hst8
          have HR8 := Lib.hid r8
          have HKX8 := Lib.hid k8
          have HK8 := Lib.hid (HK.out.step k8 (fun y hy => .inr (by rw [List.mem_singleton.1 hy]; omega)))
          clear hst8 r8 k8 hw8
          go_wp2_with (first | ((with_reducible refine wpList_load_row ?_ 54 (.tmp 3) ?_ (w.heap.size) ?_ 54 #[.int .i64 ep, .int .i64 nd, .slice oa own.length oc, .slice (some ⟨lb, lo, none⟩) L.length lc, .int .i64 last, .int .i64 com, .int .i64 abo] (0, 0) _ HB.out Tryz.underlying54 ?_ ?_ ?_); rfl; rfl; rfl; rfl; kernel_rfl) | ((with_reducible refine wpList_store_all ?_ 54 (.tmp 6) (.tmp 94) ?_ (w.heap.size + 1 + 1) ?_ _ ?_ HST8.out ?_); rfl; rfl; rfl; rfl))
          refine bodyPost_ret (results_c1 rfl _ _ w8 (w.heap.size + 1 + 1) _ (.bool false) rfl rfl (load_dx HR8.out)) rfl ?_
          have hres : dxHan ⟨ep, nd, own, L, last, com, abo⟩ fr 10 x1 pt code = (⟨ep, nd, own, L, last, com, abo⟩, false) := by
            unfold dxHan
            simp only
            rw [HF.out]
            simp only [HGD.out]
            rw [if_neg (by simp), if_neg hA, if_pos (.inl (by decide))]
          rw [hres]
          exact ⟨⟨_, rfl, DxP.same (d := ⟨ep, nd, own, L, last, com, abo⟩) HIW.out HLW.out hcap HK8.out⟩, HK8.out⟩
      have h101 : ((k : Int) == 10) = false := by simp; omega
      have h102 : decide ((k : Int) = 10) = false := by simp; omega
      by_cases h13 : k = 13
      · subst h13
        by_cases hst : st = 1
        · subst hst
          obtain ⟨w8, hw8⟩ : ∃ u, w7.setRow (w.heap.size + 1 + 1) #[.int .i64 ep, .int .i64 nd, .slice oa own.length oc, .slice (some ⟨lb, lo, none⟩) L.length lc, .int .i64 last, .int .i64 com, .int .i64 abo] = u := ⟨_, rfl⟩
          have hst8 := run_storeVar_row (P := Tryz.prog) w7 (w.heap.size + 1 + 1) 54 54 _ #[.int .i64 ep, .int .i64 nd, .slice oa own.length oc, .slice (some ⟨lb, lo, none⟩) L.length lc, .int .i64 last, .int .i64 com, .int .i64 abo] HZ.out (by kernel_rfl) rfl (by simp [Value.oneCell'])
          rw [hw8] at hst8
          have r8 : w8.heap[w.heap.size + 1 + 1]? = some (.cells #[.int .i64 ep, .int .i64 nd, .slice oa own.length oc, .slice (some ⟨lb, lo, none⟩) L.length lc, .int .i64 last, .int .i64 com, .int .i64 abo] 54 (0, 0)) := by rw [← hw8]; exact setRow_heap w7 _ _ _ _ _ HZ.out
          have k8 : Keep [w.heap.size + 1 + 1] w7 w8 := by rw [← hw8]; exact (Keep.refl _ _).setRow _ _ (.inl (by simp))
          have HST8 := Lib.hid hst8
          have HR8 := Lib.hid r8
          have HKX8 := Lib.hid k8
          have HK8 := Lib.hid (HK.out.step k8 (fun y hy => .inr (by rw [List.mem_singleton.1 hy]; omega)))
          clear hst8 r8 k8 hw8
          go_wp2_with (first | ((with_reducible refine wpList_load_row ?_ 54 (.tmp 3) ?_ (w.heap.size) ?_ 54 #[.int .i64 ep, .int .i64 nd, .slice oa own.length oc, .slice (some ⟨lb, lo, none⟩) L.length lc, .int .i64 last, .int .i64 com, .int .i64 abo] (0, 0) _ HB.out Tryz.underlying54 ?_ ?_ ?_); rfl; rfl; rfl; rfl; kernel_rfl) | ((with_reducible refine wpList_store_all ?_ 54 (.tmp 6) (.tmp 94) ?_ (w.heap.size + 1 + 1) ?_ _ ?_ HST8.out ?_); rfl; rfl; rfl; rfl))
          refine bodyPost_ret (results_c1 rfl _ _ w8 (w.heap.size + 1 + 1) _ (.bool false) rfl rfl (load_dx HR8.out)) rfl ?_
          have hres : dxHan ⟨ep, nd, own, L, last, com, abo⟩ fr 13 x1 pt code = (⟨ep, nd, own, L, last, com, abo⟩, false) := by
            unfold dxHan
            simp only
            rw [HF.out]
            simp only [HGD.out]
            rw [if_neg (by simp), if_neg hA, if_pos (by simp)]
          rw [hres]
          exact ⟨⟨_, rfl, DxP.same (d := ⟨ep, nd, own, L, last, com, abo⟩) HIW.out HLW.out hcap HK8.out⟩, HK8.out⟩
        · have hst1 : (st == 1) = false := by simpa using hst
          have hst2 : decide (st = 1) = false := by simpa using hst
          have hst3 : (st != 1) = true := by simpa using hst
          by_cases hx4 : fr = x4
          · subst hx4
            have hx3 : ¬ fr = x3 := fun h => HNX.out h.symm
            have hx31 : (fr == x3) = false := by simpa using hx3
            have hx32 : decide (fr = x3) = false := by simpa using hx3
            have hx33 : (fr != x3) = true := by simpa using hx3
            rcases dn3 hdx with hd0 | hd1 | hd2
            · subst hd0
              obtain ⟨w8, hw8⟩ : ∃ u, w7.setCell ⟨W.heap.size, 5, none⟩ (.int .i64 2) = u := ⟨_, rfl⟩
              have t8 : w8.heap[W.heap.size]? = some (.cells #[.int .i64 x1, .int .i64 x2, .int .i64 x3, .int .i64 fr, .int .i64 st, .int .i64 2] 91 (0, 0)) := by rw [← hw8]; simp [World.setCell, Array.getElem?_modify, HV.out]
              have k8 : Keep [W.heap.size] w7 w8 := by rw [← hw8]; exact (Keep.refl _ _).setCell _ _ _ (.inl (by simp))
              have HK := Lib.hid (HK.out.step k8 (fun y hy => .inr (by rw [List.mem_singleton.1 hy]; omega)))
              have HB := Lib.hid ((k8.block _ (lt_of_heap HB.out) (by simp; omega)).trans HB.out)
              have HM := Lib.hid (HM.out.keep k8 (by simp; omega))
              have HZ := Lib.hid ((k8.block _ (lt_of_heap HZ.out) (by simp; omega)).trans HZ.out)
              have HV := Lib.hid t8
              obtain ⟨n8_0, n8_1, n8_2, n8_3, n8_4, n8_5, n8_6⟩ := MvFacts t8
              clear t8 k8
              have HWT := Lib.hid (rwith_any (w := w8) (d := ⟨ep, nd, own, L, last, com, abo⟩) (oa := oa) oc lc (HLW.out.kept HK.out) (by simp only; omega) hil ⟨⟨x1, x2, x3, fr⟩, ⟨st, 2⟩⟩)
              simp only [Dx.cells, Mo.cells, List.length_set] at HWT
              go_wp2_with (first | ((with_reducible refine wpList_load_row ?_ 54 (.tmp 3) ?_ (w.heap.size) ?_ 54 #[.int .i64 ep, .int .i64 nd, .slice oa own.length oc, .slice (some ⟨lb, lo, none⟩) L.length lc, .int .i64 last, .int .i64 com, .int .i64 abo] (0, 0) _ HB.out Tryz.underlying54 ?_ ?_ ?_); rfl; rfl; rfl; rfl; kernel_rfl))
              refine HWT.out.mono ?_
              rintro e w9 ⟨g, c9, rfl, hfl, hlc9, hg1, hg2, hk9⟩
              have HK9S := Lib.hid (show w.heap.size ≤ w8.heap.size from HK.out.size)
              have HZW := lt_of_heap HZ.out
              have HK := Lib.hid (HK.out.trans hk9)
              have HZ := Lib.hid ((hk9.block _ (lt_of_heap HZ.out) (by simp)).trans HZ.out)
              obtain ⟨w10, hw10⟩ : ∃ u, w9.setRow (w.heap.size + 1 + 1) #[.int .i64 ep, .int .i64 nd, .slice oa own.length oc, .slice (some ⟨g, 0, none⟩) L.length c9, .int .i64 last, .int .i64 com, .int .i64 abo] = u := ⟨_, rfl⟩
              have hst10 := run_storeVar_row (P := Tryz.prog) w9 (w.heap.size + 1 + 1) 54 54 _ #[.int .i64 ep, .int .i64 nd, .slice oa own.length oc, .slice (some ⟨g, 0, none⟩) L.length c9, .int .i64 last, .int .i64 com, .int .i64 abo] HZ.out (by kernel_rfl) rfl (by simp [Value.oneCell'])
              rw [hw10] at hst10
              have r10 : w10.heap[w.heap.size + 1 + 1]? = some (.cells #[.int .i64 ep, .int .i64 nd, .slice oa own.length oc, .slice (some ⟨g, 0, none⟩) L.length c9, .int .i64 last, .int .i64 com, .int .i64 abo] 54 (0, 0)) := by rw [← hw10]; exact setRow_heap w9 _ _ _ _ _ HZ.out
              have k10 : Keep [w.heap.size + 1 + 1] w9 w10 := by rw [← hw10]; exact (Keep.refl _ _).setRow _ _ (.inl (by simp))
              have HST10 := Lib.hid hst10
              have HR10 := Lib.hid r10
              have HKX10 := Lib.hid k10
              have HK10 := Lib.hid (HK.out.step k10 (fun y hy => .inr (by rw [List.mem_singleton.1 hy]; omega)))
              clear hst10 r10 k10 hw10
              have hgz : g ≠ w.heap.size + 1 + 1 := by omega
              have HF10 := Lib.hid (hfl.keep HKX10.out (fun _ b off hb => by cases hb; simpa using hgz))
              have hs10 := HKX10.out.size
              clear hfl hk9
              go_wp2_with ((with_reducible refine wpList_store_all ?_ 54 (.tmp 6) (.tmp 115) ?_ (w.heap.size + 1 + 1) ?_ _ ?_ HST10.out ?_); rfl; rfl; rfl; rfl)
              refine bodyPost_ret (results_c1 rfl _ _ w10 (w.heap.size + 1 + 1) _ (.bool true) rfl rfl (load_dx HR10.out)) rfl ?_
              have hres : dxHan ⟨ep, nd, own, L, last, com, abo⟩ fr 13 x1 pt code = (⟨ep, nd, own, L.set i ⟨⟨x1, x2, x3, fr⟩, ⟨st, 2⟩⟩, last, com, abo⟩, true) := by
                unfold dxHan
                simp only
                rw [HF.out]
                simp only [HGD.out]
                rw [if_neg (by simp), if_neg hA, if_neg (by simp [hst])]
                simp only [if_true]
                rw [if_neg (by decide), if_pos (by decide)]
              rw [hres]
              exact ⟨⟨_, rfl, oa, oc, some ⟨g, 0, none⟩, c9, by simp [Dx.cells], HIW.out.keep HK10.out (by simp), HF10.out, by simpa using hlc9, .inl rfl, .inr (fun b off hb => by cases hb; exact ⟨by have := HK9S.out; omega, by omega⟩)⟩, HK10.out⟩
            · subst hd1
              obtain ⟨w8, hw8⟩ : ∃ u, w7.setCell ⟨W.heap.size, 5, none⟩ (.int .i64 3) = u := ⟨_, rfl⟩
              have t8 : w8.heap[W.heap.size]? = some (.cells #[.int .i64 x1, .int .i64 x2, .int .i64 x3, .int .i64 fr, .int .i64 st, .int .i64 3] 91 (0, 0)) := by rw [← hw8]; simp [World.setCell, Array.getElem?_modify, HV.out]
              have k8 : Keep [W.heap.size] w7 w8 := by rw [← hw8]; exact (Keep.refl _ _).setCell _ _ _ (.inl (by simp))
              have HK := Lib.hid (HK.out.step k8 (fun y hy => .inr (by rw [List.mem_singleton.1 hy]; omega)))
              have HB := Lib.hid ((k8.block _ (lt_of_heap HB.out) (by simp; omega)).trans HB.out)
              have HM := Lib.hid (HM.out.keep k8 (by simp; omega))
              have HZ := Lib.hid ((k8.block _ (lt_of_heap HZ.out) (by simp; omega)).trans HZ.out)
              have HV := Lib.hid t8
              obtain ⟨n8_0, n8_1, n8_2, n8_3, n8_4, n8_5, n8_6⟩ := MvFacts t8
              clear t8 k8
              by_cases hs2 : st = 2
              · subst hs2
                obtain ⟨d0, d1, d2, d3, d4, d5, d6, d7⟩ := DxFacts HB.out
                have hwl : IntKind.i64.wrap (com + 1) = com + 1 := by rw [IntKind.wrap_i64]; omega
                obtain ⟨w9, hw9⟩ : ∃ u, w8.setCell ⟨w.heap.size, 5, none⟩ (.int .i64 (com + 1)) = u := ⟨_, rfl⟩
                have b9 : w9.heap[w.heap.size]? = some (.cells #[.int .i64 ep, .int .i64 nd, .slice oa own.length oc, .slice (some ⟨lb, lo, none⟩) L.length lc, .int .i64 last, .int .i64 (com + 1), .int .i64 abo] 54 (0, 0)) := by rw [← hw9]; simp [World.setCell, Array.getElem?_modify, HB.out]
                have k9 : Keep [w.heap.size] w8 w9 := by rw [← hw9]; exact (Keep.refl _ _).setCell _ _ _ (.inl (by simp))
                have HK := Lib.hid (HK.out.step k9 (fun y hy => .inr (by rw [List.mem_singleton.1 hy]; exact Nat.le_refl _)))
                have HB := Lib.hid b9
                have HZ := Lib.hid ((k9.block _ (lt_of_heap HZ.out) (by simp <;> omega)).trans HZ.out)
                have HL9 := Lib.hid (HLW.out.kept HK.out)
                obtain ⟨r0, r1, r2, r3, r4, r5, r6, r7⟩ := DxFacts b9
                have hw9s := lt_of_heap HZ.out
                clear b9 k9
                have hilc : (i : Int) ≤ (lc : Int) := by omega
                have hil1 : (i : Int) + 1 ≤ (L.length : Int) := by omega
                have hcl : (L.length : Int) ≤ (lc : Int) := by omega
                go_wp2_with (at_builtin; refine wpList_append_dm rfl _ _ rfl w.heap.size (.slice none 0 0) [] (L.take i) rfl (DmRow.nil _ _) (some ⟨lb, lo, none⟩) i lc rfl (by rw [List.length_take]; omega) (HL9.out.take i) (by simp; omega) (by omega) ?_)
                intro v' wA hrow hkA hnew
                try simp only [List.nil_append] at hrow
                have hkA : Keep [] w9 wA := hkA.mono (by simp [Value.ownBlock])
                have hli : (L.take i).length = i := by rw [List.length_take]; omega
                obtain ⟨av, cv, rfl, _⟩ := own_shape hrow
                rw [hli] at hrow hnew
                have HROW : Hid (DmRow w.heap.size wA (.slice av i cv) (L.take i)) := Lib.hid hrow
                have HNW := Lib.hid (show ∀ g, (Value.slice av i cv).ownBlock = some g → w9.heap.size ≤ g from fun g hg => by
                  rcases hnew with h | h
                  · rw [h] at hg; cases hg
                  · rw [h] at hg; cases hg; exact Nat.le_refl _)
                rw [hli]
                have HK := Lib.hid (HK.out.trans hkA)
                have HB := Lib.hid ((hkA.block _ (lt_of_heap HB.out) (by simp)).trans HB.out)
                have HZ := Lib.hid ((hkA.block _ (lt_of_heap HZ.out) (by simp)).trans HZ.out)
                have HLA := Lib.hid (HLW.out.kept HK.out)
                have h9A := hkA.size
                clear hrow hkA hnew d0 d1 d2 d3 d4 d5 d6 d7 r0 r1 r2 r3 r4 r5 r6 r7 hw9
                obtain ⟨r0, r1, r2, r3, r4, r5, r6, r7⟩ := DxFacts HB.out
                have hwi : IntKind.i64.wrap ((i : Int) + 1) = (i : Int) + 1 := by rw [IntKind.wrap_i64]; omega
                obtain ⟨pa, hpa, hfp⟩ : ∃ pa : Option Addr, (if lc = i + 1 then some ⟨lb, lo, none⟩ else some ⟨lb, lo + (i + 1) * 6, none⟩) = pa ∧ FlAt wA pa (L.drop (i + 1)) := by
                  refine ⟨_, rfl, ?_⟩
                  split
                  · have : L.drop (i + 1) = [] := by rw [List.drop_eq_nil_iff]; omega
                    rw [this]
                    exact FlAt.nil _ _
                  · exact HLA.out.drop (i + 1)
                have HFP := Lib.hid hfp
                clear hfp
                go_wp2_with (at_builtin; refine wpList_append_dm rfl _ _ rfl w.heap.size (.slice av i cv) (L.take i) (L.drop (i + 1)) rfl HROW.out pa (L.length - (i + 1)) (lc - (i + 1)) rfl (by simp) HFP.out (by rw [List.length_take]; omega) (by omega) ?_)
                intro v8 wB hrow8 hkB hnew8
                obtain ⟨av8, cv8, rfl, hcap8, hfl8, hbl8⟩ := hrow8.shape
                have hN8 : ∀ b off, av8 = some ⟨b, off, none⟩ → w.heap.size + 1 + 1 + 1 ≤ b ∧ b < wB.heap.size := fun b off hb => by
                  obtain ⟨_, h2, h3⟩ := hbl8 b off hb
                  refine ⟨?_, h2⟩
                  rcases hnew8 with h | h
                  · rw [h] at h3
                    have := HNW.out b h3
                    omega
                  · rw [h] at h3
                    cases h3
                    omega
                have n0 : w.heap.size ∉ (Value.slice av i cv).ownBlock.toList := fun h => by have := HNW.out _ (by simpa using h); omega
                have n2 : w.heap.size + 1 + 1 ∉ (Value.slice av i cv).ownBlock.toList := fun h => by have := HNW.out _ (by simpa using h); omega
                have HK := Lib.hid (HK.out.step hkB (fun y hy => .inr (by have := HNW.out y (by simpa using hy); omega)))
                have hbB := (hkB.block _ (lt_of_heap HB.out) n0).trans HB.out
                have hzB := (hkB.block _ (lt_of_heap HZ.out) n2).trans HZ.out
                have hln : (L.take i ++ L.drop (i + 1)).length = L.length - 1 := by rw [List.length_append, List.length_take, List.length_drop]; omega
                rw [hln] at hcap8 hbl8 ⊢
                obtain ⟨w10, hw10⟩ : ∃ u, wB.setCell ⟨w.heap.size, 3, none⟩ (.slice av8 (L.length - 1) cv8) = u := ⟨_, rfl⟩
                have b10 : w10.heap[w.heap.size]? = some (.cells #[.int .i64 ep, .int .i64 nd, .slice oa own.length oc, .slice av8 (L.length - 1) cv8, .int .i64 last, .int .i64 (com + 1), .int .i64 abo] 54 (0, 0)) := by rw [← hw10]; simp [World.setCell, Array.getElem?_modify, hbB]
                have k10 : Keep [w.heap.size] wB w10 := by rw [← hw10]; exact (Keep.refl _ _).setCell _ _ _ (.inl (by simp))
                have z10 := (k10.block _ (lt_of_heap hzB) (by simp <;> omega)).trans hzB
                have HF10 := Lib.hid (hfl8.keep k10 (fun _ b off hb => by have := (hN8 b off hb).1; simp; omega))
                have HN10 := Lib.hid (show ∀ b off, av8 = some ⟨b, off, none⟩ → w.heap.size + 1 + 1 + 1 ≤ b ∧ b < w10.heap.size from fun b off hb => ⟨(hN8 b off hb).1, Nat.lt_of_lt_of_le (hN8 b off hb).2 k10.size⟩)
                have HK := Lib.hid (HK.out.step k10 (fun y hy => .inr (by rw [List.mem_singleton.1 hy]; exact Nat.le_refl _)))
                have HB := Lib.hid b10
                have HZ := Lib.hid z10
                have HC8 := Lib.hid hcap8
                have HLN := Lib.hid hln
                obtain ⟨u0, u1, u2, u3, u4, u5, u6, u7⟩ := DxFacts hbB
                clear hrow8 hkB hnew8 hfl8 hbl8 hN8 n0 n2 hzB b10 k10 z10 hcap8 hbB hln
                obtain ⟨w11, hw11⟩ : ∃ u, w10.setRow (w.heap.size + 1 + 1) #[.int .i64 ep, .int .i64 nd, .slice oa own.length oc, .slice av8 (L.length - 1) cv8, .int .i64 last, .int .i64 (com + 1), .int .i64 abo] = u := ⟨_, rfl⟩
                have hst11 := run_storeVar_row (P := Tryz.prog) w10 (w.heap.size + 1 + 1) 54 54 _ #[.int .i64 ep, .int .i64 nd, .slice oa own.length oc, .slice av8 (L.length - 1) cv8, .int .i64 last, .int .i64 (com + 1), .int .i64 abo] HZ.out (by kernel_rfl) rfl (by simp [Value.oneCell'])
                rw [hw11] at hst11
                have r11 : w11.heap[w.heap.size + 1 + 1]? = some (.cells #[.int .i64 ep, .int .i64 nd, .slice oa own.length oc, .slice av8 (L.length - 1) cv8, .int .i64 last, .int .i64 (com + 1), .int .i64 abo] 54 (0, 0)) := by rw [← hw11]; exact setRow_heap w10 _ _ _ _ _ HZ.out
                have k11 : Keep [w.heap.size + 1 + 1] w10 w11 := by rw [← hw11]; exact (Keep.refl _ _).setRow _ _ (.inl (by simp))
                have HST11 := Lib.hid hst11
                have HR11 := Lib.hid r11
                have HKX11 := Lib.hid k11
                have HK11 := Lib.hid (HK.out.step k11 (fun y hy => .inr (by rw [List.mem_singleton.1 hy]; omega)))
                clear hst11 r11 k11 hw11
                go_wp2_with (first | ((with_reducible refine wpList_load_row ?_ 54 (.tmp 3) ?_ (w.heap.size) ?_ 54 #[.int .i64 ep, .int .i64 nd, .slice oa own.length oc, .slice av8 (L.length - 1) cv8, .int .i64 last, .int .i64 (com + 1), .int .i64 abo] (0, 0) _ HB.out Tryz.underlying54 ?_ ?_ ?_); rfl; rfl; rfl; rfl; kernel_rfl) | ((with_reducible refine wpList_store_all ?_ 54 (.tmp 6) (.tmp 141) ?_ (w.heap.size + 1 + 1) ?_ _ ?_ HST11.out ?_); rfl; rfl; rfl; rfl))
                refine bodyPost_ret (results_c1 rfl _ _ w11 (w.heap.size + 1 + 1) _ (.bool true) rfl rfl (load_dx HR11.out)) rfl ?_
                have hres : dxHan ⟨ep, nd, own, L, last, com, abo⟩ fr 13 x1 pt code = (⟨ep, nd, own, L.take i ++ L.drop (i + 1), last, com + 1, abo⟩, true) := by
                  unfold dxHan
                  simp only
                  rw [HF.out]
                  simp only [HGD.out]
                  rw [if_neg (by simp), if_neg hA, if_neg (by simp [hst])]
                  simp only [if_true]
                  rw [if_neg (by decide), if_neg (by decide)]
                  first | done | simp only [if_true]
                rw [hres]
                exact ⟨⟨_, rfl, oa, oc, av8, cv8, by simp only [Dx.cells, HLN.out], HIW.out.keep HK11.out (by simp), HF10.out.keep HKX11.out (fun _ b off hb => by have := (HN10.out b off hb).1; simp; omega), by rw [HLN.out]; exact HC8.out, .inl rfl, .inr (fun b off hb => ⟨by have := (HN10.out b off hb).1; omega, Nat.lt_of_lt_of_le (HN10.out b off hb).2 HKX11.out.size⟩)⟩, HK11.out⟩
              · have hs21 : (st == 2) = false := by simpa using hs2
                have hs22 : decide (st = 2) = false := by simpa using hs2
                have hs23 : (st != 2) = true := by simpa using hs2
                obtain ⟨d0, d1, d2, d3, d4, d5, d6, d7⟩ := DxFacts HB.out
                have hwl : IntKind.i64.wrap (abo + 1) = abo + 1 := by rw [IntKind.wrap_i64]; omega
                obtain ⟨w9, hw9⟩ : ∃ u, w8.setCell ⟨w.heap.size, 6, none⟩ (.int .i64 (abo + 1)) = u := ⟨_, rfl⟩
                have b9 : w9.heap[w.heap.size]? = some (.cells #[.int .i64 ep, .int .i64 nd, .slice oa own.length oc, .slice (some ⟨lb, lo, none⟩) L.length lc, .int .i64 last, .int .i64 com, .int .i64 (abo + 1)] 54 (0, 0)) := by rw [← hw9]; simp [World.setCell, Array.getElem?_modify, HB.out]
                have k9 : Keep [w.heap.size] w8 w9 := by rw [← hw9]; exact (Keep.refl _ _).setCell _ _ _ (.inl (by simp))
                have HK := Lib.hid (HK.out.step k9 (fun y hy => .inr (by rw [List.mem_singleton.1 hy]; exact Nat.le_refl _)))
                have HB := Lib.hid b9
                have HZ := Lib.hid ((k9.block _ (lt_of_heap HZ.out) (by simp <;> omega)).trans HZ.out)
                have HL9 := Lib.hid (HLW.out.kept HK.out)
                obtain ⟨r0, r1, r2, r3, r4, r5, r6, r7⟩ := DxFacts b9
                have hw9s := lt_of_heap HZ.out
                clear b9 k9
                have hilc : (i : Int) ≤ (lc : Int) := by omega
                have hil1 : (i : Int) + 1 ≤ (L.length : Int) := by omega
                have hcl : (L.length : Int) ≤ (lc : Int) := by omega
                go_wp2_with (at_builtin; refine wpList_append_dm rfl _ _ rfl w.heap.size (.slice none 0 0) [] (L.take i) rfl (DmRow.nil _ _) (some ⟨lb, lo, none⟩) i lc rfl (by rw [List.length_take]; omega) (HL9.out.take i) (by simp; omega) (by omega) ?_)
                intro v' wA hrow hkA hnew
                try simp only [List.nil_append] at hrow
                have hkA : Keep [] w9 wA := hkA.mono (by simp [Value.ownBlock])
                have hli : (L.take i).length = i := by rw [List.length_take]; omega
                obtain ⟨av, cv, rfl, _⟩ := own_shape hrow
                rw [hli] at hrow hnew
                have HROW : Hid (DmRow w.heap.size wA (.slice av i cv) (L.take i)) := Lib.hid hrow
                have HNW := Lib.hid (show ∀ g, (Value.slice av i cv).ownBlock = some g → w9.heap.size ≤ g from fun g hg => by
                  rcases hnew with h | h
                  · rw [h] at hg; cases hg
                  · rw [h] at hg; cases hg; exact Nat.le_refl _)
                rw [hli]
                have HK := Lib.hid (HK.out.trans hkA)
                have HB := Lib.hid ((hkA.block _ (lt_of_heap HB.out) (by simp)).trans HB.out)
                have HZ := Lib.hid ((hkA.block _ (lt_of_heap HZ.out) (by simp)).trans HZ.out)
                have HLA := Lib.hid (HLW.out.kept HK.out)
                have h9A := hkA.size
                clear hrow hkA hnew d0 d1 d2 d3 d4 d5 d6 d7 r0 r1 r2 r3 r4 r5 r6 r7 hw9
                obtain ⟨r0, r1, r2, r3, r4, r5, r6, r7⟩ := DxFacts HB.out
                have hwi : IntKind.i64.wrap ((i : Int) + 1) = (i : Int) + 1 := by rw [IntKind.wrap_i64]; omega
                obtain ⟨pa, hpa, hfp⟩ : ∃ pa : Option Addr, (if lc = i + 1 then some ⟨lb, lo, none⟩ else some ⟨lb, lo + (i + 1) * 6, none⟩) = pa ∧ FlAt wA pa (L.drop (i + 1)) := by
                  refine ⟨_, rfl, ?_⟩
                  split
                  · have : L.drop (i + 1) = [] := by rw [List.drop_eq_nil_iff]; omega
                    rw [this]
                    exact FlAt.nil _ _
                  · exact HLA.out.drop (i + 1)
                have HFP := Lib.hid hfp
                clear hfp
                go_wp2_with (at_builtin; refine wpList_append_dm rfl _ _ rfl w.heap.size (.slice av i cv) (L.take i) (L.drop (i + 1)) rfl HROW.out pa (L.length - (i + 1)) (lc - (i + 1)) rfl (by simp) HFP.out (by rw [List.length_take]; omega) (by omega) ?_)
                intro v8 wB hrow8 hkB hnew8
                obtain ⟨av8, cv8, rfl, hcap8, hfl8, hbl8⟩ := hrow8.shape
                have hN8 : ∀ b off, av8 = some ⟨b, off, none⟩ → w.heap.size + 1 + 1 + 1 ≤ b ∧ b < wB.heap.size := fun b off hb => by
                  obtain ⟨_, h2, h3⟩ := hbl8 b off hb
                  refine ⟨?_, h2⟩
                  rcases hnew8 with h | h
                  · rw [h] at h3
                    have := HNW.out b h3
                    omega
                  · rw [h] at h3
                    cases h3
                    omega
                have n0 : w.heap.size ∉ (Value.slice av i cv).ownBlock.toList := fun h => by have := HNW.out _ (by simpa using h); omega
                have n2 : w.heap.size + 1 + 1 ∉ (Value.slice av i cv).ownBlock.toList := fun h => by have := HNW.out _ (by simpa using h); omega
                have HK := Lib.hid (HK.out.step hkB (fun y hy => .inr (by have := HNW.out y (by simpa using hy); omega)))
                have hbB := (hkB.block _ (lt_of_heap HB.out) n0).trans HB.out
                have hzB := (hkB.block _ (lt_of_heap HZ.out) n2).trans HZ.out
                have hln : (L.take i ++ L.drop (i + 1)).length = L.length - 1 := by rw [List.length_append, List.length_take, List.length_drop]; omega
                rw [hln] at hcap8 hbl8 ⊢
                obtain ⟨w10, hw10⟩ : ∃ u, wB.setCell ⟨w.heap.size, 3, none⟩ (.slice av8 (L.length - 1) cv8) = u := ⟨_, rfl⟩
                have b10 : w10.heap[w.heap.size]? = some (.cells #[.int .i64 ep, .int .i64 nd, .slice oa own.length oc, .slice av8 (L.length - 1) cv8, .int .i64 last, .int .i64 com, .int .i64 (abo + 1)] 54 (0, 0)) := by rw [← hw10]; simp [World.setCell, Array.getElem?_modify, hbB]
                have k10 : Keep [w.heap.size] wB w10 := by rw [← hw10]; exact (Keep.refl _ _).setCell _ _ _ (.inl (by simp))
                have z10 := (k10.block _ (lt_of_heap hzB) (by simp <;> omega)).trans hzB
                have HF10 := Lib.hid (hfl8.keep k10 (fun _ b off hb => by have := (hN8 b off hb).1; simp; omega))
                have HN10 := Lib.hid (show ∀ b off, av8 = some ⟨b, off, none⟩ → w.heap.size + 1 + 1 + 1 ≤ b ∧ b < w10.heap.size from fun b off hb => ⟨(hN8 b off hb).1, Nat.lt_of_lt_of_le (hN8 b off hb).2 k10.size⟩)
                have HK := Lib.hid (HK.out.step k10 (fun y hy => .inr (by rw [List.mem_singleton.1 hy]; exact Nat.le_refl _)))
                have HB := Lib.hid b10
                have HZ := Lib.hid z10
                have HC8 := Lib.hid hcap8
                have HLN := Lib.hid hln
                obtain ⟨u0, u1, u2, u3, u4, u5, u6, u7⟩ := DxFacts hbB
                clear hrow8 hkB hnew8 hfl8 hbl8 hN8 n0 n2 hzB b10 k10 z10 hcap8 hbB hln
                obtain ⟨w11, hw11⟩ : ∃ u, w10.setRow (w.heap.size + 1 + 1) #[.int .i64 ep, .int .i64 nd, .slice oa own.length oc, .slice av8 (L.length - 1) cv8, .int .i64 last, .int .i64 com, .int .i64 (abo + 1)] = u := ⟨_, rfl⟩
                have hst11 := run_storeVar_row (P := Tryz.prog) w10 (w.heap.size + 1 + 1) 54 54 _ #[.int .i64 ep, .int .i64 nd, .slice oa own.length oc, .slice av8 (L.length - 1) cv8, .int .i64 last, .int .i64 com, .int .i64 (abo + 1)] HZ.out (by kernel_rfl) rfl (by simp [Value.oneCell'])
                rw [hw11] at hst11
                have r11 : w11.heap[w.heap.size + 1 + 1]? = some (.cells #[.int .i64 ep, .int .i64 nd, .slice oa own.length oc, .slice av8 (L.length - 1) cv8, .int .i64 last, .int .i64 com, .int .i64 (abo + 1)] 54 (0, 0)) := by rw [← hw11]; exact setRow_heap w10 _ _ _ _ _ HZ.out
                have k11 : Keep [w.heap.size + 1 + 1] w10 w11 := by rw [← hw11]; exact (Keep.refl _ _).setRow _ _ (.inl (by simp))
                have HST11 := Lib.hid hst11
                have HR11 := Lib.hid r11
                have HKX11 := Lib.hid k11
                have HK11 := Lib.hid (HK.out.step k11 (fun y hy => .inr (by rw [List.mem_singleton.1 hy]; omega)))
                clear hst11 r11 k11 hw11
                go_wp2_with (first | ((with_reducible refine wpList_load_row ?_ 54 (.tmp 3) ?_ (w.heap.size) ?_ 54 #[.int .i64 ep, .int .i64 nd, .slice oa own.length oc, .slice av8 (L.length - 1) cv8, .int .i64 last, .int .i64 com, .int .i64 (abo + 1)] (0, 0) _ HB.out Tryz.underlying54 ?_ ?_ ?_); rfl; rfl; rfl; rfl; kernel_rfl) | ((with_reducible refine wpList_store_all ?_ 54 (.tmp 6) (.tmp 141) ?_ (w.heap.size + 1 + 1) ?_ _ ?_ HST11.out ?_); rfl; rfl; rfl; rfl))
                refine bodyPost_ret (results_c1 rfl _ _ w11 (w.heap.size + 1 + 1) _ (.bool true) rfl rfl (load_dx HR11.out)) rfl ?_
                have hres : dxHan ⟨ep, nd, own, L, last, com, abo⟩ fr 13 x1 pt code = (⟨ep, nd, own, L.take i ++ L.drop (i + 1), last, com, abo + 1⟩, true) := by
                  unfold dxHan
                  simp only
                  rw [HF.out]
                  simp only [HGD.out]
                  rw [if_neg (by simp), if_neg hA, if_neg (by simp [hst])]
                  simp only [if_true]
                  rw [if_neg (by decide), if_neg (by decide)]
                  rw [if_neg hs2, if_neg hs2]
                rw [hres]
                exact ⟨⟨_, rfl, oa, oc, av8, cv8, by simp only [Dx.cells, HLN.out], HIW.out.keep HK11.out (by simp), HF10.out.keep HKX11.out (fun _ b off hb => by have := (HN10.out b off hb).1; simp; omega), by rw [HLN.out]; exact HC8.out, .inl rfl, .inr (fun b off hb => ⟨by have := (HN10.out b off hb).1; omega, Nat.lt_of_lt_of_le (HN10.out b off hb).2 HKX11.out.size⟩)⟩, HK11.out⟩
            · subst hd2
              obtain ⟨w8, hw8⟩ : ∃ u, w7.setRow (w.heap.size + 1 + 1) #[.int .i64 ep, .int .i64 nd, .slice oa own.length oc, .slice (some ⟨lb, lo, none⟩) L.length lc, .int .i64 last, .int .i64 com, .int .i64 abo] = u := ⟨_, rfl⟩
              have hst8 := run_storeVar_row (P := Tryz.prog) w7 (w.heap.size + 1 + 1) 54 54 _ #[.int .i64 ep, .int .i64 nd, .slice oa own.length oc, .slice (some ⟨lb, lo, none⟩) L.length lc, .int .i64 last, .int .i64 com, .int .i64 abo] HZ.out (by kernel_rfl) rfl (by simp [Value.oneCell'])
              rw [hw8] at hst8
              have r8 : w8.heap[w.heap.size + 1 + 1]? = some (.cells #[.int .i64 ep, .int .i64 nd, .slice oa own.length oc, .slice (some ⟨lb, lo, none⟩) L.length lc, .int .i64 last, .int .i64 com, .int .i64 abo] 54 (0, 0)) := by rw [← hw8]; exact setRow_heap w7 _ _ _ _ _ HZ.out
              have k8 : Keep [w.heap.size + 1 + 1] w7 w8 := by rw [← hw8]; exact (Keep.refl _ _).setRow _ _ (.inl (by simp))
              have HST8 := Lib.hid hst8
              have HR8 := Lib.hid r8
              have HKX8 := Lib.hid k8
              have HK8 := Lib.hid (HK.out.step k8 (fun y hy => .inr (by rw [List.mem_singleton.1 hy]; omega)))
              clear hst8 r8 k8 hw8
              go_wp2_with (first | ((with_reducible refine wpList_load_row ?_ 54 (.tmp 3) ?_ (w.heap.size) ?_ 54 #[.int .i64 ep, .int .i64 nd, .slice oa own.length oc, .slice (some ⟨lb, lo, none⟩) L.length lc, .int .i64 last, .int .i64 com, .int .i64 abo] (0, 0) _ HB.out Tryz.underlying54 ?_ ?_ ?_); rfl; rfl; rfl; rfl; kernel_rfl) | ((with_reducible refine wpList_store_all ?_ 54 (.tmp 6) (.tmp 103) ?_ (w.heap.size + 1 + 1) ?_ _ ?_ HST8.out ?_); rfl; rfl; rfl; rfl))
              refine bodyPost_ret (results_c1 rfl _ _ w8 (w.heap.size + 1 + 1) _ (.bool false) rfl rfl (load_dx HR8.out)) rfl ?_
              have hres : dxHan ⟨ep, nd, own, L, last, com, abo⟩ fr 13 x1 pt code = (⟨ep, nd, own, L, last, com, abo⟩, false) := by
                unfold dxHan
                simp only
                rw [HF.out]
                simp only [HGD.out]
                rw [if_neg (by simp), if_neg hA, if_neg (by simp [hst])]
                simp only [if_true]
                first | done | rw [if_pos rfl] | rw [if_pos trivial]
              rw [hres]
              exact ⟨⟨_, rfl, DxP.same (d := ⟨ep, nd, own, L, last, com, abo⟩) HIW.out HLW.out hcap HK8.out⟩, HK8.out⟩
          · have hx41 : (fr == x4) = false := by simpa using hx4
            have hx42 : decide (fr = x4) = false := by simpa using hx4
            have hx43 : (fr != x4) = true := by simpa using hx4
            by_cases hx3 : fr = x3
            · subst hx3
              rcases dn3 hdx with hd0 | hd1 | hd2
              · subst hd0
                obtain ⟨w8, hw8⟩ : ∃ u, w7.setCell ⟨W.heap.size, 5, none⟩ (.int .i64 1) = u := ⟨_, rfl⟩
                have t8 : w8.heap[W.heap.size]? = some (.cells #[.int .i64 x1, .int .i64 x2, .int .i64 fr, .int .i64 x4, .int .i64 st, .int .i64 1] 91 (0, 0)) := by rw [← hw8]; simp [World.setCell, Array.getElem?_modify, HV.out]
                have k8 : Keep [W.heap.size] w7 w8 := by rw [← hw8]; exact (Keep.refl _ _).setCell _ _ _ (.inl (by simp))
                have HK := Lib.hid (HK.out.step k8 (fun y hy => .inr (by rw [List.mem_singleton.1 hy]; omega)))
                have HB := Lib.hid ((k8.block _ (lt_of_heap HB.out) (by simp; omega)).trans HB.out)
                have HM := Lib.hid (HM.out.keep k8 (by simp; omega))
                have HZ := Lib.hid ((k8.block _ (lt_of_heap HZ.out) (by simp; omega)).trans HZ.out)
                have HV := Lib.hid t8
                obtain ⟨n8_0, n8_1, n8_2, n8_3, n8_4, n8_5, n8_6⟩ := MvFacts t8
                clear t8 k8
                have HWT := Lib.hid (rwith_any (w := w8) (d := ⟨ep, nd, own, L, last, com, abo⟩) (oa := oa) oc lc (HLW.out.kept HK.out) (by simp only; omega) hil ⟨⟨x1, x2, fr, x4⟩, ⟨st, 1⟩⟩)
                simp only [Dx.cells, Mo.cells, List.length_set] at HWT
                go_wp2_with (first | ((with_reducible refine wpList_load_row ?_ 54 (.tmp 3) ?_ (w.heap.size) ?_ 54 #[.int .i64 ep, .int .i64 nd, .slice oa own.length oc, .slice (some ⟨lb, lo, none⟩) L.length lc, .int .i64 last, .int .i64 com, .int .i64 abo] (0, 0) _ HB.out Tryz.underlying54 ?_ ?_ ?_); rfl; rfl; rfl; rfl; kernel_rfl))
                refine HWT.out.mono ?_
                rintro e w9 ⟨g, c9, rfl, hfl, hlc9, hg1, hg2, hk9⟩
                have HK9S := Lib.hid (show w.heap.size ≤ w8.heap.size from HK.out.size)
                have HZW := lt_of_heap HZ.out
                have HK := Lib.hid (HK.out.trans hk9)
                have HZ := Lib.hid ((hk9.block _ (lt_of_heap HZ.out) (by simp)).trans HZ.out)
                obtain ⟨w10, hw10⟩ : ∃ u, w9.setRow (w.heap.size + 1 + 1) #[.int .i64 ep, .int .i64 nd, .slice oa own.length oc, .slice (some ⟨g, 0, none⟩) L.length c9, .int .i64 last, .int .i64 com, .int .i64 abo] = u := ⟨_, rfl⟩
                have hst10 := run_storeVar_row (P := Tryz.prog) w9 (w.heap.size + 1 + 1) 54 54 _ #[.int .i64 ep, .int .i64 nd, .slice oa own.length oc, .slice (some ⟨g, 0, none⟩) L.length c9, .int .i64 last, .int .i64 com, .int .i64 abo] HZ.out (by kernel_rfl) rfl (by simp [Value.oneCell'])
                rw [hw10] at hst10
                have r10 : w10.heap[w.heap.size + 1 + 1]? = some (.cells #[.int .i64 ep, .int .i64 nd, .slice oa own.length oc, .slice (some ⟨g, 0, none⟩) L.length c9, .int .i64 last, .int .i64 com, .int .i64 abo] 54 (0, 0)) := by rw [← hw10]; exact setRow_heap w9 _ _ _ _ _ HZ.out
                have k10 : Keep [w.heap.size + 1 + 1] w9 w10 := by rw [← hw10]; exact (Keep.refl _ _).setRow _ _ (.inl (by simp))
                have HST10 := Lib.hid hst10
                have HR10 := Lib.hid r10
                have HKX10 := Lib.hid k10
                have HK10 := Lib.hid (HK.out.step k10 (fun y hy => .inr (by rw [List.mem_singleton.1 hy]; omega)))
                clear hst10 r10 k10 hw10
                have hgz : g ≠ w.heap.size + 1 + 1 := by omega
                have HF10 := Lib.hid (hfl.keep HKX10.out (fun _ b off hb => by cases hb; simpa using hgz))
                have hs10 := HKX10.out.size
                clear hfl hk9
                go_wp2_with ((with_reducible refine wpList_store_all ?_ 54 (.tmp 6) (.tmp 115) ?_ (w.heap.size + 1 + 1) ?_ _ ?_ HST10.out ?_); rfl; rfl; rfl; rfl)
                refine bodyPost_ret (results_c1 rfl _ _ w10 (w.heap.size + 1 + 1) _ (.bool true) rfl rfl (load_dx HR10.out)) rfl ?_
                have hres : dxHan ⟨ep, nd, own, L, last, com, abo⟩ fr 13 x1 pt code = (⟨ep, nd, own, L.set i ⟨⟨x1, x2, fr, x4⟩, ⟨st, 1⟩⟩, last, com, abo⟩, true) := by
                  unfold dxHan
                  simp only
                  rw [HF.out]
                  simp only [HGD.out]
                  rw [if_neg (by simp), if_neg hA, if_neg (by simp [hst])]
                  simp only [if_neg hx4]
                  rw [if_neg (by decide), if_pos (by decide)]
                rw [hres]
                exact ⟨⟨_, rfl, oa, oc, some ⟨g, 0, none⟩, c9, by simp [Dx.cells], HIW.out.keep HK10.out (by simp), HF10.out, by simpa using hlc9, .inl rfl, .inr (fun b off hb => by cases hb; exact ⟨by have := HK9S.out; omega, by omega⟩)⟩, HK10.out⟩
              · subst hd1
                obtain ⟨w8, hw8⟩ : ∃ u, w7.setRow (w.heap.size + 1 + 1) #[.int .i64 ep, .int .i64 nd, .slice oa own.length oc, .slice (some ⟨lb, lo, none⟩) L.length lc, .int .i64 last, .int .i64 com, .int .i64 abo] = u := ⟨_, rfl⟩
                have hst8 := run_storeVar_row (P := Tryz.prog) w7 (w.heap.size + 1 + 1) 54 54 _ #[.int .i64 ep, .int .i64 nd, .slice oa own.length oc, .slice (some ⟨lb, lo, none⟩) L.length lc, .int .i64 last, .int .i64 com, .int .i64 abo] HZ.out (by kernel_rfl) rfl (by simp [Value.oneCell'])
                rw [hw8] at hst8
                have r8 : w8.heap[w.heap.size + 1 + 1]? = some (.cells #[.int .i64 ep, .int .i64 nd, .slice oa own.length oc, .slice (some ⟨lb, lo, none⟩) L.length lc, .int .i64 last, .int .i64 com, .int .i64 abo] 54 (0, 0)) := by rw [← hw8]; exact setRow_heap w7 _ _ _ _ _ HZ.out
                have k8 : Keep [w.heap.size + 1 + 1] w7 w8 := by rw [← hw8]; exact (Keep.refl _ _).setRow _ _ (.inl (by simp))
                have HST8 := Lib.hid hst8
                have HR8 := Lib.hid r8
                have HKX8 := Lib.hid k8
                have HK8 := Lib.hid (HK.out.step k8 (fun y hy => .inr (by rw [List.mem_singleton.1 hy]; omega)))
                clear hst8 r8 k8 hw8
                go_wp2_with (first | ((with_reducible refine wpList_load_row ?_ 54 (.tmp 3) ?_ (w.heap.size) ?_ 54 #[.int .i64 ep, .int .i64 nd, .slice oa own.length oc, .slice (some ⟨lb, lo, none⟩) L.length lc, .int .i64 last, .int .i64 com, .int .i64 abo] (0, 0) _ HB.out Tryz.underlying54 ?_ ?_ ?_); rfl; rfl; rfl; rfl; kernel_rfl) | ((with_reducible refine wpList_store_all ?_ 54 (.tmp 6) (.tmp 103) ?_ (w.heap.size + 1 + 1) ?_ _ ?_ HST8.out ?_); rfl; rfl; rfl; rfl))
                refine bodyPost_ret (results_c1 rfl _ _ w8 (w.heap.size + 1 + 1) _ (.bool false) rfl rfl (load_dx HR8.out)) rfl ?_
                have hres : dxHan ⟨ep, nd, own, L, last, com, abo⟩ fr 13 x1 pt code = (⟨ep, nd, own, L, last, com, abo⟩, false) := by
                  unfold dxHan
                  simp only
                  rw [HF.out]
                  simp only [HGD.out]
                  rw [if_neg (by simp), if_neg hA, if_neg (by simp [hst])]
                  simp only [if_neg hx4]
                  first | done | rw [if_pos rfl] | rw [if_pos trivial]
                rw [hres]
                exact ⟨⟨_, rfl, DxP.same (d := ⟨ep, nd, own, L, last, com, abo⟩) HIW.out HLW.out hcap HK8.out⟩, HK8.out⟩
              · subst hd2
                obtain ⟨w8, hw8⟩ : ∃ u, w7.setCell ⟨W.heap.size, 5, none⟩ (.int .i64 3) = u := ⟨_, rfl⟩
                have t8 : w8.heap[W.heap.size]? = some (.cells #[.int .i64 x1, .int .i64 x2, .int .i64 fr, .int .i64 x4, .int .i64 st, .int .i64 3] 91 (0, 0)) := by rw [← hw8]; simp [World.setCell, Array.getElem?_modify, HV.out]
                have k8 : Keep [W.heap.size] w7 w8 := by rw [← hw8]; exact (Keep.refl _ _).setCell _ _ _ (.inl (by simp))
                have HK := Lib.hid (HK.out.step k8 (fun y hy => .inr (by rw [List.mem_singleton.1 hy]; omega)))
                have HB := Lib.hid ((k8.block _ (lt_of_heap HB.out) (by simp; omega)).trans HB.out)
                have HM := Lib.hid (HM.out.keep k8 (by simp; omega))
                have HZ := Lib.hid ((k8.block _ (lt_of_heap HZ.out) (by simp; omega)).trans HZ.out)
                have HV := Lib.hid t8
                obtain ⟨n8_0, n8_1, n8_2, n8_3, n8_4, n8_5, n8_6⟩ := MvFacts t8
                clear t8 k8
                by_cases hs2 : st = 2
                · subst hs2
                  obtain ⟨d0, d1, d2, d3, d4, d5, d6, d7⟩ := DxFacts HB.out
                  have hwl : IntKind.i64.wrap (com + 1) = com + 1 := by rw [IntKind.wrap_i64]; omega
                  obtain ⟨w9, hw9⟩ : ∃ u, w8.setCell ⟨w.heap.size, 5, none⟩ (.int .i64 (com + 1)) = u := ⟨_, rfl⟩
                  have b9 : w9.heap[w.heap.size]? = some (.cells #[.int .i64 ep, .int .i64 nd, .slice oa own.length oc, .slice (some ⟨lb, lo, none⟩) L.length lc, .int .i64 last, .int .i64 (com + 1), .int .i64 abo] 54 (0, 0)) := by rw [← hw9]; simp [World.setCell, Array.getElem?_modify, HB.out]
                  have k9 : Keep [w.heap.size] w8 w9 := by rw [← hw9]; exact (Keep.refl _ _).setCell _ _ _ (.inl (by simp))
                  have HK := Lib.hid (HK.out.step k9 (fun y hy => .inr (by rw [List.mem_singleton.1 hy]; exact Nat.le_refl _)))
                  have HB := Lib.hid b9
                  have HZ := Lib.hid ((k9.block _ (lt_of_heap HZ.out) (by simp <;> omega)).trans HZ.out)
                  have HL9 := Lib.hid (HLW.out.kept HK.out)
                  obtain ⟨r0, r1, r2, r3, r4, r5, r6, r7⟩ := DxFacts b9
                  have hw9s := lt_of_heap HZ.out
                  clear b9 k9
                  have hilc : (i : Int) ≤ (lc : Int) := by omega
                  have hil1 : (i : Int) + 1 ≤ (L.length : Int) := by omega
                  have hcl : (L.length : Int) ≤ (lc : Int) := by omega
                  go_wp2_with (at_builtin; refine wpList_append_dm rfl _ _ rfl w.heap.size (.slice none 0 0) [] (L.take i) rfl (DmRow.nil _ _) (some ⟨lb, lo, none⟩) i lc rfl (by rw [List.length_take]; omega) (HL9.out.take i) (by simp; omega) (by omega) ?_)
                  intro v' wA hrow hkA hnew
                  try simp only [List.nil_append] at hrow
                  have hkA : Keep [] w9 wA := hkA.mono (by simp [Value.ownBlock])
                  have hli : (L.take i).length = i := by rw [List.length_take]; omega
                  obtain ⟨av, cv, rfl, _⟩ := own_shape hrow
                  rw [hli] at hrow hnew
                  have HROW : Hid (DmRow w.heap.size wA (.slice av i cv) (L.take i)) := Lib.hid hrow
                  have HNW := Lib.hid (show ∀ g, (Value.slice av i cv).ownBlock = some g → w9.heap.size ≤ g from fun g hg => by
                    rcases hnew with h | h
                    · rw [h] at hg; cases hg
                    · rw [h] at hg; cases hg; exact Nat.le_refl _)
                  rw [hli]
                  have HK := Lib.hid (HK.out.trans hkA)
                  have HB := Lib.hid ((hkA.block _ (lt_of_heap HB.out) (by simp)).trans HB.out)
                  have HZ := Lib.hid ((hkA.block _ (lt_of_heap HZ.out) (by simp)).trans HZ.out)
                  have HLA := Lib.hid (HLW.out.kept HK.out)
                  have h9A := hkA.size
                  clear hrow hkA hnew d0 d1 d2 d3 d4 d5 d6 d7 r0 r1 r2 r3 r4 r5 r6 r7 hw9
                  obtain ⟨r0, r1, r2, r3, r4, r5, r6, r7⟩ := DxFacts HB.out
                  have hwi : IntKind.i64.wrap ((i : Int) + 1) = (i : Int) + 1 := by rw [IntKind.wrap_i64]; omega
                  obtain ⟨pa, hpa, hfp⟩ : ∃ pa : Option Addr, (if lc = i + 1 then some ⟨lb, lo, none⟩ else some ⟨lb, lo + (i + 1) * 6, none⟩) = pa ∧ FlAt wA pa (L.drop (i + 1)) := by
                    refine ⟨_, rfl, ?_⟩
                    split
                    · have : L.drop (i + 1) = [] := by rw [List.drop_eq_nil_iff]; omega
                      rw [this]
                      exact FlAt.nil _ _
                    · exact HLA.out.drop (i + 1)
                  have HFP := Lib.hid hfp
                  clear hfp
                  go_wp2_with (at_builtin; refine wpList_append_dm rfl _ _ rfl w.heap.size (.slice av i cv) (L.take i) (L.drop (i + 1)) rfl HROW.out pa (L.length - (i + 1)) (lc - (i + 1)) rfl (by simp) HFP.out (by rw [List.length_take]; omega) (by omega) ?_)
                  intro v8 wB hrow8 hkB hnew8
                  obtain ⟨av8, cv8, rfl, hcap8, hfl8, hbl8⟩ := hrow8.shape
                  have hN8 : ∀ b off, av8 = some ⟨b, off, none⟩ → w.heap.size + 1 + 1 + 1 ≤ b ∧ b < wB.heap.size := fun b off hb => by
                    obtain ⟨_, h2, h3⟩ := hbl8 b off hb
                    refine ⟨?_, h2⟩
                    rcases hnew8 with h | h
                    · rw [h] at h3
                      have := HNW.out b h3
                      omega
                    · rw [h] at h3
                      cases h3
                      omega
                  have n0 : w.heap.size ∉ (Value.slice av i cv).ownBlock.toList := fun h => by have := HNW.out _ (by simpa using h); omega
                  have n2 : w.heap.size + 1 + 1 ∉ (Value.slice av i cv).ownBlock.toList := fun h => by have := HNW.out _ (by simpa using h); omega
                  have HK := Lib.hid (HK.out.step hkB (fun y hy => .inr (by have := HNW.out y (by simpa using hy); omega)))
                  have hbB := (hkB.block _ (lt_of_heap HB.out) n0).trans HB.out
                  have hzB := (hkB.block _ (lt_of_heap HZ.out) n2).trans HZ.out
                  have hln : (L.take i ++ L.drop (i + 1)).length = L.length - 1 := by rw [List.length_append, List.length_take, List.length_drop]; omega
                  rw [hln] at hcap8 hbl8 ⊢
                  obtain ⟨w10, hw10⟩ : ∃ u, wB.setCell ⟨w.heap.size, 3, none⟩ (.slice av8 (L.length - 1) cv8) = u := ⟨_, rfl⟩
                  have b10 : w10.heap[w.heap.size]? = some (.cells #[.int .i64 ep, .int .i64 nd, .slice oa own.length oc, .slice av8 (L.length - 1) cv8, .int .i64 last, .int .i64 (com + 1), .int .i64 abo] 54 (0, 0)) := by rw [← hw10]; simp [World.setCell, Array.getElem?_modify, hbB]
                  have k10 : Keep [w.heap.size] wB w10 := by rw [← hw10]; exact (Keep.refl _ _).setCell _ _ _ (.inl (by simp))
                  have z10 := (k10.block _ (lt_of_heap hzB) (by simp <;> omega)).trans hzB
                  have HF10 := Lib.hid (hfl8.keep k10 (fun _ b off hb => by have := (hN8 b off hb).1; simp; omega))
                  have HN10 := Lib.hid (show ∀ b off, av8 = some ⟨b, off, none⟩ → w.heap.size + 1 + 1 + 1 ≤ b ∧ b < w10.heap.size from fun b off hb => ⟨(hN8 b off hb).1, Nat.lt_of_lt_of_le (hN8 b off hb).2 k10.size⟩)
                  have HK := Lib.hid (HK.out.step k10 (fun y hy => .inr (by rw [List.mem_singleton.1 hy]; exact Nat.le_refl _)))
                  have HB := Lib.hid b10
                  have HZ := Lib.hid z10
                  have HC8 := Lib.hid hcap8
                  have HLN := Lib.hid hln
                  obtain ⟨u0, u1, u2, u3, u4, u5, u6, u7⟩ := DxFacts hbB
                  clear hrow8 hkB hnew8 hfl8 hbl8 hN8 n0 n2 hzB b10 k10 z10 hcap8 hbB hln
                  obtain ⟨w11, hw11⟩ : ∃ u, w10.setRow (w.heap.size + 1 + 1) #[.int .i64 ep, .int .i64 nd, .slice oa own.length oc, .slice av8 (L.length - 1) cv8, .int .i64 last, .int .i64 (com + 1), .int .i64 abo] = u := ⟨_, rfl⟩
                  have hst11 := run_storeVar_row (P := Tryz.prog) w10 (w.heap.size + 1 + 1) 54 54 _ #[.int .i64 ep, .int .i64 nd, .slice oa own.length oc, .slice av8 (L.length - 1) cv8, .int .i64 last, .int .i64 (com + 1), .int .i64 abo] HZ.out (by kernel_rfl) rfl (by simp [Value.oneCell'])
                  rw [hw11] at hst11
                  have r11 : w11.heap[w.heap.size + 1 + 1]? = some (.cells #[.int .i64 ep, .int .i64 nd, .slice oa own.length oc, .slice av8 (L.length - 1) cv8, .int .i64 last, .int .i64 (com + 1), .int .i64 abo] 54 (0, 0)) := by rw [← hw11]; exact setRow_heap w10 _ _ _ _ _ HZ.out
                  have k11 : Keep [w.heap.size + 1 + 1] w10 w11 := by rw [← hw11]; exact (Keep.refl _ _).setRow _ _ (.inl (by simp))
                  have HST11 := Lib.hid hst11
                  have HR11 := Lib.hid r11
                  have HKX11 := Lib.hid k11
                  have HK11 := Lib.hid (HK.out.step k11 (fun y hy => .inr (by rw [List.mem_singleton.1 hy]; omega)))
                  clear hst11 r11 k11 hw11
                  go_wp2_with (first | ((with_reducible refine wpList_load_row ?_ 54 (.tmp 3) ?_ (w.heap.size) ?_ 54 #[.int .i64 ep, .int .i64 nd, .slice oa own.length oc, .slice av8 (L.length - 1) cv8, .int .i64 last, .int .i64 (com + 1), .int .i64 abo] (0, 0) _ HB.out Tryz.underlying54 ?_ ?_ ?_); rfl; rfl; rfl; rfl; kernel_rfl) | ((with_reducible refine wpList_store_all ?_ 54 (.tmp 6) (.tmp 141) ?_ (w.heap.size + 1 + 1) ?_ _ ?_ HST11.out ?_); rfl; rfl; rfl; rfl))
                  refine bodyPost_ret (results_c1 rfl _ _ w11 (w.heap.size + 1 + 1) _ (.bool true) rfl rfl (load_dx HR11.out)) rfl ?_
                  have hres : dxHan ⟨ep, nd, own, L, last, com, abo⟩ fr 13 x1 pt code = (⟨ep, nd, own, L.take i ++ L.drop (i + 1), last, com + 1, abo⟩, true) := by
                    unfold dxHan
                    simp only
                    rw [HF.out]
                    simp only [HGD.out]
                    rw [if_neg (by simp), if_neg hA, if_neg (by simp [hst])]
                    simp only [if_neg hx4]
                    rw [if_neg (by decide), if_neg (by decide)]
                    first | done | simp only [if_true]
                  rw [hres]
                  exact ⟨⟨_, rfl, oa, oc, av8, cv8, by simp only [Dx.cells, HLN.out], HIW.out.keep HK11.out (by simp), HF10.out.keep HKX11.out (fun _ b off hb => by have := (HN10.out b off hb).1; simp; omega), by rw [HLN.out]; exact HC8.out, .inl rfl, .inr (fun b off hb => ⟨by have := (HN10.out b off hb).1; omega, Nat.lt_of_lt_of_le (HN10.out b off hb).2 HKX11.out.size⟩)⟩, HK11.out⟩
                · have hs21 : (st == 2) = false := by simpa using hs2
                  have hs22 : decide (st = 2) = false := by simpa using hs2
                  have hs23 : (st != 2) = true := by simpa using hs2
                  obtain ⟨d0, d1, d2, d3, d4, d5, d6, d7⟩ := DxFacts HB.out
                  have hwl : IntKind.i64.wrap (abo + 1) = abo + 1 := by rw [IntKind.wrap_i64]; omega
                  obtain ⟨w9, hw9⟩ : ∃ u, w8.setCell ⟨w.heap.size, 6, none⟩ (.int .i64 (abo + 1)) = u := ⟨_, rfl⟩
                  have b9 : w9.heap[w.heap.size]? = some (.cells #[.int .i64 ep, .int .i64 nd, .slice oa own.length oc, .slice (some ⟨lb, lo, none⟩) L.length lc, .int .i64 last, .int .i64 com, .int .i64 (abo + 1)] 54 (0, 0)) := by rw [← hw9]; simp [World.setCell, Array.getElem?_modify, HB.out]
                  have k9 : Keep [w.heap.size] w8 w9 := by rw [← hw9]; exact (Keep.refl _ _).setCell _ _ _ (.inl (by simp))
                  have HK := Lib.hid (HK.out.step k9 (fun y hy => .inr (by rw [List.mem_singleton.1 hy]; exact Nat.le_refl _)))
                  have HB := Lib.hid b9
                  have HZ := Lib.hid ((k9.block _ (lt_of_heap HZ.out) (by simp <;> omega)).trans HZ.out)
                  have HL9 := Lib.hid (HLW.out.kept HK.out)
                  obtain ⟨r0, r1, r2, r3, r4, r5, r6, r7⟩ := DxFacts b9
                  have hw9s := lt_of_heap HZ.out
                  clear b9 k9
                  have hilc : (i : Int) ≤ (lc : Int) := by omega
                  have hil1 : (i : Int) + 1 ≤ (L.length : Int) := by omega
                  have hcl : (L.length : Int) ≤ (lc : Int) := by omega
                  go_wp2_with (at_builtin; refine wpList_append_dm rfl _ _ rfl w.heap.size (.slice none 0 0) [] (L.take i) rfl (DmRow.nil _ _) (some ⟨lb, lo, none⟩) i lc rfl (by rw [List.length_take]; omega) (HL9.out.take i) (by simp; omega) (by omega) ?_)
                  intro v' wA hrow hkA hnew
                  try simp only [List.nil_append] at hrow
                  have hkA : Keep [] w9 wA := hkA.mono (by simp [Value.ownBlock])
                  have hli : (L.take i).length = i := by rw [List.length_take]; omega
                  obtain ⟨av, cv, rfl, _⟩ := own_shape hrow
                  rw [hli] at hrow hnew
                  have HROW : Hid (DmRow w.heap.size wA (.slice av i cv) (L.take i)) := Lib.hid hrow
                  have HNW := Lib.hid (show ∀ g, (Value.slice av i cv).ownBlock = some g → w9.heap.size ≤ g from fun g hg => by
                    rcases hnew with h | h
                    · rw [h] at hg; cases hg
                    · rw [h] at hg; cases hg; exact Nat.le_refl _)
                  rw [hli]
                  have HK := Lib.hid (HK.out.trans hkA)
                  have HB := Lib.hid ((hkA.block _ (lt_of_heap HB.out) (by simp)).trans HB.out)
                  have HZ := Lib.hid ((hkA.block _ (lt_of_heap HZ.out) (by simp)).trans HZ.out)
                  have HLA := Lib.hid (HLW.out.kept HK.out)
                  have h9A := hkA.size
                  clear hrow hkA hnew d0 d1 d2 d3 d4 d5 d6 d7 r0 r1 r2 r3 r4 r5 r6 r7 hw9
                  obtain ⟨r0, r1, r2, r3, r4, r5, r6, r7⟩ := DxFacts HB.out
                  have hwi : IntKind.i64.wrap ((i : Int) + 1) = (i : Int) + 1 := by rw [IntKind.wrap_i64]; omega
                  obtain ⟨pa, hpa, hfp⟩ : ∃ pa : Option Addr, (if lc = i + 1 then some ⟨lb, lo, none⟩ else some ⟨lb, lo + (i + 1) * 6, none⟩) = pa ∧ FlAt wA pa (L.drop (i + 1)) := by
                    refine ⟨_, rfl, ?_⟩
                    split
                    · have : L.drop (i + 1) = [] := by rw [List.drop_eq_nil_iff]; omega
                      rw [this]
                      exact FlAt.nil _ _
                    · exact HLA.out.drop (i + 1)
                  have HFP := Lib.hid hfp
                  clear hfp
                  go_wp2_with (at_builtin; refine wpList_append_dm rfl _ _ rfl w.heap.size (.slice av i cv) (L.take i) (L.drop (i + 1)) rfl HROW.out pa (L.length - (i + 1)) (lc - (i + 1)) rfl (by simp) HFP.out (by rw [List.length_take]; omega) (by omega) ?_)
                  intro v8 wB hrow8 hkB hnew8
                  obtain ⟨av8, cv8, rfl, hcap8, hfl8, hbl8⟩ := hrow8.shape
                  have hN8 : ∀ b off, av8 = some ⟨b, off, none⟩ → w.heap.size + 1 + 1 + 1 ≤ b ∧ b < wB.heap.size := fun b off hb => by
                    obtain ⟨_, h2, h3⟩ := hbl8 b off hb
                    refine ⟨?_, h2⟩
                    rcases hnew8 with h | h
                    · rw [h] at h3
                      have := HNW.out b h3
                      omega
                    · rw [h] at h3
                      cases h3
                      omega
                  have n0 : w.heap.size ∉ (Value.slice av i cv).ownBlock.toList := fun h => by have := HNW.out _ (by simpa using h); omega
                  have n2 : w.heap.size + 1 + 1 ∉ (Value.slice av i cv).ownBlock.toList := fun h => by have := HNW.out _ (by simpa using h); omega
                  have HK := Lib.hid (HK.out.step hkB (fun y hy => .inr (by have := HNW.out y (by simpa using hy); omega)))
                  have hbB := (hkB.block _ (lt_of_heap HB.out) n0).trans HB.out
                  have hzB := (hkB.block _ (lt_of_heap HZ.out) n2).trans HZ.out
                  have hln : (L.take i ++ L.drop (i + 1)).length = L.length - 1 := by rw [List.length_append, List.length_take, List.length_drop]; omega
                  rw [hln] at hcap8 hbl8 ⊢
                  obtain ⟨w10, hw10⟩ : ∃ u, wB.setCell ⟨w.heap.size, 3, none⟩ (.slice av8 (L.length - 1) cv8) = u := ⟨_, rfl⟩
                  have b10 : w10.heap[w.heap.size]? = some (.cells #[.int .i64 ep, .int .i64 nd, .slice oa own.length oc, .slice av8 (L.length - 1) cv8, .int .i64 last, .int .i64 com, .int .i64 (abo + 1)] 54 (0, 0)) := by rw [← hw10]; simp [World.setCell, Array.getElem?_modify, hbB]
                  have k10 : Keep [w.heap.size] wB w10 := by rw [← hw10]; exact (Keep.refl _ _).setCell _ _ _ (.inl (by simp))
                  have z10 := (k10.block _ (lt_of_heap hzB) (by simp <;> omega)).trans hzB
                  have HF10 := Lib.hid (hfl8.keep k10 (fun _ b off hb => by have := (hN8 b off hb).1; simp; omega))
                  have HN10 := Lib.hid (show ∀ b off, av8 = some ⟨b, off, none⟩ → w.heap.size + 1 + 1 + 1 ≤ b ∧ b < w10.heap.size from fun b off hb => ⟨(hN8 b off hb).1, Nat.lt_of_lt_of_le (hN8 b off hb).2 k10.size⟩)
                  have HK := Lib.hid (HK.out.step k10 (fun y hy => .inr (by rw [List.mem_singleton.1 hy]; exact Nat.le_refl _)))
                  have HB := Lib.hid b10
                  have HZ := Lib.hid z10
                  have HC8 := Lib.hid hcap8
                  have HLN := Lib.hid hln
                  obtain ⟨u0, u1, u2, u3, u4, u5, u6, u7⟩ := DxFacts hbB
                  clear hrow8 hkB hnew8 hfl8 hbl8 hN8 n0 n2 hzB b10 k10 z10 hcap8 hbB hln
                  obtain ⟨w11, hw11⟩ : ∃ u, w10.setRow (w.heap.size + 1 + 1) #[.int .i64 ep, .int .i64 nd, .slice oa own.length oc, .slice av8 (L.length - 1) cv8, .int .i64 last, .int .i64 com, .int .i64 (abo + 1)] = u := ⟨_, rfl⟩
                  have hst11 := run_storeVar_row (P := Tryz.prog) w10 (w.heap.size + 1 + 1) 54 54 _ #[.int .i64 ep, .int .i64 nd, .slice oa own.length oc, .slice av8 (L.length - 1) cv8, .int .i64 last, .int .i64 com, .int .i64 (abo + 1)] HZ.out (by kernel_rfl) rfl (by simp [Value.oneCell'])
                  rw [hw11] at hst11
                  have r11 : w11.heap[w.heap.size + 1 + 1]? = some (.cells #[.int .i64 ep, .int .i64 nd, .slice oa own.length oc, .slice av8 (L.length - 1) cv8, .int .i64 last, .int .i64 com, .int .i64 (abo + 1)] 54 (0, 0)) := by rw [← hw11]; exact setRow_heap w10 _ _ _ _ _ HZ.out
                  have k11 : Keep [w.heap.size + 1 + 1] w10 w11 := by rw [← hw11]; exact (Keep.refl _ _).setRow _ _ (.inl (by simp))
                  have HST11 := Lib.hid hst11
                  have HR11 := Lib.hid r11
                  have HKX11 := Lib.hid k11
                  have HK11 := Lib.hid (HK.out.step k11 (fun y hy => .inr (by rw [List.mem_singleton.1 hy]; omega)))
                  clear hst11 r11 k11 hw11
                  go_wp2_with (first | ((with_reducible refine wpList_load_row ?_ 54 (.tmp 3) ?_ (w.heap.size) ?_ 54 #[.int .i64 ep, .int .i64 nd, .slice oa own.length oc, .slice av8 (L.length - 1) cv8, .int .i64 last, .int .i64 com, .int .i64 (abo + 1)] (0, 0) _ HB.out Tryz.underlying54 ?_ ?_ ?_); rfl; rfl; rfl; rfl; kernel_rfl) | ((with_reducible refine wpList_store_all ?_ 54 (.tmp 6) (.tmp 141) ?_ (w.heap.size + 1 + 1) ?_ _ ?_ HST11.out ?_); rfl; rfl; rfl; rfl))
                  refine bodyPost_ret (results_c1 rfl _ _ w11 (w.heap.size + 1 + 1) _ (.bool true) rfl rfl (load_dx HR11.out)) rfl ?_
                  have hres : dxHan ⟨ep, nd, own, L, last, com, abo⟩ fr 13 x1 pt code = (⟨ep, nd, own, L.take i ++ L.drop (i + 1), last, com, abo + 1⟩, true) := by
                    unfold dxHan
                    simp only
                    rw [HF.out]
                    simp only [HGD.out]
                    rw [if_neg (by simp), if_neg hA, if_neg (by simp [hst])]
                    simp only [if_neg hx4]
                    rw [if_neg (by decide), if_neg (by decide)]
                    rw [if_neg hs2, if_neg hs2]
                  rw [hres]
                  exact ⟨⟨_, rfl, oa, oc, av8, cv8, by simp only [Dx.cells, HLN.out], HIW.out.keep HK11.out (by simp), HF10.out.keep HKX11.out (fun _ b off hb => by have := (HN10.out b off hb).1; simp; omega), by rw [HLN.out]; exact HC8.out, .inl rfl, .inr (fun b off hb => ⟨by have := (HN10.out b off hb).1; omega, Nat.lt_of_lt_of_le (HN10.out b off hb).2 HKX11.out.size⟩)⟩, HK11.out⟩
            · have hx31 : (fr == x3) = false := by simpa using hx3
              have hx32 : decide (fr = x3) = false := by simpa using hx3
              have hx33 : (fr != x3) = true := by simpa using hx3
              obtain ⟨w8, hw8⟩ : ∃ u, w7.setRow (w.heap.size + 1 + 1) #[.int .i64 ep, .int .i64 nd, .slice oa own.length oc, .slice (some ⟨lb, lo, none⟩) L.length lc, .int .i64 last, .int .i64 com, .int .i64 abo] = u := ⟨_, rfl⟩
              have hst8 := run_storeVar_row (P := Tryz.prog) w7 (w.heap.size + 1 + 1) 54 54 _ #[.int .i64 ep, .int .i64 nd, .slice oa own.length oc, .slice (some ⟨lb, lo, none⟩) L.length lc, .int .i64 last, .int .i64 com, .int .i64 abo] HZ.out (by kernel_rfl) rfl (by simp [Value.oneCell'])
              rw [hw8] at hst8
              have r8 : w8.heap[w.heap.size + 1 + 1]? = some (.cells #[.int .i64 ep, .int .i64 nd, .slice oa own.length oc, .slice (some ⟨lb, lo, none⟩) L.length lc, .int .i64 last, .int .i64 com, .int .i64 abo] 54 (0, 0)) := by rw [← hw8]; exact setRow_heap w7 _ _ _ _ _ HZ.out
              have k8 : Keep [w.heap.size + 1 + 1] w7 w8 := by rw [← hw8]; exact (Keep.refl _ _).setRow _ _ (.inl (by simp))
              have HST8 := Lib.hid hst8
              have HR8 := Lib.hid r8
              have HKX8 := Lib.hid k8
              have HK8 := Lib.hid (HK.out.step k8 (fun y hy => .inr (by rw [List.mem_singleton.1 hy]; omega)))
              clear hst8 r8 k8 hw8
              go_wp2_with (first | ((with_reducible refine wpList_load_row ?_ 54 (.tmp 3) ?_ (w.heap.size) ?_ 54 #[.int .i64 ep, .int .i64 nd, .slice oa own.length oc, .slice (some ⟨lb, lo, none⟩) L.length lc, .int .i64 last, .int .i64 com, .int .i64 abo] (0, 0) _ HB.out Tryz.underlying54 ?_ ?_ ?_); rfl; rfl; rfl; rfl; kernel_rfl) | ((with_reducible refine wpList_store_all ?_ 54 (.tmp 6) (.tmp 94) ?_ (w.heap.size + 1 + 1) ?_ _ ?_ HST8.out ?_); rfl; rfl; rfl; rfl))
              refine bodyPost_ret (results_c1 rfl _ _ w8 (w.heap.size + 1 + 1) _ (.bool false) rfl rfl (load_dx HR8.out)) rfl ?_
              have hres : dxHan ⟨ep, nd, own, L, last, com, abo⟩ fr 13 x1 pt code = (⟨ep, nd, own, L, last, com, abo⟩, false) := by
                unfold dxHan
                simp only
                rw [HF.out]
                simp only [HGD.out]
                rw [if_neg (by simp), if_neg hA, if_pos (.inr (.inr ⟨hx3, hx4⟩))]
              rw [hres]
              exact ⟨⟨_, rfl, DxP.same (d := ⟨ep, nd, own, L, last, com, abo⟩) HIW.out HLW.out hcap HK8.out⟩, HK8.out⟩
      · have h131 : ((k : Int) == 13) = false := by simp; omega
        have h132 : decide ((k : Int) = 13) = false := by simp; omega
        obtain ⟨w8, hw8⟩ : ∃ u, w7.setRow (w.heap.size + 1 + 1) #[.int .i64 ep, .int .i64 nd, .slice oa own.length oc, .slice (some ⟨lb, lo, none⟩) L.length lc, .int .i64 last, .int .i64 com, .int .i64 abo] = u := ⟨_, rfl⟩
        have hst8 := run_storeVar_row (P := Tryz.prog) w7 (w.heap.size + 1 + 1) 54 54 _ #[.int .i64 ep, .int .i64 nd, .slice oa own.length oc, .slice (some ⟨lb, lo, none⟩) L.length lc, .int .i64 last, .int .i64 com, .int .i64 abo] HZ.out (by kernel_rfl) rfl (by simp [Value.oneCell'])
        rw [hw8] at hst8
        have r8 : w8.heap[w.heap.size + 1 + 1]? = some (.cells #[.int .i64 ep, .int .i64 nd, .slice oa own.length oc, .slice (some ⟨lb, lo, none⟩) L.length lc, .int .i64 last, .int .i64 com, .int .i64 abo] 54 (0, 0)) := by rw [← hw8]; exact setRow_heap w7 _ _ _ _ _ HZ.out
        have k8 : Keep [w.heap.size + 1 + 1] w7 w8 := by rw [← hw8]; exact (Keep.refl _ _).setRow _ _ (.inl (by simp))
        have HST8 := Lib.hid hst8
        have HR8 := Lib.hid r8
        have HKX8 := Lib.hid k8
        have HK8 := Lib.hid (HK.out.step k8 (fun y hy => .inr (by rw [List.mem_singleton.1 hy]; omega)))
        clear hst8 r8 k8 hw8
        go_wp2_with (first | ((with_reducible refine wpList_load_row ?_ 54 (.tmp 3) ?_ (w.heap.size) ?_ 54 #[.int .i64 ep, .int .i64 nd, .slice oa own.length oc, .slice (some ⟨lb, lo, none⟩) L.length lc, .int .i64 last, .int .i64 com, .int .i64 abo] (0, 0) _ HB.out Tryz.underlying54 ?_ ?_ ?_); rfl; rfl; rfl; rfl; kernel_rfl) | ((with_reducible refine wpList_store_all ?_ 54 (.tmp 6) (.tmp 94) ?_ (w.heap.size + 1 + 1) ?_ _ ?_ HST8.out ?_); rfl; rfl; rfl; rfl))
        refine bodyPost_ret (results_c1 rfl _ _ w8 (w.heap.size + 1 + 1) _ (.bool false) rfl rfl (load_dx HR8.out)) rfl ?_
        have hres : dxHan ⟨ep, nd, own, L, last, com, abo⟩ fr k x1 pt code = (⟨ep, nd, own, L, last, com, abo⟩, false) := by
          unfold dxHan
          simp only
          rw [HF.out]
          simp only [HGD.out]
          rw [if_neg (by simp), if_neg hA, if_pos (.inl h13)]
        rw [hres]
        exact ⟨⟨_, rfl, DxP.same (d := ⟨ep, nd, own, L, last, com, abo⟩) HIW.out HLW.out hcap HK8.out⟩, HK8.out⟩
    · have hmv1 : (x1 == mv) = false := by simpa using hmv
      have hmv2 : decide (x1 = mv) = false := by simpa using hmv
      have hmv3 : (x1 != mv) = true := by simpa using hmv
      go_wp2_with (fail)
      refine wp_region_soup 13 [] (fun _ => none) (by kernel_rfl) (by kernel_rfl) (spOk_of (l := []) (by simp)) (pre_of (l := []) (by simp)) ?_
      simp only [List.take_succ_cons, List.take_zero, List.drop_succ_cons, List.drop_zero]
      iterate 4
        with_reducible refine soup_q ?_ ?_ ?_
        · rfl
        · rfl
        with_reducible apply Exists.intro
        with_reducible refine ⟨fun W hk _ => ?_, ?_⟩
        · unfold Oper.same
          go_simp
          first | rfl | exact ⟨rfl, rfl⟩
        with_reducible apply Exists.intro
        with_reducible refine ⟨?_, ?_⟩
        · go_simp
          rfl
      with_reducible refine soup_q ?_ ?_ ?_
      · rfl
      · rfl
      with_reducible apply Exists.intro
      with_reducible refine ⟨fun W hk _ => ?_, ?_⟩
      · have hb := (hk.block _ (lt_of_heap HB.out) (by simp)).trans HB.out
        obtain ⟨d0, d1, d2, d3, d4, d5, d6, d7⟩ := DxFacts hb
        clear hb
        unfold Oper.same
        go_simp
        first | rfl | exact ⟨rfl, rfl⟩
      with_reducible apply Exists.intro
      with_reducible refine ⟨?_, ?_⟩
      · go_simp
        rfl
      iterate 3
        with_reducible refine soup_q ?_ ?_ ?_
        · rfl
        · rfl
        with_reducible apply Exists.intro
        with_reducible refine ⟨fun W hk _ => ?_, ?_⟩
        · unfold Oper.same
          go_simp
          first | rfl | exact ⟨rfl, rfl⟩
        with_reducible apply Exists.intro
        with_reducible refine ⟨?_, ?_⟩
        · go_simp
          rfl
      with_reducible refine soup_q ?_ ?_ ?_
      · rfl
      · rfl
      with_reducible apply Exists.intro
      with_reducible refine ⟨fun W hk _ => ?_, ?_⟩
      · have q := (hk.cell _ HLB.out (by simp)).trans HQ0.out
        unfold Oper.same
        go_simp
        first | rfl | exact ⟨rfl, rfl⟩
      with_reducible apply Exists.intro
      with_reducible refine ⟨?_, ?_⟩
      · go_simp
        rfl
      with_reducible refine soup_q ?_ ?_ ?_
      · rfl
      · rfl
      with_reducible apply Exists.intro
      with_reducible refine ⟨fun W hk _ => ?_, ?_⟩
      · unfold Oper.same
        go_simp
        first | rfl | exact ⟨rfl, rfl⟩
      with_reducible apply Exists.intro
      with_reducible refine ⟨?_, ?_⟩
      · go_simp
        rfl
      with_reducible refine soup_q ?_ ?_ ?_
      · rfl
      · rfl
      with_reducible apply Exists.intro
      with_reducible refine ⟨fun W hk _ => ?_, ?_⟩
      · have hm1 := ((HM.out.keep hk (by simp)).cell 1).trans H1.out
        unfold Oper.same
        go_simp
        first | rfl | exact ⟨rfl, rfl⟩
      with_reducible apply Exists.intro
      with_reducible refine ⟨?_, ?_⟩
      · go_simp
        rfl
      iterate 2
        with_reducible refine soup_q ?_ ?_ ?_
        · rfl
        · rfl
        with_reducible apply Exists.intro
        with_reducible refine ⟨fun W hk _ => ?_, ?_⟩
        · unfold Oper.same
          go_simp
          first | rfl | exact ⟨rfl, rfl⟩
        with_reducible apply Exists.intro
        with_reducible refine ⟨?_, ?_⟩
        · go_simp
          rfl
      refine soup_nil (fun W hk hS => ?_)
      have HQ := Lib.hid (fun j u hj => (hk.cell _ HLB.out (by simp)).trans (HLC.out j u hj))
      have HK := Lib.hid (HK.out.trans hk)
      have HB := Lib.hid ((hk.block _ (lt_of_heap HB.out) (by simp)).trans HB.out)
      have HM := Lib.hid (HM.out.keep hk (by simp))
      have HZ := Lib.hid ((hk.block _ (lt_of_heap HZ.out) (by simp)).trans HZ.out)
      clear hk hS
      obtain ⟨w7, hw7⟩ : ∃ u, W.setRow (w.heap.size + 1 + 1) #[.int .i64 ep, .int .i64 nd, .slice oa own.length oc, .slice (some ⟨lb, lo, none⟩) L.length lc, .int .i64 last, .int .i64 com, .int .i64 abo] = u := ⟨_, rfl⟩
      have hst7 := run_storeVar_row (P := Tryz.prog) W (w.heap.size + 1 + 1) 54 54 _ #[.int .i64 ep, .int .i64 nd, .slice oa own.length oc, .slice (some ⟨lb, lo, none⟩) L.length lc, .int .i64 last, .int .i64 com, .int .i64 abo] HZ.out (by kernel_rfl) rfl (by simp [Value.oneCell'])
      rw [hw7] at hst7
      have r7 : w7.heap[w.heap.size + 1 + 1]? = some (.cells #[.int .i64 ep, .int .i64 nd, .slice oa own.length oc, .slice (some ⟨lb, lo, none⟩) L.length lc, .int .i64 last, .int .i64 com, .int .i64 abo] 54 (0, 0)) := by rw [← hw7]; exact setRow_heap W _ _ _ _ _ HZ.out
      have k7 : Keep [w.heap.size + 1 + 1] W w7 := by rw [← hw7]; exact (Keep.refl _ _).setRow _ _ (.inl (by simp))
      have HST7 := Lib.hid hst7
      have HR7 := Lib.hid r7
      have HKX7 := Lib.hid k7
      have HK7 := Lib.hid (HK.out.step k7 (fun y hy => .inr (by rw [List.mem_singleton.1 hy]; omega)))
      clear hst7 r7 k7 hw7
      go_wp2_with (first | ((with_reducible refine wpList_load_row ?_ 54 (.tmp 3) ?_ (w.heap.size) ?_ 54 #[.int .i64 ep, .int .i64 nd, .slice oa own.length oc, .slice (some ⟨lb, lo, none⟩) L.length lc, .int .i64 last, .int .i64 com, .int .i64 abo] (0, 0) _ HB.out Tryz.underlying54 ?_ ?_ ?_); rfl; rfl; rfl; rfl; kernel_rfl) | ((with_reducible refine wpList_store_all ?_ 54 (.tmp 6) (.tmp 31) ?_ (w.heap.size + 1 + 1) ?_ _ ?_ HST7.out ?_); rfl; rfl; rfl; rfl))
      refine bodyPost_ret (results_c1 rfl _ _ w7 (w.heap.size + 1 + 1) _ (.bool false) rfl rfl (load_dx HR7.out)) rfl ?_
      have hres : dxHan ⟨ep, nd, own, L, last, com, abo⟩ fr k mv pt code = (⟨ep, nd, own, L, last, com, abo⟩, false) := by
        unfold dxHan
        simp only
        rw [HF.out]
        simp only [HGD.out]
        rw [if_pos hmv]
      rw [hres]
      exact ⟨⟨_, rfl, DxP.same (d := ⟨ep, nd, own, L, last, com, abo⟩) HIW.out HLW.out hcap HK7.out⟩, HK7.out⟩
end Go.Proofs.YteejdfpfdnkiiaaGreat
