/- The document's word on a message (toward CoordPlays). -/
import Derived.Test.YteejdfpfdnkiiaaGreatCqI
import Derived.Test.YteejdfpfdnkiiaaGreatPk
namespace Go.Proofs.YteejdfpfdnkiiaaGreat
open Go.RowKit Go.Lib
set_option linter.unusedSimpArgs false
set_option linter.unusedVariables false
theorem same_load_ms {o : Oper} {a : Act} {W : World} (x : Operand) (ho : o.op = .load 47 x) (b : Nat) (hx : a.eval x = .pointer (some ⟨b, 0, none⟩)) (cs : Array Value) (hc : W.heap[b]? = some (.cells cs 47 (0, 0)))
    (hi : (Tryz.prog.info? 47).map (·.size) = some cs.size) : Oper.same Tryz.prog o a W (.agg cs) := by
  have h := run_loadVar_row (P := Tryz.prog) W b 47 47 cs (0, 0) _ hc Tryz.underlying47 rfl hi
  unfold Oper.same execOp
  simp only [ho, hx, Instr.loadAt, Instr.sureAddr, Sem.run_bind, Sem.run_pure, Result.andThen_ok, h]
  exact ⟨trivial, trivial⟩
set_option maxRecDepth 100000 in
set_option maxHeartbeats 4000000 in
theorem rright_4 {w : World} (mv pt to : Nat) (hmv : mv ≤ 2147483647) (hpt : pt ≤ 2147483647) (hto : to ≤ 2147483647) : Calls Tryz.prog 59 #[.agg (msC 4 mv pt to 0 0 (.slice none 0 0))] w fun e w' => e = .returned (.int .i64 0) ∧ Keep [] w w' := by
  obtain ⟨cv, hcv⟩ : ∃ x, (msC 4 mv pt to 0 0 (.slice none 0 0)) = x := ⟨_, rfl⟩
  obtain ⟨w1, hw1⟩ : ∃ u, w.alloc (.cells cv 47) = u := ⟨_, rfl⟩
  have k1 : Keep [] w w1 := by rw [← hw1]; exact (Keep.refl _ _).alloc _
  have m1 : MsAt w1 w.heap.size cv := by rw [← hw1]; exact World.alloc_heap_new w _
  have HO := Lib.hid (fun W => ronly_4 (w := W) mv pt to)
  have HS := Lib.hid (fun W => rsame_ms (w := W) 4 mv pt to 0 0 (a := none) (b := none) (own := []) 0 0 (fun h => absurd rfl h) (fun h => absurd rfl h) (by simp))
  try simp only [List.length_nil] at HS
  rw [hcv] at HO HS ⊢
  have HCV := Lib.hid hcv
  have HM : Hid (w1.heap[w.heap.size]? = some (.cells cv 47 (0, 0))) := Lib.hid m1
  have HSZ : Hid ((Tryz.prog.info? 47).map (·.size) = some cv.size) := Lib.hid (by rw [← hcv]; kernel_rfl)
  rw [← hcv] at m1
  obtain ⟨c0, _⟩ := msC_facts m1
  have HK := Lib.hid k1
  clear m1 k1 hcv
  go_enter Tryz.func59, Tryz.ntmps59
  go_wp2_with (fail)
  have HMM : Hid (MsAt w1 w.heap.size cv) := HM
  clear HM
  have HM := HMM
  clear HMM c0
  refine wp_region_soup 4 [] (spOf [(2, Spec.is (.agg cv)), (3, Spec.is (.bool true))]) (by kernel_rfl) (by kernel_rfl) (spOk_of (by simp [Spec.is_ok])) (pre_of (by simp [Spec.is_ok])) ?_
  simp only [List.append_eq, List.cons_append, List.nil_append, List.take_succ_cons, List.take_zero, List.drop_succ_cons, List.drop_zero]
  iterate 2
    with_reducible refine soup_q ?_ ?_ ?_
    · rfl
    · rfl
    with_reducible apply Exists.intro
    with_reducible refine ⟨fun W hk _ => ?_, ?_⟩
    · exact same_load_ms (.tmp 1) rfl (w.heap.size) rfl cv (HM.out.keep hk (by simp)) HSZ.out
    with_reducible apply Exists.intro
    with_reducible refine ⟨?_, ?_⟩
    · go_simp
      rfl
  refine soup_s rfl rfl rfl (fun W hk _ _ => ?_) ?_
  · unfold Oper.does
    go_simp
    refine (HO.out W).mono ?_
    rintro e w' ⟨rfl, hk'⟩
    exact ⟨_, rfl, hk', hk.trans hk', rfl, trivial⟩
  intro v hv
  obtain rfl : v = _ := hv
  with_reducible apply Exists.intro
  with_reducible refine ⟨?_, ?_⟩
  · go_simp
    rfl
  refine soup_s rfl rfl rfl (fun W hk _ _ => ?_) ?_
  · unfold Oper.does
    go_simp
    refine (HS.out W).mono ?_
    rintro e w' ⟨rfl, hk'⟩
    exact ⟨_, rfl, hk', hk.trans hk', rfl, trivial⟩
  intro v hv
  obtain rfl : v = _ := hv
  with_reducible apply Exists.intro
  with_reducible refine ⟨?_, ?_⟩
  · go_simp
    rfl
  refine soup_nil (fun W hk hS => ?_)
  have HK := Lib.hid (HK.out.trans hk)
  have HM := Lib.hid (HM.out.keep hk (by simp))
  clear hk hS
  have hm := HM.out
  rw [← HCV.out] at hm
  obtain ⟨c0, c1, c2, c3, c4, c5, c6, c7, c8, c9, c10, c11, c12, c13, c14, c15, c16, c17, c18, c19, c20, c21⟩ := msC_facts hm
  clear hm
  iterate 6
    go_wp2_with (fail)
    refine (rin_true (by omega) (by omega) _).mono ?_
    rintro e w4 ⟨rfl, rfl⟩
  go_wp2_with (fail)
  refine (ritems_zero _).mono ?_
  rintro e w4 ⟨rfl, hk4⟩
  have HK := Lib.hid (HK.out.trans hk4)
  have HM := Lib.hid (HM.out.keep hk4 (by simp))
  clear hk4 c0 c1 c2 c3 c4 c5 c6 c7 c8 c9 c10 c11 c12 c13 c14 c15 c16 c17 c18 c19 c20 c21
  have hm := HM.out
  rw [← HCV.out] at hm
  obtain ⟨c0, c1, c2, c3, c4, c5, c6, c7, c8, c9, c10, c11, c12, c13, c14, c15, c16, c17, c18, c19, c20, c21⟩ := msC_facts hm
  clear hm
  iterate 2
    go_wp2_with (fail)
    refine (rin_true (by omega) (by omega) _).mono ?_
    rintro e w5 ⟨rfl, rfl⟩
  go_wp2_with (fail)
  refine (rlists_true (a := none) (own := []) 0 (fun h => absurd rfl h) (by simp) 64 (by simp) (by simp)).mono ?_
  rintro e w5 ⟨rfl, rfl⟩
  go_wp2_with (fail)
  refine (rlists_true (a := none) (own := []) 0 (fun h => absurd rfl h) (by simp) 1024 (by simp) (by simp)).mono ?_
  rintro e w5 ⟨rfl, rfl⟩
  go_wp2_with (fail)
  go_ret
  exact ⟨rfl, HK.out⟩
set_option maxRecDepth 100000 in
set_option maxHeartbeats 4000000 in
theorem rright_11 {w : World} (mv pt ep nd : Nat) (hmv : mv ≤ 2147483647) (hpt : pt ≤ 2147483647) (hep : ep ≤ 2147483647) (hnd : nd ≤ 2147483647) {a : Option Addr} (c : Nat) {own : List Int} (hI : IntsAt w a own) (hx : ∀ x ∈ own, 0 ≤ x ∧ x ≤ 2147483647) (hl : own.length ≤ 64) : Calls Tryz.prog 59 #[.agg (msC 11 mv pt 0 ep nd (.slice a own.length c))] w fun e w' => e = .returned (.int .i64 0) ∧ Keep [] w w' := by
  obtain ⟨cv, hcv⟩ : ∃ x, (msC 11 mv pt 0 ep nd (.slice a own.length c)) = x := ⟨_, rfl⟩
  obtain ⟨w1, hw1⟩ : ∃ u, w.alloc (.cells cv 47) = u := ⟨_, rfl⟩
  have k1 : Keep [] w w1 := by rw [← hw1]; exact (Keep.refl _ _).alloc _
  have m1 : MsAt w1 w.heap.size cv := by rw [← hw1]; exact World.alloc_heap_new w _
  have HO := Lib.hid (fun W => ronly_11 (w := W) mv pt ep nd a own.length c)
  have HS := Lib.hid (fun W (hk : Keep [] w W) => rsame_ms (w := W) 11 mv pt 0 ep nd (a := a) (b := a) (own := own) c c (hI.keep hk (by simp)) (hI.keep hk (by simp)) hl)
  try simp only [List.length_nil] at HS
  rw [hcv] at HO HS ⊢
  have HCV := Lib.hid hcv
  have HM : Hid (w1.heap[w.heap.size]? = some (.cells cv 47 (0, 0))) := Lib.hid m1
  have HSZ : Hid ((Tryz.prog.info? 47).map (·.size) = some cv.size) := Lib.hid (by rw [← hcv]; kernel_rfl)
  rw [← hcv] at m1
  obtain ⟨c0, _⟩ := msC_facts m1
  have HK := Lib.hid k1
  clear m1 k1 hcv
  go_enter Tryz.func59, Tryz.ntmps59
  go_wp2_with (fail)
  have HMM : Hid (MsAt w1 w.heap.size cv) := HM
  clear HM
  have HM := HMM
  clear HMM c0
  refine wp_region_soup 4 [] (spOf [(2, Spec.is (.agg cv)), (3, Spec.is (.bool true))]) (by kernel_rfl) (by kernel_rfl) (spOk_of (by simp [Spec.is_ok])) (pre_of (by simp [Spec.is_ok])) ?_
  simp only [List.append_eq, List.cons_append, List.nil_append, List.take_succ_cons, List.take_zero, List.drop_succ_cons, List.drop_zero]
  iterate 2
    with_reducible refine soup_q ?_ ?_ ?_
    · rfl
    · rfl
    with_reducible apply Exists.intro
    with_reducible refine ⟨fun W hk _ => ?_, ?_⟩
    · exact same_load_ms (.tmp 1) rfl (w.heap.size) rfl cv (HM.out.keep hk (by simp)) HSZ.out
    with_reducible apply Exists.intro
    with_reducible refine ⟨?_, ?_⟩
    · go_simp
      rfl
  refine soup_s rfl rfl rfl (fun W hk _ _ => ?_) ?_
  · unfold Oper.does
    go_simp
    refine (HO.out W).mono ?_
    rintro e w' ⟨rfl, hk'⟩
    exact ⟨_, rfl, hk', hk.trans hk', rfl, trivial⟩
  intro v hv
  obtain rfl : v = _ := hv
  with_reducible apply Exists.intro
  with_reducible refine ⟨?_, ?_⟩
  · go_simp
    rfl
  refine soup_s rfl rfl rfl (fun W hk _ _ => ?_) ?_
  · unfold Oper.does
    go_simp
    refine (HS.out W (HK.out.trans hk)).mono ?_
    rintro e w' ⟨rfl, hk'⟩
    exact ⟨_, rfl, hk', hk.trans hk', rfl, trivial⟩
  intro v hv
  obtain rfl : v = _ := hv
  with_reducible apply Exists.intro
  with_reducible refine ⟨?_, ?_⟩
  · go_simp
    rfl
  refine soup_nil (fun W hk hS => ?_)
  have HK := Lib.hid (HK.out.trans hk)
  have HM := Lib.hid (HM.out.keep hk (by simp))
  clear hk hS
  have hm := HM.out
  rw [← HCV.out] at hm
  obtain ⟨c0, c1, c2, c3, c4, c5, c6, c7, c8, c9, c10, c11, c12, c13, c14, c15, c16, c17, c18, c19, c20, c21⟩ := msC_facts hm
  clear hm
  iterate 6
    go_wp2_with (fail)
    refine (rin_true (by omega) (by omega) _).mono ?_
    rintro e w4 ⟨rfl, rfl⟩
  go_wp2_with (fail)
  refine (ritems_zero _).mono ?_
  rintro e w4 ⟨rfl, hk4⟩
  have HK := Lib.hid (HK.out.trans hk4)
  have HM := Lib.hid (HM.out.keep hk4 (by simp))
  clear hk4 c0 c1 c2 c3 c4 c5 c6 c7 c8 c9 c10 c11 c12 c13 c14 c15 c16 c17 c18 c19 c20 c21
  have hm := HM.out
  rw [← HCV.out] at hm
  obtain ⟨c0, c1, c2, c3, c4, c5, c6, c7, c8, c9, c10, c11, c12, c13, c14, c15, c16, c17, c18, c19, c20, c21⟩ := msC_facts hm
  clear hm
  iterate 2
    go_wp2_with (fail)
    refine (rin_true (by omega) (by omega) _).mono ?_
    rintro e w5 ⟨rfl, rfl⟩
  go_wp2_with (fail)
  refine (rlists_true c (hI.keep HK.out (by simp)) hx 64 (by omega) (by omega)).mono ?_
  rintro e w5 ⟨rfl, rfl⟩
  go_wp2_with (fail)
  refine (rlists_true (a := none) (own := []) 0 (fun h => absurd rfl h) (by simp) 1024 (by simp) (by simp)).mono ?_
  rintro e w5 ⟨rfl, rfl⟩
  go_wp2_with (fail)
  go_ret
  exact ⟨rfl, HK.out⟩
set_option maxRecDepth 100000 in
set_option maxHeartbeats 4000000 in
theorem rright_12 {w : World} (mv pt : Nat) (hmv : mv ≤ 2147483647) (hpt : pt ≤ 2147483647) : Calls Tryz.prog 59 #[.agg (msC 12 mv pt 0 0 0 (.slice none 0 0))] w fun e w' => e = .returned (.int .i64 0) ∧ Keep [] w w' := by
  obtain ⟨cv, hcv⟩ : ∃ x, (msC 12 mv pt 0 0 0 (.slice none 0 0)) = x := ⟨_, rfl⟩
  obtain ⟨w1, hw1⟩ : ∃ u, w.alloc (.cells cv 47) = u := ⟨_, rfl⟩
  have k1 : Keep [] w w1 := by rw [← hw1]; exact (Keep.refl _ _).alloc _
  have m1 : MsAt w1 w.heap.size cv := by rw [← hw1]; exact World.alloc_heap_new w _
  have HO := Lib.hid (fun W => ronly_12 (w := W) mv pt)
  have HS := Lib.hid (fun W => rsame_ms (w := W) 12 mv pt 0 0 0 (a := none) (b := none) (own := []) 0 0 (fun h => absurd rfl h) (fun h => absurd rfl h) (by simp))
  try simp only [List.length_nil] at HS
  rw [hcv] at HO HS ⊢
  have HCV := Lib.hid hcv
  have HM : Hid (w1.heap[w.heap.size]? = some (.cells cv 47 (0, 0))) := Lib.hid m1
  have HSZ : Hid ((Tryz.prog.info? 47).map (·.size) = some cv.size) := Lib.hid (by rw [← hcv]; kernel_rfl)
  rw [← hcv] at m1
  obtain ⟨c0, _⟩ := msC_facts m1
  have HK := Lib.hid k1
  clear m1 k1 hcv
  go_enter Tryz.func59, Tryz.ntmps59
  go_wp2_with (fail)
  have HMM : Hid (MsAt w1 w.heap.size cv) := HM
  clear HM
  have HM := HMM
  clear HMM c0
  refine wp_region_soup 4 [] (spOf [(2, Spec.is (.agg cv)), (3, Spec.is (.bool true))]) (by kernel_rfl) (by kernel_rfl) (spOk_of (by simp [Spec.is_ok])) (pre_of (by simp [Spec.is_ok])) ?_
  simp only [List.append_eq, List.cons_append, List.nil_append, List.take_succ_cons, List.take_zero, List.drop_succ_cons, List.drop_zero]
  iterate 2
    with_reducible refine soup_q ?_ ?_ ?_
    · rfl
    · rfl
    with_reducible apply Exists.intro
    with_reducible refine ⟨fun W hk _ => ?_, ?_⟩
    · exact same_load_ms (.tmp 1) rfl (w.heap.size) rfl cv (HM.out.keep hk (by simp)) HSZ.out
    with_reducible apply Exists.intro
    with_reducible refine ⟨?_, ?_⟩
    · go_simp
      rfl
  refine soup_s rfl rfl rfl (fun W hk _ _ => ?_) ?_
  · unfold Oper.does
    go_simp
    refine (HO.out W).mono ?_
    rintro e w' ⟨rfl, hk'⟩
    exact ⟨_, rfl, hk', hk.trans hk', rfl, trivial⟩
  intro v hv
  obtain rfl : v = _ := hv
  with_reducible apply Exists.intro
  with_reducible refine ⟨?_, ?_⟩
  · go_simp
    rfl
  refine soup_s rfl rfl rfl (fun W hk _ _ => ?_) ?_
  · unfold Oper.does
    go_simp
    refine (HS.out W).mono ?_
    rintro e w' ⟨rfl, hk'⟩
    exact ⟨_, rfl, hk', hk.trans hk', rfl, trivial⟩
  intro v hv
  obtain rfl : v = _ := hv
  with_reducible apply Exists.intro
  with_reducible refine ⟨?_, ?_⟩
  · go_simp
    rfl
  refine soup_nil (fun W hk hS => ?_)
  have HK := Lib.hid (HK.out.trans hk)
  have HM := Lib.hid (HM.out.keep hk (by simp))
  clear hk hS
  have hm := HM.out
  rw [← HCV.out] at hm
  obtain ⟨c0, c1, c2, c3, c4, c5, c6, c7, c8, c9, c10, c11, c12, c13, c14, c15, c16, c17, c18, c19, c20, c21⟩ := msC_facts hm
  clear hm
  iterate 6
    go_wp2_with (fail)
    refine (rin_true (by omega) (by omega) _).mono ?_
    rintro e w4 ⟨rfl, rfl⟩
  go_wp2_with (fail)
  refine (ritems_zero _).mono ?_
  rintro e w4 ⟨rfl, hk4⟩
  have HK := Lib.hid (HK.out.trans hk4)
  have HM := Lib.hid (HM.out.keep hk4 (by simp))
  clear hk4 c0 c1 c2 c3 c4 c5 c6 c7 c8 c9 c10 c11 c12 c13 c14 c15 c16 c17 c18 c19 c20 c21
  have hm := HM.out
  rw [← HCV.out] at hm
  obtain ⟨c0, c1, c2, c3, c4, c5, c6, c7, c8, c9, c10, c11, c12, c13, c14, c15, c16, c17, c18, c19, c20, c21⟩ := msC_facts hm
  clear hm
  iterate 2
    go_wp2_with (fail)
    refine (rin_true (by omega) (by omega) _).mono ?_
    rintro e w5 ⟨rfl, rfl⟩
  go_wp2_with (fail)
  refine (rlists_true (a := none) (own := []) 0 (fun h => absurd rfl h) (by simp) 64 (by simp) (by simp)).mono ?_
  rintro e w5 ⟨rfl, rfl⟩
  go_wp2_with (fail)
  refine (rlists_true (a := none) (own := []) 0 (fun h => absurd rfl h) (by simp) 1024 (by simp) (by simp)).mono ?_
  rintro e w5 ⟨rfl, rfl⟩
  go_wp2_with (fail)
  go_ret
  exact ⟨rfl, HK.out⟩
set_option maxRecDepth 100000 in
set_option maxHeartbeats 4000000 in
theorem rright_14 {w : World} (ep nd : Nat) (hep : ep ≤ 2147483647) (hnd : nd ≤ 2147483647) {a : Option Addr} (c : Nat) {own : List Int} (hI : IntsAt w a own) (hx : ∀ x ∈ own, 0 ≤ x ∧ x ≤ 2147483647) (hl : own.length ≤ 64) : Calls Tryz.prog 59 #[.agg (msC 14 0 0 0 ep nd (.slice a own.length c))] w fun e w' => e = .returned (.int .i64 0) ∧ Keep [] w w' := by
  obtain ⟨cv, hcv⟩ : ∃ x, (msC 14 0 0 0 ep nd (.slice a own.length c)) = x := ⟨_, rfl⟩
  obtain ⟨w1, hw1⟩ : ∃ u, w.alloc (.cells cv 47) = u := ⟨_, rfl⟩
  have k1 : Keep [] w w1 := by rw [← hw1]; exact (Keep.refl _ _).alloc _
  have m1 : MsAt w1 w.heap.size cv := by rw [← hw1]; exact World.alloc_heap_new w _
  have HO := Lib.hid (fun W => ronly_14 (w := W) ep nd a own.length c)
  have HS := Lib.hid (fun W (hk : Keep [] w W) => rsame_ms (w := W) 14 0 0 0 ep nd (a := a) (b := a) (own := own) c c (hI.keep hk (by simp)) (hI.keep hk (by simp)) hl)
  try simp only [List.length_nil] at HS
  rw [hcv] at HO HS ⊢
  have HCV := Lib.hid hcv
  have HM : Hid (w1.heap[w.heap.size]? = some (.cells cv 47 (0, 0))) := Lib.hid m1
  have HSZ : Hid ((Tryz.prog.info? 47).map (·.size) = some cv.size) := Lib.hid (by rw [← hcv]; kernel_rfl)
  rw [← hcv] at m1
  obtain ⟨c0, _⟩ := msC_facts m1
  have HK := Lib.hid k1
  clear m1 k1 hcv
  go_enter Tryz.func59, Tryz.ntmps59
  go_wp2_with (fail)
  have HMM : Hid (MsAt w1 w.heap.size cv) := HM
  clear HM
  have HM := HMM
  clear HMM c0
  refine wp_region_soup 4 [] (spOf [(2, Spec.is (.agg cv)), (3, Spec.is (.bool true))]) (by kernel_rfl) (by kernel_rfl) (spOk_of (by simp [Spec.is_ok])) (pre_of (by simp [Spec.is_ok])) ?_
  simp only [List.append_eq, List.cons_append, List.nil_append, List.take_succ_cons, List.take_zero, List.drop_succ_cons, List.drop_zero]
  iterate 2
    with_reducible refine soup_q ?_ ?_ ?_
    · rfl
    · rfl
    with_reducible apply Exists.intro
    with_reducible refine ⟨fun W hk _ => ?_, ?_⟩
    · exact same_load_ms (.tmp 1) rfl (w.heap.size) rfl cv (HM.out.keep hk (by simp)) HSZ.out
    with_reducible apply Exists.intro
    with_reducible refine ⟨?_, ?_⟩
    · go_simp
      rfl
  refine soup_s rfl rfl rfl (fun W hk _ _ => ?_) ?_
  · unfold Oper.does
    go_simp
    refine (HO.out W).mono ?_
    rintro e w' ⟨rfl, hk'⟩
    exact ⟨_, rfl, hk', hk.trans hk', rfl, trivial⟩
  intro v hv
  obtain rfl : v = _ := hv
  with_reducible apply Exists.intro
  with_reducible refine ⟨?_, ?_⟩
  · go_simp
    rfl
  refine soup_s rfl rfl rfl (fun W hk _ _ => ?_) ?_
  · unfold Oper.does
    go_simp
    refine (HS.out W (HK.out.trans hk)).mono ?_
    rintro e w' ⟨rfl, hk'⟩
    exact ⟨_, rfl, hk', hk.trans hk', rfl, trivial⟩
  intro v hv
  obtain rfl : v = _ := hv
  with_reducible apply Exists.intro
  with_reducible refine ⟨?_, ?_⟩
  · go_simp
    rfl
  refine soup_nil (fun W hk hS => ?_)
  have HK := Lib.hid (HK.out.trans hk)
  have HM := Lib.hid (HM.out.keep hk (by simp))
  clear hk hS
  have hm := HM.out
  rw [← HCV.out] at hm
  obtain ⟨c0, c1, c2, c3, c4, c5, c6, c7, c8, c9, c10, c11, c12, c13, c14, c15, c16, c17, c18, c19, c20, c21⟩ := msC_facts hm
  clear hm
  iterate 6
    go_wp2_with (fail)
    refine (rin_true (by omega) (by omega) _).mono ?_
    rintro e w4 ⟨rfl, rfl⟩
  go_wp2_with (fail)
  refine (ritems_zero _).mono ?_
  rintro e w4 ⟨rfl, hk4⟩
  have HK := Lib.hid (HK.out.trans hk4)
  have HM := Lib.hid (HM.out.keep hk4 (by simp))
  clear hk4 c0 c1 c2 c3 c4 c5 c6 c7 c8 c9 c10 c11 c12 c13 c14 c15 c16 c17 c18 c19 c20 c21
  have hm := HM.out
  rw [← HCV.out] at hm
  obtain ⟨c0, c1, c2, c3, c4, c5, c6, c7, c8, c9, c10, c11, c12, c13, c14, c15, c16, c17, c18, c19, c20, c21⟩ := msC_facts hm
  clear hm
  iterate 2
    go_wp2_with (fail)
    refine (rin_true (by omega) (by omega) _).mono ?_
    rintro e w5 ⟨rfl, rfl⟩
  go_wp2_with (fail)
  refine (rlists_true c (hI.keep HK.out (by simp)) hx 64 (by omega) (by omega)).mono ?_
  rintro e w5 ⟨rfl, rfl⟩
  go_wp2_with (fail)
  refine (rlists_true (a := none) (own := []) 0 (fun h => absurd rfl h) (by simp) 1024 (by simp) (by simp)).mono ?_
  rintro e w5 ⟨rfl, rfl⟩
  go_wp2_with (fail)
  go_ret
  exact ⟨rfl, HK.out⟩
end Go.Proofs.YteejdfpfdnkiiaaGreat
