/- The document's bytes of a message (toward CoordPlays). -/
import Derived.Test.YteejdfpfdnkiiaaGreatCqJ
import Derived.Test.YteejdfpfdnkiiaaGreatPk
namespace Go.Proofs.YteejdfpfdnkiiaaGreat
open Go.RowKit Go.Lib
set_option linter.unusedSimpArgs false
set_option linter.unusedVariables false
set_option maxRecDepth 100000 in
set_option maxHeartbeats 4000000 in
theorem rbytes_4 {w : World} (mv pt to : Nat) (hmv : mv ≤ 2147483647) (hpt : pt ≤ 2147483647) (hto : to ≤ 2147483647) : Calls Tryz.prog 51 #[.agg (msC 4 mv pt to 0 0 (.slice none 0 0))] w fun e w' => e = .returned (.tuple #[.string ⟨([UInt8.ofNat 4] ++ varB mv ++ varB pt ++ varB to).toArray⟩, .int .i64 0]) ∧ Keep [] w w' := by
  obtain ⟨cv, hcv⟩ : ∃ x, (msC 4 mv pt to 0 0 (.slice none 0 0)) = x := ⟨_, rfl⟩
  obtain ⟨w1, hw1⟩ : ∃ u, w.alloc (.cells cv 47) = u := ⟨_, rfl⟩
  have k1 : Keep [] w w1 := by rw [← hw1]; exact (Keep.refl _ _).alloc _
  have m1 : MsAt w1 w.heap.size cv := by rw [← hw1]; exact World.alloc_heap_new w _
  have HR := Lib.hid (rright_4 (w := w1) mv pt to hmv hpt hto)
  rw [hcv] at HR ⊢
  have HCV := Lib.hid hcv
  have HM := Lib.hid m1
  have HM0 : Hid (w1.heap[w.heap.size]? = some (.cells cv 47 (0, 0))) := Lib.hid m1
  have HSZ : Hid ((Tryz.prog.info? 47).map (·.size) = some cv.size) := Lib.hid (by rw [← hcv]; kernel_rfl)
  have HK := Lib.hid k1
  clear m1 k1 hcv
  have lvmv := varB_len mv (by omega)
  have lvpt := varB_len pt (by omega)
  have lvto := varB_len to (by omega)
  have lv0 := varB_len 0 (by omega)
  have lnu : (numsB []).length = 0 := rfl
  have HNmv := Lib.hid (fun W => mnum_any mv W hmv)
  have HNpt := Lib.hid (fun W => mnum_any pt W hpt)
  have HNto := Lib.hid (fun W => mnum_any to W hto)
  have HNz := Lib.hid (fun W => mnum_any 0 W (by omega))
  try simp only [Int.natCast_zero] at HNz
  have HLS := Lib.hid (fun W => rlist_any (w := W) (a := none) (own := []) 0 (fun h => absurd rfl h) (by simp) (by simp))
  try simp only [List.length_nil] at HLS
  obtain ⟨s0, h_s0⟩ : ∃ s : ByteArray, ⟨([UInt8.ofNat 4]).toArray⟩ = s := ⟨_, rfl⟩
  obtain ⟨smv, h_smv⟩ : ∃ s : ByteArray, ⟨(varB mv).toArray⟩ = s := ⟨_, rfl⟩
  obtain ⟨spt, h_spt⟩ : ∃ s : ByteArray, ⟨(varB pt).toArray⟩ = s := ⟨_, rfl⟩
  obtain ⟨s1, h_s1⟩ : ∃ s : ByteArray, ⟨([UInt8.ofNat 4] ++ varB mv).toArray⟩ = s := ⟨_, rfl⟩
  obtain ⟨s2, h_s2⟩ : ∃ s : ByteArray, ⟨([UInt8.ofNat 4] ++ varB mv ++ varB pt).toArray⟩ = s := ⟨_, rfl⟩
  obtain ⟨sz, h_sz⟩ : ∃ s : ByteArray, ⟨(varB 0).toArray⟩ = s := ⟨_, rfl⟩
  obtain ⟨szz, h_szz⟩ : ∃ s : ByteArray, ⟨(varB 0 ++ varB 0).toArray⟩ = s := ⟨_, rfl⟩
  obtain ⟨sls, h_sls⟩ : ∃ s : ByteArray, ⟨((varB 0 ++ numsB [])).toArray⟩ = s := ⟨_, rfl⟩
  obtain ⟨t2, h_t2⟩ : ∃ s : ByteArray, ⟨(varB 0 ++ varB 0 ++ (varB 0 ++ numsB [])).toArray⟩ = s := ⟨_, rfl⟩
  obtain ⟨sto, h_sto⟩ : ∃ s : ByteArray, ⟨(varB to).toArray⟩ = s := ⟨_, rfl⟩
  obtain ⟨s3, h_s3⟩ : ∃ s : ByteArray, ⟨([UInt8.ofNat 4] ++ varB mv ++ varB pt ++ varB to).toArray⟩ = s := ⟨_, rfl⟩
  have a_s1 : s0 ++ smv = s1 := by rw [← h_s0, ← h_smv, ← h_s1, ByteArray.mk_append_mk]
  have z_s1 : ¬ (s0.size + smv.size > 9223372036854775807) := by rw [← h_s0, ← h_smv]; simp only [bs_size, List.length_append, List.length_cons, List.length_nil]; omega
  have a_s2 : s1 ++ spt = s2 := by rw [← h_s1, ← h_spt, ← h_s2, ByteArray.mk_append_mk]
  have z_s2 : ¬ (s1.size + spt.size > 9223372036854775807) := by rw [← h_s1, ← h_spt]; simp only [bs_size, List.length_append, List.length_cons, List.length_nil]; omega
  have a_szz : sz ++ sz = szz := by rw [← h_sz, ← h_szz, ByteArray.mk_append_mk]
  have z_szz : ¬ (sz.size + sz.size > 9223372036854775807) := by rw [← h_sz]; simp only [bs_size, List.length_append, List.length_cons, List.length_nil]; omega
  have a_t2 : szz ++ sls = t2 := by rw [← h_szz, ← h_sls, ← h_t2, ByteArray.mk_append_mk]
  have z_t2 : ¬ (szz.size + sls.size > 9223372036854775807) := by rw [← h_szz, ← h_sls]; simp only [bs_size, List.length_append, List.length_cons, List.length_nil]; omega
  have a_s3 : s2 ++ sto = s3 := by rw [← h_s2, ← h_sto, ← h_s3, ByteArray.mk_append_mk]
  have z_s3 : ¬ (s2.size + sto.size > 9223372036854775807) := by rw [← h_s2, ← h_sto]; simp only [bs_size, List.length_append, List.length_cons, List.length_nil]; omega
  rw [h_smv] at HNmv
  rw [h_spt] at HNpt
  rw [h_sto] at HNto
  rw [h_sz] at HNz
  rw [h_sls] at HLS
  rw [h_s3]
  have H0 := Lib.hid h_s0
  clear h_s0 h_smv h_spt h_s1 h_s2 h_sz h_szz h_sls h_t2 h_sto h_s3 lvmv lvpt lvto lv0 lnu
  go_enter Tryz.func51, Tryz.ntmps51
  go_wp2_with ((with_reducible refine wpList_load_row ?_ 47 (.tmp 1) ?_ (w.heap.size) ?_ 47 cv (0, 0) _ HM0.out Tryz.underlying47 ?_ HSZ.out ?_); rfl; rfl; rfl; rfl)
  refine HR.out.mono ?_
  rintro e w2 ⟨rfl, hk2⟩
  have HK := Lib.hid (HK.out.trans hk2)
  have HM := Lib.hid (HM.out.keep hk2 (by simp))
  clear hk2 hw1
  have hls := lit_string w2 [UInt8.ofNat 4] (by simp) (by simp)
  rw [H0.out] at hls
  obtain ⟨w3, hw3⟩ : ∃ u, w2.alloc (.cells #[.int .u8 4] 5) = u := ⟨_, rfl⟩
  have hls2 : (convert 119 9 (.slice (some ⟨w2.heap.size, 0, none⟩) 1 1)).run Tryz.prog w3 = .ok (.string s0) w3 := by rw [← hw3]; exact hls
  clear hls
  have k3 : Keep [] w2 w3 := by rw [← hw3]; exact (Keep.refl _ _).alloc _
  have HK := Lib.hid (HK.out.trans k3)
  have hm := HM.out
  rw [← HCV.out] at hm
  have c0 := (msC_facts hm).1
  have HM := Lib.hid (HM.out.keep k3 (by simp))
  have hm' := hm.keep k3 (by simp)
  obtain ⟨d0, d1, d2, d3, d4, d5, d6, d7, d8, d9, d10, d11, d12, d13, d14, d15, d16, d17, d18, d19, d20, d21⟩ := msC_facts hm'
  clear hm hm' k3
  go_wp2_with (fail)
  clear hw3 hls2
  clear c0 d0 d1 d2 d3 d4 d5 d6 d7 d8 d9 d10 d11 d12 d13 d14 d15 d16 d17 d18 d19 d20 d21
  refine wp_region_soup 8 [] (spOf [(3, Spec.is (.string smv)), (7, Spec.is (.string spt))]) (by kernel_rfl) (by kernel_rfl) (spOk_of (by simp [Spec.is_ok])) (pre_of (by simp [Spec.is_ok])) ?_
  simp only [List.take_succ_cons, List.take_zero, List.drop_succ_cons, List.drop_zero]
  iterate 2
    with_reducible refine soup_q ?_ ?_ ?_
    · rfl
    · rfl
    with_reducible apply Exists.intro
    with_reducible refine ⟨fun W hk _ => ?_, ?_⟩
    · unfold Oper.same
      go_simp
      first | rfl | exact ⟨rfl, rfl⟩
    with_reducible apply Exists.intro
    with_reducible refine ⟨?_, ?_⟩
    · go_simp
      rfl
  with_reducible refine soup_q ?_ ?_ ?_
  · rfl
  · rfl
  with_reducible apply Exists.intro
  with_reducible refine ⟨fun W hk _ => ?_, ?_⟩
  · have hm := HM.out.keep hk (by simp)
    rw [← HCV.out] at hm
    obtain ⟨e0, e1, e2, e3, e4, e5, e6, e7, e8, e9, e10, e11, e12, e13, e14, e15, e16, e17, e18, e19, e20, e21⟩ := msC_facts hm
    clear hm
    unfold Oper.same
    go_simp
    first | rfl | exact ⟨rfl, rfl⟩
  with_reducible apply Exists.intro
  with_reducible refine ⟨?_, ?_⟩
  · go_simp
    rfl
  refine soup_s rfl rfl rfl (fun W hk _ _ => ?_) ?_
  · unfold Oper.does
    go_simp
    refine (HNmv.out W).mono ?_
    rintro e w' ⟨rfl, hk'⟩
    exact ⟨_, rfl, hk', hk.trans hk', rfl, trivial⟩
  intro v hv
  obtain rfl : v = _ := hv
  with_reducible apply Exists.intro
  with_reducible refine ⟨?_, ?_⟩
  · go_simp
    rfl
  iterate 2
    with_reducible refine soup_q ?_ ?_ ?_
    · rfl
    · rfl
    with_reducible apply Exists.intro
    with_reducible refine ⟨fun W hk _ => ?_, ?_⟩
    · unfold Oper.same
      go_simp
      first | rfl | exact ⟨rfl, rfl⟩
    with_reducible apply Exists.intro
    with_reducible refine ⟨?_, ?_⟩
    · go_simp
      rfl
  with_reducible refine soup_q ?_ ?_ ?_
  · rfl
  · rfl
  with_reducible apply Exists.intro
  with_reducible refine ⟨fun W hk _ => ?_, ?_⟩
  · have hm := HM.out.keep hk (by simp)
    rw [← HCV.out] at hm
    obtain ⟨e0, e1, e2, e3, e4, e5, e6, e7, e8, e9, e10, e11, e12, e13, e14, e15, e16, e17, e18, e19, e20, e21⟩ := msC_facts hm
    clear hm
    unfold Oper.same
    go_simp
    first | rfl | exact ⟨rfl, rfl⟩
  with_reducible apply Exists.intro
  with_reducible refine ⟨?_, ?_⟩
  · go_simp
    rfl
  refine soup_s rfl rfl rfl (fun W hk _ _ => ?_) ?_
  · unfold Oper.does
    go_simp
    refine (HNpt.out W).mono ?_
    rintro e w' ⟨rfl, hk'⟩
    exact ⟨_, rfl, hk', hk.trans hk', rfl, trivial⟩
  intro v hv
  obtain rfl : v = _ := hv
  with_reducible apply Exists.intro
  with_reducible refine ⟨?_, ?_⟩
  · go_simp
    rfl
  refine soup_nil (fun W hk hS => ?_)
  have HK := Lib.hid (HK.out.trans hk)
  have HM := Lib.hid (HM.out.keep hk (by simp))
  clear hk hS
  have hm := HM.out
  rw [← HCV.out] at hm
  obtain ⟨c0, c1, c2, c3, c4, c5, c6, c7, c8, c9, c10, c11, c12, c13, c14, c15, c16, c17, c18, c19, c20, c21⟩ := msC_facts hm
  clear hm
  go_wp2_with (fail)
  clear c0 c1 c2 c3 c4 c5 c6 c7 c8 c9 c10 c11 c12 c13 c14 c15 c16 c17 c18 c19 c20 c21
  refine wp_region_soup 8 [] (spOf [(3, Spec.is (.string sz)), (7, Spec.is (.string sz))]) (by kernel_rfl) (by kernel_rfl) (spOk_of (by simp [Spec.is_ok])) (pre_of (by simp [Spec.is_ok])) ?_
  simp only [List.take_succ_cons, List.take_zero, List.drop_succ_cons, List.drop_zero]
  iterate 2
    with_reducible refine soup_q ?_ ?_ ?_
    · rfl
    · rfl
    with_reducible apply Exists.intro
    with_reducible refine ⟨fun W hk _ => ?_, ?_⟩
    · unfold Oper.same
      go_simp
      first | rfl | exact ⟨rfl, rfl⟩
    with_reducible apply Exists.intro
    with_reducible refine ⟨?_, ?_⟩
    · go_simp
      rfl
  with_reducible refine soup_q ?_ ?_ ?_
  · rfl
  · rfl
  with_reducible apply Exists.intro
  with_reducible refine ⟨fun W hk _ => ?_, ?_⟩
  · have hm := HM.out.keep hk (by simp)
    rw [← HCV.out] at hm
    obtain ⟨e0, e1, e2, e3, e4, e5, e6, e7, e8, e9, e10, e11, e12, e13, e14, e15, e16, e17, e18, e19, e20, e21⟩ := msC_facts hm
    clear hm
    unfold Oper.same
    go_simp
    first | rfl | exact ⟨rfl, rfl⟩
  with_reducible apply Exists.intro
  with_reducible refine ⟨?_, ?_⟩
  · go_simp
    rfl
  refine soup_s rfl rfl rfl (fun W hk _ _ => ?_) ?_
  · unfold Oper.does
    go_simp
    refine (HNz.out W).mono ?_
    rintro e w' ⟨rfl, hk'⟩
    exact ⟨_, rfl, hk', hk.trans hk', rfl, trivial⟩
  intro v hv
  obtain rfl : v = _ := hv
  with_reducible apply Exists.intro
  with_reducible refine ⟨?_, ?_⟩
  · go_simp
    rfl
  iterate 2
    with_reducible refine soup_q ?_ ?_ ?_
    · rfl
    · rfl
    with_reducible apply Exists.intro
    with_reducible refine ⟨fun W hk _ => ?_, ?_⟩
    · unfold Oper.same
      go_simp
      first | rfl | exact ⟨rfl, rfl⟩
    with_reducible apply Exists.intro
    with_reducible refine ⟨?_, ?_⟩
    · go_simp
      rfl
  with_reducible refine soup_q ?_ ?_ ?_
  · rfl
  · rfl
  with_reducible apply Exists.intro
  with_reducible refine ⟨fun W hk _ => ?_, ?_⟩
  · have hm := HM.out.keep hk (by simp)
    rw [← HCV.out] at hm
    obtain ⟨e0, e1, e2, e3, e4, e5, e6, e7, e8, e9, e10, e11, e12, e13, e14, e15, e16, e17, e18, e19, e20, e21⟩ := msC_facts hm
    clear hm
    unfold Oper.same
    go_simp
    first | rfl | exact ⟨rfl, rfl⟩
  with_reducible apply Exists.intro
  with_reducible refine ⟨?_, ?_⟩
  · go_simp
    rfl
  refine soup_s rfl rfl rfl (fun W hk _ _ => ?_) ?_
  · unfold Oper.does
    go_simp
    refine (HNz.out W).mono ?_
    rintro e w' ⟨rfl, hk'⟩
    exact ⟨_, rfl, hk', hk.trans hk', rfl, trivial⟩
  intro v hv
  obtain rfl : v = _ := hv
  with_reducible apply Exists.intro
  with_reducible refine ⟨?_, ?_⟩
  · go_simp
    rfl
  refine soup_nil (fun W hk hS => ?_)
  have HK := Lib.hid (HK.out.trans hk)
  have HM := Lib.hid (HM.out.keep hk (by simp))
  clear hk hS
  have hm := HM.out
  rw [← HCV.out] at hm
  obtain ⟨c0, c1, c2, c3, c4, c5, c6, c7, c8, c9, c10, c11, c12, c13, c14, c15, c16, c17, c18, c19, c20, c21⟩ := msC_facts hm
  clear hm
  go_wp2_with (fail)
  clear c0 c1 c2 c3 c4 c5 c6 c7 c8 c9 c10 c11 c12 c13 c14 c15 c16 c17 c18 c19 c20 c21
  refine wp_region_soup 13 [] (spOf [(3, Spec.is (.string sz)), (7, Spec.is (.string sz)), (12, Spec.is (.string sls))]) (by kernel_rfl) (by kernel_rfl) (spOk_of (by simp [Spec.is_ok])) (pre_of (by simp [Spec.is_ok])) ?_
  simp only [List.take_succ_cons, List.take_zero, List.drop_succ_cons, List.drop_zero]
  iterate 2
    with_reducible refine soup_q ?_ ?_ ?_
    · rfl
    · rfl
    with_reducible apply Exists.intro
    with_reducible refine ⟨fun W hk _ => ?_, ?_⟩
    · unfold Oper.same
      go_simp
      first | rfl | exact ⟨rfl, rfl⟩
    with_reducible apply Exists.intro
    with_reducible refine ⟨?_, ?_⟩
    · go_simp
      rfl
  iterate 2
    with_reducible refine soup_q ?_ ?_ ?_
    · rfl
    · rfl
    with_reducible apply Exists.intro
    with_reducible refine ⟨fun W hk _ => ?_, ?_⟩
    · have hm := HM.out.keep hk (by simp)
      rw [← HCV.out] at hm
      obtain ⟨e0, e1, e2, e3, e4, e5, e6, e7, e8, e9, e10, e11, e12, e13, e14, e15, e16, e17, e18, e19, e20, e21⟩ := msC_facts hm
      clear hm
      unfold Oper.same
      go_simp
      first | rfl | exact ⟨rfl, rfl⟩
    with_reducible apply Exists.intro
    with_reducible refine ⟨?_, ?_⟩
    · go_simp
      rfl
    refine soup_s rfl rfl rfl (fun W hk _ _ => ?_) ?_
    · unfold Oper.does
      go_simp
      refine (HNz.out W).mono ?_
      rintro e w' ⟨rfl, hk'⟩
      exact ⟨_, rfl, hk', hk.trans hk', rfl, trivial⟩
    intro v hv
    obtain rfl : v = _ := hv
    with_reducible apply Exists.intro
    with_reducible refine ⟨?_, ?_⟩
    · go_simp
      rfl
    with_reducible refine soup_q ?_ ?_ ?_
    · rfl
    · rfl
    with_reducible apply Exists.intro
    with_reducible refine ⟨fun W hk _ => ?_, ?_⟩
    · unfold Oper.same
      go_simp
      first | rfl | exact ⟨rfl, rfl⟩
    with_reducible apply Exists.intro
    with_reducible refine ⟨?_, ?_⟩
    · go_simp
      rfl
    with_reducible refine soup_q ?_ ?_ ?_
    · rfl
    · rfl
    with_reducible apply Exists.intro
    with_reducible refine ⟨fun W hk _ => ?_, ?_⟩
    · unfold Oper.same
      go_simp
      first | rfl | exact ⟨rfl, rfl⟩
    with_reducible apply Exists.intro
    with_reducible refine ⟨?_, ?_⟩
    · go_simp
      rfl
  with_reducible refine soup_q ?_ ?_ ?_
  · rfl
  · rfl
  with_reducible apply Exists.intro
  with_reducible refine ⟨fun W hk _ => ?_, ?_⟩
  · unfold Oper.same
    go_simp
    first | rfl | exact ⟨rfl, rfl⟩
  with_reducible apply Exists.intro
  with_reducible refine ⟨?_, ?_⟩
  · go_simp
    rfl
  with_reducible refine soup_q ?_ ?_ ?_
  · rfl
  · rfl
  with_reducible apply Exists.intro
  with_reducible refine ⟨fun W hk _ => ?_, ?_⟩
  · have hm := HM.out.keep hk (by simp)
    rw [← HCV.out] at hm
    obtain ⟨e0, e1, e2, e3, e4, e5, e6, e7, e8, e9, e10, e11, e12, e13, e14, e15, e16, e17, e18, e19, e20, e21⟩ := msC_facts hm
    clear hm
    unfold Oper.same
    go_simp
    first | rfl | exact ⟨rfl, rfl⟩
  with_reducible apply Exists.intro
  with_reducible refine ⟨?_, ?_⟩
  · go_simp
    rfl
  refine soup_s rfl rfl rfl (fun W hk _ _ => ?_) ?_
  · unfold Oper.does
    go_simp
    refine (HLS.out W).mono ?_
    rintro e w' ⟨rfl, hk'⟩
    exact ⟨_, rfl, hk', hk.trans hk', rfl, trivial⟩
  intro v hv
  obtain rfl : v = _ := hv
  with_reducible apply Exists.intro
  with_reducible refine ⟨?_, ?_⟩
  · go_simp
    rfl
  refine soup_nil (fun W hk hS => ?_)
  have HK := Lib.hid (HK.out.trans hk)
  have HM := Lib.hid (HM.out.keep hk (by simp))
  clear hk hS
  have hm := HM.out
  rw [← HCV.out] at hm
  obtain ⟨c0, c1, c2, c3, c4, c5, c6, c7, c8, c9, c10, c11, c12, c13, c14, c15, c16, c17, c18, c19, c20, c21⟩ := msC_facts hm
  clear hm
  go_wp2_with (fail)
  refine (HNto.out _).mono ?_
  rintro e w9 ⟨rfl, hk9⟩
  have HK := Lib.hid (HK.out.trans hk9)
  clear hk9
  go_wp2_with (fail)
  go_ret2
  exact ⟨rfl, HK.out⟩
set_option maxRecDepth 100000 in
set_option maxHeartbeats 4000000 in
theorem rbytes_11 {w : World} (mv pt ep nd : Nat) (hmv : mv ≤ 2147483647) (hpt : pt ≤ 2147483647) (hep : ep ≤ 2147483647) (hnd : nd ≤ 2147483647) {a : Option Addr} (c : Nat) {own : List Int} (hI : IntsAt w a own) (hx : ∀ x ∈ own, 0 ≤ x ∧ x ≤ 2147483647) (hl : own.length ≤ 64) : Calls Tryz.prog 51 #[.agg (msC 11 mv pt 0 ep nd (.slice a own.length c))] w fun e w' => e = .returned (.tuple #[.string ⟨([UInt8.ofNat 11] ++ varB mv ++ varB pt ++ (varB ep ++ varB nd ++ (varB own.length ++ numsB own))).toArray⟩, .int .i64 0]) ∧ Keep [] w w' := by
  obtain ⟨cv, hcv⟩ : ∃ x, (msC 11 mv pt 0 ep nd (.slice a own.length c)) = x := ⟨_, rfl⟩
  obtain ⟨w1, hw1⟩ : ∃ u, w.alloc (.cells cv 47) = u := ⟨_, rfl⟩
  have k1 : Keep [] w w1 := by rw [← hw1]; exact (Keep.refl _ _).alloc _
  have m1 : MsAt w1 w.heap.size cv := by rw [← hw1]; exact World.alloc_heap_new w _
  have HR := Lib.hid (rright_11 (w := w1) mv pt ep nd hmv hpt hep hnd c (hI.keep k1 (by simp)) hx hl)
  rw [hcv] at HR ⊢
  have HCV := Lib.hid hcv
  have HM := Lib.hid m1
  have HM0 : Hid (w1.heap[w.heap.size]? = some (.cells cv 47 (0, 0))) := Lib.hid m1
  have HSZ : Hid ((Tryz.prog.info? 47).map (·.size) = some cv.size) := Lib.hid (by rw [← hcv]; kernel_rfl)
  have HK := Lib.hid k1
  clear m1 k1 hcv
  have lvmv := varB_len mv (by omega)
  have lvpt := varB_len pt (by omega)
  have lvep := varB_len ep (by omega)
  have lvnd := varB_len nd (by omega)
  have lv0 := varB_len 0 (by omega)
  have lvl := varB_len own.length (by omega)
  have lnu := numsB_len own hx
  have HNmv := Lib.hid (fun W => mnum_any mv W hmv)
  have HNpt := Lib.hid (fun W => mnum_any pt W hpt)
  have HNep := Lib.hid (fun W => mnum_any ep W hep)
  have HNnd := Lib.hid (fun W => mnum_any nd W hnd)
  have HNz := Lib.hid (fun W => mnum_any 0 W (by omega))
  try simp only [Int.natCast_zero] at HNz
  have HLS := Lib.hid (fun W (hk : Keep [] w W) => rlist_any c (hI.keep hk (by simp)) hx hl)
  obtain ⟨s0, h_s0⟩ : ∃ s : ByteArray, ⟨([UInt8.ofNat 11]).toArray⟩ = s := ⟨_, rfl⟩
  obtain ⟨smv, h_smv⟩ : ∃ s : ByteArray, ⟨(varB mv).toArray⟩ = s := ⟨_, rfl⟩
  obtain ⟨spt, h_spt⟩ : ∃ s : ByteArray, ⟨(varB pt).toArray⟩ = s := ⟨_, rfl⟩
  obtain ⟨s1, h_s1⟩ : ∃ s : ByteArray, ⟨([UInt8.ofNat 11] ++ varB mv).toArray⟩ = s := ⟨_, rfl⟩
  obtain ⟨s2, h_s2⟩ : ∃ s : ByteArray, ⟨([UInt8.ofNat 11] ++ varB mv ++ varB pt).toArray⟩ = s := ⟨_, rfl⟩
  obtain ⟨sz, h_sz⟩ : ∃ s : ByteArray, ⟨(varB 0).toArray⟩ = s := ⟨_, rfl⟩
  obtain ⟨szz, h_szz⟩ : ∃ s : ByteArray, ⟨(varB 0 ++ varB 0).toArray⟩ = s := ⟨_, rfl⟩
  obtain ⟨sep, h_sep⟩ : ∃ s : ByteArray, ⟨(varB ep).toArray⟩ = s := ⟨_, rfl⟩
  obtain ⟨snd, h_snd⟩ : ∃ s : ByteArray, ⟨(varB nd).toArray⟩ = s := ⟨_, rfl⟩
  obtain ⟨t1, h_t1⟩ : ∃ s : ByteArray, ⟨(varB ep ++ varB nd).toArray⟩ = s := ⟨_, rfl⟩
  obtain ⟨sls, h_sls⟩ : ∃ s : ByteArray, ⟨((varB own.length ++ numsB own)).toArray⟩ = s := ⟨_, rfl⟩
  obtain ⟨t2, h_t2⟩ : ∃ s : ByteArray, ⟨(varB ep ++ varB nd ++ (varB own.length ++ numsB own)).toArray⟩ = s := ⟨_, rfl⟩
  obtain ⟨s3, h_s3⟩ : ∃ s : ByteArray, ⟨([UInt8.ofNat 11] ++ varB mv ++ varB pt ++ (varB ep ++ varB nd ++ (varB own.length ++ numsB own))).toArray⟩ = s := ⟨_, rfl⟩
  have a_s1 : s0 ++ smv = s1 := by rw [← h_s0, ← h_smv, ← h_s1, ByteArray.mk_append_mk]
  have z_s1 : ¬ (s0.size + smv.size > 9223372036854775807) := by rw [← h_s0, ← h_smv]; simp only [bs_size, List.length_append, List.length_cons, List.length_nil]; omega
  have a_s2 : s1 ++ spt = s2 := by rw [← h_s1, ← h_spt, ← h_s2, ByteArray.mk_append_mk]
  have z_s2 : ¬ (s1.size + spt.size > 9223372036854775807) := by rw [← h_s1, ← h_spt]; simp only [bs_size, List.length_append, List.length_cons, List.length_nil]; omega
  have a_szz : sz ++ sz = szz := by rw [← h_sz, ← h_szz, ByteArray.mk_append_mk]
  have z_szz : ¬ (sz.size + sz.size > 9223372036854775807) := by rw [← h_sz]; simp only [bs_size, List.length_append, List.length_cons, List.length_nil]; omega
  have a_t1 : sep ++ snd = t1 := by rw [← h_sep, ← h_snd, ← h_t1, ByteArray.mk_append_mk]
  have z_t1 : ¬ (sep.size + snd.size > 9223372036854775807) := by rw [← h_sep, ← h_snd]; simp only [bs_size, List.length_append, List.length_cons, List.length_nil]; omega
  have a_t2 : t1 ++ sls = t2 := by rw [← h_t1, ← h_sls, ← h_t2, ByteArray.mk_append_mk]
  have z_t2 : ¬ (t1.size + sls.size > 9223372036854775807) := by rw [← h_t1, ← h_sls]; simp only [bs_size, List.length_append, List.length_cons, List.length_nil]; omega
  have a_s3 : s2 ++ t2 = s3 := by rw [← h_s2, ← h_t2, ← h_s3, ByteArray.mk_append_mk]
  have z_s3 : ¬ (s2.size + t2.size > 9223372036854775807) := by rw [← h_s2, ← h_t2]; simp only [bs_size, List.length_append, List.length_cons, List.length_nil]; omega
  rw [h_smv] at HNmv
  rw [h_spt] at HNpt
  rw [h_sep] at HNep
  rw [h_snd] at HNnd
  rw [h_sz] at HNz
  rw [h_sls] at HLS
  rw [h_s3]
  have H0 := Lib.hid h_s0
  clear h_s0 h_smv h_spt h_s1 h_s2 h_sz h_szz h_sep h_snd h_t1 h_sls h_t2 h_s3 lvmv lvpt lvep lvnd lv0 lnu lvl
  go_enter Tryz.func51, Tryz.ntmps51
  go_wp2_with ((with_reducible refine wpList_load_row ?_ 47 (.tmp 1) ?_ (w.heap.size) ?_ 47 cv (0, 0) _ HM0.out Tryz.underlying47 ?_ HSZ.out ?_); rfl; rfl; rfl; rfl)
  refine HR.out.mono ?_
  rintro e w2 ⟨rfl, hk2⟩
  have HK := Lib.hid (HK.out.trans hk2)
  have HM := Lib.hid (HM.out.keep hk2 (by simp))
  clear hk2 hw1
  have hls := lit_string w2 [UInt8.ofNat 11] (by simp) (by simp)
  rw [H0.out] at hls
  obtain ⟨w3, hw3⟩ : ∃ u, w2.alloc (.cells #[.int .u8 11] 5) = u := ⟨_, rfl⟩
  have hls2 : (convert 119 9 (.slice (some ⟨w2.heap.size, 0, none⟩) 1 1)).run Tryz.prog w3 = .ok (.string s0) w3 := by rw [← hw3]; exact hls
  clear hls
  have k3 : Keep [] w2 w3 := by rw [← hw3]; exact (Keep.refl _ _).alloc _
  have HK := Lib.hid (HK.out.trans k3)
  have hm := HM.out
  rw [← HCV.out] at hm
  have c0 := (msC_facts hm).1
  have HM := Lib.hid (HM.out.keep k3 (by simp))
  have hm' := hm.keep k3 (by simp)
  obtain ⟨d0, d1, d2, d3, d4, d5, d6, d7, d8, d9, d10, d11, d12, d13, d14, d15, d16, d17, d18, d19, d20, d21⟩ := msC_facts hm'
  clear hm hm' k3
  go_wp2_with (fail)
  clear hw3 hls2
  clear c0 d0 d1 d2 d3 d4 d5 d6 d7 d8 d9 d10 d11 d12 d13 d14 d15 d16 d17 d18 d19 d20 d21
  refine wp_region_soup 8 [] (spOf [(3, Spec.is (.string smv)), (7, Spec.is (.string spt))]) (by kernel_rfl) (by kernel_rfl) (spOk_of (by simp [Spec.is_ok])) (pre_of (by simp [Spec.is_ok])) ?_
  simp only [List.take_succ_cons, List.take_zero, List.drop_succ_cons, List.drop_zero]
  iterate 2
    with_reducible refine soup_q ?_ ?_ ?_
    · rfl
    · rfl
    with_reducible apply Exists.intro
    with_reducible refine ⟨fun W hk _ => ?_, ?_⟩
    · unfold Oper.same
      go_simp
      first | rfl | exact ⟨rfl, rfl⟩
    with_reducible apply Exists.intro
    with_reducible refine ⟨?_, ?_⟩
    · go_simp
      rfl
  with_reducible refine soup_q ?_ ?_ ?_
  · rfl
  · rfl
  with_reducible apply Exists.intro
  with_reducible refine ⟨fun W hk _ => ?_, ?_⟩
  · have hm := HM.out.keep hk (by simp)
    rw [← HCV.out] at hm
    obtain ⟨e0, e1, e2, e3, e4, e5, e6, e7, e8, e9, e10, e11, e12, e13, e14, e15, e16, e17, e18, e19, e20, e21⟩ := msC_facts hm
    clear hm
    unfold Oper.same
    go_simp
    first | rfl | exact ⟨rfl, rfl⟩
  with_reducible apply Exists.intro
  with_reducible refine ⟨?_, ?_⟩
  · go_simp
    rfl
  refine soup_s rfl rfl rfl (fun W hk _ _ => ?_) ?_
  · unfold Oper.does
    go_simp
    refine (HNmv.out W).mono ?_
    rintro e w' ⟨rfl, hk'⟩
    exact ⟨_, rfl, hk', hk.trans hk', rfl, trivial⟩
  intro v hv
  obtain rfl : v = _ := hv
  with_reducible apply Exists.intro
  with_reducible refine ⟨?_, ?_⟩
  · go_simp
    rfl
  iterate 2
    with_reducible refine soup_q ?_ ?_ ?_
    · rfl
    · rfl
    with_reducible apply Exists.intro
    with_reducible refine ⟨fun W hk _ => ?_, ?_⟩
    · unfold Oper.same
      go_simp
      first | rfl | exact ⟨rfl, rfl⟩
    with_reducible apply Exists.intro
    with_reducible refine ⟨?_, ?_⟩
    · go_simp
      rfl
  with_reducible refine soup_q ?_ ?_ ?_
  · rfl
  · rfl
  with_reducible apply Exists.intro
  with_reducible refine ⟨fun W hk _ => ?_, ?_⟩
  · have hm := HM.out.keep hk (by simp)
    rw [← HCV.out] at hm
    obtain ⟨e0, e1, e2, e3, e4, e5, e6, e7, e8, e9, e10, e11, e12, e13, e14, e15, e16, e17, e18, e19, e20, e21⟩ := msC_facts hm
    clear hm
    unfold Oper.same
    go_simp
    first | rfl | exact ⟨rfl, rfl⟩
  with_reducible apply Exists.intro
  with_reducible refine ⟨?_, ?_⟩
  · go_simp
    rfl
  refine soup_s rfl rfl rfl (fun W hk _ _ => ?_) ?_
  · unfold Oper.does
    go_simp
    refine (HNpt.out W).mono ?_
    rintro e w' ⟨rfl, hk'⟩
    exact ⟨_, rfl, hk', hk.trans hk', rfl, trivial⟩
  intro v hv
  obtain rfl : v = _ := hv
  with_reducible apply Exists.intro
  with_reducible refine ⟨?_, ?_⟩
  · go_simp
    rfl
  refine soup_nil (fun W hk hS => ?_)
  have HK := Lib.hid (HK.out.trans hk)
  have HM := Lib.hid (HM.out.keep hk (by simp))
  clear hk hS
  have hm := HM.out
  rw [← HCV.out] at hm
  obtain ⟨c0, c1, c2, c3, c4, c5, c6, c7, c8, c9, c10, c11, c12, c13, c14, c15, c16, c17, c18, c19, c20, c21⟩ := msC_facts hm
  clear hm
  go_wp2_with (fail)
  clear c0 c1 c2 c3 c4 c5 c6 c7 c8 c9 c10 c11 c12 c13 c14 c15 c16 c17 c18 c19 c20 c21
  refine wp_region_soup 8 [] (spOf [(3, Spec.is (.string sz)), (7, Spec.is (.string sz))]) (by kernel_rfl) (by kernel_rfl) (spOk_of (by simp [Spec.is_ok])) (pre_of (by simp [Spec.is_ok])) ?_
  simp only [List.take_succ_cons, List.take_zero, List.drop_succ_cons, List.drop_zero]
  iterate 2
    with_reducible refine soup_q ?_ ?_ ?_
    · rfl
    · rfl
    with_reducible apply Exists.intro
    with_reducible refine ⟨fun W hk _ => ?_, ?_⟩
    · unfold Oper.same
      go_simp
      first | rfl | exact ⟨rfl, rfl⟩
    with_reducible apply Exists.intro
    with_reducible refine ⟨?_, ?_⟩
    · go_simp
      rfl
  with_reducible refine soup_q ?_ ?_ ?_
  · rfl
  · rfl
  with_reducible apply Exists.intro
  with_reducible refine ⟨fun W hk _ => ?_, ?_⟩
  · have hm := HM.out.keep hk (by simp)
    rw [← HCV.out] at hm
    obtain ⟨e0, e1, e2, e3, e4, e5, e6, e7, e8, e9, e10, e11, e12, e13, e14, e15, e16, e17, e18, e19, e20, e21⟩ := msC_facts hm
    clear hm
    unfold Oper.same
    go_simp
    first | rfl | exact ⟨rfl, rfl⟩
  with_reducible apply Exists.intro
  with_reducible refine ⟨?_, ?_⟩
  · go_simp
    rfl
  refine soup_s rfl rfl rfl (fun W hk _ _ => ?_) ?_
  · unfold Oper.does
    go_simp
    refine (HNz.out W).mono ?_
    rintro e w' ⟨rfl, hk'⟩
    exact ⟨_, rfl, hk', hk.trans hk', rfl, trivial⟩
  intro v hv
  obtain rfl : v = _ := hv
  with_reducible apply Exists.intro
  with_reducible refine ⟨?_, ?_⟩
  · go_simp
    rfl
  iterate 2
    with_reducible refine soup_q ?_ ?_ ?_
    · rfl
    · rfl
    with_reducible apply Exists.intro
    with_reducible refine ⟨fun W hk _ => ?_, ?_⟩
    · unfold Oper.same
      go_simp
      first | rfl | exact ⟨rfl, rfl⟩
    with_reducible apply Exists.intro
    with_reducible refine ⟨?_, ?_⟩
    · go_simp
      rfl
  with_reducible refine soup_q ?_ ?_ ?_
  · rfl
  · rfl
  with_reducible apply Exists.intro
  with_reducible refine ⟨fun W hk _ => ?_, ?_⟩
  · have hm := HM.out.keep hk (by simp)
    rw [← HCV.out] at hm
    obtain ⟨e0, e1, e2, e3, e4, e5, e6, e7, e8, e9, e10, e11, e12, e13, e14, e15, e16, e17, e18, e19, e20, e21⟩ := msC_facts hm
    clear hm
    unfold Oper.same
    go_simp
    first | rfl | exact ⟨rfl, rfl⟩
  with_reducible apply Exists.intro
  with_reducible refine ⟨?_, ?_⟩
  · go_simp
    rfl
  refine soup_s rfl rfl rfl (fun W hk _ _ => ?_) ?_
  · unfold Oper.does
    go_simp
    refine (HNz.out W).mono ?_
    rintro e w' ⟨rfl, hk'⟩
    exact ⟨_, rfl, hk', hk.trans hk', rfl, trivial⟩
  intro v hv
  obtain rfl : v = _ := hv
  with_reducible apply Exists.intro
  with_reducible refine ⟨?_, ?_⟩
  · go_simp
    rfl
  refine soup_nil (fun W hk hS => ?_)
  have HK := Lib.hid (HK.out.trans hk)
  have HM := Lib.hid (HM.out.keep hk (by simp))
  clear hk hS
  have hm := HM.out
  rw [← HCV.out] at hm
  obtain ⟨c0, c1, c2, c3, c4, c5, c6, c7, c8, c9, c10, c11, c12, c13, c14, c15, c16, c17, c18, c19, c20, c21⟩ := msC_facts hm
  clear hm
  go_wp2_with (fail)
  clear c0 c1 c2 c3 c4 c5 c6 c7 c8 c9 c10 c11 c12 c13 c14 c15 c16 c17 c18 c19 c20 c21
  refine wp_region_soup 13 [] (spOf [(3, Spec.is (.string sep)), (7, Spec.is (.string snd)), (12, Spec.is (.string sls))]) (by kernel_rfl) (by kernel_rfl) (spOk_of (by simp [Spec.is_ok])) (pre_of (by simp [Spec.is_ok])) ?_
  simp only [List.take_succ_cons, List.take_zero, List.drop_succ_cons, List.drop_zero]
  iterate 2
    with_reducible refine soup_q ?_ ?_ ?_
    · rfl
    · rfl
    with_reducible apply Exists.intro
    with_reducible refine ⟨fun W hk _ => ?_, ?_⟩
    · unfold Oper.same
      go_simp
      first | rfl | exact ⟨rfl, rfl⟩
    with_reducible apply Exists.intro
    with_reducible refine ⟨?_, ?_⟩
    · go_simp
      rfl
  with_reducible refine soup_q ?_ ?_ ?_
  · rfl
  · rfl
  with_reducible apply Exists.intro
  with_reducible refine ⟨fun W hk _ => ?_, ?_⟩
  · have hm := HM.out.keep hk (by simp)
    rw [← HCV.out] at hm
    obtain ⟨e0, e1, e2, e3, e4, e5, e6, e7, e8, e9, e10, e11, e12, e13, e14, e15, e16, e17, e18, e19, e20, e21⟩ := msC_facts hm
    clear hm
    unfold Oper.same
    go_simp
    first | rfl | exact ⟨rfl, rfl⟩
  with_reducible apply Exists.intro
  with_reducible refine ⟨?_, ?_⟩
  · go_simp
    rfl
  refine soup_s rfl rfl rfl (fun W hk _ _ => ?_) ?_
  · unfold Oper.does
    go_simp
    refine (HNep.out W).mono ?_
    rintro e w' ⟨rfl, hk'⟩
    exact ⟨_, rfl, hk', hk.trans hk', rfl, trivial⟩
  intro v hv
  obtain rfl : v = _ := hv
  with_reducible apply Exists.intro
  with_reducible refine ⟨?_, ?_⟩
  · go_simp
    rfl
  iterate 2
    with_reducible refine soup_q ?_ ?_ ?_
    · rfl
    · rfl
    with_reducible apply Exists.intro
    with_reducible refine ⟨fun W hk _ => ?_, ?_⟩
    · unfold Oper.same
      go_simp
      first | rfl | exact ⟨rfl, rfl⟩
    with_reducible apply Exists.intro
    with_reducible refine ⟨?_, ?_⟩
    · go_simp
      rfl
  with_reducible refine soup_q ?_ ?_ ?_
  · rfl
  · rfl
  with_reducible apply Exists.intro
  with_reducible refine ⟨fun W hk _ => ?_, ?_⟩
  · have hm := HM.out.keep hk (by simp)
    rw [← HCV.out] at hm
    obtain ⟨e0, e1, e2, e3, e4, e5, e6, e7, e8, e9, e10, e11, e12, e13, e14, e15, e16, e17, e18, e19, e20, e21⟩ := msC_facts hm
    clear hm
    unfold Oper.same
    go_simp
    first | rfl | exact ⟨rfl, rfl⟩
  with_reducible apply Exists.intro
  with_reducible refine ⟨?_, ?_⟩
  · go_simp
    rfl
  refine soup_s rfl rfl rfl (fun W hk _ _ => ?_) ?_
  · unfold Oper.does
    go_simp
    refine (HNnd.out W).mono ?_
    rintro e w' ⟨rfl, hk'⟩
    exact ⟨_, rfl, hk', hk.trans hk', rfl, trivial⟩
  intro v hv
  obtain rfl : v = _ := hv
  with_reducible apply Exists.intro
  with_reducible refine ⟨?_, ?_⟩
  · go_simp
    rfl
  iterate 3
    with_reducible refine soup_q ?_ ?_ ?_
    · rfl
    · rfl
    with_reducible apply Exists.intro
    with_reducible refine ⟨fun W hk _ => ?_, ?_⟩
    · unfold Oper.same
      go_simp
      first | rfl | exact ⟨rfl, rfl⟩
    with_reducible apply Exists.intro
    with_reducible refine ⟨?_, ?_⟩
    · go_simp
      rfl
  with_reducible refine soup_q ?_ ?_ ?_
  · rfl
  · rfl
  with_reducible apply Exists.intro
  with_reducible refine ⟨fun W hk _ => ?_, ?_⟩
  · have hm := HM.out.keep hk (by simp)
    rw [← HCV.out] at hm
    obtain ⟨e0, e1, e2, e3, e4, e5, e6, e7, e8, e9, e10, e11, e12, e13, e14, e15, e16, e17, e18, e19, e20, e21⟩ := msC_facts hm
    clear hm
    unfold Oper.same
    go_simp
    first | rfl | exact ⟨rfl, rfl⟩
  with_reducible apply Exists.intro
  with_reducible refine ⟨?_, ?_⟩
  · go_simp
    rfl
  refine soup_s rfl rfl rfl (fun W hk _ _ => ?_) ?_
  · unfold Oper.does
    go_simp
    refine (HLS.out W (HK.out.trans hk)).mono ?_
    rintro e w' ⟨rfl, hk'⟩
    exact ⟨_, rfl, hk', hk.trans hk', rfl, trivial⟩
  intro v hv
  obtain rfl : v = _ := hv
  with_reducible apply Exists.intro
  with_reducible refine ⟨?_, ?_⟩
  · go_simp
    rfl
  refine soup_nil (fun W hk hS => ?_)
  have HK := Lib.hid (HK.out.trans hk)
  have HM := Lib.hid (HM.out.keep hk (by simp))
  clear hk hS
  have hm := HM.out
  rw [← HCV.out] at hm
  obtain ⟨c0, c1, c2, c3, c4, c5, c6, c7, c8, c9, c10, c11, c12, c13, c14, c15, c16, c17, c18, c19, c20, c21⟩ := msC_facts hm
  clear hm
  go_wp2_with (fail)
  go_ret2
  exact ⟨rfl, HK.out⟩
set_option maxRecDepth 100000 in
set_option maxHeartbeats 4000000 in
theorem rbytes_12 {w : World} (mv pt : Nat) (hmv : mv ≤ 2147483647) (hpt : pt ≤ 2147483647) : Calls Tryz.prog 51 #[.agg (msC 12 mv pt 0 0 0 (.slice none 0 0))] w fun e w' => e = .returned (.tuple #[.string ⟨([UInt8.ofNat 12] ++ varB mv ++ varB pt).toArray⟩, .int .i64 0]) ∧ Keep [] w w' := by
  obtain ⟨cv, hcv⟩ : ∃ x, (msC 12 mv pt 0 0 0 (.slice none 0 0)) = x := ⟨_, rfl⟩
  obtain ⟨w1, hw1⟩ : ∃ u, w.alloc (.cells cv 47) = u := ⟨_, rfl⟩
  have k1 : Keep [] w w1 := by rw [← hw1]; exact (Keep.refl _ _).alloc _
  have m1 : MsAt w1 w.heap.size cv := by rw [← hw1]; exact World.alloc_heap_new w _
  have HR := Lib.hid (rright_12 (w := w1) mv pt hmv hpt)
  rw [hcv] at HR ⊢
  have HCV := Lib.hid hcv
  have HM := Lib.hid m1
  have HM0 : Hid (w1.heap[w.heap.size]? = some (.cells cv 47 (0, 0))) := Lib.hid m1
  have HSZ : Hid ((Tryz.prog.info? 47).map (·.size) = some cv.size) := Lib.hid (by rw [← hcv]; kernel_rfl)
  have HK := Lib.hid k1
  clear m1 k1 hcv
  have lvmv := varB_len mv (by omega)
  have lvpt := varB_len pt (by omega)
  have lv0 := varB_len 0 (by omega)
  have lnu : (numsB []).length = 0 := rfl
  have HNmv := Lib.hid (fun W => mnum_any mv W hmv)
  have HNpt := Lib.hid (fun W => mnum_any pt W hpt)
  have HNz := Lib.hid (fun W => mnum_any 0 W (by omega))
  try simp only [Int.natCast_zero] at HNz
  have HLS := Lib.hid (fun W => rlist_any (w := W) (a := none) (own := []) 0 (fun h => absurd rfl h) (by simp) (by simp))
  try simp only [List.length_nil] at HLS
  obtain ⟨s0, h_s0⟩ : ∃ s : ByteArray, ⟨([UInt8.ofNat 12]).toArray⟩ = s := ⟨_, rfl⟩
  obtain ⟨smv, h_smv⟩ : ∃ s : ByteArray, ⟨(varB mv).toArray⟩ = s := ⟨_, rfl⟩
  obtain ⟨spt, h_spt⟩ : ∃ s : ByteArray, ⟨(varB pt).toArray⟩ = s := ⟨_, rfl⟩
  obtain ⟨s1, h_s1⟩ : ∃ s : ByteArray, ⟨([UInt8.ofNat 12] ++ varB mv).toArray⟩ = s := ⟨_, rfl⟩
  obtain ⟨s2, h_s2⟩ : ∃ s : ByteArray, ⟨([UInt8.ofNat 12] ++ varB mv ++ varB pt).toArray⟩ = s := ⟨_, rfl⟩
  obtain ⟨sz, h_sz⟩ : ∃ s : ByteArray, ⟨(varB 0).toArray⟩ = s := ⟨_, rfl⟩
  obtain ⟨szz, h_szz⟩ : ∃ s : ByteArray, ⟨(varB 0 ++ varB 0).toArray⟩ = s := ⟨_, rfl⟩
  obtain ⟨sls, h_sls⟩ : ∃ s : ByteArray, ⟨((varB 0 ++ numsB [])).toArray⟩ = s := ⟨_, rfl⟩
  obtain ⟨t2, h_t2⟩ : ∃ s : ByteArray, ⟨(varB 0 ++ varB 0 ++ (varB 0 ++ numsB [])).toArray⟩ = s := ⟨_, rfl⟩
  have a_s1 : s0 ++ smv = s1 := by rw [← h_s0, ← h_smv, ← h_s1, ByteArray.mk_append_mk]
  have z_s1 : ¬ (s0.size + smv.size > 9223372036854775807) := by rw [← h_s0, ← h_smv]; simp only [bs_size, List.length_append, List.length_cons, List.length_nil]; omega
  have a_s2 : s1 ++ spt = s2 := by rw [← h_s1, ← h_spt, ← h_s2, ByteArray.mk_append_mk]
  have z_s2 : ¬ (s1.size + spt.size > 9223372036854775807) := by rw [← h_s1, ← h_spt]; simp only [bs_size, List.length_append, List.length_cons, List.length_nil]; omega
  have a_szz : sz ++ sz = szz := by rw [← h_sz, ← h_szz, ByteArray.mk_append_mk]
  have z_szz : ¬ (sz.size + sz.size > 9223372036854775807) := by rw [← h_sz]; simp only [bs_size, List.length_append, List.length_cons, List.length_nil]; omega
  have a_t2 : szz ++ sls = t2 := by rw [← h_szz, ← h_sls, ← h_t2, ByteArray.mk_append_mk]
  have z_t2 : ¬ (szz.size + sls.size > 9223372036854775807) := by rw [← h_szz, ← h_sls]; simp only [bs_size, List.length_append, List.length_cons, List.length_nil]; omega
  rw [h_smv] at HNmv
  rw [h_spt] at HNpt
  rw [h_sz] at HNz
  rw [h_sls] at HLS
  rw [h_s2]
  have H0 := Lib.hid h_s0
  clear h_s0 h_smv h_spt h_s1 h_s2 h_sz h_szz h_sls h_t2 lvmv lvpt lv0 lnu
  go_enter Tryz.func51, Tryz.ntmps51
  go_wp2_with ((with_reducible refine wpList_load_row ?_ 47 (.tmp 1) ?_ (w.heap.size) ?_ 47 cv (0, 0) _ HM0.out Tryz.underlying47 ?_ HSZ.out ?_); rfl; rfl; rfl; rfl)
  refine HR.out.mono ?_
  rintro e w2 ⟨rfl, hk2⟩
  have HK := Lib.hid (HK.out.trans hk2)
  have HM := Lib.hid (HM.out.keep hk2 (by simp))
  clear hk2 hw1
  have hls := lit_string w2 [UInt8.ofNat 12] (by simp) (by simp)
  rw [H0.out] at hls
  obtain ⟨w3, hw3⟩ : ∃ u, w2.alloc (.cells #[.int .u8 12] 5) = u := ⟨_, rfl⟩
  have hls2 : (convert 119 9 (.slice (some ⟨w2.heap.size, 0, none⟩) 1 1)).run Tryz.prog w3 = .ok (.string s0) w3 := by rw [← hw3]; exact hls
  clear hls
  have k3 : Keep [] w2 w3 := by rw [← hw3]; exact (Keep.refl _ _).alloc _
  have HK := Lib.hid (HK.out.trans k3)
  have hm := HM.out
  rw [← HCV.out] at hm
  have c0 := (msC_facts hm).1
  have HM := Lib.hid (HM.out.keep k3 (by simp))
  have hm' := hm.keep k3 (by simp)
  obtain ⟨d0, d1, d2, d3, d4, d5, d6, d7, d8, d9, d10, d11, d12, d13, d14, d15, d16, d17, d18, d19, d20, d21⟩ := msC_facts hm'
  clear hm hm' k3
  go_wp2_with (fail)
  clear hw3 hls2
  clear c0 d0 d1 d2 d3 d4 d5 d6 d7 d8 d9 d10 d11 d12 d13 d14 d15 d16 d17 d18 d19 d20 d21
  refine wp_region_soup 8 [] (spOf [(3, Spec.is (.string smv)), (7, Spec.is (.string spt))]) (by kernel_rfl) (by kernel_rfl) (spOk_of (by simp [Spec.is_ok])) (pre_of (by simp [Spec.is_ok])) ?_
  simp only [List.take_succ_cons, List.take_zero, List.drop_succ_cons, List.drop_zero]
  iterate 2
    with_reducible refine soup_q ?_ ?_ ?_
    · rfl
    · rfl
    with_reducible apply Exists.intro
    with_reducible refine ⟨fun W hk _ => ?_, ?_⟩
    · unfold Oper.same
      go_simp
      first | rfl | exact ⟨rfl, rfl⟩
    with_reducible apply Exists.intro
    with_reducible refine ⟨?_, ?_⟩
    · go_simp
      rfl
  with_reducible refine soup_q ?_ ?_ ?_
  · rfl
  · rfl
  with_reducible apply Exists.intro
  with_reducible refine ⟨fun W hk _ => ?_, ?_⟩
  · have hm := HM.out.keep hk (by simp)
    rw [← HCV.out] at hm
    obtain ⟨e0, e1, e2, e3, e4, e5, e6, e7, e8, e9, e10, e11, e12, e13, e14, e15, e16, e17, e18, e19, e20, e21⟩ := msC_facts hm
    clear hm
    unfold Oper.same
    go_simp
    first | rfl | exact ⟨rfl, rfl⟩
  with_reducible apply Exists.intro
  with_reducible refine ⟨?_, ?_⟩
  · go_simp
    rfl
  refine soup_s rfl rfl rfl (fun W hk _ _ => ?_) ?_
  · unfold Oper.does
    go_simp
    refine (HNmv.out W).mono ?_
    rintro e w' ⟨rfl, hk'⟩
    exact ⟨_, rfl, hk', hk.trans hk', rfl, trivial⟩
  intro v hv
  obtain rfl : v = _ := hv
  with_reducible apply Exists.intro
  with_reducible refine ⟨?_, ?_⟩
  · go_simp
    rfl
  iterate 2
    with_reducible refine soup_q ?_ ?_ ?_
    · rfl
    · rfl
    with_reducible apply Exists.intro
    with_reducible refine ⟨fun W hk _ => ?_, ?_⟩
    · unfold Oper.same
      go_simp
      first | rfl | exact ⟨rfl, rfl⟩
    with_reducible apply Exists.intro
    with_reducible refine ⟨?_, ?_⟩
    · go_simp
      rfl
  with_reducible refine soup_q ?_ ?_ ?_
  · rfl
  · rfl
  with_reducible apply Exists.intro
  with_reducible refine ⟨fun W hk _ => ?_, ?_⟩
  · have hm := HM.out.keep hk (by simp)
    rw [← HCV.out] at hm
    obtain ⟨e0, e1, e2, e3, e4, e5, e6, e7, e8, e9, e10, e11, e12, e13, e14, e15, e16, e17, e18, e19, e20, e21⟩ := msC_facts hm
    clear hm
    unfold Oper.same
    go_simp
    first | rfl | exact ⟨rfl, rfl⟩
  with_reducible apply Exists.intro
  with_reducible refine ⟨?_, ?_⟩
  · go_simp
    rfl
  refine soup_s rfl rfl rfl (fun W hk _ _ => ?_) ?_
  · unfold Oper.does
    go_simp
    refine (HNpt.out W).mono ?_
    rintro e w' ⟨rfl, hk'⟩
    exact ⟨_, rfl, hk', hk.trans hk', rfl, trivial⟩
  intro v hv
  obtain rfl : v = _ := hv
  with_reducible apply Exists.intro
  with_reducible refine ⟨?_, ?_⟩
  · go_simp
    rfl
  refine soup_nil (fun W hk hS => ?_)
  have HK := Lib.hid (HK.out.trans hk)
  have HM := Lib.hid (HM.out.keep hk (by simp))
  clear hk hS
  have hm := HM.out
  rw [← HCV.out] at hm
  obtain ⟨c0, c1, c2, c3, c4, c5, c6, c7, c8, c9, c10, c11, c12, c13, c14, c15, c16, c17, c18, c19, c20, c21⟩ := msC_facts hm
  clear hm
  go_wp2_with (fail)
  clear c0 c1 c2 c3 c4 c5 c6 c7 c8 c9 c10 c11 c12 c13 c14 c15 c16 c17 c18 c19 c20 c21
  refine wp_region_soup 8 [] (spOf [(3, Spec.is (.string sz)), (7, Spec.is (.string sz))]) (by kernel_rfl) (by kernel_rfl) (spOk_of (by simp [Spec.is_ok])) (pre_of (by simp [Spec.is_ok])) ?_
  simp only [List.take_succ_cons, List.take_zero, List.drop_succ_cons, List.drop_zero]
  iterate 2
    with_reducible refine soup_q ?_ ?_ ?_
    · rfl
    · rfl
    with_reducible apply Exists.intro
    with_reducible refine ⟨fun W hk _ => ?_, ?_⟩
    · unfold Oper.same
      go_simp
      first | rfl | exact ⟨rfl, rfl⟩
    with_reducible apply Exists.intro
    with_reducible refine ⟨?_, ?_⟩
    · go_simp
      rfl
  with_reducible refine soup_q ?_ ?_ ?_
  · rfl
  · rfl
  with_reducible apply Exists.intro
  with_reducible refine ⟨fun W hk _ => ?_, ?_⟩
  · have hm := HM.out.keep hk (by simp)
    rw [← HCV.out] at hm
    obtain ⟨e0, e1, e2, e3, e4, e5, e6, e7, e8, e9, e10, e11, e12, e13, e14, e15, e16, e17, e18, e19, e20, e21⟩ := msC_facts hm
    clear hm
    unfold Oper.same
    go_simp
    first | rfl | exact ⟨rfl, rfl⟩
  with_reducible apply Exists.intro
  with_reducible refine ⟨?_, ?_⟩
  · go_simp
    rfl
  refine soup_s rfl rfl rfl (fun W hk _ _ => ?_) ?_
  · unfold Oper.does
    go_simp
    refine (HNz.out W).mono ?_
    rintro e w' ⟨rfl, hk'⟩
    exact ⟨_, rfl, hk', hk.trans hk', rfl, trivial⟩
  intro v hv
  obtain rfl : v = _ := hv
  with_reducible apply Exists.intro
  with_reducible refine ⟨?_, ?_⟩
  · go_simp
    rfl
  iterate 2
    with_reducible refine soup_q ?_ ?_ ?_
    · rfl
    · rfl
    with_reducible apply Exists.intro
    with_reducible refine ⟨fun W hk _ => ?_, ?_⟩
    · unfold Oper.same
      go_simp
      first | rfl | exact ⟨rfl, rfl⟩
    with_reducible apply Exists.intro
    with_reducible refine ⟨?_, ?_⟩
    · go_simp
      rfl
  with_reducible refine soup_q ?_ ?_ ?_
  · rfl
  · rfl
  with_reducible apply Exists.intro
  with_reducible refine ⟨fun W hk _ => ?_, ?_⟩
  · have hm := HM.out.keep hk (by simp)
    rw [← HCV.out] at hm
    obtain ⟨e0, e1, e2, e3, e4, e5, e6, e7, e8, e9, e10, e11, e12, e13, e14, e15, e16, e17, e18, e19, e20, e21⟩ := msC_facts hm
    clear hm
    unfold Oper.same
    go_simp
    first | rfl | exact ⟨rfl, rfl⟩
  with_reducible apply Exists.intro
  with_reducible refine ⟨?_, ?_⟩
  · go_simp
    rfl
  refine soup_s rfl rfl rfl (fun W hk _ _ => ?_) ?_
  · unfold Oper.does
    go_simp
    refine (HNz.out W).mono ?_
    rintro e w' ⟨rfl, hk'⟩
    exact ⟨_, rfl, hk', hk.trans hk', rfl, trivial⟩
  intro v hv
  obtain rfl : v = _ := hv
  with_reducible apply Exists.intro
  with_reducible refine ⟨?_, ?_⟩
  · go_simp
    rfl
  refine soup_nil (fun W hk hS => ?_)
  have HK := Lib.hid (HK.out.trans hk)
  have HM := Lib.hid (HM.out.keep hk (by simp))
  clear hk hS
  have hm := HM.out
  rw [← HCV.out] at hm
  obtain ⟨c0, c1, c2, c3, c4, c5, c6, c7, c8, c9, c10, c11, c12, c13, c14, c15, c16, c17, c18, c19, c20, c21⟩ := msC_facts hm
  clear hm
  go_wp2_with (fail)
  clear c0 c1 c2 c3 c4 c5 c6 c7 c8 c9 c10 c11 c12 c13 c14 c15 c16 c17 c18 c19 c20 c21
  refine wp_region_soup 13 [] (spOf [(3, Spec.is (.string sz)), (7, Spec.is (.string sz)), (12, Spec.is (.string sls))]) (by kernel_rfl) (by kernel_rfl) (spOk_of (by simp [Spec.is_ok])) (pre_of (by simp [Spec.is_ok])) ?_
  simp only [List.take_succ_cons, List.take_zero, List.drop_succ_cons, List.drop_zero]
  iterate 2
    with_reducible refine soup_q ?_ ?_ ?_
    · rfl
    · rfl
    with_reducible apply Exists.intro
    with_reducible refine ⟨fun W hk _ => ?_, ?_⟩
    · unfold Oper.same
      go_simp
      first | rfl | exact ⟨rfl, rfl⟩
    with_reducible apply Exists.intro
    with_reducible refine ⟨?_, ?_⟩
    · go_simp
      rfl
  iterate 2
    with_reducible refine soup_q ?_ ?_ ?_
    · rfl
    · rfl
    with_reducible apply Exists.intro
    with_reducible refine ⟨fun W hk _ => ?_, ?_⟩
    · have hm := HM.out.keep hk (by simp)
      rw [← HCV.out] at hm
      obtain ⟨e0, e1, e2, e3, e4, e5, e6, e7, e8, e9, e10, e11, e12, e13, e14, e15, e16, e17, e18, e19, e20, e21⟩ := msC_facts hm
      clear hm
      unfold Oper.same
      go_simp
      first | rfl | exact ⟨rfl, rfl⟩
    with_reducible apply Exists.intro
    with_reducible refine ⟨?_, ?_⟩
    · go_simp
      rfl
    refine soup_s rfl rfl rfl (fun W hk _ _ => ?_) ?_
    · unfold Oper.does
      go_simp
      refine (HNz.out W).mono ?_
      rintro e w' ⟨rfl, hk'⟩
      exact ⟨_, rfl, hk', hk.trans hk', rfl, trivial⟩
    intro v hv
    obtain rfl : v = _ := hv
    with_reducible apply Exists.intro
    with_reducible refine ⟨?_, ?_⟩
    · go_simp
      rfl
    with_reducible refine soup_q ?_ ?_ ?_
    · rfl
    · rfl
    with_reducible apply Exists.intro
    with_reducible refine ⟨fun W hk _ => ?_, ?_⟩
    · unfold Oper.same
      go_simp
      first | rfl | exact ⟨rfl, rfl⟩
    with_reducible apply Exists.intro
    with_reducible refine ⟨?_, ?_⟩
    · go_simp
      rfl
    with_reducible refine soup_q ?_ ?_ ?_
    · rfl
    · rfl
    with_reducible apply Exists.intro
    with_reducible refine ⟨fun W hk _ => ?_, ?_⟩
    · unfold Oper.same
      go_simp
      first | rfl | exact ⟨rfl, rfl⟩
    with_reducible apply Exists.intro
    with_reducible refine ⟨?_, ?_⟩
    · go_simp
      rfl
  with_reducible refine soup_q ?_ ?_ ?_
  · rfl
  · rfl
  with_reducible apply Exists.intro
  with_reducible refine ⟨fun W hk _ => ?_, ?_⟩
  · unfold Oper.same
    go_simp
    first | rfl | exact ⟨rfl, rfl⟩
  with_reducible apply Exists.intro
  with_reducible refine ⟨?_, ?_⟩
  · go_simp
    rfl
  with_reducible refine soup_q ?_ ?_ ?_
  · rfl
  · rfl
  with_reducible apply Exists.intro
  with_reducible refine ⟨fun W hk _ => ?_, ?_⟩
  · have hm := HM.out.keep hk (by simp)
    rw [← HCV.out] at hm
    obtain ⟨e0, e1, e2, e3, e4, e5, e6, e7, e8, e9, e10, e11, e12, e13, e14, e15, e16, e17, e18, e19, e20, e21⟩ := msC_facts hm
    clear hm
    unfold Oper.same
    go_simp
    first | rfl | exact ⟨rfl, rfl⟩
  with_reducible apply Exists.intro
  with_reducible refine ⟨?_, ?_⟩
  · go_simp
    rfl
  refine soup_s rfl rfl rfl (fun W hk _ _ => ?_) ?_
  · unfold Oper.does
    go_simp
    refine (HLS.out W).mono ?_
    rintro e w' ⟨rfl, hk'⟩
    exact ⟨_, rfl, hk', hk.trans hk', rfl, trivial⟩
  intro v hv
  obtain rfl : v = _ := hv
  with_reducible apply Exists.intro
  with_reducible refine ⟨?_, ?_⟩
  · go_simp
    rfl
  refine soup_nil (fun W hk hS => ?_)
  have HK := Lib.hid (HK.out.trans hk)
  have HM := Lib.hid (HM.out.keep hk (by simp))
  clear hk hS
  have hm := HM.out
  rw [← HCV.out] at hm
  obtain ⟨c0, c1, c2, c3, c4, c5, c6, c7, c8, c9, c10, c11, c12, c13, c14, c15, c16, c17, c18, c19, c20, c21⟩ := msC_facts hm
  clear hm
  go_wp2_with (fail)
  go_ret2
  exact ⟨rfl, HK.out⟩
set_option maxRecDepth 100000 in
set_option maxHeartbeats 4000000 in
theorem rbytes_14 {w : World} (ep nd : Nat) (hep : ep ≤ 2147483647) (hnd : nd ≤ 2147483647) {a : Option Addr} (c : Nat) {own : List Int} (hI : IntsAt w a own) (hx : ∀ x ∈ own, 0 ≤ x ∧ x ≤ 2147483647) (hl : own.length ≤ 64) : Calls Tryz.prog 51 #[.agg (msC 14 0 0 0 ep nd (.slice a own.length c))] w fun e w' => e = .returned (.tuple #[.string ⟨([UInt8.ofNat 14] ++ (varB ep ++ varB nd ++ (varB own.length ++ numsB own))).toArray⟩, .int .i64 0]) ∧ Keep [] w w' := by
  obtain ⟨cv, hcv⟩ : ∃ x, (msC 14 0 0 0 ep nd (.slice a own.length c)) = x := ⟨_, rfl⟩
  obtain ⟨w1, hw1⟩ : ∃ u, w.alloc (.cells cv 47) = u := ⟨_, rfl⟩
  have k1 : Keep [] w w1 := by rw [← hw1]; exact (Keep.refl _ _).alloc _
  have m1 : MsAt w1 w.heap.size cv := by rw [← hw1]; exact World.alloc_heap_new w _
  have HR := Lib.hid (rright_14 (w := w1) ep nd hep hnd c (hI.keep k1 (by simp)) hx hl)
  rw [hcv] at HR ⊢
  have HCV := Lib.hid hcv
  have HM := Lib.hid m1
  have HM0 : Hid (w1.heap[w.heap.size]? = some (.cells cv 47 (0, 0))) := Lib.hid m1
  have HSZ : Hid ((Tryz.prog.info? 47).map (·.size) = some cv.size) := Lib.hid (by rw [← hcv]; kernel_rfl)
  have HK := Lib.hid k1
  clear m1 k1 hcv
  have lvep := varB_len ep (by omega)
  have lvnd := varB_len nd (by omega)
  have lv0 := varB_len 0 (by omega)
  have lvl := varB_len own.length (by omega)
  have lnu := numsB_len own hx
  have HNep := Lib.hid (fun W => mnum_any ep W hep)
  have HNnd := Lib.hid (fun W => mnum_any nd W hnd)
  have HNz := Lib.hid (fun W => mnum_any 0 W (by omega))
  try simp only [Int.natCast_zero] at HNz
  have HLS := Lib.hid (fun W (hk : Keep [] w W) => rlist_any c (hI.keep hk (by simp)) hx hl)
  obtain ⟨s0, h_s0⟩ : ∃ s : ByteArray, ⟨([UInt8.ofNat 14]).toArray⟩ = s := ⟨_, rfl⟩
  obtain ⟨sz, h_sz⟩ : ∃ s : ByteArray, ⟨(varB 0).toArray⟩ = s := ⟨_, rfl⟩
  obtain ⟨szz, h_szz⟩ : ∃ s : ByteArray, ⟨(varB 0 ++ varB 0).toArray⟩ = s := ⟨_, rfl⟩
  obtain ⟨sep, h_sep⟩ : ∃ s : ByteArray, ⟨(varB ep).toArray⟩ = s := ⟨_, rfl⟩
  obtain ⟨snd, h_snd⟩ : ∃ s : ByteArray, ⟨(varB nd).toArray⟩ = s := ⟨_, rfl⟩
  obtain ⟨t1, h_t1⟩ : ∃ s : ByteArray, ⟨(varB ep ++ varB nd).toArray⟩ = s := ⟨_, rfl⟩
  obtain ⟨sls, h_sls⟩ : ∃ s : ByteArray, ⟨((varB own.length ++ numsB own)).toArray⟩ = s := ⟨_, rfl⟩
  obtain ⟨t2, h_t2⟩ : ∃ s : ByteArray, ⟨(varB ep ++ varB nd ++ (varB own.length ++ numsB own)).toArray⟩ = s := ⟨_, rfl⟩
  obtain ⟨s3, h_s3⟩ : ∃ s : ByteArray, ⟨([UInt8.ofNat 14] ++ (varB ep ++ varB nd ++ (varB own.length ++ numsB own))).toArray⟩ = s := ⟨_, rfl⟩
  have a_szz : sz ++ sz = szz := by rw [← h_sz, ← h_szz, ByteArray.mk_append_mk]
  have z_szz : ¬ (sz.size + sz.size > 9223372036854775807) := by rw [← h_sz]; simp only [bs_size, List.length_append, List.length_cons, List.length_nil]; omega
  have a_t1 : sep ++ snd = t1 := by rw [← h_sep, ← h_snd, ← h_t1, ByteArray.mk_append_mk]
  have z_t1 : ¬ (sep.size + snd.size > 9223372036854775807) := by rw [← h_sep, ← h_snd]; simp only [bs_size, List.length_append, List.length_cons, List.length_nil]; omega
  have a_t2 : t1 ++ sls = t2 := by rw [← h_t1, ← h_sls, ← h_t2, ByteArray.mk_append_mk]
  have z_t2 : ¬ (t1.size + sls.size > 9223372036854775807) := by rw [← h_t1, ← h_sls]; simp only [bs_size, List.length_append, List.length_cons, List.length_nil]; omega
  have a_s3 : s0 ++ t2 = s3 := by rw [← h_s0, ← h_t2, ← h_s3, ByteArray.mk_append_mk]
  have z_s3 : ¬ (s0.size + t2.size > 9223372036854775807) := by rw [← h_s0, ← h_t2]; simp only [bs_size, List.length_append, List.length_cons, List.length_nil]; omega
  rw [h_sep] at HNep
  rw [h_snd] at HNnd
  rw [h_sz] at HNz
  rw [h_sls] at HLS
  rw [h_s3]
  have H0 := Lib.hid h_s0
  clear h_s0 h_sz h_szz h_sep h_snd h_t1 h_sls h_t2 h_s3 lvep lvnd lv0 lnu lvl
  go_enter Tryz.func51, Tryz.ntmps51
  go_wp2_with ((with_reducible refine wpList_load_row ?_ 47 (.tmp 1) ?_ (w.heap.size) ?_ 47 cv (0, 0) _ HM0.out Tryz.underlying47 ?_ HSZ.out ?_); rfl; rfl; rfl; rfl)
  refine HR.out.mono ?_
  rintro e w2 ⟨rfl, hk2⟩
  have HK := Lib.hid (HK.out.trans hk2)
  have HM := Lib.hid (HM.out.keep hk2 (by simp))
  clear hk2 hw1
  have hls := lit_string w2 [UInt8.ofNat 14] (by simp) (by simp)
  rw [H0.out] at hls
  obtain ⟨w3, hw3⟩ : ∃ u, w2.alloc (.cells #[.int .u8 14] 5) = u := ⟨_, rfl⟩
  have hls2 : (convert 119 9 (.slice (some ⟨w2.heap.size, 0, none⟩) 1 1)).run Tryz.prog w3 = .ok (.string s0) w3 := by rw [← hw3]; exact hls
  clear hls
  have k3 : Keep [] w2 w3 := by rw [← hw3]; exact (Keep.refl _ _).alloc _
  have HK := Lib.hid (HK.out.trans k3)
  have hm := HM.out
  rw [← HCV.out] at hm
  have c0 := (msC_facts hm).1
  have HM := Lib.hid (HM.out.keep k3 (by simp))
  have hm' := hm.keep k3 (by simp)
  obtain ⟨d0, d1, d2, d3, d4, d5, d6, d7, d8, d9, d10, d11, d12, d13, d14, d15, d16, d17, d18, d19, d20, d21⟩ := msC_facts hm'
  clear hm hm' k3
  go_wp2_with (fail)
  clear hw3 hls2
  clear c0 d0 d1 d2 d3 d4 d5 d6 d7 d8 d9 d10 d11 d12 d13 d14 d15 d16 d17 d18 d19 d20 d21
  refine wp_region_soup 8 [] (spOf [(3, Spec.is (.string sz)), (7, Spec.is (.string sz))]) (by kernel_rfl) (by kernel_rfl) (spOk_of (by simp [Spec.is_ok])) (pre_of (by simp [Spec.is_ok])) ?_
  simp only [List.take_succ_cons, List.take_zero, List.drop_succ_cons, List.drop_zero]
  iterate 2
    with_reducible refine soup_q ?_ ?_ ?_
    · rfl
    · rfl
    with_reducible apply Exists.intro
    with_reducible refine ⟨fun W hk _ => ?_, ?_⟩
    · unfold Oper.same
      go_simp
      first | rfl | exact ⟨rfl, rfl⟩
    with_reducible apply Exists.intro
    with_reducible refine ⟨?_, ?_⟩
    · go_simp
      rfl
  with_reducible refine soup_q ?_ ?_ ?_
  · rfl
  · rfl
  with_reducible apply Exists.intro
  with_reducible refine ⟨fun W hk _ => ?_, ?_⟩
  · have hm := HM.out.keep hk (by simp)
    rw [← HCV.out] at hm
    obtain ⟨e0, e1, e2, e3, e4, e5, e6, e7, e8, e9, e10, e11, e12, e13, e14, e15, e16, e17, e18, e19, e20, e21⟩ := msC_facts hm
    clear hm
    unfold Oper.same
    go_simp
    first | rfl | exact ⟨rfl, rfl⟩
  with_reducible apply Exists.intro
  with_reducible refine ⟨?_, ?_⟩
  · go_simp
    rfl
  refine soup_s rfl rfl rfl (fun W hk _ _ => ?_) ?_
  · unfold Oper.does
    go_simp
    refine (HNz.out W).mono ?_
    rintro e w' ⟨rfl, hk'⟩
    exact ⟨_, rfl, hk', hk.trans hk', rfl, trivial⟩
  intro v hv
  obtain rfl : v = _ := hv
  with_reducible apply Exists.intro
  with_reducible refine ⟨?_, ?_⟩
  · go_simp
    rfl
  iterate 2
    with_reducible refine soup_q ?_ ?_ ?_
    · rfl
    · rfl
    with_reducible apply Exists.intro
    with_reducible refine ⟨fun W hk _ => ?_, ?_⟩
    · unfold Oper.same
      go_simp
      first | rfl | exact ⟨rfl, rfl⟩
    with_reducible apply Exists.intro
    with_reducible refine ⟨?_, ?_⟩
    · go_simp
      rfl
  with_reducible refine soup_q ?_ ?_ ?_
  · rfl
  · rfl
  with_reducible apply Exists.intro
  with_reducible refine ⟨fun W hk _ => ?_, ?_⟩
  · have hm := HM.out.keep hk (by simp)
    rw [← HCV.out] at hm
    obtain ⟨e0, e1, e2, e3, e4, e5, e6, e7, e8, e9, e10, e11, e12, e13, e14, e15, e16, e17, e18, e19, e20, e21⟩ := msC_facts hm
    clear hm
    unfold Oper.same
    go_simp
    first | rfl | exact ⟨rfl, rfl⟩
  with_reducible apply Exists.intro
  with_reducible refine ⟨?_, ?_⟩
  · go_simp
    rfl
  refine soup_s rfl rfl rfl (fun W hk _ _ => ?_) ?_
  · unfold Oper.does
    go_simp
    refine (HNz.out W).mono ?_
    rintro e w' ⟨rfl, hk'⟩
    exact ⟨_, rfl, hk', hk.trans hk', rfl, trivial⟩
  intro v hv
  obtain rfl : v = _ := hv
  with_reducible apply Exists.intro
  with_reducible refine ⟨?_, ?_⟩
  · go_simp
    rfl
  refine soup_nil (fun W hk hS => ?_)
  have HK := Lib.hid (HK.out.trans hk)
  have HM := Lib.hid (HM.out.keep hk (by simp))
  clear hk hS
  have hm := HM.out
  rw [← HCV.out] at hm
  obtain ⟨c0, c1, c2, c3, c4, c5, c6, c7, c8, c9, c10, c11, c12, c13, c14, c15, c16, c17, c18, c19, c20, c21⟩ := msC_facts hm
  clear hm
  go_wp2_with (fail)
  clear c0 c1 c2 c3 c4 c5 c6 c7 c8 c9 c10 c11 c12 c13 c14 c15 c16 c17 c18 c19 c20 c21
  refine wp_region_soup 13 [] (spOf [(3, Spec.is (.string sep)), (7, Spec.is (.string snd)), (12, Spec.is (.string sls))]) (by kernel_rfl) (by kernel_rfl) (spOk_of (by simp [Spec.is_ok])) (pre_of (by simp [Spec.is_ok])) ?_
  simp only [List.take_succ_cons, List.take_zero, List.drop_succ_cons, List.drop_zero]
  iterate 2
    with_reducible refine soup_q ?_ ?_ ?_
    · rfl
    · rfl
    with_reducible apply Exists.intro
    with_reducible refine ⟨fun W hk _ => ?_, ?_⟩
    · unfold Oper.same
      go_simp
      first | rfl | exact ⟨rfl, rfl⟩
    with_reducible apply Exists.intro
    with_reducible refine ⟨?_, ?_⟩
    · go_simp
      rfl
  with_reducible refine soup_q ?_ ?_ ?_
  · rfl
  · rfl
  with_reducible apply Exists.intro
  with_reducible refine ⟨fun W hk _ => ?_, ?_⟩
  · have hm := HM.out.keep hk (by simp)
    rw [← HCV.out] at hm
    obtain ⟨e0, e1, e2, e3, e4, e5, e6, e7, e8, e9, e10, e11, e12, e13, e14, e15, e16, e17, e18, e19, e20, e21⟩ := msC_facts hm
    clear hm
    unfold Oper.same
    go_simp
    first | rfl | exact ⟨rfl, rfl⟩
  with_reducible apply Exists.intro
  with_reducible refine ⟨?_, ?_⟩
  · go_simp
    rfl
  refine soup_s rfl rfl rfl (fun W hk _ _ => ?_) ?_
  · unfold Oper.does
    go_simp
    refine (HNep.out W).mono ?_
    rintro e w' ⟨rfl, hk'⟩
    exact ⟨_, rfl, hk', hk.trans hk', rfl, trivial⟩
  intro v hv
  obtain rfl : v = _ := hv
  with_reducible apply Exists.intro
  with_reducible refine ⟨?_, ?_⟩
  · go_simp
    rfl
  iterate 2
    with_reducible refine soup_q ?_ ?_ ?_
    · rfl
    · rfl
    with_reducible apply Exists.intro
    with_reducible refine ⟨fun W hk _ => ?_, ?_⟩
    · unfold Oper.same
      go_simp
      first | rfl | exact ⟨rfl, rfl⟩
    with_reducible apply Exists.intro
    with_reducible refine ⟨?_, ?_⟩
    · go_simp
      rfl
  with_reducible refine soup_q ?_ ?_ ?_
  · rfl
  · rfl
  with_reducible apply Exists.intro
  with_reducible refine ⟨fun W hk _ => ?_, ?_⟩
  · have hm := HM.out.keep hk (by simp)
    rw [← HCV.out] at hm
    obtain ⟨e0, e1, e2, e3, e4, e5, e6, e7, e8, e9, e10, e11, e12, e13, e14, e15, e16, e17, e18, e19, e20, e21⟩ := msC_facts hm
    clear hm
    unfold Oper.same
    go_simp
    first | rfl | exact ⟨rfl, rfl⟩
  with_reducible apply Exists.intro
  with_reducible refine ⟨?_, ?_⟩
  · go_simp
    rfl
  refine soup_s rfl rfl rfl (fun W hk _ _ => ?_) ?_
  · unfold Oper.does
    go_simp
    refine (HNnd.out W).mono ?_
    rintro e w' ⟨rfl, hk'⟩
    exact ⟨_, rfl, hk', hk.trans hk', rfl, trivial⟩
  intro v hv
  obtain rfl : v = _ := hv
  with_reducible apply Exists.intro
  with_reducible refine ⟨?_, ?_⟩
  · go_simp
    rfl
  iterate 3
    with_reducible refine soup_q ?_ ?_ ?_
    · rfl
    · rfl
    with_reducible apply Exists.intro
    with_reducible refine ⟨fun W hk _ => ?_, ?_⟩
    · unfold Oper.same
      go_simp
      first | rfl | exact ⟨rfl, rfl⟩
    with_reducible apply Exists.intro
    with_reducible refine ⟨?_, ?_⟩
    · go_simp
      rfl
  with_reducible refine soup_q ?_ ?_ ?_
  · rfl
  · rfl
  with_reducible apply Exists.intro
  with_reducible refine ⟨fun W hk _ => ?_, ?_⟩
  · have hm := HM.out.keep hk (by simp)
    rw [← HCV.out] at hm
    obtain ⟨e0, e1, e2, e3, e4, e5, e6, e7, e8, e9, e10, e11, e12, e13, e14, e15, e16, e17, e18, e19, e20, e21⟩ := msC_facts hm
    clear hm
    unfold Oper.same
    go_simp
    first | rfl | exact ⟨rfl, rfl⟩
  with_reducible apply Exists.intro
  with_reducible refine ⟨?_, ?_⟩
  · go_simp
    rfl
  refine soup_s rfl rfl rfl (fun W hk _ _ => ?_) ?_
  · unfold Oper.does
    go_simp
    refine (HLS.out W (HK.out.trans hk)).mono ?_
    rintro e w' ⟨rfl, hk'⟩
    exact ⟨_, rfl, hk', hk.trans hk', rfl, trivial⟩
  intro v hv
  obtain rfl : v = _ := hv
  with_reducible apply Exists.intro
  with_reducible refine ⟨?_, ?_⟩
  · go_simp
    rfl
  refine soup_nil (fun W hk hS => ?_)
  have HK := Lib.hid (HK.out.trans hk)
  have HM := Lib.hid (HM.out.keep hk (by simp))
  clear hk hS
  have hm := HM.out
  rw [← HCV.out] at hm
  obtain ⟨c0, c1, c2, c3, c4, c5, c6, c7, c8, c9, c10, c11, c12, c13, c14, c15, c16, c17, c18, c19, c20, c21⟩ := msC_facts hm
  clear hm
  go_wp2_with (fail)
  go_ret2
  exact ⟨rfl, HK.out⟩
theorem rbytes_any {w : World} {m : Mg} (ho : m.Ok) {a : Option Addr} {c : Nat} (hc : m.k = 4 ∨ m.k = 12 → a = none ∧ c = 0) (hI : IntsAt w a m.own) : Calls Tryz.prog 51 #[.agg (m.cells (.slice a m.own.length c))] w fun e w' => e = .returned (.tuple #[.string ⟨m.enc.toArray⟩, .int .i64 0]) ∧ Keep [] w w' := by
  obtain ⟨k, mv, pt, to, ep, nd, own⟩ := m
  rcases ho.kind with ⟨h1, h2, h3, h4⟩ | ⟨h1, h2, h3, h4, h5⟩ | ⟨h1, h2⟩ | ⟨h1, h2, h3, h4⟩
  · simp only at h1 h2 h3 h4
    subst h1 h2 h3 h4
    obtain ⟨rfl, rfl⟩ := hc (.inl rfl)
    have e : (Mg.mk 4 mv pt to 0 0 []).enc = [UInt8.ofNat 4] ++ varB mv ++ varB pt ++ varB to := by simp [Mg.enc]
    rw [e]
    exact rbytes_4 mv pt to ho.mv ho.pt ho.to
  · simp only at h1 h2 h3 h4 h5
    subst h1 h2 h3 h4 h5
    obtain ⟨rfl, rfl⟩ := hc (.inr rfl)
    have e : (Mg.mk 12 mv pt 0 0 0 []).enc = [UInt8.ofNat 12] ++ varB mv ++ varB pt := by simp [Mg.enc]
    rw [e]
    exact rbytes_12 mv pt ho.mv ho.pt
  · simp only at h1 h2
    subst h1 h2
    have e : (Mg.mk 11 mv pt 0 ep nd own).enc = [UInt8.ofNat 11] ++ varB mv ++ varB pt ++ (varB ep ++ varB nd ++ (varB own.length ++ numsB own)) := by simp [Mg.enc]
    rw [e]
    exact rbytes_11 mv pt ep nd ho.mv ho.pt ho.ep ho.nd c hI ho.own ho.len
  · simp only at h1 h2 h3 h4
    subst h1 h2 h3 h4
    have e : (Mg.mk 14 0 0 0 ep nd own).enc = [UInt8.ofNat 14] ++ (varB ep ++ varB nd ++ (varB own.length ++ numsB own)) := by simp [Mg.enc]
    rw [e]
    exact rbytes_14 ep nd ho.ep ho.nd c hI ho.own ho.len
end Go.Proofs.YteejdfpfdnkiiaaGreat
