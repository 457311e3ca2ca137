/- Messages, as the reader goes over them. -/
import Derived.Test.YteejdfpfdnkiiaaGreatCrD
import Derived.Test.YteejdfpfdnkiiaaGreatCmE
namespace Go.Proofs.YteejdfpfdnkiiaaGreat
open Go.RowKit Go.Lib
set_option linter.unusedSimpArgs false
set_option linter.unusedVariables false
theorem drop_next {s : ByteArray} {p : Nat} {a b : List UInt8} (h : s.data.toList.drop p = a ++ b) : s.data.toList.drop (p + a.length) = b := by rw [← List.drop_drop, h, List.drop_left]
set_option maxRecDepth 100000 in
set_option maxHeartbeats 4000000 in
theorem rtable_st {r x mb : Nat} {s : ByteArray} {p : Nat} {cs : Array Value} {w W : World} {own : List Int} (ep nd : Nat) (h : StR r x mb s p cs w W) (rest : List UInt8) (hs : s.data.toList.drop p = varB ep ++ (varB nd ++ (varB own.length ++ numsB own ++ rest))) (hz : s.size ≤ 100000) (hof : cs[19]? = some (.slice none 0 0)) (h64 : own.length ≤ 64) (hr : ∀ x ∈ own, 0 ≤ x ∧ x ≤ 2147483647) (he : ep ≤ 2147483647) (hn : nd ≤ 2147483647) : Calls Tryz.prog 99 #[(.iface 183 (.pointer (some ⟨r, 0, none⟩))), .pointer (some ⟨mb, 17, none⟩)] W fun e w' => e = .returned (.tuple #[]) ∧ ∃ vp, StR r x mb s (p + (varB ep).length + (varB nd).length + (varB own.length).length + (numsB own).length) (((cs.setIfInBounds 17 (.int .i64 ep)).setIfInBounds 18 (.int .i64 nd)).setIfInBounds 19 vp) w w' ∧ IRow w.heap.size w' vp own := by
  have HS := Lib.hid h
  have HR := Lib.hid hr
  have hs2 := drop_next hs
  have hs3 := drop_next hs2
  have HD1 := Lib.hid hs
  have HD2 := Lib.hid hs2
  have HD3 := Lib.hid hs3
  have hof2 : ((cs.setIfInBounds 17 (.int .i64 ep)).setIfInBounds 18 (.int .i64 nd))[19]? = some (.slice none 0 0) := by simpa using hof
  have HOF := Lib.hid hof2
  clear h hr hs hs2 hs3 hof hof2
  have hm_num : ∀ W, (method 327 183 (.pointer (some ⟨r, 0, none⟩)) "meter/msg.num").run Tryz.prog W = .ok (143, .pointer (some ⟨r, 0, none⟩)) W := fun _ => by kernel_rfl
  go_enter Tryz.func99, Tryz.ntmps99
  go_wp2_with (fail)
  refine wp_region_soup 7 [] (fun _ => none) (by kernel_rfl) (by kernel_rfl) (spOk_of (l := []) (by simp)) (pre_of (l := []) (by simp)) ?_
  simp only [List.take_succ_cons, List.take_zero, List.drop_succ_cons, List.drop_zero]
  iterate 4
    with_reducible refine soup_q ?_ ?_ ?_
    · rfl
    · rfl
    with_reducible apply Exists.intro
    with_reducible refine ⟨fun W hk _ => ?_, ?_⟩
    · unfold Oper.same
      go_simp
      first | rfl | exact ⟨rfl, rfl⟩
    with_reducible apply Exists.intro
    with_reducible refine ⟨?_, ?_⟩
    · go_simp
      rfl
  with_reducible refine soup_q ?_ ?_ ?_
  · rfl
  · rfl
  with_reducible apply Exists.intro
  with_reducible refine ⟨fun W hk _ => ?_, ?_⟩
  · have hmf : ∀ (fn : Fn) (first cap : Array Value) (w : World), (Instr.makeFunc fn first cap).run Tryz.prog w = .ok (.func fn first cap) w := fun _ _ _ _ => rfl
    unfold Oper.same
    go_simp
    first | rfl | exact ⟨rfl, rfl⟩
  with_reducible apply Exists.intro
  with_reducible refine ⟨?_, ?_⟩
  · go_simp
    rfl
  iterate 2
    with_reducible refine soup_q ?_ ?_ ?_
    · rfl
    · rfl
    with_reducible apply Exists.intro
    with_reducible refine ⟨fun W hk _ => ?_, ?_⟩
    · unfold Oper.same
      go_simp
      first | rfl | exact ⟨rfl, rfl⟩
    with_reducible apply Exists.intro
    with_reducible refine ⟨?_, ?_⟩
    · go_simp
      rfl
  refine soup_nil (fun W1 hk hS => ?_)
  have HS := Lib.hid (HS.out.keep hk)
  clear hk hS
  go_wp2_with (fail)
  refine (rnum_st HS.out ep _ HD1.out he hz 17 (by omega)).mono ?_
  rintro e w1 ⟨rfl, hs⟩
  have HS : Hid (StR r x mb s (p + (varB ep).length) (cs.setIfInBounds 17 (.int .i64 ep)) w w1) := Lib.hid hs
  clear hs
  go_wp2_with (fail)
  refine wp_region_soup 7 [] (fun _ => none) (by kernel_rfl) (by kernel_rfl) (spOk_of (l := []) (by simp)) (pre_of (l := []) (by simp)) ?_
  simp only [List.take_succ_cons, List.take_zero, List.drop_succ_cons, List.drop_zero]
  iterate 4
    with_reducible refine soup_q ?_ ?_ ?_
    · rfl
    · rfl
    with_reducible apply Exists.intro
    with_reducible refine ⟨fun W hk _ => ?_, ?_⟩
    · unfold Oper.same
      go_simp
      first | rfl | exact ⟨rfl, rfl⟩
    with_reducible apply Exists.intro
    with_reducible refine ⟨?_, ?_⟩
    · go_simp
      rfl
  with_reducible refine soup_q ?_ ?_ ?_
  · rfl
  · rfl
  with_reducible apply Exists.intro
  with_reducible refine ⟨fun W hk _ => ?_, ?_⟩
  · have hmf : ∀ (fn : Fn) (first cap : Array Value) (w : World), (Instr.makeFunc fn first cap).run Tryz.prog w = .ok (.func fn first cap) w := fun _ _ _ _ => rfl
    unfold Oper.same
    go_simp
    first | rfl | exact ⟨rfl, rfl⟩
  with_reducible apply Exists.intro
  with_reducible refine ⟨?_, ?_⟩
  · go_simp
    rfl
  iterate 2
    with_reducible refine soup_q ?_ ?_ ?_
    · rfl
    · rfl
    with_reducible apply Exists.intro
    with_reducible refine ⟨fun W hk _ => ?_, ?_⟩
    · unfold Oper.same
      go_simp
      first | rfl | exact ⟨rfl, rfl⟩
    with_reducible apply Exists.intro
    with_reducible refine ⟨?_, ?_⟩
    · go_simp
      rfl
  refine soup_nil (fun W2 hk hS => ?_)
  have HS := Lib.hid (HS.out.keep hk)
  clear hk hS
  go_wp2_with (fail)
  refine (rnum_st HS.out nd _ HD2.out hn hz 18 (by omega)).mono ?_
  rintro e w2 ⟨rfl, hs⟩
  have HS : Hid (StR r x mb s (p + (varB ep).length + (varB nd).length) ((cs.setIfInBounds 17 (.int .i64 ep)).setIfInBounds 18 (.int .i64 nd)) w w2) := Lib.hid hs
  clear hs
  go_wp2_with (fail)
  refine (rnums_st HS.out _ HD3.out hz HOF.out h64 HR.out).mono ?_
  rintro e w3 ⟨rfl, hs⟩
  have HS := Lib.hid hs
  clear hs
  go_wp2_with (fail)
  go_end0
  exact ⟨rfl, HS.out⟩
set_option maxRecDepth 100000 in
set_option maxHeartbeats 4000000 in
theorem rwalk4_st {r x mb : Nat} {s : ByteArray} {p : Nat} {w W : World} (mv pt to : Nat) (h : StR r x mb s p (msC 0 0 0 0 0 0 (.slice none 0 0)) w W) (rest : List UInt8) (hs : s.data.toList.drop p = [4] ++ (varB mv ++ (varB pt ++ (varB to ++ (rest))))) (hz : s.size ≤ 100000) (h_mv : mv ≤ 2147483647) (h_pt : pt ≤ 2147483647) (h_to : to ≤ 2147483647) : Calls Tryz.prog 80 #[(.iface 183 (.pointer (some ⟨r, 0, none⟩))), .pointer (some ⟨mb, 0, none⟩)] W fun e w' => e = .returned (.tuple #[]) ∧ StR r x mb s (p + ([4] : List UInt8).length + (varB mv : List UInt8).length + (varB pt : List UInt8).length + (varB to : List UInt8).length) (msC 4 mv pt to 0 0 (.slice none 0 0)) w w' := by
  have HS := Lib.hid h
  have hs1 := drop_next hs
  have hb0 : s.data.toList[p]? = some (4 : UInt8) := by rw [← List.head?_drop, hs]; rfl
  have HB := Lib.hid hb0
  have HD1 := Lib.hid hs1
  have hs2 := drop_next hs1
  have HD2 := Lib.hid hs2
  have hs3 := drop_next hs2
  have HD3 := Lib.hid hs3
  have hs4 := drop_next hs3
  have HD4 := Lib.hid hs4
  clear h hs hb0 hs1 hs2 hs3 hs4
  have hm_num : ∀ W, (method 327 183 (.pointer (some ⟨r, 0, none⟩)) "meter/msg.num").run Tryz.prog W = .ok (143, .pointer (some ⟨r, 0, none⟩)) W := fun _ => by kernel_rfl
  have hm_byte : ∀ W, (method 327 183 (.pointer (some ⟨r, 0, none⟩)) "meter/msg.byte").run Tryz.prog W = .ok (140, .pointer (some ⟨r, 0, none⟩)) W := fun _ => by kernel_rfl
  go_enter Tryz.func80, Tryz.ntmps80
  go_wp2_with (fail)
  refine wp_region_soup 7 [] (fun _ => none) (by kernel_rfl) (by kernel_rfl) (spOk_of (l := []) (by simp)) (pre_of (l := []) (by simp)) ?_
  simp only [List.take_succ_cons, List.take_zero, List.drop_succ_cons, List.drop_zero]
  iterate 4
    with_reducible refine soup_q ?_ ?_ ?_
    · rfl
    · rfl
    with_reducible apply Exists.intro
    with_reducible refine ⟨fun W hk _ => ?_, ?_⟩
    · unfold Oper.same
      go_simp
      first | rfl | exact ⟨rfl, rfl⟩
    with_reducible apply Exists.intro
    with_reducible refine ⟨?_, ?_⟩
    · go_simp
      rfl
  with_reducible refine soup_q ?_ ?_ ?_
  · rfl
  · rfl
  with_reducible apply Exists.intro
  with_reducible refine ⟨fun W hk _ => ?_, ?_⟩
  · have hmf : ∀ (fn : Fn) (first cap : Array Value) (w : World), (Instr.makeFunc fn first cap).run Tryz.prog w = .ok (.func fn first cap) w := fun _ _ _ _ => rfl
    unfold Oper.same
    go_simp
    first | rfl | exact ⟨rfl, rfl⟩
  with_reducible apply Exists.intro
  with_reducible refine ⟨?_, ?_⟩
  · go_simp
    rfl
  iterate 2
    with_reducible refine soup_q ?_ ?_ ?_
    · rfl
    · rfl
    with_reducible apply Exists.intro
    with_reducible refine ⟨fun W hk _ => ?_, ?_⟩
    · unfold Oper.same
      go_simp
      first | rfl | exact ⟨rfl, rfl⟩
    with_reducible apply Exists.intro
    with_reducible refine ⟨?_, ?_⟩
    · go_simp
      rfl
  refine soup_nil (fun W1 hk hS => ?_)
  have HS := Lib.hid (HS.out.keep hk)
  clear hk hS
  go_wp2_with (fail)
  refine (rbyte_st HS.out (4 : UInt8) HB.out hz 0 (by omega)).mono ?_
  rintro e w1 ⟨rfl, hs⟩
  have HS : Hid (StR r x mb s (p + ([4] : List UInt8).length) (msC 4 0 0 0 0 0 (.slice none 0 0)) w w1) := Lib.hid hs
  clear hs
  have c0 : w1.cell? ⟨mb, 0, none⟩ = some (.int .u8 4) := HS.out.M.cell 0
  go_wp2_with (fail)
  refine wp_region_soup 7 [] (fun _ => none) (by kernel_rfl) (by kernel_rfl) (spOk_of (l := []) (by simp)) (pre_of (l := []) (by simp)) ?_
  simp only [List.take_succ_cons, List.take_zero, List.drop_succ_cons, List.drop_zero]
  iterate 4
    with_reducible refine soup_q ?_ ?_ ?_
    · rfl
    · rfl
    with_reducible apply Exists.intro
    with_reducible refine ⟨fun W hk _ => ?_, ?_⟩
    · unfold Oper.same
      go_simp
      first | rfl | exact ⟨rfl, rfl⟩
    with_reducible apply Exists.intro
    with_reducible refine ⟨?_, ?_⟩
    · go_simp
      rfl
  with_reducible refine soup_q ?_ ?_ ?_
  · rfl
  · rfl
  with_reducible apply Exists.intro
  with_reducible refine ⟨fun W hk _ => ?_, ?_⟩
  · have hmf : ∀ (fn : Fn) (first cap : Array Value) (w : World), (Instr.makeFunc fn first cap).run Tryz.prog w = .ok (.func fn first cap) w := fun _ _ _ _ => rfl
    unfold Oper.same
    go_simp
    first | rfl | exact ⟨rfl, rfl⟩
  with_reducible apply Exists.intro
  with_reducible refine ⟨?_, ?_⟩
  · go_simp
    rfl
  iterate 2
    with_reducible refine soup_q ?_ ?_ ?_
    · rfl
    · rfl
    with_reducible apply Exists.intro
    with_reducible refine ⟨fun W hk _ => ?_, ?_⟩
    · unfold Oper.same
      go_simp
      first | rfl | exact ⟨rfl, rfl⟩
    with_reducible apply Exists.intro
    with_reducible refine ⟨?_, ?_⟩
    · go_simp
      rfl
  refine soup_nil (fun W2 hk hS => ?_)
  have HS := Lib.hid (HS.out.keep hk)
  clear hk hS
  go_wp2_with (fail)
  refine (rnum_st HS.out mv _ HD1.out h_mv hz 1 (by omega)).mono ?_
  rintro e w2 ⟨rfl, hs⟩
  have HS : Hid (StR r x mb s (p + ([4] : List UInt8).length + (varB mv : List UInt8).length) (msC 4 mv 0 0 0 0 (.slice none 0 0)) w w2) := Lib.hid hs
  clear hs
  clear c0
  go_wp2_with (fail)
  refine wp_region_soup 7 [] (fun _ => none) (by kernel_rfl) (by kernel_rfl) (spOk_of (l := []) (by simp)) (pre_of (l := []) (by simp)) ?_
  simp only [List.take_succ_cons, List.take_zero, List.drop_succ_cons, List.drop_zero]
  iterate 4
    with_reducible refine soup_q ?_ ?_ ?_
    · rfl
    · rfl
    with_reducible apply Exists.intro
    with_reducible refine ⟨fun W hk _ => ?_, ?_⟩
    · unfold Oper.same
      go_simp
      first | rfl | exact ⟨rfl, rfl⟩
    with_reducible apply Exists.intro
    with_reducible refine ⟨?_, ?_⟩
    · go_simp
      rfl
  with_reducible refine soup_q ?_ ?_ ?_
  · rfl
  · rfl
  with_reducible apply Exists.intro
  with_reducible refine ⟨fun W hk _ => ?_, ?_⟩
  · have hmf : ∀ (fn : Fn) (first cap : Array Value) (w : World), (Instr.makeFunc fn first cap).run Tryz.prog w = .ok (.func fn first cap) w := fun _ _ _ _ => rfl
    unfold Oper.same
    go_simp
    first | rfl | exact ⟨rfl, rfl⟩
  with_reducible apply Exists.intro
  with_reducible refine ⟨?_, ?_⟩
  · go_simp
    rfl
  iterate 2
    with_reducible refine soup_q ?_ ?_ ?_
    · rfl
    · rfl
    with_reducible apply Exists.intro
    with_reducible refine ⟨fun W hk _ => ?_, ?_⟩
    · unfold Oper.same
      go_simp
      first | rfl | exact ⟨rfl, rfl⟩
    with_reducible apply Exists.intro
    with_reducible refine ⟨?_, ?_⟩
    · go_simp
      rfl
  refine soup_nil (fun W3 hk hS => ?_)
  have HS := Lib.hid (HS.out.keep hk)
  clear hk hS
  go_wp2_with (fail)
  refine (rnum_st HS.out pt _ HD2.out h_pt hz 2 (by omega)).mono ?_
  rintro e w3 ⟨rfl, hs⟩
  have HS : Hid (StR r x mb s (p + ([4] : List UInt8).length + (varB mv : List UInt8).length + (varB pt : List UInt8).length) (msC 4 mv pt 0 0 0 (.slice none 0 0)) w w3) := Lib.hid hs
  clear hs
  have c0 : w3.cell? ⟨mb, 0, none⟩ = some (.int .u8 4) := HS.out.M.cell 0
  go_wp2_with (fail)
  refine wp_region_soup 7 [] (fun _ => none) (by kernel_rfl) (by kernel_rfl) (spOk_of (l := []) (by simp)) (pre_of (l := []) (by simp)) ?_
  simp only [List.take_succ_cons, List.take_zero, List.drop_succ_cons, List.drop_zero]
  iterate 4
    with_reducible refine soup_q ?_ ?_ ?_
    · rfl
    · rfl
    with_reducible apply Exists.intro
    with_reducible refine ⟨fun W hk _ => ?_, ?_⟩
    · unfold Oper.same
      go_simp
      first | rfl | exact ⟨rfl, rfl⟩
    with_reducible apply Exists.intro
    with_reducible refine ⟨?_, ?_⟩
    · go_simp
      rfl
  with_reducible refine soup_q ?_ ?_ ?_
  · rfl
  · rfl
  with_reducible apply Exists.intro
  with_reducible refine ⟨fun W hk _ => ?_, ?_⟩
  · have hmf : ∀ (fn : Fn) (first cap : Array Value) (w : World), (Instr.makeFunc fn first cap).run Tryz.prog w = .ok (.func fn first cap) w := fun _ _ _ _ => rfl
    unfold Oper.same
    go_simp
    first | rfl | exact ⟨rfl, rfl⟩
  with_reducible apply Exists.intro
  with_reducible refine ⟨?_, ?_⟩
  · go_simp
    rfl
  iterate 2
    with_reducible refine soup_q ?_ ?_ ?_
    · rfl
    · rfl
    with_reducible apply Exists.intro
    with_reducible refine ⟨fun W hk _ => ?_, ?_⟩
    · unfold Oper.same
      go_simp
      first | rfl | exact ⟨rfl, rfl⟩
    with_reducible apply Exists.intro
    with_reducible refine ⟨?_, ?_⟩
    · go_simp
      rfl
  refine soup_nil (fun W4 hk hS => ?_)
  have HS := Lib.hid (HS.out.keep hk)
  clear hk hS
  go_wp2_with (fail)
  refine (rnum_st HS.out to _ HD3.out h_to hz 3 (by omega)).mono ?_
  rintro e w4 ⟨rfl, hs⟩
  have HS : Hid (StR r x mb s (p + ([4] : List UInt8).length + (varB mv : List UInt8).length + (varB pt : List UInt8).length + (varB to : List UInt8).length) (msC 4 mv pt to 0 0 (.slice none 0 0)) w w4) := Lib.hid hs
  clear hs
  go_wp2_with (fail)
  go_end0
  exact ⟨rfl, HS.out⟩
set_option maxRecDepth 100000 in
set_option maxHeartbeats 4000000 in
theorem rwalk12_st {r x mb : Nat} {s : ByteArray} {p : Nat} {w W : World} (mv pt : Nat) (h : StR r x mb s p (msC 0 0 0 0 0 0 (.slice none 0 0)) w W) (rest : List UInt8) (hs : s.data.toList.drop p = [12] ++ (varB mv ++ (varB pt ++ (rest)))) (hz : s.size ≤ 100000) (h_mv : mv ≤ 2147483647) (h_pt : pt ≤ 2147483647) : Calls Tryz.prog 80 #[(.iface 183 (.pointer (some ⟨r, 0, none⟩))), .pointer (some ⟨mb, 0, none⟩)] W fun e w' => e = .returned (.tuple #[]) ∧ StR r x mb s (p + ([12] : List UInt8).length + (varB mv : List UInt8).length + (varB pt : List UInt8).length) (msC 12 mv pt 0 0 0 (.slice none 0 0)) w w' := by
  have HS := Lib.hid h
  have hs1 := drop_next hs
  have hb0 : s.data.toList[p]? = some (12 : UInt8) := by rw [← List.head?_drop, hs]; rfl
  have HB := Lib.hid hb0
  have HD1 := Lib.hid hs1
  have hs2 := drop_next hs1
  have HD2 := Lib.hid hs2
  have hs3 := drop_next hs2
  have HD3 := Lib.hid hs3
  clear h hs hb0 hs1 hs2 hs3
  have hm_num : ∀ W, (method 327 183 (.pointer (some ⟨r, 0, none⟩)) "meter/msg.num").run Tryz.prog W = .ok (143, .pointer (some ⟨r, 0, none⟩)) W := fun _ => by kernel_rfl
  have hm_byte : ∀ W, (method 327 183 (.pointer (some ⟨r, 0, none⟩)) "meter/msg.byte").run Tryz.prog W = .ok (140, .pointer (some ⟨r, 0, none⟩)) W := fun _ => by kernel_rfl
  go_enter Tryz.func80, Tryz.ntmps80
  go_wp2_with (fail)
  refine wp_region_soup 7 [] (fun _ => none) (by kernel_rfl) (by kernel_rfl) (spOk_of (l := []) (by simp)) (pre_of (l := []) (by simp)) ?_
  simp only [List.take_succ_cons, List.take_zero, List.drop_succ_cons, List.drop_zero]
  iterate 4
    with_reducible refine soup_q ?_ ?_ ?_
    · rfl
    · rfl
    with_reducible apply Exists.intro
    with_reducible refine ⟨fun W hk _ => ?_, ?_⟩
    · unfold Oper.same
      go_simp
      first | rfl | exact ⟨rfl, rfl⟩
    with_reducible apply Exists.intro
    with_reducible refine ⟨?_, ?_⟩
    · go_simp
      rfl
  with_reducible refine soup_q ?_ ?_ ?_
  · rfl
  · rfl
  with_reducible apply Exists.intro
  with_reducible refine ⟨fun W hk _ => ?_, ?_⟩
  · have hmf : ∀ (fn : Fn) (first cap : Array Value) (w : World), (Instr.makeFunc fn first cap).run Tryz.prog w = .ok (.func fn first cap) w := fun _ _ _ _ => rfl
    unfold Oper.same
    go_simp
    first | rfl | exact ⟨rfl, rfl⟩
  with_reducible apply Exists.intro
  with_reducible refine ⟨?_, ?_⟩
  · go_simp
    rfl
  iterate 2
    with_reducible refine soup_q ?_ ?_ ?_
    · rfl
    · rfl
    with_reducible apply Exists.intro
    with_reducible refine ⟨fun W hk _ => ?_, ?_⟩
    · unfold Oper.same
      go_simp
      first | rfl | exact ⟨rfl, rfl⟩
    with_reducible apply Exists.intro
    with_reducible refine ⟨?_, ?_⟩
    · go_simp
      rfl
  refine soup_nil (fun W1 hk hS => ?_)
  have HS := Lib.hid (HS.out.keep hk)
  clear hk hS
  go_wp2_with (fail)
  refine (rbyte_st HS.out (12 : UInt8) HB.out hz 0 (by omega)).mono ?_
  rintro e w1 ⟨rfl, hs⟩
  have HS : Hid (StR r x mb s (p + ([12] : List UInt8).length) (msC 12 0 0 0 0 0 (.slice none 0 0)) w w1) := Lib.hid hs
  clear hs
  have c0 : w1.cell? ⟨mb, 0, none⟩ = some (.int .u8 12) := HS.out.M.cell 0
  go_wp2_with (fail)
  refine wp_region_soup 7 [] (fun _ => none) (by kernel_rfl) (by kernel_rfl) (spOk_of (l := []) (by simp)) (pre_of (l := []) (by simp)) ?_
  simp only [List.take_succ_cons, List.take_zero, List.drop_succ_cons, List.drop_zero]
  iterate 4
    with_reducible refine soup_q ?_ ?_ ?_
    · rfl
    · rfl
    with_reducible apply Exists.intro
    with_reducible refine ⟨fun W hk _ => ?_, ?_⟩
    · unfold Oper.same
      go_simp
      first | rfl | exact ⟨rfl, rfl⟩
    with_reducible apply Exists.intro
    with_reducible refine ⟨?_, ?_⟩
    · go_simp
      rfl
  with_reducible refine soup_q ?_ ?_ ?_
  · rfl
  · rfl
  with_reducible apply Exists.intro
  with_reducible refine ⟨fun W hk _ => ?_, ?_⟩
  · have hmf : ∀ (fn : Fn) (first cap : Array Value) (w : World), (Instr.makeFunc fn first cap).run Tryz.prog w = .ok (.func fn first cap) w := fun _ _ _ _ => rfl
    unfold Oper.same
    go_simp
    first | rfl | exact ⟨rfl, rfl⟩
  with_reducible apply Exists.intro
  with_reducible refine ⟨?_, ?_⟩
  · go_simp
    rfl
  iterate 2
    with_reducible refine soup_q ?_ ?_ ?_
    · rfl
    · rfl
    with_reducible apply Exists.intro
    with_reducible refine ⟨fun W hk _ => ?_, ?_⟩
    · unfold Oper.same
      go_simp
      first | rfl | exact ⟨rfl, rfl⟩
    with_reducible apply Exists.intro
    with_reducible refine ⟨?_, ?_⟩
    · go_simp
      rfl
  refine soup_nil (fun W2 hk hS => ?_)
  have HS := Lib.hid (HS.out.keep hk)
  clear hk hS
  go_wp2_with (fail)
  refine (rnum_st HS.out mv _ HD1.out h_mv hz 1 (by omega)).mono ?_
  rintro e w2 ⟨rfl, hs⟩
  have HS : Hid (StR r x mb s (p + ([12] : List UInt8).length + (varB mv : List UInt8).length) (msC 12 mv 0 0 0 0 (.slice none 0 0)) w w2) := Lib.hid hs
  clear hs
  clear c0
  go_wp2_with (fail)
  refine wp_region_soup 7 [] (fun _ => none) (by kernel_rfl) (by kernel_rfl) (spOk_of (l := []) (by simp)) (pre_of (l := []) (by simp)) ?_
  simp only [List.take_succ_cons, List.take_zero, List.drop_succ_cons, List.drop_zero]
  iterate 4
    with_reducible refine soup_q ?_ ?_ ?_
    · rfl
    · rfl
    with_reducible apply Exists.intro
    with_reducible refine ⟨fun W hk _ => ?_, ?_⟩
    · unfold Oper.same
      go_simp
      first | rfl | exact ⟨rfl, rfl⟩
    with_reducible apply Exists.intro
    with_reducible refine ⟨?_, ?_⟩
    · go_simp
      rfl
  with_reducible refine soup_q ?_ ?_ ?_
  · rfl
  · rfl
  with_reducible apply Exists.intro
  with_reducible refine ⟨fun W hk _ => ?_, ?_⟩
  · have hmf : ∀ (fn : Fn) (first cap : Array Value) (w : World), (Instr.makeFunc fn first cap).run Tryz.prog w = .ok (.func fn first cap) w := fun _ _ _ _ => rfl
    unfold Oper.same
    go_simp
    first | rfl | exact ⟨rfl, rfl⟩
  with_reducible apply Exists.intro
  with_reducible refine ⟨?_, ?_⟩
  · go_simp
    rfl
  iterate 2
    with_reducible refine soup_q ?_ ?_ ?_
    · rfl
    · rfl
    with_reducible apply Exists.intro
    with_reducible refine ⟨fun W hk _ => ?_, ?_⟩
    · unfold Oper.same
      go_simp
      first | rfl | exact ⟨rfl, rfl⟩
    with_reducible apply Exists.intro
    with_reducible refine ⟨?_, ?_⟩
    · go_simp
      rfl
  refine soup_nil (fun W3 hk hS => ?_)
  have HS := Lib.hid (HS.out.keep hk)
  clear hk hS
  go_wp2_with (fail)
  refine (rnum_st HS.out pt _ HD2.out h_pt hz 2 (by omega)).mono ?_
  rintro e w3 ⟨rfl, hs⟩
  have HS : Hid (StR r x mb s (p + ([12] : List UInt8).length + (varB mv : List UInt8).length + (varB pt : List UInt8).length) (msC 12 mv pt 0 0 0 (.slice none 0 0)) w w3) := Lib.hid hs
  clear hs
  have c0 : w3.cell? ⟨mb, 0, none⟩ = some (.int .u8 12) := HS.out.M.cell 0
  go_wp2_with (fail)
  go_end0
  exact ⟨rfl, HS.out⟩
set_option maxRecDepth 100000 in
set_option maxHeartbeats 4000000 in
theorem rwalk11_st {r x mb : Nat} {s : ByteArray} {p : Nat} {w W : World} {own : List Int} (mv pt ep nd : Nat) (h : StR r x mb s p (msC 0 0 0 0 0 0 (.slice none 0 0)) w W) (rest : List UInt8) (hs : s.data.toList.drop p = [11] ++ (varB mv ++ (varB pt ++ ((varB ep ++ (varB nd ++ (varB own.length ++ numsB own ++ rest))))))) (hz : s.size ≤ 100000) (h_mv : mv ≤ 2147483647) (h_pt : pt ≤ 2147483647) (h_ep : ep ≤ 2147483647) (h_nd : nd ≤ 2147483647) (h64 : own.length ≤ 64) (hr : ∀ x ∈ own, 0 ≤ x ∧ x ≤ 2147483647) : Calls Tryz.prog 80 #[(.iface 183 (.pointer (some ⟨r, 0, none⟩))), .pointer (some ⟨mb, 0, none⟩)] W fun e w' => e = .returned (.tuple #[]) ∧ ∃ vp, StR r x mb s (p + ([11] : List UInt8).length + (varB mv : List UInt8).length + (varB pt : List UInt8).length + (varB ep).length + (varB nd).length + (varB own.length).length + (numsB own).length) (msC 11 mv pt 0 ep nd vp) w w' ∧ IRow w.heap.size w' vp own := by
  have HS := Lib.hid h
  have hs1 := drop_next hs
  have hb0 : s.data.toList[p]? = some (11 : UInt8) := by rw [← List.head?_drop, hs]; rfl
  have HB := Lib.hid hb0
  have HD1 := Lib.hid hs1
  have hs2 := drop_next hs1
  have HD2 := Lib.hid hs2
  have hs3 := drop_next hs2
  have HD3 := Lib.hid hs3
  clear h hs hb0 hs1 hs2 hs3
  have HR := Lib.hid hr
  clear hr
  have hm_num : ∀ W, (method 327 183 (.pointer (some ⟨r, 0, none⟩)) "meter/msg.num").run Tryz.prog W = .ok (143, .pointer (some ⟨r, 0, none⟩)) W := fun _ => by kernel_rfl
  have hm_byte : ∀ W, (method 327 183 (.pointer (some ⟨r, 0, none⟩)) "meter/msg.byte").run Tryz.prog W = .ok (140, .pointer (some ⟨r, 0, none⟩)) W := fun _ => by kernel_rfl
  go_enter Tryz.func80, Tryz.ntmps80
  go_wp2_with (fail)
  refine wp_region_soup 7 [] (fun _ => none) (by kernel_rfl) (by kernel_rfl) (spOk_of (l := []) (by simp)) (pre_of (l := []) (by simp)) ?_
  simp only [List.take_succ_cons, List.take_zero, List.drop_succ_cons, List.drop_zero]
  iterate 4
    with_reducible refine soup_q ?_ ?_ ?_
    · rfl
    · rfl
    with_reducible apply Exists.intro
    with_reducible refine ⟨fun W hk _ => ?_, ?_⟩
    · unfold Oper.same
      go_simp
      first | rfl | exact ⟨rfl, rfl⟩
    with_reducible apply Exists.intro
    with_reducible refine ⟨?_, ?_⟩
    · go_simp
      rfl
  with_reducible refine soup_q ?_ ?_ ?_
  · rfl
  · rfl
  with_reducible apply Exists.intro
  with_reducible refine ⟨fun W hk _ => ?_, ?_⟩
  · have hmf : ∀ (fn : Fn) (first cap : Array Value) (w : World), (Instr.makeFunc fn first cap).run Tryz.prog w = .ok (.func fn first cap) w := fun _ _ _ _ => rfl
    unfold Oper.same
    go_simp
    first | rfl | exact ⟨rfl, rfl⟩
  with_reducible apply Exists.intro
  with_reducible refine ⟨?_, ?_⟩
  · go_simp
    rfl
  iterate 2
    with_reducible refine soup_q ?_ ?_ ?_
    · rfl
    · rfl
    with_reducible apply Exists.intro
    with_reducible refine ⟨fun W hk _ => ?_, ?_⟩
    · unfold Oper.same
      go_simp
      first | rfl | exact ⟨rfl, rfl⟩
    with_reducible apply Exists.intro
    with_reducible refine ⟨?_, ?_⟩
    · go_simp
      rfl
  refine soup_nil (fun W1 hk hS => ?_)
  have HS := Lib.hid (HS.out.keep hk)
  clear hk hS
  go_wp2_with (fail)
  refine (rbyte_st HS.out (11 : UInt8) HB.out hz 0 (by omega)).mono ?_
  rintro e w1 ⟨rfl, hs⟩
  have HS : Hid (StR r x mb s (p + ([11] : List UInt8).length) (msC 11 0 0 0 0 0 (.slice none 0 0)) w w1) := Lib.hid hs
  clear hs
  have c0 : w1.cell? ⟨mb, 0, none⟩ = some (.int .u8 11) := HS.out.M.cell 0
  go_wp2_with (fail)
  refine wp_region_soup 7 [] (fun _ => none) (by kernel_rfl) (by kernel_rfl) (spOk_of (l := []) (by simp)) (pre_of (l := []) (by simp)) ?_
  simp only [List.take_succ_cons, List.take_zero, List.drop_succ_cons, List.drop_zero]
  iterate 4
    with_reducible refine soup_q ?_ ?_ ?_
    · rfl
    · rfl
    with_reducible apply Exists.intro
    with_reducible refine ⟨fun W hk _ => ?_, ?_⟩
    · unfold Oper.same
      go_simp
      first | rfl | exact ⟨rfl, rfl⟩
    with_reducible apply Exists.intro
    with_reducible refine ⟨?_, ?_⟩
    · go_simp
      rfl
  with_reducible refine soup_q ?_ ?_ ?_
  · rfl
  · rfl
  with_reducible apply Exists.intro
  with_reducible refine ⟨fun W hk _ => ?_, ?_⟩
  · have hmf : ∀ (fn : Fn) (first cap : Array Value) (w : World), (Instr.makeFunc fn first cap).run Tryz.prog w = .ok (.func fn first cap) w := fun _ _ _ _ => rfl
    unfold Oper.same
    go_simp
    first | rfl | exact ⟨rfl, rfl⟩
  with_reducible apply Exists.intro
  with_reducible refine ⟨?_, ?_⟩
  · go_simp
    rfl
  iterate 2
    with_reducible refine soup_q ?_ ?_ ?_
    · rfl
    · rfl
    with_reducible apply Exists.intro
    with_reducible refine ⟨fun W hk _ => ?_, ?_⟩
    · unfold Oper.same
      go_simp
      first | rfl | exact ⟨rfl, rfl⟩
    with_reducible apply Exists.intro
    with_reducible refine ⟨?_, ?_⟩
    · go_simp
      rfl
  refine soup_nil (fun W2 hk hS => ?_)
  have HS := Lib.hid (HS.out.keep hk)
  clear hk hS
  go_wp2_with (fail)
  refine (rnum_st HS.out mv _ HD1.out h_mv hz 1 (by omega)).mono ?_
  rintro e w2 ⟨rfl, hs⟩
  have HS : Hid (StR r x mb s (p + ([11] : List UInt8).length + (varB mv : List UInt8).length) (msC 11 mv 0 0 0 0 (.slice none 0 0)) w w2) := Lib.hid hs
  clear hs
  clear c0
  go_wp2_with (fail)
  refine wp_region_soup 7 [] (fun _ => none) (by kernel_rfl) (by kernel_rfl) (spOk_of (l := []) (by simp)) (pre_of (l := []) (by simp)) ?_
  simp only [List.take_succ_cons, List.take_zero, List.drop_succ_cons, List.drop_zero]
  iterate 4
    with_reducible refine soup_q ?_ ?_ ?_
    · rfl
    · rfl
    with_reducible apply Exists.intro
    with_reducible refine ⟨fun W hk _ => ?_, ?_⟩
    · unfold Oper.same
      go_simp
      first | rfl | exact ⟨rfl, rfl⟩
    with_reducible apply Exists.intro
    with_reducible refine ⟨?_, ?_⟩
    · go_simp
      rfl
  with_reducible refine soup_q ?_ ?_ ?_
  · rfl
  · rfl
  with_reducible apply Exists.intro
  with_reducible refine ⟨fun W hk _ => ?_, ?_⟩
  · have hmf : ∀ (fn : Fn) (first cap : Array Value) (w : World), (Instr.makeFunc fn first cap).run Tryz.prog w = .ok (.func fn first cap) w := fun _ _ _ _ => rfl
    unfold Oper.same
    go_simp
    first | rfl | exact ⟨rfl, rfl⟩
  with_reducible apply Exists.intro
  with_reducible refine ⟨?_, ?_⟩
  · go_simp
    rfl
  iterate 2
    with_reducible refine soup_q ?_ ?_ ?_
    · rfl
    · rfl
    with_reducible apply Exists.intro
    with_reducible refine ⟨fun W hk _ => ?_, ?_⟩
    · unfold Oper.same
      go_simp
      first | rfl | exact ⟨rfl, rfl⟩
    with_reducible apply Exists.intro
    with_reducible refine ⟨?_, ?_⟩
    · go_simp
      rfl
  refine soup_nil (fun W3 hk hS => ?_)
  have HS := Lib.hid (HS.out.keep hk)
  clear hk hS
  go_wp2_with (fail)
  refine (rnum_st HS.out pt _ HD2.out h_pt hz 2 (by omega)).mono ?_
  rintro e w3 ⟨rfl, hs⟩
  have HS : Hid (StR r x mb s (p + ([11] : List UInt8).length + (varB mv : List UInt8).length + (varB pt : List UInt8).length) (msC 11 mv pt 0 0 0 (.slice none 0 0)) w w3) := Lib.hid hs
  clear hs
  have c0 : w3.cell? ⟨mb, 0, none⟩ = some (.int .u8 11) := HS.out.M.cell 0
  go_wp2_with (fail)
  refine (rtable_st ep nd HS.out _ HD3.out hz rfl h64 HR.out h_ep h_nd).mono ?_
  rintro e w4 ⟨rfl, hs⟩
  have HS := Lib.hid hs
  clear hs
  go_wp2_with (fail)
  go_end0
  exact ⟨rfl, HS.out⟩
set_option maxRecDepth 100000 in
set_option maxHeartbeats 4000000 in
theorem rwalk14_st {r x mb : Nat} {s : ByteArray} {p : Nat} {w W : World} {own : List Int} (ep nd : Nat) (h : StR r x mb s p (msC 0 0 0 0 0 0 (.slice none 0 0)) w W) (rest : List UInt8) (hs : s.data.toList.drop p = [14] ++ ((varB ep ++ (varB nd ++ (varB own.length ++ numsB own ++ rest))))) (hz : s.size ≤ 100000) (h_ep : ep ≤ 2147483647) (h_nd : nd ≤ 2147483647) (h64 : own.length ≤ 64) (hr : ∀ x ∈ own, 0 ≤ x ∧ x ≤ 2147483647) : Calls Tryz.prog 80 #[(.iface 183 (.pointer (some ⟨r, 0, none⟩))), .pointer (some ⟨mb, 0, none⟩)] W fun e w' => e = .returned (.tuple #[]) ∧ ∃ vp, StR r x mb s (p + ([14] : List UInt8).length + (varB ep).length + (varB nd).length + (varB own.length).length + (numsB own).length) (msC 14 0 0 0 ep nd vp) w w' ∧ IRow w.heap.size w' vp own := by
  have HS := Lib.hid h
  have hs1 := drop_next hs
  have hb0 : s.data.toList[p]? = some (14 : UInt8) := by rw [← List.head?_drop, hs]; rfl
  have HB := Lib.hid hb0
  have HD1 := Lib.hid hs1
  clear h hs hb0 hs1
  have HR := Lib.hid hr
  clear hr
  have hm_num : ∀ W, (method 327 183 (.pointer (some ⟨r, 0, none⟩)) "meter/msg.num").run Tryz.prog W = .ok (143, .pointer (some ⟨r, 0, none⟩)) W := fun _ => by kernel_rfl
  have hm_byte : ∀ W, (method 327 183 (.pointer (some ⟨r, 0, none⟩)) "meter/msg.byte").run Tryz.prog W = .ok (140, .pointer (some ⟨r, 0, none⟩)) W := fun _ => by kernel_rfl
  go_enter Tryz.func80, Tryz.ntmps80
  go_wp2_with (fail)
  refine wp_region_soup 7 [] (fun _ => none) (by kernel_rfl) (by kernel_rfl) (spOk_of (l := []) (by simp)) (pre_of (l := []) (by simp)) ?_
  simp only [List.take_succ_cons, List.take_zero, List.drop_succ_cons, List.drop_zero]
  iterate 4
    with_reducible refine soup_q ?_ ?_ ?_
    · rfl
    · rfl
    with_reducible apply Exists.intro
    with_reducible refine ⟨fun W hk _ => ?_, ?_⟩
    · unfold Oper.same
      go_simp
      first | rfl | exact ⟨rfl, rfl⟩
    with_reducible apply Exists.intro
    with_reducible refine ⟨?_, ?_⟩
    · go_simp
      rfl
  with_reducible refine soup_q ?_ ?_ ?_
  · rfl
  · rfl
  with_reducible apply Exists.intro
  with_reducible refine ⟨fun W hk _ => ?_, ?_⟩
  · have hmf : ∀ (fn : Fn) (first cap : Array Value) (w : World), (Instr.makeFunc fn first cap).run Tryz.prog w = .ok (.func fn first cap) w := fun _ _ _ _ => rfl
    unfold Oper.same
    go_simp
    first | rfl | exact ⟨rfl, rfl⟩
  with_reducible apply Exists.intro
  with_reducible refine ⟨?_, ?_⟩
  · go_simp
    rfl
  iterate 2
    with_reducible refine soup_q ?_ ?_ ?_
    · rfl
    · rfl
    with_reducible apply Exists.intro
    with_reducible refine ⟨fun W hk _ => ?_, ?_⟩
    · unfold Oper.same
      go_simp
      first | rfl | exact ⟨rfl, rfl⟩
    with_reducible apply Exists.intro
    with_reducible refine ⟨?_, ?_⟩
    · go_simp
      rfl
  refine soup_nil (fun W1 hk hS => ?_)
  have HS := Lib.hid (HS.out.keep hk)
  clear hk hS
  go_wp2_with (fail)
  refine (rbyte_st HS.out (14 : UInt8) HB.out hz 0 (by omega)).mono ?_
  rintro e w1 ⟨rfl, hs⟩
  have HS : Hid (StR r x mb s (p + ([14] : List UInt8).length) (msC 14 0 0 0 0 0 (.slice none 0 0)) w w1) := Lib.hid hs
  clear hs
  have c0 : w1.cell? ⟨mb, 0, none⟩ = some (.int .u8 14) := HS.out.M.cell 0
  go_wp2_with (fail)
  refine (rtable_st ep nd HS.out _ HD1.out hz rfl h64 HR.out h_ep h_nd).mono ?_
  rintro e w4 ⟨rfl, hs⟩
  have HS := Lib.hid hs
  clear hs
  go_wp2_with (fail)
  go_end0
  exact ⟨rfl, HS.out⟩
end Go.Proofs.YteejdfpfdnkiiaaGreat
