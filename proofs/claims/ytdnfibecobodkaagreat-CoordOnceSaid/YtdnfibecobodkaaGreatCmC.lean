/- Numbers as bytes: the writer's steps. -/
import Derived.Test.YtdnfibecobodkaaGreatCmB
import Derived.Test.YtdnfibecobodkaaGreatSoup
namespace Go.Proofs.YtdnfibecobodkaaGreat
open Go.RowKit Go.Lib
set_option linter.unusedSimpArgs false
set_option linter.unusedVariables false
theorem WrP.of {base g : Nat} {v : Value} {l : List UInt8} {w W w' : World} (hk : Keep [] w W) (h : WrP base g v l W w') : WrP base g v l w w' := by
  obtain ⟨v', h1, h2, h3⟩ := h
  exact ⟨v', h1, (hk.mono (by simp)).trans h2, OwnUp.trans (OwnUp.refl w v) hk.size h3⟩
theorem lt_of_cell {W : World} {a : Addr} {v : Value} (h : W.cell? a = some v) : a.block < W.heap.size := World.block_lt_of_cell? W a h
set_option maxRecDepth 100000 in
set_option maxHeartbeats 2000000 in
theorem wnum_any {base g : Nat} {w : World} {v : Value} {l : List UInt8} (h : WrAt base w g v l) (hl : l.length ≤ 90000) (pb off n : Nat) (hp : w.cell? ⟨pb, off, none⟩ = some (.int .i64 n)) (hn : n ≤ 2147483647) : Calls Tryz.prog 139 #[.pointer (some ⟨g, 0, none⟩), .pointer (some ⟨pb, off, none⟩)] w fun e w' => e = .returned (.tuple #[]) ∧ WrP base g v (l ++ varB n) w w' := by
  have H := Lib.hid h
  have HP := Lib.hid hp
  have HPL := Lib.hid (lt_of_cell hp)
  clear h hp
  go_enter Tryz.func139, Tryz.ntmps139
  go_wp2_with (fail)
  refine wp_region_soup 7 [] (spOf [(6, Spec.is (.int .u64 n))]) (by kernel_rfl) (by kernel_rfl) (spOk_of (by simp [Spec.is_ok])) (pre_of (by simp [Spec.is_ok])) ?_
  simp only [List.take_succ_cons, List.take_zero, List.drop_succ_cons, List.drop_zero]
  with_reducible refine soup_q ?_ ?_ ?_
  · rfl
  · rfl
  with_reducible apply Exists.intro
  with_reducible refine ⟨fun W hk _ => ?_, ?_⟩
  · unfold Oper.same
    go_simp
    first | rfl | exact ⟨rfl, rfl⟩
  with_reducible apply Exists.intro
  with_reducible refine ⟨?_, ?_⟩
  · go_simp
    rfl
  with_reducible refine soup_q ?_ ?_ ?_
  · rfl
  · rfl
  with_reducible apply Exists.intro
  with_reducible refine ⟨fun W hk _ => ?_, ?_⟩
  · unfold Oper.same
    go_simp
    first | rfl | exact ⟨rfl, rfl⟩
  with_reducible apply Exists.intro
  with_reducible refine ⟨?_, ?_⟩
  · go_simp
    rfl
  with_reducible refine soup_q ?_ ?_ ?_
  · rfl
  · rfl
  with_reducible apply Exists.intro
  with_reducible refine ⟨fun W hk _ => ?_, ?_⟩
  · unfold Oper.same
    go_simp
    first | rfl | exact ⟨rfl, rfl⟩
  with_reducible apply Exists.intro
  with_reducible refine ⟨?_, ?_⟩
  · go_simp
    rfl
  with_reducible refine soup_q ?_ ?_ ?_
  · rfl
  · rfl
  with_reducible apply Exists.intro
  with_reducible refine ⟨fun W hk _ => ?_, ?_⟩
  · unfold Oper.same
    go_simp
    first | rfl | exact ⟨rfl, rfl⟩
  with_reducible apply Exists.intro
  with_reducible refine ⟨?_, ?_⟩
  · go_simp
    rfl
  with_reducible refine soup_q ?_ ?_ ?_
  · rfl
  · rfl
  with_reducible apply Exists.intro
  with_reducible refine ⟨fun W hk _ => ?_, ?_⟩
  · unfold Oper.same
    go_simp
    first | rfl | exact ⟨rfl, rfl⟩
  with_reducible apply Exists.intro
  with_reducible refine ⟨?_, ?_⟩
  · go_simp
    rfl
  with_reducible refine soup_q ?_ ?_ ?_
  · rfl
  · rfl
  with_reducible apply Exists.intro
  with_reducible refine ⟨fun W hk _ => ?_, ?_⟩
  · have c0 := (hk.cell _ HPL.out (by simp)).trans HP.out
    unfold Oper.same
    go_simp
    first | rfl | exact ⟨rfl, rfl⟩
  with_reducible apply Exists.intro
  with_reducible refine ⟨?_, ?_⟩
  · go_simp
    rfl
  refine soup_s rfl rfl rfl (fun W hk _ _ => ?_) ?_
  · unfold Oper.does
    go_simp
    refine (held_any n 2147483647 (by omega) (by omega) (by omega) _).mono ?_
    rintro e w' ⟨rfl, rfl⟩
    exact ⟨_, rfl, Keep.refl _ _, hk, rfl, trivial⟩
  intro v hv
  obtain rfl : v = _ := hv
  with_reducible apply Exists.intro
  with_reducible refine ⟨?_, ?_⟩
  · go_simp
    rfl
  refine soup_nil (fun W hk hS => ?_)
  have HK := Lib.hid hk
  clear hk hS
  go_wp2_with (fail)
  refine (onum_any (H.out.keep HK.out (by simp) (by simp)) hl n (by omega)).mono ?_
  rintro e w2 ⟨rfl, hw⟩
  have HW := Lib.hid hw
  clear hw
  go_wp2_with (fail)
  go_end0
  exact ⟨rfl, HW.out.of HK.out⟩
set_option maxRecDepth 100000 in
set_option maxHeartbeats 2000000 in
theorem wbyte_any {base g : Nat} {w : World} {v : Value} {l : List UInt8} (h : WrAt base w g v l) (hl : l.length ≤ 90000) (pb off : Nat) (x : UInt8) (hp : w.cell? ⟨pb, off, none⟩ = some (byV x)) : Calls Tryz.prog 136 #[.pointer (some ⟨g, 0, none⟩), .pointer (some ⟨pb, off, none⟩)] w fun e w' => e = .returned (.tuple #[]) ∧ WrP base g v (l ++ [x]) w w' := by
  have H := Lib.hid h
  have HPL := Lib.hid (lt_of_cell hp)
  have hby := fun (W : World) (h2 : WrAt base W g v l) => obyte_any h2 hl x
  unfold byV at hp hby
  obtain ⟨bx, hbx⟩ : ∃ n : Nat, x.toNat = n := ⟨_, rfl⟩
  rw [hbx] at hp hby
  have HP := Lib.hid hp
  have HBY := Lib.hid hby
  clear h hp hby hbx
  go_enter Tryz.func136, Tryz.ntmps136
  go_wp2_with (fail)
  refine wp_region_soup 6 [] (fun _ => none) (by kernel_rfl) (by kernel_rfl) (spOk_of (l := []) (by simp)) (pre_of (l := []) (by simp)) ?_
  simp only [List.take_succ_cons, List.take_zero, List.drop_succ_cons, List.drop_zero]
  with_reducible refine soup_q ?_ ?_ ?_
  · rfl
  · rfl
  with_reducible apply Exists.intro
  with_reducible refine ⟨fun W hk _ => ?_, ?_⟩
  · unfold Oper.same
    go_simp
    first | rfl | exact ⟨rfl, rfl⟩
  with_reducible apply Exists.intro
  with_reducible refine ⟨?_, ?_⟩
  · go_simp
    rfl
  with_reducible refine soup_q ?_ ?_ ?_
  · rfl
  · rfl
  with_reducible apply Exists.intro
  with_reducible refine ⟨fun W hk _ => ?_, ?_⟩
  · unfold Oper.same
    go_simp
    first | rfl | exact ⟨rfl, rfl⟩
  with_reducible apply Exists.intro
  with_reducible refine ⟨?_, ?_⟩
  · go_simp
    rfl
  with_reducible refine soup_q ?_ ?_ ?_
  · rfl
  · rfl
  with_reducible apply Exists.intro
  with_reducible refine ⟨fun W hk _ => ?_, ?_⟩
  · unfold Oper.same
    go_simp
    first | rfl | exact ⟨rfl, rfl⟩
  with_reducible apply Exists.intro
  with_reducible refine ⟨?_, ?_⟩
  · go_simp
    rfl
  with_reducible refine soup_q ?_ ?_ ?_
  · rfl
  · rfl
  with_reducible apply Exists.intro
  with_reducible refine ⟨fun W hk _ => ?_, ?_⟩
  · unfold Oper.same
    go_simp
    first | rfl | exact ⟨rfl, rfl⟩
  with_reducible apply Exists.intro
  with_reducible refine ⟨?_, ?_⟩
  · go_simp
    rfl
  with_reducible refine soup_q ?_ ?_ ?_
  · rfl
  · rfl
  with_reducible apply Exists.intro
  with_reducible refine ⟨fun W hk _ => ?_, ?_⟩
  · unfold Oper.same
    go_simp
    first | rfl | exact ⟨rfl, rfl⟩
  with_reducible apply Exists.intro
  with_reducible refine ⟨?_, ?_⟩
  · go_simp
    rfl
  with_reducible refine soup_q ?_ ?_ ?_
  · rfl
  · rfl
  with_reducible apply Exists.intro
  with_reducible refine ⟨fun W hk _ => ?_, ?_⟩
  · have c0 := (hk.cell _ HPL.out (by simp)).trans HP.out
    unfold Oper.same
    go_simp
    first | rfl | exact ⟨rfl, rfl⟩
  with_reducible apply Exists.intro
  with_reducible refine ⟨?_, ?_⟩
  · go_simp
    rfl
  refine soup_nil (fun W hk hS => ?_)
  have HK := Lib.hid hk
  clear hk hS
  go_wp2_with (fail)
  refine (HBY.out _ (H.out.keep HK.out (by simp) (by simp))).mono ?_
  rintro e w2 ⟨rfl, hw⟩
  have HW := Lib.hid hw
  clear hw
  go_wp2_with (fail)
  go_end0
  exact ⟨rfl, HW.out.of HK.out⟩
set_option maxRecDepth 100000 in
set_option maxHeartbeats 2000000 in
theorem wcount_any {base g : Nat} {w : World} {v : Value} {l : List UInt8} (h : WrAt base w g v l) (hl : l.length ≤ 90000) (n : Nat) (most : Int) (hn : (n : Int) ≤ most) (hm : most ≤ 100000) : Calls Tryz.prog 137 #[.pointer (some ⟨g, 0, none⟩), .int .i64 n, .int .i64 most] w fun e w' => e = .returned (.int .i64 n) ∧ WrP base g v (l ++ varB n) w w' := by
  have H := Lib.hid h
  clear h
  go_enter Tryz.func137, Tryz.ntmps137
  go_wp2_with (fail)
  refine wp_region_soup 6 [] (spOf [(5, Spec.is (.int .u64 n))]) (by kernel_rfl) (by kernel_rfl) (spOk_of (by simp [Spec.is_ok])) (pre_of (by simp [Spec.is_ok])) ?_
  simp only [List.take_succ_cons, List.take_zero, List.drop_succ_cons, List.drop_zero]
  with_reducible refine soup_q ?_ ?_ ?_
  · rfl
  · rfl
  with_reducible apply Exists.intro
  with_reducible refine ⟨fun W hk _ => ?_, ?_⟩
  · unfold Oper.same
    go_simp
    first | rfl | exact ⟨rfl, rfl⟩
  with_reducible apply Exists.intro
  with_reducible refine ⟨?_, ?_⟩
  · go_simp
    rfl
  with_reducible refine soup_q ?_ ?_ ?_
  · rfl
  · rfl
  with_reducible apply Exists.intro
  with_reducible refine ⟨fun W hk _ => ?_, ?_⟩
  · unfold Oper.same
    go_simp
    first | rfl | exact ⟨rfl, rfl⟩
  with_reducible apply Exists.intro
  with_reducible refine ⟨?_, ?_⟩
  · go_simp
    rfl
  with_reducible refine soup_q ?_ ?_ ?_
  · rfl
  · rfl
  with_reducible apply Exists.intro
  with_reducible refine ⟨fun W hk _ => ?_, ?_⟩
  · unfold Oper.same
    go_simp
    first | rfl | exact ⟨rfl, rfl⟩
  with_reducible apply Exists.intro
  with_reducible refine ⟨?_, ?_⟩
  · go_simp
    rfl
  with_reducible refine soup_q ?_ ?_ ?_
  · rfl
  · rfl
  with_reducible apply Exists.intro
  with_reducible refine ⟨fun W hk _ => ?_, ?_⟩
  · unfold Oper.same
    go_simp
    first | rfl | exact ⟨rfl, rfl⟩
  with_reducible apply Exists.intro
  with_reducible refine ⟨?_, ?_⟩
  · go_simp
    rfl
  with_reducible refine soup_q ?_ ?_ ?_
  · rfl
  · rfl
  with_reducible apply Exists.intro
  with_reducible refine ⟨fun W hk _ => ?_, ?_⟩
  · unfold Oper.same
    go_simp
    first | rfl | exact ⟨rfl, rfl⟩
  with_reducible apply Exists.intro
  with_reducible refine ⟨?_, ?_⟩
  · go_simp
    rfl
  refine soup_s rfl rfl rfl (fun W hk _ _ => ?_) ?_
  · unfold Oper.does
    go_simp
    refine (held_any n most (by omega) (by omega) (by omega) _).mono ?_
    rintro e w' ⟨rfl, rfl⟩
    exact ⟨_, rfl, Keep.refl _ _, hk, rfl, trivial⟩
  intro v hv
  obtain rfl : v = _ := hv
  with_reducible apply Exists.intro
  with_reducible refine ⟨?_, ?_⟩
  · go_simp
    rfl
  refine soup_nil (fun W hk hS => ?_)
  have HK := Lib.hid hk
  clear hk hS
  go_wp2_with (fail)
  refine (onum_any (H.out.keep HK.out (by simp) (by simp)) hl n (by omega)).mono ?_
  rintro e w2 ⟨rfl, hw⟩
  have HW := Lib.hid hw
  clear hw
  go_wp2_with (fail)
  go_ret
  exact ⟨rfl, HW.out.of HK.out⟩
end Go.Proofs.YtdnfibecobodkaaGreat
