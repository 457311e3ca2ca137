/- Messages that are the same, as the document says (toward CoordPlays). -/
import Derived.Test.YteejdfpfdnkiiaaGreatCsC
import Derived.Test.YteejdfpfdnkiiaaGreatSoup
namespace Go.Proofs.YteejdfpfdnkiiaaGreat
open Go.RowKit Go.Lib
set_option linter.unusedSimpArgs false
set_option linter.unusedVariables false
set_option maxRecDepth 100000 in
set_option maxHeartbeats 4000000 in
theorem rsame_ms {w : World} (k mv pt to ep nd : Nat) {a b : Option Addr} {own : List Int} (c d : Nat) (ha : IntsAt w a own) (hb : IntsAt w b own) (hl : own.length ≤ 64) : Calls Tryz.prog 86 #[.agg (msC k mv pt to ep nd (.slice a own.length c)), .agg (msC k mv pt to ep nd (.slice b own.length d))] w fun e w' => e = .returned (.bool true) ∧ Keep [] w w' := by
  obtain ⟨w1, hw1⟩ : ∃ u, w.alloc (.cells (msC k mv pt to ep nd (.slice a own.length c)) 47) = u := ⟨_, rfl⟩
  obtain ⟨w2, hw2⟩ : ∃ u, w1.alloc (.cells (msC k mv pt to ep nd (.slice b own.length d)) 47) = u := ⟨_, rfl⟩
  have s1 : w1.heap.size = w.heap.size + 1 := by rw [← hw1, World.size_alloc]
  have k1 : Keep [] w w1 := by rw [← hw1]; exact (Keep.refl _ _).alloc _
  have k2 : Keep [] w1 w2 := by rw [← hw2]; exact (Keep.refl _ _).alloc _
  have m1 : MsAt w1 w.heap.size (msC k mv pt to ep nd (.slice a own.length c)) := by rw [← hw1]; exact World.alloc_heap_new w _
  have m2 : MsAt w2 (w.heap.size + 1) (msC k mv pt to ep nd (.slice b own.length d)) := by rw [← hw2, ← s1]; exact World.alloc_heap_new w1 _
  have m1' := m1.keep k2 (by simp)
  have hit : ∀ W, (binOp .eql 45 (.agg #[.int .i64 0, .int .i64 0, .int .i64 0, .int .u8 0, .string ⟨#[]⟩, .int .i64 0, .int .i64 0, .int .i64 0]) (.agg #[.int .i64 0, .int .i64 0, .int .i64 0, .int .u8 0, .string ⟨#[]⟩, .int .i64 0, .int .i64 0, .int .i64 0])).run Tryz.prog W = .ok (.bool true) W := fun W => by kernel_rfl
  obtain ⟨c0, c1, c2, c3, c4, c5, c6, c7, c8, c9, c10, c11, c12, c13, c14, c15, c16, c17, c18, c19, c20, c21⟩ := msC_facts m1'
  obtain ⟨d0, d1, d2, d3, d4, d5, d6, d7, d8, d9, d10, d11, d12, d13, d14, d15, d16, d17, d18, d19, d20, d21⟩ := msC_facts m2
  have HK := Lib.hid (k1.trans k2)
  have HA := Lib.hid (ha.keep HK.out (by simp))
  have HB := Lib.hid (hb.keep HK.out (by simp))
  have M1 := Lib.hid m1'
  have M2 := Lib.hid m2
  obtain ⟨n, hn⟩ : ∃ n, own.length = n := ⟨_, rfl⟩
  have HN := Lib.hid hn
  rw [hn] at hw1 hw2 hl M1 M2 c19 d19 ⊢
  unfold msC at hw1 hw2 ⊢
  clear m1 m1' m2 k1 k2 ha hb hn
  go_enter Tryz.func86, Tryz.ntmps86
  go_wp2_with (fail)
  go_loopw [5] (fun i wr => i = .int .i64 0 ∧ wr = w2) (fun _ _ => 0)
  case atStart => exact ⟨rfl, rfl⟩
  case round =>
    obtain ⟨rfl, hwr⟩ := hrel
    subst hwr
    go_wp2_with (fail)
    go_loopw [6] (fun i wr2 => ∃ j : Nat, i = .int .i64 j ∧ j ≤ n ∧ Keep [] wr wr2) (fun i _ => n - (intOf i).toNat)
    case atStart => exact ⟨0, rfl, Nat.zero_le _, Keep.refl _ _⟩
    case round =>
      obtain ⟨j, rfl, hj, hk2⟩ := hrel
      have HK := Lib.hid (HK.out.trans hk2)
      have HA := Lib.hid (HA.out.keep hk2 (by simp))
      have HB := Lib.hid (HB.out.keep hk2 (by simp))
      have M1 := Lib.hid (M1.out.keep hk2 (by simp))
      have M2 := Lib.hid (M2.out.keep hk2 (by simp))
      have HK2 := Lib.hid hk2
      clear hk2 c0 c1 c2 c3 c4 c5 c6 c7 c8 c9 c10 c11 c12 c13 c14 c15 c16 c17 c18 c19 c20 c21 d0 d1 d2 d3 d4 d5 d6 d7 d8 d9 d10 d11 d12 d13 d14 d15 d16 d17 d18 d19 d20 d21
      obtain ⟨c0, c1, c2, c3, c4, c5, c6, c7, c8, c9, c10, c11, c12, c13, c14, c15, c16, c17, c18, c19, c20, c21⟩ := msC_facts M1.out
      obtain ⟨d0, d1, d2, d3, d4, d5, d6, d7, d8, d9, d10, d11, d12, d13, d14, d15, d16, d17, d18, d19, d20, d21⟩ := msC_facts M2.out
      have h0j : (0 : Int) ≤ (j : Int) := Int.natCast_nonneg j
      by_cases hlt : j < n
      · have hjn : (j : Int) < (n : Int) := by omega
        have hlj : j < own.length := by rw [HN.out]; exact hlt
        obtain ⟨ba, oa, rfl, hba, hca⟩ := HA.out (by intro e; rw [e] at hlj; simp at hlj)
        obtain ⟨bb, ob, rfl, hbb, hcb⟩ := HB.out (by intro e; rw [e] at hlj; simp at hlj)
        obtain ⟨x, hx⟩ : ∃ x, own[j]?.getD 0 = x := ⟨_, rfl⟩
        have x0 := hca j hlj
        have y0 := hcb j hlj
        rw [hx] at x0 y0
        have HX := Lib.hid x0
        have HY := Lib.hid y0
        have HBA := Lib.hid hba
        have HBB := Lib.hid hbb
        have L1 := Lib.hid (lt_of_heap M1.out)
        have L2 := Lib.hid (lt_of_heap M2.out)
        have C19 := Lib.hid c19
        have D19 := Lib.hid d19
        clear hca hcb hx x0 y0
        go_wp2_with (fail)
        refine wp_region_soup 12 [] (fun _ => none) (by kernel_rfl) (by kernel_rfl) (spOk_of (l := []) (by simp)) (pre_of (l := []) (by simp)) ?_
        simp only [List.take_succ_cons, List.take_zero, List.drop_succ_cons, List.drop_zero]
        iterate 2
          with_reducible refine soup_q ?_ ?_ ?_
          · rfl
          · rfl
          with_reducible apply Exists.intro
          with_reducible refine ⟨fun W hk _ => ?_, ?_⟩
          · unfold Oper.same
            go_simp
            first | rfl | exact ⟨rfl, rfl⟩
          with_reducible apply Exists.intro
          with_reducible refine ⟨?_, ?_⟩
          · go_simp
            rfl
        with_reducible refine soup_q ?_ ?_ ?_
        · rfl
        · rfl
        with_reducible apply Exists.intro
        with_reducible refine ⟨fun W hk _ => ?_, ?_⟩
        · have q := (hk.cell _ L1.out (by simp)).trans C19.out
          unfold Oper.same
          go_simp
          first | rfl | exact ⟨rfl, rfl⟩
        with_reducible apply Exists.intro
        with_reducible refine ⟨?_, ?_⟩
        · go_simp
          rfl
        iterate 2
          with_reducible refine soup_q ?_ ?_ ?_
          · rfl
          · rfl
          with_reducible apply Exists.intro
          with_reducible refine ⟨fun W hk _ => ?_, ?_⟩
          · unfold Oper.same
            go_simp
            first | rfl | exact ⟨rfl, rfl⟩
          with_reducible apply Exists.intro
          with_reducible refine ⟨?_, ?_⟩
          · go_simp
            rfl
        with_reducible refine soup_q ?_ ?_ ?_
        · rfl
        · rfl
        with_reducible apply Exists.intro
        with_reducible refine ⟨fun W hk _ => ?_, ?_⟩
        · have q := (hk.cell _ HBA.out (by simp)).trans HX.out
          unfold Oper.same
          go_simp
          first | rfl | exact ⟨rfl, rfl⟩
        with_reducible apply Exists.intro
        with_reducible refine ⟨?_, ?_⟩
        · go_simp
          rfl
        iterate 2
          with_reducible refine soup_q ?_ ?_ ?_
          · rfl
          · rfl
          with_reducible apply Exists.intro
          with_reducible refine ⟨fun W hk _ => ?_, ?_⟩
          · unfold Oper.same
            go_simp
            first | rfl | exact ⟨rfl, rfl⟩
          with_reducible apply Exists.intro
          with_reducible refine ⟨?_, ?_⟩
          · go_simp
            rfl
        with_reducible refine soup_q ?_ ?_ ?_
        · rfl
        · rfl
        with_reducible apply Exists.intro
        with_reducible refine ⟨fun W hk _ => ?_, ?_⟩
        · have q := (hk.cell _ L2.out (by simp)).trans D19.out
          unfold Oper.same
          go_simp
          first | rfl | exact ⟨rfl, rfl⟩
        with_reducible apply Exists.intro
        with_reducible refine ⟨?_, ?_⟩
        · go_simp
          rfl
        iterate 2
          with_reducible refine soup_q ?_ ?_ ?_
          · rfl
          · rfl
          with_reducible apply Exists.intro
          with_reducible refine ⟨fun W hk _ => ?_, ?_⟩
          · unfold Oper.same
            go_simp
            first | rfl | exact ⟨rfl, rfl⟩
          with_reducible apply Exists.intro
          with_reducible refine ⟨?_, ?_⟩
          · go_simp
            rfl
        with_reducible refine soup_q ?_ ?_ ?_
        · rfl
        · rfl
        with_reducible apply Exists.intro
        with_reducible refine ⟨fun W hk _ => ?_, ?_⟩
        · have q := (hk.cell _ HBB.out (by simp)).trans HY.out
          unfold Oper.same
          go_simp
          first | rfl | exact ⟨rfl, rfl⟩
        with_reducible apply Exists.intro
        with_reducible refine ⟨?_, ?_⟩
        · go_simp
          rfl
        refine soup_nil (fun W hk hS => ?_)
        have HKW := Lib.hid hk
        clear hk hS
        go_wp2_with (fail)
        go_roundw
        case rel => exact ⟨j + 1, by go_num, by omega, HK2.out.trans HKW.out⟩
        case measure => go_light; simp [intOf]; omega
      · obtain rfl : j = n := by omega
        have hjn : ¬ (j : Int) < (j : Int) := by omega
        go_wp2_with (fail)
        go_ret
        exact ⟨rfl, HK.out⟩
end Go.Proofs.YteejdfpfdnkiiaaGreat
