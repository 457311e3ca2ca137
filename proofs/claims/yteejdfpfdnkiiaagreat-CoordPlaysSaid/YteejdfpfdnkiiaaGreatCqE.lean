/- The document's table: Right. -/
import Derived.Test.YteejdfpfdnkiiaaGreatCmD
import Derived.Deep.Quiet
import Derived.IntWalk
namespace Go.Proofs.YteejdfpfdnkiiaaGreat
open Go.RowKit Go.Lib
open Go.ChangeMaps (setBlock)
set_option linter.unusedSimpArgs false
set_option linter.unusedVariables false
theorem ite_no' {c : Prop} [Decidable c] {A B : Prop} (h : ¬ c) (hb : B) : if c then A else B := by rw [if_neg h]; exact hb
theorem any_take {own : List Int} {nodes : Int} {j : Nat} {x : Int} (hx : own[j]? = some x) : (own.take (j + 1)).any (outN nodes) = ((own.take j).any (outN nodes) || outN nodes x) := by
  rw [List.take_add_one, hx, List.any_append]; simp
theorem any_full {own : List Int} {nodes : Int} {j : Nat} (h : (own.take j).any (outN nodes) = true) : own.any (outN nodes) = true := by
  obtain ⟨x, h1, h2⟩ := List.any_eq_true.1 h
  exact List.any_eq_true.2 ⟨x, List.mem_of_mem_take h1, h2⟩
set_option maxHeartbeats 4000000 in
theorem refRight_any (t : Tb) (w : World) (hI : IntsAt w t.oa t.owner) :
    Calls Tryz.prog 7 #[t.val] w fun e w' => e = .returned (.bool t.right) ∧ Below w.heap.size w w' := by
  obtain ⟨ep, nodes, oa, oc, own⟩ := t
  simp only [Tb.val, Tb.right]
  simp only at hI
  have x0 : (w.alloc (.cells #[.int .i64 ep, .int .i64 nodes, .slice oa own.length oc] 24)).cell? ⟨w.heap.size, 0, none⟩ = some (.int .i64 ep) := by go_simp
  have x1 : (w.alloc (.cells #[.int .i64 ep, .int .i64 nodes, .slice oa own.length oc] 24)).cell? ⟨w.heap.size, 1, none⟩ = some (.int .i64 nodes) := by go_simp
  have x2 : (w.alloc (.cells #[.int .i64 ep, .int .i64 nodes, .slice oa own.length oc] 24)).cell? ⟨w.heap.size, 2, none⟩ = some (.slice oa own.length oc) := by go_simp
  obtain ⟨w1, hw1⟩ : ∃ w1, w.alloc (.cells #[.int .i64 ep, .int .i64 nodes, .slice oa own.length oc] 24) = w1 := ⟨_, rfl⟩
  rw [hw1] at x0 x1 x2
  have hB : Below w.heap.size w w1 := hw1 ▸ (Below.refl _ w).alloc (Nat.le_refl _) _
  have hb1 : w.heap.size < w1.heap.size := by rw [← hw1]; simp
  have HI := Lib.hid (hI.below hB)
  have HB := Lib.hid hB
  clear hI hB
  obtain ⟨n, hn⟩ : ∃ n, own.length = n := ⟨_, rfl⟩
  rw [hn] at x2 hw1 ⊢
  have HN := Lib.hid hn
  clear hn
  go_enter Tryz.func7, Tryz.ntmps7
  by_cases c1 : ep < 1
  · go_wp2_with (fail)
    go_ret
    exact ⟨by simp [show ¬ 1 ≤ ep by omega], HB.out⟩
  by_cases c2 : nodes < 1
  · go_wp2_with (fail)
    go_ret
    exact ⟨by simp [show ¬ 1 ≤ nodes by omega], HB.out⟩
  by_cases c3 : 4 < nodes
  · go_wp2_with (fail)
    go_ret
    exact ⟨by simp [show ¬ nodes ≤ 4 by omega], HB.out⟩
  by_cases c4 : n < 1
  · have c4' : (n : Int) < 1 := by omega
    have c4'' : n = 0 := by omega
    subst c4''
    go_wp2_with (fail)
    go_ret
    exact ⟨by simp, HB.out⟩
  have c4' : ¬ (n : Int) < 1 := by omega
  by_cases c5 : 8 < n
  · have c5' : (8 : Int) < (n : Int) := by omega
    have d4 : decide ((n : Int) < 1) = false := by simp; omega
    have d5 : decide ((8 : Int) < (n : Int)) = true := by simp; omega
    go_wp2_with (fail)
    go_ret
    exact ⟨by simp [show ¬ n ≤ 8 by omega], HB.out⟩
  have c5' : ¬ (8 : Int) < (n : Int) := by omega
  have d4 : decide ((n : Int) < 1) = false := by simp; omega
  have d5 : decide ((8 : Int) < (n : Int)) = false := by simp; omega
  have hgoal : (decide (1 ≤ ep) && decide (1 ≤ nodes) && decide (nodes ≤ 4) && decide (1 ≤ n) && decide (n ≤ 8) && !own.any (outN nodes)) = !own.any (outN nodes) := by
    simp [show 1 ≤ ep by omega, show 1 ≤ nodes by omega, show nodes ≤ 4 by omega, show 1 ≤ n by omega, show n ≤ 8 by omega]
  rw [hgoal]
  clear hgoal
  go_wp2_with (fail)
  clear hw1
  go_loopw [3] (fun i wr => ∃ j : Nat, i = .int .i64 j ∧ j ≤ n ∧ (own.take j).any (outN nodes) = false ∧ Below w1.heap.size w1 wr) (fun i _ => n - (intOf i).toNat)
  case atStart => exact ⟨0, rfl, Nat.zero_le _, rfl, Below.refl _ _⟩
  case round =>
    obtain ⟨j, rfl, hj, hnone, hBr⟩ := hrel
    have hl := HN.out
    obtain ⟨b1, off1, ea, gb, hcl⟩ := HI.out (by intro hh; rw [hh] at hl; simp at hl; omega)
    replace x1 := (hBr.cell (p := ⟨w.heap.size, 1, none⟩) hb1).trans x1
    replace x2 := (hBr.cell (p := ⟨w.heap.size, 2, none⟩) hb1).trans x2
    have hbr := hBr.size
    have HBR := Lib.hid hBr
    have HNO := Lib.hid hnone
    clear x0 hBr hnone
    subst ea
    by_cases hjl : j < n
    · obtain ⟨x, hx⟩ : ∃ x, own[j]? = some x := ⟨own[j]'(by omega), List.getElem?_eq_getElem (by omega)⟩
      have x3 := (HBR.out.cell (p := ⟨b1, off1 + j, none⟩) gb).trans (hcl j (by omega))
      rw [hx] at x3
      simp only [Option.getD_some] at x3
      have hat := any_take (nodes := nodes) hx
      have HX := Lib.hid hx
      have HAT := Lib.hid hat
      have hji : (j : Int) < (n : Int) := by omega
      clear hx hat hcl hl
      have hgb : b1 < wr.heap.size := by omega
      have hgw : w.heap.size < wr.heap.size := by omega
      go_wp2_with (fail)
      by_cases e1 : x < 0
      · refine wp_region_quiet (C := fun W => Below wr.heap.size wr W) rfl (by kernel_rfl) ((Below.refl _ wr).drew) ?_
        generalize hfr : Act.mk _ _ = fr
        iterate 16
          refine wpQuiet_step (fun K hK => ?_)
          subst hfr
          go_simp
          first
            | (generalize hfr : Act.mk _ _ = fr; with_reducible refine hK fr ?_; clear hK K)
            | (refine ite_no' (by decide) ?_; generalize hfr : Act.mk _ _ = fr; with_reducible refine hK fr ?_; clear hK K)
            | (apply Exists.intro; refine ⟨fun w' hw' => ?_, ?_⟩
               · first
                 | exact rfl
                 | (have z1 := (hw'.cell (p := ⟨w.heap.size, 1, none⟩) hgw).trans x1; have z2 := (hw'.cell (p := ⟨w.heap.size, 2, none⟩) hgw).trans x2; have z3 := (hw'.cell (p := ⟨b1, off1 + j, none⟩) hgb).trans x3; go_simp; first | done | exact rfl)
               generalize hfr : Act.mk _ _ = fr
               with_reducible refine hK fr ?_
               clear hK K)
        refine wpQuiet_nil ?_
        subst hfr
        intro W' hW'
        have hBW : Below w1.heap.size w1 W' := HBR.out.trans (hW'.mono HBR.out.size)
        clear x1 x2 x3
        go_wp2
        go_ret
        refine ⟨?_, HB.out.trans (hBW.mono HB.out.size)⟩
        rw [any_full (nodes := nodes) (j := j + 1) (by rw [HAT.out, HNO.out]; simp [outN]; omega)]; rfl
      by_cases e2 : nodes ≤ x
      · refine wp_region_quiet (C := fun W => Below wr.heap.size wr W) rfl (by kernel_rfl) ((Below.refl _ wr).drew) ?_
        generalize hfr : Act.mk _ _ = fr
        iterate 16
          refine wpQuiet_step (fun K hK => ?_)
          subst hfr
          go_simp
          first
            | (generalize hfr : Act.mk _ _ = fr; with_reducible refine hK fr ?_; clear hK K)
            | (refine ite_no' (by decide) ?_; generalize hfr : Act.mk _ _ = fr; with_reducible refine hK fr ?_; clear hK K)
            | (apply Exists.intro; refine ⟨fun w' hw' => ?_, ?_⟩
               · first
                 | exact rfl
                 | (have z1 := (hw'.cell (p := ⟨w.heap.size, 1, none⟩) hgw).trans x1; have z2 := (hw'.cell (p := ⟨w.heap.size, 2, none⟩) hgw).trans x2; have z3 := (hw'.cell (p := ⟨b1, off1 + j, none⟩) hgb).trans x3; go_simp; first | done | exact rfl)
               generalize hfr : Act.mk _ _ = fr
               with_reducible refine hK fr ?_
               clear hK K)
        refine wpQuiet_nil ?_
        subst hfr
        intro W' hW'
        have hBW : Below w1.heap.size w1 W' := HBR.out.trans (hW'.mono HBR.out.size)
        clear x1 x2 x3
        go_wp2
        go_ret
        refine ⟨?_, HB.out.trans (hBW.mono HB.out.size)⟩
        rw [any_full (nodes := nodes) (j := j + 1) (by rw [HAT.out, HNO.out]; simp [outN]; omega)]; rfl
      refine wp_region_quiet (C := fun W => Below wr.heap.size wr W) rfl (by kernel_rfl) ((Below.refl _ wr).drew) ?_
      generalize hfr : Act.mk _ _ = fr
      iterate 16
        refine wpQuiet_step (fun K hK => ?_)
        subst hfr
        go_simp
        first
          | (generalize hfr : Act.mk _ _ = fr; with_reducible refine hK fr ?_; clear hK K)
          | (refine ite_no' (by decide) ?_; generalize hfr : Act.mk _ _ = fr; with_reducible refine hK fr ?_; clear hK K)
          | (apply Exists.intro; refine ⟨fun w' hw' => ?_, ?_⟩
             · first
               | exact rfl
               | (have z1 := (hw'.cell (p := ⟨w.heap.size, 1, none⟩) hgw).trans x1; have z2 := (hw'.cell (p := ⟨w.heap.size, 2, none⟩) hgw).trans x2; have z3 := (hw'.cell (p := ⟨b1, off1 + j, none⟩) hgb).trans x3; go_simp; first | done | exact rfl)
             generalize hfr : Act.mk _ _ = fr
             with_reducible refine hK fr ?_
             clear hK K)
      refine wpQuiet_nil ?_
      subst hfr
      intro W' hW'
      have hBW : Below w1.heap.size w1 W' := HBR.out.trans (hW'.mono HBR.out.size)
      clear x1 x2 x3
      go_wp2
      go_roundw
      case rel => exact ⟨j + 1, by go_num, by omega, by rw [HAT.out, HNO.out]; simp [outN]; omega, hBW⟩
      case measure => go_light; simp [intOf]; omega
    · obtain rfl : j = n := by omega
      have hful := HNO.out
      rw [← hl, List.take_length] at hful
      have HF := Lib.hid hful
      clear hful hcl hl
      go_wp2_with (fail)
      go_ret
      exact ⟨by rw [HF.out]; rfl, HB.out.trans (HBR.out.mono HB.out.size)⟩
end Go.Proofs.YteejdfpfdnkiiaaGreat
