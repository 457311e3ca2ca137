/- A mark that rises in steps tells what one that rises at once does, in the same row, and leaves the same. -/
import Derived.Test.YtmhbibcfbencnaaLawKit
import Derived.Test.YtmhbibcfbencnaaLTs
namespace Go.Proofs.Ytmhbibcfbencnaa.tellSteps
open Go.ChangeShapes Go.WideShapes Go.ChangeAt Go.RowKit
open Go.ChangeMaps (open_string)
set_option linter.unusedVariables false
set_option linter.unusedSimpArgs false
set_option maxRecDepth 100000 in
theorem lifted (os : Os) (started : os.Started) (H : Type) (enc : TypeId × Value → H) :
    ReturnsInHanded {} Try.checked os 6 .any (Rows.tellStepsSpec.pre6 enc Try.prog Try.f6 Rows.tellStepsRow.domain false) (Rows.tellStepsSpec.post enc Try.prog Try.f6 false true false false) := by
  refine returnsInHanded_of_change (C := Try.checked) own started (by kernel_rfl) Try.func6
    (ChangeSpec.witness6 (enc := enc) (C := Try.checked) false ⟨#[], #[.slice none 0 0, .slice none 0 0], []⟩ 8 (by kernel_rfl) (by kernel_rfl) (by kernel_rfl) (by kernel_rfl)) ?_
  intro W base args ds gs before hval0 hW hcnd hsz
  have hval : ∀ (j : Nat) t v, Try.f6.params[j]? = some t → args[j]? = some v → Value.okWide Try.prog W .any base t v := hval0
  have hW' := hW
  have hlt : ∀ x ∈ before, x.block < W.heap.size := fun x hx => hW'.lt x hx
  obtain ⟨p, q, hA0, hV, rfl, hfz, hnd⟩ := hW
  have hA : DataW.TrodAll enc Try.prog W 0 (fun _ => true) true Try.f6.params.toList args.toList ds p := hA0
  rw [Try.params6] at hA hval
  obtain ⟨v0, vs0, d0, ds0, p0, q0, hargs, rfl, rfl, h0, r0⟩ := trodAll_cons hA
  obtain ⟨v1, vs1, d1, ds1, p1, q1, rfl, rfl, rfl, h1, r1⟩ := trodAll_cons r0
  obtain ⟨rfl, rfl, rfl⟩ := trodAll_nil r1
  obtain rfl : args = #[v0, v1] := by cases args; simp_all
  obtain ⟨rfl, rfl⟩ := trodVars_none hV
  obtain ⟨b0, n0, e0, rfl⟩ := okWide_slice Try.underlying46 (hval 0 46 _ rfl rfl)
  obtain ⟨fuel0, g0⟩ := h0
  obtain ⟨a0, l0, c0, y0, w0, x0, z0⟩ := read_a4s g0
  cases y0
  obtain ⟨b1, n1, e1, rfl⟩ := okWide_slice Try.underlying28 (hval 1 28 _ rfl rfl)
  obtain ⟨fuel1, g1⟩ := h1
  obtain ⟨a1, l1, c1, y1, w1, x1, z1⟩ := read_ints g1
  cases y1
  clear hA0 hval0
  refine (law_TellSteps b0 l0 e0 w0 z0 b1 l1 e1 w1 z1 W x0 x1).mono fun e W' ⟨he, hg⟩ => ?_
  subst he
  exact ⟨_, rfl, law_post laid (of_decide_eq_true (by kernel_rfl)) rfl rfl Try.underlying4 rfl (by simpa using hW') hg⟩
theorem over : Rows.tellStepsRow.holds Try.pinned (OpenSpec.ofChange Rows.tellStepsSpec) :=
  OpenClaim.holds_of_wide 6 Try.f6 rfl rfl rfl rfl rfl rfl rfl ⟨rfl, rfl, rfl, rfl, rfl⟩ rfl rfl rfl rfl rfl (by kernel_rfl) Try.func6 (by kernel_rfl)
    (of_decide_eq_true (by kernel_rfl)) (by unfold Func.isWrapper; first | (rw [if_pos (by decide +kernel)]; kernel_rfl) | (rw [if_neg (by decide +kernel)]; exact ⟨rfl, rfl⟩))
    (fun os started H enc _ => lifted os started H enc)
end Go.Proofs.Ytmhbibcfbencnaa.tellSteps
namespace Go.Proofs.Ytmhbibcfbencnaa
theorem proved_TellSteps : Rows.TellStepsSaid := tellSteps.over
#print axioms proved_TellSteps
end Go.Proofs.Ytmhbibcfbencnaa
