/- CoordOnce returns true for any two small numbers and any acts in memory; it has no conditions beyond the reading of its arguments. -/
import Derived.Test.YtdnfibecobodkaaGreatLawKit
import Derived.Test.YtdnfibecobodkaaGreatCeA
import Derived.Test.YtdnfibecobodkaaGreatCgC
namespace Go.Proofs.YtdnfibecobodkaaGreat.coordOnce
open Go.ChangeShapes Go.WideShapes Go.ChangeAt Go.RowKit
open Go.ChangeMaps (open_string)
set_option linter.unusedVariables false
set_option linter.unusedSimpArgs false
set_option maxRecDepth 100000 in
theorem lifted (os : Os) (started : os.Started) (H : Type) (enc : TypeId × Value → H) :
    ReturnsInHanded {} Tryz.checked os 7 .any (Rows.coordOnceSpec.pre6 enc Tryz.prog Tryz.f7 Rows.coordOnceRow.domain false) (Rows.coordOnceSpec.post enc Tryz.prog Tryz.f7 false true false false) := by
  refine returnsInHanded_of_change (C := Tryz.checked) own started (by kernel_rfl) Tryz.func7
    (ChangeSpec.witness6 (enc := enc) (C := Tryz.checked) false ⟨#[], #[.int .u8 0, .int .u8 0, .slice none 0 0], []⟩ 8 (by kernel_rfl) (by kernel_rfl) (by kernel_rfl) (by kernel_rfl)) ?_
  intro W base args ds gs before hval0 hW hcnd hsz
  have hval : ∀ (j : Nat) t v, Tryz.f7.params[j]? = some t → args[j]? = some v → Value.okWide Tryz.prog W .any base t v := hval0
  have hW' := hW
  have hlt : ∀ x ∈ before, x.block < W.heap.size := fun x hx => hW'.lt x hx
  obtain ⟨p, q, hA0, hV, rfl, hfz, hnd⟩ := hW
  have hA : DataW.TrodAll enc Tryz.prog W 0 (fun _ => true) true Tryz.f7.params.toList args.toList ds p := hA0
  rw [Tryz.params7] at hA hval
  obtain ⟨v0, vs0, d0, ds0, p0, q0, hargs, rfl, rfl, h0, r0⟩ := trodAll_cons hA
  obtain ⟨v1, vs1, d1, ds1, p1, q1, rfl, rfl, rfl, h1, r1⟩ := trodAll_cons r0
  obtain ⟨v2, vs2, d2, ds2, p2, q2, rfl, rfl, rfl, h2, r2⟩ := trodAll_cons r1
  obtain ⟨rfl, rfl, rfl⟩ := trodAll_nil r2
  obtain rfl : args = #[v0, v1, v2] := by cases args; simp_all
  obtain ⟨rfl, rfl⟩ := trodVars_none hV
  obtain ⟨a0, rfl, rfl, rfl, w0⟩ := open_int Tryz.underlying5 (hval 0 5 v0 rfl rfl) h0
  obtain ⟨a1, rfl, rfl, rfl, w1⟩ := open_int Tryz.underlying5 (hval 1 5 v1 rfl rfl) h1
  obtain ⟨b2, n2, e2, rfl⟩ := okWide_slice Tryz.underlying51 (hval 2 51 _ rfl rfl)
  obtain ⟨fuel2, g2⟩ := h2
  obtain ⟨a2, l2, c2, y2, w2, x2, z2⟩ := read_cacts g2
  cases y2
  clear hA0 hval0
  refine (law_CoordOnce a0 w0 a1 w1 b2 l2 e2 W x2 z2).mono fun e W' ⟨he, hg⟩ => ?_
  subst he
  exact ⟨_, rfl, law_post laid (of_decide_eq_true (by kernel_rfl)) rfl rfl Tryz.underlying4 rfl (by simpa using hW') hg⟩
theorem over : Rows.coordOnceRow.holds Tryz.pinned (OpenSpec.ofChange Rows.coordOnceSpec) :=
  OpenClaim.holds_of_wide 7 Tryz.f7 rfl rfl rfl rfl rfl rfl rfl ⟨rfl, rfl, rfl, rfl, rfl⟩ rfl rfl rfl rfl rfl (by kernel_rfl) Tryz.func7 (by kernel_rfl)
    (of_decide_eq_true (by kernel_rfl)) (by unfold Func.isWrapper; first | (rw [if_pos (by decide +kernel)]; kernel_rfl) | (rw [if_neg (by decide +kernel)]; exact ⟨rfl, rfl⟩))
    (fun os started H enc _ => lifted os started H enc)
end Go.Proofs.YtdnfibecobodkaaGreat.coordOnce
namespace Go.Proofs.YtdnfibecobodkaaGreat
theorem proved_CoordOnce : Rows.CoordOnceSaid := coordOnce.over
#print axioms proved_CoordOnce
end Go.Proofs.YtdnfibecobodkaaGreat
