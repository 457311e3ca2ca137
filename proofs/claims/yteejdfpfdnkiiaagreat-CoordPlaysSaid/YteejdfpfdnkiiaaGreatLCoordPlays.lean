/- A coordinator that is ordered, hears and ticks, whatever comes, in whatever order, tells what the document says; none does nothing: for every table and every row of acts, on every schedule; conditions: none beyond those that the statement itself asks. -/
import Derived.Test.YteejdfpfdnkiiaaGreatLawKit
import Derived.Test.YteejdfpfdnkiiaaGreatPb
import Derived.Test.YteejdfpfdnkiiaaGreatCqX
namespace Go.Proofs.YteejdfpfdnkiiaaGreat.coordPlays
open Go.ChangeShapes Go.WideShapes Go.ChangeAt Go.RowKit
open Go.ChangeMaps (open_string)
set_option linter.unusedVariables false
set_option linter.unusedSimpArgs false
set_option maxRecDepth 100000 in
theorem lifted (os : Os) (started : os.Started) (H : Type) (enc : TypeId × Value → H) :
    ReturnsInHanded {} Tryz.checked os 3 .any (Rows.coordPlaysSpec.pre6 enc Tryz.prog Tryz.f3 Rows.coordPlaysRow.domain false) (Rows.coordPlaysSpec.post enc Tryz.prog Tryz.f3 false true false false) := by
  refine returnsInHanded_of_change (C := Tryz.checked) own started (by kernel_rfl) Tryz.func3
    (ChangeSpec.witness6 (enc := enc) (C := Tryz.checked) false ⟨#[], #[.agg #[.int .i64 0, .int .i64 0, .slice none 0 0], .slice none 0 0], []⟩ 8 (by kernel_rfl) (by kernel_rfl) (by kernel_rfl) (by kernel_rfl)) ?_
  intro W base args ds gs before hval0 hW hcnd hsz
  have hval : ∀ (j : Nat) t v, Tryz.f3.params[j]? = some t → args[j]? = some v → Value.okWide Tryz.prog W .any base t v := hval0
  have hW' := hW
  have hlt : ∀ x ∈ before, x.block < W.heap.size := fun x hx => hW'.lt x hx
  obtain ⟨p, q, hA0, hV, rfl, hfz, hnd⟩ := hW
  have hA : DataW.TrodAll enc Tryz.prog W 0 (fun _ => true) true Tryz.f3.params.toList args.toList ds p := hA0
  rw [Tryz.params3] at hA hval
  obtain ⟨v0, vs0, d0, ds0, p0, q0, hargs, rfl, rfl, h0, r0⟩ := trodAll_cons hA
  obtain ⟨v1, vs1, d1, ds1, p1, q1, rfl, rfl, rfl, h1, r1⟩ := trodAll_cons r0
  obtain ⟨rfl, rfl, rfl⟩ := trodAll_nil r1
  obtain rfl : args = #[v0, v1] := by cases args; simp_all
  obtain ⟨rfl, rfl⟩ := trodVars_none hV
  obtain ⟨cs0, rfl, _⟩ := okWide_struct Tryz.underlying24 (hval 0 24 _ rfl rfl)
  obtain ⟨fuel0, g0⟩ := h0
  obtain ⟨t0, e0, i0⟩ := read_tb g0
  obtain rfl : cs0 = #[.int .i64 t0.ep, .int .i64 t0.nodes, .slice t0.oa t0.owner.length t0.oc] := by have e := e0; simp only [Value.cells] at e; exact Array.toList_inj.1 e
  obtain ⟨b1, n1, e1, rfl⟩ := okWide_slice Tryz.underlying25 (hval 1 25 _ rfl rfl)
  obtain ⟨fuel1, g1⟩ := h1
  obtain ⟨a1, l1, c1, y1, w1, x1, z1⟩ := read_cacts g1
  cases y1
  clear hA0 hval0
  refine (law_CoordPlays t0 b1 l1 e1 W i0 x1 z1).mono fun e W' ⟨he, hg⟩ => ?_
  subst he
  exact ⟨_, rfl, law_post laid (of_decide_eq_true (by kernel_rfl)) rfl rfl Tryz.underlying4 rfl (by simpa using hW') hg⟩
theorem over : Rows.coordPlaysRow.holds Tryz.pinned (OpenSpec.ofChange Rows.coordPlaysSpec) :=
  OpenClaim.holds_of_wide 3 Tryz.f3 rfl rfl rfl rfl rfl rfl rfl ⟨rfl, rfl, rfl, rfl, rfl⟩ rfl rfl rfl rfl rfl (by kernel_rfl) Tryz.func3 (by kernel_rfl)
    (of_decide_eq_true (by kernel_rfl)) (by unfold Func.isWrapper; first | (rw [if_pos (by decide +kernel)]; kernel_rfl) | (rw [if_neg (by decide +kernel)]; exact ⟨rfl, rfl⟩))
    (fun os started H enc _ => lifted os started H enc)
end Go.Proofs.YteejdfpfdnkiiaaGreat.coordPlays
namespace Go.Proofs.YteejdfpfdnkiiaaGreat
theorem proved_CoordPlays : Rows.CoordPlaysSaid := coordPlays.over
#print axioms proved_CoordPlays
end Go.Proofs.YteejdfpfdnkiiaaGreat
