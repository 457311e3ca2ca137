/- Of a line as it is, or that may not be, whatever is put, and however the mark rises: each code, what is told, and what is open then, are the document's. -/
import Derived.Test.YtmhbibcfbencnaaLawKit
import Derived.Test.YtmhbibcfbencnaaLTp
namespace Go.Proofs.Ytmhbibcfbencnaa.tellPlays
open Go.ChangeShapes Go.WideShapes Go.ChangeAt Go.RowKit
open Go.ChangeMaps (open_string)
set_option linter.unusedVariables false
set_option linter.unusedSimpArgs false
set_option maxRecDepth 100000 in
theorem lifted (os : Os) (started : os.Started) (H : Type) (enc : TypeId × Value → H) :
    ReturnsInHanded {} Try.checked os 14 .any (Rows.tellPlaysSpec.pre6 enc Try.prog Try.f14 Rows.tellPlaysRow.domain false) (Rows.tellPlaysSpec.post enc Try.prog Try.f14 false true false false) := by
  refine returnsInHanded_of_change (C := Try.checked) own started (by kernel_rfl) Try.func14
    (ChangeSpec.witness6 (enc := enc) (C := Try.checked) false ⟨#[], #[.int .i64 0, .slice none 0 0, .slice none 0 0], []⟩ 8 (by kernel_rfl) (by kernel_rfl) (by kernel_rfl) (by kernel_rfl)) ?_
  intro W base args ds gs before hval0 hW hcnd hsz
  have hval : ∀ (j : Nat) t v, Try.f14.params[j]? = some t → args[j]? = some v → Value.okWide Try.prog W .any base t v := hval0
  have hW' := hW
  have hlt : ∀ x ∈ before, x.block < W.heap.size := fun x hx => hW'.lt x hx
  obtain ⟨p, q, hA0, hV, rfl, hfz, hnd⟩ := hW
  have hA : DataW.TrodAll enc Try.prog W 0 (fun _ => true) true Try.f14.params.toList args.toList ds p := hA0
  rw [Try.params14] at hA hval
  obtain ⟨v0, vs0, d0, ds0, p0, q0, hargs, rfl, rfl, h0, r0⟩ := trodAll_cons hA
  obtain ⟨v1, vs1, d1, ds1, p1, q1, rfl, rfl, rfl, h1, r1⟩ := trodAll_cons r0
  obtain ⟨v2, vs2, d2, ds2, p2, q2, rfl, rfl, rfl, h2, r2⟩ := trodAll_cons r1
  obtain ⟨rfl, rfl, rfl⟩ := trodAll_nil r2
  obtain rfl : args = #[v0, v1, v2] := by cases args; simp_all
  obtain ⟨rfl, rfl⟩ := trodVars_none hV
  obtain ⟨a0, rfl, rfl, rfl, w0⟩ := open_int Try.underlying2 (hval 0 2 v0 rfl rfl) h0
  obtain ⟨b1, n1, e1, rfl⟩ := okWide_slice Try.underlying38 (hval 1 38 _ rfl rfl)
  obtain ⟨fuel1, g1⟩ := h1
  obtain ⟨a1, l1, c1, y1, w1, x1, z1⟩ := read_outs g1
  cases y1
  obtain ⟨b2, n2, e2, rfl⟩ := okWide_slice Try.underlying46 (hval 2 46 _ rfl rfl)
  obtain ⟨fuel2, g2⟩ := h2
  obtain ⟨a2, l2, c2, y2, w2, x2, z2⟩ := read_a4s g2
  cases y2
  clear hA0 hval0
  refine (law_TellPlays a0 w0 b1 l1 e1 w1 z1 b2 l2 e2 w2 z2 W x1 x2).mono fun e W' ⟨he, hg⟩ => ?_
  subst he
  exact ⟨_, rfl, law_post laid (of_decide_eq_true (by kernel_rfl)) rfl rfl Try.underlying4 rfl (by simpa using hW') hg⟩
theorem over : Rows.tellPlaysRow.holds Try.pinned (OpenSpec.ofChange Rows.tellPlaysSpec) :=
  OpenClaim.holds_of_wide 14 Try.f14 rfl rfl rfl rfl rfl rfl rfl ⟨rfl, rfl, rfl, rfl, rfl⟩ rfl rfl rfl rfl rfl (by kernel_rfl) Try.func14 (by kernel_rfl)
    (of_decide_eq_true (by kernel_rfl)) (by unfold Func.isWrapper; first | (rw [if_pos (by decide +kernel)]; kernel_rfl) | (rw [if_neg (by decide +kernel)]; exact ⟨rfl, rfl⟩))
    (fun os started H enc _ => lifted os started H enc)
end Go.Proofs.Ytmhbibcfbencnaa.tellPlays
namespace Go.Proofs.Ytmhbibcfbencnaa
theorem proved_TellPlays : Rows.TellPlaysSaid := tellPlays.over
#print axioms proved_TellPlays
end Go.Proofs.Ytmhbibcfbencnaa
