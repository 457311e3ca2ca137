/- The statements of a store: new stores, twins. -/
import Derived.Test.YtmhbibcfbencnaaStU
import Derived.Test.YtmhbibcfbencnaaStN
namespace Go.Proofs.Ytmhbibcfbencnaa
open Go.RowKit Go.Lib
open Go.ChangeMaps (setBlock)
set_option linter.unusedSimpArgs false
set_option linter.unusedVariables false
/-- A store that is new in w', by its windows in their row. -/
def NewSr (w : World) (L : List Ot) (e : Ending) (w' : World) : Prop := ∃ p b, e = .returned (.pointer (some ⟨p, 0, none⟩)) ∧ SrAt w' p b L ∧ w.heap.size ≤ p ∧ w.heap.size ≤ b ∧ Below w.heap.size w w'
theorem rnew_any (w : World) : Calls Try.prog 18 #[] w (NewSr w []) := by
  refine (snewS w).mono ?_
  rintro e w' ⟨p, b, he, hS, h1, h2, h3⟩
  exact ⟨p, b, he, ⟨[], hS, ⟨List.Perm.refl _, List.Pairwise.nil⟩⟩, h1, h2, h3⟩
theorem rtwin_any {w : World} {p b : Nat} {L : List Ot} (h : SrAt w p b L) : Calls Try.prog 46 #[.pointer (some ⟨p, 0, none⟩)] w (NewSr w L) := by
  obtain ⟨m, h1, h2⟩ := h
  refine (stwin_any h1).mono ?_
  rintro e w' ⟨p', b', he, hS, q1, q2, q3⟩
  exact ⟨p', b', he, ⟨m, hS, h2⟩, q1, q2, q3⟩
end Go.Proofs.Ytmhbibcfbencnaa
