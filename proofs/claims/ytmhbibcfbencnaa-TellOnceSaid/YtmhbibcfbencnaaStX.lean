/- StoreSums: the row of numbers of this call's own; what the inner loop over Take's answer finds. -/
import Derived.Test.YtmhbibcfbencnaaStV
import Derived.Test.YtmhbibcfbencnaaStW
namespace Go.Proofs.Ytmhbibcfbencnaa
open Go.RowKit Go.Lib
set_option linter.unusedSimpArgs false
set_option linter.unusedVariables false
def intV (x : Int) : Value := .int .i64 x
theorem ints_row {w : World} {base : Nat} {e : TypeId} {A : Option Addr} {c : Nat} {l : List Int} (h : w.ownsRow base e 1 (.slice A l.length c) l.length (l.map intV)) : IntsRow w A l := by
  intro hl
  rcases h.2 with ⟨hv, h0⟩ | ⟨g, cap, cur, hv, hb, hg, hn, hc, hcs, htk⟩
  · exact absurd (List.length_eq_zero_iff.1 h0) hl
  · simp only [Value.slice.injEq, true_and] at hv
    obtain ⟨rfl, rfl⟩ := hv
    refine ⟨g, 0, rfl, lt_of_heap hg, fun i x hx => ?_⟩
    have hlt := (List.getElem?_eq_some_iff.1 hx).1
    have h5 : (cur.toList.take (l.length * 1))[i]? = some (intV x) := by rw [htk, List.getElem?_map, hx]; rfl
    rw [List.getElem?_take_of_lt (by omega)] at h5
    unfold IntAt World.cell?
    rw [hg]
    simp only [Nat.zero_add, Nat.mul_one]
    rw [Array.getElem?_toList] at h5
    exact h5
/-- Of the first j windows that are over: was this one among them? -/
def hadB (x : Wd) (l : List Ot) : Bool := l.any fun o => decide (wdOf o = x)
theorem hadB_snoc (x : Wd) (l : List Ot) (o : Ot) : hadB x (l ++ [o]) = (hadB x l || decide (wdOf o = x)) := by simp [hadB]
theorem hadB_iff {x : Wd} {l : List Ot} : hadB x l = true ↔ ∃ o ∈ l, wdOf o = x := by simp [hadB]
/-- A window stands in a sorted list once. -/
theorem had_once {L : List Ot} (hu : L.Pairwise ltO) {j : Nat} {o : Ot} (hj : L[j]? = some o) : hadB (wdOf o) (L.take j) = false := by
  cases h : hadB (wdOf o) (L.take j) with
  | false => rfl
  | true =>
    obtain ⟨o', h1, h2⟩ := hadB_iff.1 h
    obtain ⟨i, hi, hi2⟩ := List.getElem_of_mem h1
    have hlen : (L.take j).length ≤ j := List.length_take_le _ _
    have hjl := (List.getElem?_eq_some_iff.1 hj).1
    have hje := (List.getElem?_eq_some_iff.1 hj).2
    have hil : i < L.length := by simp at hi; omega
    have e : L[i] = o' := by rw [← hi2, List.getElem_take]
    have := List.pairwise_iff_getElem.1 hu i j hil hjl (by omega)
    rw [e, hje] at this
    exact absurd h2 (ltO_ne this)
end Go.Proofs.Ytmhbibcfbencnaa
