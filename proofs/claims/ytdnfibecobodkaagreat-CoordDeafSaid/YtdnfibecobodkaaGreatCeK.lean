/- How long the rows are; rows that may be written over. -/
import Derived.Test.YtdnfibecobodkaaGreatCeH
namespace Go.Proofs.YtdnfibecobodkaaGreat
open Go.RowKit Go.Lib
set_option linter.unusedSimpArgs false
set_option linter.unusedVariables false
theorem flat_le {α β : Type} {f : α → List β} {k : Nat} : ∀ (l : List α), (∀ x ∈ l, (f x).length ≤ k) → (l.flatMap f).length ≤ k * l.length
  | [], _ => by simp
  | x :: l, h => by
    have h1 := flat_le l fun y hy => h y (List.mem_cons_of_mem _ hy)
    have h2 := h x (List.mem_cons_self ..)
    rw [List.flatMap_cons, List.length_append, List.length_cons, Nat.mul_add]
    omega
theorem tickOf_le (c : Cd) (x : En) (s : St) : (tickOf c x s).length ≤ 2 := by
  unfold tickOf
  split
  · simp
  · split
    · rw [List.length_append]
      split <;> split <;> simp
    · rw [List.length_append]
      split <;> split <;> simp
theorem tick_len {c : Cd} (h : CdFine c) : (tickF c).length ≤ 1000 := by
  unfold tickF
  have h1 := flat_le (f := fun x => tickOf c x (atOf x.mv c.at_)) (k := 2) (c.m.map (·.2)) fun x _ => tickOf_le c x _
  have h2 := h.num
  have h3 := h.nd
  rw [List.length_map] at h1
  simp only [List.length_append, List.length_map, List.length_range]
  omega
theorem moves_len {c : Cd} (h : CdFine c) : (movesF c).length ≤ 400 := by
  unfold movesF
  rw [List.length_map, List.length_map]
  exact h.num
/-- Cells that may be written over. -/
structure Loose (w : World) (g n : Nat) : Prop where
  cell : ∀ o, o < n → ∃ v, w.cell? ⟨g, o, none⟩ = some v
  free : ∀ o, w.frozen? ⟨g, o, none⟩ = false
theorem Loose.set {w : World} {g n : Nat} (h : Loose w g n) (o : Nat) (v : Value) : Loose (w.setCell ⟨g, o, none⟩ v) g n :=
  ⟨fun k hk => by
    obtain ⟨u, hu⟩ := h.cell k hk
    exact cell?_setCell_some hu, fun k => (World.frozen?_setCell _ _ _ _).trans (h.free k)⟩
theorem Loose.keep {w w' : World} {X : List Nat} {g n : Nat} (h : Loose w g n) (hk : Keep X w w') (hl : g < w.heap.size) (hx : g ∉ X) : Loose w' g n :=
  ⟨fun o ho => by
    obtain ⟨u, hu⟩ := h.cell o ho
    exact ⟨u, (hk.cell o hl hx).trans hu⟩, fun o => (hk.frozen o hl hx).trans (h.free o)⟩
/-- A row's address, and that its cells may be written over. -/
def LooseRow (base : Nat) (W : World) (a : Option Addr) (m S : Nat) : Prop := m = 0 ∨ ∃ g, a = some ⟨g, 0, none⟩ ∧ base ≤ g ∧ g < W.heap.size ∧ Loose W g (m * S)
theorem loose_row {α : Type} {f : α → List Value} {S : Nat} (hS : ∀ x, (f x).length = S) {base : Nat} {W : World} {e : TypeId} {v : Value} {l : List α} (h : W.ownsRow base e S v l.length (l.flatMap f)) :
    ∃ a d m, v = .slice a m d ∧ m = l.length ∧ LooseRow base W a m S := by
  by_cases hl : l = []
  · obtain ⟨a, d, hv, _⟩ := own_shape h
    exact ⟨a, d, _, hv, rfl, .inl (by rw [hl]; rfl)⟩
  · obtain ⟨g, d, hv, h1, h2, h3, h4⟩ := rows_at hS h hl
    refine ⟨_, d, _, hv, rfl, .inr ⟨g, rfl, h1, h2, fun o ho => ?_, h3⟩⟩
    have hS0 : 0 < S := by
      rcases Nat.eq_zero_or_pos S with e | e
      · rw [e] at ho; omega
      · exact e
    have hi : o / S < l.length := Nat.div_lt_of_lt_mul (by rw [Nat.mul_comm]; exact ho)
    have hj : o % S < S := Nat.mod_lt _ hS0
    have h5 := h4 (o / S) (o % S) l[o / S] (List.getElem?_eq_getElem hi) hj
    rw [Nat.mul_comm, Nat.div_add_mod] at h5
    exact ⟨_, h5.trans (List.getElem?_eq_getElem (by rw [hS]; exact hj))⟩
theorem LooseRow.pos {base : Nat} {W : World} {a : Option Addr} {m S : Nat} (h : LooseRow base W a m S) (hm : 0 < m) : ∃ g, a = some ⟨g, 0, none⟩ ∧ base ≤ g ∧ g < W.heap.size ∧ Loose W g (m * S) := by
  rcases h with e | e
  · omega
  · exact e
theorem LooseRow.mono {base b' : Nat} {W : World} {a : Option Addr} {m S : Nat} (h : LooseRow base W a m S) (hb : b' ≤ base) : LooseRow b' W a m S := by
  rcases h with e | ⟨g, h1, h2, h3⟩
  · exact .inl e
  · exact .inr ⟨g, h1, Nat.le_trans hb h2, h3⟩
theorem LooseRow.keep {base : Nat} {W W' : World} {a : Option Addr} {m S : Nat} (h : LooseRow base W a m S) (hk : Keep [] W W') : LooseRow base W' a m S := by
  rcases h with e | ⟨g, h1, h2, h3, h4⟩
  · exact .inl e
  · exact .inr ⟨g, h1, h2, Nat.lt_of_lt_of_le h3 hk.size, h4.keep hk h3 (by simp)⟩
end Go.Proofs.YtdnfibecobodkaaGreat
