/- What is done to a book, as an argument: []Act in memory. -/
import Derived.Test.YtbkbekdeplolnaaMvD
import Derived.Deep.Slices
import Derived.ChangeArms
import Derived.ChangeSlices
namespace Go.Proofs.Ytbkbekdeplolnaa
open Go.RowKit Go.ChangeShapes Go.WideShapes Go.Deep
set_option linter.unusedSimpArgs false
set_option linter.unusedVariables false
/-- An act. -/
structure Ac where
  dd : Int
  t : Tb
  part : Int
  to : Int
instance : Inhabited Ac := ⟨⟨0, ⟨0, 0, none, 0, []⟩, 0, 0⟩⟩
structure AcAt (W : World) (b o : Nat) (x : Ac) : Prop where
  c0 : W.cell? ⟨b, o, none⟩ = some (.int .i64 x.dd)
  c1 : W.cell? ⟨b, o + 1, none⟩ = some (.int .i64 x.t.ep)
  c2 : W.cell? ⟨b, o + 2, none⟩ = some (.int .i64 x.t.nodes)
  c3 : W.cell? ⟨b, o + 3, none⟩ = some (.slice x.t.oa x.t.owner.length x.t.oc)
  c4 : W.cell? ⟨b, o + 4, none⟩ = some (.int .i64 x.part)
  c5 : W.cell? ⟨b, o + 5, none⟩ = some (.int .i64 x.to)
  own : IntsAt W x.t.oa x.t.owner
theorem AcAt.below {W W' : World} {b o : Nat} {x : Ac} {B : Nat} (h : AcAt W b o x) (hB : B = W.heap.size) (hb : Below B W W') (hl : b < W.heap.size) : AcAt W' b o x := by
  subst hB
  exact ⟨(hb.cell (p := ⟨b, o, none⟩) hl).trans h.c0, (hb.cell (p := ⟨b, o + 1, none⟩) hl).trans h.c1, (hb.cell (p := ⟨b, o + 2, none⟩) hl).trans h.c2, (hb.cell (p := ⟨b, o + 3, none⟩) hl).trans h.c3,
    (hb.cell (p := ⟨b, o + 4, none⟩) hl).trans h.c4, (hb.cell (p := ⟨b, o + 5, none⟩) hl).trans h.c5, h.own.below hb⟩
/-- The acts, in memory. -/
def ActsAt (W : World) (A : Option Addr) (L : List Ac) : Prop :=
  L ≠ [] → ∃ b off, A = some ⟨b, off, none⟩ ∧ b < W.heap.size ∧ ∀ i x, L[i]? = some x → AcAt W b (off + i * 6) x
theorem ActsAt.below {W W' : World} {A : Option Addr} {L : List Ac} (h : ActsAt W A L) (hb : Below W.heap.size W W') : ActsAt W' A L := by
  intro hL
  obtain ⟨b, off, h1, h2, h3⟩ := h hL
  exact ⟨b, off, h1, Nat.lt_of_lt_of_le h2 hb.size, fun i x hx => (h3 i x hx).below rfl hb h2⟩
theorem cell_plain {W : World} {a : Addr} {v : Value} (h : W.cell? a = some v) : a.spot = none ∧ a.block < W.heap.size := by
  refine ⟨?_, World.block_lt_of_cell? W a h⟩
  unfold World.cell? at h
  split at h
  · split at h
    · cases h
    · rename_i hs; cases hh : a.spot with
      | none => rfl
      | some x => rw [hh] at hs; exact absurd rfl hs
  · cases h
theorem add_at (b off j : Nat) : (⟨b, off, none⟩ : Addr).add j = ⟨b, off + j, none⟩ := by
  unfold Addr.add; split <;> simp_all
theorem add_zero (a : Addr) : a.add 0 = a := by unfold Addr.add; simp
section
variable {H : Type} {enc : TypeId × Value → H} {w : World} {base : Nat} {spare : Nat → Bool} {held : Bool}
theorem read_ints {fuel : Nat} {cs : List Value} {x : DataW H × List MemPlace} (h : DataW.trod enc Try.prog w base spare held fuel 39 cs = some x) :
    ∃ a l c, cs = [.slice a l.length c] ∧ IntsAt w a l := by
  rcases open_ints Try.underlying39 Try.underlying3 (by kernel_rfl) h with ⟨rfl, _⟩ | ⟨a, len, cap, zs, rfl, hb, hl, hm, hz, _, hc, _⟩
  · exact ⟨none, [], 0, rfl, fun h => absurd rfl h⟩
  · have hle : len ≤ zs.length := by rw [hz]; split <;> omega
    refine ⟨some a, zs.take len, cap, by rw [List.length_take, Nat.min_eq_left hle], fun hne => ?_⟩
    have h0 : 0 < len := by rcases Nat.eq_zero_or_pos len with e | e; · subst e; simp at hne
                            · exact e
    have hc0 := hc 0 (by omega)
    rw [add_zero] at hc0
    obtain ⟨hs, hbl⟩ := cell_plain hc0
    obtain ⟨b, off, sp⟩ := a
    obtain rfl : sp = none := hs
    refine ⟨b, off, rfl, hbl, fun j hj => ?_⟩
    rw [List.length_take, Nat.min_eq_left hle] at hj
    have := hc j (by omega)
    rw [add_at] at this
    rw [this, List.getElem?_take_of_lt hj, List.getD_eq_getElem?_getD]
set_option maxRecDepth 100000 in
theorem read_tb {fuel : Nat} {cs : List Value} {x : DataW H × List MemPlace} (h : DataW.trod enc Try.prog w base spare held fuel 41 cs = some x) :
    ∃ t : Tb, cs = [.int .i64 t.ep, .int .i64 t.nodes, .slice t.oa t.owner.length t.oc] ∧ IntsAt w t.oa t.owner := by
  obtain ⟨xs, n, _, _, hl, hlen, hf⟩ := DataW.trod_struct Try.underlying41 h
  rw [show Try.prog.cellsOf 41 = 3 by kernel_rfl] at hl
  match cs, hl with
  | [v0, v1, v2], _ =>
    have hlen' : xs.length = 3 := hlen
    match xs, hlen' with
    | [y0, y1, y2], _ =>
      have f0 : DataW.trod enc Try.prog w base spare held n 3 (([v0, v1, v2].drop 0).take (Try.prog.cellsOf 3)) = some y0 := hf 0 _ rfl
      have f1 : DataW.trod enc Try.prog w base spare held n 3 (([v0, v1, v2].drop 1).take (Try.prog.cellsOf 3)) = some y1 := hf 1 _ rfl
      have f2 : DataW.trod enc Try.prog w base spare held n 39 (([v0, v1, v2].drop 2).take (Try.prog.cellsOf 39)) = some y2 := hf 2 _ rfl
      obtain ⟨n0, e0, _⟩ := DataW.trod_int Try.underlying3 f0
      obtain ⟨n1, e1, _⟩ := DataW.trod_int Try.underlying3 f1
      obtain ⟨a, l, c, e2, hI⟩ := read_ints f2
      rw [show Try.prog.cellsOf 3 = 1 by kernel_rfl] at e0 e1
      rw [show Try.prog.cellsOf 39 = 1 by kernel_rfl] at e2
      refine ⟨⟨n0, n1, a, c, l⟩, ?_, hI⟩
      simp only [List.drop_zero, List.drop_succ_cons, List.take_succ_cons, List.take_zero, List.cons.injEq, and_true] at e0 e1 e2
      rw [e0, e1, e2]
set_option maxRecDepth 100000 in
theorem read_act {fuel : Nat} {b off : Nat} {cs : List Value} {x : DataW H × List MemPlace} (hc : ∀ i, i < 6 → w.cell? ⟨b, off + i, none⟩ = cs[i]?) (h : DataW.trod enc Try.prog w base spare held fuel 43 cs = some x) :
    ∃ x : Ac, AcAt w b off x := by
  obtain ⟨xs, n, _, _, hl, hlen, hf⟩ := DataW.trod_struct Try.underlying43 h
  rw [show Try.prog.cellsOf 43 = 6 by kernel_rfl] at hl
  match cs, hl with
  | [v0, v1, v2, v3, v4, v5], _ =>
    have hlen' : xs.length = 4 := hlen
    match xs, hlen' with
    | [y0, y1, y2, y3], _ =>
      have f0 : DataW.trod enc Try.prog w base spare held n 3 (([v0, v1, v2, v3, v4, v5].drop 0).take (Try.prog.cellsOf 3)) = some y0 := hf 0 _ rfl
      have f1 : DataW.trod enc Try.prog w base spare held n 41 (([v0, v1, v2, v3, v4, v5].drop 1).take (Try.prog.cellsOf 41)) = some y1 := hf 1 _ rfl
      have f2 : DataW.trod enc Try.prog w base spare held n 3 (([v0, v1, v2, v3, v4, v5].drop 4).take (Try.prog.cellsOf 3)) = some y2 := hf 2 _ rfl
      have f3 : DataW.trod enc Try.prog w base spare held n 3 (([v0, v1, v2, v3, v4, v5].drop 5).take (Try.prog.cellsOf 3)) = some y3 := hf 3 _ rfl
      obtain ⟨n0, e0, _⟩ := DataW.trod_int Try.underlying3 f0
      obtain ⟨t, e1, hI⟩ := read_tb f1
      obtain ⟨n2, e2, _⟩ := DataW.trod_int Try.underlying3 f2
      obtain ⟨n3, e3, _⟩ := DataW.trod_int Try.underlying3 f3
      rw [show Try.prog.cellsOf 3 = 1 by kernel_rfl] at e0 e2 e3
      rw [show Try.prog.cellsOf 41 = 3 by kernel_rfl] at e1
      simp only [List.drop_zero, List.drop_succ_cons, List.take_succ_cons, List.take_zero, List.cons.injEq, and_true] at e0 e1 e2 e3
      obtain ⟨e1a, e1b, e1c⟩ := e1
      subst e0 e1a e1b e1c e2 e3
      exact ⟨⟨n0, t, n2, n3⟩, hc 0 (by omega), hc 1 (by omega), hc 2 (by omega), hc 3 (by omega), hc 4 (by omega), hc 5 (by omega), hI⟩
theorem read_acts {fuel : Nat} {v : Value} {x : DataW H × List MemPlace} (h : DataW.trod enc Try.prog w base spare held fuel 35 [v] = some x) :
    ∃ A L c, v = .slice A (List.length L) c ∧ L.length ≤ 9223372036854775807 ∧ ActsAt w A L := by
  rcases open_slice Try.underlying35 h with ⟨h0, _⟩ | ⟨a, len, cap, m, n, D, Pl, h0, hb, hl, hm, hmm, _, hx⟩
  · refine ⟨none, [], 0, by simpa using h0, by simp, fun h => absurd rfl h⟩
  · have hle : len ≤ m := by rw [hmm]; split <;> omega
    rw [show Try.prog.cellsOf 43 = 6 by kernel_rfl] at hx
    have hsp : 0 < len → a.spot = none ∧ a.block < w.heap.size := by
      intro hpos
      obtain ⟨cs', h1, h2⟩ := hx 0 (by omega)
      obtain ⟨_, hcl, hcc⟩ := World.cells?_some h1
      have hc0 := hcc 0 (by omega)
      rw [List.getElem?_eq_getElem (by omega), Nat.zero_mul, add_zero, add_zero] at hc0
      exact cell_plain hc0
    have key : ∀ i, i < len → ∃ y : Ac, AcAt w a.block (a.off + i * 6) y := by
      intro i hi
      obtain ⟨cs', h1, h2⟩ := hx i (by omega)
      obtain ⟨_, hcl, hcc⟩ := World.cells?_some h1
      obtain ⟨hs, hbl⟩ := hsp (by omega)
      obtain ⟨b, off, sp⟩ := a
      obtain rfl : sp = none := hs
      exact read_act (fun j hj => by have := hcc j hj; rwa [add_at, add_at] at this) h2
    obtain ⟨f, hf⟩ := choose_lt key
    refine ⟨some a, (List.range len).map f, cap, by simpa using h0, by simp; unfold maxLen at hm; omega, fun hne => ?_⟩
    have hpos : 0 < len := by rcases Nat.eq_zero_or_pos len with e | e; · subst e; simp at hne
                              · exact e
    obtain ⟨hs, hbl⟩ := hsp hpos
    obtain ⟨b, off, sp⟩ := a
    obtain rfl : sp = none := hs
    refine ⟨b, off, rfl, hbl, fun i x hx => ?_⟩
    have hi : i < len := by have := (List.getElem?_eq_some_iff.1 hx).1; simpa using this
    rw [List.getElem?_map, List.getElem?_range hi] at hx
    obtain rfl : f i = x := by simpa using hx
    exact hf i hi
end
end Go.Proofs.Ytbkbekdeplolnaa
