/- The arguments: windows and acts in memory. -/
import Derived.Test.YtmhbibcfbencnaaStM
import Derived.Test.YtmhbibcfbencnaaStD
import Derived.Deep.Slices
import Derived.ChangeArms
import Derived.ChangeSlices
import Derived.OpenShut
namespace Go.Proofs.Ytmhbibcfbencnaa
open Go.RowKit Go.ChangeShapes Go.WideShapes Go.Deep
set_option linter.unusedSimpArgs false
set_option linter.unusedVariables false
theorem inR_wf {n : Int} (h : (Lit.int .i64 n).wf = true) : InR n := by
  simp [Lit.wf, IntKind.min, IntKind.max, IntKind.signed, IntKind.bits] at h
  unfold InR; omega
structure Ot.Wf (x : Ot) : Prop where
  key : x.key.size ≤ maxLen
  st : InR x.st
  ag : x.ag.Wf
/-- A window somewhere in a block. -/
structure OcAt (W : World) (b o : Nat) (x : Ot) : Prop where
  c0 : W.cell? ⟨b, o, none⟩ = some (.string x.key)
  c1 : W.cell? ⟨b, o + 1, none⟩ = some (.int .i64 x.st)
  c2 : W.cell? ⟨b, o + 2, none⟩ = some (.int .i64 x.ag.c)
  c3 : W.cell? ⟨b, o + 3, none⟩ = some (.int .i64 x.ag.s)
  c4 : W.cell? ⟨b, o + 4, none⟩ = some (.int .i64 x.ag.lo)
  c5 : W.cell? ⟨b, o + 5, none⟩ = some (.int .i64 x.ag.hi)
  c6 : W.cell? ⟨b, o + 6, none⟩ = some (.int .i64 x.ag.b0)
  c7 : W.cell? ⟨b, o + 7, none⟩ = some (.int .i64 x.ag.b1)
  c8 : W.cell? ⟨b, o + 8, none⟩ = some (.int .i64 x.ag.b2)
  c9 : W.cell? ⟨b, o + 9, none⟩ = some (.int .i64 x.ag.b3)
theorem OcAt.keep {X : List Nat} {W W' : World} {b o : Nat} {x : Ot} (h : OcAt W b o x) (hk : Keep X W W') (hl : b < W.heap.size) (hb : b ∉ X) : OcAt W' b o x :=
  ⟨(hk.cell _ hl hb).trans h.c0, (hk.cell _ hl hb).trans h.c1, (hk.cell _ hl hb).trans h.c2, (hk.cell _ hl hb).trans h.c3, (hk.cell _ hl hb).trans h.c4, (hk.cell _ hl hb).trans h.c5, (hk.cell _ hl hb).trans h.c6, (hk.cell _ hl hb).trans h.c7, (hk.cell _ hl hb).trans h.c8, (hk.cell _ hl hb).trans h.c9⟩
/-- An act of a store. -/
structure A9 where
  dd : Int
  key : ByteArray
  t : Int
  n : Int
  out : Ot
instance : Inhabited A9 := ⟨⟨0, ByteArray.empty, 0, 0, ⟨ByteArray.empty, 0, Ag.zero⟩⟩⟩
structure A9.Wf (x : A9) : Prop where
  key : x.key.size ≤ maxLen
  t : InR x.t
  n : InR x.n
  out : x.out.Wf
structure A9At (W : World) (b o : Nat) (x : A9) : Prop where
  c0 : W.cell? ⟨b, o, none⟩ = some (.int .u8 x.dd)
  c1 : W.cell? ⟨b, o + 1, none⟩ = some (.string x.key)
  c2 : W.cell? ⟨b, o + 2, none⟩ = some (.int .i64 x.t)
  c3 : W.cell? ⟨b, o + 3, none⟩ = some (.int .i64 x.n)
  out : OcAt W b (o + 4) x.out
theorem A9At.keep {X : List Nat} {W W' : World} {b o : Nat} {x : A9} (h : A9At W b o x) (hk : Keep X W W') (hl : b < W.heap.size) (hb : b ∉ X) : A9At W' b o x :=
  ⟨(hk.cell _ hl hb).trans h.c0, (hk.cell _ hl hb).trans h.c1, (hk.cell _ hl hb).trans h.c2, (hk.cell _ hl hb).trans h.c3, h.out.keep hk hl hb⟩
/-- An act of a line. -/
structure A4 where
  dd : Int
  key : ByteArray
  t : Int
  n : Int
instance : Inhabited A4 := ⟨⟨0, ByteArray.empty, 0, 0⟩⟩
structure A4.Wf (x : A4) : Prop where
  key : x.key.size ≤ maxLen
  t : InR x.t
  n : InR x.n
structure A4At (W : World) (b o : Nat) (x : A4) : Prop where
  c0 : W.cell? ⟨b, o, none⟩ = some (.int .u8 x.dd)
  c1 : W.cell? ⟨b, o + 1, none⟩ = some (.string x.key)
  c2 : W.cell? ⟨b, o + 2, none⟩ = some (.int .i64 x.t)
  c3 : W.cell? ⟨b, o + 3, none⟩ = some (.int .i64 x.n)
theorem A4At.keep {X : List Nat} {W W' : World} {b o : Nat} {x : A4} (h : A4At W b o x) (hk : Keep X W W') (hl : b < W.heap.size) (hb : b ∉ X) : A4At W' b o x :=
  ⟨(hk.cell _ hl hb).trans h.c0, (hk.cell _ hl hb).trans h.c1, (hk.cell _ hl hb).trans h.c2, (hk.cell _ hl hb).trans h.c3⟩
/-- A row of elements, whatever they are, in memory: at 'S' cells each. -/
def RowAt {α : Type} (at_ : World → Nat → Nat → α → Prop) (S : Nat) (W : World) (A : Option Addr) (L : List α) : Prop :=
  L ≠ [] → ∃ b off, A = some ⟨b, off, none⟩ ∧ b < W.heap.size ∧ ∀ i x, L[i]? = some x → at_ W b (off + i * S) x
theorem RowAt.keep {α : Type} {at_ : World → Nat → Nat → α → Prop} {S : Nat} {X : List Nat} {W W' : World} {A : Option Addr} {L : List α} (hat : ∀ b o x, b < W.heap.size → b ∉ X → at_ W b o x → at_ W' b o x)
    (h : RowAt at_ S W A L) (hk : Keep X W W') (hx : L ≠ [] → ∀ b off, A = some ⟨b, off, none⟩ → b ∉ X) : RowAt at_ S W' A L := by
  intro hL
  obtain ⟨b, off, h1, h2, h3⟩ := h hL
  exact ⟨b, off, h1, Nat.lt_of_lt_of_le h2 hk.size, fun i x hi => hat b _ x h2 (hx hL b off h1) (h3 i x hi)⟩
theorem RowAt.far {α : Type} {at_ : World → Nat → Nat → α → Prop} {S : Nat} {W : World} {A : Option Addr} {L : List α} (h : RowAt at_ S W A L) {q : Nat} (hq : W.heap.size ≤ q) : L ≠ [] → ∀ b off, A = some ⟨b, off, none⟩ → b ≠ q := fun hL b off hA => by
  obtain ⟨b', off', h1, h2, _⟩ := h hL
  rw [hA] at h1; cases h1; omega
def IntAt (W : World) (b o : Nat) (x : Int) : Prop := W.cell? ⟨b, o, none⟩ = some (.int .i64 x)
theorem IntAt.keep {X : List Nat} {W W' : World} {b o : Nat} {x : Int} (h : IntAt W b o x) (hk : Keep X W W') (hl : b < W.heap.size) (hb : b ∉ X) : IntAt W' b o x := (hk.cell _ hl hb).trans h
theorem cell_plain {W : World} {a : Addr} {v : Value} (h : W.cell? a = some v) : a.spot = none ∧ a.block < W.heap.size := by
  refine ⟨?_, World.block_lt_of_cell? W a h⟩
  unfold World.cell? at h
  split at h
  · split at h
    · cases h
    · rename_i hs; cases hh : a.spot with
      | none => rfl
      | some x => rw [hh] at hs; exact absurd rfl hs
  · cases h
theorem addr_zero (a : Addr) : a.add 0 = a := by unfold Addr.add; simp
section
variable {H : Type} {enc : TypeId × Value → H} {w : World} {base : Nat} {spare : Nat → Bool} {held : Bool}
theorem c2 : Try.prog.cellsOf 2 = 1 := by kernel_rfl
theorem c9 : Try.prog.cellsOf 9 = 1 := by kernel_rfl
theorem c5 : Try.prog.cellsOf 5 = 1 := by kernel_rfl
theorem c29 : Try.prog.cellsOf 29 = 4 := by kernel_rfl
theorem c31 : Try.prog.cellsOf 31 = 8 := by kernel_rfl
theorem c33 : Try.prog.cellsOf 33 = 10 := by kernel_rfl
theorem c35 : Try.prog.cellsOf 35 = 14 := by kernel_rfl
theorem c52 : Try.prog.cellsOf 52 = 4 := by kernel_rfl
set_option maxRecDepth 100000 in
theorem read_hist {fuel : Nat} {v0 v1 v2 v3 : Value} {x : DataW H × List MemPlace} (h : DataW.trod enc Try.prog w base spare held fuel 29 [v0, v1, v2, v3] = some x) :
    ∃ a b c d : Int, v0 = .int .i64 a ∧ v1 = .int .i64 b ∧ v2 = .int .i64 c ∧ v3 = .int .i64 d ∧ InR a ∧ InR b ∧ InR c ∧ InR d := by
  obtain ⟨xs, m, _, _, hl, hlen, hf⟩ := DataW.trod_array Try.underlying29 h
  match xs, hlen with
  | [y0, y1, y2, y3], _ =>
    have f0 := hf 0 (by omega)
    have f1 := hf 1 (by omega)
    have f2 := hf 2 (by omega)
    have f3 := hf 3 (by omega)
    rw [c2] at f0 f1 f2 f3
    obtain ⟨a, e0, _, wa⟩ := DataW.trod_int (x := y0) Try.underlying2 f0
    obtain ⟨b, e1, _, wb⟩ := DataW.trod_int (x := y1) Try.underlying2 f1
    obtain ⟨c, e2, _, wc⟩ := DataW.trod_int (x := y2) Try.underlying2 f2
    obtain ⟨d, e3, _, wd⟩ := DataW.trod_int (x := y3) Try.underlying2 f3
    simp at e0 e1 e2 e3
    exact ⟨a, b, c, d, e0, e1, e2, e3, inR_wf wa, inR_wf wb, inR_wf wc, inR_wf wd⟩
set_option maxRecDepth 100000 in
theorem read_ag {fuel : Nat} {v0 v1 v2 v3 v4 v5 v6 v7 : Value} {x : DataW H × List MemPlace} (h : DataW.trod enc Try.prog w base spare held fuel 31 [v0, v1, v2, v3, v4, v5, v6, v7] = some x) :
    ∃ a : Ag, a.Wf ∧ v0 = .int .i64 a.c ∧ v1 = .int .i64 a.s ∧ v2 = .int .i64 a.lo ∧ v3 = .int .i64 a.hi ∧ v4 = .int .i64 a.b0 ∧ v5 = .int .i64 a.b1 ∧ v6 = .int .i64 a.b2 ∧ v7 = .int .i64 a.b3 := by
  obtain ⟨xs, m, _, _, hl, hlen, hf⟩ := DataW.trod_struct Try.underlying31 h
  have hlen' : xs.length = 5 := hlen
  match xs, hlen' with
  | [y0, y1, y2, y3, y4], _ =>
    have f0 : DataW.trod enc Try.prog w base spare held m 2 (([v0, v1, v2, v3, v4, v5, v6, v7].drop 0).take (Try.prog.cellsOf 2)) = some y0 := hf 0 _ rfl
    have f1 : DataW.trod enc Try.prog w base spare held m 2 (([v0, v1, v2, v3, v4, v5, v6, v7].drop 1).take (Try.prog.cellsOf 2)) = some y1 := hf 1 _ rfl
    have f2 : DataW.trod enc Try.prog w base spare held m 2 (([v0, v1, v2, v3, v4, v5, v6, v7].drop 2).take (Try.prog.cellsOf 2)) = some y2 := hf 2 _ rfl
    have f3 : DataW.trod enc Try.prog w base spare held m 2 (([v0, v1, v2, v3, v4, v5, v6, v7].drop 3).take (Try.prog.cellsOf 2)) = some y3 := hf 3 _ rfl
    have f4 : DataW.trod enc Try.prog w base spare held m 29 (([v0, v1, v2, v3, v4, v5, v6, v7].drop 4).take (Try.prog.cellsOf 29)) = some y4 := hf 4 _ rfl
    rw [c2] at f0 f1 f2 f3
    rw [c29] at f4
    obtain ⟨a, e0, _, wa⟩ := DataW.trod_int Try.underlying2 f0
    obtain ⟨b, e1, _, wb⟩ := DataW.trod_int Try.underlying2 f1
    obtain ⟨c, e2, _, wc⟩ := DataW.trod_int Try.underlying2 f2
    obtain ⟨d, e3, _, wd⟩ := DataW.trod_int Try.underlying2 f3
    obtain ⟨p, q, r, s, g0, g1, g2, g3, wp, wq, wr, ws⟩ := read_hist f4
    simp at e0 e1 e2 e3
    exact ⟨⟨a, b, c, d, p, q, r, s⟩, ⟨inR_wf wa, inR_wf wb, inR_wf wc, inR_wf wd, wp, wq, wr, ws⟩, e0, e1, e2, e3, g0, g1, g2, g3⟩
set_option maxRecDepth 100000 in
theorem read_out {fuel : Nat} {cs : List Value} {x : DataW H × List MemPlace} (h : DataW.trod enc Try.prog w base spare held fuel 33 cs = some x) : ∃ o : Ot, o.Wf ∧ cs = o.enc := by
  obtain ⟨xs, m, _, _, hl, hlen, hf⟩ := DataW.trod_struct Try.underlying33 h
  rw [c33] at hl
  match cs, hl with
  | [u0, u1, v0, v1, v2, v3, v4, v5, v6, v7], _ =>
    have hlen' : xs.length = 3 := hlen
    match xs, hlen' with
    | [y0, y1, y2], _ =>
      have f0 : DataW.trod enc Try.prog w base spare held m 9 (([u0, u1, v0, v1, v2, v3, v4, v5, v6, v7].drop 0).take (Try.prog.cellsOf 9)) = some y0 := hf 0 _ rfl
      have f1 : DataW.trod enc Try.prog w base spare held m 2 (([u0, u1, v0, v1, v2, v3, v4, v5, v6, v7].drop 1).take (Try.prog.cellsOf 2)) = some y1 := hf 1 _ rfl
      have f2 : DataW.trod enc Try.prog w base spare held m 31 (([u0, u1, v0, v1, v2, v3, v4, v5, v6, v7].drop 2).take (Try.prog.cellsOf 31)) = some y2 := hf 2 _ rfl
      rw [c9] at f0
      rw [c2] at f1
      rw [c31] at f2
      obtain ⟨k, e0, _, wk⟩ := DataW.trod_string Try.underlying9 f0
      obtain ⟨s, e1, _, ws⟩ := DataW.trod_int Try.underlying2 f1
      obtain ⟨a, wa, g0, g1, g2, g3, g4, g5, g6, g7⟩ := read_ag (v0 := v0) (v1 := v1) (v2 := v2) (v3 := v3) (v4 := v4) (v5 := v5) (v6 := v6) (v7 := v7) f2
      simp at e0 e1
      subst e0 e1 g0 g1 g2 g3 g4 g5 g6 g7
      exact ⟨⟨k, s, a⟩, ⟨wk, inR_wf ws, wa⟩, rfl⟩
theorem ocAt_of {b off : Nat} {o : Ot} (hc : ∀ i, i < 10 → w.cell? ⟨b, off + i, none⟩ = o.enc[i]?) : OcAt w b off o :=
  ⟨hc 0 (by omega), hc 1 (by omega), hc 2 (by omega), hc 3 (by omega), hc 4 (by omega), hc 5 (by omega), hc 6 (by omega), hc 7 (by omega), hc 8 (by omega), hc 9 (by omega)⟩
set_option maxRecDepth 100000 in
theorem read_a9 {fuel : Nat} {b off : Nat} {cs : List Value} {x : DataW H × List MemPlace} (hc : ∀ i, i < 14 → w.cell? ⟨b, off + i, none⟩ = cs[i]?) (h : DataW.trod enc Try.prog w base spare held fuel 35 cs = some x) :
    ∃ x : A9, x.Wf ∧ A9At w b off x := by
  obtain ⟨xs, n, _, _, hl, hlen, hf⟩ := DataW.trod_struct Try.underlying35 h
  rw [c35] at hl
  match cs, hl with
  | [v0, v1, v2, v3, o0, o1, o2, o3, o4, o5, o6, o7, o8, o9], _ =>
    have hlen' : xs.length = 5 := hlen
    match xs, hlen' with
    | [y0, y1, y2, y3, y4], _ =>
      have f0 : DataW.trod enc Try.prog w base spare held n 5 (([v0, v1, v2, v3, o0, o1, o2, o3, o4, o5, o6, o7, o8, o9].drop 0).take (Try.prog.cellsOf 5)) = some y0 := hf 0 _ rfl
      have f1 : DataW.trod enc Try.prog w base spare held n 9 (([v0, v1, v2, v3, o0, o1, o2, o3, o4, o5, o6, o7, o8, o9].drop 1).take (Try.prog.cellsOf 9)) = some y1 := hf 1 _ rfl
      have f2 : DataW.trod enc Try.prog w base spare held n 2 (([v0, v1, v2, v3, o0, o1, o2, o3, o4, o5, o6, o7, o8, o9].drop 2).take (Try.prog.cellsOf 2)) = some y2 := hf 2 _ rfl
      have f3 : DataW.trod enc Try.prog w base spare held n 2 (([v0, v1, v2, v3, o0, o1, o2, o3, o4, o5, o6, o7, o8, o9].drop 3).take (Try.prog.cellsOf 2)) = some y3 := hf 3 _ rfl
      have f4 : DataW.trod enc Try.prog w base spare held n 33 (([v0, v1, v2, v3, o0, o1, o2, o3, o4, o5, o6, o7, o8, o9].drop 4).take (Try.prog.cellsOf 33)) = some y4 := hf 4 _ rfl
      rw [c5] at f0
      rw [c9] at f1
      rw [c2] at f2 f3
      rw [c33] at f4
      obtain ⟨n0, e0, _, w0⟩ := DataW.trod_int Try.underlying5 f0
      obtain ⟨k, e1, _, w1⟩ := DataW.trod_string Try.underlying9 f1
      obtain ⟨n2, e2, _, w2⟩ := DataW.trod_int Try.underlying2 f2
      obtain ⟨n3, e3, _, w3⟩ := DataW.trod_int Try.underlying2 f3
      obtain ⟨o, wo, e4⟩ := read_out f4
      simp only [List.drop_zero, List.drop_succ_cons, List.take_succ_cons, List.take_zero, List.cons.injEq, and_true] at e0 e1 e2 e3 e4
      subst e0 e1 e2 e3
      refine ⟨⟨n0, k, n2, n3, o⟩, ⟨w1, inR_wf w2, inR_wf w3, wo⟩, hc 0 (by omega), hc 1 (by omega), hc 2 (by omega), hc 3 (by omega), ocAt_of fun i hi => ?_⟩
      have := hc (4 + i) (by omega)
      rw [← Nat.add_assoc] at this
      rw [this, ← e4, Nat.add_comm 4 i]
      rfl
set_option maxRecDepth 100000 in
theorem read_a4 {fuel : Nat} {b off : Nat} {cs : List Value} {x : DataW H × List MemPlace} (hc : ∀ i, i < 4 → w.cell? ⟨b, off + i, none⟩ = cs[i]?) (h : DataW.trod enc Try.prog w base spare held fuel 52 cs = some x) :
    ∃ x : A4, x.Wf ∧ A4At w b off x := by
  obtain ⟨xs, n, _, _, hl, hlen, hf⟩ := DataW.trod_struct Try.underlying52 h
  rw [c52] at hl
  match cs, hl with
  | [v0, v1, v2, v3], _ =>
    have hlen' : xs.length = 4 := hlen
    match xs, hlen' with
    | [y0, y1, y2, y3], _ =>
      have f0 : DataW.trod enc Try.prog w base spare held n 5 (([v0, v1, v2, v3].drop 0).take (Try.prog.cellsOf 5)) = some y0 := hf 0 _ rfl
      have f1 : DataW.trod enc Try.prog w base spare held n 9 (([v0, v1, v2, v3].drop 1).take (Try.prog.cellsOf 9)) = some y1 := hf 1 _ rfl
      have f2 : DataW.trod enc Try.prog w base spare held n 2 (([v0, v1, v2, v3].drop 2).take (Try.prog.cellsOf 2)) = some y2 := hf 2 _ rfl
      have f3 : DataW.trod enc Try.prog w base spare held n 2 (([v0, v1, v2, v3].drop 3).take (Try.prog.cellsOf 2)) = some y3 := hf 3 _ rfl
      rw [c5] at f0
      rw [c9] at f1
      rw [c2] at f2 f3
      obtain ⟨n0, e0, _, w0⟩ := DataW.trod_int Try.underlying5 f0
      obtain ⟨k, e1, _, w1⟩ := DataW.trod_string Try.underlying9 f1
      obtain ⟨n2, e2, _, w2⟩ := DataW.trod_int Try.underlying2 f2
      obtain ⟨n3, e3, _, w3⟩ := DataW.trod_int Try.underlying2 f3
      simp only [List.drop_zero, List.drop_succ_cons, List.take_succ_cons, List.take_zero, List.cons.injEq, and_true] at e0 e1 e2 e3
      subst e0 e1 e2 e3
      exact ⟨⟨n0, k, n2, n3⟩, ⟨w1, inR_wf w2, inR_wf w3⟩, hc 0 (by omega), hc 1 (by omega), hc 2 (by omega), hc 3 (by omega)⟩
/-- A slice of whatever elements. -/
theorem read_row {α : Type} [Inhabited α] {at_ : World → Nat → Nat → α → Prop} {wf : α → Prop} {T E : TypeId} {S : Nat} (hT : Try.prog.underlying T = some (.slice E)) (hS : Try.prog.cellsOf E = S) (hS0 : 0 < S)
    (hr : ∀ (fuel b off : Nat) (cs : List Value) (x : DataW H × List MemPlace), (∀ i, i < S → w.cell? ⟨b, off + i, none⟩ = cs[i]?) → DataW.trod enc Try.prog w base spare held fuel E cs = some x → ∃ y : α, wf y ∧ at_ w b off y)
    {fuel : Nat} {v : Value} {x : DataW H × List MemPlace} (h : DataW.trod enc Try.prog w base spare held fuel T [v] = some x) :
    ∃ A L c, v = .slice A (List.length L) c ∧ L.length ≤ 9223372036854775807 ∧ RowAt at_ S w A L ∧ ∀ y ∈ L, wf y := by
  rcases open_slice hT h with ⟨h0, _⟩ | ⟨a, len, cap, m, n, D, Pl, h0, hb, hl, hm, hmm, _, hx⟩
  · exact ⟨none, [], 0, by simpa using h0, by simp, fun h => absurd rfl h, fun _ h => by cases h⟩
  · have hle : len ≤ m := by rw [hmm]; split <;> omega
    rw [hS] at hx
    have hsp : 0 < len → a.spot = none ∧ a.block < w.heap.size := by
      intro hpos
      obtain ⟨cs', h1, h2⟩ := hx 0 (by omega)
      obtain ⟨_, hcl, hcc⟩ := World.cells?_some h1
      have hc0 := hcc 0 (by omega)
      rw [List.getElem?_eq_getElem (by omega), Nat.zero_mul, addr_zero, addr_zero] at hc0
      exact cell_plain hc0
    have key : ∀ i, i < len → ∃ y : α, wf y ∧ at_ w a.block (a.off + i * S) y := by
      intro i hi
      obtain ⟨cs', h1, h2⟩ := hx i (by omega)
      obtain ⟨_, hcl, hcc⟩ := World.cells?_some h1
      obtain ⟨hs, hbl⟩ := hsp (by omega)
      obtain ⟨b, off, sp⟩ := a
      obtain rfl : sp = none := hs
      exact hr _ b _ cs' _ (fun j hj => by have := hcc j (by omega); rwa [add_at, add_at] at this) h2
    obtain ⟨f, hf⟩ := choose_lt key
    refine ⟨some a, (List.range len).map f, cap, by simpa using h0, by simp; unfold maxLen at hm; omega, fun hne => ?_, fun y hy => ?_⟩
    · have hpos : 0 < len := by rcases Nat.eq_zero_or_pos len with e | e; · subst e; simp at hne
                                · exact e
      obtain ⟨hs, hbl⟩ := hsp hpos
      obtain ⟨b, off, sp⟩ := a
      obtain rfl : sp = none := hs
      refine ⟨b, off, rfl, hbl, fun i x hx => ?_⟩
      have hi : i < len := by have := (List.getElem?_eq_some_iff.1 hx).1; simpa using this
      rw [List.getElem?_map, List.getElem?_range hi] at hx
      obtain rfl : f i = x := by simpa using hx
      exact (hf i hi).2
    · obtain ⟨i, hi, rfl⟩ := List.mem_map.1 hy
      exact (hf i (List.mem_range.1 hi)).1
theorem read_a9s {fuel : Nat} {v : Value} {x : DataW H × List MemPlace} (h : DataW.trod enc Try.prog w base spare held fuel 22 [v] = some x) :
    ∃ A L c, v = .slice A (List.length L) c ∧ L.length ≤ 9223372036854775807 ∧ RowAt A9At 14 w A L ∧ ∀ y ∈ L, A9.Wf y :=
  read_row Try.underlying22 c35 (by omega) (fun _ _ _ _ _ hc h => read_a9 hc h) h
theorem read_a4s {fuel : Nat} {v : Value} {x : DataW H × List MemPlace} (h : DataW.trod enc Try.prog w base spare held fuel 46 [v] = some x) :
    ∃ A L c, v = .slice A (List.length L) c ∧ L.length ≤ 9223372036854775807 ∧ RowAt A4At 4 w A L ∧ ∀ y ∈ L, A4.Wf y :=
  read_row Try.underlying46 c52 (by omega) (fun _ _ _ _ _ hc h => read_a4 hc h) h
theorem read_outs {fuel : Nat} {v : Value} {x : DataW H × List MemPlace} (h : DataW.trod enc Try.prog w base spare held fuel 38 [v] = some x) :
    ∃ A L c, v = .slice A (List.length L) c ∧ L.length ≤ 9223372036854775807 ∧ RowAt OcAt 10 w A L ∧ ∀ y ∈ L, Ot.Wf y :=
  read_row Try.underlying38 c33 (by omega) (fun _ _ _ cs _ hc h => by obtain ⟨o, wo, e⟩ := read_out h; subst e; exact ⟨o, wo, ocAt_of hc⟩) h
theorem read_ints {fuel : Nat} {v : Value} {x : DataW H × List MemPlace} (h : DataW.trod enc Try.prog w base spare held fuel 28 [v] = some x) :
    ∃ A L c, v = .slice A (List.length L) c ∧ L.length ≤ 9223372036854775807 ∧ RowAt IntAt 1 w A L ∧ ∀ y ∈ L, InR y :=
  read_row Try.underlying28 c2 (by omega) (fun _ _ _ cs _ hc h => by obtain ⟨n, e, _, wn⟩ := DataW.trod_int Try.underlying2 h; subst e; exact ⟨n, inR_wf wn, hc 0 (by omega)⟩) h
end
end Go.Proofs.Ytmhbibcfbencnaa
