/- The book of moves: what the statements of chapter 19 said of it, here for chapter 23 · The acts that a coordinator's statements bring: messages and acts in memory -/
import Derived.Test.YteejdfpfdnkiiaaGreatCvD
import Derived.Deep.Slices
import Derived.ChangeArms
import Derived.ChangeSlices
import Derived.Deep.MidRow
import Derived.OpenShut
namespace Go.Proofs.YteejdfpfdnkiiaaGreat
section
open Go.RowKit Go.ChangeShapes Go.WideShapes Go.Deep
open Go.ChangeMaps (setBlock)
set_option linter.unusedSimpArgs false
set_option linter.unusedVariables false
theorem cell_plain {W : World} {a : Addr} {v : Value} (h : W.cell? a = some v) : a.spot = none ∧ a.block < W.heap.size := by
  refine ⟨?_, World.block_lt_of_cell? W a h⟩
  unfold World.cell? at h
  split at h
  · split at h
    · cases h
    · rename_i hs; cases hh : a.spot with
      | none => rfl
      | some x => rw [hh] at hs; exact absurd rfl hs
  · cases h
theorem add_at (b off j : Nat) : (⟨b, off, none⟩ : Addr).add j = ⟨b, off + j, none⟩ := by
  unfold Addr.add; split <;> simp_all
theorem add_zero (a : Addr) : a.add 0 = a := by unfold Addr.add; simp
section
variable {H : Type} {enc : TypeId × Value → H} {w : World} {base : Nat} {spare : Nat → Bool} {held : Bool}
theorem read_ints {fuel : Nat} {cs : List Value} {x : DataW H × List MemPlace} (h : DataW.trod enc Tryz.prog w base spare held fuel 22 cs = some x) :
    ∃ a l c, cs = [.slice a l.length c] ∧ IntsAt w a l := by
  rcases open_ints Tryz.underlying22 Tryz.underlying3 (by kernel_rfl) h with ⟨rfl, _⟩ | ⟨a, len, cap, zs, rfl, hb, hl, hm, hz, _, hc, _⟩
  · exact ⟨none, [], 0, rfl, fun h => absurd rfl h⟩
  · have hle : len ≤ zs.length := by rw [hz]; split <;> omega
    refine ⟨some a, zs.take len, cap, by rw [List.length_take, Nat.min_eq_left hle], fun hne => ?_⟩
    have h0 : 0 < len := by rcases Nat.eq_zero_or_pos len with e | e; · subst e; simp at hne
                            · exact e
    have hc0 := hc 0 (by omega)
    rw [add_zero] at hc0
    obtain ⟨hs, hbl⟩ := cell_plain hc0
    obtain ⟨b, off, sp⟩ := a
    obtain rfl : sp = none := hs
    refine ⟨b, off, rfl, hbl, fun j hj => ?_⟩
    rw [List.length_take, Nat.min_eq_left hle] at hj
    have := hc j (by omega)
    rw [add_at] at this
    rw [this, List.getElem?_take_of_lt hj, List.getD_eq_getElem?_getD]
set_option maxRecDepth 100000 in
theorem read_tb {fuel : Nat} {cs : List Value} {x : DataW H × List MemPlace} (h : DataW.trod enc Tryz.prog w base spare held fuel 24 cs = some x) :
    ∃ t : Tb, cs = [.int .i64 t.ep, .int .i64 t.nodes, .slice t.oa t.owner.length t.oc] ∧ IntsAt w t.oa t.owner := by
  obtain ⟨xs, n, _, _, hl, hlen, hf⟩ := DataW.trod_struct Tryz.underlying24 h
  rw [show Tryz.prog.cellsOf 24 = 3 by kernel_rfl] at hl
  match cs, hl with
  | [v0, v1, v2], _ =>
    have hlen' : xs.length = 3 := hlen
    match xs, hlen' with
    | [y0, y1, y2], _ =>
      have f0 : DataW.trod enc Tryz.prog w base spare held n 3 (([v0, v1, v2].drop 0).take (Tryz.prog.cellsOf 3)) = some y0 := hf 0 _ rfl
      have f1 : DataW.trod enc Tryz.prog w base spare held n 3 (([v0, v1, v2].drop 1).take (Tryz.prog.cellsOf 3)) = some y1 := hf 1 _ rfl
      have f2 : DataW.trod enc Tryz.prog w base spare held n 22 (([v0, v1, v2].drop 2).take (Tryz.prog.cellsOf 22)) = some y2 := hf 2 _ rfl
      obtain ⟨n0, e0, _⟩ := DataW.trod_int Tryz.underlying3 f0
      obtain ⟨n1, e1, _⟩ := DataW.trod_int Tryz.underlying3 f1
      obtain ⟨a, l, c, e2, hI⟩ := read_ints f2
      rw [show Tryz.prog.cellsOf 3 = 1 by kernel_rfl] at e0 e1
      rw [show Tryz.prog.cellsOf 22 = 1 by kernel_rfl] at e2
      refine ⟨⟨n0, n1, a, c, l⟩, ?_, hI⟩
      simp only [List.drop_zero, List.drop_succ_cons, List.take_succ_cons, List.take_zero, List.cons.injEq, and_true] at e0 e1 e2
      rw [e0, e1, e2]
end
/-- A book of this call's own: its map, its last number. -/
def Bk (base : Nat) (W : World) (p : Nat) (m : List (Int × En)) (last : Int) : Prop :=
  ∃ om, BookAt W p om m last ∧ (m.map (·.1)).Nodup ∧ 0 ≤ last ∧ last ≤ 2147483647 ∧ base ≤ p ∧ ∀ b, om = some b → base ≤ b
theorem Bk.below {base : Nat} {W W' : World} {p : Nat} {m : List (Int × En)} {last : Int} (h : Bk base W p m last) (hB : Below W.heap.size W W') : Bk base W' p m last := by
  obtain ⟨om, h1, h2⟩ := h
  exact ⟨om, h1.below hB, h2⟩
theorem Bk.alloc {base : Nat} {W : World} {p : Nat} {m : List (Int × En)} {last : Int} (h : Bk base W p m last) (o : Obj) : Bk base (W.alloc o) p m last :=
  h.below ((Below.refl _ W).alloc (Nat.le_refl _) o)
theorem Bk.lt {base : Nat} {W : World} {p : Nat} {m : List (Int × En)} {last : Int} (h : Bk base W p m last) : p < W.heap.size := by
  obtain ⟨om, h1, h2⟩ := h
  exact lt_of_heap h1.blk
theorem Bk.le {base : Nat} {W : World} {p : Nat} {m : List (Int × En)} {last : Int} (h : Bk base W p m last) : base ≤ p := by
  obtain ⟨om, h1, h2, h3, h4, h5, h6⟩ := h
  exact h5
theorem newS {base : Nat} (w : World) (hb : base ≤ w.heap.size) : Calls Tryz.prog 28 #[] w fun e w' => ∃ p, e = .returned (.pointer (some ⟨p, 0, none⟩)) ∧ Bk base w' p [] 0 ∧ Below base w w' ∧ p < w'.heap.size :=
  (new_any w).mono fun e w' ⟨he, hw⟩ => by
    subst hw
    exact ⟨w.heap.size, he, ⟨none, book_new w, by simp, by omega, by omega, hb, fun b h => by cases h⟩, (Below.refl _ w).alloc hb _, by simp⟩
theorem snoc_nodup {m : List (Int × En)} {k : Int} {v : En} (hn : (m.map (·.1)).Nodup) (hl : look k m = none) : ((m ++ [(k, v)]).map (·.1)).Nodup := by
  rw [List.map_append, List.nodup_append]
  refine ⟨hn, by simp, fun a ha b hb => ?_⟩
  obtain rfl : b = k := by simpa using hb
  obtain ⟨q, hq, rfl⟩ := List.mem_map.1 ha
  exact fun e => look_none.1 hl q hq e.symm
theorem del_nodup {m : List (Int × En)} {k : Int} (hn : (m.map (·.1)).Nodup) : ((del k m).map (·.1)).Nodup :=
  ((List.filter_sublist).map _).nodup hn
theorem ordF_nodup {t : Tb} {part to : Int} {m : List (Int × En)} {last : Int} (hn : (m.map (·.1)).Nodup) : ((ordF t part to m last).2.2.1.map (·.1)).Nodup := by
  unfold ordF
  split
  · exact hn
  · split
    · exact hn
    · rename_i h
      split
      · exact hn
      · have hl : look part m = none := by cases hh : look part m with | none => rfl | some v => rw [hh] at h; exact absurd rfl h
        exact snoc_nodup hn hl
theorem ordF_last {t : Tb} {part to : Int} {m : List (Int × En)} {last : Int} (h0 : 0 ≤ last) (h1 : last ≤ 2147483647) : 0 ≤ (ordF t part to m last).2.2.2 ∧ (ordF t part to m last).2.2.2 ≤ 2147483647 := by
  unfold ordF
  split
  · exact ⟨h0, h1⟩
  · split
    · exact ⟨h0, h1⟩
    · split
      · exact ⟨h0, h1⟩
      · exact ⟨by simp only []; omega, by simp only []; omega⟩
theorem foot_ge {base p : Nat} {om : Option Nat} (h : base ≤ p) (ho : ∀ b, om = some b → base ≤ b) : ∀ x ∈ foot p om, base ≤ x := by
  intro x hx
  rcases List.mem_cons.1 hx with e | e
  · rw [e]; exact h
  · exact ho x (by simpa using e)
theorem orderS {base : Nat} {w : World} {p : Nat} {m : List (Int × En)} {last : Int} (h : Bk base w p m last) (t : Tb) (hI : IntsAt w t.oa t.owner) (hsep : t.owner ≠ [] → ∀ a, t.oa = some a → a.block ≠ p) (part to : Int) :
    Calls Tryz.prog 30 #[.pointer (some ⟨p, 0, none⟩), t.val, .int .i64 part, .int .i64 to] w fun e w' =>
      e = .returned (.tuple #[.int .i64 (ordF t part to m last).1, .int .i64 (ordF t part to m last).2.1]) ∧ Bk base w' p (ordF t part to m last).2.2.1 (ordF t part to m last).2.2.2 ∧ Below base w w' := by
  obtain ⟨om, h1, h2, h3, h4, h5, h6⟩ := h
  refine (order_any h1 h2 h3 t hI hsep part to).mono ?_
  rintro e w' ⟨he, ⟨om', hb, ho⟩, hk⟩
  have hp : p < w.heap.size := lt_of_heap h1.blk
  refine ⟨he, ⟨om', hb, ordF_nodup h2, (ordF_last h3 h4).1, (ordF_last h3 h4).2, h5, ?_⟩, hk.below (by omega) (foot_ge h5 h6)⟩
  intro b hbb
  rcases ho with e1 | ⟨_, b', e2, e3⟩
  · exact h6 b (e1 ▸ hbb)
  · rw [e2] at hbb
    obtain rfl : b' = b := by simpa using hbb
    omega
theorem endS {base : Nat} {w : World} {p : Nat} {m : List (Int × En)} {last : Int} (h : Bk base w p m last) (k : Int) :
    Calls Tryz.prog 50 #[.pointer (some ⟨p, 0, none⟩), .int .i64 k] w fun e w' => e = .returned (.bool (look k m).isSome) ∧ Bk base w' p (del k m) last ∧ Below base w w' := by
  obtain ⟨om, h1, h2, h3, h4, h5, h6⟩ := h
  have hp : p < w.heap.size := lt_of_heap h1.blk
  exact (end_book h1 h2 k).mono fun e w' ⟨he, hb, hk⟩ => ⟨he, ⟨om, hb, del_nodup h2, h3, h4, h5, h6⟩, hk.below (by omega) (foot_ge h5 h6)⟩
theorem ofS {base : Nat} {w : World} {p : Nat} {m : List (Int × En)} {last : Int} (h : Bk base w p m last) (k : Int) :
    Calls Tryz.prog 31 #[.pointer (some ⟨p, 0, none⟩), .int .i64 k] w fun e w' => e = .returned (.tuple #[((look k m).getD En.zero).val, .bool (look k m).isSome]) ∧ Below w.heap.size w w' := by
  obtain ⟨om, h1, _⟩ := h
  exact of_any h1 k
end
section
open Go.RowKit Go.ChangeShapes Go.WideShapes Go.Deep
set_option linter.unusedSimpArgs false
set_option linter.unusedVariables false
def InR (x : Int) : Prop := -9223372036854775808 ≤ x ∧ x ≤ 9223372036854775807
/-- A message's cells: what a coordinator reads of it. -/
structure MsW (ms : List Value) (k : Nat) (mv pt cd : Int) : Prop where
  len : ms.length = 22
  c0 : ms[0]? = some (.int .u8 k)
  c1 : ms[1]? = some (.int .i64 mv)
  c2 : ms[2]? = some (.int .i64 pt)
  c6 : ms[6]? = some (.int .i64 cd)
  c13 : ∃ s, ms[13]? = some (.string s)
  c19 : ∃ a n c, ms[19]? = some (.slice a n c)
  c20 : ∃ a n c, ms[20]? = some (.slice a n c)
  c21 : ∃ s, ms[21]? = some (.string s)
  one : ∀ v ∈ ms, v.oneCell' = true
/-- An act. -/
structure Ac where
  dd : Int
  part : Int
  to : Int
  fr : Int
  ms : List Value
  k : Nat
  mv : Int
  pt : Int
  cd : Int
  wh : Int
  code : Int
instance : Inhabited Ac := ⟨⟨0, 0, 0, 0, [], 0, 0, 0, 0, 0, 0⟩⟩
def Ac.Ok (x : Ac) : Prop := MsW x.ms x.k x.mv x.pt x.cd ∧ InR x.wh
def Ac.cells (x : Ac) : List Value := .int .i64 x.dd :: .int .i64 x.part :: .int .i64 x.to :: .int .i64 x.fr :: (x.ms ++ [.int .i64 x.wh, .int .i64 x.code])
def AcAt (W : World) (b o : Nat) (x : Ac) : Prop := W.rangeAt b o x.cells
theorem AcAt.keep {X : List Nat} {W W' : World} {b o : Nat} {x : Ac} (h : AcAt W b o x) (hk : Keep X W W') (hl : b < W.heap.size) (hb : b ∉ X) : AcAt W' b o x :=
  fun j v hj => (hk.cell _ hl hb).trans (h j v hj)
theorem Ac.len {x : Ac} (h : x.Ok) : x.cells.length = 28 := by simp [Ac.cells, h.1.len]
theorem Ac.mid {x : Ac} (h : x.Ok) {j : Nat} (hj : j < 22) : x.cells[4 + j]? = x.ms[j]? := by
  unfold Ac.cells
  rw [Nat.add_comm 4 j]
  simp only [List.getElem?_cons_succ]
  exact List.getElem?_append_left (by rw [h.1.len]; exact hj)
theorem Ac.end0 {x : Ac} (h : x.Ok) : x.cells[26]? = some (.int .i64 x.wh) := by
  unfold Ac.cells
  simp only [List.getElem?_cons_succ]
  rw [List.getElem?_append_right (by rw [h.1.len]; omega)]
  rw [h.1.len]
  rfl
theorem Ac.end1 {x : Ac} (h : x.Ok) : x.cells[27]? = some (.int .i64 x.code) := by
  unfold Ac.cells
  simp only [List.getElem?_cons_succ]
  rw [List.getElem?_append_right (by rw [h.1.len]; omega)]
  rw [h.1.len]
  rfl
theorem AcAt.mid {W : World} {b o : Nat} {x : Ac} (h : AcAt W b o x) (hx : x.Ok) : W.rangeAt b (o + 4) x.ms := fun j v hj => by
  have hj2 : j < 22 := by have := (List.getElem?_eq_some_iff.1 hj).1; rw [hx.1.len] at this; exact this
  have := h (4 + j) v ((Ac.mid hx hj2).trans hj)
  rw [← Nat.add_assoc] at this
  exact this
/-- A row of elements, whatever they are, in memory: at 'S' cells each. -/
def RowAt {α : Type} (at_ : World → Nat → Nat → α → Prop) (S : Nat) (W : World) (A : Option Addr) (L : List α) : Prop :=
  L ≠ [] → ∃ b off, A = some ⟨b, off, none⟩ ∧ b < W.heap.size ∧ ∀ i x, L[i]? = some x → at_ W b (off + i * S) x
theorem RowAt.keep {α : Type} {at_ : World → Nat → Nat → α → Prop} {S : Nat} {X : List Nat} {W W' : World} {A : Option Addr} {L : List α} (hat : ∀ b o x, b < W.heap.size → b ∉ X → at_ W b o x → at_ W' b o x)
    (h : RowAt at_ S W A L) (hk : Keep X W W') (hx : L ≠ [] → ∀ b off, A = some ⟨b, off, none⟩ → b ∉ X) : RowAt at_ S W' A L := by
  intro hL
  obtain ⟨b, off, h1, h2, h3⟩ := h hL
  exact ⟨b, off, h1, Nat.lt_of_lt_of_le h2 hk.size, fun i x hi => hat b _ x h2 (hx hL b off h1) (h3 i x hi)⟩
theorem RowAt.far {α : Type} {at_ : World → Nat → Nat → α → Prop} {S : Nat} {W : World} {A : Option Addr} {L : List α} (h : RowAt at_ S W A L) {q : Nat} (hq : W.heap.size ≤ q) : L ≠ [] → ∀ b off, A = some ⟨b, off, none⟩ → b ≠ q := fun hL b off hA => by
  obtain ⟨b', off', h1, h2, _⟩ := h hL
  rw [hA] at h1; cases h1; omega
section
variable {H : Type} {enc : TypeId × Value → H} {w : World} {base : Nat} {spare : Nat → Bool} {held : Bool}
theorem cMsg : Tryz.prog.cellsOf 47 = 22 := by kernel_rfl
theorem cAct : Tryz.prog.cellsOf 56 = 28 := by kernel_rfl
theorem cI : Tryz.prog.cellsOf 3 = 1 := by kernel_rfl
theorem cS : Tryz.prog.cellsOf 9 = 1 := by kernel_rfl
theorem cB : Tryz.prog.cellsOf 5 = 1 := by kernel_rfl
theorem cU : Tryz.prog.cellsOf 43 = 1 := by kernel_rfl
theorem cL : Tryz.prog.cellsOf 2 = 1 := by kernel_rfl
theorem cIs : Tryz.prog.cellsOf 22 = 1 := by kernel_rfl
theorem cTb : Tryz.prog.cellsOf 24 = 3 := by kernel_rfl
theorem cIt : Tryz.prog.cellsOf 45 = 8 := by kernel_rfl
theorem inR_wf {n : Int} (h : (Lit.int .i64 n).wf = true) : InR n := by
  simp [Lit.wf, IntKind.min, IntKind.max, IntKind.signed, IntKind.bits] at h
  unfold InR; omega
set_option maxRecDepth 100000 in
theorem read_it {fuel : Nat} {cs : List Value} {x : DataW H × List MemPlace} (h : DataW.trod enc Tryz.prog w base spare held fuel 45 cs = some x) :
    ∃ (i0 i1 i2 i3 : Int) (i4 : ByteArray) (i5 i6 i7 : Int), cs = [.int .i64 i0, .int .i64 i1, .int .i64 i2, .int .u8 i3, .string i4, .int .i64 i5, .int .i64 i6, .int .i64 i7] := by
  obtain ⟨xs, n, _, _, hl, hlen, hf⟩ := DataW.trod_struct Tryz.underlying45 h
  rw [cIt] at hl
  match cs, hl with
  | [v0, v1, v2, v3, v4, v5, v6, v7], _ =>
    have hlen' : xs.length = 8 := hlen
    match xs, hlen' with
    | [y0, y1, y2, y3, y4, y5, y6, y7], _ =>
      have f0 : DataW.trod enc Tryz.prog w base spare held n 3 (([v0, v1, v2, v3, v4, v5, v6, v7].drop 0).take (Tryz.prog.cellsOf 3)) = some y0 := hf 0 _ rfl
      rw [cI] at f0
      obtain ⟨n0, e0, _, w0⟩ := DataW.trod_int Tryz.underlying3 f0
      have f1 : DataW.trod enc Tryz.prog w base spare held n 3 (([v0, v1, v2, v3, v4, v5, v6, v7].drop 1).take (Tryz.prog.cellsOf 3)) = some y1 := hf 1 _ rfl
      rw [cI] at f1
      obtain ⟨n1, e1, _, w1⟩ := DataW.trod_int Tryz.underlying3 f1
      have f2 : DataW.trod enc Tryz.prog w base spare held n 3 (([v0, v1, v2, v3, v4, v5, v6, v7].drop 2).take (Tryz.prog.cellsOf 3)) = some y2 := hf 2 _ rfl
      rw [cI] at f2
      obtain ⟨n2, e2, _, w2⟩ := DataW.trod_int Tryz.underlying3 f2
      have f3 : DataW.trod enc Tryz.prog w base spare held n 5 (([v0, v1, v2, v3, v4, v5, v6, v7].drop 3).take (Tryz.prog.cellsOf 5)) = some y3 := hf 3 _ rfl
      rw [cB] at f3
      obtain ⟨n3, e3, _, w3⟩ := DataW.trod_int Tryz.underlying5 f3
      have f4 : DataW.trod enc Tryz.prog w base spare held n 9 (([v0, v1, v2, v3, v4, v5, v6, v7].drop 4).take (Tryz.prog.cellsOf 9)) = some y4 := hf 4 _ rfl
      rw [cS] at f4
      obtain ⟨s4, e4, _, _⟩ := DataW.trod_string Tryz.underlying9 f4
      have f5 : DataW.trod enc Tryz.prog w base spare held n 3 (([v0, v1, v2, v3, v4, v5, v6, v7].drop 5).take (Tryz.prog.cellsOf 3)) = some y5 := hf 5 _ rfl
      rw [cI] at f5
      obtain ⟨n5, e5, _, w5⟩ := DataW.trod_int Tryz.underlying3 f5
      have f6 : DataW.trod enc Tryz.prog w base spare held n 2 (([v0, v1, v2, v3, v4, v5, v6, v7].drop 6).take (Tryz.prog.cellsOf 2)) = some y6 := hf 6 _ rfl
      rw [cL] at f6
      obtain ⟨n6, e6, _, w6⟩ := DataW.trod_int Tryz.underlying2 f6
      have f7 : DataW.trod enc Tryz.prog w base spare held n 2 (([v0, v1, v2, v3, v4, v5, v6, v7].drop 7).take (Tryz.prog.cellsOf 2)) = some y7 := hf 7 _ rfl
      rw [cL] at f7
      obtain ⟨n7, e7, _, w7⟩ := DataW.trod_int Tryz.underlying2 f7
      simp only [List.drop_zero, List.drop_succ_cons, List.take_succ_cons, List.take_zero, List.cons.injEq, and_true] at e0 e1 e2 e3 e4 e5 e6 e7
      exact ⟨n0, n1, n2, n3, s4, n5, n6, n7, by rw [e0, e1, e2, e3, e4, e5, e6, e7]⟩
set_option maxRecDepth 100000 in
theorem read_msg {fuel : Nat} {cs : List Value} {x : DataW H × List MemPlace} (h : DataW.trod enc Tryz.prog w base spare held fuel 47 cs = some x) :
    ∃ (k : Nat) (mv pt cd : Int), MsW cs k mv pt cd := by
  obtain ⟨xs, n, _, _, hl, hlen, hf⟩ := DataW.trod_struct Tryz.underlying47 h
  rw [cMsg] at hl
  match cs, hl with
  | [v0, v1, v2, v3, v4, v5, v6, v7, v8, v9, v10, v11, v12, v13, v14, v15, v16, v17, v18, v19, v20, v21], _ =>
    have hlen' : xs.length = 13 := hlen
    match xs, hlen' with
    | [y0, y1, y2, y3, y4, y5, y6, y7, y8, y9, y10, y11, y12], _ =>
      have f0 : DataW.trod enc Tryz.prog w base spare held n 5 (([v0, v1, v2, v3, v4, v5, v6, v7, v8, v9, v10, v11, v12, v13, v14, v15, v16, v17, v18, v19, v20, v21].drop 0).take (Tryz.prog.cellsOf 5)) = some y0 := hf 0 _ rfl
      rw [cB] at f0
      obtain ⟨n0, e0, _, w0⟩ := DataW.trod_int Tryz.underlying5 f0
      have f1 : DataW.trod enc Tryz.prog w base spare held n 3 (([v0, v1, v2, v3, v4, v5, v6, v7, v8, v9, v10, v11, v12, v13, v14, v15, v16, v17, v18, v19, v20, v21].drop 1).take (Tryz.prog.cellsOf 3)) = some y1 := hf 1 _ rfl
      rw [cI] at f1
      obtain ⟨n1, e1, _, w1⟩ := DataW.trod_int Tryz.underlying3 f1
      have f2 : DataW.trod enc Tryz.prog w base spare held n 3 (([v0, v1, v2, v3, v4, v5, v6, v7, v8, v9, v10, v11, v12, v13, v14, v15, v16, v17, v18, v19, v20, v21].drop 2).take (Tryz.prog.cellsOf 3)) = some y2 := hf 2 _ rfl
      rw [cI] at f2
      obtain ⟨n2, e2, _, w2⟩ := DataW.trod_int Tryz.underlying3 f2
      have f3 : DataW.trod enc Tryz.prog w base spare held n 3 (([v0, v1, v2, v3, v4, v5, v6, v7, v8, v9, v10, v11, v12, v13, v14, v15, v16, v17, v18, v19, v20, v21].drop 3).take (Tryz.prog.cellsOf 3)) = some y3 := hf 3 _ rfl
      rw [cI] at f3
      obtain ⟨n3, e3, _, w3⟩ := DataW.trod_int Tryz.underlying3 f3
      have f4 : DataW.trod enc Tryz.prog w base spare held n 3 (([v0, v1, v2, v3, v4, v5, v6, v7, v8, v9, v10, v11, v12, v13, v14, v15, v16, v17, v18, v19, v20, v21].drop 4).take (Tryz.prog.cellsOf 3)) = some y4 := hf 4 _ rfl
      rw [cI] at f4
      obtain ⟨n4, e4, _, w4⟩ := DataW.trod_int Tryz.underlying3 f4
      have f5 : DataW.trod enc Tryz.prog w base spare held n 3 (([v0, v1, v2, v3, v4, v5, v6, v7, v8, v9, v10, v11, v12, v13, v14, v15, v16, v17, v18, v19, v20, v21].drop 5).take (Tryz.prog.cellsOf 3)) = some y5 := hf 5 _ rfl
      rw [cI] at f5
      obtain ⟨n5, e5, _, w5⟩ := DataW.trod_int Tryz.underlying3 f5
      have f6 : DataW.trod enc Tryz.prog w base spare held n 3 (([v0, v1, v2, v3, v4, v5, v6, v7, v8, v9, v10, v11, v12, v13, v14, v15, v16, v17, v18, v19, v20, v21].drop 6).take (Tryz.prog.cellsOf 3)) = some y6 := hf 6 _ rfl
      rw [cI] at f6
      obtain ⟨n6, e6, _, w6⟩ := DataW.trod_int Tryz.underlying3 f6
      have f7 : DataW.trod enc Tryz.prog w base spare held n 43 (([v0, v1, v2, v3, v4, v5, v6, v7, v8, v9, v10, v11, v12, v13, v14, v15, v16, v17, v18, v19, v20, v21].drop 7).take (Tryz.prog.cellsOf 43)) = some y7 := hf 7 _ rfl
      rw [cU] at f7
      obtain ⟨n7, e7, _, w7⟩ := DataW.trod_int Tryz.underlying43 f7
      have f8 : DataW.trod enc Tryz.prog w base spare held n 2 (([v0, v1, v2, v3, v4, v5, v6, v7, v8, v9, v10, v11, v12, v13, v14, v15, v16, v17, v18, v19, v20, v21].drop 8).take (Tryz.prog.cellsOf 2)) = some y8 := hf 8 _ rfl
      rw [cL] at f8
      obtain ⟨n8, e8, _, w8⟩ := DataW.trod_int Tryz.underlying2 f8
      have f9 : DataW.trod enc Tryz.prog w base spare held n 45 (([v0, v1, v2, v3, v4, v5, v6, v7, v8, v9, v10, v11, v12, v13, v14, v15, v16, v17, v18, v19, v20, v21].drop 9).take (Tryz.prog.cellsOf 45)) = some y9 := hf 9 _ rfl
      rw [cIt] at f9
      obtain ⟨i0, i1, i2, i3, i4, i5, i6, i7, e9⟩ := read_it f9
      have f10 : DataW.trod enc Tryz.prog w base spare held n 24 (([v0, v1, v2, v3, v4, v5, v6, v7, v8, v9, v10, v11, v12, v13, v14, v15, v16, v17, v18, v19, v20, v21].drop 17).take (Tryz.prog.cellsOf 24)) = some y10 := hf 10 _ rfl
      rw [cTb] at f10
      obtain ⟨t10, e10, _⟩ := read_tb f10
      have f11 : DataW.trod enc Tryz.prog w base spare held n 22 (([v0, v1, v2, v3, v4, v5, v6, v7, v8, v9, v10, v11, v12, v13, v14, v15, v16, v17, v18, v19, v20, v21].drop 20).take (Tryz.prog.cellsOf 22)) = some y11 := hf 11 _ rfl
      rw [cIs] at f11
      obtain ⟨a11, l11, c11, e11, _⟩ := read_ints f11
      have f12 : DataW.trod enc Tryz.prog w base spare held n 9 (([v0, v1, v2, v3, v4, v5, v6, v7, v8, v9, v10, v11, v12, v13, v14, v15, v16, v17, v18, v19, v20, v21].drop 21).take (Tryz.prog.cellsOf 9)) = some y12 := hf 12 _ rfl
      rw [cS] at f12
      obtain ⟨s12, e12, _, _⟩ := DataW.trod_string Tryz.underlying9 f12
      simp only [List.drop_zero, List.drop_succ_cons, List.take_succ_cons, List.take_zero, List.cons.injEq, and_true] at e0 e1 e2 e3 e4 e5 e6 e7 e8 e9 e10 e11 e12
      obtain ⟨e90, e91, e92, e93, e94, e95, e96, e97⟩ := e9
      obtain ⟨e100, e101, e102⟩ := e10
      have hk : ((n0.toNat : Nat) : Int) = n0 := by
        simp [Lit.wf, IntKind.min, IntKind.max, IntKind.signed, IntKind.bits] at w0
        omega
      subst e0 e1 e2 e3 e4 e5 e6 e7 e8 e90 e91 e92 e93 e94 e95 e96 e97 e100 e101 e102 e11 e12
      refine ⟨n0.toNat, n1, n2, n6, ⟨rfl, ?_, rfl, rfl, rfl, ⟨_, rfl⟩, ⟨_, _, _, rfl⟩, ⟨_, _, _, rfl⟩, ⟨_, rfl⟩, fun v hv => ?_⟩⟩
      · rw [hk]; rfl
      · simp only [List.mem_cons, List.not_mem_nil, or_false] at hv
        rcases hv with rfl | rfl | rfl | rfl | rfl | rfl | rfl | rfl | rfl | rfl | rfl | rfl | rfl | rfl | rfl | rfl | rfl | rfl | rfl | rfl | rfl | rfl <;> rfl
set_option maxRecDepth 100000 in
theorem read_act {fuel : Nat} {b off : Nat} {cs : List Value} {x : DataW H × List MemPlace} (hc : ∀ i, i < 28 → w.cell? ⟨b, off + i, none⟩ = cs[i]?) (h : DataW.trod enc Tryz.prog w base spare held fuel 56 cs = some x) :
    ∃ x : Ac, x.Ok ∧ AcAt w b off x := by
  obtain ⟨xs, n, _, _, hl, hlen, hf⟩ := DataW.trod_struct Tryz.underlying56 h
  rw [cAct] at hl
  match cs, hl with
  | [v0, v1, v2, v3, v4, v5, v6, v7, v8, v9, v10, v11, v12, v13, v14, v15, v16, v17, v18, v19, v20, v21, v22, v23, v24, v25, v26, v27], _ =>
    have hlen' : xs.length = 7 := hlen
    match xs, hlen' with
    | [y0, y1, y2, y3, y4, y5, y6], _ =>
      have f0 : DataW.trod enc Tryz.prog w base spare held n 3 (([v0, v1, v2, v3, v4, v5, v6, v7, v8, v9, v10, v11, v12, v13, v14, v15, v16, v17, v18, v19, v20, v21, v22, v23, v24, v25, v26, v27].drop 0).take (Tryz.prog.cellsOf 3)) = some y0 := hf 0 _ rfl
      rw [cI] at f0
      obtain ⟨n0, e0, _, w0⟩ := DataW.trod_int Tryz.underlying3 f0
      have f1 : DataW.trod enc Tryz.prog w base spare held n 3 (([v0, v1, v2, v3, v4, v5, v6, v7, v8, v9, v10, v11, v12, v13, v14, v15, v16, v17, v18, v19, v20, v21, v22, v23, v24, v25, v26, v27].drop 1).take (Tryz.prog.cellsOf 3)) = some y1 := hf 1 _ rfl
      rw [cI] at f1
      obtain ⟨n1, e1, _, w1⟩ := DataW.trod_int Tryz.underlying3 f1
      have f2 : DataW.trod enc Tryz.prog w base spare held n 3 (([v0, v1, v2, v3, v4, v5, v6, v7, v8, v9, v10, v11, v12, v13, v14, v15, v16, v17, v18, v19, v20, v21, v22, v23, v24, v25, v26, v27].drop 2).take (Tryz.prog.cellsOf 3)) = some y2 := hf 2 _ rfl
      rw [cI] at f2
      obtain ⟨n2, e2, _, w2⟩ := DataW.trod_int Tryz.underlying3 f2
      have f3 : DataW.trod enc Tryz.prog w base spare held n 3 (([v0, v1, v2, v3, v4, v5, v6, v7, v8, v9, v10, v11, v12, v13, v14, v15, v16, v17, v18, v19, v20, v21, v22, v23, v24, v25, v26, v27].drop 3).take (Tryz.prog.cellsOf 3)) = some y3 := hf 3 _ rfl
      rw [cI] at f3
      obtain ⟨n3, e3, _, w3⟩ := DataW.trod_int Tryz.underlying3 f3
      have f4 : DataW.trod enc Tryz.prog w base spare held n 47 (([v0, v1, v2, v3, v4, v5, v6, v7, v8, v9, v10, v11, v12, v13, v14, v15, v16, v17, v18, v19, v20, v21, v22, v23, v24, v25, v26, v27].drop 4).take (Tryz.prog.cellsOf 47)) = some y4 := hf 4 _ rfl
      rw [cMsg] at f4
      obtain ⟨k, mv, pt, cd, hm⟩ := read_msg f4
      have f5 : DataW.trod enc Tryz.prog w base spare held n 3 (([v0, v1, v2, v3, v4, v5, v6, v7, v8, v9, v10, v11, v12, v13, v14, v15, v16, v17, v18, v19, v20, v21, v22, v23, v24, v25, v26, v27].drop 26).take (Tryz.prog.cellsOf 3)) = some y5 := hf 5 _ rfl
      rw [cI] at f5
      obtain ⟨n5, e5, _, w5⟩ := DataW.trod_int Tryz.underlying3 f5
      have f6 : DataW.trod enc Tryz.prog w base spare held n 3 (([v0, v1, v2, v3, v4, v5, v6, v7, v8, v9, v10, v11, v12, v13, v14, v15, v16, v17, v18, v19, v20, v21, v22, v23, v24, v25, v26, v27].drop 27).take (Tryz.prog.cellsOf 3)) = some y6 := hf 6 _ rfl
      rw [cI] at f6
      obtain ⟨n6, e6, _, w6⟩ := DataW.trod_int Tryz.underlying3 f6
      simp only [List.drop_zero, List.drop_succ_cons, List.take_succ_cons, List.take_zero, List.cons.injEq, and_true] at e0 e1 e2 e3 e5 e6
      subst e0 e1 e2 e3 e5 e6
      refine ⟨⟨n0, n1, n2, n3, _, k, mv, pt, cd, n5, n6⟩, ⟨hm, inR_wf w5⟩, fun j v hj => ?_⟩
      have hj2 : j < 28 := (List.getElem?_eq_some_iff.1 hj).1
      exact (hc j hj2).trans hj
/-- A slice of whatever elements. -/
theorem read_row {α : Type} [Inhabited α] {at_ : World → Nat → Nat → α → Prop} {wf : α → Prop} {T E : TypeId} {S : Nat} (hT : Tryz.prog.underlying T = some (.slice E)) (hS : Tryz.prog.cellsOf E = S) (hS0 : 0 < S)
    (hr : ∀ (fuel b off : Nat) (cs : List Value) (x : DataW H × List MemPlace), (∀ i, i < S → w.cell? ⟨b, off + i, none⟩ = cs[i]?) → DataW.trod enc Tryz.prog w base spare held fuel E cs = some x → ∃ y : α, wf y ∧ at_ w b off y)
    {fuel : Nat} {v : Value} {x : DataW H × List MemPlace} (h : DataW.trod enc Tryz.prog w base spare held fuel T [v] = some x) :
    ∃ A L c, v = .slice A (List.length L) c ∧ L.length ≤ 9223372036854775807 ∧ RowAt at_ S w A L ∧ ∀ y ∈ L, wf y := by
  rcases open_slice hT h with ⟨h0, _⟩ | ⟨a, len, cap, m, n, D, Pl, h0, hb, hl, hm, hmm, _, hx⟩
  · exact ⟨none, [], 0, by simpa using h0, by simp, fun h => absurd rfl h, fun _ h => by cases h⟩
  · have hle : len ≤ m := by rw [hmm]; split <;> omega
    rw [hS] at hx
    have hsp : 0 < len → a.spot = none ∧ a.block < w.heap.size := by
      intro hpos
      obtain ⟨cs', h1, h2⟩ := hx 0 (by omega)
      obtain ⟨_, hcl, hcc⟩ := World.cells?_some h1
      have hc0 := hcc 0 (by omega)
      rw [List.getElem?_eq_getElem (by omega), Nat.zero_mul, add_zero, add_zero] at hc0
      exact cell_plain hc0
    have key : ∀ i, i < len → ∃ y : α, wf y ∧ at_ w a.block (a.off + i * S) y := by
      intro i hi
      obtain ⟨cs', h1, h2⟩ := hx i (by omega)
      obtain ⟨_, hcl, hcc⟩ := World.cells?_some h1
      obtain ⟨hs, hbl⟩ := hsp (by omega)
      obtain ⟨b, off, sp⟩ := a
      obtain rfl : sp = none := hs
      exact hr _ b _ cs' _ (fun j hj => by have := hcc j (by omega); rwa [add_at, add_at] at this) h2
    obtain ⟨f, hf⟩ := choose_lt key
    refine ⟨some a, (List.range len).map f, cap, by simpa using h0, by simp; unfold maxLen at hm; omega, fun hne => ?_, fun y hy => ?_⟩
    · have hpos : 0 < len := by rcases Nat.eq_zero_or_pos len with e | e; · subst e; simp at hne
                                · exact e
      obtain ⟨hs, hbl⟩ := hsp hpos
      obtain ⟨b, off, sp⟩ := a
      obtain rfl : sp = none := hs
      refine ⟨b, off, rfl, hbl, fun i x hx => ?_⟩
      have hi : i < len := by have := (List.getElem?_eq_some_iff.1 hx).1; simpa using this
      rw [List.getElem?_map, List.getElem?_range hi] at hx
      obtain rfl : f i = x := by simpa using hx
      exact (hf i hi).2
    · obtain ⟨i, hi, rfl⟩ := List.mem_map.1 hy
      exact (hf i (List.mem_range.1 hi)).1
theorem read_cacts {fuel : Nat} {v : Value} {x : DataW H × List MemPlace} (h : DataW.trod enc Tryz.prog w base spare held fuel 25 [v] = some x) :
    ∃ A L c, v = .slice A (List.length L) c ∧ L.length ≤ 9223372036854775807 ∧ RowAt AcAt 28 w A L ∧ ∀ y ∈ L, Ac.Ok y :=
  read_row Tryz.underlying25 cAct (by omega) (fun _ _ _ _ _ hc h => read_act hc h) h
end
end
end Go.Proofs.YteejdfpfdnkiiaaGreat
