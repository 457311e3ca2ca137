/- The book of moves: what the statements of chapter 19 said of it, here for chapter 23. -/
import Derived.Test.YtdnfibecobodkaaGreatCvD
import Derived.Deep.Slices
import Derived.ChangeArms
import Derived.ChangeSlices
namespace Go.Proofs.YtdnfibecobodkaaGreat
open Go.RowKit Go.ChangeShapes Go.WideShapes Go.Deep
open Go.ChangeMaps (setBlock)
set_option linter.unusedSimpArgs false
set_option linter.unusedVariables false
theorem cell_plain {W : World} {a : Addr} {v : Value} (h : W.cell? a = some v) : a.spot = none ∧ a.block < W.heap.size := by
  refine ⟨?_, World.block_lt_of_cell? W a h⟩
  unfold World.cell? at h
  split at h
  · split at h
    · cases h
    · rename_i hs; cases hh : a.spot with
      | none => rfl
      | some x => rw [hh] at hs; exact absurd rfl hs
  · cases h
theorem add_at (b off j : Nat) : (⟨b, off, none⟩ : Addr).add j = ⟨b, off + j, none⟩ := by
  unfold Addr.add; split <;> simp_all
theorem add_zero (a : Addr) : a.add 0 = a := by unfold Addr.add; simp
section
variable {H : Type} {enc : TypeId × Value → H} {w : World} {base : Nat} {spare : Nat → Bool} {held : Bool}
theorem read_ints {fuel : Nat} {cs : List Value} {x : DataW H × List MemPlace} (h : DataW.trod enc Tryz.prog w base spare held fuel 26 cs = some x) :
    ∃ a l c, cs = [.slice a l.length c] ∧ IntsAt w a l := by
  rcases open_ints Tryz.underlying26 Tryz.underlying3 (by kernel_rfl) h with ⟨rfl, _⟩ | ⟨a, len, cap, zs, rfl, hb, hl, hm, hz, _, hc, _⟩
  · exact ⟨none, [], 0, rfl, fun h => absurd rfl h⟩
  · have hle : len ≤ zs.length := by rw [hz]; split <;> omega
    refine ⟨some a, zs.take len, cap, by rw [List.length_take, Nat.min_eq_left hle], fun hne => ?_⟩
    have h0 : 0 < len := by rcases Nat.eq_zero_or_pos len with e | e; · subst e; simp at hne
                            · exact e
    have hc0 := hc 0 (by omega)
    rw [add_zero] at hc0
    obtain ⟨hs, hbl⟩ := cell_plain hc0
    obtain ⟨b, off, sp⟩ := a
    obtain rfl : sp = none := hs
    refine ⟨b, off, rfl, hbl, fun j hj => ?_⟩
    rw [List.length_take, Nat.min_eq_left hle] at hj
    have := hc j (by omega)
    rw [add_at] at this
    rw [this, List.getElem?_take_of_lt hj, List.getD_eq_getElem?_getD]
set_option maxRecDepth 100000 in
theorem read_tb {fuel : Nat} {cs : List Value} {x : DataW H × List MemPlace} (h : DataW.trod enc Tryz.prog w base spare held fuel 28 cs = some x) :
    ∃ t : Tb, cs = [.int .i64 t.ep, .int .i64 t.nodes, .slice t.oa t.owner.length t.oc] ∧ IntsAt w t.oa t.owner := by
  obtain ⟨xs, n, _, _, hl, hlen, hf⟩ := DataW.trod_struct Tryz.underlying28 h
  rw [show Tryz.prog.cellsOf 28 = 3 by kernel_rfl] at hl
  match cs, hl with
  | [v0, v1, v2], _ =>
    have hlen' : xs.length = 3 := hlen
    match xs, hlen' with
    | [y0, y1, y2], _ =>
      have f0 : DataW.trod enc Tryz.prog w base spare held n 3 (([v0, v1, v2].drop 0).take (Tryz.prog.cellsOf 3)) = some y0 := hf 0 _ rfl
      have f1 : DataW.trod enc Tryz.prog w base spare held n 3 (([v0, v1, v2].drop 1).take (Tryz.prog.cellsOf 3)) = some y1 := hf 1 _ rfl
      have f2 : DataW.trod enc Tryz.prog w base spare held n 26 (([v0, v1, v2].drop 2).take (Tryz.prog.cellsOf 26)) = some y2 := hf 2 _ rfl
      obtain ⟨n0, e0, _⟩ := DataW.trod_int Tryz.underlying3 f0
      obtain ⟨n1, e1, _⟩ := DataW.trod_int Tryz.underlying3 f1
      obtain ⟨a, l, c, e2, hI⟩ := read_ints f2
      rw [show Tryz.prog.cellsOf 3 = 1 by kernel_rfl] at e0 e1
      rw [show Tryz.prog.cellsOf 26 = 1 by kernel_rfl] at e2
      refine ⟨⟨n0, n1, a, c, l⟩, ?_, hI⟩
      simp only [List.drop_zero, List.drop_succ_cons, List.take_succ_cons, List.take_zero, List.cons.injEq, and_true] at e0 e1 e2
      rw [e0, e1, e2]
end
/-- A book of this call's own: its map, its last number. -/
def Bk (base : Nat) (W : World) (p : Nat) (m : List (Int × En)) (last : Int) : Prop :=
  ∃ om, BookAt W p om m last ∧ (m.map (·.1)).Nodup ∧ 0 ≤ last ∧ last ≤ 2147483647 ∧ base ≤ p ∧ ∀ b, om = some b → base ≤ b
theorem Bk.below {base : Nat} {W W' : World} {p : Nat} {m : List (Int × En)} {last : Int} (h : Bk base W p m last) (hB : Below W.heap.size W W') : Bk base W' p m last := by
  obtain ⟨om, h1, h2⟩ := h
  exact ⟨om, h1.below hB, h2⟩
theorem Bk.alloc {base : Nat} {W : World} {p : Nat} {m : List (Int × En)} {last : Int} (h : Bk base W p m last) (o : Obj) : Bk base (W.alloc o) p m last :=
  h.below ((Below.refl _ W).alloc (Nat.le_refl _) o)
theorem Bk.lt {base : Nat} {W : World} {p : Nat} {m : List (Int × En)} {last : Int} (h : Bk base W p m last) : p < W.heap.size := by
  obtain ⟨om, h1, h2⟩ := h
  exact lt_of_heap h1.blk
theorem Bk.le {base : Nat} {W : World} {p : Nat} {m : List (Int × En)} {last : Int} (h : Bk base W p m last) : base ≤ p := by
  obtain ⟨om, h1, h2, h3, h4, h5, h6⟩ := h
  exact h5
theorem newS {base : Nat} (w : World) (hb : base ≤ w.heap.size) : Calls Tryz.prog 34 #[] w fun e w' => ∃ p, e = .returned (.pointer (some ⟨p, 0, none⟩)) ∧ Bk base w' p [] 0 ∧ Below base w w' ∧ p < w'.heap.size :=
  (new_any w).mono fun e w' ⟨he, hw⟩ => by
    subst hw
    exact ⟨w.heap.size, he, ⟨none, book_new w, by simp, by omega, by omega, hb, fun b h => by cases h⟩, (Below.refl _ w).alloc hb _, by simp⟩
theorem snoc_nodup {m : List (Int × En)} {k : Int} {v : En} (hn : (m.map (·.1)).Nodup) (hl : look k m = none) : ((m ++ [(k, v)]).map (·.1)).Nodup := by
  rw [List.map_append, List.nodup_append]
  refine ⟨hn, by simp, fun a ha b hb => ?_⟩
  obtain rfl : b = k := by simpa using hb
  obtain ⟨q, hq, rfl⟩ := List.mem_map.1 ha
  exact fun e => look_none.1 hl q hq e.symm
theorem del_nodup {m : List (Int × En)} {k : Int} (hn : (m.map (·.1)).Nodup) : ((del k m).map (·.1)).Nodup :=
  ((List.filter_sublist).map _).nodup hn
theorem ordF_nodup {t : Tb} {part to : Int} {m : List (Int × En)} {last : Int} (hn : (m.map (·.1)).Nodup) : ((ordF t part to m last).2.2.1.map (·.1)).Nodup := by
  unfold ordF
  split
  · exact hn
  · split
    · exact hn
    · rename_i h
      split
      · exact hn
      · have hl : look part m = none := by cases hh : look part m with | none => rfl | some v => rw [hh] at h; exact absurd rfl h
        exact snoc_nodup hn hl
theorem ordF_last {t : Tb} {part to : Int} {m : List (Int × En)} {last : Int} (h0 : 0 ≤ last) (h1 : last ≤ 2147483647) : 0 ≤ (ordF t part to m last).2.2.2 ∧ (ordF t part to m last).2.2.2 ≤ 2147483647 := by
  unfold ordF
  split
  · exact ⟨h0, h1⟩
  · split
    · exact ⟨h0, h1⟩
    · split
      · exact ⟨h0, h1⟩
      · exact ⟨by simp only []; omega, by simp only []; omega⟩
theorem foot_ge {base p : Nat} {om : Option Nat} (h : base ≤ p) (ho : ∀ b, om = some b → base ≤ b) : ∀ x ∈ foot p om, base ≤ x := by
  intro x hx
  rcases List.mem_cons.1 hx with e | e
  · rw [e]; exact h
  · exact ho x (by simpa using e)
theorem orderS {base : Nat} {w : World} {p : Nat} {m : List (Int × En)} {last : Int} (h : Bk base w p m last) (t : Tb) (hI : IntsAt w t.oa t.owner) (hsep : t.owner ≠ [] → ∀ a, t.oa = some a → a.block ≠ p) (part to : Int) :
    Calls Tryz.prog 36 #[.pointer (some ⟨p, 0, none⟩), t.val, .int .i64 part, .int .i64 to] w fun e w' =>
      e = .returned (.tuple #[.int .i64 (ordF t part to m last).1, .int .i64 (ordF t part to m last).2.1]) ∧ Bk base w' p (ordF t part to m last).2.2.1 (ordF t part to m last).2.2.2 ∧ Below base w w' := by
  obtain ⟨om, h1, h2, h3, h4, h5, h6⟩ := h
  refine (order_any h1 h2 h3 t hI hsep part to).mono ?_
  rintro e w' ⟨he, ⟨om', hb, ho⟩, hk⟩
  have hp : p < w.heap.size := lt_of_heap h1.blk
  refine ⟨he, ⟨om', hb, ordF_nodup h2, (ordF_last h3 h4).1, (ordF_last h3 h4).2, h5, ?_⟩, hk.below (by omega) (foot_ge h5 h6)⟩
  intro b hbb
  rcases ho with e1 | ⟨_, b', e2, e3⟩
  · exact h6 b (e1 ▸ hbb)
  · rw [e2] at hbb
    obtain rfl : b' = b := by simpa using hbb
    omega
theorem endS {base : Nat} {w : World} {p : Nat} {m : List (Int × En)} {last : Int} (h : Bk base w p m last) (k : Int) :
    Calls Tryz.prog 55 #[.pointer (some ⟨p, 0, none⟩), .int .i64 k] w fun e w' => e = .returned (.bool (look k m).isSome) ∧ Bk base w' p (del k m) last ∧ Below base w w' := by
  obtain ⟨om, h1, h2, h3, h4, h5, h6⟩ := h
  have hp : p < w.heap.size := lt_of_heap h1.blk
  exact (end_book h1 h2 k).mono fun e w' ⟨he, hb, hk⟩ => ⟨he, ⟨om, hb, del_nodup h2, h3, h4, h5, h6⟩, hk.below (by omega) (foot_ge h5 h6)⟩
theorem ofS {base : Nat} {w : World} {p : Nat} {m : List (Int × En)} {last : Int} (h : Bk base w p m last) (k : Int) :
    Calls Tryz.prog 37 #[.pointer (some ⟨p, 0, none⟩), .int .i64 k] w fun e w' => e = .returned (.tuple #[((look k m).getD En.zero).val, .bool (look k m).isSome]) ∧ Below w.heap.size w w' := by
  obtain ⟨om, h1, _⟩ := h
  exact of_any h1 k
end Go.Proofs.YtdnfibecobodkaaGreat
