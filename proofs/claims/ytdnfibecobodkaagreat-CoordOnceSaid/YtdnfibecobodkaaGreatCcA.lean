/- The coordinator in memory. -/
import Derived.Test.YtdnfibecobodkaaGreatCvI
import Derived.Test.YtdnfibecobodkaaGreatCsG
namespace Go.Proofs.YtdnfibecobodkaaGreat
open Go.RowKit Go.Lib
open Go.ChangeMaps (setBlock)
set_option linter.unusedSimpArgs false
set_option linter.unusedVariables false
/-- What a move is at. -/
structure St where
  st : Int
  dn : Nat
def St.val (x : St) : Value := .agg #[.int .i64 x.st, .int .i64 x.dn]
def St.zero : St := ⟨0, 0⟩
/-- A coordinator: its table, its moves, what they are at, how many are over. -/
structure Cd where
  ep : Int
  nd : Int
  own : List Int
  m : List (Int × En)
  last : Int
  at_ : List (Int × St)
  com : Int
  abo : Int
def Cd.tb (c : Cd) (oa : Option Addr) (oc : Nat) : Tb := ⟨c.ep, c.nd, oa, oc, c.own⟩
structure CoAt (W : World) (p : Nat) (oa : Option Addr) (oc bp : Nat) (om : Option Nat) (ab : Nat) (c : Cd) : Prop where
  blk : W.heap[p]? = some (.cells #[.int .i64 c.ep, .int .i64 c.nd, .slice oa c.own.length oc, .pointer (some ⟨bp, 0, none⟩), .map (some ab), .int .i64 c.com, .int .i64 c.abo] 80 (0, 0))
  row : IRow 0 W (.slice oa c.own.length oc) c.own
  book : BookAt W bp om c.m c.last
  map : MapIs ekI St.val W ab c.at_
  ne : om ≠ some ab
/-- The blocks of a coordinator. -/
def cfoot (p : Nat) (oa : Option Addr) (oc n bp : Nat) (om : Option Nat) (ab : Nat) : List Nat := p :: bp :: ab :: (om.toList ++ (Value.slice oa n oc).ownBlock.toList)
theorem CoAt.keep {X : List Nat} {W W' : World} {p : Nat} {oa : Option Addr} {oc bp : Nat} {om : Option Nat} {ab : Nat} {c : Cd} (h : CoAt W p oa oc bp om ab c) (hk : Keep X W W') (hx : ∀ b ∈ cfoot p oa oc c.own.length bp om ab, b ∉ X) : CoAt W' p oa oc bp om ab c := by
  refine ⟨(hk.block p (lt_of_heap h.blk) (hx p (by simp [cfoot]))).trans h.blk, h.row.keep hk (fun g hg => hx g (by simp [cfoot, hg])), h.book.keep hk (fun b hb => hx b ?_), h.map.keep hk (hx ab (by simp [cfoot])), h.ne⟩
  simp only [foot, List.mem_cons] at hb
  simp only [cfoot, List.mem_cons, List.mem_append]
  rcases hb with e | e
  · exact .inr (.inl e)
  · exact .inr (.inr (.inr (.inl e)))
theorem CoAt.kept {W W' : World} {p : Nat} {oa : Option Addr} {oc bp : Nat} {om : Option Nat} {ab : Nat} {c : Cd} (h : CoAt W p oa oc bp om ab c) (hk : Keep [] W W') : CoAt W' p oa oc bp om ab c := h.keep hk (by simp)
theorem CoAt.facts {W : World} {p : Nat} {oa : Option Addr} {oc bp : Nat} {om : Option Nat} {ab : Nat} {c : Cd} (h : CoAt W p oa oc bp om ab c) :
    W.cell? ⟨p, 0, none⟩ = some (.int .i64 c.ep) ∧ W.cell? ⟨p, 1, none⟩ = some (.int .i64 c.nd) ∧ W.cell? ⟨p, 2, none⟩ = some (.slice oa c.own.length oc) ∧ W.cell? ⟨p, 3, none⟩ = some (.pointer (some ⟨bp, 0, none⟩)) ∧ W.cell? ⟨p, 4, none⟩ = some (.map (some ab)) ∧ W.cell? ⟨p, 5, none⟩ = some (.int .i64 c.com) ∧ W.cell? ⟨p, 6, none⟩ = some (.int .i64 c.abo) ∧ (∀ o, W.frozen? ⟨p, o, none⟩ = false) := by
  have hb := h.blk
  refine ⟨?_, ?_, ?_, ?_, ?_, ?_, ?_, fun o => ?_⟩
  all_goals first | (unfold World.cell?; rw [hb]; rfl) | (unfold World.frozen?; rw [hb]; simp)
theorem CoAt.lt {W : World} {p : Nat} {oa : Option Addr} {oc bp : Nat} {om : Option Nat} {ab : Nat} {c : Cd} (h : CoAt W p oa oc bp om ab c) : ∀ b ∈ cfoot p oa oc c.own.length bp om ab, b < W.heap.size := by
  intro b hb
  simp only [cfoot, List.mem_cons, List.mem_append] at hb
  rcases hb with rfl | rfl | rfl | e | e
  · exact lt_of_heap h.blk
  · exact lt_of_heap h.book.blk
  · exact h.map.lt
  · exact h.book.map.lt (by simpa using e)
  · exact own_lt h.row b (by simpa using e)
theorem CoAt.ints {W : World} {p : Nat} {oa : Option Addr} {oc bp : Nat} {om : Option Nat} {ab : Nat} {c : Cd} (h : CoAt W p oa oc bp om ab c) : IntsAt W oa c.own := h.row.at
theorem CoAt.sep {W : World} {p : Nat} {oa : Option Addr} {oc bp : Nat} {om : Option Nat} {ab : Nat} {c : Cd} (h : CoAt W p oa oc bp om ab c) : c.own ≠ [] → ∀ a, oa = some a → a.block ≠ bp := by
  rintro _ a rfl
  exact own_ne_obj h.row h.book.blk (by decide) a.block rfl
/-- All of a coordinator's blocks are its own, or new. -/
def CoUp (w : World) (F F' : List Nat) : Prop := ∀ x ∈ F', x ∈ F ∨ w.heap.size ≤ x
theorem zeroSt (W : World) : (zeroValue 83).run Tryz.prog W = .ok (St.val St.zero) W := by kernel_rfl
def atOf (k : Int) (m : List (Int × St)) : St := (look k m).getD St.zero
theorem lookSt {W : World} {b : Nat} {m : List (Int × St)} (h : MapIs ekI St.val W b m) (k : Int) :
    (Instr.lookup 78 (.map (some b)) (.int .i64 k) false).run Tryz.prog W = .ok (.agg #[.int .i64 (atOf k m).st, .int .i64 (atOf k m).dn]) W := by
  have := (run_lookup Tryz.underlying78 (keyLaw_int Tryz.underlying3) zeroSt h k).2
  rw [show (Value.agg #[.int .i64 (atOf k m).st, .int .i64 (atOf k m).dn]) = lookV St.val (St.val St.zero) (look k m) from by unfold atOf; cases look k m <;> rfl]
  exact this
set_option maxRecDepth 100000 in
theorem copy_any {w : World} (t : Tb) (hI : IntsAt w t.oa t.owner) (hl : t.owner.length ≤ 1000) : Calls Tryz.prog 33 #[t.val] w fun e w' => ∃ a c, e = .returned (.agg #[.int .i64 t.ep, .int .i64 t.nodes, .slice a t.owner.length c]) ∧ IRow w.heap.size w' (.slice a t.owner.length c) t.owner ∧ Keep [] w w' := by
  unfold Tb.val
  obtain ⟨ep, nd, oa, oc, own⟩ := t
  simp only at *
  obtain ⟨w1, hw1⟩ : ∃ u, w.alloc (.cells #[.int .i64 ep, .int .i64 nd, .slice oa own.length oc] 28) = u := ⟨_, rfl⟩
  obtain ⟨w2, hw2⟩ : ∃ u, w1.alloc (.cells #[.int .i64 0, .int .i64 0, .slice none 0 0] 28) = u := ⟨_, rfl⟩
  have s1 : w1.heap.size = w.heap.size + 1 := by rw [← hw1, World.size_alloc]
  have k1 : Keep [] w w1 := by rw [← hw1]; exact (Keep.refl _ _).alloc _
  have k2 : Keep [] w1 w2 := by rw [← hw2]; exact (Keep.refl _ _).alloc _
  have b1 : w2.heap[w.heap.size]? = some (.cells #[.int .i64 ep, .int .i64 nd, .slice oa own.length oc] 28 (0, 0)) := (k2.block _ (by rw [s1]; omega) (by simp)).trans (by rw [← hw1]; exact World.alloc_heap_new w _)
  have b2 : w2.heap[w.heap.size + 1]? = some (.cells #[.int .i64 0, .int .i64 0, .slice none 0 0] 28 (0, 0)) := by rw [← hw2, ← s1]; exact World.alloc_heap_new w1 _
  have HC := Lib.hid (clone_any oc (hI.keep (k1.trans k2) (by simp)) (by omega))
  have c2 : w2.cell? ⟨w.heap.size, 2, none⟩ = some (.slice oa own.length oc) := by unfold World.cell?; rw [b1]; rfl
  have HB1 := Lib.hid b1
  have HB2 := Lib.hid b2
  have HK := Lib.hid (k1.trans k2)
  clear b1 b2 k1 k2 hI
  go_enter Tryz.func33, Tryz.ntmps33
  go_wp2_with (fail)
  refine HC.out.mono ?_
  rintro e w3 ⟨v, rfl, hr, hB⟩
  obtain ⟨a, c, rfl, _⟩ := own_shape hr
  have hk3 : Keep [] w2 w3 := Keep.of_below hB []
  have b1 := (hk3.block _ (lt_of_heap HB1.out) (by simp)).trans HB1.out
  have b2 := (hk3.block _ (lt_of_heap HB2.out) (by simp)).trans HB2.out
  have d0 : w3.cell? ⟨w.heap.size, 0, none⟩ = some (.int .i64 ep) := by unfold World.cell?; rw [b1]; rfl
  have d1 : w3.cell? ⟨w.heap.size, 1, none⟩ = some (.int .i64 nd) := by unfold World.cell?; rw [b1]; rfl
  have d2 : w3.cell? ⟨w.heap.size, 2, none⟩ = some (.slice oa own.length oc) := by unfold World.cell?; rw [b1]; rfl
  have d3 : ∀ o, w3.frozen? ⟨w.heap.size, o, none⟩ = false := fun o => by unfold World.frozen?; rw [b1]; simp
  have e0 : w3.cell? ⟨w.heap.size + 1, 0, none⟩ = some (.int .i64 0) := by unfold World.cell?; rw [b2]; rfl
  have e1 : w3.cell? ⟨w.heap.size + 1, 1, none⟩ = some (.int .i64 0) := by unfold World.cell?; rw [b2]; rfl
  have e2 : w3.cell? ⟨w.heap.size + 1, 2, none⟩ = some (.slice none 0 0) := by unfold World.cell?; rw [b2]; rfl
  have e3 : ∀ o, w3.frozen? ⟨w.heap.size + 1, o, none⟩ = false := fun o => by unfold World.frozen?; rw [b2]; simp
  have HR := Lib.hid hr
  have HK3 := Lib.hid (HK.out.trans hk3)
  have hlt := own_lt hr
  have hbs := own_base hr
  have HLT := Lib.hid hlt
  have HBS := Lib.hid hbs
  have hs2 : w2.heap.size = w.heap.size + 2 := by rw [← hw2, World.size_alloc, s1]
  have HS2 := Lib.hid hs2
  have HB2 := Lib.hid b2
  clear hr hB hk3 b1 b2 hlt hbs hw1 hw2 s1 hs2
  go_wp2_with (fail)
  have hks : Keep [w.heap.size, w.heap.size + 1] w3 ((((w3.setCell ⟨w.heap.size, 2, none⟩ (.slice a own.length c)).setCell ⟨w.heap.size + 1, 0, none⟩ (.int .i64 ep)).setCell ⟨w.heap.size + 1, 1, none⟩ (.int .i64 nd)).setCell ⟨w.heap.size + 1, 2, none⟩ (.slice a own.length c)) :=
    ((((Keep.refl _ _).setCell _ _ _ (.inl (by simp))).setCell _ _ _ (.inl (by simp))).setCell _ _ _ (.inl (by simp))).setCell _ _ _ (.inl (by simp))
  have hfin : ((((w3.setCell ⟨w.heap.size, 2, none⟩ (.slice a own.length c)).setCell ⟨w.heap.size + 1, 0, none⟩ (.int .i64 ep)).setCell ⟨w.heap.size + 1, 1, none⟩ (.int .i64 nd)).setCell ⟨w.heap.size + 1, 2, none⟩ (.slice a own.length c)).heap[w.heap.size + 1]? = some (.cells #[.int .i64 ep, .int .i64 nd, .slice a own.length c] 28 (0, 0)) := by
    have h := HB2.out
    simp [World.setCell, Array.getElem?_modify, h]
  refine bodyPost_ret (results_cell_row rfl _ _ (w.heap.size + 1) 28 _ (0, 0) _ rfl hfin Tryz.underlying28 rfl (by kernel_rfl)) rfl ?_
  refine ⟨a, c, rfl, own_low (HR.out.keep hks (fun b hb => ?_)) (by have := HS2.out; omega), HK3.out.step hks (by simp)⟩
  have h1 := HBS.out b hb
  have h2 := HS2.out
  simp
  omega
theorem none_any {W : World} {p : Nat} {oa : Option Addr} {oc bp : Nat} {om : Option Nat} {ab : Nat} {c : Cd} (h : CoAt W p oa oc bp om ab c) : Calls Tryz.prog 35 #[.pointer (some ⟨p, 0, none⟩)] W fun e w' => e = .returned (.bool false) ∧ w' = W := by
  obtain ⟨c0, c1, c2, c3, c4, c5, c6, c7⟩ := h.facts
  clear h
  go_enter Tryz.func35, Tryz.ntmps35
  go_wp2_with (fail)
  go_ret
  exact ⟨rfl, rfl⟩
end Go.Proofs.YtdnfibecobodkaaGreat
