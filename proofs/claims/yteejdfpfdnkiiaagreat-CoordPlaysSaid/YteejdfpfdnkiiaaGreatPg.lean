/- The coordinator in memory · The coordinator: Ended, Table, New, Order · The coordinator: Order · The coordinator: Abort · table.Move · The coordinator: ready · The coordinator: post -/
import Derived.Test.YteejdfpfdnkiiaaGreatPc
import Derived.Test.YteejdfpfdnkiiaaGreatPf
namespace Go.Proofs.YteejdfpfdnkiiaaGreat
section
open Go.RowKit Go.Lib
open Go.ChangeMaps (setBlock)
set_option linter.unusedSimpArgs false
set_option linter.unusedVariables false
/-- What a move is at. -/
structure St where
  st : Int
  dn : Nat
def St.val (x : St) : Value := .agg #[.int .i64 x.st, .int .i64 x.dn]
def St.zero : St := ⟨0, 0⟩
/-- A coordinator: its table, its moves, what they are at, how many are over. -/
structure Cd where
  ep : Int
  nd : Int
  own : List Int
  m : List (Int × En)
  last : Int
  at_ : List (Int × St)
  com : Int
  abo : Int
def Cd.tb (c : Cd) (oa : Option Addr) (oc : Nat) : Tb := ⟨c.ep, c.nd, oa, oc, c.own⟩
structure CoAt (W : World) (p : Nat) (oa : Option Addr) (oc bp : Nat) (om : Option Nat) (ab : Nat) (c : Cd) : Prop where
  blk : W.heap[p]? = some (.cells #[.int .i64 c.ep, .int .i64 c.nd, .slice oa c.own.length oc, .pointer (some ⟨bp, 0, none⟩), .map (some ab), .int .i64 c.com, .int .i64 c.abo] 38 (0, 0))
  row : IRow 0 W (.slice oa c.own.length oc) c.own
  book : BookAt W bp om c.m c.last
  map : MapIs ekI St.val W ab c.at_
  ne : om ≠ some ab
/-- The blocks of a coordinator. -/
def cfoot (p : Nat) (oa : Option Addr) (oc n bp : Nat) (om : Option Nat) (ab : Nat) : List Nat := p :: bp :: ab :: (om.toList ++ (Value.slice oa n oc).ownBlock.toList)
theorem CoAt.keep {X : List Nat} {W W' : World} {p : Nat} {oa : Option Addr} {oc bp : Nat} {om : Option Nat} {ab : Nat} {c : Cd} (h : CoAt W p oa oc bp om ab c) (hk : Keep X W W') (hx : ∀ b ∈ cfoot p oa oc c.own.length bp om ab, b ∉ X) : CoAt W' p oa oc bp om ab c := by
  refine ⟨(hk.block p (lt_of_heap h.blk) (hx p (by simp [cfoot]))).trans h.blk, h.row.keep hk (fun g hg => hx g (by simp [cfoot, hg])), h.book.keep hk (fun b hb => hx b ?_), h.map.keep hk (hx ab (by simp [cfoot])), h.ne⟩
  simp only [foot, List.mem_cons] at hb
  simp only [cfoot, List.mem_cons, List.mem_append]
  rcases hb with e | e
  · exact .inr (.inl e)
  · exact .inr (.inr (.inr (.inl e)))
theorem CoAt.kept {W W' : World} {p : Nat} {oa : Option Addr} {oc bp : Nat} {om : Option Nat} {ab : Nat} {c : Cd} (h : CoAt W p oa oc bp om ab c) (hk : Keep [] W W') : CoAt W' p oa oc bp om ab c := h.keep hk (by simp)
theorem CoAt.facts {W : World} {p : Nat} {oa : Option Addr} {oc bp : Nat} {om : Option Nat} {ab : Nat} {c : Cd} (h : CoAt W p oa oc bp om ab c) :
    W.cell? ⟨p, 0, none⟩ = some (.int .i64 c.ep) ∧ W.cell? ⟨p, 1, none⟩ = some (.int .i64 c.nd) ∧ W.cell? ⟨p, 2, none⟩ = some (.slice oa c.own.length oc) ∧ W.cell? ⟨p, 3, none⟩ = some (.pointer (some ⟨bp, 0, none⟩)) ∧ W.cell? ⟨p, 4, none⟩ = some (.map (some ab)) ∧ W.cell? ⟨p, 5, none⟩ = some (.int .i64 c.com) ∧ W.cell? ⟨p, 6, none⟩ = some (.int .i64 c.abo) ∧ (∀ o, W.frozen? ⟨p, o, none⟩ = false) := by
  have hb := h.blk
  refine ⟨?_, ?_, ?_, ?_, ?_, ?_, ?_, fun o => ?_⟩
  all_goals first | (unfold World.cell?; rw [hb]; rfl) | (unfold World.frozen?; rw [hb]; simp)
theorem CoAt.lt {W : World} {p : Nat} {oa : Option Addr} {oc bp : Nat} {om : Option Nat} {ab : Nat} {c : Cd} (h : CoAt W p oa oc bp om ab c) : ∀ b ∈ cfoot p oa oc c.own.length bp om ab, b < W.heap.size := by
  intro b hb
  simp only [cfoot, List.mem_cons, List.mem_append] at hb
  rcases hb with rfl | rfl | rfl | e | e
  · exact lt_of_heap h.blk
  · exact lt_of_heap h.book.blk
  · exact h.map.lt
  · exact h.book.map.lt (by simpa using e)
  · exact own_lt h.row b (by simpa using e)
theorem CoAt.ints {W : World} {p : Nat} {oa : Option Addr} {oc bp : Nat} {om : Option Nat} {ab : Nat} {c : Cd} (h : CoAt W p oa oc bp om ab c) : IntsAt W oa c.own := h.row.at
theorem CoAt.sep {W : World} {p : Nat} {oa : Option Addr} {oc bp : Nat} {om : Option Nat} {ab : Nat} {c : Cd} (h : CoAt W p oa oc bp om ab c) : c.own ≠ [] → ∀ a, oa = some a → a.block ≠ bp := by
  rintro _ a rfl
  exact own_ne_obj h.row h.book.blk (by decide) a.block rfl
/-- All of a coordinator's blocks are its own, or new. -/
def CoUp (w : World) (F F' : List Nat) : Prop := ∀ x ∈ F', x ∈ F ∨ w.heap.size ≤ x
theorem zeroSt (W : World) : (zeroValue 76).run Tryz.prog W = .ok (St.val St.zero) W := by kernel_rfl
def atOf (k : Int) (m : List (Int × St)) : St := (look k m).getD St.zero
theorem lookSt {W : World} {b : Nat} {m : List (Int × St)} (h : MapIs ekI St.val W b m) (k : Int) :
    (Instr.lookup 36 (.map (some b)) (.int .i64 k) false).run Tryz.prog W = .ok (.agg #[.int .i64 (atOf k m).st, .int .i64 (atOf k m).dn]) W := by
  have := (run_lookup Tryz.underlying36 (keyLaw_int Tryz.underlying3) zeroSt h k).2
  rw [show (Value.agg #[.int .i64 (atOf k m).st, .int .i64 (atOf k m).dn]) = lookV St.val (St.val St.zero) (look k m) from by unfold atOf; cases look k m <;> rfl]
  exact this
set_option maxRecDepth 100000 in
theorem copy_any {w : World} (t : Tb) (hI : IntsAt w t.oa t.owner) (hl : t.owner.length ≤ 1000) : Calls Tryz.prog 27 #[t.val] w fun e w' => ∃ a c, e = .returned (.agg #[.int .i64 t.ep, .int .i64 t.nodes, .slice a t.owner.length c]) ∧ IRow w.heap.size w' (.slice a t.owner.length c) t.owner ∧ Keep [] w w' := by
  unfold Tb.val
  obtain ⟨ep, nd, oa, oc, own⟩ := t
  simp only at *
  obtain ⟨w1, hw1⟩ : ∃ u, w.alloc (.cells #[.int .i64 ep, .int .i64 nd, .slice oa own.length oc] 24) = u := ⟨_, rfl⟩
  obtain ⟨w2, hw2⟩ : ∃ u, w1.alloc (.cells #[.int .i64 0, .int .i64 0, .slice none 0 0] 24) = u := ⟨_, rfl⟩
  have s1 : w1.heap.size = w.heap.size + 1 := by rw [← hw1, World.size_alloc]
  have k1 : Keep [] w w1 := by rw [← hw1]; exact (Keep.refl _ _).alloc _
  have k2 : Keep [] w1 w2 := by rw [← hw2]; exact (Keep.refl _ _).alloc _
  have b1 : w2.heap[w.heap.size]? = some (.cells #[.int .i64 ep, .int .i64 nd, .slice oa own.length oc] 24 (0, 0)) := (k2.block _ (by rw [s1]; omega) (by simp)).trans (by rw [← hw1]; exact World.alloc_heap_new w _)
  have b2 : w2.heap[w.heap.size + 1]? = some (.cells #[.int .i64 0, .int .i64 0, .slice none 0 0] 24 (0, 0)) := by rw [← hw2, ← s1]; exact World.alloc_heap_new w1 _
  have HC := Lib.hid (clone_any oc (hI.keep (k1.trans k2) (by simp)) (by omega))
  have c2 : w2.cell? ⟨w.heap.size, 2, none⟩ = some (.slice oa own.length oc) := by unfold World.cell?; rw [b1]; rfl
  have HB1 := Lib.hid b1
  have HB2 := Lib.hid b2
  have HK := Lib.hid (k1.trans k2)
  clear b1 b2 k1 k2 hI
  go_enter Tryz.func27, Tryz.ntmps27
  go_wp2_with (fail)
  refine HC.out.mono ?_
  rintro e w3 ⟨v, rfl, hr, hB⟩
  obtain ⟨a, c, rfl, _⟩ := own_shape hr
  have hk3 : Keep [] w2 w3 := Keep.of_below hB []
  have b1 := (hk3.block _ (lt_of_heap HB1.out) (by simp)).trans HB1.out
  have b2 := (hk3.block _ (lt_of_heap HB2.out) (by simp)).trans HB2.out
  have d0 : w3.cell? ⟨w.heap.size, 0, none⟩ = some (.int .i64 ep) := by unfold World.cell?; rw [b1]; rfl
  have d1 : w3.cell? ⟨w.heap.size, 1, none⟩ = some (.int .i64 nd) := by unfold World.cell?; rw [b1]; rfl
  have d2 : w3.cell? ⟨w.heap.size, 2, none⟩ = some (.slice oa own.length oc) := by unfold World.cell?; rw [b1]; rfl
  have d3 : ∀ o, w3.frozen? ⟨w.heap.size, o, none⟩ = false := fun o => by unfold World.frozen?; rw [b1]; simp
  have e0 : w3.cell? ⟨w.heap.size + 1, 0, none⟩ = some (.int .i64 0) := by unfold World.cell?; rw [b2]; rfl
  have e1 : w3.cell? ⟨w.heap.size + 1, 1, none⟩ = some (.int .i64 0) := by unfold World.cell?; rw [b2]; rfl
  have e2 : w3.cell? ⟨w.heap.size + 1, 2, none⟩ = some (.slice none 0 0) := by unfold World.cell?; rw [b2]; rfl
  have e3 : ∀ o, w3.frozen? ⟨w.heap.size + 1, o, none⟩ = false := fun o => by unfold World.frozen?; rw [b2]; simp
  have HR := Lib.hid hr
  have HK3 := Lib.hid (HK.out.trans hk3)
  have hlt := own_lt hr
  have hbs := own_base hr
  have HLT := Lib.hid hlt
  have HBS := Lib.hid hbs
  have hs2 : w2.heap.size = w.heap.size + 2 := by rw [← hw2, World.size_alloc, s1]
  have HS2 := Lib.hid hs2
  have HB2 := Lib.hid b2
  clear hr hB hk3 b1 b2 hlt hbs hw1 hw2 s1 hs2
  go_wp2_with (fail)
  have hks : Keep [w.heap.size, w.heap.size + 1] w3 ((((w3.setCell ⟨w.heap.size, 2, none⟩ (.slice a own.length c)).setCell ⟨w.heap.size + 1, 0, none⟩ (.int .i64 ep)).setCell ⟨w.heap.size + 1, 1, none⟩ (.int .i64 nd)).setCell ⟨w.heap.size + 1, 2, none⟩ (.slice a own.length c)) :=
    ((((Keep.refl _ _).setCell _ _ _ (.inl (by simp))).setCell _ _ _ (.inl (by simp))).setCell _ _ _ (.inl (by simp))).setCell _ _ _ (.inl (by simp))
  have hfin : ((((w3.setCell ⟨w.heap.size, 2, none⟩ (.slice a own.length c)).setCell ⟨w.heap.size + 1, 0, none⟩ (.int .i64 ep)).setCell ⟨w.heap.size + 1, 1, none⟩ (.int .i64 nd)).setCell ⟨w.heap.size + 1, 2, none⟩ (.slice a own.length c)).heap[w.heap.size + 1]? = some (.cells #[.int .i64 ep, .int .i64 nd, .slice a own.length c] 24 (0, 0)) := by
    have h := HB2.out
    simp [World.setCell, Array.getElem?_modify, h]
  refine bodyPost_ret (results_cell_row rfl _ _ (w.heap.size + 1) 24 _ (0, 0) _ rfl hfin Tryz.underlying24 rfl (by kernel_rfl)) rfl ?_
  refine ⟨a, c, rfl, own_low (HR.out.keep hks (fun b hb => ?_)) (by have := HS2.out; omega), HK3.out.step hks (by simp)⟩
  have h1 := HBS.out b hb
  have h2 := HS2.out
  simp
  omega
theorem none_any {W : World} {p : Nat} {oa : Option Addr} {oc bp : Nat} {om : Option Nat} {ab : Nat} {c : Cd} (h : CoAt W p oa oc bp om ab c) : Calls Tryz.prog 29 #[.pointer (some ⟨p, 0, none⟩)] W fun e w' => e = .returned (.bool false) ∧ w' = W := by
  obtain ⟨c0, c1, c2, c3, c4, c5, c6, c7⟩ := h.facts
  clear h
  go_enter Tryz.func29, Tryz.ntmps29
  go_wp2_with (fail)
  go_ret
  exact ⟨rfl, rfl⟩
end
section
open Go.RowKit Go.Lib
open Go.ChangeMaps (setBlock)
set_option linter.unusedSimpArgs false
set_option linter.unusedVariables false
/-- A new block. -/
def Spec.new (n : Nat) (cs : Array Value) (t : TypeId) : Spec := { p := fun _ v => ∃ g, v = .pointer (some ⟨g, 0, none⟩) ∧ n ≤ g, A := fun _ v w => ∃ g, v = .pointer (some ⟨g, 0, none⟩) ∧ n ≤ g ∧ w.heap[g]? = some (.cells cs t (0, 0)) }
theorem Spec.new_ok (n : Nat) (cs : Array Value) (t : TypeId) : (Spec.new n cs t).ok :=
  ⟨fun x v w w' ⟨g, h1, h2, h3⟩ hk => ⟨g, h1, h2, (hk.block g (lt_of_heap h3) (by simp)).trans h3⟩, fun _ _ _ h => h, fun _ => trivial, fun _ => ⟨_, n, rfl, Nat.le_refl _⟩⟩
set_option maxRecDepth 100000 in
theorem ended_any {w : World} {p : Nat} {oa : Option Addr} {oc bp : Nat} {om : Option Nat} {ab : Nat} {c : Cd} (h : CoAt w p oa oc bp om ab c) : Calls Tryz.prog 21 #[.pointer (some ⟨p, 0, none⟩)] w fun e w' => e = .returned (.tuple #[.int .i64 c.com, .int .i64 c.abo]) ∧ Keep [] w w' := by
  have HC := Lib.hid h
  have hpl := lt_of_heap h.blk
  clear h
  go_enter Tryz.func21, Tryz.ntmps21
  go_wp2_with (fail)
  refine (none_any HC.out).mono ?_
  rintro e w0 ⟨rfl, hw0⟩
  rw [hw0]
  clear hw0
  go_wp2_with (fail)
  refine wp_region_soup 9 [] (fun _ => none) (by kernel_rfl) (by kernel_rfl) (spOk_of (l := []) (by simp)) (pre_of (l := []) (by simp)) ?_
  simp only [List.take_succ_cons, List.take_zero, List.drop_succ_cons, List.drop_zero]
  iterate 3
    with_reducible refine soup_q ?_ ?_ ?_
    · rfl
    · rfl
    with_reducible apply Exists.intro
    with_reducible refine ⟨fun W hk _ => ?_, ?_⟩
    · unfold Oper.same
      go_simp
      first | rfl | exact ⟨rfl, rfl⟩
    with_reducible apply Exists.intro
    with_reducible refine ⟨?_, ?_⟩
    · go_simp
      rfl
  with_reducible refine soup_q ?_ ?_ ?_
  · rfl
  · rfl
  with_reducible apply Exists.intro
  with_reducible refine ⟨fun W hk _ => ?_, ?_⟩
  · have c0 := (HC.out.kept hk).facts.2.2.2.2.2.1
    unfold Oper.same
    go_simp
    first | rfl | exact ⟨rfl, rfl⟩
  with_reducible apply Exists.intro
  with_reducible refine ⟨?_, ?_⟩
  · go_simp
    rfl
  iterate 3
    with_reducible refine soup_q ?_ ?_ ?_
    · rfl
    · rfl
    with_reducible apply Exists.intro
    with_reducible refine ⟨fun W hk _ => ?_, ?_⟩
    · unfold Oper.same
      go_simp
      first | rfl | exact ⟨rfl, rfl⟩
    with_reducible apply Exists.intro
    with_reducible refine ⟨?_, ?_⟩
    · go_simp
      rfl
  with_reducible refine soup_q ?_ ?_ ?_
  · rfl
  · rfl
  with_reducible apply Exists.intro
  with_reducible refine ⟨fun W hk _ => ?_, ?_⟩
  · have c0 := (HC.out.kept hk).facts.2.2.2.2.2.2.1
    unfold Oper.same
    go_simp
    first | rfl | exact ⟨rfl, rfl⟩
  with_reducible apply Exists.intro
  with_reducible refine ⟨?_, ?_⟩
  · go_simp
    rfl
  with_reducible refine soup_q ?_ ?_ ?_
  · rfl
  · rfl
  with_reducible apply Exists.intro
  with_reducible refine ⟨fun W hk _ => ?_, ?_⟩
  · unfold Oper.same
    go_simp
    first | rfl | exact ⟨rfl, rfl⟩
  with_reducible apply Exists.intro
  with_reducible refine ⟨?_, ?_⟩
  · go_simp
    rfl
  refine soup_nil (fun W hk hS => ?_)
  have HK := Lib.hid hk
  clear hk hS
  go_wp2_with (fail)
  go_ret2
  exact ⟨rfl, HK.out⟩
set_option maxRecDepth 100000 in
theorem ctable_any {w : World} {p : Nat} {oa : Option Addr} {oc bp : Nat} {om : Option Nat} {ab : Nat} {c : Cd} (h : CoAt w p oa oc bp om ab c) (hl : c.own.length ≤ 1000) : Calls Tryz.prog 13 #[.pointer (some ⟨p, 0, none⟩)] w fun e w' => ∃ a d, e = .returned (.agg #[.int .i64 c.ep, .int .i64 c.nd, .slice a c.own.length d]) ∧ IRow w.heap.size w' (.slice a c.own.length d) c.own ∧ Keep [] w w' := by
  obtain ⟨w1, hw1⟩ : ∃ u, w.alloc (.cells #[.int .i64 0, .int .i64 0, .slice none 0 0] 24) = u := ⟨_, rfl⟩
  have k1 : Keep [] w w1 := by rw [← hw1]; exact (Keep.refl _ _).alloc _
  have b1 : w1.heap[w.heap.size]? = some (.cells #[.int .i64 0, .int .i64 0, .slice none 0 0] 24 (0, 0)) := by rw [← hw1]; exact World.alloc_heap_new w _
  have h1 := h.kept k1
  obtain ⟨c0, c1, c2, c3, c4, c5, c6, c7⟩ := h1.facts
  have HC := Lib.hid h1
  have hcp := copy_any (w := w1) (c.tb oa oc) h1.ints hl
  unfold Cd.tb Tb.val at hcp
  simp only at hcp
  have HCP := Lib.hid hcp
  have HB1 := Lib.hid b1
  have HK1 := Lib.hid k1
  have hsz : w.heap.size < w1.heap.size := lt_of_heap b1
  clear h h1 hcp b1 k1
  go_enter Tryz.func13, Tryz.ntmps13
  go_wp2_with (fail)
  refine (none_any HC.out).mono ?_
  rintro e w0 ⟨rfl, hw0⟩
  rw [hw0]
  clear hw0
  go_wp2_with (fail)
  refine HCP.out.mono ?_
  rintro e w2 ⟨a, d, rfl, hr, hk⟩
  have b2 := (hk.block _ hsz (by simp)).trans HB1.out
  have e0 : w2.cell? ⟨w.heap.size, 0, none⟩ = some (.int .i64 0) := by unfold World.cell?; rw [b2]; rfl
  have e1 : w2.cell? ⟨w.heap.size, 1, none⟩ = some (.int .i64 0) := by unfold World.cell?; rw [b2]; rfl
  have e2 : w2.cell? ⟨w.heap.size, 2, none⟩ = some (.slice none 0 0) := by unfold World.cell?; rw [b2]; rfl
  have e3 : ∀ o, w2.frozen? ⟨w.heap.size, o, none⟩ = false := fun o => by unfold World.frozen?; rw [b2]; simp
  have HR := Lib.hid hr
  have HK2 := Lib.hid (HK1.out.trans hk)
  have HB2 := Lib.hid b2
  clear hr hk b2 c0 c1 c2 c3 c4 c5 c6 c7
  go_wp2_with (fail)
  have hks : Keep [w.heap.size] w2 (((w2.setCell ⟨w.heap.size, 0, none⟩ (.int .i64 c.ep)).setCell ⟨w.heap.size, 1, none⟩ (.int .i64 c.nd)).setCell ⟨w.heap.size, 2, none⟩ (.slice a c.own.length d)) :=
    (((Keep.refl _ _).setCell _ _ _ (.inl (by simp))).setCell _ _ _ (.inl (by simp))).setCell _ _ _ (.inl (by simp))
  have hfin : (((w2.setCell ⟨w.heap.size, 0, none⟩ (.int .i64 c.ep)).setCell ⟨w.heap.size, 1, none⟩ (.int .i64 c.nd)).setCell ⟨w.heap.size, 2, none⟩ (.slice a c.own.length d)).heap[w.heap.size]? = some (.cells #[.int .i64 c.ep, .int .i64 c.nd, .slice a c.own.length d] 24 (0, 0)) := by
    have h := HB2.out
    simp [World.setCell, Array.getElem?_modify, h]
  refine bodyPost_ret (results_cell_row rfl _ _ w.heap.size 24 _ (0, 0) _ rfl hfin Tryz.underlying24 rfl (by kernel_rfl)) rfl ?_
  refine ⟨a, d, rfl, own_low (HR.out.keep hks (fun b hb => ?_)) (by omega), HK2.out.step hks (by simp)⟩
  have h1 := own_base HR.out b hb
  simp
  omega
set_option maxRecDepth 100000 in
theorem cnew_any {w : World} (t : Tb) (hI : IntsAt w t.oa t.owner) (hr : t.right = true) : Calls Tryz.prog 6 #[t.val] w fun e w' => ∃ p oa oc bp ab, e = .returned (.tuple #[.pointer (some ⟨p, 0, none⟩), .int .i64 0]) ∧ CoAt w' p oa oc bp none ab ⟨t.ep, t.nodes, t.owner, [], 0, [], 0, 0⟩ ∧ Keep [] w w' ∧ ∀ x ∈ cfoot p oa oc t.owner.length bp none ab, w.heap.size ≤ x := by
  have hl : t.owner.length ≤ 8 := by
    unfold Tb.right at hr
    simp only [Bool.and_eq_true, decide_eq_true_eq] at hr
    omega
  obtain ⟨ep, nd, oa0, oc0, own⟩ := t
  simp only at *
  obtain ⟨w1, hw1⟩ : ∃ u, w.alloc (.cells #[.int .i64 ep, .int .i64 nd, .slice oa0 own.length oc0] 24) = u := ⟨_, rfl⟩
  have k1 : Keep [] w w1 := by rw [← hw1]; exact (Keep.refl _ _).alloc _
  have b1 : w1.heap[w.heap.size]? = some (.cells #[.int .i64 ep, .int .i64 nd, .slice oa0 own.length oc0] 24 (0, 0)) := by rw [← hw1]; exact World.alloc_heap_new w _
  have hrt := tright_any ⟨ep, nd, oa0, oc0, own⟩ w1 (hI.keep k1 (by simp))
  have hcp := fun W (hk : Keep [] w1 W) => copy_any (w := W) ⟨ep, nd, oa0, oc0, own⟩ ((hI.keep k1 (by simp)).keep hk (by simp)) (by simp only; omega)
  have f1 : ∀ W, Keep [] w1 W → W.cell? ⟨w.heap.size, 0, none⟩ = some (.int .i64 ep) ∧ W.cell? ⟨w.heap.size, 1, none⟩ = some (.int .i64 nd) ∧ W.cell? ⟨w.heap.size, 2, none⟩ = some (.slice oa0 own.length oc0) := by
    intro W hk
    have b2 := (hk.block _ (lt_of_heap b1) (by simp)).trans b1
    refine ⟨?_, ?_, ?_⟩ <;> (unfold World.cell?; rw [b2]; rfl)
  unfold Tb.val at hrt hcp ⊢
  rw [hr] at hrt
  simp only at hcp
  have HRT := Lib.hid hrt
  have HCP := Lib.hid hcp
  have HK1 := Lib.hid k1
  have HF1 := Lib.hid f1
  have hmm := @run_makeMap Tryz.prog
  obtain ⟨d0, d1, d2⟩ := f1 w1 (Keep.refl _ _)
  clear hI hr hrt hcp k1 b1 f1
  go_enter Tryz.func6, Tryz.ntmps6
  go_wp2_with (fail)
  refine HRT.out.mono ?_
  rintro e w2 ⟨rfl, hB⟩
  have hk2 : Keep [] w1 w2 := Keep.of_below hB []
  clear d0 d1 d2
  obtain ⟨d0, d1, d2⟩ := HF1.out w2 hk2
  have HC2 := Lib.hid (HCP.out w2 hk2)
  have HK2 := Lib.hid (HK1.out.trans hk2)
  clear hB hk2
  go_wp2_with (fail)
  refine HC2.out.mono ?_
  rintro e w3 ⟨a, d, rfl, hrow, hk3⟩
  have HR := Lib.hid hrow
  have HK3 := Lib.hid (HK2.out.trans hk3)
  clear hrow hk3
  go_wp2_with (fail)
  refine (new_any w3).mono ?_
  rintro e w4 ⟨rfl, rfl⟩
  go_wp2_with (fail)
  obtain ⟨w4, hw4⟩ : ∃ u, w3.alloc (.cells #[.map none, .int .i64 0] 101) = u := ⟨_, rfl⟩
  obtain ⟨w5, hw5⟩ : ∃ u, w4.alloc (.map #[] 0) = u := ⟨_, rfl⟩
  have s4 : w4.heap.size = w3.heap.size + 1 := by rw [← hw4, World.size_alloc]
  have s5 : w5.heap.size = w3.heap.size + 1 + 1 := by rw [← hw5, World.size_alloc, s4]
  rw [hw4, hw5]
  have k4 : Keep [] w3 w4 := by rw [← hw4]; exact (Keep.refl _ _).alloc _
  have k5 : Keep [] w4 w5 := by rw [← hw5]; exact (Keep.refl _ _).alloc _
  obtain ⟨w6, hw6⟩ : ∃ u, w5.alloc (.cells #[.int .i64 ep, .int .i64 nd, .slice a own.length d, .pointer (some ⟨w3.heap.size, 0, none⟩), .map (some (w3.heap.size + 1)), .int .i64 0, .int .i64 0] 38) = u := ⟨_, rfl⟩
  have k6 : Keep [] w5 w6 := by rw [← hw6]; exact (Keep.refl _ _).alloc _
  have hco : CoAt w6 (w3.heap.size + 1 + 1) a d w3.heap.size none (w3.heap.size + 1) ⟨ep, nd, own, [], 0, [], 0, 0⟩ := by
    have h0 : IRow 0 w3 (.slice a own.length d) own := own_low HR.out (Nat.zero_le _)
    refine ⟨by rw [← hw6, ← s5]; exact World.alloc_heap_new w5 _, ((h0.keep k4 (by simp)).keep k5 (by simp)).keep k6 (by simp), ?_, ?_, by simp⟩
    · exact ((show BookAt w4 w3.heap.size none [] 0 from by rw [← hw4]; exact book_new w3).keep k5 (by simp)).keep k6 (by simp)
    · exact (show MapIs ekI St.val w5 (w3.heap.size + 1) ([] : List (Int × St)) from by rw [← hw5, ← s4]; exact MapIs.new w4).keep k6 (by simp)
  have hge : ∀ x ∈ cfoot (w3.heap.size + 1 + 1) a d own.length w3.heap.size none (w3.heap.size + 1), w.heap.size ≤ x := by
    intro x hx
    have h3 := HK3.out.size
    have h2 := HK2.out.size
    simp only [cfoot, List.mem_cons, List.mem_append] at hx
    rcases hx with rfl | rfl | rfl | e | e
    · omega
    · omega
    · omega
    · simp at e
    · have := own_base HR.out x (by simpa using e)
      omega
  rw [hw6]
  have HCO := Lib.hid hco
  have HKK := Lib.hid (((HK3.out.trans k4).trans k5).trans k6)
  clear hco k4 k5 k6 hw4 hw5 hw6
  go_ret2
  exact ⟨_, _, _, _, _, rfl, HCO.out, HKK.out, hge⟩
end
section
open Go.RowKit Go.Lib
open Go.ChangeMaps (setBlock)
set_option linter.unusedSimpArgs false
set_option linter.unusedVariables false
/-- What Order comes to. -/
def coOrd (c : Cd) (part to : Int) : Int × Int × Cd :=
  let r := ordF (c.tb none 0) part to c.m c.last
  (r.1, r.2.1, { c with m := r.2.2.1, last := r.2.2.2, at_ := if r.2.1 = 0 then put r.1 ⟨1, 0⟩ c.at_ else c.at_ })
def Spec.ord (bp : Nat) (om : Option Nat) (m : List (Int × En)) (last : Int) (n e : Int) (m' : List (Int × En)) (last' : Int) (w0 : World) : Spec :=
  { p := fun _ v => v = .tuple #[.int .i64 n, .int .i64 e], A := fun _ _ w => ∃ om', BookAt w bp om' m' last' ∧ (om' = om ∨ om = none ∧ ∃ b, om' = some b ∧ w0.heap.size ≤ b), B := fun w => BookAt w bp om m last ∧ w0.heap.size ≤ w.heap.size, G := fun _ => Keep (foot bp om) }
theorem CoAt.off {X : List Nat} {W W' : World} {p : Nat} {oa : Option Addr} {oc bp : Nat} {om : Option Nat} {ab : Nat} {c : Cd} (h : CoAt W p oa oc bp om ab c) (hk : Keep X W W') (hx : p ∉ X) :
    W'.cell? ⟨p, 0, none⟩ = some (.int .i64 c.ep) ∧ W'.cell? ⟨p, 1, none⟩ = some (.int .i64 c.nd) ∧ W'.cell? ⟨p, 2, none⟩ = some (.slice oa c.own.length oc) ∧ W'.cell? ⟨p, 3, none⟩ = some (.pointer (some ⟨bp, 0, none⟩)) ∧ W'.cell? ⟨p, 4, none⟩ = some (.map (some ab)) ∧ W'.cell? ⟨p, 5, none⟩ = some (.int .i64 c.com) ∧ W'.cell? ⟨p, 6, none⟩ = some (.int .i64 c.abo) ∧ (∀ o, W'.frozen? ⟨p, o, none⟩ = false) := by
  have hb := (hk.block p (lt_of_heap h.blk) hx).trans h.blk
  refine ⟨?_, ?_, ?_, ?_, ?_, ?_, ?_, fun o => ?_⟩
  all_goals first | (unfold World.cell?; rw [hb]; rfl) | (unfold World.frozen?; rw [hb]; simp)
theorem obj_map_ne {W : World} {g b : Nat} {t : TypeId} {cs : Array Value} {f : Nat × Nat} {es : Array MapEntry} {ck : Nat} (h : W.heap[g]? = some (.cells cs t f)) (hm : W.heap[b]? = some (.map es ck)) : g ≠ b := by
  rintro rfl
  rw [h] at hm
  cases hm
theorem own_map_ne {W : World} {b base n size : Nat} {e : TypeId} {v : Value} {xs : List Value} {es : Array MapEntry} {ck : Nat} (h : W.ownsRow base e size v n xs) (hm : W.heap[b]? = some (.map es ck)) : ∀ g, v.ownBlock = some g → g ≠ b := by
  rintro g hg rfl
  rcases h.2 with ⟨hv, _⟩ | ⟨g', cap, cur, hv, hb', hg', r⟩
  · rw [hv] at hg; cases hg
  · rw [hv] at hg
    obtain rfl : g' = g := by simpa [Value.ownBlock] using hg
    rw [hg'] at hm
    cases hm
/-- How a coordinator's blocks lie apart. -/
structure CoAp (p bp ab : Nat) (om : Option Nat) (rb : Option Nat) : Prop where
  p_bp : p ≠ bp
  p_ab : p ≠ ab
  p_om : ∀ b, om = some b → p ≠ b
  bp_ab : bp ≠ ab
  bp_om : ∀ b, om = some b → bp ≠ b
  ab_om : ∀ b, om = some b → ab ≠ b
  r_p : ∀ g, rb = some g → g ≠ p
  r_bp : ∀ g, rb = some g → g ≠ bp
  r_ab : ∀ g, rb = some g → g ≠ ab
  r_om : ∀ g b, rb = some g → om = some b → g ≠ b
theorem CoAt.ap {W : World} {p : Nat} {oa : Option Addr} {oc bp : Nat} {om : Option Nat} {ab : Nat} {c : Cd} (h : CoAt W p oa oc bp om ab c) : CoAp p bp ab om (Value.slice oa c.own.length oc).ownBlock := by
  have ho : ∀ b, om = some b → ∃ es ck, W.heap[b]? = some (.map es ck) := by
    rintro b rfl
    obtain ⟨es, ck, h1, _⟩ := h.book.map
    exact ⟨es, ck, h1⟩
  obtain ⟨es, ck, ha, _⟩ := h.map
  refine ⟨obj_ne h.blk h.book.blk (by decide), obj_map_ne h.blk ha, fun b e => ?_, obj_map_ne h.book.blk ha, fun b e => ?_, fun b e => ?_, own_ne_obj h.row h.blk (by decide), own_ne_obj h.row h.book.blk (by decide), own_map_ne h.row ha, fun g b hg e => ?_⟩
  · obtain ⟨es, ck, h1⟩ := ho b e
    exact obj_map_ne h.blk h1
  · obtain ⟨es, ck, h1⟩ := ho b e
    exact obj_map_ne h.book.blk h1
  · rintro rfl
    exact h.ne e
  · obtain ⟨es, ck, h1⟩ := ho b e
    exact own_map_ne h.row h1 g hg
theorem CoAt.bookOff {W : World} {p : Nat} {oa : Option Addr} {oc bp : Nat} {om : Option Nat} {ab : Nat} {c : Cd} (h : CoAt W p oa oc bp om ab c) : p ∉ foot bp om ∧ ab ∉ foot bp om ∧ (∀ g, (Value.slice oa c.own.length oc).ownBlock = some g → g ∉ foot bp om) ∧ (∀ x ∈ foot bp om, x ∈ cfoot p oa oc c.own.length bp om ab) := by
  have hap := h.ap
  refine ⟨?_, ?_, fun g hg => ?_, fun x hx => ?_⟩
  · simp only [foot, List.mem_cons, not_or]
    exact ⟨hap.p_bp, fun hm => hap.p_om p (by simpa using hm) rfl⟩
  · simp only [foot, List.mem_cons, not_or]
    exact ⟨hap.bp_ab.symm, fun hm => hap.ab_om ab (by simpa using hm) rfl⟩
  · simp only [foot, List.mem_cons, not_or]
    exact ⟨hap.r_bp g hg, fun hm => hap.r_om g g hg (by simpa using hm) rfl⟩
  · simp only [foot, List.mem_cons] at hx
    simp only [cfoot, List.mem_cons, List.mem_append]
    rcases hx with e | e
    · exact .inr (.inl e)
    · exact .inr (.inr (.inr (.inl e)))
theorem upSt {W : World} {b : Nat} {m : List (Int × St)} (h : MapIs ekI St.val W b m) (hn : (m.map (·.1)).Nodup) (k st : Int) (dn : Nat) (d : Int) (hd : d = dn) : ∃ o, (Instr.mapUpdate 36 (.map (some b)) (.int .i64 k) (.agg #[.int .i64 st, .int .i64 d])).run Tryz.prog W = .ok () (setBlock W b o) ∧ MapIs ekI St.val (setBlock W b o) b (put k ⟨st, dn⟩ m) := by
  subst hd
  exact run_update (W := W) Tryz.underlying36 (keyLaw_int Tryz.underlying3) h hn k ⟨st, dn⟩
/-- A coordinator whose states have changed. -/
theorem CoAt.setAt {W W' : World} {p : Nat} {oa : Option Addr} {oc bp : Nat} {om : Option Nat} {ab : Nat} {c : Cd} (h : CoAt W p oa oc bp om ab c) {at2 : List (Int × St)} (hk : Keep [ab] W W') (hm : MapIs ekI St.val W' ab at2) : CoAt W' p oa oc bp om ab { c with at_ := at2 } := by
  have hap := h.ap
  refine ⟨(hk.block p (lt_of_heap h.blk) (by simpa using hap.p_ab)).trans h.blk, h.row.keep hk (fun g hg => by have := hap.r_ab g hg; simpa using this), h.book.keep hk (fun b hb => ?_), hm, h.ne⟩
  simp only [foot, List.mem_cons] at hb
  rcases hb with rfl | hb
  · simpa using hap.bp_ab
  · have := hap.ab_om b (by simpa using hb)
    simpa using this.symm
set_option maxRecDepth 100000 in
set_option maxHeartbeats 4000000 in
theorem cord_any {w : World} {p : Nat} {oa : Option Addr} {oc bp : Nat} {om : Option Nat} {ab : Nat} {c : Cd} (h : CoAt w p oa oc bp om ab c) (hn : (c.m.map (·.1)).Nodup) (hn2 : (c.at_.map (·.1)).Nodup) (hl0 : 0 ≤ c.last) (part to : Int) : Calls Tryz.prog 8 #[.pointer (some ⟨p, 0, none⟩), .int .i64 part, .int .i64 to] w fun e w' => e = .returned (.tuple #[.int .i64 (coOrd c part to).1, .int .i64 (coOrd c part to).2.1]) ∧ ∃ om', CoAt w' p oa oc bp om' ab (coOrd c part to).2.2 ∧ (om' = om ∨ ∃ b, om' = some b ∧ w.heap.size ≤ b) ∧ Keep (cfoot p oa oc c.own.length bp om ab) w w' := by
  obtain ⟨hpx, hax, hrx, hfx⟩ := h.bookOff
  obtain ⟨n, e0, m', l', hr⟩ : ∃ n e0 m' l', ordF (c.tb none 0) part to c.m c.last = (n, e0, m', l') := ⟨_, _, _, _, rfl⟩
  have hco : coOrd c part to = (n, e0, { c with m := m', last := l', at_ := if e0 = 0 then put n ⟨1, 0⟩ c.at_ else c.at_ }) := by unfold coOrd; rw [hr]
  have hord := fun (W : World) (hb : BookAt W bp om c.m c.last) (hi : IntsAt W oa c.own) => order_any hb hn hl0 (c.tb oa oc) hi h.sep part to
  rw [show ordF (c.tb oa oc) part to c.m c.last = ordF (c.tb none 0) part to c.m c.last from rfl, hr] at hord
  unfold Cd.tb Tb.val at hord
  simp only at hord
  rw [hco]
  have HC := Lib.hid h
  have HPX := Lib.hid hpx
  have HAX := Lib.hid hax
  have HRX := Lib.hid hrx
  have HFX := Lib.hid hfx
  have HORD := Lib.hid hord
  have hpl := lt_of_heap h.blk
  clear h hpx hax hrx hfx hord hr hco
  go_enter Tryz.func8, Tryz.ntmps8
  go_wp2_with (fail)
  refine (none_any HC.out).mono ?_
  rintro e w0 ⟨rfl, hw0⟩
  rw [hw0]
  clear hw0
  go_wp2_with (fail)
  refine wp_region_soup 15 (foot bp om) (spOf [(10, Spec.ord bp om c.m c.last n e0 m' l' w)]) (by kernel_rfl) (by kernel_rfl) (spOk_one (fun _ => ⟨_, rfl⟩)) (fun i s hs => by have h := spOf_mem hs; simp at h; rcases h with ⟨_, rfl⟩; exact ⟨HC.out.book.keep (Keep.refl [] _).drew (by simp), Nat.le_refl _⟩) ?_
  simp only [List.take_succ_cons, List.take_zero, List.drop_succ_cons, List.drop_zero]
  iterate 3
    with_reducible refine soup_q ?_ ?_ ?_
    · rfl
    · rfl
    with_reducible apply Exists.intro
    with_reducible refine ⟨fun W hk _ => ?_, ?_⟩
    · unfold Oper.same
      go_simp
      first | rfl | exact ⟨rfl, rfl⟩
    with_reducible apply Exists.intro
    with_reducible refine ⟨?_, ?_⟩
    · go_simp
      rfl
  with_reducible refine soup_q ?_ ?_ ?_
  · rfl
  · rfl
  with_reducible apply Exists.intro
  with_reducible refine ⟨fun W hk _ => ?_, ?_⟩
  · have c0 := (HC.out.off hk HPX.out).2.2.2.1
    unfold Oper.same
    go_simp
    first | rfl | exact ⟨rfl, rfl⟩
  with_reducible apply Exists.intro
  with_reducible refine ⟨?_, ?_⟩
  · go_simp
    rfl
  iterate 3
    with_reducible refine soup_q ?_ ?_ ?_
    · rfl
    · rfl
    with_reducible apply Exists.intro
    with_reducible refine ⟨fun W hk _ => ?_, ?_⟩
    · unfold Oper.same
      go_simp
      first | rfl | exact ⟨rfl, rfl⟩
    with_reducible apply Exists.intro
    with_reducible refine ⟨?_, ?_⟩
    · go_simp
      rfl
  with_reducible refine soup_q ?_ ?_ ?_
  · rfl
  · rfl
  with_reducible apply Exists.intro
  with_reducible refine ⟨fun W hk _ => ?_, ?_⟩
  · have c0 := (HC.out.off hk HPX.out).1
    have c1 := (HC.out.off hk HPX.out).2.1
    have c2 := (HC.out.off hk HPX.out).2.2.1
    unfold Oper.same
    go_simp
    first | rfl | exact ⟨rfl, rfl⟩
  with_reducible apply Exists.intro
  with_reducible refine ⟨?_, ?_⟩
  · go_simp
    rfl
  iterate 2
    with_reducible refine soup_q ?_ ?_ ?_
    · rfl
    · rfl
    with_reducible apply Exists.intro
    with_reducible refine ⟨fun W hk _ => ?_, ?_⟩
    · unfold Oper.same
      go_simp
      first | rfl | exact ⟨rfl, rfl⟩
    with_reducible apply Exists.intro
    with_reducible refine ⟨?_, ?_⟩
    · go_simp
      rfl
  refine soup_s rfl rfl rfl (fun W hk hB _ => ?_) ?_
  · unfold Oper.does
    go_simp
    refine (HORD.out W hB.1 (HC.out.row.keep hk HRX.out).at).mono ?_
    rintro e w' ⟨rfl, ⟨om', h1, h2⟩, h3⟩
    refine ⟨_, rfl, h3, hk.trans h3, rfl, om', h1, ?_⟩
    rcases h2 with h2 | ⟨h2, b, h4, h5⟩
    · exact .inl h2
    · exact .inr ⟨h2, b, h4, Nat.le_trans hB.2 h5⟩
  intro v hv
  obtain rfl : v = _ := hv
  with_reducible apply Exists.intro
  with_reducible refine ⟨?_, ?_⟩
  · go_simp
    rfl
  iterate 4
    with_reducible refine soup_q ?_ ?_ ?_
    · rfl
    · rfl
    with_reducible apply Exists.intro
    with_reducible refine ⟨fun W hk _ => ?_, ?_⟩
    · unfold Oper.same
      go_simp
      first | rfl | exact ⟨rfl, rfl⟩
    with_reducible apply Exists.intro
    with_reducible refine ⟨?_, ?_⟩
    · go_simp
      rfl
  refine soup_nil (fun W hk hS => ?_)
  obtain ⟨om', hbk, hom⟩ := hS 10
  have hne' : om' ≠ some ab := by
    rcases hom with e | ⟨e, b, e2, e3⟩
    · rw [e]; exact HC.out.ne
    · rw [e2]
      intro e4
      obtain rfl : b = ab := by simpa using e4
      have := HC.out.map.lt
      omega
  have hom' : om' = om ∨ ∃ b, om' = some b ∧ w.heap.size ≤ b := hom.imp id (fun h => h.2)
  have hmp := HC.out.map.keep hk HAX.out
  have hco : CoAt W p oa oc bp om' ab { c with m := m', last := l' } := ⟨(hk.block p hpl HPX.out).trans HC.out.blk, HC.out.row.keep hk HRX.out, hbk, hmp, hne'⟩
  have hkk : Keep (cfoot p oa oc c.own.length bp om ab) w W := hk.mono (fun x hx => .inl (HFX.out x hx))
  obtain ⟨c0, c1, c2, c3, c4, c5, c6, c7⟩ := HC.out.off hk HPX.out
  have HCO := Lib.hid hco
  have HKK := Lib.hid hkk
  have HOM := Lib.hid hom'
  by_cases he : e0 = 0
  · subst he
    obtain ⟨o, hup, hmp2⟩ := upSt hmp hn2 n 1 0 0 rfl
    have HMP := Lib.hid hmp2
    clear hmp2 hmp hk hS hbk hkk hne' hom hom' hco
    go_wp2_with (fail)
    go_ret2
    have hks : Keep [ab] W (setBlock W ab o) := (Keep.refl _ _).setBlock _ _ (.inl (by simp))
    exact ⟨rfl, om', HCO.out.setAt hks HMP.out, HOM.out, HKK.out.setBlock _ _ (.inl (by simp [cfoot]))⟩
  · have hne : ((e0 : Int) == 0) = false := by simpa using he
    have HE := Lib.hid he
    clear he
    clear hmp hk hS hbk hkk hne' hom hom' hco
    go_wp2_with (fail)
    go_ret2
    exact ⟨rfl, om', HCO.out, HOM.out, HKK.out⟩
end
section
open Go.RowKit Go.Lib
open Go.ChangeMaps (setBlock)
set_option linter.unusedSimpArgs false
set_option linter.unusedVariables false
/-- A move in a block. -/
def EnAt (W : World) (b : Nat) (x : En) : Prop := W.heap[b]? = some (.cells #[.int .i64 x.mv, .int .i64 x.part, .int .i64 x.fr, .int .i64 x.to] 78 (0, 0))
theorem EnAt.keep {X : List Nat} {W W' : World} {b : Nat} {x : En} (h : EnAt W b x) (hk : Keep X W W') (hx : b ∉ X) : EnAt W' b x := (hk.block b (lt_of_heap h) hx).trans h
theorem EnAt.facts {W : World} {b : Nat} {x : En} (h : EnAt W b x) : W.cell? ⟨b, 0, none⟩ = some (.int .i64 x.mv) ∧ W.cell? ⟨b, 1, none⟩ = some (.int .i64 x.part) ∧ W.cell? ⟨b, 2, none⟩ = some (.int .i64 x.fr) ∧ W.cell? ⟨b, 3, none⟩ = some (.int .i64 x.to) ∧ (∀ o, W.frozen? ⟨b, o, none⟩ = false) := by
  unfold EnAt at h
  refine ⟨?_, ?_, ?_, ?_, fun o => ?_⟩
  all_goals first | (unfold World.cell?; rw [h]; rfl) | (unfold World.frozen?; rw [h]; simp)
theorem field0 (a b : Value) (W : World) : (Instr.field 76 (.agg #[a, b]) 0).run Tryz.prog W = .ok a W := by kernel_rfl
/-- What Abort comes to. -/
def coAbort (c : Cd) (part : Int) : Int × Cd :=
  if part < 0 ∨ (c.own.length : Int) ≤ part then (21, c)
  else if (look part c.m).isSome = false then (4, c)
  else if (atOf ((look part c.m).getD En.zero).mv c.at_).st = 1 then (0, { c with at_ := put ((look part c.m).getD En.zero).mv ⟨3, 0⟩ c.at_ })
  else (11, c)
set_option maxRecDepth 100000 in
set_option maxHeartbeats 4000000 in
theorem cabort_any {w : World} {p : Nat} {oa : Option Addr} {oc bp : Nat} {om : Option Nat} {ab : Nat} {c : Cd} (h : CoAt w p oa oc bp om ab c) (hn2 : (c.at_.map (·.1)).Nodup) (part : Int) : Calls Tryz.prog 9 #[.pointer (some ⟨p, 0, none⟩), .int .i64 part] w fun e w' => e = .returned (.int .i64 (coAbort c part).1) ∧ CoAt w' p oa oc bp om ab (coAbort c part).2 ∧ Keep (cfoot p oa oc c.own.length bp om ab) w w' := by
  have HC := Lib.hid h
  have hpl := lt_of_heap h.blk
  have hof := of_any h.book part
  obtain ⟨x, hx⟩ : ∃ x, (look part c.m).getD En.zero = x := ⟨_, rfl⟩
  obtain ⟨b, hb⟩ : ∃ b, (look part c.m).isSome = b := ⟨_, rfl⟩
  have hco : coAbort c part = if part < 0 ∨ (c.own.length : Int) ≤ part then (21, c) else if b = false then (4, c) else if (atOf x.mv c.at_).st = 1 then (0, { c with at_ := put x.mv ⟨3, 0⟩ c.at_ }) else (11, c) := by unfold coAbort; rw [hx, hb]
  rw [hx, hb] at hof
  obtain ⟨x1, x2, x3, x4⟩ := x
  unfold En.val at hof
  simp only at hof hco
  have HOF := Lib.hid hof
  have HCO := Lib.hid hco
  clear h hof hx hb hco
  by_cases hp : part < 0 ∨ (c.own.length : Int) ≤ part
  · have hres : coAbort c part = (21, c) := by rw [HCO.out, if_pos hp]
    have HRES := Lib.hid hres
    clear hres
    by_cases hp0 : part < 0
    · clear hp
      have hp2 : part < 1000 := by omega
      go_enter Tryz.func9, Tryz.ntmps9
      go_wp2_with (fail)
      refine (none_any HC.out).mono ?_
      rintro e w0 ⟨rfl, hw0⟩
      rw [hw0]
      clear hw0
      obtain ⟨c0, c1, c2, c3, c4, c5, c6, c7⟩ := HC.out.facts
      go_wp2_with (fail)
      refine HOF.out.mono ?_
      rintro e w1 ⟨rfl, hB⟩
      have hk1 : Keep [] w w1 := Keep.of_below hB []
      clear c0 c1 c2 c3 c4 c5 c6 c7
      obtain ⟨w2, hw2⟩ : ∃ u, w1.alloc (.cells #[.int .i64 x1, .int .i64 x2, .int .i64 x3, .int .i64 x4] 78) = u := ⟨_, rfl⟩
      have hk2 : Keep [] w1 w2 := by rw [← hw2]; exact (Keep.refl _ _).alloc _
      have he : EnAt w2 w1.heap.size ⟨x1, x2, x3, x4⟩ := by rw [← hw2]; exact World.alloc_heap_new w1 _
      have hc2 := HC.out.kept (hk1.trans hk2)
      obtain ⟨c0, c1, c2, c3, c4, c5, c6, c7⟩ := hc2.facts
      obtain ⟨e0, e1, e2, e3, e4⟩ := he.facts
      have HE := Lib.hid he
      have HC2 := Lib.hid hc2
      have HK2 := Lib.hid (hk1.trans hk2)
      have hpl2 := lt_of_heap hc2.blk
      have hel := lt_of_heap he
      clear he hc2 hk1 hk2 hB
      go_wp2_with (fail)
      go_ret
      rw [HRES.out]
      exact ⟨rfl, HC2.out, HK2.out.mono (by simp)⟩
    · have hp2 : ¬ part < (c.own.length : Int) := by omega
      clear hp
      go_enter Tryz.func9, Tryz.ntmps9
      go_wp2_with (fail)
      refine (none_any HC.out).mono ?_
      rintro e w0 ⟨rfl, hw0⟩
      rw [hw0]
      clear hw0
      obtain ⟨c0, c1, c2, c3, c4, c5, c6, c7⟩ := HC.out.facts
      go_wp2_with (fail)
      refine HOF.out.mono ?_
      rintro e w1 ⟨rfl, hB⟩
      have hk1 : Keep [] w w1 := Keep.of_below hB []
      clear c0 c1 c2 c3 c4 c5 c6 c7
      obtain ⟨w2, hw2⟩ : ∃ u, w1.alloc (.cells #[.int .i64 x1, .int .i64 x2, .int .i64 x3, .int .i64 x4] 78) = u := ⟨_, rfl⟩
      have hk2 : Keep [] w1 w2 := by rw [← hw2]; exact (Keep.refl _ _).alloc _
      have he : EnAt w2 w1.heap.size ⟨x1, x2, x3, x4⟩ := by rw [← hw2]; exact World.alloc_heap_new w1 _
      have hc2 := HC.out.kept (hk1.trans hk2)
      obtain ⟨c0, c1, c2, c3, c4, c5, c6, c7⟩ := hc2.facts
      obtain ⟨e0, e1, e2, e3, e4⟩ := he.facts
      have HE := Lib.hid he
      have HC2 := Lib.hid hc2
      have HK2 := Lib.hid (hk1.trans hk2)
      have hpl2 := lt_of_heap hc2.blk
      have hel := lt_of_heap he
      clear he hc2 hk1 hk2 hB
      go_wp2_with (fail)
      go_ret
      rw [HRES.out]
      exact ⟨rfl, HC2.out, HK2.out.mono (by simp)⟩
  · have hp1 : ¬ part < 0 := by omega
    have hp2 : part < (c.own.length : Int) := by omega
    cases b with
    | false =>
      have hres : coAbort c part = (4, c) := by rw [HCO.out, if_neg hp, if_pos rfl]
      have HRES := Lib.hid hres
      clear hp hres
      go_enter Tryz.func9, Tryz.ntmps9
      go_wp2_with (fail)
      refine (none_any HC.out).mono ?_
      rintro e w0 ⟨rfl, hw0⟩
      rw [hw0]
      clear hw0
      obtain ⟨c0, c1, c2, c3, c4, c5, c6, c7⟩ := HC.out.facts
      go_wp2_with (fail)
      refine HOF.out.mono ?_
      rintro e w1 ⟨rfl, hB⟩
      have hk1 : Keep [] w w1 := Keep.of_below hB []
      clear c0 c1 c2 c3 c4 c5 c6 c7
      obtain ⟨w2, hw2⟩ : ∃ u, w1.alloc (.cells #[.int .i64 x1, .int .i64 x2, .int .i64 x3, .int .i64 x4] 78) = u := ⟨_, rfl⟩
      have hk2 : Keep [] w1 w2 := by rw [← hw2]; exact (Keep.refl _ _).alloc _
      have he : EnAt w2 w1.heap.size ⟨x1, x2, x3, x4⟩ := by rw [← hw2]; exact World.alloc_heap_new w1 _
      have hc2 := HC.out.kept (hk1.trans hk2)
      obtain ⟨c0, c1, c2, c3, c4, c5, c6, c7⟩ := hc2.facts
      obtain ⟨e0, e1, e2, e3, e4⟩ := he.facts
      have HE := Lib.hid he
      have HC2 := Lib.hid hc2
      have HK2 := Lib.hid (hk1.trans hk2)
      have hpl2 := lt_of_heap hc2.blk
      have hel := lt_of_heap he
      clear he hc2 hk1 hk2 hB
      go_wp2_with (fail)
      go_ret
      rw [HRES.out]
      exact ⟨rfl, HC2.out, HK2.out.mono (by simp)⟩
    | true =>
      obtain ⟨⟨st, dn⟩, hst⟩ : ∃ s, atOf x1 c.at_ = s := ⟨_, rfl⟩
      by_cases h1 : st = 1
      · have hres : coAbort c part = (0, { c with at_ := put x1 ⟨3, 0⟩ c.at_ }) := by rw [HCO.out, if_neg hp, if_neg (by simp), hst, if_pos h1]
        have HRES := Lib.hid hres
        subst h1
        clear hp hres
        go_enter Tryz.func9, Tryz.ntmps9
        go_wp2_with (fail)
        refine (none_any HC.out).mono ?_
        rintro e w0 ⟨rfl, hw0⟩
        rw [hw0]
        clear hw0
        obtain ⟨c0, c1, c2, c3, c4, c5, c6, c7⟩ := HC.out.facts
        go_wp2_with (fail)
        refine HOF.out.mono ?_
        rintro e w1 ⟨rfl, hB⟩
        have hk1 : Keep [] w w1 := Keep.of_below hB []
        clear c0 c1 c2 c3 c4 c5 c6 c7
        obtain ⟨w2, hw2⟩ : ∃ u, w1.alloc (.cells #[.int .i64 x1, .int .i64 x2, .int .i64 x3, .int .i64 x4] 78) = u := ⟨_, rfl⟩
        have hk2 : Keep [] w1 w2 := by rw [← hw2]; exact (Keep.refl _ _).alloc _
        have he : EnAt w2 w1.heap.size ⟨x1, x2, x3, x4⟩ := by rw [← hw2]; exact World.alloc_heap_new w1 _
        have hc2 := HC.out.kept (hk1.trans hk2)
        obtain ⟨c0, c1, c2, c3, c4, c5, c6, c7⟩ := hc2.facts
        obtain ⟨e0, e1, e2, e3, e4⟩ := he.facts
        have HE := Lib.hid he
        have HC2 := Lib.hid hc2
        have HK2 := Lib.hid (hk1.trans hk2)
        have hpl2 := lt_of_heap hc2.blk
        have hel := lt_of_heap he
        clear he hc2 hk1 hk2 hB
        go_wp2_with (fail)
        refine wp_region_soup 6 [] (fun _ => none) (by kernel_rfl) (by kernel_rfl) (spOk_of (l := []) (by simp)) (pre_of (l := []) (by simp)) ?_
        simp only [List.take_succ_cons, List.take_zero, List.drop_succ_cons, List.drop_zero]
        iterate 3
          with_reducible refine soup_q ?_ ?_ ?_
          · rfl
          · rfl
          with_reducible apply Exists.intro
          with_reducible refine ⟨fun W hk _ => ?_, ?_⟩
          · unfold Oper.same
            go_simp
            first | rfl | exact ⟨rfl, rfl⟩
          with_reducible apply Exists.intro
          with_reducible refine ⟨?_, ?_⟩
          · go_simp
            rfl
        with_reducible refine soup_q ?_ ?_ ?_
        · rfl
        · rfl
        with_reducible apply Exists.intro
        with_reducible refine ⟨fun W hk _ => ?_, ?_⟩
        · have c0 := (HC2.out.kept hk).facts.2.2.2.2.1
          unfold Oper.same
          go_simp
          first | rfl | exact ⟨rfl, rfl⟩
        with_reducible apply Exists.intro
        with_reducible refine ⟨?_, ?_⟩
        · go_simp
          rfl
        with_reducible refine soup_q ?_ ?_ ?_
        · rfl
        · rfl
        with_reducible apply Exists.intro
        with_reducible refine ⟨fun W hk _ => ?_, ?_⟩
        · unfold Oper.same
          go_simp
          first | rfl | exact ⟨rfl, rfl⟩
        with_reducible apply Exists.intro
        with_reducible refine ⟨?_, ?_⟩
        · go_simp
          rfl
        with_reducible refine soup_q ?_ ?_ ?_
        · rfl
        · rfl
        with_reducible apply Exists.intro
        with_reducible refine ⟨fun W hk _ => ?_, ?_⟩
        · have c0 := (HE.out.keep hk (by simp)).facts.1
          unfold Oper.same
          go_simp
          first | rfl | exact ⟨rfl, rfl⟩
        with_reducible apply Exists.intro
        with_reducible refine ⟨?_, ?_⟩
        · go_simp
          rfl
        refine soup_nil (fun W hk hS => ?_)
        have hm3 := HC2.out.map.keep hk (by simp)
        have hlk := lookSt hm3 x1
        have HK3 := Lib.hid (HK2.out.trans hk)
        have HC3 := Lib.hid (HC2.out.kept hk)
        have HE := Lib.hid (HE.out.keep hk (by simp))
        rw [hst] at hlk
        simp only at hlk
        have hfd := field0
        clear hk hS hm3
        go_wp2_with (fail)
        clear hlk
        have hpl3 := lt_of_heap HC3.out.blk
        have hel3 := lt_of_heap HE.out
        refine wp_region_soup 7 [] (fun _ => none) (by kernel_rfl) (by kernel_rfl) (spOk_of (l := []) (by simp)) (pre_of (l := []) (by simp)) ?_
        simp only [List.take_succ_cons, List.take_zero, List.drop_succ_cons, List.drop_zero]
        iterate 3
          with_reducible refine soup_q ?_ ?_ ?_
          · rfl
          · rfl
          with_reducible apply Exists.intro
          with_reducible refine ⟨fun W hk _ => ?_, ?_⟩
          · unfold Oper.same
            go_simp
            first | rfl | exact ⟨rfl, rfl⟩
          with_reducible apply Exists.intro
          with_reducible refine ⟨?_, ?_⟩
          · go_simp
            rfl
        with_reducible refine soup_q ?_ ?_ ?_
        · rfl
        · rfl
        with_reducible apply Exists.intro
        with_reducible refine ⟨fun W hk _ => ?_, ?_⟩
        · have c0 := (HC3.out.kept hk).facts.2.2.2.2.1
          unfold Oper.same
          go_simp
          first | rfl | exact ⟨rfl, rfl⟩
        with_reducible apply Exists.intro
        with_reducible refine ⟨?_, ?_⟩
        · go_simp
          rfl
        with_reducible refine soup_q ?_ ?_ ?_
        · rfl
        · rfl
        with_reducible apply Exists.intro
        with_reducible refine ⟨fun W hk _ => ?_, ?_⟩
        · unfold Oper.same
          go_simp
          first | rfl | exact ⟨rfl, rfl⟩
        with_reducible apply Exists.intro
        with_reducible refine ⟨?_, ?_⟩
        · go_simp
          rfl
        with_reducible refine soup_q ?_ ?_ ?_
        · rfl
        · rfl
        with_reducible apply Exists.intro
        with_reducible refine ⟨fun W hk _ => ?_, ?_⟩
        · have c0 := (HE.out.keep hk (by simp)).facts.1
          unfold Oper.same
          go_simp
          first | rfl | exact ⟨rfl, rfl⟩
        with_reducible apply Exists.intro
        with_reducible refine ⟨?_, ?_⟩
        · go_simp
          rfl
        with_reducible refine soup_q ?_ ?_ ?_
        · rfl
        · rfl
        with_reducible apply Exists.intro
        with_reducible refine ⟨fun W hk _ => ?_, ?_⟩
        · unfold Oper.same
          go_simp
          first | rfl | exact ⟨rfl, rfl⟩
        with_reducible apply Exists.intro
        with_reducible refine ⟨?_, ?_⟩
        · go_simp
          rfl
        refine soup_nil (fun W hk hS => ?_)
        obtain ⟨o, hup, hmp2⟩ := upSt (HC3.out.map.keep hk (by simp)) hn2 x1 3 0 0 rfl
        have HMP := Lib.hid hmp2
        have HC4 := Lib.hid (HC3.out.kept hk)
        have HK4 := Lib.hid (HK3.out.trans hk)
        clear hk hS hmp2
        go_wp2_with (fail)
        go_ret
        rw [HRES.out]
        exact ⟨rfl, HC4.out.setAt ((Keep.refl _ _).setBlock _ _ (.inl (by simp))) HMP.out, (HK4.out.mono (by simp)).setBlock _ _ (.inl (by simp [cfoot]))⟩
      · have hres : coAbort c part = (11, c) := by rw [HCO.out, if_neg hp, if_neg (by simp), hst, if_neg h1]
        have HRES := Lib.hid hres
        have hne : ((st : Int) == 1) = false := by simpa using h1
        clear hp hres h1
        go_enter Tryz.func9, Tryz.ntmps9
        go_wp2_with (fail)
        refine (none_any HC.out).mono ?_
        rintro e w0 ⟨rfl, hw0⟩
        rw [hw0]
        clear hw0
        obtain ⟨c0, c1, c2, c3, c4, c5, c6, c7⟩ := HC.out.facts
        go_wp2_with (fail)
        refine HOF.out.mono ?_
        rintro e w1 ⟨rfl, hB⟩
        have hk1 : Keep [] w w1 := Keep.of_below hB []
        clear c0 c1 c2 c3 c4 c5 c6 c7
        obtain ⟨w2, hw2⟩ : ∃ u, w1.alloc (.cells #[.int .i64 x1, .int .i64 x2, .int .i64 x3, .int .i64 x4] 78) = u := ⟨_, rfl⟩
        have hk2 : Keep [] w1 w2 := by rw [← hw2]; exact (Keep.refl _ _).alloc _
        have he : EnAt w2 w1.heap.size ⟨x1, x2, x3, x4⟩ := by rw [← hw2]; exact World.alloc_heap_new w1 _
        have hc2 := HC.out.kept (hk1.trans hk2)
        obtain ⟨c0, c1, c2, c3, c4, c5, c6, c7⟩ := hc2.facts
        obtain ⟨e0, e1, e2, e3, e4⟩ := he.facts
        have HE := Lib.hid he
        have HC2 := Lib.hid hc2
        have HK2 := Lib.hid (hk1.trans hk2)
        have hpl2 := lt_of_heap hc2.blk
        have hel := lt_of_heap he
        clear he hc2 hk1 hk2 hB
        go_wp2_with (fail)
        refine wp_region_soup 6 [] (fun _ => none) (by kernel_rfl) (by kernel_rfl) (spOk_of (l := []) (by simp)) (pre_of (l := []) (by simp)) ?_
        simp only [List.take_succ_cons, List.take_zero, List.drop_succ_cons, List.drop_zero]
        iterate 3
          with_reducible refine soup_q ?_ ?_ ?_
          · rfl
          · rfl
          with_reducible apply Exists.intro
          with_reducible refine ⟨fun W hk _ => ?_, ?_⟩
          · unfold Oper.same
            go_simp
            first | rfl | exact ⟨rfl, rfl⟩
          with_reducible apply Exists.intro
          with_reducible refine ⟨?_, ?_⟩
          · go_simp
            rfl
        with_reducible refine soup_q ?_ ?_ ?_
        · rfl
        · rfl
        with_reducible apply Exists.intro
        with_reducible refine ⟨fun W hk _ => ?_, ?_⟩
        · have c0 := (HC2.out.kept hk).facts.2.2.2.2.1
          unfold Oper.same
          go_simp
          first | rfl | exact ⟨rfl, rfl⟩
        with_reducible apply Exists.intro
        with_reducible refine ⟨?_, ?_⟩
        · go_simp
          rfl
        with_reducible refine soup_q ?_ ?_ ?_
        · rfl
        · rfl
        with_reducible apply Exists.intro
        with_reducible refine ⟨fun W hk _ => ?_, ?_⟩
        · unfold Oper.same
          go_simp
          first | rfl | exact ⟨rfl, rfl⟩
        with_reducible apply Exists.intro
        with_reducible refine ⟨?_, ?_⟩
        · go_simp
          rfl
        with_reducible refine soup_q ?_ ?_ ?_
        · rfl
        · rfl
        with_reducible apply Exists.intro
        with_reducible refine ⟨fun W hk _ => ?_, ?_⟩
        · have c0 := (HE.out.keep hk (by simp)).facts.1
          unfold Oper.same
          go_simp
          first | rfl | exact ⟨rfl, rfl⟩
        with_reducible apply Exists.intro
        with_reducible refine ⟨?_, ?_⟩
        · go_simp
          rfl
        refine soup_nil (fun W hk hS => ?_)
        have hm3 := HC2.out.map.keep hk (by simp)
        have hlk := lookSt hm3 x1
        have HK3 := Lib.hid (HK2.out.trans hk)
        have HC3 := Lib.hid (HC2.out.kept hk)
        have HE := Lib.hid (HE.out.keep hk (by simp))
        rw [hst] at hlk
        simp only at hlk
        have hfd := field0
        clear hk hS hm3
        go_wp2_with (fail)
        go_ret
        rw [HRES.out]
        exact ⟨rfl, HC3.out, HK3.out.mono (by simp)⟩
end
section
open Go.RowKit Go.Lib
set_option linter.unusedSimpArgs false
set_option linter.unusedVariables false
theorem IRow.set {base : Nat} {W : World} {g c : Nat} {l : List Int} (h : IRow base W (.slice (some ⟨g, 0, none⟩) l.length c) l) (i : Nat) (x : Int) : IRow base (W.setCell ⟨g, i, none⟩ (.int .i64 x)) (.slice (some ⟨g, 0, none⟩) (l.set i x).length c) (l.set i x) := by
  refine ⟨by simp, .inr ?_⟩
  rcases h.2 with ⟨hv, _⟩ | ⟨g', cap, cur, hv, hb, hg, hn, hc, hcs, htk⟩
  · cases hv
  · simp only [Value.slice.injEq, Option.some.injEq, Addr.mk.injEq, and_true, true_and] at hv
    obtain ⟨rfl, rfl⟩ := hv
    refine ⟨g, c, cur.setIfInBounds i (.int .i64 x), by simp, hb, ?_, by simpa using hn, hc, by simpa using hcs, ?_⟩
    · simp [World.setCell, Array.getElem?_modify, hg]
    · have h1 : (l.set i x).map inV = (l.map inV).set i (inV x) := by rw [List.map_set]
      rw [h1, ← htk]
      simp only [Array.toList_setIfInBounds, List.length_set, Nat.mul_one]
      rw [List.take_set]
      rfl
/-- What Move comes to: the epoch, the nodes, the owners, the error. -/
def mvF (t : Tb) (part to : Int) : Int × Int × List Int × Int :=
  if t.may part to = 0 then (t.ep + 1, t.nodes, t.owner.set part.toNat to, 0) else (0, 0, [], t.may part to)
theorem TbFacts {W : World} {b : Nat} {x y z : Value} (h : W.heap[b]? = some (.cells #[x, y, z] 24 (0, 0))) : W.cell? ⟨b, 0, none⟩ = some x ∧ W.cell? ⟨b, 1, none⟩ = some y ∧ W.cell? ⟨b, 2, none⟩ = some z ∧ (∀ o, W.frozen? ⟨b, o, none⟩ = false) := by
  refine ⟨?_, ?_, ?_, fun o => ?_⟩
  all_goals first | (unfold World.cell?; rw [h]; rfl) | (unfold World.frozen?; rw [h]; simp)
set_option maxRecDepth 100000 in
set_option maxHeartbeats 2000000 in
theorem tmove_any {w : World} (t : Tb) (hI : IntsAt w t.oa t.owner) (part to : Int) : Calls Tryz.prog 49 #[t.val, .int .i64 part, .int .i64 to] w fun e w' => ∃ a c, e = .returned (.tuple #[.agg #[.int .i64 (mvF t part to).1, .int .i64 (mvF t part to).2.1, .slice a (mvF t part to).2.2.1.length c], .int .i64 (mvF t part to).2.2.2]) ∧ IRow w.heap.size w' (.slice a (mvF t part to).2.2.1.length c) (mvF t part to).2.2.1 ∧ Keep [] w w' := by
  obtain ⟨ep, nd, oa, oc, own⟩ := t
  simp only at *
  obtain ⟨w1, hw1⟩ : ∃ u, w.alloc (.cells #[.int .i64 ep, .int .i64 nd, .slice oa own.length oc] 24) = u := ⟨_, rfl⟩
  obtain ⟨w2, hw2⟩ : ∃ u, w1.alloc (.cells #[.int .i64 0, .int .i64 0, .slice none 0 0] 24) = u := ⟨_, rfl⟩
  have s1 : w1.heap.size = w.heap.size + 1 := by rw [← hw1, World.size_alloc]
  have s2 : w2.heap.size = w.heap.size + 2 := by rw [← hw2, World.size_alloc, s1]
  have k1 : Keep [] w w1 := by rw [← hw1]; exact (Keep.refl _ _).alloc _
  have k2 : Keep [] w1 w2 := by rw [← hw2]; exact (Keep.refl _ _).alloc _
  have b1 : w2.heap[w.heap.size]? = some (.cells #[.int .i64 ep, .int .i64 nd, .slice oa own.length oc] 24 (0, 0)) := (k2.block _ (by rw [s1]; omega) (by simp)).trans (by rw [← hw1]; exact World.alloc_heap_new w _)
  have b2 : w2.heap[w.heap.size + 1]? = some (.cells #[.int .i64 0, .int .i64 0, .slice none 0 0] 24 (0, 0)) := by rw [← hw2, ← s1]; exact World.alloc_heap_new w1 _
  have hI2 := hI.keep (k1.trans k2) (by simp)
  have hmay := may_any ⟨ep, nd, oa, oc, own⟩ part to w2 hI2
  have hcp := fun W (hk : Keep [] w2 W) (hl : own.length ≤ 1000) => copy_any (w := W) ⟨ep, nd, oa, oc, own⟩ (hI2.keep hk (by simp)) hl
  unfold Tb.val at hmay hcp ⊢
  simp only at hcp
  obtain ⟨d0, d1, d2, d3⟩ := TbFacts b1
  obtain ⟨e0, hme⟩ : ∃ e0, (⟨ep, nd, oa, oc, own⟩ : Tb).may part to = e0 := ⟨_, rfl⟩
  have hm : mvF ⟨ep, nd, oa, oc, own⟩ part to = if e0 = 0 then (ep + 1, nd, own.set part.toNat to, 0) else (0, 0, [], e0) := by unfold mvF; rw [hme]
  rw [hme] at hmay
  have HMAY := Lib.hid hmay
  have HCP := Lib.hid hcp
  have HB1 := Lib.hid b1
  have HB2 := Lib.hid b2
  have HK := Lib.hid (k1.trans k2)
  have HM := Lib.hid hm
  have HS2 := Lib.hid s2
  clear hmay hcp hI2 hI k1 k2 b1 b2 hm
  by_cases he : e0 = 0
  · obtain ⟨g1, g2, g3, g4, g5, g6, g7⟩ := may_zero (hme.trans he)
    simp only at g1 g2 g3 g4 g5 g6 g7
    have hln : own.length ≤ 8 := by
      unfold Tb.right at g1
      simp only [Bool.and_eq_true, decide_eq_true_eq] at g1
      omega
    have hge1 : 1 ≤ ep := by
      unfold Tb.right at g1
      simp only [Bool.and_eq_true, decide_eq_true_eq] at g1
      omega
    rw [HM.out, if_pos he]
    simp only
    subst he
    clear hme g1 g7
    go_enter Tryz.func49, Tryz.ntmps49
    go_wp2_with (fail)
    refine HMAY.out.mono ?_
    rintro e w3 ⟨rfl, hB⟩
    have hk3 : Keep [] w2 w3 := Keep.of_below hB []
    have b1 := (hk3.block _ (lt_of_heap HB1.out) (by simp)).trans HB1.out
    have b2 := (hk3.block _ (lt_of_heap HB2.out) (by simp)).trans HB2.out
    clear d0 d1 d2 d3
    obtain ⟨d0, d1, d2, d3⟩ := TbFacts b1
    have HC3 := Lib.hid (HCP.out w3 hk3 (by omega))
    have HK3 := Lib.hid (HK.out.trans hk3)
    have HB1 := Lib.hid b1
    have HB2 := Lib.hid b2
    have hs3 : w2.heap.size ≤ w3.heap.size := hk3.size
    clear hB hk3 b1 b2
    go_wp2_with (fail)
    refine HC3.out.mono ?_
    rintro e w4 ⟨a, c, rfl, hr, hk4⟩
    have b1 := (hk4.block _ (lt_of_heap HB1.out) (by simp)).trans HB1.out
    have b2 := (hk4.block _ (lt_of_heap HB2.out) (by simp)).trans HB2.out
    clear d0 d1 d2 d3
    obtain ⟨d0, d1, d2, d3⟩ := TbFacts b1
    obtain ⟨q0, q1, q2, q3⟩ := TbFacts b2
    have hol : own ≠ [] := by intro e; rw [e] at g4; simp at g4; omega
    obtain ⟨k, rfl⟩ := Int.eq_ofNat_of_zero_le g3
    have hkl : k < own.length := by omega
    rcases hr.2 with ⟨hv, hv0⟩ | ⟨g, cap, cur, hv, hbg, hgg, hncap, hcap, hcs, htk⟩
    · exact absurd (List.length_eq_zero_iff.1 hv0) hol
    · simp only [Value.slice.injEq, true_and] at hv
      obtain ⟨rfl, rfl⟩ := hv
      have x0 : w4.cell? ⟨g, k, none⟩ = some (.int .i64 (own[k]?.getD 0)) := by
        obtain ⟨b', o', e', h2, h3⟩ := hr.at hol
        cases e'
        simpa using h3 k hkl
      have x1 : ∀ o, w4.frozen? ⟨g, o, none⟩ = false := fun o => by unfold World.frozen?; rw [hgg]; simp
      have hgn : w.heap.size + 1 < g := by have := HS2.out; omega
      have HR := Lib.hid hr
      have HK4 := Lib.hid (HK3.out.trans hk4)
      have HB2 := Lib.hid b2
      have hkl2 : (k : Int) < own.length := by omega
      clear hr hk4 b1 b2 hgg hbg htk hcs hcap hncap
      go_wp2_with (fail)
      obtain ⟨W1, hW1⟩ : ∃ u, (((w4.setCell ⟨w.heap.size, 0, none⟩ (.int .i64 ep)).setCell ⟨w.heap.size, 1, none⟩ (.int .i64 nd)).setCell ⟨w.heap.size, 2, none⟩ (.slice (some ⟨g, 0, none⟩) own.length c)).setCell ⟨w.heap.size, 0, none⟩ (.int .i64 (ep + 1)) = u := ⟨_, rfl⟩
      have hk1 : Keep [w.heap.size] w4 W1 := by
        rw [← hW1]
        exact ((((Keep.refl _ _).setCell _ _ _ (.inl (by simp))).setCell _ _ _ (.inl (by simp))).setCell _ _ _ (.inl (by simp))).setCell _ _ _ (.inl (by simp))
      rw [hW1]
      obtain ⟨W2, hW2⟩ : ∃ u, W1.setCell ⟨g, k, none⟩ (.int .i64 to) = u := ⟨_, rfl⟩
      have hr1 : IRow w.heap.size W1 (.slice (some ⟨g, 0, none⟩) own.length c) own := own_low (HR.out.keep hk1 (fun b hb => by have := own_base HR.out b hb; have := HS2.out; simp; omega)) (by have := HK3.out.size; omega)
      have hr2 := hr1.set k to
      have hk2 : Keep [g] W1 W2 := by rw [← hW2]; exact (Keep.refl _ _).setCell _ _ _ (.inl (by simp))
      rw [hW2] at hr2 ⊢
      have b2 := (hk2.block _ (Nat.lt_of_lt_of_le (lt_of_heap HB2.out) hk1.size) (by simp; omega)).trans ((hk1.block _ (lt_of_heap HB2.out) (by simp)).trans HB2.out)
      have hks : Keep [w.heap.size + 1] W2 (((W2.setCell ⟨w.heap.size + 1, 0, none⟩ (.int .i64 (ep + 1))).setCell ⟨w.heap.size + 1, 1, none⟩ (.int .i64 nd)).setCell ⟨w.heap.size + 1, 2, none⟩ (.slice (some ⟨g, 0, none⟩) own.length c)) :=
        (((Keep.refl _ _).setCell _ _ _ (.inl (by simp))).setCell _ _ _ (.inl (by simp))).setCell _ _ _ (.inl (by simp))
      have hfin : (((W2.setCell ⟨w.heap.size + 1, 0, none⟩ (.int .i64 (ep + 1))).setCell ⟨w.heap.size + 1, 1, none⟩ (.int .i64 nd)).setCell ⟨w.heap.size + 1, 2, none⟩ (.slice (some ⟨g, 0, none⟩) own.length c)).heap[w.heap.size + 1]? = some (.cells #[.int .i64 (ep + 1), .int .i64 nd, .slice (some ⟨g, 0, none⟩) own.length c] 24 (0, 0)) := by
        simp [World.setCell, Array.getElem?_modify, b2]
      obtain ⟨W3, hW3⟩ : ∃ u, (((W2.setCell ⟨w.heap.size + 1, 0, none⟩ (.int .i64 (ep + 1))).setCell ⟨w.heap.size + 1, 1, none⟩ (.int .i64 nd)).setCell ⟨w.heap.size + 1, 2, none⟩ (.slice (some ⟨g, 0, none⟩) own.length c)) = u := ⟨_, rfl⟩
      rw [hW3] at hks hfin ⊢
      have hlv := run_loadVar_row (P := Tryz.prog) W3 (w.heap.size + 1) 24 24 _ (0, 0) _ hfin Tryz.underlying24 rfl (by kernel_rfl)
      refine bodyPost_ret (v := .tuple #[.agg #[.int .i64 (ep + 1), .int .i64 nd, .slice (some ⟨g, 0, none⟩) own.length c], .int .i64 0]) (by rw [results_cell_tmp rfl]; show ((loadVar 24 ⟨w.heap.size + 1, 0, none⟩).run Tryz.prog W3).andThen (fun v w₂ => Result.ok (Value.tuple #[v, .int .i64 0]) w₂) = _; rw [hlv]; rfl) rfl ?_
      rw [Int.toNat_natCast]
      refine ⟨some ⟨g, 0, none⟩, c, by simp, hr2.keep hks (fun b hb => ?_), ?_⟩
      · obtain rfl : g = b := by simpa [Value.ownBlock] using hb
        simp
        omega
      · refine ((HK4.out.step hk1 (by simp)).step hk2 ?_).step hks (by simp)
        intro y hy
        obtain rfl : y = g := by simpa using hy
        exact .inr (by omega)
  · rw [HM.out, if_neg he]
    simp only
    have hne : ((e0 : Int) == 0) = false := by simpa using he
    clear hme he
    go_enter Tryz.func49, Tryz.ntmps49
    go_wp2_with (fail)
    refine HMAY.out.mono ?_
    rintro e w3 ⟨rfl, hB⟩
    have hk3 : Keep [] w2 w3 := Keep.of_below hB []
    have b2 := (hk3.block _ (lt_of_heap HB2.out) (by simp)).trans HB2.out
    obtain ⟨q0, q1, q2, q3⟩ := TbFacts b2
    have HB2 := Lib.hid b2
    have HK3 := Lib.hid (HK.out.trans hk3)
    clear hB hk3 b2 d0 d1 d2 d3
    go_wp2_with (fail)
    have hks : Keep [w.heap.size + 1] w3 (((w3.setCell ⟨w.heap.size + 1, 0, none⟩ (.int .i64 0)).setCell ⟨w.heap.size + 1, 1, none⟩ (.int .i64 0)).setCell ⟨w.heap.size + 1, 2, none⟩ (.slice none 0 0)) :=
      (((Keep.refl _ _).setCell _ _ _ (.inl (by simp))).setCell _ _ _ (.inl (by simp))).setCell _ _ _ (.inl (by simp))
    have b2 := HB2.out
    have hfin : (((w3.setCell ⟨w.heap.size + 1, 0, none⟩ (.int .i64 0)).setCell ⟨w.heap.size + 1, 1, none⟩ (.int .i64 0)).setCell ⟨w.heap.size + 1, 2, none⟩ (.slice none 0 0)).heap[w.heap.size + 1]? = some (.cells #[.int .i64 0, .int .i64 0, .slice none 0 0] 24 (0, 0)) := by
      simp [World.setCell, Array.getElem?_modify, b2]
    obtain ⟨W3, hW3⟩ : ∃ u, (((w3.setCell ⟨w.heap.size + 1, 0, none⟩ (.int .i64 0)).setCell ⟨w.heap.size + 1, 1, none⟩ (.int .i64 0)).setCell ⟨w.heap.size + 1, 2, none⟩ (.slice none 0 0)) = u := ⟨_, rfl⟩
    rw [hW3] at hks hfin ⊢
    have hlv := run_loadVar_row (P := Tryz.prog) W3 (w.heap.size + 1) 24 24 _ (0, 0) _ hfin Tryz.underlying24 rfl (by kernel_rfl)
    refine bodyPost_ret (v := .tuple #[.agg #[.int .i64 0, .int .i64 0, .slice none 0 0], .int .i64 e0]) (by rw [results_cell_tmp rfl]; show ((loadVar 24 ⟨w.heap.size + 1, 0, none⟩).run Tryz.prog W3).andThen (fun v w₂ => Result.ok (Value.tuple #[v, .int .i64 e0]) w₂) = _; rw [hlv]; rfl) rfl ?_
    exact ⟨none, 0, rfl, World.ownsRow_nil _ _ _ _, HK3.out.step hks (by simp)⟩
end
section
open Go.RowKit Go.Lib
open Go.ChangeMaps (setBlock)
set_option linter.unusedSimpArgs false
set_option linter.unusedVariables false
/-- A new block of k cells, whatever they hold. -/
def Spec.cellN (n : Nat) (t : TypeId) (k : Nat) : Spec := { p := fun _ v => ∃ g, v = .pointer (some ⟨g, 0, none⟩) ∧ n ≤ g, A := fun _ v w => ∃ g cs, v = .pointer (some ⟨g, 0, none⟩) ∧ n ≤ g ∧ cs.size = k ∧ w.heap[g]? = some (.cells cs t (0, 0)) }
/-- All of it is written. -/
def Spec.wrN (n : Nat) (t : TypeId) (k : Nat) : Spec := { p := fun _ v => v = undef, A := fun x _ w => ∀ g cs, x = [.pointer (some ⟨g, 0, none⟩), .agg cs] → w.heap[g]? = some (.cells cs t (0, 0)), G := fun _ W W' => ∃ g cs cs', n ≤ g ∧ W.heap[g]? = some (.cells cs t (0, 0)) ∧ cs'.size = k ∧ W' = W.setRow g cs' }
theorem setRow_ne (W : World) (g b : Nat) (cs : Array Value) (h : g ≠ b) : (W.setRow g cs).heap[b]? = W.heap[b]? := by
  unfold World.setRow
  simp only [Array.getElem?_modify]
  rw [if_neg h]
theorem spOk_call_new {i j l n k : Nat} {t : TypeId} {s : Spec} (hij : i ≠ j) (hil : i ≠ l) (hjl : j ≠ l) (hs : s.ok) (hw : ∀ x v W g cs cs', s.A x v W → W.heap[g]? = some (.cells cs t (0, 0)) → s.A x v (W.setRow g cs')) : SpOk (spOf [(i, s), (j, Spec.cellN n t k), (l, Spec.wrN n t k)]) where
  A a b u v ha hb hab := by
    have h1 := spOf_mem ha; have h2 := spOf_mem hb; simp at h1 h2
    rcases h1 with ⟨e1, rfl⟩ | ⟨e1, rfl⟩ | ⟨e1, rfl⟩ <;> rcases h2 with ⟨e2, rfl⟩ | ⟨e2, rfl⟩ | ⟨e2, rfl⟩
    · omega
    · rintro x y v w w' ⟨g, cs, h1, h2, h3, h4⟩ hk
      exact ⟨g, cs, h1, h2, h3, ((hs.none x w w' hk).block g (lt_of_heap h4) (by simp)).trans h4⟩
    · intro x y v w w' hA hk g cs hy
      have h4 := hA g cs hy
      exact ((hs.none x w w' hk).block g (lt_of_heap h4) (by simp)).trans h4
    · intro x y v w w' hA hk
      exact hs.stay y v w w' hA hk
    · omega
    · intro x y v w w' hA (hk : Keep [] w w') g cs hy
      have h4 := hA g cs hy
      exact (hk.block g (lt_of_heap h4) (by simp)).trans h4
    · rintro x y v w w' hA ⟨g, cs, cs', h1, h2, h3, rfl⟩
      exact hw y v w g cs cs' hA h2
    · rintro x y v w w' ⟨g', cs0, q1, q2, q3, q4⟩ ⟨g, cs, cs', h1, h2, h3, rfl⟩
      by_cases e : g = g'
      · subst e
        exact ⟨g, cs', q1, q2, h3, setRow_heap w g _ _ _ _ h2⟩
      · exact ⟨g', cs0, q1, q2, q3, (setRow_ne w g g' cs' e).trans q4⟩
    · omega
  B a b u v ha hb hab := by
    have h2 := spOf_mem hb; simp at h2
    rcases h2 with ⟨e2, rfl⟩ | ⟨e2, rfl⟩ | ⟨e2, rfl⟩
    · intro x w w' _ _; exact hs.pre w'
    · intro x w w' _ _; trivial
    · intro x w w' _ _; trivial
  some a u x ha := by
    have h1 := spOf_mem ha; simp at h1
    rcases h1 with ⟨_, rfl⟩ | ⟨_, rfl⟩ | ⟨_, rfl⟩
    · exact hs.some x
    · exact ⟨_, n, rfl, Nat.le_refl _⟩
    · exact ⟨_, rfl⟩
theorem pre_call_new {i j l n k : Nat} {t : TypeId} {s : Spec} {w : World} (hs : s.ok) : ∀ a u, spOf [(i, s), (j, Spec.cellN n t k), (l, Spec.wrN n t k)] a = some u → u.B w := by
  intro a u ha
  have h1 := spOf_mem ha; simp at h1
  rcases h1 with ⟨_, rfl⟩ | ⟨_, rfl⟩ | ⟨_, rfl⟩
  · exact hs.pre w
  · trivial
  · trivial
theorem does_store {o : Oper} {a : Act} {W W' : World} {post : Value → World → Prop} (ty : TypeId) (x y : Operand) (ho : o.op = .store ty x y) {g : Nat} (hx : a.eval x = .pointer (some ⟨g, 0, none⟩)) {cs : Array Value} (hy : a.eval y = .agg cs) (hs : (storeVar ty ⟨g, 0, none⟩ (.agg cs)).run Tryz.prog W = .ok () W') (h : post undef W') : Oper.does Tryz.prog o a W post := by
  unfold Oper.does execOp
  simp only [ho, hx, hy, Instr.storeAt, Instr.sureAddr, Sem.run_bind, Sem.run_pure, Result.andThen_ok, hs]
  exact h
/-- A table that a call hands back, and its error. -/
def Spec.tab (n : Nat) (ep nd : Int) (own : List Int) (e : Int) : Spec := { p := fun _ v => ∃ a c, v = .tuple #[.agg #[.int .i64 ep, .int .i64 nd, .slice a own.length c], .int .i64 e], A := fun _ v w => ∃ a c, v = .tuple #[.agg #[.int .i64 ep, .int .i64 nd, .slice a own.length c], .int .i64 e] ∧ IRow n w (.slice a own.length c) own }
theorem Spec.tab_ok (n : Nat) (ep nd : Int) (own : List Int) (e : Int) : (Spec.tab n ep nd own e).ok :=
  ⟨fun x v w w' ⟨a, c, h1, h2⟩ hk => ⟨a, c, h1, h2.keep hk (by simp)⟩, fun _ _ _ h => h, fun _ => trivial, fun _ => ⟨_, none, 0, rfl⟩⟩
theorem IRow.row {base : Nat} {W : World} {v : Value} {l : List Int} {g : Nat} {cs cs' : Array Value} {t : TypeId} (h : IRow base W v l) (hg : W.heap[g]? = some (.cells cs t (0, 0))) (ht : 3 ≠ t) : IRow base (W.setRow g cs') v l :=
  h.keep ((Keep.refl [g] W).setRow g cs' (.inl (by simp))) (fun b hb => by have := own_ne_obj h hg ht b hb; simpa using this)
/-- A coordinator and its blocks. -/
def CoS (W : World) (p : Nat) (F : List Nat) (c : Cd) : Prop := ∃ oa oc bp om ab, CoAt W p oa oc bp om ab c ∧ F = cfoot p oa oc c.own.length bp om ab
/-- What a call leaves: the coordinator, its old blocks and new ones. -/
def CoN (w : World) (p : Nat) (F : List Nat) (w' : World) (c : Cd) : Prop := ∃ F', CoS w' p F' c ∧ Keep F w w' ∧ CoUp w F F'
theorem CoN.of {w w' : World} {p : Nat} {oa oa' : Option Addr} {oc oc' bp : Nat} {om om' : Option Nat} {ab n : Nat} {c : Cd} (h : CoAt w' p oa' oc' bp om' ab c) (hk : Keep (cfoot p oa oc n bp om ab) w w') (ha : ∀ b, oa' = some b → oa = some b ∨ w.heap.size ≤ b.block) (hm : ∀ b, om' = some b → om = some b ∨ w.heap.size ≤ b) : CoN w p (cfoot p oa oc n bp om ab) w' c := by
  refine ⟨_, ⟨_, _, _, _, _, h, rfl⟩, hk, fun x hx => ?_⟩
  simp only [cfoot, List.mem_cons, List.mem_append] at hx ⊢
  rcases hx with e | e | e | e | e
  · exact .inl (.inl e)
  · exact .inl (.inr (.inl e))
  · exact .inl (.inr (.inr (.inl e)))
  · rcases hm x (by simpa using e) with e2 | e2
    · exact .inl (.inr (.inr (.inr (.inl (by simp [e2])))))
    · exact .inr e2
  · cases oa' with
    | none => simp [Value.ownBlock] at e
    | some b =>
      have hb : x = b.block := by simpa [Value.ownBlock] using e
      rcases ha b rfl with e2 | e2
      · exact .inl (.inr (.inr (.inr (.inr (by rw [e2]; simp [Value.ownBlock, hb])))))
      · exact .inr (by rw [hb]; exact e2)
/-- What ready makes of a coordinator. -/
def coReady (c : Cd) (x : En) (code : Int) : Cd :=
  if code = 1 ∧ (mvF (c.tb none 0) x.part x.to).2.2.2 = 0 then { c with ep := (mvF (c.tb none 0) x.part x.to).1, nd := (mvF (c.tb none 0) x.part x.to).2.1, own := (mvF (c.tb none 0) x.part x.to).2.2.1, at_ := put x.mv ⟨2, 0⟩ c.at_ }
  else { c with at_ := put x.mv ⟨3, 0⟩ c.at_ }
set_option maxRecDepth 100000 in
set_option maxHeartbeats 4000000 in
theorem cready_any {w : World} {p : Nat} {oa : Option Addr} {oc bp : Nat} {om : Option Nat} {ab : Nat} {c : Cd} (h : CoAt w p oa oc bp om ab c) (hn2 : (c.at_.map (·.1)).Nodup) (x : En) (code : Int) : Calls Tryz.prog 35 #[.pointer (some ⟨p, 0, none⟩), x.val, .int .i64 code] w fun e w' => e = .returned (.tuple #[]) ∧ CoN w p (cfoot p oa oc c.own.length bp om ab) w' (coReady c x code) := by
  obtain ⟨x1, x2, x3, x4⟩ := x
  unfold En.val
  obtain ⟨w1, hw1⟩ : ∃ u, w.alloc (.cells #[.int .i64 x1, .int .i64 x2, .int .i64 x3, .int .i64 x4] 78) = u := ⟨_, rfl⟩
  have k1 : Keep [] w w1 := by rw [← hw1]; exact (Keep.refl _ _).alloc _
  have he : EnAt w1 w.heap.size ⟨x1, x2, x3, x4⟩ := by rw [← hw1]; exact World.alloc_heap_new w _
  have hc1 := h.kept k1
  have HE := Lib.hid he
  have HC := Lib.hid hc1
  have HK1 := Lib.hid k1
  have hpl := lt_of_heap hc1.blk
  have hp0 := lt_of_heap h.blk
  have hel := lt_of_heap he
  obtain ⟨ep', nd', own', e0, hm⟩ : ∃ ep' nd' own' e0, mvF (c.tb none 0) x2 x4 = (ep', nd', own', e0) := ⟨_, _, _, _, rfl⟩
  have hco : coReady c ⟨x1, x2, x3, x4⟩ code = if code = 1 ∧ e0 = 0 then { c with ep := ep', nd := nd', own := own', at_ := put x1 ⟨2, 0⟩ c.at_ } else { c with at_ := put x1 ⟨3, 0⟩ c.at_ } := by unfold coReady; rw [hm]
  have hmv := fun (W : World) (hi : IntsAt W oa c.own) => tmove_any (w := W) (c.tb oa oc) hi x2 x4
  rw [show mvF (c.tb oa oc) x2 x4 = mvF (c.tb none 0) x2 x4 from rfl, hm] at hmv
  unfold Cd.tb Tb.val at hmv
  simp only at hmv
  have HMV := Lib.hid hmv
  have HCO := Lib.hid hco
  clear h k1 he hc1 hm hco hmv
  by_cases h1 : code = 1
  · subst h1
    go_enter Tryz.func35, Tryz.ntmps35
    go_wp2_with (fail)
    refine wp_region_soup 14 [] (spOf [(8, Spec.tab w1.heap.size ep' nd' own' e0), (12, Spec.cellN w1.heap.size 24 3), (13, Spec.wrN w1.heap.size 24 3)]) (by kernel_rfl) (by kernel_rfl) (spOk_call_new (by decide) (by decide) (by decide) (Spec.tab_ok _ _ _ _ _) (fun x v W g cs cs' ⟨a, d, q1, q2⟩ hg => ⟨a, d, q1, q2.row hg (by decide)⟩)) (pre_call_new (Spec.tab_ok _ _ _ _ _)) ?_
    simp only [List.take_succ_cons, List.take_zero, List.drop_succ_cons, List.drop_zero]
    iterate 3
      with_reducible refine soup_q ?_ ?_ ?_
      · rfl
      · rfl
      with_reducible apply Exists.intro
      with_reducible refine ⟨fun W hk _ => ?_, ?_⟩
      · unfold Oper.same
        go_simp
        first | rfl | exact ⟨rfl, rfl⟩
      with_reducible apply Exists.intro
      with_reducible refine ⟨?_, ?_⟩
      · go_simp
        rfl
    with_reducible refine soup_q ?_ ?_ ?_
    · rfl
    · rfl
    with_reducible apply Exists.intro
    with_reducible refine ⟨fun W hk _ => ?_, ?_⟩
    · have c0 := (HC.out.kept hk).facts.1
      have c1 := (HC.out.kept hk).facts.2.1
      have c2 := (HC.out.kept hk).facts.2.2.1
      unfold Oper.same
      go_simp
      first | rfl | exact ⟨rfl, rfl⟩
    with_reducible apply Exists.intro
    with_reducible refine ⟨?_, ?_⟩
    · go_simp
      rfl
    with_reducible refine soup_q ?_ ?_ ?_
    · rfl
    · rfl
    with_reducible apply Exists.intro
    with_reducible refine ⟨fun W hk _ => ?_, ?_⟩
    · unfold Oper.same
      go_simp
      first | rfl | exact ⟨rfl, rfl⟩
    with_reducible apply Exists.intro
    with_reducible refine ⟨?_, ?_⟩
    · go_simp
      rfl
    with_reducible refine soup_q ?_ ?_ ?_
    · rfl
    · rfl
    with_reducible apply Exists.intro
    with_reducible refine ⟨fun W hk _ => ?_, ?_⟩
    · have c0 := (HE.out.keep hk (by simp)).facts.2.1
      unfold Oper.same
      go_simp
      first | rfl | exact ⟨rfl, rfl⟩
    with_reducible apply Exists.intro
    with_reducible refine ⟨?_, ?_⟩
    · go_simp
      rfl
    with_reducible refine soup_q ?_ ?_ ?_
    · rfl
    · rfl
    with_reducible apply Exists.intro
    with_reducible refine ⟨fun W hk _ => ?_, ?_⟩
    · unfold Oper.same
      go_simp
      first | rfl | exact ⟨rfl, rfl⟩
    with_reducible apply Exists.intro
    with_reducible refine ⟨?_, ?_⟩
    · go_simp
      rfl
    with_reducible refine soup_q ?_ ?_ ?_
    · rfl
    · rfl
    with_reducible apply Exists.intro
    with_reducible refine ⟨fun W hk _ => ?_, ?_⟩
    · have c0 := (HE.out.keep hk (by simp)).facts.2.2.2.1
      unfold Oper.same
      go_simp
      first | rfl | exact ⟨rfl, rfl⟩
    with_reducible apply Exists.intro
    with_reducible refine ⟨?_, ?_⟩
    · go_simp
      rfl
    refine soup_s rfl rfl rfl (fun W hk hB _ => ?_) ?_
    · unfold Oper.does
      go_simp
      refine (HMV.out W (HC.out.kept hk).ints).mono ?_
      rintro e w' ⟨a, d, rfl, h1, h2⟩
      exact ⟨_, rfl, h2, hk.trans h2, ⟨a, d, rfl⟩, a, d, rfl, own_low h1 hk.size⟩
    rintro v ⟨a, d, rfl⟩
    with_reducible apply Exists.intro
    with_reducible refine ⟨?_, ?_⟩
    · go_simp
      rfl
    iterate 3
      with_reducible refine soup_q ?_ ?_ ?_
      · rfl
      · rfl
      with_reducible apply Exists.intro
      with_reducible refine ⟨fun W hk _ => ?_, ?_⟩
      · unfold Oper.same
        go_simp
        first | rfl | exact ⟨rfl, rfl⟩
      with_reducible apply Exists.intro
      with_reducible refine ⟨?_, ?_⟩
      · go_simp
        rfl
    refine soup_s rfl rfl rfl (fun W hk _ _ => ?_) ?_
    · unfold Oper.does
      go_simp
      exact ⟨(Keep.refl _ _).alloc _, hk.alloc _, ⟨_, rfl, hk.size⟩, _, _, rfl, hk.size, rfl, World.alloc_heap_new W _⟩
    rintro v ⟨g, rfl, hg⟩
    with_reducible apply Exists.intro
    with_reducible refine ⟨?_, ?_⟩
    · go_simp
      rfl
    refine soup_s rfl rfl rfl (fun W hk _ hd => ?_) ?_
    · obtain ⟨g', cs0, e1, e2, e3, e4⟩ := hd 12 (Dep.of 3 (by kernel_rfl))
      obtain rfl : g = g' := by simpa using e1
      have hst := run_storeVar_row (P := Tryz.prog) W g 24 24 cs0 #[.int .i64 ep', .int .i64 nd', .slice a own'.length d] e4 (by kernel_rfl) e3 (by simp [Value.oneCell'])
      refine does_store _ (.tmp 7) (.tmp 21) rfl rfl rfl hst ⟨⟨g, cs0, _, e2, e4, rfl, rfl⟩, hk.setRow _ _ (.inr e2), rfl, fun g' cs' e => ?_⟩
      have e5 : [Value.pointer (some ⟨g, 0, none⟩), Value.agg #[.int .i64 ep', .int .i64 nd', .slice a own'.length d]] = [Value.pointer (some ⟨g', 0, none⟩), Value.agg cs'] := e
      simp only [List.cons.injEq, Value.pointer.injEq, Option.some.injEq, Addr.mk.injEq, Value.agg.injEq, and_true] at e5
      obtain ⟨rfl, rfl⟩ := e5
      exact setRow_heap W g _ _ _ _ e4
    rintro v rfl
    with_reducible apply Exists.intro
    with_reducible refine ⟨?_, ?_⟩
    · go_simp
      rfl
    refine soup_nil (fun W hk hS => ?_)
    have ht := hS 13 g _ rfl
    obtain ⟨a2, d2, q1, hrow⟩ := hS 8
    simp only [Value.tuple.injEq, Array.mk.injEq, List.cons.injEq, Value.agg.injEq, Value.slice.injEq, true_and, and_true] at q1
    obtain ⟨rfl, rfl⟩ := q1
    have hc2 := HC.out.kept hk
    have he2 := HE.out.keep hk (by simp)
    obtain ⟨c0, c1, c2, c3, c4, c5, c6, c7⟩ := hc2.facts
    obtain ⟨t0, t1, t2, t3⟩ := TbFacts ht
    have HC := Lib.hid hc2
    have HE := Lib.hid he2
    have HK2 := Lib.hid (HK1.out.trans hk)
    have HROW := Lib.hid hrow
    have hgp : p < W.heap.size := lt_of_heap hc2.blk
    have hgl := HK1.out.size
    clear hk hS hc2 he2 hrow ht
    by_cases he0 : e0 = 0
    · have hres : coReady c ⟨x1, x2, x3, x4⟩ 1 = { c with ep := ep', nd := nd', own := own', at_ := put x1 ⟨2, 0⟩ c.at_ } := by rw [HCO.out, if_pos (by simp [he0])]
      have HRES := Lib.hid hres
      subst he0
      clear hres
      go_wp2_with (fail)
      obtain ⟨W2, hW2⟩ : ∃ u, ((W.setCell ⟨p, 0, none⟩ (.int .i64 ep')).setCell ⟨p, 1, none⟩ (.int .i64 nd')).setCell ⟨p, 2, none⟩ (.slice a own'.length d) = u := ⟨_, rfl⟩
      have hks : Keep [p] W W2 := by rw [← hW2]; exact (((Keep.refl _ _).setCell _ _ _ (.inl (by simp))).setCell _ _ _ (.inl (by simp))).setCell _ _ _ (.inl (by simp))
      have hap := HC.out.ap
      have hrl := own_base HROW.out
      have hco2 : CoAt W2 p a d bp om ab { c with ep := ep', nd := nd', own := own' } := by
        refine ⟨?_, IRow.keep (own_low HROW.out (Nat.zero_le _)) hks (fun b hb => by have := hrl b hb; have := hpl; simp; omega), HC.out.book.keep hks (fun b hb => ?_), HC.out.map.keep hks (by have := hap.p_ab.symm; simpa using this), HC.out.ne⟩
        · have h := HC.out.blk
          rw [← hW2]
          simp [World.setCell, Array.getElem?_modify, h]
        · simp only [foot, List.mem_cons] at hb
          rcases hb with rfl | hb
          · have := hap.p_bp.symm; simpa using this
          · have := (hap.p_om b (by simpa using hb)).symm; simpa using this
      rw [hW2]
      have he3 := HE.out.keep hks (by simp; omega)
      have hoa : ∀ b, a = some b → oa = some b ∨ w.heap.size ≤ b.block := fun b hb => .inr (by have := hrl b.block (by rw [hb]; rfl); omega)
      have HC := Lib.hid hco2
      have HE := Lib.hid he3
      have HK3 := Lib.hid ((HK2.out.mono (Y := [p]) (by simp)).trans hks)
      have hpl2 := lt_of_heap hco2.blk
      have HOA := Lib.hid hoa
      have hel2 := lt_of_heap he3
      clear hco2 he3 hks hW2 c0 c1 c2 c3 c4 c5 c6 c7 t0 t1 t2 t3
      go_wp2_with (fail)
      refine wp_region_soup 8 [] (fun _ => none) (by kernel_rfl) (by kernel_rfl) (spOk_of (l := []) (by simp)) (pre_of (l := []) (by simp)) ?_
      simp only [List.take_succ_cons, List.take_zero, List.drop_succ_cons, List.drop_zero]
      iterate 3
        with_reducible refine soup_q ?_ ?_ ?_
        · rfl
        · rfl
        with_reducible apply Exists.intro
        with_reducible refine ⟨fun W hk _ => ?_, ?_⟩
        · unfold Oper.same
          go_simp
          first | rfl | exact ⟨rfl, rfl⟩
        with_reducible apply Exists.intro
        with_reducible refine ⟨?_, ?_⟩
        · go_simp
          rfl
      with_reducible refine soup_q ?_ ?_ ?_
      · rfl
      · rfl
      with_reducible apply Exists.intro
      with_reducible refine ⟨fun W hk _ => ?_, ?_⟩
      · have c0 := (HC.out.kept hk).facts.2.2.2.2.1
        unfold Oper.same
        go_simp
        first | rfl | exact ⟨rfl, rfl⟩
      with_reducible apply Exists.intro
      with_reducible refine ⟨?_, ?_⟩
      · go_simp
        rfl
      with_reducible refine soup_q ?_ ?_ ?_
      · rfl
      · rfl
      with_reducible apply Exists.intro
      with_reducible refine ⟨fun W hk _ => ?_, ?_⟩
      · unfold Oper.same
        go_simp
        first | rfl | exact ⟨rfl, rfl⟩
      with_reducible apply Exists.intro
      with_reducible refine ⟨?_, ?_⟩
      · go_simp
        rfl
      with_reducible refine soup_q ?_ ?_ ?_
      · rfl
      · rfl
      with_reducible apply Exists.intro
      with_reducible refine ⟨fun W hk _ => ?_, ?_⟩
      · have c0 := (HE.out.keep hk (by simp)).facts.1
        unfold Oper.same
        go_simp
        first | rfl | exact ⟨rfl, rfl⟩
      with_reducible apply Exists.intro
      with_reducible refine ⟨?_, ?_⟩
      · go_simp
        rfl
      iterate 2
        with_reducible refine soup_q ?_ ?_ ?_
        · rfl
        · rfl
        with_reducible apply Exists.intro
        with_reducible refine ⟨fun W hk _ => ?_, ?_⟩
        · unfold Oper.same
          go_simp
          first | rfl | exact ⟨rfl, rfl⟩
        with_reducible apply Exists.intro
        with_reducible refine ⟨?_, ?_⟩
        · go_simp
          rfl
      refine soup_nil (fun W hk hS => ?_)
      obtain ⟨o, hup, hmp2⟩ := upSt (HC.out.map.keep hk (by simp)) hn2 x1 2 0 0 rfl
      have HMP := Lib.hid hmp2
      have HC4 := Lib.hid (HC.out.kept hk)
      have HK4 := Lib.hid ((HK3.out.step hk (by simp)))
      clear hk hS hmp2
      go_wp2_with (fail)
      go_end0
      have hat := HC4.out.setAt (W' := setBlock W ab o) ((Keep.refl _ _).setBlock _ _ (.inl (by simp))) HMP.out
      refine ⟨rfl, CoN.of (by rw [HRES.out]; exact hat) ((HK4.out.mono (fun y hy => .inl (by have h : y = p := (by simpa using hy); simp [cfoot, h]))).setBlock _ _ (.inl (by simp [cfoot]))) HOA.out (fun b hb => .inl hb)⟩
    · have hres : coReady c ⟨x1, x2, x3, x4⟩ 1 = { c with at_ := put x1 ⟨3, 0⟩ c.at_ } := by rw [HCO.out, if_neg (by simp [he0])]
      have HRES := Lib.hid hres
      have hne : ((e0 : Int) == 0) = false := by simpa using he0
      have hpl2 := lt_of_heap HC.out.blk
      have hel2 := lt_of_heap HE.out
      clear hres he0 c0 c1 c2 c3 c4 c5 c6 c7 t0 t1 t2 t3
      go_wp2_with (fail)
      refine wp_region_soup 8 [] (fun _ => none) (by kernel_rfl) (by kernel_rfl) (spOk_of (l := []) (by simp)) (pre_of (l := []) (by simp)) ?_
      simp only [List.take_succ_cons, List.take_zero, List.drop_succ_cons, List.drop_zero]
      iterate 3
        with_reducible refine soup_q ?_ ?_ ?_
        · rfl
        · rfl
        with_reducible apply Exists.intro
        with_reducible refine ⟨fun W hk _ => ?_, ?_⟩
        · unfold Oper.same
          go_simp
          first | rfl | exact ⟨rfl, rfl⟩
        with_reducible apply Exists.intro
        with_reducible refine ⟨?_, ?_⟩
        · go_simp
          rfl
      with_reducible refine soup_q ?_ ?_ ?_
      · rfl
      · rfl
      with_reducible apply Exists.intro
      with_reducible refine ⟨fun W hk _ => ?_, ?_⟩
      · have c0 := (HC.out.kept hk).facts.2.2.2.2.1
        unfold Oper.same
        go_simp
        first | rfl | exact ⟨rfl, rfl⟩
      with_reducible apply Exists.intro
      with_reducible refine ⟨?_, ?_⟩
      · go_simp
        rfl
      with_reducible refine soup_q ?_ ?_ ?_
      · rfl
      · rfl
      with_reducible apply Exists.intro
      with_reducible refine ⟨fun W hk _ => ?_, ?_⟩
      · unfold Oper.same
        go_simp
        first | rfl | exact ⟨rfl, rfl⟩
      with_reducible apply Exists.intro
      with_reducible refine ⟨?_, ?_⟩
      · go_simp
        rfl
      with_reducible refine soup_q ?_ ?_ ?_
      · rfl
      · rfl
      with_reducible apply Exists.intro
      with_reducible refine ⟨fun W hk _ => ?_, ?_⟩
      · have c0 := (HE.out.keep hk (by simp)).facts.1
        unfold Oper.same
        go_simp
        first | rfl | exact ⟨rfl, rfl⟩
      with_reducible apply Exists.intro
      with_reducible refine ⟨?_, ?_⟩
      · go_simp
        rfl
      iterate 2
        with_reducible refine soup_q ?_ ?_ ?_
        · rfl
        · rfl
        with_reducible apply Exists.intro
        with_reducible refine ⟨fun W hk _ => ?_, ?_⟩
        · unfold Oper.same
          go_simp
          first | rfl | exact ⟨rfl, rfl⟩
        with_reducible apply Exists.intro
        with_reducible refine ⟨?_, ?_⟩
        · go_simp
          rfl
      refine soup_nil (fun W hk hS => ?_)
      obtain ⟨o, hup, hmp2⟩ := upSt (HC.out.map.keep hk (by simp)) hn2 x1 3 0 0 rfl
      have HMP := Lib.hid hmp2
      have HC4 := Lib.hid (HC.out.kept hk)
      have HK4 := Lib.hid ((HK2.out.trans hk))
      clear hk hS hmp2
      go_wp2_with (fail)
      go_end0
      have hat := HC4.out.setAt (W' := setBlock W ab o) ((Keep.refl _ _).setBlock _ _ (.inl (by simp))) HMP.out
      refine ⟨rfl, CoN.of (by rw [HRES.out]; exact hat) ((HK4.out.mono (by simp)).setBlock _ _ (.inl (by simp [cfoot]))) (fun b hb => .inl hb) (fun b hb => .inl hb)⟩
  · have hres : coReady c ⟨x1, x2, x3, x4⟩ code = { c with at_ := put x1 ⟨3, 0⟩ c.at_ } := by rw [HCO.out, if_neg (by simp [h1])]
    have HRES := Lib.hid hres
    have hne : ((code : Int) == 1) = false := by simpa using h1
    have hpl2 := hpl
    have hel2 := hel
    clear hres h1
    go_enter Tryz.func35, Tryz.ntmps35
    go_wp2_with (fail)
    refine wp_region_soup 8 [] (fun _ => none) (by kernel_rfl) (by kernel_rfl) (spOk_of (l := []) (by simp)) (pre_of (l := []) (by simp)) ?_
    simp only [List.take_succ_cons, List.take_zero, List.drop_succ_cons, List.drop_zero]
    iterate 3
      with_reducible refine soup_q ?_ ?_ ?_
      · rfl
      · rfl
      with_reducible apply Exists.intro
      with_reducible refine ⟨fun W hk _ => ?_, ?_⟩
      · unfold Oper.same
        go_simp
        first | rfl | exact ⟨rfl, rfl⟩
      with_reducible apply Exists.intro
      with_reducible refine ⟨?_, ?_⟩
      · go_simp
        rfl
    with_reducible refine soup_q ?_ ?_ ?_
    · rfl
    · rfl
    with_reducible apply Exists.intro
    with_reducible refine ⟨fun W hk _ => ?_, ?_⟩
    · have c0 := (HC.out.kept hk).facts.2.2.2.2.1
      unfold Oper.same
      go_simp
      first | rfl | exact ⟨rfl, rfl⟩
    with_reducible apply Exists.intro
    with_reducible refine ⟨?_, ?_⟩
    · go_simp
      rfl
    with_reducible refine soup_q ?_ ?_ ?_
    · rfl
    · rfl
    with_reducible apply Exists.intro
    with_reducible refine ⟨fun W hk _ => ?_, ?_⟩
    · unfold Oper.same
      go_simp
      first | rfl | exact ⟨rfl, rfl⟩
    with_reducible apply Exists.intro
    with_reducible refine ⟨?_, ?_⟩
    · go_simp
      rfl
    with_reducible refine soup_q ?_ ?_ ?_
    · rfl
    · rfl
    with_reducible apply Exists.intro
    with_reducible refine ⟨fun W hk _ => ?_, ?_⟩
    · have c0 := (HE.out.keep hk (by simp)).facts.1
      unfold Oper.same
      go_simp
      first | rfl | exact ⟨rfl, rfl⟩
    with_reducible apply Exists.intro
    with_reducible refine ⟨?_, ?_⟩
    · go_simp
      rfl
    iterate 2
      with_reducible refine soup_q ?_ ?_ ?_
      · rfl
      · rfl
      with_reducible apply Exists.intro
      with_reducible refine ⟨fun W hk _ => ?_, ?_⟩
      · unfold Oper.same
        go_simp
        first | rfl | exact ⟨rfl, rfl⟩
      with_reducible apply Exists.intro
      with_reducible refine ⟨?_, ?_⟩
      · go_simp
        rfl
    refine soup_nil (fun W hk hS => ?_)
    obtain ⟨o, hup, hmp2⟩ := upSt (HC.out.map.keep hk (by simp)) hn2 x1 3 0 0 rfl
    have HMP := Lib.hid hmp2
    have HC4 := Lib.hid (HC.out.kept hk)
    have HK4 := Lib.hid ((HK1.out.trans hk))
    clear hk hS hmp2
    go_wp2_with (fail)
    go_end0
    have hat := HC4.out.setAt (W' := setBlock W ab o) ((Keep.refl _ _).setBlock _ _ (.inl (by simp))) HMP.out
    refine ⟨rfl, CoN.of (by rw [HRES.out]; exact hat) ((HK4.out.mono (by simp)).setBlock _ _ (.inl (by simp [cfoot]))) (fun b hb => .inl hb) (fun b hb => .inl hb)⟩
end
section
open Go.RowKit Go.Lib
open Go.ChangeMaps (setBlock)
set_option linter.unusedSimpArgs false
set_option linter.unusedVariables false
/-- A packet of the coordinator's: to whom, and what. -/
structure Pk where
  to : Int
  data : List UInt8
def Pk.cells (x : Pk) : List Value := [.int .i64 8, .int .i64 x.to, .string ⟨x.data.toArray⟩]
def PRow (base : Nat) (W : World) (v : Value) (l : List Pk) : Prop := W.ownsRow base 94 3 v l.length (l.flatMap Pk.cells)
theorem PRow.keep {X : List Nat} {base : Nat} {W W' : World} {v : Value} {l : List Pk} (h : PRow base W v l) (hk : Keep X W W') (hx : ∀ g, v.ownBlock = some g → g ∉ X) : PRow base W' v l := own_keep h hk hx
theorem infoPk : (Tryz.prog.info? 94).map (fun i => (i.zero, i.size, i.bytes)) = some (some (.agg #[.int .i64 0, .int .i64 0, .string ⟨#[]⟩]), 3, 32) := by kernel_rfl
/-- A packet goes behind others. -/
theorem wpList_append_pk {w : World} {ops : Array Oper} {rest : List Oper} {o : Oper} {a : Act} {Q : Exit → Act → World → Prop} (hgd : o.guard = none) (s x : Operand)
    (ho : o.op = .call { callee := .builtin .append, args := #[s, x], argTypes := #[40, 40] }) (base : Nat) (v : Value) (M : List Pk) (hs : a.eval s = v) (hown : PRow base w v M)
    (ad : Addr) (c : Nat) (hx : a.eval x = .slice (some ad) 1 c) (b : Pk) (hb : ∀ j u, (Pk.cells b)[j]? = some u → w.cell? (ad.add j) = some u) (hm : M.length ≤ 1000) (hbase : base ≤ w.heap.size)
    (h : ∀ v' w', PRow base w' v' (M ++ [b]) → Keep v.ownBlock.toList w w' → wpList Tryz.prog ops Q rest (a.put o.dst v') w') :
    wpList Tryz.prog ops Q (o :: rest) a w := by
  obtain ⟨i0, hi0, hz0, hz1, hz2⟩ := info_parts infoPk
  refine wpList_append_own_at _ hgd s x 40 ho base 94 i0 (.agg #[.int .i64 0, .int .i64 0, .string ⟨#[]⟩]) 3 32 Tryz.underlying40 hi0 hz0 hz1 hz2 rfl (by decide) v M.length (M.flatMap Pk.cells) hs hown ad 1 c (Pk.cells b) hx rfl hb ?_ (by unfold maxLen; omega) (by omega) hbase ?_
  · intro u hu
    simp only [Pk.cells, List.mem_cons, List.not_mem_nil, or_false] at hu
    rcases hu with rfl | rfl | rfl <;> rfl
  · intro v' w' hown' hgrow _ hat'
    refine h v' w' ?_ ((Keep.refl _ w).grown hgrow (fun k hk => .inl (by simp [hk])))
    unfold PRow
    rw [List.length_append, List.flatMap_append]
    simpa using hown'
set_option maxRecDepth 100000 in
set_option maxHeartbeats 2000000 in
theorem post_any {base : Nat} {w : World} {v : Value} {l : List Pk} (h : PRow base w v l) (hb : base ≤ w.heap.size) (hl : l.length ≤ 900) (to : Int) {m : Mg} {a : Option Addr} {c : Nat} (ho : m.Ok) (hc : m.k = 4 ∨ m.k = 12 → a = none ∧ c = 0) (hI : IntsAt w a m.own) : Calls Tryz.prog 33 #[v, .int .i64 to, .agg (m.cells (.slice a m.own.length c))] w fun e w' => ∃ v', e = .returned v' ∧ PRow base w' v' (l ++ [⟨to, frameB m.enc⟩]) ∧ Keep v.ownBlock.toList w w' := by
  obtain ⟨av, cv0, rfl, _⟩ := own_shape h
  obtain ⟨cv, hcv⟩ : ∃ cv, m.cells (.slice a m.own.length c) = cv := ⟨_, rfl⟩
  have hsz : cv.size = 22 := by rw [← hcv]; rfl
  have hbox : ∀ W : World, (Instr.box 47 (.agg cv)).run Tryz.prog W = .ok (.pointer (some ⟨W.heap.size, 0, none⟩)) (W.alloc (.cells cv 47)) := by
    intro W
    rw [← hcv]
    rfl
  obtain ⟨w1, hw1⟩ : ∃ u, w.alloc (.cells cv 47) = u := ⟨_, rfl⟩
  have k1 : Keep [] w w1 := by rw [← hw1]; exact (Keep.refl _ _).alloc _
  have hm1 : MsAt w1 w.heap.size cv := by rw [← hw1]; exact World.alloc_heap_new w _
  have hd := data_any (w := w1) (c := c) ho hc (hI.keep k1 (by simp))
  rw [hcv] at hd ⊢
  obtain ⟨bs, hbs⟩ : ∃ bs, frameB m.enc = bs := ⟨_, rfl⟩
  rw [hbs] at hd ⊢
  have HD := Lib.hid hd
  have HM1 : Hid (w1.heap[w.heap.size]? = some (.cells cv 47 (0, 0))) := Lib.hid hm1
  have HSZ := Lib.hid (show (Tryz.prog.info? 47).map (·.size) = some cv.size by rw [hsz]; exact msg_size)
  have HK1 := Lib.hid k1
  have HP := Lib.hid h
  clear hd hm1 k1 h hI hcv hsz hbs
  go_enter Tryz.func33, Tryz.ntmps33
  go_wp2_with ((with_reducible refine wpList_load_row ?_ 47 (.tmp 5) ?_ (w.heap.size) ?_ 47 cv (0, 0) _ HM1.out Tryz.underlying47 ?_ HSZ.out ?_); rfl; rfl; rfl; rfl)
  refine HD.out.mono ?_
  rintro e w2 ⟨rfl, hk2⟩
  have hkk := HK1.out.trans hk2
  obtain ⟨w3, hw3⟩ : ∃ u, w2.alloc (.cells #[.int .i64 8, .int .i64 to, .string ⟨bs.toArray⟩] 94) = u := ⟨_, rfl⟩
  have k3 : Keep [] w2 w3 := by rw [← hw3]; exact (Keep.refl _ _).alloc _
  have hcl : ∀ j u, (Pk.cells ⟨to, bs⟩)[j]? = some u → w3.cell? ((⟨w2.heap.size, 0, none⟩ : Addr).add j) = some u := by
    rw [← hw3]
    exact cells_new w2 _ _ _ rfl
  have HP3 := Lib.hid (HP.out.keep (hkk.trans k3) (by simp))
  have HK3 := Lib.hid (hkk.trans k3)
  have HCL := Lib.hid hcl
  clear hk2 hkk k3 hcl
  go_wp2_with (at_builtin; refine wpList_append_pk rfl _ _ rfl base _ l rfl HP3.out ⟨w2.heap.size, 0, none⟩ 1 rfl ⟨to, bs⟩ HCL.out (by omega) (Nat.le_trans hb HK3.out.size) ?_)
  intro v' w4 hp4 hk4
  obtain ⟨a4, c4, rfl, _⟩ := own_shape hp4
  have HP4 := Lib.hid hp4
  have HK4 := Lib.hid ((HK3.out.mono (by simp)).trans hk4)
  clear hp4 hk4
  go_wp2_with (fail)
  go_ret
  exact ⟨_, rfl, HP4.out, HK4.out⟩
end
end Go.Proofs.YteejdfpfdnkiiaaGreat
