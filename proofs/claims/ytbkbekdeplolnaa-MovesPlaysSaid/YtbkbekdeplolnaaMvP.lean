/- MovesApart: two books. -/
import Derived.Test.YtbkbekdeplolnaaMvK
import Derived.Test.YtbkbekdeplolnaaMvN
namespace Go.Proofs.Ytbkbekdeplolnaa
open Go.RowKit Go.Shelf Go.Lib
open Go.Sort (HoldsK)
set_option linter.unusedSimpArgs false
set_option linter.unusedVariables false
/-- A book's moves: their numbers rise, none is over the last. -/
structure Rise (m : List (Int × En)) (last : Int) : Prop where
  nd : (m.map (·.1)).Nodup
  l0 : 0 ≤ last
  up : (m.map (·.2)).Pairwise (fun x y => x.mv < y.mv)
  le : ∀ p ∈ m, p.2.mv ≤ last
theorem Rise.order {m : List (Int × En)} {last : Int} (h : Rise m last) (t : Tb) (part to : Int) : Rise (ordF t part to m last).2.2.1 (ordF t part to m last).2.2.2 := by
  have hnd := ordF_nodup (t := t) (part := part) (to := to) (last := last) h.nd
  obtain ⟨h1, h2, h3, h4⟩ := h
  revert hnd
  unfold ordF
  split
  · intro hnd; exact ⟨hnd, h2, h3, h4⟩
  · split
    · intro hnd; exact ⟨hnd, h2, h3, h4⟩
    · split
      · intro hnd; exact ⟨hnd, h2, h3, h4⟩
      · intro hnd
        refine ⟨hnd, by simp only []; omega, ?_, ?_⟩
        · simp only [List.map_append, List.map_cons, List.map_nil]
          rw [List.pairwise_append]
          refine ⟨h3, by simp, fun a ha b hb => ?_⟩
          obtain ⟨q, hq, rfl⟩ := List.mem_map.1 ha
          obtain rfl := List.mem_singleton.1 hb
          have := h4 q hq
          simp only []; omega
        · intro q hq
          rcases List.mem_append.1 hq with hq | hq
          · have := h4 q hq; simp only []; omega
          · obtain rfl := List.mem_singleton.1 hq; simp
theorem Rise.del {m : List (Int × En)} {last : Int} (h : Rise m last) (k : Int) : Rise (del k m) last :=
  ⟨del_nodup h.nd, h.l0, h.up.sublist ((List.filter_sublist).map _), fun q hq => h.le q (List.mem_filter.1 hq).1⟩
theorem ordF_len (t : Tb) (part to : Int) (m : List (Int × En)) (last : Int) : (ordF t part to m last).2.2.1.length ≤ m.length + 1 := by
  unfold ordF
  split
  · simp
  · split
    · simp
    · split
      · simp
      · simp
theorem del_len (k : Int) (m : List (Int × En)) : (del k m).length ≤ m.length := List.length_filter_le _ _
structure Two (w W : World) (p1 p2 p3 : Nat) (om1 om2 : Option Nat) (m : List (Int × En)) (last : Int) : Prop where
  A : BookAt W p1 om1 m last
  B : BookAt W p2 om2 m last
  C : BookAt W p3 none [] 0
  R : Rise m last
  g1 : ∀ x ∈ foot p1 om1, w.heap.size ≤ x
  g2 : ∀ x ∈ foot p2 om2, w.heap.size ≤ x
  g3 : w.heap.size ≤ p3
  d12 : ∀ x ∈ foot p1 om1, x ∉ foot p2 om2
  d13 : p3 ∉ foot p1 om1
  d23 : p3 ∉ foot p2 om2
  T : Below w.heap.size w W
theorem foot_lt {W : World} {p : Nat} {om : Option Nat} {m : List (Int × En)} {last : Int} (h : BookAt W p om m last) : ∀ x ∈ foot p om, x < W.heap.size := by
  intro x hx
  rcases List.mem_cons.1 hx with e | e
  · rw [e]; exact lt_of_heap h.blk
  · have e' : om = some x := by simpa using e
    exact h.map.lt e'
theorem Two.keep {w W W' : World} {p1 p2 p3 : Nat} {om1 om2 : Option Nat} {m : List (Int × En)} {last : Int} {X : List Nat} (h : Two w W p1 p2 p3 om1 om2 m last) (hk : Keep X W W')
    (h1 : ∀ x ∈ foot p1 om1, x ∉ X) (h2 : ∀ x ∈ foot p2 om2, x ∉ X) (h3 : p3 ∉ X) (hX : ∀ x ∈ X, w.heap.size ≤ x) : Two w W' p1 p2 p3 om1 om2 m last :=
  ⟨h.A.keep hk h1, h.B.keep hk h2, h.C.keep hk (by intro b hb; simp [foot] at hb; subst hb; exact h3), h.R, h.g1, h.g2, h.g3, h.d12, h.d13, h.d23, h.T.trans (hk.below h.T.size hX)⟩
theorem Two.below {w W W' : World} {p1 p2 p3 : Nat} {om1 om2 : Option Nat} {m : List (Int × En)} {last : Int} (h : Two w W p1 p2 p3 om1 om2 m last) (hk : Below W.heap.size W W') : Two w W' p1 p2 p3 om1 om2 m last :=
  h.keep (Keep.of_below hk []) (by simp) (by simp) (by simp) (by simp)
/-- What does not touch the feet. -/
theorem Two.new {w W W' : World} {p1 p2 p3 g : Nat} {om1 om2 : Option Nat} {m : List (Int × En)} {last : Int} {W0 : World} (h : Two w W p1 p2 p3 om1 om2 m last) (h0 : Two w W0 p1 p2 p3 om1 om2 m last) (hk : Keep [g] W W') (hg : W0.heap.size ≤ g) : Two w W' p1 p2 p3 om1 om2 m last := by
  refine h.keep hk (fun x hx hm => ?_) (fun x hx hm => ?_) (fun hm => ?_) (fun x hx => ?_)
  · have := foot_lt h0.A x hx; simp at hm; omega
  · have := foot_lt h0.B x hx; simp at hm; omega
  · have := lt_of_heap h0.C.blk; simp at hm; omega
  · have := h0.T.size; simp at hx; omega
structure XC (W : World) (g : Nat) (x : Ac) : Prop where
  c0 : W.cell? ⟨g, 0, none⟩ = some (.int .i64 x.dd)
  c1 : W.cell? ⟨g, 1, none⟩ = some (.int .i64 x.t.ep)
  c2 : W.cell? ⟨g, 2, none⟩ = some (.int .i64 x.t.nodes)
  c3 : W.cell? ⟨g, 3, none⟩ = some (.slice x.t.oa x.t.owner.length x.t.oc)
  c4 : W.cell? ⟨g, 4, none⟩ = some (.int .i64 x.part)
  c5 : W.cell? ⟨g, 5, none⟩ = some (.int .i64 x.to)
  gl : g < W.heap.size
theorem XC.keep {W W' : World} {g : Nat} {x : Ac} {X : List Nat} (h : XC W g x) (hk : Keep X W W') (hg : g ∉ X) : XC W' g x :=
  ⟨(hk.cell _ h.gl hg).trans h.c0, (hk.cell _ h.gl hg).trans h.c1, (hk.cell _ h.gl hg).trans h.c2, (hk.cell _ h.gl hg).trans h.c3, (hk.cell _ h.gl hg).trans h.c4, (hk.cell _ h.gl hg).trans h.c5, Nat.lt_of_lt_of_le h.gl hk.size⟩
theorem XC.below {W W' : World} {g : Nat} {x : Ac} (h : XC W g x) (hk : Below W.heap.size W W') : XC W' g x := h.keep (Keep.of_below hk []) (by simp)
theorem XC.new (W : World) (x : Ac) : XC (W.alloc (.cells #[.int .i64 x.dd, .int .i64 x.t.ep, .int .i64 x.t.nodes, .slice x.t.oa x.t.owner.length x.t.oc, .int .i64 x.part, .int .i64 x.to] 43)) W.heap.size x :=
  ⟨by go_simp, by go_simp, by go_simp, by go_simp, by go_simp, by go_simp, by simp⟩
/-- Order of the first book, then of the second: the contracts. -/
theorem twoOrdA {w W : World} {p1 p2 p3 : Nat} {om1 om2 : Option Nat} {m : List (Int × En)} {last : Int} (h : Two w W p1 p2 p3 om1 om2 m last) (t : Tb) (hI : IntsAt w t.oa t.owner) (part to : Int) :
    Calls Try.prog 31 #[.pointer (some ⟨p1, 0, none⟩), t.val, .int .i64 part, .int .i64 to] W fun e W' =>
      e = .returned (.tuple #[.int .i64 (ordF t part to m last).1, .int .i64 (ordF t part to m last).2.1]) ∧
      (∃ om1', BookAt W' p1 om1' (ordF t part to m last).2.2.1 (ordF t part to m last).2.2.2 ∧ (∀ x ∈ foot p1 om1', x ∈ foot p1 om1 ∨ W.heap.size ≤ x)) ∧ Keep (foot p1 om1) W W' := by
  refine (order_any h.A h.R.nd h.R.l0 t (hI.below h.T) (hI.ne (h.g1 p1 (.head _))) part to).mono ?_
  rintro e W' ⟨he, ⟨om', hb, ho⟩, hk⟩
  refine ⟨he, ⟨om', hb, fun x hx => ?_⟩, hk⟩
  rcases ho with rfl | ⟨rfl, b, rfl, hle⟩
  · exact .inl hx
  · rcases List.mem_cons.1 hx with e | e
    · exact .inl (by simp [foot, e])
    · have e' : b = x := by simpa [eq_comm] using e
      exact .inr (e' ▸ hle)
theorem twoOrdB {w W W1 : World} {p1 p2 p3 : Nat} {om1 om2 : Option Nat} {m : List (Int × En)} {last : Int} (h : Two w W p1 p2 p3 om1 om2 m last) (t : Tb) (hI : IntsAt w t.oa t.owner) (part to : Int)
    {om1' : Option Nat} (hb : BookAt W1 p1 om1' (ordF t part to m last).2.2.1 (ordF t part to m last).2.2.2) (hf : ∀ x ∈ foot p1 om1', x ∈ foot p1 om1 ∨ W.heap.size ≤ x) (hk1 : Keep (foot p1 om1) W W1) :
    Calls Try.prog 31 #[.pointer (some ⟨p2, 0, none⟩), t.val, .int .i64 part, .int .i64 to] W1 fun e W' =>
      e = .returned (.tuple #[.int .i64 (ordF t part to m last).1, .int .i64 (ordF t part to m last).2.1]) ∧
      (∃ om2', Two w W' p1 p2 p3 om1' om2' (ordF t part to m last).2.2.1 (ordF t part to m last).2.2.2) ∧ Keep (foot p2 om2) W1 W' := by
  have hB1 := h.B.keep hk1 (fun x hx hm => h.d12 x hm hx)
  have hC1 := h.C.keep hk1 (fun x hx hm => h.d13 (by simp [foot] at hx; subst hx; exact hm))
  have hT1 : Below w.heap.size w W1 := h.T.trans (hk1.below h.T.size h.g1)
  have hs := hk1.size
  refine (order_any hB1 h.R.nd h.R.l0 t (hI.below hT1) (hI.ne (h.g2 p2 (.head _))) part to).mono ?_
  rintro e W' ⟨he, ⟨om', hb2, ho⟩, hk⟩
  have hf2 : ∀ x ∈ foot p2 om', x ∈ foot p2 om2 ∨ W1.heap.size ≤ x := by
    intro x hx
    rcases ho with rfl | ⟨rfl, b, rfl, hle⟩
    · exact .inl hx
    · rcases List.mem_cons.1 hx with e | e
      · exact .inl (by simp [foot, e])
      · have e' : b = x := by simpa [eq_comm] using e
        exact .inr (e' ▸ hle)
  have hg1 : ∀ x ∈ foot p1 om1', w.heap.size ≤ x := fun x hx => by rcases hf x hx with h5 | h5; exact h.g1 x h5; have := h.T.size; omega
  have hg2 : ∀ x ∈ foot p2 om', w.heap.size ≤ x := fun x hx => by rcases hf2 x hx with h5 | h5; exact h.g2 x h5; have := hT1.size; omega
  have hd : ∀ x ∈ foot p1 om1', x ∉ foot p2 om2 := fun x hx hm => by
    rcases hf x hx with h5 | h5
    · exact h.d12 x h5 hm
    · have := foot_lt h.B x hm; omega
  have hl1 := foot_lt hb
  refine ⟨he, ⟨om', hb.keep hk hd, hb2, hC1.keep hk (fun x hx hm => h.d23 (by simp [foot] at hx; subst hx; exact hm)), h.R.order t part to, hg1, hg2, h.g3, ?_, ?_, ?_, hT1.trans (hk.below hT1.size h.g2)⟩, hk⟩
  · intro x hx hm
    rcases hf2 x hm with h5 | h5
    · exact hd x hx h5
    · have := hl1 x hx; omega
  · intro hm
    rcases hf p3 hm with h5 | h5
    · exact h.d13 h5
    · have := lt_of_heap h.C.blk; omega
  · intro hm
    rcases hf2 p3 hm with h5 | h5
    · exact h.d23 h5
    · have := lt_of_heap h.C.blk; omega
theorem twoEndA {w W : World} {p1 p2 p3 : Nat} {om1 om2 : Option Nat} {m : List (Int × En)} {last : Int} (h : Two w W p1 p2 p3 om1 om2 m last) (k : Int) :
    Calls Try.prog 32 #[.pointer (some ⟨p1, 0, none⟩), .int .i64 k] W fun e W' => e = .returned (.bool (look k m).isSome) ∧ BookAt W' p1 om1 (del k m) last ∧ Keep (foot p1 om1) W W' := end_book h.A h.R.nd k
theorem twoEndB {w W W1 : World} {p1 p2 p3 : Nat} {om1 om2 : Option Nat} {m : List (Int × En)} {last : Int} (h : Two w W p1 p2 p3 om1 om2 m last) (k : Int) (hb : BookAt W1 p1 om1 (del k m) last) (hk1 : Keep (foot p1 om1) W W1) :
    Calls Try.prog 32 #[.pointer (some ⟨p2, 0, none⟩), .int .i64 k] W1 fun e W' => e = .returned (.bool (look k m).isSome) ∧ Two w W' p1 p2 p3 om1 om2 (del k m) last ∧ Keep (foot p2 om2) W1 W' := by
  have hB1 := h.B.keep hk1 (fun x hx hm => h.d12 x hm hx)
  have hC1 := h.C.keep hk1 (fun x hx hm => h.d13 (by simp [foot] at hx; subst hx; exact hm))
  have hT1 : Below w.heap.size w W1 := h.T.trans (hk1.below h.T.size h.g1)
  exact (end_book hB1 h.R.nd k).mono fun e W' ⟨he, hb2, hk⟩ =>
    ⟨he, ⟨hb.keep hk h.d12, hb2, hC1.keep hk (fun x hx hm => h.d23 (by simp [foot] at hx; subst hx; exact hm)), h.R.del k, h.g1, h.g2, h.g3, h.d12, h.d13, h.d23, hT1.trans (hk.below hT1.size h.g2)⟩, hk⟩
end Go.Proofs.Ytbkbekdeplolnaa
