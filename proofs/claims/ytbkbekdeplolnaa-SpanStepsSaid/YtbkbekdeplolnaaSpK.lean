/- SpanKnown: the chapter's examples, and the ends. -/
import Derived.Test.YtbkbekdeplolnaaSpH
namespace Go.Proofs.Ytbkbekdeplolnaa
open Go.RowKit Go.Shelf
attribute [local go_sem] Oper.semAt_some
set_option linter.unusedSimpArgs false
set_option linter.unusedVariables false

/-- A box that holds a slice of int64 of the call's own, whose row lies in a block from base on, other than the box. -/
def OB (W : World) (base b : Nat) (xs : List Int) : Prop :=
  ∃ a c, Bx W b (.slice a xs.length c) ∧ W.ownsRow base 2 1 (.slice a xs.length c) xs.length (xs.map (Value.int .i64)) ∧ ∀ g, a = some g → g.block ≠ b
theorem ownsRow_kept {A B : World} {base : Nat} {e : TypeId} {size : Nat} {v : Value} {n : Nat} {xs : List Value} {row : Option Nat} (h : A.ownsRow base e size v n xs) (hg : A.grownBy B row)
    (hr : ∀ r, row = some r → ∃ o : Obj, A.heap[r]? = some o ∧ o.isCells = false) : B.ownsRow base e size v n xs := by
  refine h.kept hg ?_
  obtain ⟨_, ⟨rfl, _⟩ | ⟨g, cap, cur, rfl, _, hh, _⟩⟩ := h
  · exact .inl rfl
  · right
    intro he
    obtain ⟨o, h1, h2⟩ := hr g he.symm
    rw [hh] at h1
    cases h1
    cases h2
theorem OB.kept {A B : World} {base b : Nat} {xs : List Int} {row : Option Nat} (h : OB A base b xs) (hg : A.grownBy B row) (hr : ∀ r, row = some r → ∃ o : Obj, A.heap[r]? = some o ∧ o.isCells = false) : OB B base b xs := by
  obtain ⟨a, c, h1, h2, h3⟩ := h
  exact ⟨a, c, h1.kept hg hr, ownsRow_kept h2 hg hr, h3⟩
theorem ownsRow_set {W : World} {base : Nat} {e : TypeId} {size : Nat} {v : Value} {n : Nat} {xs : List Value} (h : W.ownsRow base e size v n xs) (b o : Nat) (u : Value) (hne : ∀ g, v.ownBlock = some g → g ≠ b) :
    (W.setCell ⟨b, o, none⟩ u).ownsRow base e size v n xs := by
  obtain ⟨h1, h2⟩ := h
  refine ⟨h1, ?_⟩
  rcases h2 with h2 | ⟨g, cap, cur, hv, hg, hh, r⟩
  · exact Or.inl h2
  · have := hne g (by rw [hv]; rfl)
    exact Or.inr ⟨g, cap, cur, hv, hg, by rw [Below.heap_setCell _ _ _ _ (by simpa using this)]; exact hh, r⟩
theorem OB.other {W : World} {base b : Nat} {xs : List Int} (h : OB W base b xs) (b' : Nat) (u : Value) (h1 : b' ≠ b) (h2 : b' < base) : OB (W.setCell ⟨b', 0, none⟩ u) base b xs := by
  obtain ⟨a, c, h3, h4, h5⟩ := h
  exact ⟨a, c, h3.other h1 _ _, ownsRow_set h4 _ _ _ (fun g hg => by have := h4.lt g hg; omega), h5⟩
theorem OB.nil {W : World} {base b : Nat} (h : Bx W b (.slice none 0 0)) : OB W base b [] := ⟨none, 0, h, World.ownsRow_nil _ _ _ _, fun _ h => by cases h⟩
theorem OB.alloc {W : World} {base b : Nat} {xs : List Int} (h : OB W base b xs) (o : Obj) : OB (W.alloc o) base b xs := by
  obtain ⟨a, c, h1, h2, h3⟩ := h
  exact ⟨a, c, h1.alloc o, h2.alloc o, h3⟩
theorem OB.below {W W' : World} {base b : Nat} {xs : List Int} (h : OB W base b xs) (hb : Below W.heap.size W W') : OB W' base b xs := by
  obtain ⟨a, c, h1, h2, h3⟩ := h
  refine ⟨a, c, h1.below hb h1.lt, ?_, h3⟩
  obtain ⟨q1, q2⟩ := h2
  refine ⟨q1, ?_⟩
  rcases q2 with q2 | ⟨g, cap, cur, hv, hg, hh, r⟩
  · exact .inl q2
  · exact .inr ⟨g, cap, cur, hv, hg, (hb.block g (Array.getElem?_eq_some_iff.1 hh).1).trans hh, r⟩
theorem OB.box1 {W w1 : World} {b : Nat} {xs : List Int} {x : Int} {a : Option Addr} {c : Nat} (hbx : Bx W b (.slice a xs.length c)) (hne : ∀ g, a = some g → g.block ≠ b)
    (hg : (W.alloc (.cells #[.int .i64 x] 2)).grownBy w1 (Value.slice a xs.length c).ownBlock) : Bx w1 b (.slice a xs.length c) := by
  have h1 := hbx.alloc (.cells #[.int .i64 x] 2)
  have hlt := h1.lt
  have hk : w1.heap[b]? = (W.alloc (.cells #[.int .i64 x] 2)).heap[b]? := hg.block b hlt (fun e => by
    cases a with
    | none => cases e
    | some g => cases e; exact hne _ rfl rfl)
  exact ⟨(World.cell?_of_block (w := W.alloc (.cells #[.int .i64 x] 2)) hk).trans h1.1, (World.frozen?_of_block (w := W.alloc (.cells #[.int .i64 x] 2)) hk).trans h1.2⟩
/-- 'l = append(l, x)' through the box: what the walk leaves behind the append and the store. -/
theorem OB.appended {W w1 : World} {base b B b1 b2 : Nat} {xs : List Int} {x : Int} {a : Option Addr} {c : Nat} {v' : Value} (hbx : Bx W b (.slice a xs.length c))
    (hown : W.ownsRow base 2 1 (.slice a xs.length c) xs.length (xs.map (Value.int .i64))) (hne : ∀ g, a = some g → g.block ≠ b)
    (hown' : w1.ownsRow base 2 1 v' (xs.length + 1) (xs.map (Value.int .i64) ++ [.int .i64 x]))
    (hg : (W.alloc (.cells #[.int .i64 x] 2)).grownBy w1 (Value.slice a xs.length c).ownBlock) (hbase : b < base) (hbb : base ≤ W.heap.size) (hB : B ≤ b) (h1 : b1 < base) (h2 : b2 < base) (h3 : b1 ≠ b) (h4 : b2 ≠ b) :
    OB (w1.setCell ⟨b, 0, none⟩ v') base b (xs ++ [x]) ∧ KeepsOthers W (w1.setCell ⟨b, 0, none⟩ v') ∧ KeepC b1 b2 W (w1.setCell ⟨b, 0, none⟩ v') ∧ Below B W (w1.setCell ⟨b, 0, none⟩ v') := by
  have hb1 := OB.box1 hbx hne hg
  have hlt := hown.lt
  have hcell : ∀ q, q < base → q ≠ b → (w1.setCell ⟨b, 0, none⟩ v').cell? ⟨q, 0, none⟩ = W.cell? ⟨q, 0, none⟩ := by
    intro q hq hqb
    rw [cell_off _ _ _ _ _ _ (Ne.symm hqb)]
    have hk : w1.heap[q]? = W.heap[q]? := (hg.block q (by simp; omega) (fun e => by have := hlt q e.symm; omega)).trans (Below.heap_alloc W _ q (by omega))
    exact World.cell?_of_block (w := W) hk
  refine ⟨?_, ?_, KeepC.of (hcell b1 h1 h3) (hcell b2 h2 h4), ?_⟩
  · obtain ⟨a', c', rfl⟩ := ownsRow_shape hown'
    have hl : (xs ++ [x]).length = xs.length + 1 := by simp
    refine ⟨a', c', ?_, ?_, ?_⟩
    · rw [hl]; exact hb1.same _
    · rw [hl, List.map_append]
      exact ownsRow_set hown' _ _ _ (fun g hg' => by have := hown'.lt g hg'; omega)
    · rintro g rfl e
      have := hown'.lt g.block rfl
      omega
  · refine ((KeepsOthers.alloc W _).trans (KeepsOthers.of_grownBy hg (fun j o hj ho => ?_))).trans (KeepsOthers.setCell _ _ _)
    obtain ⟨_, ⟨hn, _⟩ | ⟨g, cap, cur, hv, _, hh, _⟩⟩ := hown
    · rw [hn] at hj; cases hj
    · rw [hv] at hj
      cases hj
      have hgl := (Array.getElem?_eq_some_iff.1 hh).1
      rw [Below.heap_alloc W _ g hgl, hh] at ho
      cases ho; rfl
  · refine (((Below.refl B W).alloc (by omega) _).grown hg (by simp; omega) (fun g hg' => ?_)).setCell (p := ⟨b, 0, none⟩) hB _
    have := hlt g hg'; omega
set_option maxRecDepth 100000 in
set_option maxHeartbeats 8000000 in
theorem law_SpanKnown (w : World) :
    Calls Try.prog 7 #[] w fun e w' => e = .returned (.bool true) ∧ Below w.heap.size w w' := by
  refine (callsIn_wide (n := 5)).1 ?_
  refine callsIn_of_wp_marks Try.func7 rfl trivial ?_ rfl
  simp only [Try.ntmps7, List.size_toArray, List.length_cons, List.length_nil, Nat.reduceAdd, Nat.reduceSub, Array.replicate_succ, Array.replicate_zero, List.push_toArray, List.append_toArray, List.nil_append, List.cons_append]
  have hfn := func_nil
  obtain ⟨i0, hi, hz0, hz1, hz2⟩ := info_parts infoI64
  gi_wp2_with (refine wide_call' (starts_any _ _ _) ?_; rintro e w' ⟨rfl, rfl⟩)
  have hC : cntN 36 14 = 3 := by decide
  have HC := Lib.hid hC
  clear hC
  refine' wpIn_rangeFunc_ownF rfl (by omega) (gf := 44) (lb := #[.pointer (some ⟨w.heap.size + 1 + 1 + 1, 0, none⟩), .pointer (some ⟨w.heap.size + 1 + 1 + 1 + 1, 0, none⟩)]) rfl trivial (enters_of Try.func44 (by kernel_rfl) rfl)
    (starts_stops 4 _ _ 36 14 _ (by simp) (by simp) (by go_simp) (by go_simp)) KeepC.trans keepC_put (Below.refl _ _) (fun _ => rfl)
    (fun pre W => (OB W (w.heap.size + 1 + 1 + 1 + 1 + 1) w.heap.size pre ∧ w.heap.size + 1 + 1 + 1 + 1 + 1 ≤ W.heap.size) ∧ Below w.heap.size w W)
    (fun c pre W => False)
    ?hI ?hIx ?h0 _ ?assign ?body ?done ?stop
  case hI => exact OwnFrom.and (Own.from (fun pre A B row hs hg hr => ⟨hs.1.kept hg hr, by have := hg.size; omega⟩) _) (ownFrom_below (Nat.le_refl _) (by simp; omega))
  case hIx => exact fun c pre A B row hs hg hr => hs
  case h0 => exact ⟨⟨OB.nil ⟨by go_simp, by go_simp⟩, by simp⟩, by repeat' (first | exact Below.refl _ _ | refine Below.alloc ?_ (by simp; try omega) _)⟩
  case assign =>
    intro l x W K hK
    gi_wp2
    exact hK
  case body =>
    rintro l pre x W ⟨⟨⟨a, c, hbx, hown, hne⟩, hz⟩, hB⟩ hlen
    have hb1 := hbx.1
    have hb2 := hbx.2
    have hlen' : pre.length < 3 := by rw [← HC.out]; exact hlen
    have Hbx := Lib.hid hbx
    have Hne := Lib.hid hne
    clear hbx hne
    gi_wp2_with (gi_at_builtin; refine wpListIn_append_own _ rfl _ _ 26 rfl (w.heap.size + 1 + 1 + 1 + 1 + 1) 2 i0 (.int .i64 0) 1 8 Try.underlying26 hi hz0 hz1 hz2 rfl (by decide) _ _ _ rfl (hown.alloc _) ⟨W.heap.size, 0, none⟩ 1 1 [.int .i64 x] rfl rfl ?c1 ?c2 ?c3 ?c4 ?c5 ?_)
    case c1 => exact cell_one_new _ _ _
    case c2 => simp [Value.oneCell']
    case c3 => unfold maxLen; omega
    case c4 => omega
    case c5 => simp; omega
    intro v' w1 hown' hgrow _
    obtain ⟨q1, q2, q3, q4⟩ := OB.appended (B := w.heap.size) (b1 := w.heap.size + 1 + 1 + 1) (b2 := w.heap.size + 1 + 1 + 1 + 1) Hbx.out hown Hne.out hown' hgrow (by omega) hz (Nat.le_refl _) (by omega) (by omega) (by omega) (by omega)
    obtain ⟨g1, g2⟩ := OB.box1 Hbx.out Hne.out hgrow
    obtain ⟨a', c', rfl⟩ := ownsRow_shape hown'
    gi_wp2
    exact ⟨q2, q3, ⟨q1, by have := q4.size; omega⟩, hB.trans q4⟩
  case done =>
    rintro D ys W hD hS ⟨⟨hob, hz⟩, hB⟩ hK
    have hL : startsL 36 14 = [0, 10, 20] := by decide
    rw [hS, hL] at hob
    clear hS hL
    obtain ⟨av, cv, hbx, hown, _⟩ := hob
    obtain ⟨g, rfl, hg1, hg2, hg3⟩ := ownsRow_at hown (by decide)
    have d0 := hg3 0 (by decide)
    have d1 := hg3 1 (by decide)
    have d2 := hg3 2 (by decide)
    simp only [List.map_cons, List.map_nil, List.getElem?_cons_zero, List.getElem?_cons_succ] at d0 d1 d2
    have hob : Bx W w.heap.size (.slice (some ⟨g, 0, none⟩) 3 cv) := hbx
    clear hbx hown hg3
    have hzB := hB.size
    have hDl := (Array.getElem?_eq_some_iff.1 hK).1
    simp only [World.size_alloc] at hD
    gi_wp2_with (refine wide_call' (starts_any _ _ _) ?_; rintro e w' ⟨rfl, rfl⟩)
    have hC2 : cntN 1099511627776 0 = 1000 := by decide
    have HC2 := Lib.hid hC2
    clear hC2
    have hn0 : Bx (W.alloc (.cells #[.int .i64 0] 3)) W.heap.size (.int .i64 0) := Bx.new _ _ _
    refine' wpIn_rangeFunc_ownF rfl (by omega) (gf := 44) (lb := #[.pointer (some ⟨W.heap.size + 1 + 1 + 1, 0, none⟩), .pointer (some ⟨W.heap.size + 1 + 1 + 1 + 1, 0, none⟩)]) rfl trivial (enters_of Try.func44 (by kernel_rfl) rfl)
      (starts_stops 4 _ _ 1099511627776 0 _ (by simp) (by simp) (by go_simp) (by go_simp)) KeepC.trans keepC_put (Below.refl _ _) (fun _ => rfl)
      (fun pre W' => ((Bx W' w.heap.size (.slice (some ⟨g, 0, none⟩) 3 cv) ∧ W'.cell? ⟨g, 0, none⟩ = some (.int .i64 0) ∧ W'.cell? ⟨g, 1, none⟩ = some (.int .i64 10) ∧ W'.cell? ⟨g, 2, none⟩ = some (.int .i64 20)) ∧ Bx W' W.heap.size (.int .i64 pre.length) ∧ W'.heap[D]? = some (.deferred (some []))) ∧ Below w.heap.size w W')
      (fun c pre W => False)
      ?hI2 ?hIx2 ?h02 _ ?assign2 ?body2 ?done2 ?stop2
    case hI2 =>
      refine OwnFrom.and (fun pre A B row hs hg hr => ⟨⟨hs.1.1.kept hg fun r e => (hr r e).2, cell_kept hs.1.2.1 hg fun r e => (hr r e).2, cell_kept hs.1.2.2.1 hg fun r e => (hr r e).2, cell_kept hs.1.2.2.2 hg fun r e => (hr r e).2⟩, hs.2.1.kept hg fun r e => (hr r e).2, ?_⟩) (ownFrom_below (Nat.le_refl _) (by simp; omega))
      exact (hg.block D (Array.getElem?_eq_some_iff.1 hs.2.2).1 (fun e => by have := (hr D e.symm).1; (try simp only [World.size_alloc] at this); omega)).trans hs.2.2
    case hIx2 => exact fun c pre A B row hs hg hr => hs
    case h02 =>
      refine ⟨⟨⟨by repeat' (first | exact hob | apply Bx.alloc), by repeat' (first | exact d0 | apply cell_alloc_l), by repeat' (first | exact d1 | apply cell_alloc_l), by repeat' (first | exact d2 | apply cell_alloc_l)⟩, by repeat' (first | exact hn0 | apply Bx.alloc), ?_⟩, by repeat' (first | exact hB | refine Below.alloc ?_ (by first | omega | (simp; try omega)) _)⟩
      have key : ∀ (X : World) (o : Obj), D < X.heap.size → X.heap[D]? = some (.deferred (some [])) → (X.alloc o).heap[D]? = some (.deferred (some [])) := fun X o h1 h2 => (Below.heap_alloc X o D h1).trans h2
      repeat' (first | exact hK | (refine key _ _ (by first | omega | (simp; try omega)) ?_))
    case assign2 =>
      intro l x W K hK
      gi_wp2
      exact hK
    case body2 =>
      rintro l pre x W2 ⟨⟨⟨hob2, e0, e1, e2⟩, ⟨hn1, hn2⟩, hKD⟩, hB2⟩ hlen
      have hlen' : (pre.length : Int) < 1000 := by have := HC2.out; omega
      have Hob := Lib.hid hob2
      have HKD := Lib.hid hKD
      have E0 := Lib.hid e0
      have E1 := Lib.hid e1
      have E2 := Lib.hid e2
      clear hob2 hKD e0 e1 e2
      gi_wp2
      exact ⟨KeepsOthers.setCell _ _ _, KeepC.of (cell_off _ _ _ _ _ _ (by omega)) (cell_off _ _ _ _ _ _ (by omega)), ⟨⟨Hob.out.other (by omega) _ _, by rw [cell_off _ _ _ _ _ _ (by omega)]; exact E0.out, by rw [cell_off _ _ _ _ _ _ (by omega)]; exact E1.out, by rw [cell_off _ _ _ _ _ _ (by omega)]; exact E2.out⟩, by simpa using Bx.same ⟨hn1, hn2⟩ (.int .i64 ((pre.length : Int) + 1)), (KeepsOthers.setCell W2 _ _).same D _ HKD.out rfl⟩, hB2.setCell (p := ⟨W.heap.size, 0, none⟩) (by simpa using hzB) _⟩
    case done2 =>
      rintro D2 ys W2 hD2 hS2 ⟨⟨⟨⟨hb1, hb2⟩, e0, e1, e2⟩, ⟨hn1, hn2⟩, hKD⟩, hB2⟩ hK2
      have hys : ys.length = 1000 := by rw [hS2, startsL, uptoI_length]; exact HC2.out
      rw [hys] at hn1
      clear hS2 hys
      have HKD := Lib.hid hKD
      have HK2 := Lib.hid hK2
      clear hKD hK2
      have s1 : startI 0 = 0 := by decide
      have s2 : startI 9 = 0 := by decide
      have s3 : startI 10 = 10 := by decide
      have s4 : startI (-1) = -1 := by decide
      have s5 : startI 1099511627776 = 1099511627770 := by decide
      have s6 : startI 1099511627777 = -1 := by decide
      have n1 : endI 10 = 20 := by decide
      have n2 : endI 11 = -1 := by decide
      have n3 : endI (-10) = -1 := by decide
      have n4 : endI 0 = 10 := by decide
      have o1 : overB 0 14 = false := by decide
      have o2 : overB 0 15 = true := by decide
      have o3 : lateB 9 15 = true := by decide
      have o4 : lateB 10 24 = false := by decide
      have o5 : lateB 10 25 = true := by decide
      have o6 : overB 0 1099511627777 = false := by decide
      have o7 : overB (-10) 100 = false := by decide
      gi_wp2_with (first | (refine wide_call' (start_any _ _) ?_; rintro e w' ⟨rfl, rfl⟩) | (refine wide_call' (end_any _ _) ?_; rintro e w' ⟨rfl, rfl⟩) | (refine wide_call' (over_any _ _ _) ?_; rintro e w' ⟨rfl, rfl⟩) | (refine wide_call' (late_any _ _ _) ?_; rintro e w' ⟨rfl, rfl⟩) | (refine wide_call' (wakes8 _) ?_; rintro e w3 ⟨rfl, hB3⟩))
      have hD2l := (Array.getElem?_eq_some_iff.1 HK2.out).1
      have hDl2 := (Array.getElem?_eq_some_iff.1 HKD.out).1
      have hne : D ≠ D2 := by
        try simp only [World.size_alloc] at hD2
        omega
      have k2 := (hB3.block D2 hD2l).trans HK2.out
      have k1 := (hB3.block D hDl2).trans HKD.out
      have hh : (w3.putObj D2 (.deferred none)).heap[D]? = some (.deferred (some [])) := by
        rw [(grownBy_putObj' w3 D2 (.deferred none)).block D (Array.getElem?_eq_some_iff.1 k1).1 (fun e => hne (by cases e; rfl))]; exact k1
      refine ⟨by simp, .inl ⟨D2, _, rfl, run_takeDeferred k2, ?_⟩⟩
      refine ⟨by simp, .inl ⟨D, _, rfl, run_takeDeferred hh, ?_⟩⟩
      refine ⟨_, results_tmp rfl _ _ _, rfl, ?_⟩
      have hB5 : Below w.heap.size w w3 := hB2.trans (hB3.mono hB2.size)
      exact (hB5.trans (belowK_b (w := w) (Nat.le_refl _) w3 D2 _ _ (by (try simp only [World.size_alloc] at hD2); omega) k2 rfl rfl)).trans (belowK_b (w := w) (Nat.le_refl _) _ D _ _ (by omega) hh rfl rfl)
    case stop2 =>
      rintro D c pre W hD _ h hK
      exact h.elim
  case stop =>
    rintro D c pre W hD _ h hK
    exact h.elim
end Go.Proofs.Ytbkbekdeplolnaa
