/- SpanStarts: which windows are over since a mark is the document's; they may be left early, and gone over again. -/
import Derived.Test.YtbkbekdeplolnaaSpE
namespace Go.Proofs.Ytbkbekdeplolnaa
open Go.RowKit Go.Shelf
attribute [local go_sem] Oper.semAt_some
set_option linter.unusedSimpArgs false
set_option linter.unusedVariables false

/-- A box: a block's first cell holds v, and may be written. -/
def Bx (W : World) (b : Nat) (v : Value) : Prop := W.cell? ⟨b, 0, none⟩ = some v ∧ W.frozen? ⟨b, 0, none⟩ = false
theorem Bx.new (W : World) (v : Value) (t : TypeId) : Bx (W.alloc (.cells #[v] t)) W.heap.size v := cell_new_l W v t
theorem Bx.alloc {W : World} {b : Nat} {v : Value} (h : Bx W b v) (o : Obj) : Bx (W.alloc o) b v := ⟨cell_alloc_l o h.1, frozen_alloc_l o h.1 h.2⟩
theorem Bx.kept {A B : World} {b : Nat} {v : Value} {row : Option Nat} (h : Bx A b v) (hg : A.grownBy B row) (hr : ∀ r, row = some r → ∃ o : Obj, A.heap[r]? = some o ∧ o.isCells = false) : Bx B b v :=
  ⟨cell_kept h.1 hg hr, (frozen_kept h.1 hg hr).trans h.2⟩
theorem Bx.same {W : World} {b : Nat} {v : Value} (h : Bx W b v) (u : Value) : Bx (W.setCell ⟨b, 0, none⟩ u) b u :=
  ⟨World.cell?_setCell_same' _ _ _ (by rw [h.1]; rfl), by rw [World.frozen?_setCell]; exact h.2⟩
theorem Bx.other {W : World} {b b' : Nat} {v : Value} (h : Bx W b v) (hne : b' ≠ b) (o : Nat) (u : Value) : Bx (W.setCell ⟨b', o, none⟩ u) b v :=
  ⟨by rw [cell_far _ _ _ _ (by simpa using hne)]; exact h.1, by rw [World.frozen?_setCell]; exact h.2⟩
theorem Bx.below {B : Nat} {W W' : World} {b : Nat} {v : Value} (h : Bx W b v) (hb : Below B W W') (hlt : b < B) : Bx W' b v :=
  ⟨(hb.cell (p := ⟨b, 0, none⟩) hlt).trans h.1, (hb.frozen (p := ⟨b, 0, none⟩) hlt).trans h.2⟩

theorem Bx.lt {W : World} {b : Nat} {v : Value} (h : Bx W b v) : b < W.heap.size := by
  have h1 := h.1
  unfold World.cell? at h1
  cases hb : W.heap[b]? with
  | none => simp [hb] at h1
  | some o => exact (Array.getElem?_eq_some_iff.1 hb).1
theorem cell_off (w : World) (b o b' o' : Nat) (v : Value) (h : b ≠ b') : (w.setCell ⟨b, o, none⟩ v).cell? ⟨b', o', none⟩ = w.cell? ⟨b', o', none⟩ := cell_far w ⟨b, o, none⟩ ⟨b', o', none⟩ v h
/-- THE RETURN BEHIND TWO LOOPS: their marks are come to; the result's box holds true. -/
theorem two_marks {fn : Func} {tmps : Array Value} {w W : World} {D D2 rb : Nat} (h1 : w.heap.size ≤ D) (h2 : w.heap.size ≤ D2) (hne : D ≠ D2) (k2 : W.heap[D2]? = some (.deferred (some []))) (k1 : W.heap[D]? = some (.deferred (some [])))
    (hr : Bx W rb (.bool true)) (hB : Below w.heap.size w W) {P : Program} {n : Nat} (hres : ∀ W', Bx W' rb (.bool true) → (results fn tmps).run P W' = .ok (.bool true) W') :
    bodyPostM Fence.wide n P fn (fun e w' => e = .returned (.bool true) ∧ Below w.heap.size w w') .ret { tmps := tmps, defers := [{ target := .collected D2, args := #[] }, { target := .collected D, args := #[] }] } W := by
  have hh : (W.putObj D2 (.deferred none)).heap[D]? = some (.deferred (some [])) := by
    rw [(grownBy_putObj' W D2 (.deferred none)).block D (Array.getElem?_eq_some_iff.1 k1).1 (fun e => hne (by cases e; rfl))]; exact k1
  refine ⟨by simp, .inl ⟨D2, _, rfl, run_takeDeferred k2, ?_⟩⟩
  refine ⟨by simp, .inl ⟨D, _, rfl, run_takeDeferred hh, ?_⟩⟩
  have hr' : Bx ((W.putObj D2 (.deferred none)).putObj D (.deferred none)) rb (.bool true) :=
    (hr.kept (grownBy_putObj' W D2 (.deferred none)) (fun r e => by cases e; exact ⟨_, k2, rfl⟩)).kept (grownBy_putObj' _ D (.deferred none)) (fun r e => by cases e; exact ⟨_, hh, rfl⟩)
  refine ⟨.bool true, hres _ hr', rfl, ?_⟩
  exact (hB.trans (belowK_b (w := w) (Nat.le_refl _) W D2 _ _ h2 k2 rfl rfl)).trans (belowK_b (w := w) (Nat.le_refl _) _ D _ _ h1 hh rfl rfl)
/-- What the walk of SpanStarts knows of the world between two steps. -/
structure SS (w : World) (sb rb wb e1 e2 nb g c cv : Nat) (av : Option Addr) (m s st : Int) (nv : Int) (W : World) : Prop where
  hs : Bx W sb (.int .i64 st)
  hr : Bx W rb (.bool false)
  hw : Bx W wb (.slice av c cv)
  hn : Bx W nb (.int .i64 nv)
  hd : ∀ j, j < c → W.cell? ⟨g, j, none⟩ = some (.int .i64 (firstI s + 10 * (j : Int)))
  h1 : Bx W e1 (.int .i64 m)
  h2 : Bx W e2 (.int .i64 s)
  hB : Below w.heap.size w W
theorem SS.kept {w A B : World} {sb rb wb e1 e2 nb g c cv : Nat} {av : Option Addr} {m s st nv : Int} {row : Option Nat} (h : SS w sb rb wb e1 e2 nb g c cv av m s st nv A) (hg : A.grownBy B row)
    (hr : ∀ r, row = some r → w.heap.size ≤ r ∧ ∃ o : Obj, A.heap[r]? = some o ∧ o.isCells = false) : SS w sb rb wb e1 e2 nb g c cv av m s st nv B :=
  ⟨h.hs.kept hg fun r e => (hr r e).2, h.hr.kept hg fun r e => (hr r e).2, h.hw.kept hg fun r e => (hr r e).2, h.hn.kept hg fun r e => (hr r e).2,
   fun j hj => cell_kept (h.hd j hj) hg fun r e => (hr r e).2, h.h1.kept hg fun r e => (hr r e).2, h.h2.kept hg fun r e => (hr r e).2, h.hB.grown hg h.hB.size fun r e => (hr r e).1⟩
theorem SS.setN {w W : World} {sb rb wb e1 e2 nb g c cv : Nat} {av : Option Addr} {m s st nv : Int} (h : SS w sb rb wb e1 e2 nb g c cv av m s st nv W) (x : Int) (h1 : nb ≠ sb) (h2 : nb ≠ rb) (h3 : nb ≠ wb) (h4 : nb ≠ g) (h5 : w.heap.size ≤ nb) (h6 : nb ≠ e1) (h7 : nb ≠ e2) :
    SS w sb rb wb e1 e2 nb g c cv av m s st x (W.setCell ⟨nb, 0, none⟩ (.int .i64 x)) :=
  ⟨h.hs.other h1 _ _, h.hr.other h2 _ _, h.hw.other h3 _ _, h.hn.same _, fun j hj => by rw [cell_far _ _ _ _ (by simpa using h4)]; exact h.hd j hj, h.h1.other h6 _ _, h.h2.other h7 _ _, h.hB.setCell (p := ⟨nb, 0, none⟩) h5 _⟩

set_option maxRecDepth 100000 in
set_option maxHeartbeats 4000000 in
theorem law_SpanStarts (m : Int) (_ : (Lit.int .i64 m).wf = true) (s : Int) (_ : (Lit.int .i64 s).wf = true) (st : Int) (_ : (Lit.int .i64 st).wf = true) (w : World) :
    Calls Try.prog 4 #[.int .i64 m, .int .i64 s, .int .i64 st] w fun e w' => e = .returned (.bool true) ∧ Below w.heap.size w w' := by
  refine (callsIn_wide (n := 5)).1 ?_
  refine callsIn_of_wp_marks Try.func4 rfl trivial ?_ rfl
  simp only [Try.ntmps4, List.size_toArray, List.length_cons, List.length_nil, Nat.reduceAdd, Nat.reduceSub, Array.replicate_succ, Array.replicate_zero, List.push_toArray, List.append_toArray, List.nil_append, List.cons_append]
  have hfn := func_nil
  gi_wp2_with (refine wide_call' (rstarts_shaped _ _ _) ?_; rintro e w1 ⟨av, cv, rfl, hown, hB1⟩)
  have hsz := hB1.size
  simp only [World.size_alloc] at hsz hB1 hown
  gi_wp2_with (refine wide_call' (starts_any _ _ _) ?_; rintro e w' ⟨rfl, rfl⟩)
  have hcn := cntN_le' m s
  have gS : Bx w1 w.heap.size (.int .i64 st) := ((Bx.new w (.int .i64 st) 3).alloc _).below hB1 (by omega)
  have gR : Bx w1 (w.heap.size + 1) (.bool false) := by
    have := Bx.new (w.alloc (.cells #[.int .i64 st] 3)) (.bool false) 4
    simp only [World.size_alloc] at this
    exact this.below hB1 (by omega)
  obtain ⟨g, hg0, hg1, hgd⟩ : ∃ g, (0 < cntN m s → av = some ⟨g, 0, none⟩) ∧ g < w1.heap.size ∧ (∀ j, j < cntN m s → w1.cell? ⟨g, j, none⟩ = some (.int .i64 (firstI s + 10 * (j : Int)))) := by
    by_cases hc : 0 < cntN m s
    · obtain ⟨g, h1, h2, h3, h4⟩ := ownsRow_at hown hc
      refine ⟨g, fun _ => h1, h3, fun j hj => ?_⟩
      rw [h4 j (by omega)]
      simp only [startsL, List.getElem?_map, uptoI_get _ _ _ hj, Option.map_some]
    · exact ⟨0, fun h => absurd h hc, by omega, fun j hj => by omega⟩
  have hB0 : Below w.heap.size w w1 := (((Below.refl _ w).alloc (Nat.le_refl _) _).alloc (by simp) _).trans (hB1.mono (by omega))
  clear hown
  have hSS : SS w w.heap.size (w.heap.size + 1) w1.heap.size (w1.heap.size + 1) (w1.heap.size + 1 + 1) (w1.heap.size + 1 + 1 + 1) g (cntN m s) cv av m s st 0 ((((w1.alloc (Obj.cells #[.slice av (cntN m s) cv] 26)).alloc (Obj.cells #[.int .i64 m] 2)).alloc (Obj.cells #[.int .i64 s] 2)).alloc (Obj.cells #[.int .i64 0] 3)) := by
    refine ⟨by repeat' (first | exact gS | apply Bx.alloc), by repeat' (first | exact gR | apply Bx.alloc), by repeat' (first | exact Bx.new _ _ _ | apply Bx.alloc), ?_, fun j hj => by repeat' (first | exact hgd j hj | apply cell_alloc_l), ?_, ?_, ?_⟩
    · have := Bx.new (((w1.alloc (Obj.cells #[.slice av (cntN m s) cv] 26)).alloc (Obj.cells #[.int .i64 m] 2)).alloc (Obj.cells #[.int .i64 s] 2)) (.int .i64 0) 3
      simpa only [World.size_alloc] using this
    · have := Bx.new (w1.alloc (Obj.cells #[.slice av (cntN m s) cv] 26)) (.int .i64 m) 2
      simp only [World.size_alloc] at this
      repeat' (first | exact this | apply Bx.alloc)
    · have := Bx.new ((w1.alloc (Obj.cells #[.slice av (cntN m s) cv] 26)).alloc (Obj.cells #[.int .i64 m] 2)) (.int .i64 s) 2
      simp only [World.size_alloc] at this
      repeat' (first | exact this | apply Bx.alloc)
    · exact (((hB0.alloc (by omega) _).alloc (by simp; omega) _).alloc (by simp; omega) _).alloc (by simp; omega) _
  refine' wpIn_rangeFunc_ownF rfl (by omega) (gf := 44) (lb := #[.pointer (some ⟨w1.heap.size + 1, 0, none⟩), .pointer (some ⟨w1.heap.size + 1 + 1, 0, none⟩)]) rfl trivial (enters_of Try.func44 (by kernel_rfl) rfl)
    (starts_stops 4 _ _ m s _ (by simp) (by simp) ?ca ?cb) KeepC.trans keepC_put (Below.refl _ _) (fun _ => rfl)
    (fun pre W => (pre = uptoI (firstI s) pre.length ∧ pre.length ≤ cntN m s) ∧ SS w w.heap.size (w.heap.size + 1) w1.heap.size (w1.heap.size + 1) (w1.heap.size + 1 + 1) (w1.heap.size + 1 + 1 + 1) g (cntN m s) cv av m s st pre.length W)
    (fun c pre W => (c = .exit 0 ∧ ∃ nv, SS w w.heap.size (w.heap.size + 1) w1.heap.size (w1.heap.size + 1) (w1.heap.size + 1 + 1) (w1.heap.size + 1 + 1 + 1) g (cntN m s) cv av m s st nv W) ∨ pre ≠ uptoI (firstI s) pre.length)
    ?hI ?hIx ?h0 _ ?assign ?body ?done ?stop
  case ca => exact hSS.h1.1
  case cb => exact hSS.h2.1
  case hI => exact fun pre A B row hs hg hr => ⟨hs.1, hs.2.kept hg fun r e => ⟨by have := (hr r e).1; simp at this; omega, (hr r e).2⟩⟩
  case hIx =>
    rintro c pre A B row (⟨h1, nv, hs⟩ | h1) hg hr
    · exact .inl ⟨h1, nv, hs.kept hg fun r e => ⟨by have := (hr r e).1; simp at this; omega, (hr r e).2⟩⟩
    · exact .inr h1
  case h0 => exact ⟨⟨by simp [uptoI], by simp⟩, hSS⟩
  case assign =>
    intro l x W K hK
    gi_wp2
    exact hK
  case body =>
    rintro l pre x W ⟨⟨hp, hpl⟩, hs⟩ hlen
    have hav : av = some ⟨g, 0, none⟩ := hg0 (by omega)
    have hs0 := hs
    obtain ⟨⟨hs1, hs2⟩, ⟨hr1, hr2⟩, ⟨hw1, hw2⟩, ⟨hn1, hn2⟩, hd, he1, he2, hB⟩ := hs
    rw [hav] at hw1
    have hdj := hd pre.length hlen
    have hk1 : (pre.length : Int) < 1000 := by omega
    have Hp := Lib.hid hp
    have Hav := Lib.hid hav
    clear hp hav hd
    by_cases hst : ((pre.length : Int) == st) = true
    · gi_wp2
      exact ⟨KeepsOthers.refl _, .inl ⟨rfl, _, hs0⟩⟩
    · have hst' : ((pre.length : Int) == st) = false := by simpa using hst
      clear hst
      by_cases hx : x = firstI s + 10 * (pre.length : Int)
      · have hx' : (x != firstI s + 10 * (pre.length : Int)) = false := by rw [hx]; simp
        have Hx := Lib.hid hx
        clear hx
        gi_wp2
        refine ⟨KeepsOthers.setCell _ _ _, KeepC.of (cell_off _ _ _ _ _ _ (by omega)) (cell_off _ _ _ _ _ _ (by omega)), ⟨?_, by simp; omega⟩, ?_⟩
        · rw [List.length_append, List.length_singleton, uptoI_succ, ← Hp.out, ← Hx.out]
        · have := hs0.setN ((pre.length : Int) + 1) (by omega) (by omega) (by omega) (by omega) (by omega) (by omega) (by omega)
          simpa using this
      · have hx' : (x != firstI s + 10 * (pre.length : Int)) = true := by rw [bne_iff_ne]; exact hx
        gi_wp2
        refine ⟨KeepsOthers.setCell _ _ _, .inr fun h => hx (uptoI_snoc_inv h)⟩
  case' done =>
    rintro D ys W hD hS ⟨hq, hs⟩ hK
    obtain ⟨nv, hnv⟩ : ∃ nv : Int, (ys.length : Int) = nv := ⟨_, rfl⟩
    rw [hnv] at hs
    clear hS hnv hq ys
  case' stop =>
    rintro D c pre W hD ⟨k, hk, hpre⟩ (⟨rfl, nv, hs⟩ | hne) hK
    case inr => exact (hne (by rw [hpre, uptoI_length])).elim
    clear hpre hk pre k
  all_goals
    simp only [World.size_alloc] at hD
    have hs0 := hs
    have hz := hs.hB.size
    obtain ⟨⟨hs1, hs2⟩, ⟨hr1, hr2⟩, ⟨hw1, hw2⟩, ⟨hn1, hn2⟩, hd, he1, he2, hB⟩ := hs
    gi_wp2
    have hs' := hs0.setN 0 (by omega) (by omega) (by omega) (by omega) (by omega) (by omega) (by omega)
    have hK1 := (KeepsOthers.setCell W ⟨w1.heap.size + 1 + 1 + 1, 0, none⟩ (.int .i64 0)).same D _ hK rfl
    have hDl := (Array.getElem?_eq_some_iff.1 hK1).1
    clear hs0 hs1 hs2 hr1 hr2 hw1 hw2 hn1 hn2 hd he1 he2 hB
    refine' wpIn_rangeFunc_ownF rfl (by omega) (gf := 44) (lb := #[.pointer (some ⟨w1.heap.size + 1, 0, none⟩), .pointer (some ⟨w1.heap.size + 1 + 1, 0, none⟩)]) rfl trivial (enters_of Try.func44 (by kernel_rfl) rfl)
      (starts_stops 4 _ _ m s _ ?cz1 ?cz2 hs'.h1.1 hs'.h2.1) KeepC.trans keepC_put (Below.refl _ _) (fun _ => rfl)
      (fun pre W' => (pre = uptoI (firstI s) pre.length ∧ pre.length ≤ cntN m s) ∧ SS w w.heap.size (w.heap.size + 1) w1.heap.size (w1.heap.size + 1) (w1.heap.size + 1 + 1) (w1.heap.size + 1 + 1 + 1) g (cntN m s) cv av m s st pre.length W' ∧ W'.heap[D]? = some (.deferred (some [])))
      (fun c pre W' => pre ≠ uptoI (firstI s) pre.length)
      ?hI2 ?hIx2 ?h02 _ ?assign2 ?body2 ?done2 ?stop2
    case cz1 => have := (Bx.lt hs'.h1); omega
    case cz2 => have := (Bx.lt hs'.h2); omega
    case hI2 =>
      exact fun pre A B row hs hg hr => ⟨hs.1, hs.2.1.kept hg fun r e => ⟨by have := (hr r e).1; simp at this; omega, (hr r e).2⟩,
        (hg.block D (Array.getElem?_eq_some_iff.1 hs.2.2).1 (fun e => by have := (hr D e.symm).1; omega)).trans hs.2.2⟩
    case hIx2 => exact fun c pre A B row hs hg hr => hs
    case h02 => exact ⟨⟨by simp [uptoI], by simp⟩, hs', hK1⟩
    case assign2 =>
      intro l x W K hK
      gi_wp2
      exact hK
    case body2 =>
      rintro l pre x W2 ⟨⟨hp, hpl⟩, hs, hKD⟩ hlen
      have hav : av = some ⟨g, 0, none⟩ := hg0 (by omega)
      have hs0 := hs
      obtain ⟨⟨hs1, hs2⟩, ⟨hr1, hr2⟩, ⟨hw1, hw2⟩, ⟨hn1, hn2⟩, hd, he1, he2, hB⟩ := hs
      rw [hav] at hw1
      have hdj := hd pre.length hlen
      have hk1 : (pre.length : Int) < 1000 := by omega
      have Hp := Lib.hid hp
      have Hav := Lib.hid hav
      have HKD := Lib.hid hKD
      clear hp hav hd hKD
      by_cases hx : x = firstI s + 10 * (pre.length : Int)
      · have hx' : (x != firstI s + 10 * (pre.length : Int)) = false := by rw [hx]; simp
        have Hx := Lib.hid hx
        clear hx
        gi_wp2
        refine ⟨KeepsOthers.setCell _ _ _, KeepC.of (cell_off _ _ _ _ _ _ (by omega)) (cell_off _ _ _ _ _ _ (by omega)), ⟨?_, by simp; omega⟩, ?_, (KeepsOthers.setCell W2 _ _).same D _ HKD.out rfl⟩
        · rw [List.length_append, List.length_singleton, uptoI_succ, ← Hp.out, ← Hx.out]
        · have := hs0.setN ((pre.length : Int) + 1) (by omega) (by omega) (by omega) (by omega) (by omega) (by omega) (by omega)
          simpa using this
      · have hx' : (x != firstI s + 10 * (pre.length : Int)) = true := by rw [bne_iff_ne]; exact hx
        gi_wp2
        refine ⟨KeepsOthers.setCell _ _ _, fun h => hx (uptoI_snoc_inv h)⟩
    case done2 =>
      rintro D2 ys W2 hD2 hS ⟨_, hs, hKD⟩ hK2
      have hys : ys.length = cntN m s := by rw [hS, startsL, uptoI_length]
      rw [hys] at hs
      clear hS hys
      have hB2 := hs.hB
      have hz2 := hs.hB.size
      obtain ⟨⟨hs1, hs2⟩, ⟨hr1, hr2⟩, ⟨hw1, hw2⟩, ⟨hn1, hn2⟩, hd, he1, he2, hB⟩ := hs
      have HKD := Lib.hid hKD
      have HK2 := Lib.hid hK2
      clear hKD hK2 hd he1 he2
      have hRlt : w.heap.size + 1 < W2.heap.size := Bx.lt ⟨hr1, hr2⟩
      gi_wp2_with (refine wide_call' (wakes8 _) ?_; rintro e w3 ⟨rfl, hB3⟩; have hr3 := (hB3.cell (p := ⟨w.heap.size + 1, 0, none⟩) hRlt).trans hr1; have hr4 := (hB3.frozen (p := ⟨w.heap.size + 1, 0, none⟩) hRlt).trans hr2)
      have hD2l := (Array.getElem?_eq_some_iff.1 HK2.out).1
      have hDl2 := (Array.getElem?_eq_some_iff.1 HKD.out).1
      have hne : D ≠ D2 := by omega
      have k2 := (KeepsOthers.setCell w3 ⟨w.heap.size + 1, 0, none⟩ (.bool true)).same D2 _ ((hB3.block D2 hD2l).trans HK2.out) rfl
      have k1 := (KeepsOthers.setCell w3 ⟨w.heap.size + 1, 0, none⟩ (.bool true)).same D _ ((hB3.block D hDl2).trans HKD.out) rfl
      have hr5 : Bx (w3.setCell ⟨w.heap.size + 1, 0, none⟩ (.bool true)) (w.heap.size + 1) (.bool true) := Bx.same ⟨hr3, hr4⟩ _
      have hB5 : Below w.heap.size w (w3.setCell ⟨w.heap.size + 1, 0, none⟩ (.bool true)) := (hB2.trans (hB3.mono (by omega))).setCell (p := ⟨w.heap.size + 1, 0, none⟩) (by simp) _
      exact two_marks (by omega) (by omega) hne k2 k1 hr5 hB5 (fun W' h => by have h' := h.1; simp [results, Try.f4, go_sem, h'])
    case stop2 =>
      rintro D c pre W hD ⟨k, hk, hpre⟩ hne hK
      exact (hne (by rw [hpre, uptoI_length])).elim
end Go.Proofs.Ytbkbekdeplolnaa
