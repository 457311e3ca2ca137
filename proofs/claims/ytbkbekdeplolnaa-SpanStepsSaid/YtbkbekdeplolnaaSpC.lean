/- The statement's own first examples (wakes): the call returns true, and writes nothing that was there. -/
import Derived.Test.YtbkbekdeplolnaaSpB
namespace Go.Proofs.Ytbkbekdeplolnaa
open Go.RowKit Go.Shelf
attribute [local go_sem] Oper.semAt_some
set_option linter.unusedSimpArgs false
set_option linter.unusedVariables false

/-- span.Starts(mark, since)'s value, as an iterator that may be left early. -/
theorem starts_stops (n b1 b2 : Nat) (m s : Int) (w : World) (h1 : b1 < w.heap.size) (h2 : b2 < w.heap.size)
    (hc1 : w.cell? ⟨b1, 0, none⟩ = some (.int .i64 m)) (hc2 : w.cell? ⟨b2, 0, none⟩ = some (.int .i64 s)) :
    SeqStopsK Fence.wide n Try.prog 44 #[.pointer (some ⟨b1, 0, none⟩), .pointer (some ⟨b2, 0, none⟩)] (fun x : Int => #[Value.int .i64 x]) (KeepC b1 b2)
      (fun ys => ys = startsL m s) (fun pre => ∃ k, k < cntN m s ∧ pre = uptoI (firstI s) (k + 1)) (cntN m s) w := by
  intro l J Jx W hW hJ hJx hY h0
  have hc1' := (hW.cell (p := ⟨b1, 0, none⟩) h1).trans hc1
  have hc2' := (hW.cell (p := ⟨b2, 0, none⟩) h2).trans hc2
  have h := starts1_in n l b1 b2 m s (fun pre W' => J pre W' ∧ W'.cell? ⟨b1, 0, none⟩ = some (.int .i64 m) ∧ W'.cell? ⟨b2, 0, none⟩ = some (.int .i64 s)) Jx (fun _ _ h => h.2)
    (fun pre x W1 hj hl _ => (hY pre x W1 hj.1 hl).mono ?_) W ⟨h0, hc1', hc2'⟩
  · refine h.mono ?_
    rintro e W' ⟨hv, h | h⟩
    · obtain ⟨ys, h1, h2⟩ := h
      exact ⟨hv, .inl ⟨ys, h1, h2.1⟩⟩
    · exact ⟨hv, .inr h⟩
  · rintro e W' (⟨he, hj', hk⟩ | ⟨he, hj'⟩)
    · exact .inl ⟨he, hj', hk.1 _ hj.2.1, hk.2 _ hj.2.2⟩
    · exact .inr ⟨he, hj'⟩
theorem wide_call' {P : Program} {f : FuncId} {args : Array Value} {w : World} {R R' : Ending → World → Prop} {n : Nat} (h : Calls P f args w R) (hr : ∀ e w', R e w' → R' e w') :
    Fence.wide.fn f ∧ CallsIn Fence.wide n P f args w R' :=
  ⟨trivial, callsIn_wide.2 (h.mono hr)⟩
theorem keepC_put {b1 b2 : Nat} {w : World} (W : World) (l : Nat) (o o' : Obj) (_ : w.heap.size ≤ l) (h : W.heap[l]? = some o) (hc : o.isCells = false) (_ : o.isWalk = false) : KeepC b1 b2 W (W.putObj l o') := KeepC.put W l o o' h hc

theorem uptoI_snoc_inv {f x : Int} {pre : List Int} {k : Nat} (h : pre ++ [x] = uptoI f k) : x = f + 10 * (pre.length : Int) := by
  have hk : k = pre.length + 1 := by
    have := congrArg List.length h
    simp [uptoI_length] at this; omega
  subst hk
  rw [uptoI_succ] at h
  have := List.append_inj' h rfl
  simpa using this.2

theorem cell_new_l (W : World) (v : Value) (t : TypeId) : (W.alloc (.cells #[v] t)).cell? ⟨W.heap.size, 0, none⟩ = some v ∧ (W.alloc (.cells #[v] t)).frozen? ⟨W.heap.size, 0, none⟩ = false := by
  have h := World.alloc_heap_new W (.cells #[v] t)
  constructor
  · unfold World.cell?; rw [h]; rfl
  · unfold World.frozen?; rw [h]; rfl
theorem cell_far (w : World) (p a : Addr) (v : Value) (h : p.block ≠ a.block) : (w.setCell p v).cell? a = w.cell? a :=
  World.cell?_setCell_other (h := fun e => h (by rw [e])) ..
theorem cell_alloc_l {W : World} {a : Addr} {v : Value} (o : Obj) (h : W.cell? a = some v) : (W.alloc o).cell? a = some v := cell_kept h (World.grownBy_alloc W o none) (fun r e => by cases e)
theorem frozen_alloc_l {W : World} {a : Addr} {v : Value} (o : Obj) (h : W.cell? a = some v) (hf : W.frozen? a = false) : (W.alloc o).frozen? a = false := (frozen_kept h (World.grownBy_alloc W o none) (fun r e => by cases e)).trans hf
theorem func_nil (lb : Array Value) (w : World) : (binOp BinOp.eql 29 (.func (.func 44) #[] lb) .nilFunc).run Try.prog w = .ok (.bool false) w := by kernel_rfl
set_option maxRecDepth 100000 in
set_option maxHeartbeats 4000000 in
theorem wakes8 (w : World) :
    Calls Try.prog 25 #[] w fun e w' => e = .returned (.bool true) ∧ Below w.heap.size w w' := by
  refine (callsIn_wide (n := 5)).1 ?_
  refine callsIn_of_wp_marks Try.func25 rfl trivial ?_ rfl
  simp only [Try.ntmps25, List.size_toArray, List.length_cons, List.length_nil, Nat.reduceAdd, Nat.reduceSub, Array.replicate_succ, Array.replicate_zero, List.push_toArray, List.append_toArray, List.nil_append, List.cons_append]
  have hfn := func_nil
  gi_wp2_with (refine wide_call' (starts_any _ _ _) ?_; rintro e w' ⟨rfl, rfl⟩)
  have hL : startsL 36 14 = uptoI 0 3 := by decide
  have hF : firstI 14 = 0 := by decide
  have hC : cntN 36 14 = 3 := by decide
  have HL := Lib.hid hL
  have HF := Lib.hid hF
  have HC := Lib.hid hC
  clear hL hF hC
  have c0 := cell_new_l w (.bool false) 4
  have c1 := cell_new_l (w.alloc (.cells #[.bool false] 4)) (.int .i64 0) 3
  have hB0 : Below w.heap.size w (((((((w.alloc (.cells #[.bool false] 4)).alloc (.cells #[.int .i64 0] 3)).alloc (.cells #[.int .i64 36] 2)).alloc (.cells #[.int .i64 14] 2)).alloc (.cells #[.int .i64 36] 2)).alloc (.cells #[.int .i64 14] 2))) :=
    ((((((Below.refl _ w).alloc (Nat.le_refl _) _).alloc (by simp) _).alloc (by simp; omega) _).alloc (by simp; omega) _).alloc (by simp; omega) _).alloc (by simp; omega) _
  simp only [World.size_alloc] at c1
  have k0 := cell_alloc_l (.cells #[.int .i64 14] 2) (cell_alloc_l (.cells #[.int .i64 36] 2) (cell_alloc_l (.cells #[.int .i64 14] 2) (cell_alloc_l (.cells #[.int .i64 36] 2) (cell_alloc_l (.cells #[.int .i64 0] 3) c0.1))))
  have k1 := cell_alloc_l (.cells #[.int .i64 14] 2) (cell_alloc_l (.cells #[.int .i64 36] 2) (cell_alloc_l (.cells #[.int .i64 14] 2) (cell_alloc_l (.cells #[.int .i64 36] 2) c1.1)))
  have f0 := frozen_alloc_l (.cells #[.int .i64 14] 2) (cell_alloc_l (.cells #[.int .i64 36] 2) (cell_alloc_l (.cells #[.int .i64 14] 2) (cell_alloc_l (.cells #[.int .i64 36] 2) (cell_alloc_l (.cells #[.int .i64 0] 3) c0.1)))) (frozen_alloc_l _ (cell_alloc_l (.cells #[.int .i64 14] 2) (cell_alloc_l (.cells #[.int .i64 36] 2) (cell_alloc_l (.cells #[.int .i64 0] 3) c0.1))) (frozen_alloc_l _ (cell_alloc_l (.cells #[.int .i64 36] 2) (cell_alloc_l (.cells #[.int .i64 0] 3) c0.1)) (frozen_alloc_l _ (cell_alloc_l (.cells #[.int .i64 0] 3) c0.1) (frozen_alloc_l _ c0.1 c0.2))))
  have f1 := frozen_alloc_l (.cells #[.int .i64 14] 2) (cell_alloc_l (.cells #[.int .i64 36] 2) (cell_alloc_l (.cells #[.int .i64 14] 2) (cell_alloc_l (.cells #[.int .i64 36] 2) c1.1))) (frozen_alloc_l _ (cell_alloc_l (.cells #[.int .i64 14] 2) (cell_alloc_l (.cells #[.int .i64 36] 2) c1.1)) (frozen_alloc_l _ (cell_alloc_l (.cells #[.int .i64 36] 2) c1.1) (frozen_alloc_l _ c1.1 c1.2)))
  refine wpIn_rangeFunc_ownF rfl (by omega) (gf := 44) (lb := #[.pointer (some ⟨w.heap.size + 1 + 1 + 1 + 1, 0, none⟩), .pointer (some ⟨w.heap.size + 1 + 1 + 1 + 1 + 1, 0, none⟩)]) rfl trivial (enters_of Try.func44 (by kernel_rfl) rfl)
    (starts_stops 4 _ _ 36 14 _ (by simp) (by simp) ?ca ?cb) KeepC.trans keepC_put (Below.refl _ _) (fun _ => rfl)
    (fun pre W => ((pre = uptoI 0 pre.length ∧ pre.length ≤ 3) ∧ (W.cell? ⟨w.heap.size, 0, none⟩ = some (.bool false) ∧ W.frozen? ⟨w.heap.size, 0, none⟩ = false) ∧ (W.cell? ⟨w.heap.size + 1, 0, none⟩ = some (.int .i64 pre.length) ∧ W.frozen? ⟨w.heap.size + 1, 0, none⟩ = false)) ∧ Below w.heap.size w W)
    (fun c pre W => pre ≠ uptoI 0 pre.length)
    ?hI ?hIx ?h0
    (fun x => { tmps := #[.pointer (some ⟨w.heap.size, 0, none⟩), .pointer (some ⟨w.heap.size + 1, 0, none⟩), .int .i64 x, .func (.func 44) #[] #[.pointer (some ⟨w.heap.size + 1 + 1, 0, none⟩), .pointer (some ⟨w.heap.size + 1 + 1 + 1, 0, none⟩)], .bool false, .func (.func 44) #[] #[.pointer (some ⟨w.heap.size + 1 + 1 + 1 + 1, 0, none⟩), .pointer (some ⟨w.heap.size + 1 + 1 + 1 + 1 + 1, 0, none⟩)], .int .i64 x, undef, undef, undef, undef, undef, undef, undef, undef, undef, undef, undef, undef, undef, undef, undef, undef, undef, undef, undef, undef, undef, undef, undef, undef, undef, undef], defers := [] }) ?assign ?body ?done ?stop
  case ca => simpa using cell_alloc_l _ (cell_new_l (((((w.alloc (.cells #[.bool false] 4)).alloc (.cells #[.int .i64 0] 3)).alloc (.cells #[.int .i64 36] 2)).alloc (.cells #[.int .i64 14] 2))) (.int .i64 36) 2).1
  case cb => simpa using (cell_new_l ((((((w.alloc (.cells #[.bool false] 4)).alloc (.cells #[.int .i64 0] 3)).alloc (.cells #[.int .i64 36] 2)).alloc (.cells #[.int .i64 14] 2)).alloc (.cells #[.int .i64 36] 2))) (.int .i64 14) 2).1
  case hI =>
    exact OwnFrom.and (Own.from (fun s A B row hs hg hr => ⟨hs.1, ⟨cell_kept hs.2.1.1 hg hr, (frozen_kept hs.2.1.1 hg hr).trans hs.2.1.2⟩, ⟨cell_kept hs.2.2.1 hg hr, (frozen_kept hs.2.2.1 hg hr).trans hs.2.2.2⟩⟩) _) (ownFrom_below (Nat.le_refl _) (by simp; omega))
  case hIx => intro c s A B row hs hg hr; exact hs
  case h0 => exact ⟨⟨⟨by simp [uptoI], by simp⟩, ⟨k0, f0⟩, ⟨k1, f1⟩⟩, hB0⟩
  case assign =>
    intro l x W K hK
    gi_wp2
    exact hK
  case body =>
    rintro l pre x W ⟨⟨⟨hp, hp3⟩, ⟨hr, hrf⟩, ⟨hn, hnf⟩⟩, hB⟩ hlen
    have hk : (pre.length : Int) < 3 := by have := HC.out; omega
    have Hp := Lib.hid hp
    clear hp
    by_cases hx : x = 10 * (pre.length : Int)
    · subst hx
      gi_wp2
      refine ⟨KeepsOthers.setCell _ _ _, KeepC.of (cell_far _ _ _ _ (by simp)) (cell_far _ _ _ _ (by simp)), ⟨⟨?_, by simp; omega⟩, ⟨?_, ?_⟩, ?_, ?_⟩, hB.setCell (p := ⟨w.heap.size + 1, 0, none⟩) (by simp) _⟩
      · have := Hp.out
        rw [List.length_append, List.length_singleton, uptoI_succ, ← this]; simp
      · rw [cell_far _ _ _ _ (by simp)]; exact hr
      · rw [World.frozen?_setCell]; exact hrf
      · rw [World.cell?_setCell_same' _ _ _ (by rw [hn]; rfl)]; simp
      · rw [World.frozen?_setCell]; exact hnf
    · have hx' : (x != 10 * (pre.length : Int)) = true := by rw [bne_iff_ne]; exact hx
      gi_wp2
      refine ⟨KeepsOthers.setCell _ _ _, fun h => hx ?_⟩
      have := uptoI_snoc_inv h
      omega
  case done =>
    rintro D ys W hD hS ⟨⟨_, ⟨hr, hrf⟩, ⟨hn, hnf⟩⟩, hB⟩ hK
    have hys : ys.length = 3 := by rw [hS, HL.out]; rfl
    rw [hys] at hn
    clear hS hys
    have e1 : startI 9 = 0 := by decide
    have e2 : endI 10 = 20 := by decide
    have e3 : overB 0 15 = true := by decide
    have e4 : overB 0 14 = false := by decide
    have e5 : lateB 9 15 = true := by decide
    gi_wp2_with (first | (refine wide_call' (start_any _ _) ?_; rintro e w' ⟨rfl, rfl⟩) | (refine wide_call' (end_any _ _) ?_; rintro e w' ⟨rfl, rfl⟩) | (refine wide_call' (over_any _ _ _) ?_; rintro e w' ⟨rfl, rfl⟩) | (refine wide_call' (late_any _ _ _) ?_; rintro e w' ⟨rfl, rfl⟩))
    have hK' := (KeepsOthers.setCell W ⟨w.heap.size, 0, none⟩ (.bool true)).same D _ hK rfl
    refine ⟨by simp, .inl ⟨_, _, rfl, run_takeDeferred hK', ?_⟩⟩
    have hc5 := cell_kept (World.cell?_setCell_same' W ⟨w.heap.size, 0, none⟩ (.bool true) (by rw [hr]; rfl)) (grownBy_putObj' _ D (.deferred none)) (fun r e => by cases e; exact ⟨_, hK', rfl⟩)
    refine ⟨.bool true, ?_, rfl, (hB.setCell (p := ⟨w.heap.size, 0, none⟩) (by simp) _).trans (belowK_b (w := w) (Nat.le_refl _) _ D _ _ (by simp at hD; omega) hK' rfl rfl)⟩
    simp [results, Try.f25, go_sem, hc5]
  case stop =>
    rintro D c pre W hD ⟨k, hk, rfl⟩ h hK
    rw [HF.out] at h
    exact (h (by rw [uptoI_length])).elim
end Go.Proofs.Ytbkbekdeplolnaa
