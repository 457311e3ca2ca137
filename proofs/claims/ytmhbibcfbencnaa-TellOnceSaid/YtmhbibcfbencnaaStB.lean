/- Aggregates: Join, Put. -/
import Derived.Test.YtmhbibcfbencnaaStA
import Derived.Test.YtmhbibcfbencnaaSoup
import Derived.Deep.RegionHeld3
import Derived.Deep.Quiet
import Derived.Carry
namespace Go.Proofs.Ytmhbibcfbencnaa
open Go.RowKit Go.Lib
set_option linter.unusedSimpArgs false
set_option linter.unusedVariables false
/-- A region that draws its order, whose operations only read but for a tail: the world under a name. -/
theorem region_tail {P : Program} {id : Nat} {Q : Exit → Act → World → Prop} {a : Act} {w : World} {l : List Oper} (n : Nat) (hm : P.follows .mixedOrders = true) (hB : Region.lexTailB .any l.toArray n = true)
    (h : ∀ W2, W2 = w.drew → wpStill P l.toArray W2 (fun a' => wpList P l.toArray Q (l.drop n) a' W2) (l.take n) a) : (Code.region id l.toArray true).wp P Q a w :=
  wp_region_still_tail n hm hB (h _ rfl)
structure Ag where
  c : Int
  s : Int
  lo : Int
  hi : Int
  b0 : Int
  b1 : Int
  b2 : Int
  b3 : Int
  deriving DecidableEq
def Ag.cells (a : Ag) : Array Value := #[.int .i64 a.c, .int .i64 a.s, .int .i64 a.lo, .int .i64 a.hi, .int .i64 a.b0, .int .i64 a.b1, .int .i64 a.b2, .int .i64 a.b3]
def Ag.val (a : Ag) : Value := .agg #[.int .i64 a.c, .int .i64 a.s, .int .i64 a.lo, .int .i64 a.hi, .int .i64 a.b0, .int .i64 a.b1, .int .i64 a.b2, .int .i64 a.b3]
def Ag.zero : Ag := ⟨0, 0, 0, 0, 0, 0, 0, 0⟩
def Ag.join (a b : Ag) : Ag :=
  ⟨plusI a.c b.c, plusI a.s b.s,
   if a.c = 0 then (if b.c = 0 then 0 else b.lo) else if b.c = 0 then a.lo else if b.lo < a.lo then b.lo else a.lo,
   if a.c = 0 then (if b.c = 0 then 0 else b.hi) else if b.c = 0 then a.hi else if a.hi < b.hi then b.hi else a.hi,
   plusI a.b0 b.b0, plusI a.b1 b.b1, plusI a.b2 b.b2, plusI a.b3 b.b3⟩
/-- Block b holds an aggregate. -/
def Bx (W : World) (b : Nat) (x1 x2 x3 x4 x5 x6 x7 x8 : Int) : Prop := W.heap[b]? = some (.cells #[.int .i64 x1, .int .i64 x2, .int .i64 x3, .int .i64 x4, .int .i64 x5, .int .i64 x6, .int .i64 x7, .int .i64 x8] 31 (0, 0))
theorem Bx.facts {W : World} {b : Nat} {x1 x2 x3 x4 x5 x6 x7 x8 : Int} (h : Bx W b x1 x2 x3 x4 x5 x6 x7 x8) :
    W.cell? ⟨b, 0, none⟩ = some (.int .i64 x1) ∧ W.cell? ⟨b, 1, none⟩ = some (.int .i64 x2) ∧ W.cell? ⟨b, 2, none⟩ = some (.int .i64 x3) ∧ W.cell? ⟨b, 3, none⟩ = some (.int .i64 x4) ∧
    W.cell? ⟨b, 4, none⟩ = some (.int .i64 x5) ∧ W.cell? ⟨b, 5, none⟩ = some (.int .i64 x6) ∧ W.cell? ⟨b, 6, none⟩ = some (.int .i64 x7) ∧ W.cell? ⟨b, 7, none⟩ = some (.int .i64 x8) ∧ b < W.heap.size ∧ ∀ o, W.frozen? ⟨b, o, none⟩ = false := by
  have hl : b < W.heap.size := (Array.getElem?_eq_some_iff.1 h).1
  unfold Bx at h
  refine ⟨?_, ?_, ?_, ?_, ?_, ?_, ?_, ?_, hl, fun o => ?_⟩
  all_goals first | (unfold World.cell?; rw [h]; rfl) | (unfold World.frozen?; rw [h]; simp)
theorem Bx.below {W W' : World} {b : Nat} {x1 x2 x3 x4 x5 x6 x7 x8 : Int} (h : Bx W b x1 x2 x3 x4 x5 x6 x7 x8) (hk : Below W.heap.size W W') : Bx W' b x1 x2 x3 x4 x5 x6 x7 x8 := (hk.block b (Array.getElem?_eq_some_iff.1 h).1).trans h
theorem Bx.new (W : World) (x1 x2 x3 x4 x5 x6 x7 x8 : Int) : Bx (W.alloc (.cells #[.int .i64 x1, .int .i64 x2, .int .i64 x3, .int .i64 x4, .int .i64 x5, .int .i64 x6, .int .i64 x7, .int .i64 x8] 31)) W.heap.size x1 x2 x3 x4 x5 x6 x7 x8 := World.alloc_heap_new W _
theorem Bx.ne {W : World} {b q o : Nat} {v : Value} {x1 x2 x3 x4 x5 x6 x7 x8 : Int} (h : Bx W b x1 x2 x3 x4 x5 x6 x7 x8) (hq : q ≠ b) : Bx (W.setCell ⟨q, o, none⟩ v) b x1 x2 x3 x4 x5 x6 x7 x8 :=
  (Below.heap_setCell _ _ _ _ (fun e => hq e.symm)).trans h
theorem Bx.set0 {W : World} {b : Nat} {x1 x2 x3 x4 x5 x6 x7 x8 : Int} (h : Bx W b x1 x2 x3 x4 x5 x6 x7 x8) (v : Int) : Bx (W.setCell ⟨b, 0, none⟩ (.int .i64 v)) b v x2 x3 x4 x5 x6 x7 x8 := by
  unfold Bx at *
  simp [World.setCell, Array.getElem?_modify, h]
theorem Bx.set1 {W : World} {b : Nat} {x1 x2 x3 x4 x5 x6 x7 x8 : Int} (h : Bx W b x1 x2 x3 x4 x5 x6 x7 x8) (v : Int) : Bx (W.setCell ⟨b, 1, none⟩ (.int .i64 v)) b x1 v x3 x4 x5 x6 x7 x8 := by
  unfold Bx at *
  simp [World.setCell, Array.getElem?_modify, h]
theorem Bx.set2 {W : World} {b : Nat} {x1 x2 x3 x4 x5 x6 x7 x8 : Int} (h : Bx W b x1 x2 x3 x4 x5 x6 x7 x8) (v : Int) : Bx (W.setCell ⟨b, 2, none⟩ (.int .i64 v)) b x1 x2 v x4 x5 x6 x7 x8 := by
  unfold Bx at *
  simp [World.setCell, Array.getElem?_modify, h]
theorem Bx.set3 {W : World} {b : Nat} {x1 x2 x3 x4 x5 x6 x7 x8 : Int} (h : Bx W b x1 x2 x3 x4 x5 x6 x7 x8) (v : Int) : Bx (W.setCell ⟨b, 3, none⟩ (.int .i64 v)) b x1 x2 x3 v x5 x6 x7 x8 := by
  unfold Bx at *
  simp [World.setCell, Array.getElem?_modify, h]
theorem Bx.set4 {W : World} {b : Nat} {x1 x2 x3 x4 x5 x6 x7 x8 : Int} (h : Bx W b x1 x2 x3 x4 x5 x6 x7 x8) (v : Int) : Bx (W.setCell ⟨b, 4, none⟩ (.int .i64 v)) b x1 x2 x3 x4 v x6 x7 x8 := by
  unfold Bx at *
  simp [World.setCell, Array.getElem?_modify, h]
theorem Bx.set5 {W : World} {b : Nat} {x1 x2 x3 x4 x5 x6 x7 x8 : Int} (h : Bx W b x1 x2 x3 x4 x5 x6 x7 x8) (v : Int) : Bx (W.setCell ⟨b, 5, none⟩ (.int .i64 v)) b x1 x2 x3 x4 x5 v x7 x8 := by
  unfold Bx at *
  simp [World.setCell, Array.getElem?_modify, h]
theorem Bx.set6 {W : World} {b : Nat} {x1 x2 x3 x4 x5 x6 x7 x8 : Int} (h : Bx W b x1 x2 x3 x4 x5 x6 x7 x8) (v : Int) : Bx (W.setCell ⟨b, 6, none⟩ (.int .i64 v)) b x1 x2 x3 x4 x5 x6 v x8 := by
  unfold Bx at *
  simp [World.setCell, Array.getElem?_modify, h]
theorem Bx.set7 {W : World} {b : Nat} {x1 x2 x3 x4 x5 x6 x7 x8 : Int} (h : Bx W b x1 x2 x3 x4 x5 x6 x7 x8) (v : Int) : Bx (W.setCell ⟨b, 7, none⟩ (.int .i64 v)) b x1 x2 x3 x4 x5 x6 x7 v := by
  unfold Bx at *
  simp [World.setCell, Array.getElem?_modify, h]
theorem Bx.keep {W W' : World} {b : Nat} {x1 x2 x3 x4 x5 x6 x7 x8 : Int} (h : Bx W b x1 x2 x3 x4 x5 x6 x7 x8) {X : List Nat} (hk : Keep X W W') (hx : b ∉ X := by simp) : Bx W' b x1 x2 x3 x4 x5 x6 x7 x8 := (hk.block b (Array.getElem?_eq_some_iff.1 h).1 hx).trans h
/-- A new object of one row of cells. -/
def Spec.fresh (n : Nat) (o : Obj) : Spec := { p := fun _ v => ∃ g, v = .pointer (some ⟨g, 0, none⟩) ∧ n ≤ g, A := fun _ v w => ∃ g, v = .pointer (some ⟨g, 0, none⟩) ∧ n ≤ g ∧ w.heap[g]? = some o }
theorem Spec.fresh_ok (n : Nat) (o : Obj) : (Spec.fresh n o).ok := ⟨fun _ v w w' ⟨g, h1, h2, h3⟩ hk => ⟨g, h1, h2, (hk.block g (lt_of_heap h3) (by simp)).trans h3⟩, fun _ _ _ h => h, fun _ => trivial, fun _ => ⟨_, n, rfl, Nat.le_refl _⟩⟩
theorem bx3 (w : World) (a1 a2 a3 a4 a5 a6 a7 a8 b1 b2 b3 b4 b5 b6 b7 b8 : Int) : 
    Bx (((w.alloc (.cells #[.int .i64 a1, .int .i64 a2, .int .i64 a3, .int .i64 a4, .int .i64 a5, .int .i64 a6, .int .i64 a7, .int .i64 a8] 31)).alloc (.cells #[.int .i64 b1, .int .i64 b2, .int .i64 b3, .int .i64 b4, .int .i64 b5, .int .i64 b6, .int .i64 b7, .int .i64 b8] 31)).alloc (.cells #[.int .i64 0, .int .i64 0, .int .i64 0, .int .i64 0, .int .i64 0, .int .i64 0, .int .i64 0, .int .i64 0] 31)) w.heap.size a1 a2 a3 a4 a5 a6 a7 a8 ∧ Bx (((w.alloc (.cells #[.int .i64 a1, .int .i64 a2, .int .i64 a3, .int .i64 a4, .int .i64 a5, .int .i64 a6, .int .i64 a7, .int .i64 a8] 31)).alloc (.cells #[.int .i64 b1, .int .i64 b2, .int .i64 b3, .int .i64 b4, .int .i64 b5, .int .i64 b6, .int .i64 b7, .int .i64 b8] 31)).alloc (.cells #[.int .i64 0, .int .i64 0, .int .i64 0, .int .i64 0, .int .i64 0, .int .i64 0, .int .i64 0, .int .i64 0] 31)) (w.heap.size + 1) b1 b2 b3 b4 b5 b6 b7 b8 ∧ Bx (((w.alloc (.cells #[.int .i64 a1, .int .i64 a2, .int .i64 a3, .int .i64 a4, .int .i64 a5, .int .i64 a6, .int .i64 a7, .int .i64 a8] 31)).alloc (.cells #[.int .i64 b1, .int .i64 b2, .int .i64 b3, .int .i64 b4, .int .i64 b5, .int .i64 b6, .int .i64 b7, .int .i64 b8] 31)).alloc (.cells #[.int .i64 0, .int .i64 0, .int .i64 0, .int .i64 0, .int .i64 0, .int .i64 0, .int .i64 0, .int .i64 0] 31)) (w.heap.size + 1 + 1) 0 0 0 0 0 0 0 0 ∧ Below w.heap.size w (((w.alloc (.cells #[.int .i64 a1, .int .i64 a2, .int .i64 a3, .int .i64 a4, .int .i64 a5, .int .i64 a6, .int .i64 a7, .int .i64 a8] 31)).alloc (.cells #[.int .i64 b1, .int .i64 b2, .int .i64 b3, .int .i64 b4, .int .i64 b5, .int .i64 b6, .int .i64 b7, .int .i64 b8] 31)).alloc (.cells #[.int .i64 0, .int .i64 0, .int .i64 0, .int .i64 0, .int .i64 0, .int .i64 0, .int .i64 0, .int .i64 0] 31)) := by
  refine ⟨?_, ?_, ?_, ?_⟩
  · exact ((Bx.new w a1 a2 a3 a4 a5 a6 a7 a8).below ((Below.refl _ _).alloc (Nat.le_refl _) _)).below ((Below.refl _ _).alloc (Nat.le_refl _) _)
  · have := Bx.new (w.alloc (.cells #[.int .i64 a1, .int .i64 a2, .int .i64 a3, .int .i64 a4, .int .i64 a5, .int .i64 a6, .int .i64 a7, .int .i64 a8] 31)) b1 b2 b3 b4 b5 b6 b7 b8
    rw [World.size_alloc] at this
    exact this.below ((Below.refl _ _).alloc (Nat.le_refl _) _)
  · have := Bx.new ((w.alloc (.cells #[.int .i64 a1, .int .i64 a2, .int .i64 a3, .int .i64 a4, .int .i64 a5, .int .i64 a6, .int .i64 a7, .int .i64 a8] 31)).alloc (.cells #[.int .i64 b1, .int .i64 b2, .int .i64 b3, .int .i64 b4, .int .i64 b5, .int .i64 b6, .int .i64 b7, .int .i64 b8] 31)) 0 0 0 0 0 0 0 0
    simp only [World.size_alloc] at this
    exact this
  · exact (((Below.refl _ w).alloc (Nat.le_refl _) _).alloc (by simp) _).alloc (by simp; omega) _
set_option maxRecDepth 100000 in
set_option maxHeartbeats 16000000 in
theorem join_any (a b : Ag) (w : World) : Calls Try.prog 75 #[a.val, b.val] w fun e w' => e = .returned (a.join b).val ∧ Below w.heap.size w w' := by
  obtain ⟨r, hr⟩ : ∃ r, (a.join b).val = r := ⟨_, rfl⟩
  rw [hr]
  have HV := Lib.hid hr
  clear hr
  obtain ⟨a1, a2, a3, a4, a5, a6, a7, a8⟩ := a
  obtain ⟨b1, b2, b3, b4, b5, b6, b7, b8⟩ := b
  simp only [Ag.val]
  have H1 := bx3 w a1 a2 a3 a4 a5 a6 a7 a8 b1 b2 b3 b4 b5 b6 b7 b8
  go_enter Try.func75, Try.ntmps75
  go_wp2_with (fail)
  obtain ⟨W1, hW1⟩ : ∃ W1, ((w.alloc (.cells #[.int .i64 a1, .int .i64 a2, .int .i64 a3, .int .i64 a4, .int .i64 a5, .int .i64 a6, .int .i64 a7, .int .i64 a8] 31)).alloc (.cells #[.int .i64 b1, .int .i64 b2, .int .i64 b3, .int .i64 b4, .int .i64 b5, .int .i64 b6, .int .i64 b7, .int .i64 b8] 31)).alloc (.cells #[.int .i64 0, .int .i64 0, .int .i64 0, .int .i64 0, .int .i64 0, .int .i64 0, .int .i64 0, .int .i64 0] 31) = W1 := ⟨_, rfl⟩
  rw [hW1] at H1 ⊢
  obtain ⟨hA, hBB, hR, hW⟩ := H1
  have HA := Lib.hid hA
  have HB := Lib.hid hBB
  have HR := Lib.hid hR
  have hR0 := lt_of_heap hR
  have HW := Lib.hid hW
  clear hA hBB hR hW hW1
  refine wp_region_soup 22 [] (spOf [(4, Spec.is (.int .i64 (plusI a1 b1))), (9, Spec.is (.int .i64 (plusI a2 b2))), (21, Spec.fresh W1.heap.size (.cells #[.int .i64 0, .int .i64 0, .int .i64 0, .int .i64 0, .int .i64 0, .int .i64 0, .int .i64 0, .int .i64 0] 31))]) (by kernel_rfl) (by kernel_rfl) (spOk_of (by simp [Spec.is_ok, Spec.fresh_ok])) (pre_of (by simp [Spec.is_ok, Spec.fresh_ok])) ?_
  simp only [List.take_succ_cons, List.take_zero, List.drop_succ_cons, List.drop_zero]
  iterate 4
    refine soup_q rfl rfl ?_
    apply Exists.intro
    refine ⟨fun W hk _ => ?_, ?_⟩
    · obtain ⟨p0, p1, p2, p3, p4, p5, p6, p7, p8, _⟩ := (HA.out.keep hk).facts
      obtain ⟨q0, q1, q2, q3, q4, q5, q6, q7, q8, _⟩ := (HB.out.keep hk).facts
      unfold Oper.same
      go_simp
      first | rfl | exact ⟨rfl, rfl⟩
    apply Exists.intro
    refine ⟨?_, ?_⟩
    · go_simp
      rfl
  refine soup_s rfl rfl rfl (fun W hk _ _ => ?_) ?_
  · unfold Oper.does
    go_simp
    refine (plus_any _ _ _).mono ?_
    rintro e w' ⟨rfl, rfl⟩
    exact ⟨_, rfl, Keep.refl _ _, hk, rfl, trivial⟩
  intro v hv
  obtain rfl : v = _ := hv
  apply Exists.intro
  refine ⟨?_, ?_⟩
  · go_simp
    rfl
  iterate 4
    refine soup_q rfl rfl ?_
    apply Exists.intro
    refine ⟨fun W hk _ => ?_, ?_⟩
    · obtain ⟨p0, p1, p2, p3, p4, p5, p6, p7, p8, _⟩ := (HA.out.keep hk).facts
      obtain ⟨q0, q1, q2, q3, q4, q5, q6, q7, q8, _⟩ := (HB.out.keep hk).facts
      unfold Oper.same
      go_simp
      first | rfl | exact ⟨rfl, rfl⟩
    apply Exists.intro
    refine ⟨?_, ?_⟩
    · go_simp
      rfl
  refine soup_s rfl rfl rfl (fun W hk _ _ => ?_) ?_
  · unfold Oper.does
    go_simp
    refine (plus_any _ _ _).mono ?_
    rintro e w' ⟨rfl, rfl⟩
    exact ⟨_, rfl, Keep.refl _ _, hk, rfl, trivial⟩
  intro v hv
  obtain rfl : v = _ := hv
  apply Exists.intro
  refine ⟨?_, ?_⟩
  · go_simp
    rfl
  iterate 11
    refine soup_q rfl rfl ?_
    apply Exists.intro
    refine ⟨fun W hk _ => ?_, ?_⟩
    · obtain ⟨p0, p1, p2, p3, p4, p5, p6, p7, p8, _⟩ := (HA.out.keep hk).facts
      obtain ⟨q0, q1, q2, q3, q4, q5, q6, q7, q8, _⟩ := (HB.out.keep hk).facts
      unfold Oper.same
      go_simp
      first | rfl | exact ⟨rfl, rfl⟩
    apply Exists.intro
    refine ⟨?_, ?_⟩
    · go_simp
      rfl
  obtain ⟨mn, hmn⟩ : ∃ mn, (if b3 < a3 then b3 else a3) = mn := ⟨_, rfl⟩
  obtain ⟨mx, hmx⟩ : ∃ mx, (if a4 < b4 then b4 else a4) = mx := ⟨_, rfl⟩
  simp only [hmn, hmx]
  refine soup_s rfl rfl rfl (fun W hk _ _ => ?_) ?_
  · unfold Oper.does
    go_simp
    exact ⟨(Keep.refl _ _).alloc _, hk.alloc _, ⟨_, rfl, hk.size⟩, _, rfl, hk.size, World.alloc_heap_new W _⟩
  rintro v ⟨g, rfl, hg⟩
  apply Exists.intro
  refine ⟨?_, ?_⟩
  · go_simp
    rfl
  refine soup_nil (fun W2 hk hS => ?_)
  obtain ⟨g', hg1, _, hgz⟩ := hS 21
  obtain rfl : g = g' := by simpa using hg1
  clear hS hg1
  have HO : Hid (Bx W2 g 0 0 0 0 0 0 0 0) := Lib.hid hgz
  replace HA := Lib.hid (HA.out.keep hk)
  replace HB := Lib.hid (HB.out.keep hk)
  replace HR := Lib.hid (HR.out.keep hk)
  replace HW := Lib.hid (HW.out.trans (hk.below HW.out.size (by simp)))
  have hg2 : w.heap.size + 1 + 1 < g := Nat.lt_of_lt_of_le hR0 hg
  clear hgz hk hg hR0
  refine BigFrame.wpList_want rfl (fun K hK => ?_)
  obtain ⟨r0, r1, r2, r3, r4, r5, r6, r7, r8, rf⟩ := HO.out.facts
  go_simp
  refine hK _ _ ?_
  clear hK K r0 r1 r2 r3 r4 r5 r6 r7 r8 rf
  have hb8 := HO.out.set0 (plusI a1 b1) |>.set1 (plusI a2 b2) |>.set2 mn |>.set3 mx |>.set4 0 |>.set5 0 |>.set6 0 |>.set7 0
  have hk8 : Keep [g] W2 _ := (((((((((Keep.refl [g] W2).setCell g 0 (.int .i64 (plusI a1 b1)) (.inl (by simp))).setCell g 1 (.int .i64 (plusI a2 b2)) (.inl (by simp))).setCell g 2 (.int .i64 mn) (.inl (by simp))).setCell g 3 (.int .i64 mx) (.inl (by simp))).setCell g 4 (.int .i64 0) (.inl (by simp))).setCell g 5 (.int .i64 0) (.inl (by simp))).setCell g 6 (.int .i64 0) (.inl (by simp))).setCell g 7 (.int .i64 0) (.inl (by simp)))
  generalize hW3 : World.setCell _ ⟨g, 7, none⟩ _ = W3 at hb8 hk8 ⊢
  clear hW3
  replace HA := Lib.hid (HA.out.keep hk8 (by simp; omega))
  replace HB := Lib.hid (HB.out.keep hk8 (by simp; omega))
  replace HR := Lib.hid (HR.out.keep hk8 (by simp; omega))
  replace HO := Lib.hid hb8
  replace HW := Lib.hid (HW.out.trans (hk8.below HW.out.size (by simp; omega)))
  have HMN := Lib.hid hmn
  have HMX := Lib.hid hmx
  clear hb8 hk8 hmn hmx
  obtain ⟨p0, p1, p2, p3, p4, p5, p6, p7, p8, _⟩ := HA.out.facts
  obtain ⟨q0, q1, q2, q3, q4, q5, q6, q7, q8, _⟩ := HB.out.facts
  by_cases ha : a1 = 0
  · by_cases hb : b1 = 0
    · have ha2 : (a1 == 0) = true := by simp [ha]
      have hb2 : (b1 == 0) = true := by simp [hb]
      replace HV : Hid ((Ag.val ⟨plusI a1 b1, plusI a2 b2, 0, 0, plusI a5 b5, plusI a6 b6, plusI a7 b7, plusI a8 b8⟩) = r) := Lib.hid (by rw [← HV.out]; simp [Ag.join, Ag.val, ha, hb, HMN.out, HMX.out])
      obtain ⟨r0, r1, r2, r3, r4, r5, r6, r7, r8, rf⟩ := HO.out.facts
      go_wp2_with (fail)
      clear p0 p1 p2 p3 p4 p5 p6 p7 p8 q0 q1 q2 q3 q4 q5 q6 q7 q8 ha hb ha2 hb2
      clear r0 r1 r2 r3 r4 r5 r6 r7 r8 rf
      have hb8 := HO.out.set2 0 |>.set3 0
      have hk8 : Keep [g] W3 _ := ((Keep.refl [g] W3).setCell g 2 (.int .i64 0) (.inl (by simp))).setCell g 3 (.int .i64 0) (.inl (by simp))
      generalize hW4 : World.setCell _ ⟨g, 3, none⟩ _ = W4 at hb8 hk8 ⊢
      clear hW4
      replace HA := Lib.hid (HA.out.keep hk8 (by simp; omega))
      replace HB := Lib.hid (HB.out.keep hk8 (by simp; omega))
      replace HR := Lib.hid (HR.out.keep hk8 (by simp; omega))
      replace HO := Lib.hid hb8
      replace HW := Lib.hid (HW.out.trans (hk8.below HW.out.size (by simp; omega)))
      clear hb8 hk8
      refine wp_loop_rounds 5 ?_
      rw [rounds_succ]
      go_wp2_with (fail)
      refine wp_region_soup 12 [] (spOf [(9, Spec.is (.int .i64 (plusI a5 b5)))]) (by kernel_rfl) (by kernel_rfl) (spOk_of (by simp [Spec.is_ok])) (pre_of (by simp [Spec.is_ok])) ?_
      simp only [List.take_succ_cons, List.take_zero, List.drop_succ_cons, List.drop_zero]
      iterate 9
        refine soup_q rfl rfl ?_
        apply Exists.intro
        refine ⟨fun W hk _ => ?_, ?_⟩
        · obtain ⟨p0, p1, p2, p3, p4, p5, p6, p7, p8, _⟩ := (HA.out.keep hk).facts
          obtain ⟨q0, q1, q2, q3, q4, q5, q6, q7, q8, _⟩ := (HB.out.keep hk).facts
          unfold Oper.same
          go_simp
          first | rfl | exact ⟨rfl, rfl⟩
        apply Exists.intro
        refine ⟨?_, ?_⟩
        · go_simp
          rfl
      refine soup_s rfl rfl rfl (fun W hk _ _ => ?_) ?_
      · unfold Oper.does
        go_simp
        refine (plus_any _ _ _).mono ?_
        rintro e w' ⟨rfl, rfl⟩
        exact ⟨_, rfl, Keep.refl _ _, hk, rfl, trivial⟩
      intro v hv
      obtain rfl : v = _ := hv
      apply Exists.intro
      refine ⟨?_, ?_⟩
      · go_simp
        rfl
      iterate 2
        refine soup_q rfl rfl ?_
        apply Exists.intro
        refine ⟨fun W hk _ => ?_, ?_⟩
        · obtain ⟨p0, p1, p2, p3, p4, p5, p6, p7, p8, _⟩ := (HA.out.keep hk).facts
          obtain ⟨q0, q1, q2, q3, q4, q5, q6, q7, q8, _⟩ := (HB.out.keep hk).facts
          unfold Oper.same
          go_simp
          first | rfl | exact ⟨rfl, rfl⟩
        apply Exists.intro
        refine ⟨?_, ?_⟩
        · go_simp
          rfl
      refine soup_nil (fun W20 hk hS => ?_)
      clear hS
      replace HA := Lib.hid (HA.out.keep hk)
      replace HB := Lib.hid (HB.out.keep hk)
      replace HR := Lib.hid (HR.out.keep hk)
      replace HO := Lib.hid (HO.out.keep hk)
      replace HW := Lib.hid (HW.out.trans (hk.below HW.out.size (by simp)))
      clear hk
      refine BigFrame.wpList_want rfl (fun K hK => ?_)
      obtain ⟨r0, r1, r2, r3, r4, r5, r6, r7, r8, rf⟩ := HO.out.facts
      go_simp
      refine hK _ _ ?_
      clear hK K r0 r1 r2 r3 r4 r5 r6 r7 r8 rf
      obtain ⟨W21, hW21⟩ : ∃ W', W20.setCell ⟨g, 4, none⟩ (.int .i64 (plusI a5 b5)) = W' := ⟨_, rfl⟩
      rw [hW21]
      replace HA := Lib.hid (hW21 ▸ HA.out.ne (by omega))
      replace HB := Lib.hid (hW21 ▸ HB.out.ne (by omega))
      replace HR := Lib.hid (hW21 ▸ HR.out.ne (by omega))
      replace HO := Lib.hid (hW21 ▸ HO.out.set4 (plusI a5 b5))
      replace HW := Lib.hid (hW21 ▸ HW.out.setCell (by simp only; omega) (.int .i64 (plusI a5 b5)))
      clear hW21
      go_wp2_with (fail)
      rw [rounds_succ]
      go_wp2_with (fail)
      refine wp_region_soup 12 [] (spOf [(9, Spec.is (.int .i64 (plusI a6 b6)))]) (by kernel_rfl) (by kernel_rfl) (spOk_of (by simp [Spec.is_ok])) (pre_of (by simp [Spec.is_ok])) ?_
      simp only [List.take_succ_cons, List.take_zero, List.drop_succ_cons, List.drop_zero]
      iterate 9
        refine soup_q rfl rfl ?_
        apply Exists.intro
        refine ⟨fun W hk _ => ?_, ?_⟩
        · obtain ⟨p0, p1, p2, p3, p4, p5, p6, p7, p8, _⟩ := (HA.out.keep hk).facts
          obtain ⟨q0, q1, q2, q3, q4, q5, q6, q7, q8, _⟩ := (HB.out.keep hk).facts
          unfold Oper.same
          go_simp
          first | rfl | exact ⟨rfl, rfl⟩
        apply Exists.intro
        refine ⟨?_, ?_⟩
        · go_simp
          rfl
      refine soup_s rfl rfl rfl (fun W hk _ _ => ?_) ?_
      · unfold Oper.does
        go_simp
        refine (plus_any _ _ _).mono ?_
        rintro e w' ⟨rfl, rfl⟩
        exact ⟨_, rfl, Keep.refl _ _, hk, rfl, trivial⟩
      intro v hv
      obtain rfl : v = _ := hv
      apply Exists.intro
      refine ⟨?_, ?_⟩
      · go_simp
        rfl
      iterate 2
        refine soup_q rfl rfl ?_
        apply Exists.intro
        refine ⟨fun W hk _ => ?_, ?_⟩
        · obtain ⟨p0, p1, p2, p3, p4, p5, p6, p7, p8, _⟩ := (HA.out.keep hk).facts
          obtain ⟨q0, q1, q2, q3, q4, q5, q6, q7, q8, _⟩ := (HB.out.keep hk).facts
          unfold Oper.same
          go_simp
          first | rfl | exact ⟨rfl, rfl⟩
        apply Exists.intro
        refine ⟨?_, ?_⟩
        · go_simp
          rfl
      refine soup_nil (fun W22 hk hS => ?_)
      clear hS
      replace HA := Lib.hid (HA.out.keep hk)
      replace HB := Lib.hid (HB.out.keep hk)
      replace HR := Lib.hid (HR.out.keep hk)
      replace HO := Lib.hid (HO.out.keep hk)
      replace HW := Lib.hid (HW.out.trans (hk.below HW.out.size (by simp)))
      clear hk
      refine BigFrame.wpList_want rfl (fun K hK => ?_)
      obtain ⟨r0, r1, r2, r3, r4, r5, r6, r7, r8, rf⟩ := HO.out.facts
      go_simp
      refine hK _ _ ?_
      clear hK K r0 r1 r2 r3 r4 r5 r6 r7 r8 rf
      obtain ⟨W23, hW23⟩ : ∃ W', W22.setCell ⟨g, 5, none⟩ (.int .i64 (plusI a6 b6)) = W' := ⟨_, rfl⟩
      rw [hW23]
      replace HA := Lib.hid (hW23 ▸ HA.out.ne (by omega))
      replace HB := Lib.hid (hW23 ▸ HB.out.ne (by omega))
      replace HR := Lib.hid (hW23 ▸ HR.out.ne (by omega))
      replace HO := Lib.hid (hW23 ▸ HO.out.set5 (plusI a6 b6))
      replace HW := Lib.hid (hW23 ▸ HW.out.setCell (by simp only; omega) (.int .i64 (plusI a6 b6)))
      clear hW23
      go_wp2_with (fail)
      rw [rounds_succ]
      go_wp2_with (fail)
      refine wp_region_soup 12 [] (spOf [(9, Spec.is (.int .i64 (plusI a7 b7)))]) (by kernel_rfl) (by kernel_rfl) (spOk_of (by simp [Spec.is_ok])) (pre_of (by simp [Spec.is_ok])) ?_
      simp only [List.take_succ_cons, List.take_zero, List.drop_succ_cons, List.drop_zero]
      iterate 9
        refine soup_q rfl rfl ?_
        apply Exists.intro
        refine ⟨fun W hk _ => ?_, ?_⟩
        · obtain ⟨p0, p1, p2, p3, p4, p5, p6, p7, p8, _⟩ := (HA.out.keep hk).facts
          obtain ⟨q0, q1, q2, q3, q4, q5, q6, q7, q8, _⟩ := (HB.out.keep hk).facts
          unfold Oper.same
          go_simp
          first | rfl | exact ⟨rfl, rfl⟩
        apply Exists.intro
        refine ⟨?_, ?_⟩
        · go_simp
          rfl
      refine soup_s rfl rfl rfl (fun W hk _ _ => ?_) ?_
      · unfold Oper.does
        go_simp
        refine (plus_any _ _ _).mono ?_
        rintro e w' ⟨rfl, rfl⟩
        exact ⟨_, rfl, Keep.refl _ _, hk, rfl, trivial⟩
      intro v hv
      obtain rfl : v = _ := hv
      apply Exists.intro
      refine ⟨?_, ?_⟩
      · go_simp
        rfl
      iterate 2
        refine soup_q rfl rfl ?_
        apply Exists.intro
        refine ⟨fun W hk _ => ?_, ?_⟩
        · obtain ⟨p0, p1, p2, p3, p4, p5, p6, p7, p8, _⟩ := (HA.out.keep hk).facts
          obtain ⟨q0, q1, q2, q3, q4, q5, q6, q7, q8, _⟩ := (HB.out.keep hk).facts
          unfold Oper.same
          go_simp
          first | rfl | exact ⟨rfl, rfl⟩
        apply Exists.intro
        refine ⟨?_, ?_⟩
        · go_simp
          rfl
      refine soup_nil (fun W24 hk hS => ?_)
      clear hS
      replace HA := Lib.hid (HA.out.keep hk)
      replace HB := Lib.hid (HB.out.keep hk)
      replace HR := Lib.hid (HR.out.keep hk)
      replace HO := Lib.hid (HO.out.keep hk)
      replace HW := Lib.hid (HW.out.trans (hk.below HW.out.size (by simp)))
      clear hk
      refine BigFrame.wpList_want rfl (fun K hK => ?_)
      obtain ⟨r0, r1, r2, r3, r4, r5, r6, r7, r8, rf⟩ := HO.out.facts
      go_simp
      refine hK _ _ ?_
      clear hK K r0 r1 r2 r3 r4 r5 r6 r7 r8 rf
      obtain ⟨W25, hW25⟩ : ∃ W', W24.setCell ⟨g, 6, none⟩ (.int .i64 (plusI a7 b7)) = W' := ⟨_, rfl⟩
      rw [hW25]
      replace HA := Lib.hid (hW25 ▸ HA.out.ne (by omega))
      replace HB := Lib.hid (hW25 ▸ HB.out.ne (by omega))
      replace HR := Lib.hid (hW25 ▸ HR.out.ne (by omega))
      replace HO := Lib.hid (hW25 ▸ HO.out.set6 (plusI a7 b7))
      replace HW := Lib.hid (hW25 ▸ HW.out.setCell (by simp only; omega) (.int .i64 (plusI a7 b7)))
      clear hW25
      go_wp2_with (fail)
      rw [rounds_succ]
      go_wp2_with (fail)
      refine wp_region_soup 12 [] (spOf [(9, Spec.is (.int .i64 (plusI a8 b8)))]) (by kernel_rfl) (by kernel_rfl) (spOk_of (by simp [Spec.is_ok])) (pre_of (by simp [Spec.is_ok])) ?_
      simp only [List.take_succ_cons, List.take_zero, List.drop_succ_cons, List.drop_zero]
      iterate 9
        refine soup_q rfl rfl ?_
        apply Exists.intro
        refine ⟨fun W hk _ => ?_, ?_⟩
        · obtain ⟨p0, p1, p2, p3, p4, p5, p6, p7, p8, _⟩ := (HA.out.keep hk).facts
          obtain ⟨q0, q1, q2, q3, q4, q5, q6, q7, q8, _⟩ := (HB.out.keep hk).facts
          unfold Oper.same
          go_simp
          first | rfl | exact ⟨rfl, rfl⟩
        apply Exists.intro
        refine ⟨?_, ?_⟩
        · go_simp
          rfl
      refine soup_s rfl rfl rfl (fun W hk _ _ => ?_) ?_
      · unfold Oper.does
        go_simp
        refine (plus_any _ _ _).mono ?_
        rintro e w' ⟨rfl, rfl⟩
        exact ⟨_, rfl, Keep.refl _ _, hk, rfl, trivial⟩
      intro v hv
      obtain rfl : v = _ := hv
      apply Exists.intro
      refine ⟨?_, ?_⟩
      · go_simp
        rfl
      iterate 2
        refine soup_q rfl rfl ?_
        apply Exists.intro
        refine ⟨fun W hk _ => ?_, ?_⟩
        · obtain ⟨p0, p1, p2, p3, p4, p5, p6, p7, p8, _⟩ := (HA.out.keep hk).facts
          obtain ⟨q0, q1, q2, q3, q4, q5, q6, q7, q8, _⟩ := (HB.out.keep hk).facts
          unfold Oper.same
          go_simp
          first | rfl | exact ⟨rfl, rfl⟩
        apply Exists.intro
        refine ⟨?_, ?_⟩
        · go_simp
          rfl
      refine soup_nil (fun W26 hk hS => ?_)
      clear hS
      replace HA := Lib.hid (HA.out.keep hk)
      replace HB := Lib.hid (HB.out.keep hk)
      replace HR := Lib.hid (HR.out.keep hk)
      replace HO := Lib.hid (HO.out.keep hk)
      replace HW := Lib.hid (HW.out.trans (hk.below HW.out.size (by simp)))
      clear hk
      refine BigFrame.wpList_want rfl (fun K hK => ?_)
      obtain ⟨r0, r1, r2, r3, r4, r5, r6, r7, r8, rf⟩ := HO.out.facts
      go_simp
      refine hK _ _ ?_
      clear hK K r0 r1 r2 r3 r4 r5 r6 r7 r8 rf
      obtain ⟨W27, hW27⟩ : ∃ W', W26.setCell ⟨g, 7, none⟩ (.int .i64 (plusI a8 b8)) = W' := ⟨_, rfl⟩
      rw [hW27]
      replace HA := Lib.hid (hW27 ▸ HA.out.ne (by omega))
      replace HB := Lib.hid (hW27 ▸ HB.out.ne (by omega))
      replace HR := Lib.hid (hW27 ▸ HR.out.ne (by omega))
      replace HO := Lib.hid (hW27 ▸ HO.out.set7 (plusI a8 b8))
      replace HW := Lib.hid (hW27 ▸ HW.out.setCell (by simp only; omega) (.int .i64 (plusI a8 b8)))
      clear hW27
      go_wp2_with (fail)
      rw [rounds_succ]
      obtain ⟨r0, r1, r2, r3, r4, r5, r6, r7, r8, rf⟩ := HO.out.facts
      obtain ⟨z0, z1, z2, z3, z4, z5, z6, z7, z8, zf⟩ := HR.out.facts
      go_wp2_with (fail)
      clear r0 r1 r2 r3 r4 r5 r6 r7 r8 rf z0 z1 z2 z3 z4 z5 z6 z7 z8 zf
      have hb8 := HR.out |>.set0 (plusI a1 b1) |>.set1 (plusI a2 b2) |>.set2 0 |>.set3 0 |>.set4 (plusI a5 b5) |>.set5 (plusI a6 b6) |>.set6 (plusI a7 b7) |>.set7 (plusI a8 b8)
      have hk8 : Keep [w.heap.size + 1 + 1] W27 _ := (((((((((Keep.refl [w.heap.size + 1 + 1] W27).setCell (w.heap.size + 1 + 1) 0 (.int .i64 (plusI a1 b1)) (.inl (by simp))).setCell (w.heap.size + 1 + 1) 1 (.int .i64 (plusI a2 b2)) (.inl (by simp))).setCell (w.heap.size + 1 + 1) 2 (.int .i64 0) (.inl (by simp))).setCell (w.heap.size + 1 + 1) 3 (.int .i64 0) (.inl (by simp))).setCell (w.heap.size + 1 + 1) 4 (.int .i64 (plusI a5 b5)) (.inl (by simp))).setCell (w.heap.size + 1 + 1) 5 (.int .i64 (plusI a6 b6)) (.inl (by simp))).setCell (w.heap.size + 1 + 1) 6 (.int .i64 (plusI a7 b7)) (.inl (by simp))).setCell (w.heap.size + 1 + 1) 7 (.int .i64 (plusI a8 b8)) (.inl (by simp)))
      generalize hW8 : World.setCell _ ⟨w.heap.size + 1 + 1, 7, none⟩ _ = W8 at hb8 hk8 ⊢
      clear hW8
      replace HW := Lib.hid (HW.out.trans (hk8.below HW.out.size (by simp; omega)))
      clear hk8 HA HB HR HO
      obtain ⟨z0, z1, z2, z3, z4, z5, z6, z7, z8, zf⟩ := hb8.facts
      clear hb8
      rw [← HV.out]
      exact bodyPost_ret (v := Ag.val ⟨(plusI a1 b1), (plusI a2 b2), 0, 0, (plusI a5 b5), (plusI a6 b6), (plusI a7 b7), (plusI a8 b8)⟩) (by simp [results, Try.results75, go_sem, z0, z1, z2, z3, z4, z5, z6, z7, z8, Ag.val]) rfl ⟨rfl, HW.out⟩
    · have ha2 : (a1 == 0) = true := by simp [ha]
      have hb2 : (b1 == 0) = false := by simp [hb]
      replace HV : Hid ((Ag.val ⟨plusI a1 b1, plusI a2 b2, b3, b4, plusI a5 b5, plusI a6 b6, plusI a7 b7, plusI a8 b8⟩) = r) := Lib.hid (by rw [← HV.out]; simp [Ag.join, Ag.val, ha, hb, HMN.out, HMX.out])
      go_wp2_with (fail)
      clear p0 p1 p2 p3 p4 p5 p6 p7 p8 q0 q1 q2 q3 q4 q5 q6 q7 q8 ha hb ha2 hb2
      refine wp_region_soup 6 [g] (spOf [(5, { p := fun _ v => v = undef, A := fun _ _ W => Bx W g (plusI a1 b1) (plusI a2 b2) b3 mx 0 0 0 0, B := fun W => Bx W g (plusI a1 b1) (plusI a2 b2) mn mx 0 0 0 0, G := fun _ => Keep [g] })]) (by kernel_rfl) (by kernel_rfl) (spOk_one fun _ => ⟨_, rfl⟩) (fun i s hs => by have h := spOf_mem hs; simp at h; rw [h.2]; exact HO.out.keep ((Keep.refl [] _).drew)) ?_
      simp only [List.take_succ_cons, List.take_zero, List.drop_succ_cons, List.drop_zero]
      iterate 5
        refine soup_q rfl rfl ?_
        apply Exists.intro
        refine ⟨fun W hk _ => ?_, ?_⟩
        · obtain ⟨p0, p1, p2, p3, p4, p5, p6, p7, p8, _⟩ := (HA.out.keep hk (by simp; omega)).facts
          obtain ⟨q0, q1, q2, q3, q4, q5, q6, q7, q8, _⟩ := (HB.out.keep hk (by simp; omega)).facts
          unfold Oper.same
          go_simp
          first | rfl | exact ⟨rfl, rfl⟩
        apply Exists.intro
        refine ⟨?_, ?_⟩
        · go_simp
          rfl
      refine soup_s rfl rfl rfl (fun W hk hB _ => ?_) ?_
      · obtain ⟨r0, r1, r2, r3, r4, r5, r6, r7, r8, rf⟩ := Bx.facts hB
        unfold Oper.does
        go_simp
        exact ⟨(Keep.refl _ _).setCell g _ _ (.inl (by simp)), hk.setCell g _ _ (.inl (by simp)), Bx.set2 hB _⟩
      intro v hv
      obtain rfl : v = _ := hv
      apply Exists.intro
      refine ⟨?_, ?_⟩
      · go_simp
        rfl
      refine soup_nil (fun W8 hk hS => ?_)
      have hO : Bx W8 g (plusI a1 b1) (plusI a2 b2) b3 mx 0 0 0 0 := hS 5
      replace HA := Lib.hid (HA.out.keep hk (by simp; omega))
      replace HB := Lib.hid (HB.out.keep hk (by simp; omega))
      replace HR := Lib.hid (HR.out.keep hk (by simp; omega))
      replace HO := Lib.hid hO
      replace HW := Lib.hid (HW.out.trans (hk.below HW.out.size (by simp; omega)))
      clear hk hS hO
      refine BigFrame.wpList_want rfl (fun K hK => ?_)
      go_simp
      refine hK _ _ ?_
      clear hK K
      refine BigFrame.wpList_want rfl (fun K hK => ?_)
      obtain ⟨r0, r1, r2, r3, r4, r5, r6, r7, r8, rf⟩ := HO.out.facts
      go_simp
      refine hK _ _ ?_
      clear hK K r0 r1 r2 r3 r4 r5 r6 r7 r8 rf
      obtain ⟨W9, hW9⟩ : ∃ W', W8.setCell ⟨g, 3, none⟩ (.int .i64 b4) = W' := ⟨_, rfl⟩
      rw [hW9]
      replace HA := Lib.hid (hW9 ▸ HA.out.ne (by omega))
      replace HB := Lib.hid (hW9 ▸ HB.out.ne (by omega))
      replace HR := Lib.hid (hW9 ▸ HR.out.ne (by omega))
      replace HO := Lib.hid (hW9 ▸ HO.out.set3 b4)
      replace HW := Lib.hid (hW9 ▸ HW.out.setCell (by simp only; omega) (.int .i64 b4))
      clear hW9
      go_wp2_with (fail)
      refine wp_loop_rounds 5 ?_
      rw [rounds_succ]
      go_wp2_with (fail)
      refine wp_region_soup 12 [] (spOf [(9, Spec.is (.int .i64 (plusI a5 b5)))]) (by kernel_rfl) (by kernel_rfl) (spOk_of (by simp [Spec.is_ok])) (pre_of (by simp [Spec.is_ok])) ?_
      simp only [List.take_succ_cons, List.take_zero, List.drop_succ_cons, List.drop_zero]
      iterate 9
        refine soup_q rfl rfl ?_
        apply Exists.intro
        refine ⟨fun W hk _ => ?_, ?_⟩
        · obtain ⟨p0, p1, p2, p3, p4, p5, p6, p7, p8, _⟩ := (HA.out.keep hk).facts
          obtain ⟨q0, q1, q2, q3, q4, q5, q6, q7, q8, _⟩ := (HB.out.keep hk).facts
          unfold Oper.same
          go_simp
          first | rfl | exact ⟨rfl, rfl⟩
        apply Exists.intro
        refine ⟨?_, ?_⟩
        · go_simp
          rfl
      refine soup_s rfl rfl rfl (fun W hk _ _ => ?_) ?_
      · unfold Oper.does
        go_simp
        refine (plus_any _ _ _).mono ?_
        rintro e w' ⟨rfl, rfl⟩
        exact ⟨_, rfl, Keep.refl _ _, hk, rfl, trivial⟩
      intro v hv
      obtain rfl : v = _ := hv
      apply Exists.intro
      refine ⟨?_, ?_⟩
      · go_simp
        rfl
      iterate 2
        refine soup_q rfl rfl ?_
        apply Exists.intro
        refine ⟨fun W hk _ => ?_, ?_⟩
        · obtain ⟨p0, p1, p2, p3, p4, p5, p6, p7, p8, _⟩ := (HA.out.keep hk).facts
          obtain ⟨q0, q1, q2, q3, q4, q5, q6, q7, q8, _⟩ := (HB.out.keep hk).facts
          unfold Oper.same
          go_simp
          first | rfl | exact ⟨rfl, rfl⟩
        apply Exists.intro
        refine ⟨?_, ?_⟩
        · go_simp
          rfl
      refine soup_nil (fun W20 hk hS => ?_)
      clear hS
      replace HA := Lib.hid (HA.out.keep hk)
      replace HB := Lib.hid (HB.out.keep hk)
      replace HR := Lib.hid (HR.out.keep hk)
      replace HO := Lib.hid (HO.out.keep hk)
      replace HW := Lib.hid (HW.out.trans (hk.below HW.out.size (by simp)))
      clear hk
      refine BigFrame.wpList_want rfl (fun K hK => ?_)
      obtain ⟨r0, r1, r2, r3, r4, r5, r6, r7, r8, rf⟩ := HO.out.facts
      go_simp
      refine hK _ _ ?_
      clear hK K r0 r1 r2 r3 r4 r5 r6 r7 r8 rf
      obtain ⟨W21, hW21⟩ : ∃ W', W20.setCell ⟨g, 4, none⟩ (.int .i64 (plusI a5 b5)) = W' := ⟨_, rfl⟩
      rw [hW21]
      replace HA := Lib.hid (hW21 ▸ HA.out.ne (by omega))
      replace HB := Lib.hid (hW21 ▸ HB.out.ne (by omega))
      replace HR := Lib.hid (hW21 ▸ HR.out.ne (by omega))
      replace HO := Lib.hid (hW21 ▸ HO.out.set4 (plusI a5 b5))
      replace HW := Lib.hid (hW21 ▸ HW.out.setCell (by simp only; omega) (.int .i64 (plusI a5 b5)))
      clear hW21
      go_wp2_with (fail)
      rw [rounds_succ]
      go_wp2_with (fail)
      refine wp_region_soup 12 [] (spOf [(9, Spec.is (.int .i64 (plusI a6 b6)))]) (by kernel_rfl) (by kernel_rfl) (spOk_of (by simp [Spec.is_ok])) (pre_of (by simp [Spec.is_ok])) ?_
      simp only [List.take_succ_cons, List.take_zero, List.drop_succ_cons, List.drop_zero]
      iterate 9
        refine soup_q rfl rfl ?_
        apply Exists.intro
        refine ⟨fun W hk _ => ?_, ?_⟩
        · obtain ⟨p0, p1, p2, p3, p4, p5, p6, p7, p8, _⟩ := (HA.out.keep hk).facts
          obtain ⟨q0, q1, q2, q3, q4, q5, q6, q7, q8, _⟩ := (HB.out.keep hk).facts
          unfold Oper.same
          go_simp
          first | rfl | exact ⟨rfl, rfl⟩
        apply Exists.intro
        refine ⟨?_, ?_⟩
        · go_simp
          rfl
      refine soup_s rfl rfl rfl (fun W hk _ _ => ?_) ?_
      · unfold Oper.does
        go_simp
        refine (plus_any _ _ _).mono ?_
        rintro e w' ⟨rfl, rfl⟩
        exact ⟨_, rfl, Keep.refl _ _, hk, rfl, trivial⟩
      intro v hv
      obtain rfl : v = _ := hv
      apply Exists.intro
      refine ⟨?_, ?_⟩
      · go_simp
        rfl
      iterate 2
        refine soup_q rfl rfl ?_
        apply Exists.intro
        refine ⟨fun W hk _ => ?_, ?_⟩
        · obtain ⟨p0, p1, p2, p3, p4, p5, p6, p7, p8, _⟩ := (HA.out.keep hk).facts
          obtain ⟨q0, q1, q2, q3, q4, q5, q6, q7, q8, _⟩ := (HB.out.keep hk).facts
          unfold Oper.same
          go_simp
          first | rfl | exact ⟨rfl, rfl⟩
        apply Exists.intro
        refine ⟨?_, ?_⟩
        · go_simp
          rfl
      refine soup_nil (fun W22 hk hS => ?_)
      clear hS
      replace HA := Lib.hid (HA.out.keep hk)
      replace HB := Lib.hid (HB.out.keep hk)
      replace HR := Lib.hid (HR.out.keep hk)
      replace HO := Lib.hid (HO.out.keep hk)
      replace HW := Lib.hid (HW.out.trans (hk.below HW.out.size (by simp)))
      clear hk
      refine BigFrame.wpList_want rfl (fun K hK => ?_)
      obtain ⟨r0, r1, r2, r3, r4, r5, r6, r7, r8, rf⟩ := HO.out.facts
      go_simp
      refine hK _ _ ?_
      clear hK K r0 r1 r2 r3 r4 r5 r6 r7 r8 rf
      obtain ⟨W23, hW23⟩ : ∃ W', W22.setCell ⟨g, 5, none⟩ (.int .i64 (plusI a6 b6)) = W' := ⟨_, rfl⟩
      rw [hW23]
      replace HA := Lib.hid (hW23 ▸ HA.out.ne (by omega))
      replace HB := Lib.hid (hW23 ▸ HB.out.ne (by omega))
      replace HR := Lib.hid (hW23 ▸ HR.out.ne (by omega))
      replace HO := Lib.hid (hW23 ▸ HO.out.set5 (plusI a6 b6))
      replace HW := Lib.hid (hW23 ▸ HW.out.setCell (by simp only; omega) (.int .i64 (plusI a6 b6)))
      clear hW23
      go_wp2_with (fail)
      rw [rounds_succ]
      go_wp2_with (fail)
      refine wp_region_soup 12 [] (spOf [(9, Spec.is (.int .i64 (plusI a7 b7)))]) (by kernel_rfl) (by kernel_rfl) (spOk_of (by simp [Spec.is_ok])) (pre_of (by simp [Spec.is_ok])) ?_
      simp only [List.take_succ_cons, List.take_zero, List.drop_succ_cons, List.drop_zero]
      iterate 9
        refine soup_q rfl rfl ?_
        apply Exists.intro
        refine ⟨fun W hk _ => ?_, ?_⟩
        · obtain ⟨p0, p1, p2, p3, p4, p5, p6, p7, p8, _⟩ := (HA.out.keep hk).facts
          obtain ⟨q0, q1, q2, q3, q4, q5, q6, q7, q8, _⟩ := (HB.out.keep hk).facts
          unfold Oper.same
          go_simp
          first | rfl | exact ⟨rfl, rfl⟩
        apply Exists.intro
        refine ⟨?_, ?_⟩
        · go_simp
          rfl
      refine soup_s rfl rfl rfl (fun W hk _ _ => ?_) ?_
      · unfold Oper.does
        go_simp
        refine (plus_any _ _ _).mono ?_
        rintro e w' ⟨rfl, rfl⟩
        exact ⟨_, rfl, Keep.refl _ _, hk, rfl, trivial⟩
      intro v hv
      obtain rfl : v = _ := hv
      apply Exists.intro
      refine ⟨?_, ?_⟩
      · go_simp
        rfl
      iterate 2
        refine soup_q rfl rfl ?_
        apply Exists.intro
        refine ⟨fun W hk _ => ?_, ?_⟩
        · obtain ⟨p0, p1, p2, p3, p4, p5, p6, p7, p8, _⟩ := (HA.out.keep hk).facts
          obtain ⟨q0, q1, q2, q3, q4, q5, q6, q7, q8, _⟩ := (HB.out.keep hk).facts
          unfold Oper.same
          go_simp
          first | rfl | exact ⟨rfl, rfl⟩
        apply Exists.intro
        refine ⟨?_, ?_⟩
        · go_simp
          rfl
      refine soup_nil (fun W24 hk hS => ?_)
      clear hS
      replace HA := Lib.hid (HA.out.keep hk)
      replace HB := Lib.hid (HB.out.keep hk)
      replace HR := Lib.hid (HR.out.keep hk)
      replace HO := Lib.hid (HO.out.keep hk)
      replace HW := Lib.hid (HW.out.trans (hk.below HW.out.size (by simp)))
      clear hk
      refine BigFrame.wpList_want rfl (fun K hK => ?_)
      obtain ⟨r0, r1, r2, r3, r4, r5, r6, r7, r8, rf⟩ := HO.out.facts
      go_simp
      refine hK _ _ ?_
      clear hK K r0 r1 r2 r3 r4 r5 r6 r7 r8 rf
      obtain ⟨W25, hW25⟩ : ∃ W', W24.setCell ⟨g, 6, none⟩ (.int .i64 (plusI a7 b7)) = W' := ⟨_, rfl⟩
      rw [hW25]
      replace HA := Lib.hid (hW25 ▸ HA.out.ne (by omega))
      replace HB := Lib.hid (hW25 ▸ HB.out.ne (by omega))
      replace HR := Lib.hid (hW25 ▸ HR.out.ne (by omega))
      replace HO := Lib.hid (hW25 ▸ HO.out.set6 (plusI a7 b7))
      replace HW := Lib.hid (hW25 ▸ HW.out.setCell (by simp only; omega) (.int .i64 (plusI a7 b7)))
      clear hW25
      go_wp2_with (fail)
      rw [rounds_succ]
      go_wp2_with (fail)
      refine wp_region_soup 12 [] (spOf [(9, Spec.is (.int .i64 (plusI a8 b8)))]) (by kernel_rfl) (by kernel_rfl) (spOk_of (by simp [Spec.is_ok])) (pre_of (by simp [Spec.is_ok])) ?_
      simp only [List.take_succ_cons, List.take_zero, List.drop_succ_cons, List.drop_zero]
      iterate 9
        refine soup_q rfl rfl ?_
        apply Exists.intro
        refine ⟨fun W hk _ => ?_, ?_⟩
        · obtain ⟨p0, p1, p2, p3, p4, p5, p6, p7, p8, _⟩ := (HA.out.keep hk).facts
          obtain ⟨q0, q1, q2, q3, q4, q5, q6, q7, q8, _⟩ := (HB.out.keep hk).facts
          unfold Oper.same
          go_simp
          first | rfl | exact ⟨rfl, rfl⟩
        apply Exists.intro
        refine ⟨?_, ?_⟩
        · go_simp
          rfl
      refine soup_s rfl rfl rfl (fun W hk _ _ => ?_) ?_
      · unfold Oper.does
        go_simp
        refine (plus_any _ _ _).mono ?_
        rintro e w' ⟨rfl, rfl⟩
        exact ⟨_, rfl, Keep.refl _ _, hk, rfl, trivial⟩
      intro v hv
      obtain rfl : v = _ := hv
      apply Exists.intro
      refine ⟨?_, ?_⟩
      · go_simp
        rfl
      iterate 2
        refine soup_q rfl rfl ?_
        apply Exists.intro
        refine ⟨fun W hk _ => ?_, ?_⟩
        · obtain ⟨p0, p1, p2, p3, p4, p5, p6, p7, p8, _⟩ := (HA.out.keep hk).facts
          obtain ⟨q0, q1, q2, q3, q4, q5, q6, q7, q8, _⟩ := (HB.out.keep hk).facts
          unfold Oper.same
          go_simp
          first | rfl | exact ⟨rfl, rfl⟩
        apply Exists.intro
        refine ⟨?_, ?_⟩
        · go_simp
          rfl
      refine soup_nil (fun W26 hk hS => ?_)
      clear hS
      replace HA := Lib.hid (HA.out.keep hk)
      replace HB := Lib.hid (HB.out.keep hk)
      replace HR := Lib.hid (HR.out.keep hk)
      replace HO := Lib.hid (HO.out.keep hk)
      replace HW := Lib.hid (HW.out.trans (hk.below HW.out.size (by simp)))
      clear hk
      refine BigFrame.wpList_want rfl (fun K hK => ?_)
      obtain ⟨r0, r1, r2, r3, r4, r5, r6, r7, r8, rf⟩ := HO.out.facts
      go_simp
      refine hK _ _ ?_
      clear hK K r0 r1 r2 r3 r4 r5 r6 r7 r8 rf
      obtain ⟨W27, hW27⟩ : ∃ W', W26.setCell ⟨g, 7, none⟩ (.int .i64 (plusI a8 b8)) = W' := ⟨_, rfl⟩
      rw [hW27]
      replace HA := Lib.hid (hW27 ▸ HA.out.ne (by omega))
      replace HB := Lib.hid (hW27 ▸ HB.out.ne (by omega))
      replace HR := Lib.hid (hW27 ▸ HR.out.ne (by omega))
      replace HO := Lib.hid (hW27 ▸ HO.out.set7 (plusI a8 b8))
      replace HW := Lib.hid (hW27 ▸ HW.out.setCell (by simp only; omega) (.int .i64 (plusI a8 b8)))
      clear hW27
      go_wp2_with (fail)
      rw [rounds_succ]
      obtain ⟨r0, r1, r2, r3, r4, r5, r6, r7, r8, rf⟩ := HO.out.facts
      obtain ⟨z0, z1, z2, z3, z4, z5, z6, z7, z8, zf⟩ := HR.out.facts
      go_wp2_with (fail)
      clear r0 r1 r2 r3 r4 r5 r6 r7 r8 rf z0 z1 z2 z3 z4 z5 z6 z7 z8 zf
      have hb8 := HR.out |>.set0 (plusI a1 b1) |>.set1 (plusI a2 b2) |>.set2 b3 |>.set3 b4 |>.set4 (plusI a5 b5) |>.set5 (plusI a6 b6) |>.set6 (plusI a7 b7) |>.set7 (plusI a8 b8)
      have hk8 : Keep [w.heap.size + 1 + 1] W27 _ := (((((((((Keep.refl [w.heap.size + 1 + 1] W27).setCell (w.heap.size + 1 + 1) 0 (.int .i64 (plusI a1 b1)) (.inl (by simp))).setCell (w.heap.size + 1 + 1) 1 (.int .i64 (plusI a2 b2)) (.inl (by simp))).setCell (w.heap.size + 1 + 1) 2 (.int .i64 b3) (.inl (by simp))).setCell (w.heap.size + 1 + 1) 3 (.int .i64 b4) (.inl (by simp))).setCell (w.heap.size + 1 + 1) 4 (.int .i64 (plusI a5 b5)) (.inl (by simp))).setCell (w.heap.size + 1 + 1) 5 (.int .i64 (plusI a6 b6)) (.inl (by simp))).setCell (w.heap.size + 1 + 1) 6 (.int .i64 (plusI a7 b7)) (.inl (by simp))).setCell (w.heap.size + 1 + 1) 7 (.int .i64 (plusI a8 b8)) (.inl (by simp)))
      generalize hW8 : World.setCell _ ⟨w.heap.size + 1 + 1, 7, none⟩ _ = W8 at hb8 hk8 ⊢
      clear hW8
      replace HW := Lib.hid (HW.out.trans (hk8.below HW.out.size (by simp; omega)))
      clear hk8 HA HB HR HO
      obtain ⟨z0, z1, z2, z3, z4, z5, z6, z7, z8, zf⟩ := hb8.facts
      clear hb8
      rw [← HV.out]
      exact bodyPost_ret (v := Ag.val ⟨(plusI a1 b1), (plusI a2 b2), b3, b4, (plusI a5 b5), (plusI a6 b6), (plusI a7 b7), (plusI a8 b8)⟩) (by simp [results, Try.results75, go_sem, z0, z1, z2, z3, z4, z5, z6, z7, z8, Ag.val]) rfl ⟨rfl, HW.out⟩
  · by_cases hb : b1 = 0
    · have ha2 : (a1 == 0) = false := by simp [ha]
      have hb2 : (b1 == 0) = true := by simp [hb]
      replace HV : Hid ((Ag.val ⟨plusI a1 b1, plusI a2 b2, a3, a4, plusI a5 b5, plusI a6 b6, plusI a7 b7, plusI a8 b8⟩) = r) := Lib.hid (by rw [← HV.out]; simp [Ag.join, Ag.val, ha, hb, HMN.out, HMX.out])
      go_wp2_with (fail)
      clear p0 p1 p2 p3 p4 p5 p6 p7 p8 q0 q1 q2 q3 q4 q5 q6 q7 q8 ha hb ha2 hb2
      refine wp_region_soup 6 [g] (spOf [(5, { p := fun _ v => v = undef, A := fun _ _ W => Bx W g (plusI a1 b1) (plusI a2 b2) a3 mx 0 0 0 0, B := fun W => Bx W g (plusI a1 b1) (plusI a2 b2) mn mx 0 0 0 0, G := fun _ => Keep [g] })]) (by kernel_rfl) (by kernel_rfl) (spOk_one fun _ => ⟨_, rfl⟩) (fun i s hs => by have h := spOf_mem hs; simp at h; rw [h.2]; exact HO.out.keep ((Keep.refl [] _).drew)) ?_
      simp only [List.take_succ_cons, List.take_zero, List.drop_succ_cons, List.drop_zero]
      iterate 5
        refine soup_q rfl rfl ?_
        apply Exists.intro
        refine ⟨fun W hk _ => ?_, ?_⟩
        · obtain ⟨p0, p1, p2, p3, p4, p5, p6, p7, p8, _⟩ := (HA.out.keep hk (by simp; omega)).facts
          obtain ⟨q0, q1, q2, q3, q4, q5, q6, q7, q8, _⟩ := (HB.out.keep hk (by simp; omega)).facts
          unfold Oper.same
          go_simp
          first | rfl | exact ⟨rfl, rfl⟩
        apply Exists.intro
        refine ⟨?_, ?_⟩
        · go_simp
          rfl
      refine soup_s rfl rfl rfl (fun W hk hB _ => ?_) ?_
      · obtain ⟨r0, r1, r2, r3, r4, r5, r6, r7, r8, rf⟩ := Bx.facts hB
        unfold Oper.does
        go_simp
        exact ⟨(Keep.refl _ _).setCell g _ _ (.inl (by simp)), hk.setCell g _ _ (.inl (by simp)), Bx.set2 hB _⟩
      intro v hv
      obtain rfl : v = _ := hv
      apply Exists.intro
      refine ⟨?_, ?_⟩
      · go_simp
        rfl
      refine soup_nil (fun W8 hk hS => ?_)
      have hO : Bx W8 g (plusI a1 b1) (plusI a2 b2) a3 mx 0 0 0 0 := hS 5
      replace HA := Lib.hid (HA.out.keep hk (by simp; omega))
      replace HB := Lib.hid (HB.out.keep hk (by simp; omega))
      replace HR := Lib.hid (HR.out.keep hk (by simp; omega))
      replace HO := Lib.hid hO
      replace HW := Lib.hid (HW.out.trans (hk.below HW.out.size (by simp; omega)))
      clear hk hS hO
      refine BigFrame.wpList_want rfl (fun K hK => ?_)
      go_simp
      refine hK _ _ ?_
      clear hK K
      refine BigFrame.wpList_want rfl (fun K hK => ?_)
      obtain ⟨r0, r1, r2, r3, r4, r5, r6, r7, r8, rf⟩ := HO.out.facts
      go_simp
      refine hK _ _ ?_
      clear hK K r0 r1 r2 r3 r4 r5 r6 r7 r8 rf
      obtain ⟨W9, hW9⟩ : ∃ W', W8.setCell ⟨g, 3, none⟩ (.int .i64 a4) = W' := ⟨_, rfl⟩
      rw [hW9]
      replace HA := Lib.hid (hW9 ▸ HA.out.ne (by omega))
      replace HB := Lib.hid (hW9 ▸ HB.out.ne (by omega))
      replace HR := Lib.hid (hW9 ▸ HR.out.ne (by omega))
      replace HO := Lib.hid (hW9 ▸ HO.out.set3 a4)
      replace HW := Lib.hid (hW9 ▸ HW.out.setCell (by simp only; omega) (.int .i64 a4))
      clear hW9
      go_wp2_with (fail)
      refine wp_loop_rounds 5 ?_
      rw [rounds_succ]
      go_wp2_with (fail)
      refine wp_region_soup 12 [] (spOf [(9, Spec.is (.int .i64 (plusI a5 b5)))]) (by kernel_rfl) (by kernel_rfl) (spOk_of (by simp [Spec.is_ok])) (pre_of (by simp [Spec.is_ok])) ?_
      simp only [List.take_succ_cons, List.take_zero, List.drop_succ_cons, List.drop_zero]
      iterate 9
        refine soup_q rfl rfl ?_
        apply Exists.intro
        refine ⟨fun W hk _ => ?_, ?_⟩
        · obtain ⟨p0, p1, p2, p3, p4, p5, p6, p7, p8, _⟩ := (HA.out.keep hk).facts
          obtain ⟨q0, q1, q2, q3, q4, q5, q6, q7, q8, _⟩ := (HB.out.keep hk).facts
          unfold Oper.same
          go_simp
          first | rfl | exact ⟨rfl, rfl⟩
        apply Exists.intro
        refine ⟨?_, ?_⟩
        · go_simp
          rfl
      refine soup_s rfl rfl rfl (fun W hk _ _ => ?_) ?_
      · unfold Oper.does
        go_simp
        refine (plus_any _ _ _).mono ?_
        rintro e w' ⟨rfl, rfl⟩
        exact ⟨_, rfl, Keep.refl _ _, hk, rfl, trivial⟩
      intro v hv
      obtain rfl : v = _ := hv
      apply Exists.intro
      refine ⟨?_, ?_⟩
      · go_simp
        rfl
      iterate 2
        refine soup_q rfl rfl ?_
        apply Exists.intro
        refine ⟨fun W hk _ => ?_, ?_⟩
        · obtain ⟨p0, p1, p2, p3, p4, p5, p6, p7, p8, _⟩ := (HA.out.keep hk).facts
          obtain ⟨q0, q1, q2, q3, q4, q5, q6, q7, q8, _⟩ := (HB.out.keep hk).facts
          unfold Oper.same
          go_simp
          first | rfl | exact ⟨rfl, rfl⟩
        apply Exists.intro
        refine ⟨?_, ?_⟩
        · go_simp
          rfl
      refine soup_nil (fun W20 hk hS => ?_)
      clear hS
      replace HA := Lib.hid (HA.out.keep hk)
      replace HB := Lib.hid (HB.out.keep hk)
      replace HR := Lib.hid (HR.out.keep hk)
      replace HO := Lib.hid (HO.out.keep hk)
      replace HW := Lib.hid (HW.out.trans (hk.below HW.out.size (by simp)))
      clear hk
      refine BigFrame.wpList_want rfl (fun K hK => ?_)
      obtain ⟨r0, r1, r2, r3, r4, r5, r6, r7, r8, rf⟩ := HO.out.facts
      go_simp
      refine hK _ _ ?_
      clear hK K r0 r1 r2 r3 r4 r5 r6 r7 r8 rf
      obtain ⟨W21, hW21⟩ : ∃ W', W20.setCell ⟨g, 4, none⟩ (.int .i64 (plusI a5 b5)) = W' := ⟨_, rfl⟩
      rw [hW21]
      replace HA := Lib.hid (hW21 ▸ HA.out.ne (by omega))
      replace HB := Lib.hid (hW21 ▸ HB.out.ne (by omega))
      replace HR := Lib.hid (hW21 ▸ HR.out.ne (by omega))
      replace HO := Lib.hid (hW21 ▸ HO.out.set4 (plusI a5 b5))
      replace HW := Lib.hid (hW21 ▸ HW.out.setCell (by simp only; omega) (.int .i64 (plusI a5 b5)))
      clear hW21
      go_wp2_with (fail)
      rw [rounds_succ]
      go_wp2_with (fail)
      refine wp_region_soup 12 [] (spOf [(9, Spec.is (.int .i64 (plusI a6 b6)))]) (by kernel_rfl) (by kernel_rfl) (spOk_of (by simp [Spec.is_ok])) (pre_of (by simp [Spec.is_ok])) ?_
      simp only [List.take_succ_cons, List.take_zero, List.drop_succ_cons, List.drop_zero]
      iterate 9
        refine soup_q rfl rfl ?_
        apply Exists.intro
        refine ⟨fun W hk _ => ?_, ?_⟩
        · obtain ⟨p0, p1, p2, p3, p4, p5, p6, p7, p8, _⟩ := (HA.out.keep hk).facts
          obtain ⟨q0, q1, q2, q3, q4, q5, q6, q7, q8, _⟩ := (HB.out.keep hk).facts
          unfold Oper.same
          go_simp
          first | rfl | exact ⟨rfl, rfl⟩
        apply Exists.intro
        refine ⟨?_, ?_⟩
        · go_simp
          rfl
      refine soup_s rfl rfl rfl (fun W hk _ _ => ?_) ?_
      · unfold Oper.does
        go_simp
        refine (plus_any _ _ _).mono ?_
        rintro e w' ⟨rfl, rfl⟩
        exact ⟨_, rfl, Keep.refl _ _, hk, rfl, trivial⟩
      intro v hv
      obtain rfl : v = _ := hv
      apply Exists.intro
      refine ⟨?_, ?_⟩
      · go_simp
        rfl
      iterate 2
        refine soup_q rfl rfl ?_
        apply Exists.intro
        refine ⟨fun W hk _ => ?_, ?_⟩
        · obtain ⟨p0, p1, p2, p3, p4, p5, p6, p7, p8, _⟩ := (HA.out.keep hk).facts
          obtain ⟨q0, q1, q2, q3, q4, q5, q6, q7, q8, _⟩ := (HB.out.keep hk).facts
          unfold Oper.same
          go_simp
          first | rfl | exact ⟨rfl, rfl⟩
        apply Exists.intro
        refine ⟨?_, ?_⟩
        · go_simp
          rfl
      refine soup_nil (fun W22 hk hS => ?_)
      clear hS
      replace HA := Lib.hid (HA.out.keep hk)
      replace HB := Lib.hid (HB.out.keep hk)
      replace HR := Lib.hid (HR.out.keep hk)
      replace HO := Lib.hid (HO.out.keep hk)
      replace HW := Lib.hid (HW.out.trans (hk.below HW.out.size (by simp)))
      clear hk
      refine BigFrame.wpList_want rfl (fun K hK => ?_)
      obtain ⟨r0, r1, r2, r3, r4, r5, r6, r7, r8, rf⟩ := HO.out.facts
      go_simp
      refine hK _ _ ?_
      clear hK K r0 r1 r2 r3 r4 r5 r6 r7 r8 rf
      obtain ⟨W23, hW23⟩ : ∃ W', W22.setCell ⟨g, 5, none⟩ (.int .i64 (plusI a6 b6)) = W' := ⟨_, rfl⟩
      rw [hW23]
      replace HA := Lib.hid (hW23 ▸ HA.out.ne (by omega))
      replace HB := Lib.hid (hW23 ▸ HB.out.ne (by omega))
      replace HR := Lib.hid (hW23 ▸ HR.out.ne (by omega))
      replace HO := Lib.hid (hW23 ▸ HO.out.set5 (plusI a6 b6))
      replace HW := Lib.hid (hW23 ▸ HW.out.setCell (by simp only; omega) (.int .i64 (plusI a6 b6)))
      clear hW23
      go_wp2_with (fail)
      rw [rounds_succ]
      go_wp2_with (fail)
      refine wp_region_soup 12 [] (spOf [(9, Spec.is (.int .i64 (plusI a7 b7)))]) (by kernel_rfl) (by kernel_rfl) (spOk_of (by simp [Spec.is_ok])) (pre_of (by simp [Spec.is_ok])) ?_
      simp only [List.take_succ_cons, List.take_zero, List.drop_succ_cons, List.drop_zero]
      iterate 9
        refine soup_q rfl rfl ?_
        apply Exists.intro
        refine ⟨fun W hk _ => ?_, ?_⟩
        · obtain ⟨p0, p1, p2, p3, p4, p5, p6, p7, p8, _⟩ := (HA.out.keep hk).facts
          obtain ⟨q0, q1, q2, q3, q4, q5, q6, q7, q8, _⟩ := (HB.out.keep hk).facts
          unfold Oper.same
          go_simp
          first | rfl | exact ⟨rfl, rfl⟩
        apply Exists.intro
        refine ⟨?_, ?_⟩
        · go_simp
          rfl
      refine soup_s rfl rfl rfl (fun W hk _ _ => ?_) ?_
      · unfold Oper.does
        go_simp
        refine (plus_any _ _ _).mono ?_
        rintro e w' ⟨rfl, rfl⟩
        exact ⟨_, rfl, Keep.refl _ _, hk, rfl, trivial⟩
      intro v hv
      obtain rfl : v = _ := hv
      apply Exists.intro
      refine ⟨?_, ?_⟩
      · go_simp
        rfl
      iterate 2
        refine soup_q rfl rfl ?_
        apply Exists.intro
        refine ⟨fun W hk _ => ?_, ?_⟩
        · obtain ⟨p0, p1, p2, p3, p4, p5, p6, p7, p8, _⟩ := (HA.out.keep hk).facts
          obtain ⟨q0, q1, q2, q3, q4, q5, q6, q7, q8, _⟩ := (HB.out.keep hk).facts
          unfold Oper.same
          go_simp
          first | rfl | exact ⟨rfl, rfl⟩
        apply Exists.intro
        refine ⟨?_, ?_⟩
        · go_simp
          rfl
      refine soup_nil (fun W24 hk hS => ?_)
      clear hS
      replace HA := Lib.hid (HA.out.keep hk)
      replace HB := Lib.hid (HB.out.keep hk)
      replace HR := Lib.hid (HR.out.keep hk)
      replace HO := Lib.hid (HO.out.keep hk)
      replace HW := Lib.hid (HW.out.trans (hk.below HW.out.size (by simp)))
      clear hk
      refine BigFrame.wpList_want rfl (fun K hK => ?_)
      obtain ⟨r0, r1, r2, r3, r4, r5, r6, r7, r8, rf⟩ := HO.out.facts
      go_simp
      refine hK _ _ ?_
      clear hK K r0 r1 r2 r3 r4 r5 r6 r7 r8 rf
      obtain ⟨W25, hW25⟩ : ∃ W', W24.setCell ⟨g, 6, none⟩ (.int .i64 (plusI a7 b7)) = W' := ⟨_, rfl⟩
      rw [hW25]
      replace HA := Lib.hid (hW25 ▸ HA.out.ne (by omega))
      replace HB := Lib.hid (hW25 ▸ HB.out.ne (by omega))
      replace HR := Lib.hid (hW25 ▸ HR.out.ne (by omega))
      replace HO := Lib.hid (hW25 ▸ HO.out.set6 (plusI a7 b7))
      replace HW := Lib.hid (hW25 ▸ HW.out.setCell (by simp only; omega) (.int .i64 (plusI a7 b7)))
      clear hW25
      go_wp2_with (fail)
      rw [rounds_succ]
      go_wp2_with (fail)
      refine wp_region_soup 12 [] (spOf [(9, Spec.is (.int .i64 (plusI a8 b8)))]) (by kernel_rfl) (by kernel_rfl) (spOk_of (by simp [Spec.is_ok])) (pre_of (by simp [Spec.is_ok])) ?_
      simp only [List.take_succ_cons, List.take_zero, List.drop_succ_cons, List.drop_zero]
      iterate 9
        refine soup_q rfl rfl ?_
        apply Exists.intro
        refine ⟨fun W hk _ => ?_, ?_⟩
        · obtain ⟨p0, p1, p2, p3, p4, p5, p6, p7, p8, _⟩ := (HA.out.keep hk).facts
          obtain ⟨q0, q1, q2, q3, q4, q5, q6, q7, q8, _⟩ := (HB.out.keep hk).facts
          unfold Oper.same
          go_simp
          first | rfl | exact ⟨rfl, rfl⟩
        apply Exists.intro
        refine ⟨?_, ?_⟩
        · go_simp
          rfl
      refine soup_s rfl rfl rfl (fun W hk _ _ => ?_) ?_
      · unfold Oper.does
        go_simp
        refine (plus_any _ _ _).mono ?_
        rintro e w' ⟨rfl, rfl⟩
        exact ⟨_, rfl, Keep.refl _ _, hk, rfl, trivial⟩
      intro v hv
      obtain rfl : v = _ := hv
      apply Exists.intro
      refine ⟨?_, ?_⟩
      · go_simp
        rfl
      iterate 2
        refine soup_q rfl rfl ?_
        apply Exists.intro
        refine ⟨fun W hk _ => ?_, ?_⟩
        · obtain ⟨p0, p1, p2, p3, p4, p5, p6, p7, p8, _⟩ := (HA.out.keep hk).facts
          obtain ⟨q0, q1, q2, q3, q4, q5, q6, q7, q8, _⟩ := (HB.out.keep hk).facts
          unfold Oper.same
          go_simp
          first | rfl | exact ⟨rfl, rfl⟩
        apply Exists.intro
        refine ⟨?_, ?_⟩
        · go_simp
          rfl
      refine soup_nil (fun W26 hk hS => ?_)
      clear hS
      replace HA := Lib.hid (HA.out.keep hk)
      replace HB := Lib.hid (HB.out.keep hk)
      replace HR := Lib.hid (HR.out.keep hk)
      replace HO := Lib.hid (HO.out.keep hk)
      replace HW := Lib.hid (HW.out.trans (hk.below HW.out.size (by simp)))
      clear hk
      refine BigFrame.wpList_want rfl (fun K hK => ?_)
      obtain ⟨r0, r1, r2, r3, r4, r5, r6, r7, r8, rf⟩ := HO.out.facts
      go_simp
      refine hK _ _ ?_
      clear hK K r0 r1 r2 r3 r4 r5 r6 r7 r8 rf
      obtain ⟨W27, hW27⟩ : ∃ W', W26.setCell ⟨g, 7, none⟩ (.int .i64 (plusI a8 b8)) = W' := ⟨_, rfl⟩
      rw [hW27]
      replace HA := Lib.hid (hW27 ▸ HA.out.ne (by omega))
      replace HB := Lib.hid (hW27 ▸ HB.out.ne (by omega))
      replace HR := Lib.hid (hW27 ▸ HR.out.ne (by omega))
      replace HO := Lib.hid (hW27 ▸ HO.out.set7 (plusI a8 b8))
      replace HW := Lib.hid (hW27 ▸ HW.out.setCell (by simp only; omega) (.int .i64 (plusI a8 b8)))
      clear hW27
      go_wp2_with (fail)
      rw [rounds_succ]
      obtain ⟨r0, r1, r2, r3, r4, r5, r6, r7, r8, rf⟩ := HO.out.facts
      obtain ⟨z0, z1, z2, z3, z4, z5, z6, z7, z8, zf⟩ := HR.out.facts
      go_wp2_with (fail)
      clear r0 r1 r2 r3 r4 r5 r6 r7 r8 rf z0 z1 z2 z3 z4 z5 z6 z7 z8 zf
      have hb8 := HR.out |>.set0 (plusI a1 b1) |>.set1 (plusI a2 b2) |>.set2 a3 |>.set3 a4 |>.set4 (plusI a5 b5) |>.set5 (plusI a6 b6) |>.set6 (plusI a7 b7) |>.set7 (plusI a8 b8)
      have hk8 : Keep [w.heap.size + 1 + 1] W27 _ := (((((((((Keep.refl [w.heap.size + 1 + 1] W27).setCell (w.heap.size + 1 + 1) 0 (.int .i64 (plusI a1 b1)) (.inl (by simp))).setCell (w.heap.size + 1 + 1) 1 (.int .i64 (plusI a2 b2)) (.inl (by simp))).setCell (w.heap.size + 1 + 1) 2 (.int .i64 a3) (.inl (by simp))).setCell (w.heap.size + 1 + 1) 3 (.int .i64 a4) (.inl (by simp))).setCell (w.heap.size + 1 + 1) 4 (.int .i64 (plusI a5 b5)) (.inl (by simp))).setCell (w.heap.size + 1 + 1) 5 (.int .i64 (plusI a6 b6)) (.inl (by simp))).setCell (w.heap.size + 1 + 1) 6 (.int .i64 (plusI a7 b7)) (.inl (by simp))).setCell (w.heap.size + 1 + 1) 7 (.int .i64 (plusI a8 b8)) (.inl (by simp)))
      generalize hW8 : World.setCell _ ⟨w.heap.size + 1 + 1, 7, none⟩ _ = W8 at hb8 hk8 ⊢
      clear hW8
      replace HW := Lib.hid (HW.out.trans (hk8.below HW.out.size (by simp; omega)))
      clear hk8 HA HB HR HO
      obtain ⟨z0, z1, z2, z3, z4, z5, z6, z7, z8, zf⟩ := hb8.facts
      clear hb8
      rw [← HV.out]
      exact bodyPost_ret (v := Ag.val ⟨(plusI a1 b1), (plusI a2 b2), a3, a4, (plusI a5 b5), (plusI a6 b6), (plusI a7 b7), (plusI a8 b8)⟩) (by simp [results, Try.results75, go_sem, z0, z1, z2, z3, z4, z5, z6, z7, z8, Ag.val]) rfl ⟨rfl, HW.out⟩
    · have ha2 : (a1 == 0) = false := by simp [ha]
      have hb2 : (b1 == 0) = false := by simp [hb]
      replace HV : Hid ((Ag.val ⟨plusI a1 b1, plusI a2 b2, mn, mx, plusI a5 b5, plusI a6 b6, plusI a7 b7, plusI a8 b8⟩) = r) := Lib.hid (by rw [← HV.out]; simp [Ag.join, Ag.val, ha, hb, HMN.out, HMX.out])
      go_wp2_with (fail)
      clear p0 p1 p2 p3 p4 p5 p6 p7 p8 q0 q1 q2 q3 q4 q5 q6 q7 q8 ha hb ha2 hb2
      refine wp_loop_rounds 5 ?_
      rw [rounds_succ]
      go_wp2_with (fail)
      refine wp_region_soup 12 [] (spOf [(9, Spec.is (.int .i64 (plusI a5 b5)))]) (by kernel_rfl) (by kernel_rfl) (spOk_of (by simp [Spec.is_ok])) (pre_of (by simp [Spec.is_ok])) ?_
      simp only [List.take_succ_cons, List.take_zero, List.drop_succ_cons, List.drop_zero]
      iterate 9
        refine soup_q rfl rfl ?_
        apply Exists.intro
        refine ⟨fun W hk _ => ?_, ?_⟩
        · obtain ⟨p0, p1, p2, p3, p4, p5, p6, p7, p8, _⟩ := (HA.out.keep hk).facts
          obtain ⟨q0, q1, q2, q3, q4, q5, q6, q7, q8, _⟩ := (HB.out.keep hk).facts
          unfold Oper.same
          go_simp
          first | rfl | exact ⟨rfl, rfl⟩
        apply Exists.intro
        refine ⟨?_, ?_⟩
        · go_simp
          rfl
      refine soup_s rfl rfl rfl (fun W hk _ _ => ?_) ?_
      · unfold Oper.does
        go_simp
        refine (plus_any _ _ _).mono ?_
        rintro e w' ⟨rfl, rfl⟩
        exact ⟨_, rfl, Keep.refl _ _, hk, rfl, trivial⟩
      intro v hv
      obtain rfl : v = _ := hv
      apply Exists.intro
      refine ⟨?_, ?_⟩
      · go_simp
        rfl
      iterate 2
        refine soup_q rfl rfl ?_
        apply Exists.intro
        refine ⟨fun W hk _ => ?_, ?_⟩
        · obtain ⟨p0, p1, p2, p3, p4, p5, p6, p7, p8, _⟩ := (HA.out.keep hk).facts
          obtain ⟨q0, q1, q2, q3, q4, q5, q6, q7, q8, _⟩ := (HB.out.keep hk).facts
          unfold Oper.same
          go_simp
          first | rfl | exact ⟨rfl, rfl⟩
        apply Exists.intro
        refine ⟨?_, ?_⟩
        · go_simp
          rfl
      refine soup_nil (fun W20 hk hS => ?_)
      clear hS
      replace HA := Lib.hid (HA.out.keep hk)
      replace HB := Lib.hid (HB.out.keep hk)
      replace HR := Lib.hid (HR.out.keep hk)
      replace HO := Lib.hid (HO.out.keep hk)
      replace HW := Lib.hid (HW.out.trans (hk.below HW.out.size (by simp)))
      clear hk
      refine BigFrame.wpList_want rfl (fun K hK => ?_)
      obtain ⟨r0, r1, r2, r3, r4, r5, r6, r7, r8, rf⟩ := HO.out.facts
      go_simp
      refine hK _ _ ?_
      clear hK K r0 r1 r2 r3 r4 r5 r6 r7 r8 rf
      obtain ⟨W21, hW21⟩ : ∃ W', W20.setCell ⟨g, 4, none⟩ (.int .i64 (plusI a5 b5)) = W' := ⟨_, rfl⟩
      rw [hW21]
      replace HA := Lib.hid (hW21 ▸ HA.out.ne (by omega))
      replace HB := Lib.hid (hW21 ▸ HB.out.ne (by omega))
      replace HR := Lib.hid (hW21 ▸ HR.out.ne (by omega))
      replace HO := Lib.hid (hW21 ▸ HO.out.set4 (plusI a5 b5))
      replace HW := Lib.hid (hW21 ▸ HW.out.setCell (by simp only; omega) (.int .i64 (plusI a5 b5)))
      clear hW21
      go_wp2_with (fail)
      rw [rounds_succ]
      go_wp2_with (fail)
      refine wp_region_soup 12 [] (spOf [(9, Spec.is (.int .i64 (plusI a6 b6)))]) (by kernel_rfl) (by kernel_rfl) (spOk_of (by simp [Spec.is_ok])) (pre_of (by simp [Spec.is_ok])) ?_
      simp only [List.take_succ_cons, List.take_zero, List.drop_succ_cons, List.drop_zero]
      iterate 9
        refine soup_q rfl rfl ?_
        apply Exists.intro
        refine ⟨fun W hk _ => ?_, ?_⟩
        · obtain ⟨p0, p1, p2, p3, p4, p5, p6, p7, p8, _⟩ := (HA.out.keep hk).facts
          obtain ⟨q0, q1, q2, q3, q4, q5, q6, q7, q8, _⟩ := (HB.out.keep hk).facts
          unfold Oper.same
          go_simp
          first | rfl | exact ⟨rfl, rfl⟩
        apply Exists.intro
        refine ⟨?_, ?_⟩
        · go_simp
          rfl
      refine soup_s rfl rfl rfl (fun W hk _ _ => ?_) ?_
      · unfold Oper.does
        go_simp
        refine (plus_any _ _ _).mono ?_
        rintro e w' ⟨rfl, rfl⟩
        exact ⟨_, rfl, Keep.refl _ _, hk, rfl, trivial⟩
      intro v hv
      obtain rfl : v = _ := hv
      apply Exists.intro
      refine ⟨?_, ?_⟩
      · go_simp
        rfl
      iterate 2
        refine soup_q rfl rfl ?_
        apply Exists.intro
        refine ⟨fun W hk _ => ?_, ?_⟩
        · obtain ⟨p0, p1, p2, p3, p4, p5, p6, p7, p8, _⟩ := (HA.out.keep hk).facts
          obtain ⟨q0, q1, q2, q3, q4, q5, q6, q7, q8, _⟩ := (HB.out.keep hk).facts
          unfold Oper.same
          go_simp
          first | rfl | exact ⟨rfl, rfl⟩
        apply Exists.intro
        refine ⟨?_, ?_⟩
        · go_simp
          rfl
      refine soup_nil (fun W22 hk hS => ?_)
      clear hS
      replace HA := Lib.hid (HA.out.keep hk)
      replace HB := Lib.hid (HB.out.keep hk)
      replace HR := Lib.hid (HR.out.keep hk)
      replace HO := Lib.hid (HO.out.keep hk)
      replace HW := Lib.hid (HW.out.trans (hk.below HW.out.size (by simp)))
      clear hk
      refine BigFrame.wpList_want rfl (fun K hK => ?_)
      obtain ⟨r0, r1, r2, r3, r4, r5, r6, r7, r8, rf⟩ := HO.out.facts
      go_simp
      refine hK _ _ ?_
      clear hK K r0 r1 r2 r3 r4 r5 r6 r7 r8 rf
      obtain ⟨W23, hW23⟩ : ∃ W', W22.setCell ⟨g, 5, none⟩ (.int .i64 (plusI a6 b6)) = W' := ⟨_, rfl⟩
      rw [hW23]
      replace HA := Lib.hid (hW23 ▸ HA.out.ne (by omega))
      replace HB := Lib.hid (hW23 ▸ HB.out.ne (by omega))
      replace HR := Lib.hid (hW23 ▸ HR.out.ne (by omega))
      replace HO := Lib.hid (hW23 ▸ HO.out.set5 (plusI a6 b6))
      replace HW := Lib.hid (hW23 ▸ HW.out.setCell (by simp only; omega) (.int .i64 (plusI a6 b6)))
      clear hW23
      go_wp2_with (fail)
      rw [rounds_succ]
      go_wp2_with (fail)
      refine wp_region_soup 12 [] (spOf [(9, Spec.is (.int .i64 (plusI a7 b7)))]) (by kernel_rfl) (by kernel_rfl) (spOk_of (by simp [Spec.is_ok])) (pre_of (by simp [Spec.is_ok])) ?_
      simp only [List.take_succ_cons, List.take_zero, List.drop_succ_cons, List.drop_zero]
      iterate 9
        refine soup_q rfl rfl ?_
        apply Exists.intro
        refine ⟨fun W hk _ => ?_, ?_⟩
        · obtain ⟨p0, p1, p2, p3, p4, p5, p6, p7, p8, _⟩ := (HA.out.keep hk).facts
          obtain ⟨q0, q1, q2, q3, q4, q5, q6, q7, q8, _⟩ := (HB.out.keep hk).facts
          unfold Oper.same
          go_simp
          first | rfl | exact ⟨rfl, rfl⟩
        apply Exists.intro
        refine ⟨?_, ?_⟩
        · go_simp
          rfl
      refine soup_s rfl rfl rfl (fun W hk _ _ => ?_) ?_
      · unfold Oper.does
        go_simp
        refine (plus_any _ _ _).mono ?_
        rintro e w' ⟨rfl, rfl⟩
        exact ⟨_, rfl, Keep.refl _ _, hk, rfl, trivial⟩
      intro v hv
      obtain rfl : v = _ := hv
      apply Exists.intro
      refine ⟨?_, ?_⟩
      · go_simp
        rfl
      iterate 2
        refine soup_q rfl rfl ?_
        apply Exists.intro
        refine ⟨fun W hk _ => ?_, ?_⟩
        · obtain ⟨p0, p1, p2, p3, p4, p5, p6, p7, p8, _⟩ := (HA.out.keep hk).facts
          obtain ⟨q0, q1, q2, q3, q4, q5, q6, q7, q8, _⟩ := (HB.out.keep hk).facts
          unfold Oper.same
          go_simp
          first | rfl | exact ⟨rfl, rfl⟩
        apply Exists.intro
        refine ⟨?_, ?_⟩
        · go_simp
          rfl
      refine soup_nil (fun W24 hk hS => ?_)
      clear hS
      replace HA := Lib.hid (HA.out.keep hk)
      replace HB := Lib.hid (HB.out.keep hk)
      replace HR := Lib.hid (HR.out.keep hk)
      replace HO := Lib.hid (HO.out.keep hk)
      replace HW := Lib.hid (HW.out.trans (hk.below HW.out.size (by simp)))
      clear hk
      refine BigFrame.wpList_want rfl (fun K hK => ?_)
      obtain ⟨r0, r1, r2, r3, r4, r5, r6, r7, r8, rf⟩ := HO.out.facts
      go_simp
      refine hK _ _ ?_
      clear hK K r0 r1 r2 r3 r4 r5 r6 r7 r8 rf
      obtain ⟨W25, hW25⟩ : ∃ W', W24.setCell ⟨g, 6, none⟩ (.int .i64 (plusI a7 b7)) = W' := ⟨_, rfl⟩
      rw [hW25]
      replace HA := Lib.hid (hW25 ▸ HA.out.ne (by omega))
      replace HB := Lib.hid (hW25 ▸ HB.out.ne (by omega))
      replace HR := Lib.hid (hW25 ▸ HR.out.ne (by omega))
      replace HO := Lib.hid (hW25 ▸ HO.out.set6 (plusI a7 b7))
      replace HW := Lib.hid (hW25 ▸ HW.out.setCell (by simp only; omega) (.int .i64 (plusI a7 b7)))
      clear hW25
      go_wp2_with (fail)
      rw [rounds_succ]
      go_wp2_with (fail)
      refine wp_region_soup 12 [] (spOf [(9, Spec.is (.int .i64 (plusI a8 b8)))]) (by kernel_rfl) (by kernel_rfl) (spOk_of (by simp [Spec.is_ok])) (pre_of (by simp [Spec.is_ok])) ?_
      simp only [List.take_succ_cons, List.take_zero, List.drop_succ_cons, List.drop_zero]
      iterate 9
        refine soup_q rfl rfl ?_
        apply Exists.intro
        refine ⟨fun W hk _ => ?_, ?_⟩
        · obtain ⟨p0, p1, p2, p3, p4, p5, p6, p7, p8, _⟩ := (HA.out.keep hk).facts
          obtain ⟨q0, q1, q2, q3, q4, q5, q6, q7, q8, _⟩ := (HB.out.keep hk).facts
          unfold Oper.same
          go_simp
          first | rfl | exact ⟨rfl, rfl⟩
        apply Exists.intro
        refine ⟨?_, ?_⟩
        · go_simp
          rfl
      refine soup_s rfl rfl rfl (fun W hk _ _ => ?_) ?_
      · unfold Oper.does
        go_simp
        refine (plus_any _ _ _).mono ?_
        rintro e w' ⟨rfl, rfl⟩
        exact ⟨_, rfl, Keep.refl _ _, hk, rfl, trivial⟩
      intro v hv
      obtain rfl : v = _ := hv
      apply Exists.intro
      refine ⟨?_, ?_⟩
      · go_simp
        rfl
      iterate 2
        refine soup_q rfl rfl ?_
        apply Exists.intro
        refine ⟨fun W hk _ => ?_, ?_⟩
        · obtain ⟨p0, p1, p2, p3, p4, p5, p6, p7, p8, _⟩ := (HA.out.keep hk).facts
          obtain ⟨q0, q1, q2, q3, q4, q5, q6, q7, q8, _⟩ := (HB.out.keep hk).facts
          unfold Oper.same
          go_simp
          first | rfl | exact ⟨rfl, rfl⟩
        apply Exists.intro
        refine ⟨?_, ?_⟩
        · go_simp
          rfl
      refine soup_nil (fun W26 hk hS => ?_)
      clear hS
      replace HA := Lib.hid (HA.out.keep hk)
      replace HB := Lib.hid (HB.out.keep hk)
      replace HR := Lib.hid (HR.out.keep hk)
      replace HO := Lib.hid (HO.out.keep hk)
      replace HW := Lib.hid (HW.out.trans (hk.below HW.out.size (by simp)))
      clear hk
      refine BigFrame.wpList_want rfl (fun K hK => ?_)
      obtain ⟨r0, r1, r2, r3, r4, r5, r6, r7, r8, rf⟩ := HO.out.facts
      go_simp
      refine hK _ _ ?_
      clear hK K r0 r1 r2 r3 r4 r5 r6 r7 r8 rf
      obtain ⟨W27, hW27⟩ : ∃ W', W26.setCell ⟨g, 7, none⟩ (.int .i64 (plusI a8 b8)) = W' := ⟨_, rfl⟩
      rw [hW27]
      replace HA := Lib.hid (hW27 ▸ HA.out.ne (by omega))
      replace HB := Lib.hid (hW27 ▸ HB.out.ne (by omega))
      replace HR := Lib.hid (hW27 ▸ HR.out.ne (by omega))
      replace HO := Lib.hid (hW27 ▸ HO.out.set7 (plusI a8 b8))
      replace HW := Lib.hid (hW27 ▸ HW.out.setCell (by simp only; omega) (.int .i64 (plusI a8 b8)))
      clear hW27
      go_wp2_with (fail)
      rw [rounds_succ]
      obtain ⟨r0, r1, r2, r3, r4, r5, r6, r7, r8, rf⟩ := HO.out.facts
      obtain ⟨z0, z1, z2, z3, z4, z5, z6, z7, z8, zf⟩ := HR.out.facts
      go_wp2_with (fail)
      clear r0 r1 r2 r3 r4 r5 r6 r7 r8 rf z0 z1 z2 z3 z4 z5 z6 z7 z8 zf
      have hb8 := HR.out |>.set0 (plusI a1 b1) |>.set1 (plusI a2 b2) |>.set2 mn |>.set3 mx |>.set4 (plusI a5 b5) |>.set5 (plusI a6 b6) |>.set6 (plusI a7 b7) |>.set7 (plusI a8 b8)
      have hk8 : Keep [w.heap.size + 1 + 1] W27 _ := (((((((((Keep.refl [w.heap.size + 1 + 1] W27).setCell (w.heap.size + 1 + 1) 0 (.int .i64 (plusI a1 b1)) (.inl (by simp))).setCell (w.heap.size + 1 + 1) 1 (.int .i64 (plusI a2 b2)) (.inl (by simp))).setCell (w.heap.size + 1 + 1) 2 (.int .i64 mn) (.inl (by simp))).setCell (w.heap.size + 1 + 1) 3 (.int .i64 mx) (.inl (by simp))).setCell (w.heap.size + 1 + 1) 4 (.int .i64 (plusI a5 b5)) (.inl (by simp))).setCell (w.heap.size + 1 + 1) 5 (.int .i64 (plusI a6 b6)) (.inl (by simp))).setCell (w.heap.size + 1 + 1) 6 (.int .i64 (plusI a7 b7)) (.inl (by simp))).setCell (w.heap.size + 1 + 1) 7 (.int .i64 (plusI a8 b8)) (.inl (by simp)))
      generalize hW8 : World.setCell _ ⟨w.heap.size + 1 + 1, 7, none⟩ _ = W8 at hb8 hk8 ⊢
      clear hW8
      replace HW := Lib.hid (HW.out.trans (hk8.below HW.out.size (by simp; omega)))
      clear hk8 HA HB HR HO
      obtain ⟨z0, z1, z2, z3, z4, z5, z6, z7, z8, zf⟩ := hb8.facts
      clear hb8
      rw [← HV.out]
      exact bodyPost_ret (v := Ag.val ⟨(plusI a1 b1), (plusI a2 b2), mn, mx, (plusI a5 b5), (plusI a6 b6), (plusI a7 b7), (plusI a8 b8)⟩) (by simp [results, Try.results75, go_sem, z0, z1, z2, z3, z4, z5, z6, z7, z8, Ag.val]) rfl ⟨rfl, HW.out⟩

end Go.Proofs.Ytmhbibcfbencnaa
