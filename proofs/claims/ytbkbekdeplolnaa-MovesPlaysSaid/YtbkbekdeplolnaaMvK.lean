/- MovesKnown: the chapter's examples. -/
import Derived.Test.YtbkbekdeplolnaaMvI
import Derived.Deep.Quiet
namespace Go.Proofs.Ytbkbekdeplolnaa
open Go.RowKit Go.Shelf Go.Lib
set_option linter.unusedSimpArgs false
set_option linter.unusedVariables false
theorem IntsAt.keep {X : List Nat} {W W' : World} {a : Option Addr} {l : List Int} (h : IntsAt W a l) (hk : Keep X W W') (hx : ∀ b, a.map (·.block) = some b → b ∉ X) : IntsAt W' a l := by
  intro hl
  obtain ⟨b, off, h1, h2, h3⟩ := h hl
  have hb := hx b (by rw [h1]; rfl)
  exact ⟨b, off, h1, Nat.lt_of_lt_of_le h2 hk.size, fun j hj => (hk.cell _ h2 hb).trans (h3 j hj)⟩
structure Kn (w : World) (q b : Nat) (W : World) : Prop where
  q0 : W.cell? ⟨q, 0, none⟩ = some (.int .i64 1)
  q1 : W.cell? ⟨q, 1, none⟩ = some (.int .i64 2)
  q2 : W.cell? ⟨q, 2, none⟩ = some (.slice (some ⟨b, 0, none⟩) 3 3)
  I : IntsAt W (some ⟨b, 0, none⟩) [0, 1, 0]
  ql : q < W.heap.size
  T : Below w.heap.size w W
theorem Kn.keep {w W W' : World} {q b : Nat} {X : List Nat} (h : Kn w q b W) (hk : Keep X W W') (hq : q ∉ X) (hb : b ∉ X) (hX : ∀ x ∈ X, w.heap.size ≤ x) : Kn w q b W' :=
  ⟨(hk.cell _ h.ql hq).trans h.q0, (hk.cell _ h.ql hq).trans h.q1, (hk.cell _ h.ql hq).trans h.q2, h.I.keep hk (fun x hx => by obtain rfl : b = x := by simpa using hx
                                                                                                                               exact hb), Nat.lt_of_lt_of_le h.ql hk.size, h.T.trans (hk.below h.T.size hX)⟩
theorem Kn.below {w W W' : World} {q b : Nat} (h : Kn w q b W) (hk : Below W.heap.size W W') : Kn w q b W' := h.keep (Keep.of_below hk []) (by simp) (by simp) (by simp)
structure EnC (W : World) (g : Nat) (x : En) : Prop where
  e0 : W.cell? ⟨g, 0, none⟩ = some (.int .i64 x.mv)
  e1 : W.cell? ⟨g, 1, none⟩ = some (.int .i64 x.part)
  e2 : W.cell? ⟨g, 2, none⟩ = some (.int .i64 x.fr)
  e3 : W.cell? ⟨g, 3, none⟩ = some (.int .i64 x.to)
  gl : g < W.heap.size
theorem EnC.keep {W W' : World} {g : Nat} {x : En} {X : List Nat} (h : EnC W g x) (hk : Keep X W W') (hg : g ∉ X) : EnC W' g x :=
  ⟨(hk.cell _ h.gl hg).trans h.e0, (hk.cell _ h.gl hg).trans h.e1, (hk.cell _ h.gl hg).trans h.e2, (hk.cell _ h.gl hg).trans h.e3, Nat.lt_of_lt_of_le h.gl hk.size⟩
theorem EnC.new (W : World) (x1 x2 x3 x4 : Int) : EnC (W.alloc (.cells #[.int .i64 x1, .int .i64 x2, .int .i64 x3, .int .i64 x4] 51)) W.heap.size ⟨x1, x2, x3, x4⟩ :=
  ⟨by go_simp, by go_simp, by go_simp, by go_simp, by simp⟩
theorem newB (w : World) : Calls Try.prog 30 #[] w fun e w' => ∃ p, e = .returned (.pointer (some ⟨p, 0, none⟩)) ∧ BookAt w' p none [] 0 ∧ w.heap.size ≤ p ∧ p < w'.heap.size ∧ Below w.heap.size w w' :=
  (new_any w).mono fun e w' ⟨he, hw⟩ => by
    subst hw
    exact ⟨w.heap.size, he, book_new w, Nat.le_refl _, by simp, (Below.refl _ w).alloc (Nat.le_refl _) _⟩
def k1 : List (Int × En) := [(0, ⟨1, 0, 0, 1⟩)]
def k2 : List (Int × En) := [(0, ⟨1, 0, 0, 1⟩), (1, ⟨2, 1, 1, 0⟩)]
def k3 : List (Int × En) := [(1, ⟨2, 1, 1, 0⟩)]
def k4 : List (Int × En) := [(1, ⟨2, 1, 1, 0⟩), (0, ⟨3, 0, 0, 1⟩)]
theorem ko1 (b : Nat) : ordF (fstTb b) 0 1 [] 0 = (1, 0, k1, 1) := by simp [ordF, fstTb, Tb.may, Tb.right, outN, look, k1]
theorem ko2 (b : Nat) : ordF (fstTb b) 0 1 k1 1 = (0, 20, k1, 1) := by simp [ordF, fstTb, Tb.may, Tb.right, outN, look, k1]
theorem ko3 (b : Nat) : ordF (fstTb b) 1 0 k1 1 = (2, 0, k2, 2) := by simp [ordF, fstTb, Tb.may, Tb.right, outN, look, k1, k2]
theorem ko4 (b : Nat) : ordF (fstTb b) 2 0 k2 2 = (0, 23, k2, 2) := by simp [ordF, fstTb, Tb.may, Tb.right, outN, look, k2]
theorem ko5 (b : Nat) : ordF (fstTb b) 3 0 k2 2 = (0, 21, k2, 2) := by simp [ordF, fstTb, Tb.may, Tb.right, outN, look, k2]
theorem ko6 (b : Nat) : ordF (fstTb b) 0 1 k3 2 = (3, 0, k4, 3) := by simp [ordF, fstTb, Tb.may, Tb.right, outN, look, k3, k4]
theorem kl1 : (look (0 : Int) k2).getD En.zero = ⟨1, 0, 0, 1⟩ ∧ (look (0 : Int) k2).isSome = true ∧ del (0 : Int) k2 = k3 := by simp [look, k2, k3, del]
theorem kl2 : (look (0 : Int) k3).getD En.zero = ⟨0, 0, 0, 0⟩ ∧ (look (0 : Int) k3).isSome = false ∧ del (0 : Int) k3 = k3 := by simp [look, k3, del, En.zero]
theorem kf : findMv 2 (k2.map (·.2)) = some ⟨2, 1, 1, 0⟩ := by simp [findMv, k2]
theorem kn1 : (([] : List (Int × En)).map (·.1)).Nodup := by simp
theorem kn2 : (k1.map (·.1)).Nodup := by simp [k1]
theorem kn3 : (k2.map (·.1)).Nodup := by simp [k2]
theorem kn4 : (k3.map (·.1)).Nodup := by simp [k3]
theorem ks2 : (k2.map (·.2)).Pairwise (fun x y => x.mv < y.mv) := by simp [k2]
theorem ks3 : (k3.map (·.2)).Pairwise (fun x y => x.mv < y.mv) := by simp [k3]
theorem Kn.alloc {w W : World} {q b : Nat} (h : Kn w q b W) (o : Obj) : Kn w q b (W.alloc o) := h.below ((Below.refl _ W).alloc (Nat.le_refl _) o)
theorem bk_lt {W : World} {p bm : Nat} {m : List (Int × En)} {last : Int} (h : BookAt W p (some bm) m last) : p < W.heap.size ∧ bm < W.heap.size := ⟨lt_of_heap h.blk, MapIs.lt (ek := ekI) (ev := En.val) (m := m) h.map⟩
theorem allK {W : World} {p bm : Nat} {last : Int} (h : BookAt W p (some bm) k3 last) : Calls Try.prog 37 #[.pointer (some ⟨p, 0, none⟩)] W (AllP W [⟨2, 1, 1, 0⟩]) := all_any h (by simp [k3]) ks3
set_option maxRecDepth 100000 in
set_option maxHeartbeats 8000000 in
theorem law_MovesKnown (w : World) : Calls Try.prog 11 #[] w fun e w' => e = .returned (.bool true) ∧ Below w.heap.size w w' := by
  go_enter Try.func11, Try.ntmps11
  go_wp2_with (fail)
  refine (first_any _).mono ?_
  rintro e w1 ⟨⟨b, rfl, hI, hb⟩, hB1⟩
  have hbl : b < w1.heap.size := by
    obtain ⟨b', off, h1, h2, _⟩ := hI (by simp)
    cases h1; exact h2
  have hws := hB1.size
  go_wp2_with (fail)
  refine (newB _).mono ?_
  rintro e w2 ⟨p, rfl, bk, hp, hpl, hB⟩
  rw [World.size_alloc] at hp
  have kn : Kn w w1.heap.size b w2 := by
    refine Kn.below (W := w1.alloc (.cells #[.int .i64 1, .int .i64 2, .slice (some ⟨b, 0, none⟩) 3 3] 41)) ⟨by go_simp, by go_simp, by go_simp, hI.alloc _, by simp, hB1.alloc hB1.size _⟩ hB
  have hbp : b ≠ p := by omega
  have hqp : w1.heap.size ≠ p := by omega
  have hwp : w.heap.size ≤ p := by omega
  clear hI hB hB1
  have q0 := kn.q0
  have q1 := kn.q1
  have q2 := kn.q2
  go_wp2_with (fail)
  refine (order_any bk kn1 (by decide) (fstTb b) kn.I (fun _ a ha => by cases ha; exact hbp) 0 1).mono ?_
  rintro e w3 ⟨he, ⟨om', bk', ho⟩, hK⟩
  rw [ko1] at he bk'
  subst he
  obtain ⟨bm, rfl, hbm⟩ : ∃ bm, om' = some bm ∧ w2.heap.size ≤ bm := by
    rcases ho with rfl | ⟨_, bm, h1, h2⟩
    · exact absurd (show k1 = [] from bk'.map) (by simp [k1])
    · exact ⟨bm, h1, h2⟩
  have hqm : w1.heap.size ≠ bm := by have := kn.ql; omega
  have hbb : b ≠ bm := by have := kn.ql; omega
  have hwm : w.heap.size ≤ bm := by have := kn.ql; omega
  replace kn := kn.keep hK (by simp [foot]; omega) (by simp [foot]; omega) (by simp [foot]; omega)
  replace bk : BookAt w3 p (some bm) k1 1 := bk'
  clear hK bk' ho q0 q1 q2
  have q0 := kn.q0
  have q1 := kn.q1
  have q2 := kn.q2
  have hpl2 := lt_of_heap bk.blk
  have hml : bm < w3.heap.size := MapIs.lt (ek := ekI) (ev := En.val) (m := k1) bk.map
  go_wp2_with (fail)
  refine (order_any bk kn2 (by decide) (fstTb b) kn.I (fun _ a ha => by cases ha; exact hbp) 0 1).mono ?_
  rintro e w4 ⟨he, ⟨om', bk', ho⟩, hK⟩
  rw [ko2] at he bk'
  subst he
  obtain rfl : om' = some bm := by
    rcases ho with h | ⟨h, _⟩
    · exact h
    · cases h
  replace kn := kn.keep hK (by simp [foot]; omega) (by simp [foot]; omega) (by simp [foot]; omega)
  replace bk : BookAt w4 p (some bm) k1 1 := bk'
  clear hK bk' ho q0 q1 q2
  have q0 := kn.q0
  have q1 := kn.q1
  have q2 := kn.q2
  go_wp2_with (fail)
  refine (order_any bk kn2 (by decide) (fstTb b) kn.I (fun _ a ha => by cases ha; exact hbp) 1 0).mono ?_
  rintro e w5 ⟨he, ⟨om', bk', ho⟩, hK⟩
  rw [ko3] at he bk'
  subst he
  obtain rfl : om' = some bm := by
    rcases ho with h | ⟨h, _⟩
    · exact h
    · cases h
  replace kn := kn.keep hK (by simp [foot]; omega) (by simp [foot]; omega) (by simp [foot]; omega)
  replace bk : BookAt w5 p (some bm) k2 2 := bk'
  clear hK bk' ho q0 q1 q2
  have q0 := kn.q0
  have q1 := kn.q1
  have q2 := kn.q2
  go_wp2_with (fail)
  refine (order_any bk kn3 (by decide) (fstTb b) kn.I (fun _ a ha => by cases ha; exact hbp) 2 0).mono ?_
  rintro e w6 ⟨he, ⟨om', bk', ho⟩, hK⟩
  rw [ko4] at he bk'
  subst he
  obtain rfl : om' = some bm := by
    rcases ho with h | ⟨h, _⟩
    · exact h
    · cases h
  replace kn := kn.keep hK (by simp [foot]; omega) (by simp [foot]; omega) (by simp [foot]; omega)
  replace bk : BookAt w6 p (some bm) k2 2 := bk'
  clear hK bk' ho q0 q1 q2
  have q0 := kn.q0
  have q1 := kn.q1
  have q2 := kn.q2
  go_wp2_with (fail)
  refine (order_any bk kn3 (by decide) (fstTb b) kn.I (fun _ a ha => by cases ha; exact hbp) 3 0).mono ?_
  rintro e w7 ⟨he, ⟨om', bk', ho⟩, hK⟩
  rw [ko5] at he bk'
  subst he
  obtain rfl : om' = some bm := by
    rcases ho with h | ⟨h, _⟩
    · exact h
    · cases h
  replace kn := kn.keep hK (by simp [foot]; omega) (by simp [foot]; omega) (by simp [foot]; omega)
  replace bk : BookAt w7 p (some bm) k2 2 := bk'
  clear hK bk' ho q0 q1 q2
  have q0 := kn.q0
  have q1 := kn.q1
  have q2 := kn.q2
  go_wp2_with (fail)
  refine (of_any bk 0).mono ?_
  rintro e w8 ⟨he, hB⟩
  rw [kl1.1, kl1.2.1] at he
  subst he
  simp only [En.val]
  replace kn := kn.below hB
  replace bk := bk.below hB
  have hlt8 := bk_lt bk
  clear hB q0 q1 q2
  have q0 := kn.q0
  have q1 := kn.q1
  have q2 := kn.q2
  go_wp2_with (fail)
  refine (by_gen (L := k2.map (·.2)) (by simp [k2]) 2 (fun W hB => all_any ((bk.alloc _).below hB) (by simp [k2]) ks2)).mono ?_
  rintro e w9 ⟨he, hB⟩
  rw [kf] at he
  subst he
  simp only [En.val, Option.getD_some, Option.isSome_some]
  have x13 := (EnC.new w8 1 0 0 1).keep (Keep.of_below hB []) (by simp)
  replace kn := (kn.alloc _).below hB
  replace bk := (bk.alloc _).below hB
  have hlt9 := bk_lt bk
  have hs8 : w8.heap.size < w9.heap.size := x13.gl
  clear hB q0 q1 q2
  obtain ⟨b13, hb13⟩ : ∃ g, w8.heap.size = g := ⟨_, rfl⟩
  have q0 := kn.q0
  have q1 := kn.q1
  have q2 := kn.q2
  have y0 := x13.e0
  have y1 := x13.e1
  have y2 := x13.e2
  have y3 := x13.e3
  clear hb13
  simp only at y0 y1 y2 y3
  go_wp2_with (fail)
  refine (end_book (bk.alloc _) kn3 0).mono ?_
  rintro e w10 ⟨he, bk', hK⟩
  rw [kl1.2.1] at he
  rw [kl1.2.2] at bk'
  subst he
  have x15 := (EnC.new w9 2 1 1 0).keep hK (by simp [foot]; omega)
  replace kn := (kn.alloc _).keep hK (by simp [foot]; omega) (by simp [foot]; omega) (by simp [foot]; omega)
  replace bk : BookAt w10 p (some bm) k3 2 := bk'
  clear hK bk' q0 q1 q2
  have q0 := kn.q0
  have q1 := kn.q1
  have q2 := kn.q2
  clear y0 y1 y2 y3 x13
  go_wp2_with (fail)
  refine (end_book bk kn4 0).mono ?_
  rintro e w11 ⟨he, bk', hK⟩
  rw [kl2.2.1] at he
  rw [kl2.2.2] at bk'
  subst he
  have x15 := (x15).keep hK (by simp [foot]; omega)
  replace kn := (kn).keep hK (by simp [foot]; omega) (by simp [foot]; omega) (by simp [foot]; omega)
  replace bk : BookAt w11 p (some bm) k3 2 := bk'
  clear hK bk' q0 q1 q2
  have q0 := kn.q0
  have q1 := kn.q1
  have q2 := kn.q2
  go_wp2_with (fail)
  refine (of_any bk 0).mono ?_
  rintro e w12 ⟨he, hB⟩
  rw [kl2.1, kl2.2.1] at he
  subst he
  simp only [En.val]
  replace kn := kn.below hB
  replace bk := bk.below hB
  replace x15 := x15.keep (Keep.of_below hB []) (by simp)
  have hlt12 := bk_lt bk
  clear hB q0 q1 q2
  have q0 := kn.q0
  have q1 := kn.q1
  have q2 := kn.q2
  go_wp2_with (fail)
  refine (allK (bk.alloc _)).mono ?_
  rintro e w13 ⟨A, c, rfl, hE, hB⟩
  obtain ⟨g, rfl, hg0, hg1, g0, g1, g2, g3⟩ := ensAt_cells hE (k := 0) rfl
  have xg : EnC w13 g ⟨2, 1, 1, 0⟩ := ⟨by simpa using g0, by simpa using g1, by simpa using g2, by simpa using g3, hg1⟩
  rw [World.size_alloc] at hg0
  replace kn := (kn.alloc _).below hB
  replace x15 := ((x15.keep (Keep.of_below ((Below.refl _ _).alloc (Nat.le_refl _) _) []) (by simp)).keep (Keep.of_below hB []) (by simp))
  replace bk := (bk.alloc _).below hB
  clear hB q0 q1 q2 g0 g1 g2 g3 hE
  have q0 := kn.q0
  have q1 := kn.q1
  have q2 := kn.q2
  go_wp2_with (fail)
  refine (order_any bk kn4 (by decide) (fstTb b) kn.I (fun _ a ha => by cases ha; exact hbp) 0 1).mono ?_
  rintro e w14 ⟨he, ⟨om', bk', ho⟩, hK⟩
  rw [ko6] at he bk'
  subst he
  obtain rfl : om' = some bm := by
    rcases ho with h | ⟨h, _⟩
    · exact h
    · cases h
  replace kn := kn.keep hK (by simp [foot]; omega) (by simp [foot]; omega) (by simp [foot]; omega)
  replace x15 := x15.keep hK (by simp [foot]; omega)
  replace xg := xg.keep hK (by simp [foot]; omega)
  replace bk : BookAt w14 p (some bm) k4 3 := bk'
  clear hK bk' ho q0 q1 q2
  have q0 := kn.q0
  have q1 := kn.q1
  have q2 := kn.q2
  have y0 := x15.e0
  have y1 := x15.e1
  have y2 := x15.e2
  have y3 := x15.e3
  have v0 := xg.e0
  have v1 := xg.e1
  have v2 := xg.e2
  have v3 := xg.e3
  simp only at y0 y1 y2 y3 v0 v1 v2 v3
  go_wp2_with (fail)
  have hyl := x15.gl
  have hgl := xg.gl
  have hbl4 := bk_lt bk
  have BK := Lib.hid bk
  have KN := Lib.hid kn
  clear q0 q1 q2
  refine wp_region_quiet (C := fun W => Below w14.heap.size w14 W) rfl (by kernel_rfl) ((Below.refl _ w14).drew) ?_
  iterate 27
    refine wpQuiet_step (fun K hK => ?_)
    go_simp
    first
      | (refine hK _ ?_; clear hK K)
      | (apply Exists.intro; refine ⟨fun w' hw' => ?_, hK _ ?_⟩
         · first | exact rfl | exact (awake_any w').mono (fun e w'' ⟨he, hB⟩ => ⟨he, hw'.trans (hB.mono hw'.size)⟩) | exact (last_any (BK.out.below hw')).mono (fun e w'' ⟨he, hB⟩ => ⟨he, hB ▸ hw'⟩) | (have l0 := (hw'.cell (p := ⟨g, 0, none⟩) hgl).trans v0; have l1 := (hw'.cell (p := ⟨g, 1, none⟩) hgl).trans v1; have l2 := (hw'.cell (p := ⟨g, 2, none⟩) hgl).trans v2; have l3 := (hw'.cell (p := ⟨g, 3, none⟩) hgl).trans v3; have m0 := (hw'.cell (p := ⟨w9.heap.size, 0, none⟩) hyl).trans y0; have m1 := (hw'.cell (p := ⟨w9.heap.size, 1, none⟩) hyl).trans y1; have m2 := (hw'.cell (p := ⟨w9.heap.size, 2, none⟩) hyl).trans y2; have m3 := (hw'.cell (p := ⟨w9.heap.size, 3, none⟩) hyl).trans y3; go_simp; first | done | exact rfl)
         clear hK K)
  refine wpQuiet_nil ?_
  intro W' hW'
  go_wp2
  go_ret
  exact ⟨rfl, KN.out.T.trans (hW'.mono KN.out.T.size)⟩
end Go.Proofs.Ytbkbekdeplolnaa
