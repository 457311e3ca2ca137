/- SpanSteps: the windows that are over since a mark, told in two steps, are those told at once. -/
import Derived.Test.YtbkbekdeplolnaaSpK
namespace Go.Proofs.Ytbkbekdeplolnaa
open Go.RowKit Go.Shelf
attribute [local go_sem] Oper.semAt_some
set_option linter.unusedSimpArgs false
set_option linter.unusedVariables false

theorem first_next {m f t : Int} (h0 : 0 ≤ f) (h1 : f ≤ m) (h2 : m ≤ 1099511627776) (h3 : m - f < 4000) : firstI m = firstI f + 10 * (cntN m f : Int) := by
  have hc : cntN m f = min 1000 ((m - 5 - firstI f) / 10).toNat := by unfold cntN; rw [if_pos ⟨h0, h1, h2⟩]
  rw [hc]
  unfold firstI
  split <;> split <;> omega
theorem cnt_next {t m f : Int} (h0 : 0 ≤ f) (h1 : f ≤ m) (h2 : m ≤ t) (h3 : t ≤ 1099511627776) (h4 : t - f < 4000) : cntN t f = cntN m f + cntN t m := by
  have e1 : cntN t f = min 1000 ((t - 5 - firstI f) / 10).toNat := by unfold cntN; rw [if_pos (by omega)]
  have e2 : cntN m f = min 1000 ((m - 5 - firstI f) / 10).toNat := by unfold cntN; rw [if_pos (by omega)]
  have e3 : cntN t m = min 1000 ((t - 5 - firstI m) / 10).toNat := by unfold cntN; rw [if_pos (by omega)]
  rw [e1, e2, e3]
  unfold firstI
  split <;> split <;> omega
/-- THE RETURN BEHIND ANY NUMBER OF LOOPS. -/
theorem leave_marks {fn : Func} {tmps : Array Value} {w : World} {rb : Nat} {P : Program} {n : Nat} (hres : ∀ W', Bx W' rb (.bool true) → (results fn tmps).run P W' = .ok (.bool true) W') :
    ∀ (Ds : List Nat) (W : World), Ds.Nodup → (∀ D ∈ Ds, w.heap.size ≤ D ∧ W.heap[D]? = some (.deferred (some []))) → Bx W rb (.bool true) → Below w.heap.size w W →
    LeavesInM Fence.wide n P fn tmps (fun e w' => e = .returned (.bool true) ∧ Below w.heap.size w w') (Ds.map fun D => { target := .collected D, args := #[] }) .returning W
  | [], W, _, _, hr, hB => ⟨.bool true, hres _ hr, rfl, hB⟩
  | D :: Ds, W, hn, hk, hr, hB => by
    obtain ⟨k1, k2⟩ := hk D (.head _)
    obtain ⟨hn1, hn2⟩ := List.nodup_cons.1 hn
    refine ⟨by simp, .inl ⟨D, _, rfl, run_takeDeferred k2, ?_⟩⟩
    refine leave_marks hres Ds _ hn2 (fun D' hD' => ⟨(hk D' (.tail _ hD')).1, ?_⟩) (hr.kept (grownBy_putObj' W D (.deferred none)) (fun r e => by cases e; exact ⟨_, k2, rfl⟩)) (hB.trans (belowK_b (w := w) (Nat.le_refl _) W D _ _ k1 k2 rfl rfl))
    have h := (hk D' (.tail _ hD')).2
    rw [(grownBy_putObj' W D (.deferred none)).block D' (Array.getElem?_eq_some_iff.1 h).1 (fun e => hn1 (by cases e; exact hD'))]
    exact h

/-- What the walk of SpanSteps knows of the world between two steps, the list once made. -/
structure S3 (w : World) (rb ob kb g C cv : Nat) (av : Option Addr) (f : Int) (kv : Int) (Ds : List Nat) (W : World) : Prop where
  hr : Bx W rb (.bool false)
  ho : Bx W ob (.slice av C cv)
  hk : Bx W kb (.int .i64 kv)
  hd : ∀ j, j < C → W.cell? ⟨g, j, none⟩ = some (.int .i64 (f + 10 * (j : Int)))
  hD : ∀ D ∈ Ds, W.heap[D]? = some (.deferred (some []))
  hB : Below w.heap.size w W
theorem S3.kept {w A B : World} {rb ob kb g C cv : Nat} {av : Option Addr} {f kv : Int} {Ds : List Nat} {row : Option Nat} (h : S3 w rb ob kb g C cv av f kv Ds A) (hg : A.grownBy B row)
    (hr : ∀ r, row = some r → w.heap.size ≤ r ∧ ∃ o : Obj, A.heap[r]? = some o ∧ o.isCells = false) (hn : ∀ D ∈ Ds, row ≠ some D) : S3 w rb ob kb g C cv av f kv Ds B :=
  ⟨h.hr.kept hg fun r e => (hr r e).2, h.ho.kept hg fun r e => (hr r e).2, h.hk.kept hg fun r e => (hr r e).2, fun j hj => cell_kept (h.hd j hj) hg fun r e => (hr r e).2,
   fun D hD => (hg.block D (Array.getElem?_eq_some_iff.1 (h.hD D hD)).1 (fun e => hn D hD e.symm)).trans (h.hD D hD), h.hB.grown hg h.hB.size fun r e => (hr r e).1⟩
theorem S3.setK {w W : World} {rb ob kb g C cv : Nat} {av : Option Addr} {f kv : Int} {Ds : List Nat} (h : S3 w rb ob kb g C cv av f kv Ds W) (x : Int) (h1 : kb ≠ rb) (h2 : kb ≠ ob) (h3 : kb ≠ g) (h5 : w.heap.size ≤ kb) :
    S3 w rb ob kb g C cv av f x Ds (W.setCell ⟨kb, 0, none⟩ (.int .i64 x)) :=
  ⟨h.hr.other h1 _ _, h.ho.other h2 _ _, h.hk.same _, fun j hj => by rw [cell_off _ _ _ _ _ _ h3]; exact h.hd j hj, fun D hD => (KeepsOthers.setCell W _ _).same D _ (h.hD D hD) rfl, h.hB.setCell (p := ⟨kb, 0, none⟩) h5 _⟩
theorem S3.alloc {w W : World} {rb ob kb g C cv : Nat} {av : Option Addr} {f kv : Int} {Ds : List Nat} (h : S3 w rb ob kb g C cv av f kv Ds W) (o : Obj) : S3 w rb ob kb g C cv av f kv Ds (W.alloc o) :=
  h.kept (World.grownBy_alloc W o none) (fun r e => by cases e) (fun D _ e => by cases e)

set_option maxRecDepth 100000 in
set_option maxHeartbeats 8000000 in
theorem law_SpanSteps (m : Int) (_ : (Lit.int .i64 m).wf = true) (p : Int) (hp : (Lit.int .u16 p).wf = true) (q : Int) (hq : (Lit.int .u16 q).wf = true) (w : World) :
    Calls Try.prog 9 #[.int .i64 m, .int .u16 p, .int .u16 q] w fun e w' => e = .returned (.bool true) ∧ Below w.heap.size w w' := by
  have hp0 : 0 ≤ p ∧ p ≤ 65535 := by simpa [Lit.wf, IntKind.min, IntKind.max, IntKind.signed, IntKind.bits] using hp
  have hq0 : 0 ≤ q ∧ q ≤ 65535 := by simpa [Lit.wf, IntKind.min, IntKind.max, IntKind.signed, IntKind.bits] using hq
  obtain ⟨hp1, hp2⟩ := hp0
  obtain ⟨hq1, hq2⟩ := hq0
  by_cases hm : 0 ≤ m ∧ m ≤ 1099511627776
  case neg =>
    have hr := rightB_f hm
    go_enter Try.func9, Try.ntmps9
    go_wp2_with (first | (go_at_call 15; refine (right_any _ _).mono ?_; rintro e w' ⟨rfl, rfl⟩) | (go_at_call 25; refine (wakes8 _).mono ?_; rintro e w' ⟨rfl, hB⟩; have q1 := (Bx.new w (.bool false) 4).below hB (by simp); obtain ⟨q2, q3⟩ := q1))
    have q4 := Bx.same (u := .bool true) ⟨q2, q3⟩
    have q5 := q4.1
    refine ⟨rfl, .bool true, by simp [results, Try.f9, go_sem, q5], rfl, ?_⟩
    exact ((((Below.refl _ w).alloc (Nat.le_refl _) _).trans (hB.mono (by simp))).setCell (p := ⟨w.heap.size, 0, none⟩) (Nat.le_refl _) _)
  obtain ⟨hm0, hm1⟩ := hm
  have hr := rightB_t hm0 hm1
  obtain ⟨pp, hpp⟩ : ∃ pp, p % 2000 = pp := ⟨_, rfl⟩
  obtain ⟨qq, hqq⟩ : ∃ qq, q % 2000 = qq := ⟨_, rfl⟩
  have p1 : 0 ≤ pp := by omega
  have p2 : pp < 2000 := by omega
  have q1 : 0 ≤ qq := by omega
  have q2 : qq < 2000 := by omega
  by_cases ht : m + pp + qq ≤ 1099511627776
  case neg =>
    have hr2 := rightB_f (a := m + pp + qq) (by omega)
    clear ht
    go_enter Try.func9, Try.ntmps9
    go_wp2_with (first | (go_at_call 15; refine (right_any _ _).mono ?_; rintro e w' ⟨rfl, rfl⟩) | (go_at_call 25; refine (wakes8 _).mono ?_; rintro e w' ⟨rfl, hB⟩; have z1 := (Bx.new w (.bool false) 4).below hB (by simp); obtain ⟨z2, z3⟩ := z1))
    have q4 := Bx.same (u := .bool true) ⟨z2, z3⟩
    have q5 := q4.1
    refine ⟨rfl, .bool true, by simp [results, Try.f9, go_sem, q5], rfl, ?_⟩
    exact ((((Below.refl _ w).alloc (Nat.le_refl _) _).trans (hB.mono (by simp))).setCell (p := ⟨w.heap.size, 0, none⟩) (Nat.le_refl _) _)
  have hr2 := rightB_t (show 0 ≤ m + pp + qq by omega) ht
  have hfn := func_nil
  obtain ⟨i0, hi, hz0, hz1, hz2⟩ := info_parts infoI64
  have hc1 := first_next (t := 0) hm0 (show m ≤ m + pp by omega) (by omega) (by omega)
  have hc2 := cnt_next (t := m + pp + qq) hm0 (show m ≤ m + pp by omega) (show m + pp ≤ m + pp + qq by omega) ht (by omega)
  have hcn := cntN_le (m + pp + qq) m
  have HC1 := Lib.hid hc1
  have HC2 := Lib.hid hc2
  clear hc1 hc2
  refine (callsIn_wide (n := 5)).1 ?_
  refine callsIn_of_wp_marks Try.func9 rfl trivial ?_ rfl
  simp only [Try.ntmps9, List.size_toArray, List.length_cons, List.length_nil, Nat.reduceAdd, Nat.reduceSub, Array.replicate_succ, Array.replicate_zero, List.push_toArray, List.append_toArray, List.nil_append, List.cons_append]
  gi_wp2_with (first | (refine wide_call' (right_any _ _) ?_; rintro e w' ⟨rfl, rfl⟩) | (refine wide_call' (starts_any _ _ _) ?_; rintro e w' ⟨rfl, rfl⟩))
  refine' wpIn_rangeFunc_ownF rfl (by omega) (gf := 44) (lb := #[.pointer (some ⟨w.heap.size + 1 + 1 + 1 + 1, 0, none⟩), .pointer (some ⟨w.heap.size + 1 + 1 + 1 + 1 + 1, 0, none⟩)]) rfl trivial (enters_of Try.func44 (by kernel_rfl) rfl)
    (starts_stops 4 _ _ (m + pp + qq) m _ (by simp) (by simp) (by go_simp) (by go_simp)) KeepC.trans keepC_put (Below.refl _ _) (fun _ => rfl)
    (fun pre W => (Bx W w.heap.size (.bool false) ∧ OB W (w.heap.size + 1 + 1 + 1 + 1 + 1 + 1) (w.heap.size + 1) pre ∧ w.heap.size + 1 + 1 + 1 + 1 + 1 + 1 ≤ W.heap.size) ∧ Below w.heap.size w W)
    (fun c pre W => False)
    ?hI ?hIx ?h0 _ ?assign ?body ?done ?stop
  case hI => exact OwnFrom.and (Own.from (fun pre A B row hs hg hr => ⟨hs.1.kept hg hr, hs.2.1.kept hg hr, by have := hg.size; omega⟩) _) (ownFrom_below (Nat.le_refl _) (by simp; omega))
  case hIx => exact fun c pre A B row hs hg hr => hs
  case h0 => exact ⟨⟨⟨by go_simp, by go_simp⟩, OB.nil ⟨by go_simp, by go_simp⟩, by simp⟩, by repeat' (first | exact Below.refl _ _ | refine Below.alloc ?_ (by simp; try omega) _)⟩
  case assign =>
    intro l x W K hK
    gi_wp2
    exact hK
  case body =>
    rintro l pre x W ⟨⟨hrb, ⟨a, c, hbx, hown, hne⟩, hz⟩, hB⟩ hlen
    have hb1 := hbx.1
    have hb2 := hbx.2
    have Hbx := Lib.hid hbx
    have Hne := Lib.hid hne
    have Hrb := Lib.hid hrb
    clear hbx hne hrb
    gi_wp2_with (gi_at_builtin; refine wpListIn_append_own _ rfl _ _ 26 rfl (w.heap.size + 1 + 1 + 1 + 1 + 1 + 1) 2 i0 (.int .i64 0) 1 8 Try.underlying26 hi hz0 hz1 hz2 rfl (by decide) _ _ _ rfl (hown.alloc _) ⟨W.heap.size, 0, none⟩ 1 1 [.int .i64 x] rfl rfl ?c1 ?c2 ?c3 ?c4 ?c5 ?_)
    case c1 => exact cell_one_new _ _ _
    case c2 => simp [Value.oneCell']
    case c3 => unfold maxLen; omega
    case c4 => omega
    case c5 => simp; omega
    intro v' w1 hown' hgrow _
    obtain ⟨g1, g2, g3, g4⟩ := OB.appended (B := w.heap.size) (b1 := w.heap.size + 1 + 1 + 1 + 1) (b2 := w.heap.size + 1 + 1 + 1 + 1 + 1) Hbx.out hown Hne.out hown' hgrow (by omega) hz (by omega) (by omega) (by omega) (by omega) (by omega)
    obtain ⟨g5, g6⟩ := OB.box1 Hbx.out Hne.out hgrow
    have hrb1 : Bx w1 w.heap.size (.bool false) := by
      have h1 := Hrb.out.alloc (.cells #[.int .i64 x] 2)
      have hk := hgrow.block w.heap.size h1.lt (fun e => by have := hown.lt w.heap.size e.symm; omega)
      exact ⟨(World.cell?_of_block (w := W.alloc (.cells #[.int .i64 x] 2)) hk).trans h1.1, (World.frozen?_of_block (w := W.alloc (.cells #[.int .i64 x] 2)) hk).trans h1.2⟩
    have Hrb1 := Lib.hid hrb1
    clear hrb1
    obtain ⟨a', c', rfl⟩ := ownsRow_shape hown'
    gi_wp2
    exact ⟨g2, g3, ⟨Hrb1.out.other (by omega) _ _, g1, by have := g4.size; omega⟩, hB.trans g4⟩
  case done =>
    rintro D ys W hD hS ⟨⟨hrb, hob, hz⟩, hB⟩ hK
    have hyl : ys.length = cntN (m + pp + qq) m := by rw [hS, startsL, uptoI_length]
    obtain ⟨av, cv, hbx, hown, hne⟩ := hob
    rw [hyl] at hbx hown
    obtain ⟨g, hg0, hg1, hgd⟩ : ∃ g, (0 < cntN (m + pp + qq) m → av = some ⟨g, 0, none⟩) ∧ g < W.heap.size ∧ (∀ j, j < cntN (m + pp + qq) m → W.cell? ⟨g, j, none⟩ = some (.int .i64 (firstI m + 10 * (j : Int)))) := by
      by_cases hc : 0 < cntN (m + pp + qq) m
      · obtain ⟨g, h1, h2, h3, h4⟩ := ownsRow_at hown hc
        refine ⟨g, fun _ => h1, h3, fun j hj => ?_⟩
        rw [h4 j (by omega), hS]
        simp only [startsL, List.getElem?_map, uptoI_get _ _ _ hj, Option.map_some]
      · exact ⟨0, fun h => absurd h hc, by omega, fun j hj => by omega⟩
    clear hS hyl hown hne
    have hzB := hB.size
    have hDl := (Array.getElem?_eq_some_iff.1 hK).1
    simp only [World.size_alloc] at hD
    have hcf := firstI_ge m
    have hcl := firstI_le m hm0
    have hs1 : S3 w w.heap.size (w.heap.size + 1) W.heap.size g (cntN (m + pp + qq) m) cv av (firstI m) 0 [D] (W.alloc (.cells #[.int .i64 0] 3)) := by
      refine ⟨hrb.alloc _, hbx.alloc _, Bx.new _ _ _, fun j hj => cell_alloc_l _ (hgd j hj), fun D' hD' => ?_, hB.alloc hzB _⟩
      obtain rfl : D' = D := by simpa using hD'
      exact (Below.heap_alloc W _ D' hDl).trans hK
    clear hgd hK hrb hbx
    have Hs1 := Lib.hid hs1
    gi_wp2_with (refine wide_call' (starts_any _ _ _) ?_; rintro e w' ⟨rfl, rfl⟩)
    refine' wpIn_rangeFunc_ownF rfl (by omega) (gf := 44) (lb := #[.pointer (some ⟨W.heap.size + 1 + 1 + 1, 0, none⟩), .pointer (some ⟨W.heap.size + 1 + 1 + 1 + 1, 0, none⟩)]) rfl trivial (enters_of Try.func44 (by kernel_rfl) rfl)
      (starts_stops 4 _ _ (m + pp) m _ (by simp) (by simp) (by go_simp) (by go_simp)) KeepC.trans keepC_put (Below.refl _ _) (fun _ => rfl)
      (fun pre W' => (pre = uptoI (firstI m) pre.length ∧ pre.length ≤ cntN (m + pp) m) ∧ S3 w w.heap.size (w.heap.size + 1) W.heap.size g (cntN (m + pp + qq) m) cv av (firstI m) pre.length [D] W')
      (fun c pre W' => pre ≠ uptoI (firstI m) pre.length)
      ?hI2 ?hIx2 ?h02 _ ?assign2 ?body2 ?done2 ?stop2
    case hI2 =>
      exact fun pre A B row hs hg hr => ⟨hs.1, hs.2.kept hg (fun r e => ⟨by have := (hr r e).1; (try simp only [World.size_alloc] at this); omega, (hr r e).2⟩)
        (fun D' hD' e => by have := (hr D' e).1; (try simp only [World.size_alloc] at this); simp at hD'; omega)⟩
    case hIx2 => exact fun c pre A B row hs hg hr => hs
    case h02 => exact ⟨⟨by simp [uptoI], by simp⟩, by repeat' (first | exact hs1 | apply S3.alloc)⟩
    case assign2 =>
      intro l x W K hK
      gi_wp2
      exact hK
    case body2 =>
      rintro l pre x W2 ⟨⟨hp, hpl⟩, hs⟩ hlen
      have hlt : pre.length < cntN (m + pp + qq) m := by have := HC2.out; omega
      have hav : av = some ⟨g, 0, none⟩ := hg0 (by omega)
      have hs0 := hs
      obtain ⟨⟨hr1, hr2⟩, ⟨ho1, ho2⟩, ⟨hk1, hk2⟩, hd, hDs, hB2⟩ := hs
      rw [hav] at ho1
      have hdj := hd pre.length hlt
      have hk3 : (pre.length : Int) < 1000 := by omega
      have Hp := Lib.hid hp
      clear hp hav hd hDs
      by_cases hx : x = firstI m + 10 * (pre.length : Int)
      · have hx' : (firstI m + 10 * (pre.length : Int) != x) = false := by rw [hx]; simp
        have Hx := Lib.hid hx
        clear hx
        gi_wp2
        refine ⟨KeepsOthers.setCell _ _ _, KeepC.of (cell_off _ _ _ _ _ _ (by omega)) (cell_off _ _ _ _ _ _ (by omega)), ⟨?_, by simp; omega⟩, ?_⟩
        · rw [List.length_append, List.length_singleton, uptoI_succ, ← Hp.out, ← Hx.out]
        · have := hs0.setK ((pre.length : Int) + 1) (by omega) (by omega) (by omega) (by omega)
          simpa using this
      · have hx' : (firstI m + 10 * (pre.length : Int) != x) = true := by rw [bne_iff_ne]; exact fun e => hx e.symm
        gi_wp2
        refine ⟨KeepsOthers.setCell _ _ _, fun h => hx (uptoI_snoc_inv h)⟩
    case stop2 =>
      rintro D c pre W hD ⟨k, hk, hpre⟩ hne hK
      exact (hne (by rw [hpre, uptoI_length])).elim
    case done2 =>
      rintro D2 ys2 W2 hD2 hS2 ⟨_, hs⟩ hK2
      have hyl : ys2.length = cntN (m + pp) m := by rw [hS2, startsL, uptoI_length]
      rw [hyl] at hs
      clear hS2 hyl
      have hDl2 := (Array.getElem?_eq_some_iff.1 hK2).1
      have hz2 : W.heap.size < W2.heap.size := hs.hk.lt
      have hzD2 : W.heap.size + 1 ≤ D2 := by simp only [World.size_alloc] at hD2; omega
      have hs2 : S3 w w.heap.size (w.heap.size + 1) W.heap.size g (cntN (m + pp + qq) m) cv av (firstI m) (cntN (m + pp) m) [D2, D] W2 := by
        refine ⟨hs.hr, hs.ho, hs.hk, hs.hd, fun D' hD' => ?_, hs.hB⟩
        rcases List.mem_cons.1 hD' with rfl | h
        · exact hK2
        · exact hs.hD D' h
      have hne2 : D2 ≠ D := by omega
      clear hs hK2
      have Hs2 := Lib.hid hs2
      obtain ⟨⟨hr1, hr2⟩, ⟨ho1, ho2⟩, ⟨hk1, hk2⟩, hd, hDs, hB2⟩ := hs2
      clear hd hDs
      gi_wp2_with (refine wide_call' (starts_any _ _ _) ?_; rintro e w' ⟨rfl, rfl⟩)
      clear hr1 hr2 ho1 ho2 hk1 hk2
      refine' wpIn_rangeFunc_ownF rfl (by omega) (gf := 44) (lb := #[.pointer (some ⟨W2.heap.size + 1 + 1, 0, none⟩), .pointer (some ⟨W2.heap.size + 1 + 1 + 1, 0, none⟩)]) rfl trivial (enters_of Try.func44 (by kernel_rfl) rfl)
        (starts_stops 4 _ _ (m + pp + qq) (m + pp) _ (by simp) (by simp) (by go_simp) (by go_simp)) KeepC.trans keepC_put (Below.refl _ _) (fun _ => rfl)
        (fun pre W' => (pre = uptoI (firstI (m + pp)) pre.length ∧ pre.length ≤ cntN (m + pp + qq) (m + pp)) ∧ S3 w w.heap.size (w.heap.size + 1) W.heap.size g (cntN (m + pp + qq) m) cv av (firstI m) ((cntN (m + pp) m + pre.length : Nat) : Int) [D2, D] W')
        (fun c pre W' => pre ≠ uptoI (firstI (m + pp)) pre.length)
        ?hI3 ?hIx3 ?h03 _ ?assign3 ?body3 ?done3 ?stop3
      case hI3 =>
        exact fun pre A B row hs hg hr => ⟨hs.1, hs.2.kept hg (fun r e => ⟨by have := (hr r e).1; (try simp only [World.size_alloc] at this); omega, (hr r e).2⟩)
          (fun D' hD' e => by have := (hr D' e).1; (try simp only [World.size_alloc] at this); simp at hD'; omega)⟩
      case hIx3 => exact fun c pre A B row hs hg hr => hs
      case h03 => exact ⟨⟨by simp [uptoI], by simp⟩, by simp only [List.length_nil, Nat.add_zero]; repeat' (first | exact Hs2.out | apply S3.alloc)⟩
      case assign3 =>
        intro l x W K hK
        gi_wp2
        exact hK
      case body3 =>
        rintro l pre x W3 ⟨⟨hp, hpl⟩, hs⟩ hlen
        obtain ⟨c0, hc0⟩ : ∃ c0, cntN (m + pp) m + pre.length = c0 := ⟨_, rfl⟩
        rw [hc0] at hs
        have hlt : c0 < cntN (m + pp + qq) m := by have := HC2.out; omega
        have hav : av = some ⟨g, 0, none⟩ := hg0 (by omega)
        have hs0 := hs
        obtain ⟨⟨hr1, hr2⟩, ⟨ho1, ho2⟩, ⟨hk1, hk2⟩, hd, hDs, hB3⟩ := hs
        rw [hav] at ho1
        have hdj := hd c0 hlt
        have hk3 : (c0 : Int) < 1000 := by omega
        have hfe : firstI m + 10 * (c0 : Int) = firstI (m + pp) + 10 * (pre.length : Int) := by have := HC1.out; omega
        have Hfe := Lib.hid hfe
        have Hp := Lib.hid hp
        have Hc0 := Lib.hid hc0
        clear hp hav hd hDs hfe hc0
        by_cases hx : x = firstI m + 10 * (c0 : Int)
        · have hx' : (firstI m + 10 * (c0 : Int) != x) = false := by rw [hx]; simp
          have Hx := Lib.hid hx
          clear hx
          gi_wp2
          refine ⟨KeepsOthers.setCell _ _ _, KeepC.of (cell_off _ _ _ _ _ _ (by omega)) (cell_off _ _ _ _ _ _ (by omega)), ⟨?_, by simp; omega⟩, ?_⟩
          · rw [List.length_append, List.length_singleton, uptoI_succ, ← Hp.out, Hx.out, Hfe.out]
          · have := hs0.setK ((c0 : Int) + 1) (by omega) (by omega) (by omega) (by omega)
            have hc := Hc0.out
            have he : ((cntN (m + pp) m + (pre ++ [x]).length : Nat) : Int) = (c0 : Int) + 1 := by simp; omega
            rw [he]; exact this
        · have hx' : (firstI m + 10 * (c0 : Int) != x) = true := by rw [bne_iff_ne]; exact fun e => hx e.symm
          gi_wp2
          refine ⟨KeepsOthers.setCell _ _ _, fun h => hx ?_⟩
          have := uptoI_snoc_inv h
          have := Hfe.out
          omega
      case stop3 =>
        rintro D c pre W hD ⟨k, hk, hpre⟩ hne hK
        exact (hne (by rw [hpre, uptoI_length])).elim
      case done3 =>
        rintro D3 ys3 W3 hD3 hS3 ⟨_, hs⟩ hK3
        have hyl : cntN (m + pp) m + ys3.length = cntN (m + pp + qq) m := by rw [hS3, startsL, uptoI_length]; exact HC2.out.symm
        rw [hyl] at hs
        clear hS3 hyl
        have hzD3 : W2.heap.size ≤ D3 := by simp only [World.size_alloc] at hD3; omega
        have hne3 : D3 ≠ D2 ∧ D3 ≠ D := by
          constructor
          · omega
          · intro e; have := (Array.getElem?_eq_some_iff.1 (Hs2.out.hD D (by simp))).1; omega
        have hDD : D < W2.heap.size := (Array.getElem?_eq_some_iff.1 (Hs2.out.hD D (by simp))).1
        have hs0 := hs
        obtain ⟨⟨hr1, hr2⟩, ⟨ho1, ho2⟩, ⟨hk1, hk2⟩, hd, hDs, hB3⟩ := hs
        have hDs' := Lib.hid hDs
        have HK3 := Lib.hid hK3
        have hrlt : w.heap.size < W3.heap.size := hs0.hr.lt
        have hrx := Lib.hid hs0.hr
        clear hd hDs hs0 hK3
        gi_wp2_with (refine wide_call' (wakes8 _) ?_; rintro e w4 ⟨rfl, hB4⟩; have hr3 := (hB4.cell (p := ⟨w.heap.size, 0, none⟩) hrlt).trans hr1; have hr4 := (hB4.frozen (p := ⟨w.heap.size, 0, none⟩) hrlt).trans hr2)
        refine leave_marks (rb := w.heap.size) (fun W' h => by have h' := h.1; simp [results, Try.f9, go_sem, h']) [D3, D2, D] _ (by simp [hne3, hne2]) ?_ (Bx.same ⟨hr3, hr4⟩ _) ((hB3.trans (hB4.mono hB3.size)).setCell (p := ⟨w.heap.size, 0, none⟩) (Nat.le_refl _) _)
        intro D' hD'
        have hh : W3.heap[D']? = some (.deferred (some [])) := by
          rcases List.mem_cons.1 hD' with rfl | h
          · exact HK3.out
          · exact hDs'.out D' h
        refine ⟨?_, (KeepsOthers.setCell w4 _ _).same D' _ ((hB4.block D' (Array.getElem?_eq_some_iff.1 hh).1).trans hh) rfl⟩
        simp at hD'
        rcases hD' with rfl | rfl | rfl <;> omega
  case stop =>
    rintro D c pre W hD _ h hK
    exact h.elim
end Go.Proofs.Ytbkbekdeplolnaa
