/- The document's store: with. -/
import Derived.Test.YtmhbibcfbencnaaRfB
namespace Go.Proofs.Ytmhbibcfbencnaa
open Go.RowKit Go.Lib
set_option linter.unusedSimpArgs false
set_option linter.unusedVariables false
theorem own_mono {w : World} {base base' n size : Nat} {e : TypeId} {v : Value} {xs : List Value} (h : w.ownsRow base e size v n xs) (hb : base' ≤ base) : w.ownsRow base' e size v n xs := by
  obtain ⟨h1, h2⟩ := h
  refine ⟨h1, ?_⟩
  rcases h2 with h2 | ⟨g, cap, cur, hv, hbb, r⟩
  · exact .inl h2
  · exact .inr ⟨g, cap, cur, hv, Nat.le_trans hb hbb, r⟩
theorem own_lt {w : World} {base n size : Nat} {e : TypeId} {v : Value} {xs : List Value} (h : w.ownsRow base e size v n xs) : ∀ g, v.ownBlock = some g → g < w.heap.size := by
  intro g hg
  rcases h.2 with ⟨hv, _⟩ | ⟨g', cap, cur, hv, hb, hg', r⟩
  · rw [hv] at hg; cases hg
  · rw [hv] at hg
    obtain rfl : g' = g := by simpa [Value.ownBlock] using hg
    exact lt_of_heap hg'
theorem own_cells {w : World} {base n size g cap : Nat} {e : TypeId} {xs : List Value} (h : w.ownsRow base e size (.slice (some ⟨g, 0, none⟩) n cap) n xs) {j : Nat} {u : Value} (hj : xs[j]? = some u) : w.cell? ⟨g, j, none⟩ = some u := by
  rcases h.2 with ⟨hv, _⟩ | ⟨g', cap', cur, hv, hb, hg', hn, hc, hcs, htk⟩
  · cases hv
  · simp only [Value.slice.injEq, Option.some.injEq, Addr.mk.injEq, and_true, true_and] at hv
    obtain ⟨rfl, rfl⟩ := hv
    unfold World.cell?
    rw [hg']
    simp only
    rw [← htk] at hj
    rw [← Array.getElem?_toList]
    rw [List.getElem?_take] at hj
    split at hj
    · exact hj
    · cases hj
theorem own_cap {w : World} {base n size g cap : Nat} {e : TypeId} {xs : List Value} (h : w.ownsRow base e size (.slice (some ⟨g, 0, none⟩) n cap) n xs) : n ≤ cap := by
  rcases h.2 with ⟨hv, _⟩ | ⟨g', cap', cur, hv, hb, hg', hn, hc, hcs, htk⟩
  · cases hv
  · simp only [Value.slice.injEq, Option.some.injEq, Addr.mk.injEq, and_true, true_and] at hv
    obtain ⟨rfl, rfl⟩ := hv
    exact hn
theorem flatE_app (a b : List Ot) : flatE Ot.enc (a ++ b) = flatE Ot.enc a ++ flatE Ot.enc b := by simp [flatE]
theorem flatE_drop (L : List Ot) (k : Nat) : flatE Ot.enc (L.drop k) = (flatE Ot.enc L).drop (k * 10) := by
  induction L generalizing k with
  | nil => simp [flatE]
  | cons x r ih =>
    cases k with
    | zero => simp
    | succ k =>
      rw [List.drop_succ_cons, ih, show flatE Ot.enc (x :: r) = x.enc ++ flatE Ot.enc r by simp [flatE], show (k + 1) * 10 = 10 + k * 10 by omega, ← List.drop_drop, show (x.enc ++ flatE Ot.enc r).drop 10 = flatE Ot.enc r from rfl]
theorem flatE_one (l : List Ot) : ∀ u ∈ flatE Ot.enc l, u.oneCell' = true := by
  intro u hu
  unfold flatE at hu
  obtain ⟨x, _, h⟩ := List.mem_flatMap.1 hu
  unfold Ot.enc at h
  simp at h
  rcases h with h | h | h | h | h | h | h | h | h | h <;> rw [h] <;> rfl
/-- What is left of a row behind k windows, as a slice. -/
theorem slice_take (g n cap i : Nat) (hi : i ≤ cap) (W : World) : (Instr.slice 38 (.slice (some ⟨g, 0, none⟩) n cap) none (some (.int .i64 i)) none).run Try.prog W = .ok (.slice (some ⟨g, 0, none⟩) i cap) W := by
  simp [Instr.slice, run_underlying Try.underlying38, Instr.sliceBounds, Instr.sliceBound, asIntOf, go_sem, hi, Addr.add]
theorem slice_drop (g n cap k : Nat) (hk : k ≤ n) (W : World) : (Instr.slice 38 (.slice (some ⟨g, 0, none⟩) n cap) (some (.int .i64 k)) none none).run Try.prog W = .ok (.slice (some ⟨g, if cap = k then 0 else k * 10, none⟩) (n - k) (cap - k)) W := by
  simp [Instr.slice, run_underlying Try.underlying38, Instr.sliceBounds, Instr.sliceBound, asIntOf, go_sem, hk]
  split <;> simp_all [Addr.add]
theorem slice_nil0 (W : World) : (Instr.slice 38 (.slice none 0 0) none (some (.int .i64 0)) none).run Try.prog W = .ok (.slice none 0 0) W ∧ (Instr.slice 38 (.slice none 0 0) (some (.int .i64 0)) none none).run Try.prog W = .ok (.slice none 0 0) W := by
  constructor <;> simp [Instr.slice, run_underlying Try.underlying38, Instr.sliceBounds, Instr.sliceBound, asIntOf, go_sem]
/-- A list of the document's, gathered behind base. -/
def DocRow (base : Nat) (W : World) (v : Value) (M : List Ot) : Prop := W.ownsRow base 33 10 v M.length (flatE Ot.enc M)
def DocP (w : World) (M : List Ot) (e : Ending) (w' : World) : Prop := ∃ v', e = .returned (.agg #[v']) ∧ DocRow w.heap.size w' v' M ∧ Below w.heap.size w w'
def withL (L : List Ot) (o : Ot) (i : Nat) (inst : Bool) : List Ot := L.take i ++ [o] ++ L.drop (if inst then i + 1 else i)
theorem withL_len {L : List Ot} (o : Ot) {i : Nat} (inst : Bool) (hi : i ≤ L.length) : (withL L o i inst).length = i + 1 + (L.length - (if inst then i + 1 else i)) := by
  unfold withL
  rw [List.length_append, List.length_append, List.length_take, List.length_drop, Nat.min_eq_left hi]
  rfl
theorem wpList_append_none {P : Program} {w : World} {ops : Array Oper} {rest : List Oper} {o : Oper} {a : Act} {Q : Exit → Act → World → Prop} (hgd : o.guard = none) (s x : Operand) (t : TypeId)
    (ho : o.op = .call { callee := .builtin .append, args := #[s, x], argTypes := #[t, t] }) (base : Nat) (e : TypeId) (i : TypeInfo) (size : Nat) (ht : P.underlying t = some (.slice e)) (hi : P.info? e = some i)
    (v : Value) (n : Nat) (xs : List Value) (hs : a.eval s = v) (hown : w.ownsRow base e size v n xs) (hx : a.eval x = .slice none 0 0) (h : wpList P ops Q rest (a.put o.dst v) w) : wpList P ops Q (o :: rest) a w := by
  refine wpList_plain hgd fun K hK => ?_
  have hr := run_append_owned_none (P := P) (w := w) base t o.type e i size ht hi v n xs hown
  unfold Oper.wp execOp
  simp only [ho, resolve, invoke, builtin, Sem.run_bind, Sem.run_pure, Result.andThen_ok, List.map_toArray, List.map_cons, List.map_nil, hs, hx, hr]
  exact hK _ _ h
theorem SxAt.set {W : World} {g : Nat} {v : Value} (h : SxAt W g v) (u : Value) : SxAt (W.setCell ⟨g, 0, none⟩ u) g u := by
  unfold SxAt at *
  simp [World.setCell, Array.getElem?_modify, h]
set_option maxRecDepth 100000 in
set_option maxHeartbeats 4000000 in
theorem with_any {w : World} {base : Nat} {v : Value} {L : List Ot} (h : DocRow base w v L) (hb : base ≤ w.heap.size) (hL : L.length ≤ 1000) (o : Ot) (i : Nat) (inst : Bool) (hi : i ≤ L.length) (hi2 : inst = true → i < L.length) :
    Calls Try.prog 67 #[.agg #[v], .int .i64 i, .agg o.enc.toArray, .bool inst] w (DocP w (withL L o i inst)) := by
  obtain ⟨ok, os, ⟨o1, o2, o3, o4, o5, o6, o7, o8⟩⟩ := o
  simp only [Ot.enc]
  obtain ⟨W1, hW1⟩ : ∃ W1, (((w.alloc (.cells #[v] 64)).alloc (.cells #[.string ok, .int .i64 os, .int .i64 o1, .int .i64 o2, .int .i64 o3, .int .i64 o4, .int .i64 o5, .int .i64 o6, .int .i64 o7, .int .i64 o8] 33)).alloc (.cells #[.slice none 0 0] 64)).alloc (.cells #[.slice none 0 0] 64) = W1 := ⟨_, rfl⟩
  have hB : Below w.heap.size w W1 := hW1 ▸ ((((Below.refl _ w).alloc (Nat.le_refl _) _).alloc (by simp) _).alloc (by simp; omega) _).alloc (by simp; omega) _
  have hs : SxAt W1 w.heap.size v := hW1 ▸ ((((SxAt.new w v).keep ((Keep.refl [] _).alloc _)).keep ((Keep.refl [] _).alloc _)).keep ((Keep.refl [] _).alloc _))
  have hx : OtAt W1 (w.heap.size + 1) ⟨ok, os, ⟨o1, o2, o3, o4, o5, o6, o7, o8⟩⟩ := by
    have := OtAt.new (w.alloc (.cells #[v] 64)) ⟨ok, os, ⟨o1, o2, o3, o4, o5, o6, o7, o8⟩⟩
    rw [World.size_alloc] at this
    exact hW1 ▸ ((this.keep ((Keep.refl [] _).alloc _)).keep ((Keep.refl [] _).alloc _))
  have hr : SxAt W1 (w.heap.size + 1 + 1) (.slice none 0 0) := by
    have := SxAt.new ((w.alloc (.cells #[v] 64)).alloc (.cells #[.string ok, .int .i64 os, .int .i64 o1, .int .i64 o2, .int .i64 o3, .int .i64 o4, .int .i64 o5, .int .i64 o6, .int .i64 o7, .int .i64 o8] 33)) (.slice none 0 0)
    rw [World.size_alloc, World.size_alloc] at this
    exact hW1 ▸ (this.keep ((Keep.refl [] _).alloc _))
  have hu : SxAt W1 (w.heap.size + 1 + 1 + 1) (.slice none 0 0) := by
    have := SxAt.new (((w.alloc (.cells #[v] 64)).alloc (.cells #[.string ok, .int .i64 os, .int .i64 o1, .int .i64 o2, .int .i64 o3, .int .i64 o4, .int .i64 o5, .int .i64 o6, .int .i64 o7, .int .i64 o8] 33)).alloc (.cells #[.slice none 0 0] 64)) (.slice none 0 0)
    rw [World.size_alloc, World.size_alloc, World.size_alloc] at this
    exact hW1 ▸ this
  have hsz : W1.heap.size = w.heap.size + 1 + 1 + 1 + 1 := by rw [← hW1]; simp
  have HS := Lib.hid hs
  have HX := Lib.hid hx
  have HR := Lib.hid hr
  have HU := Lib.hid hu
  have HB := Lib.hid hB
  have HSZ := Lib.hid hsz
  have HOW := Lib.hid (own_keep h (Keep.of_below hB []) (fun _ _ => by simp))
  have HOL := Lib.hid (fun g hg => own_lt h g hg)
  clear hs hx hr hu hB hsz hb
  have h0i : (0 : Int) ≤ (i : Int) := Int.natCast_nonneg i
  go_enter Try.func67, Try.ntmps67
  go_wp2_with (fail)
  clear hW1
  rcases h.2 with ⟨hv, h0⟩ | ⟨g, cap, cur, hv, hbg, hg', hn, hc, hcs, htk⟩
  · obtain rfl : L = [] := List.length_eq_zero_iff.1 h0
    obtain rfl : i = 0 := by simpa using hi
    subst hv
    obtain rfl : inst = false := by
      cases inst with
      | false => rfl
      | true => exact absurd (hi2 rfl) (by simp)
    have HOL : ∀ g', (Value.slice none 0 0).ownBlock = some g' → g' < w.heap.size := fun g' hg' => HOL.out g' hg'
    simp only [List.length_nil] at *
    have HSL := Lib.hid (fun W => (slice_nil0 W).1)
    refine wp_region_soup 6 [] (spOf []) (by kernel_rfl) (by kernel_rfl) (spOk_of (by simp [Spec.is_ok])) (pre_of (by simp [Spec.is_ok])) ?_
    simp only [List.take_succ_cons, List.take_zero, List.drop_succ_cons, List.drop_zero]
    iterate 6
      with_reducible refine soup_q ?_ ?_ ?_
      · rfl
      · rfl
      with_reducible apply Exists.intro
      with_reducible refine ⟨fun W hk _ => ?_, ?_⟩
      · obtain ⟨s0, sf⟩ := (HS.out.keep hk).cells
        obtain ⟨u0, uf⟩ := (HU.out.keep hk).cells
        have hsl := HSL.out
        unfold Oper.same
        go_simp
        first | rfl | exact ⟨rfl, rfl⟩
      with_reducible apply Exists.intro
      with_reducible refine ⟨?_, ?_⟩
      · go_simp
        rfl
    refine soup_nil (fun W2 hk hS => ?_)
    have HS2 := Lib.hid (HS.out.keep hk)
    have HX2 := Lib.hid (HX.out.keep hk)
    have HR2 := Lib.hid (HR.out.keep hk)
    have HU2 := Lib.hid (HU.out.keep hk)
    have HOW2 := Lib.hid (own_keep HOW.out hk (fun _ _ => by simp))
    have HB2 := Lib.hid (HB.out.trans (hk.below HB.out.size (by simp)))
    have HZ2 := Lib.hid (show w.heap.size + 4 ≤ W2.heap.size from by have := HSZ.out; have := hk.size; omega)
    clear hk hS HS HX HR HU HOW HB HSZ HSL
    have HOA : Hid (W2.ownsRow (w.heap.size + 4) 33 10 (.slice none 0 0) 0 []) := Lib.hid (World.ownsRow_nil _ _ _ _)
    have hob : ∀ g', (Value.slice none 0 0).ownBlock = some g' → g' ∉ [w.heap.size + 1 + 1 + 1] := fun g' hg' => by have := own_base HOA.out g' hg'; simp; omega
    obtain ⟨W3, hW3⟩ : ∃ W, W2.setCell ⟨w.heap.size + 1 + 1 + 1, 0, none⟩ (Value.slice none 0 0) = W := ⟨_, rfl⟩
    have kst : Keep [w.heap.size + 1 + 1 + 1] W2 W3 := hW3 ▸ (Keep.refl _ W2).setCell _ _ _ (.inl (by simp))
    have HS4 := Lib.hid (HS2.out.keep kst (by simp; omega))
    have HR4 := Lib.hid (HR2.out.keep kst (by simp))
    have HX4 := Lib.hid (HX2.out.keep kst (by simp))
    have HU4 : Hid (SxAt W3 (w.heap.size + 1 + 1 + 1) (Value.slice none 0 0)) := Lib.hid (hW3 ▸ HU2.out.set _)
    have HOA4 := Lib.hid (own_keep HOA.out kst hob)
    have HOW4 := Lib.hid (own_keep HOW2.out kst (fun g' hg' => by have := HOL g' hg'; simp; omega))
    have HB4 := Lib.hid (HB2.out.trans (kst.below HB2.out.size (by simp; omega)))
    have HZ4 := Lib.hid (Nat.le_trans HZ2.out kst.size)
    obtain ⟨b0, bf⟩ := HU2.out.cells
    obtain ⟨u0, uf⟩ := HU4.out.cells
    obtain ⟨x0, x1, x2, x3, x4, x5, x6, x7, x8, x9, xf⟩ := HX4.out.all
    simp only at x0 x1 x2 x3 x4 x5 x6 x7 x8 x9
    clear hob kst HS2 HR2 HX2 HU2 HOA HOW2 HB2 HZ2
    obtain ⟨i0, hi0, hz0, hz1, hz2⟩ := info_parts infoOt
    go_wp2_with (at_builtin; first | (refine wpList_append_none rfl _ _ 38 rfl (w.heap.size + 4) 33 i0 10 Try.underlying38 hi0 _ _ _ rfl (World.ownsRow_nil _ _ _ _) rfl ?_) | (refine wpList_append_own _ rfl _ _ 38 rfl (w.heap.size + 4) 33 i0 (Ot.val ⟨ByteArray.empty, 0, Ag.zero⟩) 10 88 Try.underlying38 hi0 hz0 hz1 hz2 rfl (by decide) _ _ _ rfl (HOA4.out.alloc _) ⟨W3.heap.size, 0, none⟩ 1 1 [.string ok, .int .i64 os, .int .i64 o1, .int .i64 o2, .int .i64 o3, .int .i64 o4, .int .i64 o5, .int .i64 o6, .int .i64 o7, .int .i64 o8] rfl rfl ?c1 ?c2 ?c3 ?c4 ?c5 ?_))
    case c1 => exact cells_new _ _ _ _ rfl
    case c2 => simp [Value.oneCell']
    case c3 => unfold maxLen; omega
    case c4 => omega
    case c5 => have := HZ4.out; simp; omega
    clear hW3 b0 bf
    intro v2 w5 hown' hgrow _
    have kw : Keep (Value.slice none 0 0).ownBlock.toList W3 w5 := ((Keep.refl _ W3).alloc _).grown hgrow (fun k hk => .inl (by simp [hk]))
    have HOA : Hid (w5.ownsRow (w.heap.size + 4) 33 10 v2 1 (flatE Ot.enc [⟨ok, os, ⟨o1, o2, o3, o4, o5, o6, o7, o8⟩⟩])) := Lib.hid hown'
    have hob : ∀ y, y < w.heap.size + 4 → y ∉ (Value.slice none 0 0).ownBlock.toList := fun y hy hm => by simp [Value.ownBlock] at hm
    clear hown' hgrow u0 uf x0 x1 x2 x3 x4 x5 x6 x7 x8 x9 xf
    have HS5 := Lib.hid (HS4.out.keep kw (hob _ (by omega)))
    have HR5 := Lib.hid (HR4.out.keep kw (hob _ (by omega)))
    have HU5 := Lib.hid (HU4.out.keep kw (hob _ (by omega)))
    have HX5 := Lib.hid (HX4.out.keep kw (hob _ (by omega)))
    have HOW5 := Lib.hid (own_keep HOW4.out kw (fun g' hg' => hob _ (by have := HOL g' hg'; omega)))
    have HB5 := Lib.hid (HB4.out.trans (kw.below HB4.out.size (fun y hy => by have := own_base HOA4.out y (by simpa using hy); omega)))
    have HZ5 := Lib.hid (Nat.le_trans HZ4.out kw.size)
    clear kw HS4 HR4 HU4 HX4 HOW4 HB4 HZ4 hob HOA4
    obtain ⟨av2, cv2, rfl, _⟩ := own_shape HOA.out
    have hob : ∀ g', (Value.slice av2 1 cv2).ownBlock = some g' → g' ∉ [w.heap.size + 1 + 1 + 1] := fun g' hg' => by have := own_base HOA.out g' hg'; simp; omega
    obtain ⟨W5, hW5⟩ : ∃ W, w5.setCell ⟨w.heap.size + 1 + 1 + 1, 0, none⟩ (Value.slice av2 1 cv2) = W := ⟨_, rfl⟩
    have kst : Keep [w.heap.size + 1 + 1 + 1] w5 W5 := hW5 ▸ (Keep.refl _ w5).setCell _ _ _ (.inl (by simp))
    have HS6 := Lib.hid (HS5.out.keep kst (by simp; omega))
    have HR6 := Lib.hid (HR5.out.keep kst (by simp))
    have HX6 := Lib.hid (HX5.out.keep kst (by simp))
    have HU6 : Hid (SxAt W5 (w.heap.size + 1 + 1 + 1) (Value.slice av2 1 cv2)) := Lib.hid (hW5 ▸ HU5.out.set _)
    have HOA6 := Lib.hid (own_keep HOA.out kst hob)
    have HOW6 := Lib.hid (own_keep HOW5.out kst (fun g' hg' => by have := HOL g' hg'; simp; omega))
    have HB6 := Lib.hid (HB5.out.trans (kst.below HB5.out.size (by simp; omega)))
    have HZ6 := Lib.hid (Nat.le_trans HZ5.out kst.size)
    obtain ⟨b0, bf⟩ := HU5.out.cells
    obtain ⟨u0, uf⟩ := HU6.out.cells
    obtain ⟨x0, x1, x2, x3, x4, x5, x6, x7, x8, x9, xf⟩ := HX6.out.all
    simp only at x0 x1 x2 x3 x4 x5 x6 x7 x8 x9
    clear hob kst HS5 HR5 HX5 HU5 HOA HOW5 HB5 HZ5
    have HSL2 := Lib.hid (fun W => (slice_nil0 W).2)
    go_wp2_with (fail)
    clear hW5 b0 bf u0 uf x0 x1 x2 x3 x4 x5 x6 x7 x8 x9 xf
    refine wp_region_soup 6 [] (spOf []) (by kernel_rfl) (by kernel_rfl) (spOk_of (by simp [Spec.is_ok])) (pre_of (by simp [Spec.is_ok])) ?_
    simp only [List.take_succ_cons, List.take_zero, List.drop_succ_cons, List.drop_zero]
    iterate 6
      with_reducible refine soup_q ?_ ?_ ?_
      · rfl
      · rfl
      with_reducible apply Exists.intro
      with_reducible refine ⟨fun W hk _ => ?_, ?_⟩
      · obtain ⟨s0, sf⟩ := (HS6.out.keep hk).cells
        obtain ⟨u0, uf⟩ := (HU6.out.keep hk).cells
        have hsl := HSL2.out
        unfold Oper.same
        go_simp
        first | rfl | exact ⟨rfl, rfl⟩
      with_reducible apply Exists.intro
      with_reducible refine ⟨?_, ?_⟩
      · go_simp
        rfl
    refine soup_nil (fun W6 hk hS => ?_)
    have HS7 := Lib.hid (HS6.out.keep hk)
    have HX7 := Lib.hid (HX6.out.keep hk)
    have HR7 := Lib.hid (HR6.out.keep hk)
    have HU7 := Lib.hid (HU6.out.keep hk)
    have HOW7 := Lib.hid (own_keep HOW6.out hk (fun _ _ => by simp))
    have HOA7 := Lib.hid (own_keep HOA6.out hk (fun _ _ => by simp))
    have HOA := HOA7
    have HB7 := Lib.hid (HB6.out.trans (hk.below HB6.out.size (by simp)))
    have HZ7 := Lib.hid (Nat.le_trans HZ6.out hk.size)
    clear hk hS HS6 HX6 HR6 HU6 HOW6 HOA6 HB6 HZ6 HSL2
    have hob : ∀ g', (Value.slice av2 1 cv2).ownBlock = some g' → g' ∉ [w.heap.size + 1 + 1 + 1] := fun g' hg' => by have := own_base HOA.out g' hg'; simp; omega
    obtain ⟨W8, hW8⟩ : ∃ W, W6.setCell ⟨w.heap.size + 1 + 1 + 1, 0, none⟩ (Value.slice av2 1 cv2) = W := ⟨_, rfl⟩
    have kst : Keep [w.heap.size + 1 + 1 + 1] W6 W8 := hW8 ▸ (Keep.refl _ W6).setCell _ _ _ (.inl (by simp))
    have HS9 := Lib.hid (HS7.out.keep kst (by simp; omega))
    have HR9 := Lib.hid (HR7.out.keep kst (by simp))
    have HX9 := Lib.hid (HX7.out.keep kst (by simp))
    have HU9 : Hid (SxAt W8 (w.heap.size + 1 + 1 + 1) (Value.slice av2 1 cv2)) := Lib.hid (hW8 ▸ HU7.out.set _)
    have HOA9 := Lib.hid (own_keep HOA.out kst hob)
    have HOW9 := Lib.hid (own_keep HOW7.out kst (fun g' hg' => by have := HOL g' hg'; simp; omega))
    have HB9 := Lib.hid (HB7.out.trans (kst.below HB7.out.size (by simp; omega)))
    have HZ9 := Lib.hid (Nat.le_trans HZ7.out kst.size)
    obtain ⟨b0, bf⟩ := HU7.out.cells
    obtain ⟨u0, uf⟩ := HU9.out.cells
    obtain ⟨x0, x1, x2, x3, x4, x5, x6, x7, x8, x9, xf⟩ := HX9.out.all
    simp only at x0 x1 x2 x3 x4 x5 x6 x7 x8 x9
    clear hob kst HS7 HR7 HX7 HU7 HOA HOW7 HB7 HZ7
    obtain ⟨r0, rf⟩ := HR9.out.cells
    obtain ⟨i0, hi0, hz0, hz1, hz2⟩ := info_parts infoOt
    go_wp2_with (at_builtin; refine wpList_append_none rfl _ _ 38 rfl (w.heap.size + 4) 33 i0 10 Try.underlying38 hi0 _ _ _ rfl HOA7.out rfl ?_)
    have zc : ∀ u, (W8.setCell ⟨w.heap.size + 1 + 1, 0, none⟩ u).cell? ⟨w.heap.size + 1 + 1, 0, none⟩ = some u := fun u => (HR9.out.set u).cells.1
    have kf : ∀ u, Keep [w.heap.size + 1 + 1] W8 (W8.setCell ⟨w.heap.size + 1 + 1, 0, none⟩ u) := fun u => (Keep.refl _ W8).setCell _ _ _ (.inl (by simp))
    have HFO : Hid (∀ u, (W8.setCell ⟨w.heap.size + 1 + 1, 0, none⟩ u).ownsRow (w.heap.size + 4) 33 10 (Value.slice av2 1 cv2) 1 (flatE Ot.enc (withL [] ⟨ok, os, ⟨o1, o2, o3, o4, o5, o6, o7, o8⟩⟩ 0 false))) := Lib.hid (fun u => own_keep HOA9.out (kf u) (fun g' hg' => by have := own_base HOA9.out g' hg'; simp; omega))
    have HFB : Hid (∀ u, Below w.heap.size w (W8.setCell ⟨w.heap.size + 1 + 1, 0, none⟩ u)) := Lib.hid (fun u => HB9.out.trans ((kf u).below HB9.out.size (by simp; omega)))
    exact bodyPost_ret (v := .agg #[(Value.slice av2 1 cv2)]) (by simp [results, Try.results67, go_sem, zc]) rfl ⟨_, rfl, by unfold DocRow; exact own_mono (HFO.out _) (by omega), HFB.out _⟩
  · subst hv
    have HOL : ∀ g', (Value.slice (some ⟨g, 0, none⟩) L.length cap).ownBlock = some g' → g' < w.heap.size := fun g' hg' => HOL.out g' hg'
    clear hbg hg' hcs htk hc h
    cases inst with
    | true =>
      have hi2' := hi2 rfl
      clear hi2
      have hz63 : (i : Int) ≤ 1000 := by omega
      have HSL := Lib.hid (fun W => slice_take g L.length cap i (by omega) W)
      refine wp_region_soup 6 [] (spOf []) (by kernel_rfl) (by kernel_rfl) (spOk_of (by simp [Spec.is_ok])) (pre_of (by simp [Spec.is_ok])) ?_
      simp only [List.take_succ_cons, List.take_zero, List.drop_succ_cons, List.drop_zero]
      iterate 6
        with_reducible refine soup_q ?_ ?_ ?_
        · rfl
        · rfl
        with_reducible apply Exists.intro
        with_reducible refine ⟨fun W hk _ => ?_, ?_⟩
        · obtain ⟨s0, sf⟩ := (HS.out.keep hk).cells
          obtain ⟨u0, uf⟩ := (HU.out.keep hk).cells
          have hsl := HSL.out
          unfold Oper.same
          go_simp
          first | rfl | exact ⟨rfl, rfl⟩
        with_reducible apply Exists.intro
        with_reducible refine ⟨?_, ?_⟩
        · go_simp
          rfl
      refine soup_nil (fun W2 hk hS => ?_)
      have HS2 := Lib.hid (HS.out.keep hk)
      have HX2 := Lib.hid (HX.out.keep hk)
      have HR2 := Lib.hid (HR.out.keep hk)
      have HU2 := Lib.hid (HU.out.keep hk)
      have HOW2 := Lib.hid (own_keep HOW.out hk (fun _ _ => by simp))
      have HB2 := Lib.hid (HB.out.trans (hk.below HB.out.size (by simp)))
      have HZ2 := Lib.hid (show w.heap.size + 4 ≤ W2.heap.size from by have := HSZ.out; have := hk.size; omega)
      clear hk hS HS HX HR HU HOW HB HSZ HSL
      obtain ⟨i0, hi0, hz0, hz1, hz2⟩ := info_parts infoOt
      go_wp2_with (at_builtin; refine wpList_append_own _ rfl _ _ 38 rfl (w.heap.size + 4) 33 i0 (Ot.val ⟨ByteArray.empty, 0, Ag.zero⟩) 10 88 Try.underlying38 hi0 hz0 hz1 hz2 rfl (by decide) _ _ _ rfl (World.ownsRow_nil _ _ _ _) ⟨g, 0, none⟩ i cap (flatE Ot.enc (L.take i)) rfl (by rw [flatE_len otlen, List.length_take, Nat.min_eq_left hi]) ?c1 ?c2 ?c3 ?c4 ?c5 ?_)
      case c1 =>
        intro j u hj
        rw [add_at, Nat.zero_add]
        refine own_cells HOW2.out ?_
        rw [← List.take_append_drop i L, flatE_app, List.getElem?_append_left ((List.getElem?_eq_some_iff.1 hj).1)]
        exact hj
      case c2 => exact flatE_one _
      case c3 => unfold maxLen; omega
      case c4 => omega
      case c5 => exact HZ2.out
      intro v1 w3 hown' hgrow _
      have kw : Keep [] W2 w3 := (Keep.refl [] W2).grown hgrow (fun k hk => by simp [Value.ownBlock] at hk)
      have HOA : Hid (w3.ownsRow (w.heap.size + 4) 33 10 v1 i (flatE Ot.enc (L.take i))) := Lib.hid (by simpa using hown')
      have HS3 := Lib.hid (HS2.out.keep kw (by simp))
      have HR3 := Lib.hid (HR2.out.keep kw (by simp))
      have HU3 := Lib.hid (HU2.out.keep kw (by simp))
      have HX3 := Lib.hid (HX2.out.keep kw (by simp))
      have HOW3 := Lib.hid (own_keep HOW2.out kw (fun g' hg' => by simp))
      have HB3 := Lib.hid (HB2.out.trans (kw.below HB2.out.size (fun y hy => by simp at hy)))
      have HZ3 := Lib.hid (Nat.le_trans HZ2.out kw.size)
      clear kw HS2 HR2 HU2 HX2 HOW2 HB2 HZ2
      obtain ⟨av1, cv1, rfl, _⟩ := own_shape HOA.out
      have hob : ∀ g', (Value.slice av1 i cv1).ownBlock = some g' → g' ∉ [w.heap.size + 1 + 1 + 1] := fun g' hg' => by have := own_base HOA.out g' hg'; simp; omega
      obtain ⟨W3, hW3⟩ : ∃ W, w3.setCell ⟨w.heap.size + 1 + 1 + 1, 0, none⟩ (Value.slice av1 i cv1) = W := ⟨_, rfl⟩
      have kst : Keep [w.heap.size + 1 + 1 + 1] w3 W3 := hW3 ▸ (Keep.refl _ w3).setCell _ _ _ (.inl (by simp))
      have HS4 := Lib.hid (HS3.out.keep kst (by simp; omega))
      have HR4 := Lib.hid (HR3.out.keep kst (by simp))
      have HX4 := Lib.hid (HX3.out.keep kst (by simp))
      have HU4 : Hid (SxAt W3 (w.heap.size + 1 + 1 + 1) (Value.slice av1 i cv1)) := Lib.hid (hW3 ▸ HU3.out.set _)
      have HOA4 := Lib.hid (own_keep HOA.out kst hob)
      have HOW4 := Lib.hid (own_keep HOW3.out kst (fun g' hg' => by have := HOL g' hg'; simp; omega))
      have HB4 := Lib.hid (HB3.out.trans (kst.below HB3.out.size (by simp; omega)))
      have HZ4 := Lib.hid (Nat.le_trans HZ3.out kst.size)
      obtain ⟨b0, bf⟩ := HU3.out.cells
      obtain ⟨u0, uf⟩ := HU4.out.cells
      obtain ⟨x0, x1, x2, x3, x4, x5, x6, x7, x8, x9, xf⟩ := HX4.out.all
      simp only at x0 x1 x2 x3 x4 x5 x6 x7 x8 x9
      clear hob kst HS3 HR3 HX3 HU3 HOA HOW3 HB3 HZ3
      obtain ⟨i0, hi0, hz0, hz1, hz2⟩ := info_parts infoOt
      go_wp2_with (at_builtin; refine wpList_append_own _ rfl _ _ 38 rfl (w.heap.size + 4) 33 i0 (Ot.val ⟨ByteArray.empty, 0, Ag.zero⟩) 10 88 Try.underlying38 hi0 hz0 hz1 hz2 rfl (by decide) _ _ _ rfl (HOA4.out.alloc _) ⟨W3.heap.size, 0, none⟩ 1 1 [.string ok, .int .i64 os, .int .i64 o1, .int .i64 o2, .int .i64 o3, .int .i64 o4, .int .i64 o5, .int .i64 o6, .int .i64 o7, .int .i64 o8] rfl rfl ?c1 ?c2 ?c3 ?c4 ?c5 ?_)
      case c1 => exact cells_new _ _ _ _ rfl
      case c2 => simp [Value.oneCell']
      case c3 => unfold maxLen; omega
      case c4 => omega
      case c5 => have := HZ4.out; simp; omega
      clear hW3 b0 bf
      intro v2 w5 hown' hgrow _
      have kw : Keep (Value.slice av1 i cv1).ownBlock.toList W3 w5 := ((Keep.refl _ W3).alloc _).grown hgrow (fun k hk => .inl (by simp [hk]))
      have HOA : Hid (w5.ownsRow (w.heap.size + 4) 33 10 v2 (i + 1) (flatE Ot.enc (L.take i ++ [⟨ok, os, ⟨o1, o2, o3, o4, o5, o6, o7, o8⟩⟩]))) := Lib.hid (by rw [flatE_app]; exact hown')
      have hob : ∀ y, y < w.heap.size + 4 → y ∉ (Value.slice av1 i cv1).ownBlock.toList := fun y hy hm => by have := own_base HOA4.out y (by simpa using hm); omega
      clear hown' hgrow u0 uf x0 x1 x2 x3 x4 x5 x6 x7 x8 x9 xf
      have HS5 := Lib.hid (HS4.out.keep kw (hob _ (by omega)))
      have HR5 := Lib.hid (HR4.out.keep kw (hob _ (by omega)))
      have HU5 := Lib.hid (HU4.out.keep kw (hob _ (by omega)))
      have HX5 := Lib.hid (HX4.out.keep kw (hob _ (by omega)))
      have HOW5 := Lib.hid (own_keep HOW4.out kw (fun g' hg' => hob _ (by have := HOL g' hg'; omega)))
      have HB5 := Lib.hid (HB4.out.trans (kw.below HB4.out.size (fun y hy => by have := own_base HOA4.out y (by simpa using hy); omega)))
      have HZ5 := Lib.hid (Nat.le_trans HZ4.out kw.size)
      clear kw HS4 HR4 HU4 HX4 HOW4 HB4 HZ4 hob HOA4
      obtain ⟨av2, cv2, rfl, _⟩ := own_shape HOA.out
      have hob : ∀ g', (Value.slice av2 (i + 1) cv2).ownBlock = some g' → g' ∉ [w.heap.size + 1 + 1 + 1] := fun g' hg' => by have := own_base HOA.out g' hg'; simp; omega
      obtain ⟨W5, hW5⟩ : ∃ W, w5.setCell ⟨w.heap.size + 1 + 1 + 1, 0, none⟩ (Value.slice av2 (i + 1) cv2) = W := ⟨_, rfl⟩
      have kst : Keep [w.heap.size + 1 + 1 + 1] w5 W5 := hW5 ▸ (Keep.refl _ w5).setCell _ _ _ (.inl (by simp))
      have HS6 := Lib.hid (HS5.out.keep kst (by simp; omega))
      have HR6 := Lib.hid (HR5.out.keep kst (by simp))
      have HX6 := Lib.hid (HX5.out.keep kst (by simp))
      have HU6 : Hid (SxAt W5 (w.heap.size + 1 + 1 + 1) (Value.slice av2 (i + 1) cv2)) := Lib.hid (hW5 ▸ HU5.out.set _)
      have HOA6 := Lib.hid (own_keep HOA.out kst hob)
      have HOW6 := Lib.hid (own_keep HOW5.out kst (fun g' hg' => by have := HOL g' hg'; simp; omega))
      have HB6 := Lib.hid (HB5.out.trans (kst.below HB5.out.size (by simp; omega)))
      have HZ6 := Lib.hid (Nat.le_trans HZ5.out kst.size)
      obtain ⟨b0, bf⟩ := HU5.out.cells
      obtain ⟨u0, uf⟩ := HU6.out.cells
      obtain ⟨x0, x1, x2, x3, x4, x5, x6, x7, x8, x9, xf⟩ := HX6.out.all
      simp only at x0 x1 x2 x3 x4 x5 x6 x7 x8 x9
      clear hob kst HS5 HR5 HX5 HU5 HOA HOW5 HB5 HZ5
      have hsl2 := fun W => slice_drop g L.length cap (i + 1) (by omega) W
      rw [show (((i + 1 : Nat)) : Int) = (i : Int) + 1 from rfl] at hsl2
      obtain ⟨off2, hoff⟩ : ∃ x, (if cap = (i + 1) then 0 else (i + 1) * 10) = x := ⟨_, rfl⟩
      rw [hoff] at hsl2
      have HOFF : Hid (cap = (i + 1) ∨ off2 = (i + 1) * 10) := Lib.hid (by by_cases hc : cap = (i + 1); exact .inl hc; rw [if_neg hc] at hoff; exact .inr hoff.symm)
      have HSL2 := Lib.hid hsl2
      clear hsl2 hoff
      go_wp2_with (fail)
      clear hW5 b0 bf u0 uf x0 x1 x2 x3 x4 x5 x6 x7 x8 x9 xf
      refine wp_region_soup 6 [] (spOf []) (by kernel_rfl) (by kernel_rfl) (spOk_of (by simp [Spec.is_ok])) (pre_of (by simp [Spec.is_ok])) ?_
      simp only [List.take_succ_cons, List.take_zero, List.drop_succ_cons, List.drop_zero]
      iterate 6
        with_reducible refine soup_q ?_ ?_ ?_
        · rfl
        · rfl
        with_reducible apply Exists.intro
        with_reducible refine ⟨fun W hk _ => ?_, ?_⟩
        · obtain ⟨s0, sf⟩ := (HS6.out.keep hk).cells
          obtain ⟨u0, uf⟩ := (HU6.out.keep hk).cells
          have hsl := HSL2.out
          unfold Oper.same
          go_simp
          first | rfl | exact ⟨rfl, rfl⟩
        with_reducible apply Exists.intro
        with_reducible refine ⟨?_, ?_⟩
        · go_simp
          rfl
      refine soup_nil (fun W6 hk hS => ?_)
      have HS7 := Lib.hid (HS6.out.keep hk)
      have HX7 := Lib.hid (HX6.out.keep hk)
      have HR7 := Lib.hid (HR6.out.keep hk)
      have HU7 := Lib.hid (HU6.out.keep hk)
      have HOW7 := Lib.hid (own_keep HOW6.out hk (fun _ _ => by simp))
      have HOA7 := Lib.hid (own_keep HOA6.out hk (fun _ _ => by simp))
      have HB7 := Lib.hid (HB6.out.trans (hk.below HB6.out.size (by simp)))
      have HZ7 := Lib.hid (Nat.le_trans HZ6.out hk.size)
      clear hk hS HS6 HX6 HR6 HU6 HOW6 HOA6 HB6 HZ6 HSL2
      obtain ⟨i0, hi0, hz0, hz1, hz2⟩ := info_parts infoOt
      go_wp2_with (at_builtin; refine wpList_append_own _ rfl _ _ 38 rfl (w.heap.size + 4) 33 i0 (Ot.val ⟨ByteArray.empty, 0, Ag.zero⟩) 10 88 Try.underlying38 hi0 hz0 hz1 hz2 rfl (by decide) _ _ _ rfl HOA7.out ⟨g, off2, none⟩ (L.length - (i + 1)) (cap - (i + 1)) (flatE Ot.enc (L.drop (i + 1))) rfl (by rw [flatE_len otlen, List.length_drop]) ?c1 ?c2 ?c3 ?c4 ?c5 ?_)
      case c1 =>
        intro j u hj
        rw [add_at]
        have hjl := (List.getElem?_eq_some_iff.1 hj).1
        rw [flatE_len otlen, List.length_drop] at hjl
        rcases HOFF.out with hof | rfl
        · have := own_cap HOW7.out; omega
        refine own_cells HOW7.out ?_
        rw [flatE_drop, List.getElem?_drop] at hj
        exact hj
      case c2 => exact flatE_one _
      case c3 => unfold maxLen; omega
      case c4 => omega
      case c5 => have := HZ7.out; omega
      intro v3 w8 hown' hgrow _
      have kw : Keep (Value.slice av2 (i + 1) cv2).ownBlock.toList W6 w8 := (Keep.refl _ W6).grown hgrow (fun k hk => .inl (by simp [hk]))
      have HOA : Hid (w8.ownsRow (w.heap.size + 4) 33 10 v3 (i + 1 + (L.length - (i + 1))) (flatE Ot.enc (L.take i ++ [⟨ok, os, ⟨o1, o2, o3, o4, o5, o6, o7, o8⟩⟩] ++ L.drop (i + 1)))) := Lib.hid (by rw [flatE_app _ (L.drop (i + 1))]; exact hown')
      have hob : ∀ y, y < w.heap.size + 4 → y ∉ (Value.slice av2 (i + 1) cv2).ownBlock.toList := fun y hy hm => by have := own_base HOA7.out y (by simpa using hm); omega
      clear hown' hgrow
      have HS8 := Lib.hid (HS7.out.keep kw (hob _ (by omega)))
      have HR8 := Lib.hid (HR7.out.keep kw (hob _ (by omega)))
      have HU8 := Lib.hid (HU7.out.keep kw (hob _ (by omega)))
      have HX8 := Lib.hid (HX7.out.keep kw (hob _ (by omega)))
      have HOW8 := Lib.hid (own_keep HOW7.out kw (fun g' hg' => hob _ (by have := HOL g' hg'; omega)))
      have HB8 := Lib.hid (HB7.out.trans (kw.below HB7.out.size (fun y hy => by have := own_base HOA7.out y (by simpa using hy); omega)))
      have HZ8 := Lib.hid (Nat.le_trans HZ7.out kw.size)
      clear kw HS7 HR7 HU7 HX7 HOW7 HB7 HZ7 hob HOA7
      obtain ⟨av3, cv3, rfl, _⟩ := own_shape HOA.out
      have hob : ∀ g', (Value.slice av3 (i + 1 + (L.length - (i + 1))) cv3).ownBlock = some g' → g' ∉ [w.heap.size + 1 + 1 + 1] := fun g' hg' => by have := own_base HOA.out g' hg'; simp; omega
      obtain ⟨W8, hW8⟩ : ∃ W, w8.setCell ⟨w.heap.size + 1 + 1 + 1, 0, none⟩ (Value.slice av3 (i + 1 + (L.length - (i + 1))) cv3) = W := ⟨_, rfl⟩
      have kst : Keep [w.heap.size + 1 + 1 + 1] w8 W8 := hW8 ▸ (Keep.refl _ w8).setCell _ _ _ (.inl (by simp))
      have HS9 := Lib.hid (HS8.out.keep kst (by simp; omega))
      have HR9 := Lib.hid (HR8.out.keep kst (by simp))
      have HX9 := Lib.hid (HX8.out.keep kst (by simp))
      have HU9 : Hid (SxAt W8 (w.heap.size + 1 + 1 + 1) (Value.slice av3 (i + 1 + (L.length - (i + 1))) cv3)) := Lib.hid (hW8 ▸ HU8.out.set _)
      have HOA9 := Lib.hid (own_keep HOA.out kst hob)
      have HOW9 := Lib.hid (own_keep HOW8.out kst (fun g' hg' => by have := HOL g' hg'; simp; omega))
      have HB9 := Lib.hid (HB8.out.trans (kst.below HB8.out.size (by simp; omega)))
      have HZ9 := Lib.hid (Nat.le_trans HZ8.out kst.size)
      obtain ⟨b0, bf⟩ := HU8.out.cells
      obtain ⟨u0, uf⟩ := HU9.out.cells
      obtain ⟨x0, x1, x2, x3, x4, x5, x6, x7, x8, x9, xf⟩ := HX9.out.all
      simp only at x0 x1 x2 x3 x4 x5 x6 x7 x8 x9
      clear hob kst HS8 HR8 HX8 HU8 HOA HOW8 HB8 HZ8
      obtain ⟨r0, rf⟩ := HR9.out.cells
      go_wp2_with (fail)
      have zc : ∀ u, (W8.setCell ⟨w.heap.size + 1 + 1, 0, none⟩ u).cell? ⟨w.heap.size + 1 + 1, 0, none⟩ = some u := fun u => (HR9.out.set u).cells.1
      have kf : ∀ u, Keep [w.heap.size + 1 + 1] W8 (W8.setCell ⟨w.heap.size + 1 + 1, 0, none⟩ u) := fun u => (Keep.refl _ W8).setCell _ _ _ (.inl (by simp))
      have HFO : Hid (∀ u, (W8.setCell ⟨w.heap.size + 1 + 1, 0, none⟩ u).ownsRow (w.heap.size + 4) 33 10 (Value.slice av3 (i + 1 + (L.length - (i + 1))) cv3) (i + 1 + (L.length - (i + 1))) (flatE Ot.enc (withL L ⟨ok, os, ⟨o1, o2, o3, o4, o5, o6, o7, o8⟩⟩ i true))) := Lib.hid (fun u => own_keep HOA9.out (kf u) (fun g' hg' => by have := own_base HOA9.out g' hg'; simp; omega))
      have HFB : Hid (∀ u, Below w.heap.size w (W8.setCell ⟨w.heap.size + 1 + 1, 0, none⟩ u)) := Lib.hid (fun u => HB9.out.trans ((kf u).below HB9.out.size (by simp; omega)))
      exact bodyPost_ret (v := .agg #[(Value.slice av3 (i + 1 + (L.length - (i + 1))) cv3)]) (by simp [results, Try.results67, go_sem, zc]) rfl ⟨_, rfl, by unfold DocRow; rw [withL_len _ _ hi]; exact own_mono (HFO.out _) (by omega), HFB.out _⟩
    | false =>
      clear hi2
      have hz63 : (i : Int) ≤ 1000 := by omega
      have HSL := Lib.hid (fun W => slice_take g L.length cap i (by omega) W)
      refine wp_region_soup 6 [] (spOf []) (by kernel_rfl) (by kernel_rfl) (spOk_of (by simp [Spec.is_ok])) (pre_of (by simp [Spec.is_ok])) ?_
      simp only [List.take_succ_cons, List.take_zero, List.drop_succ_cons, List.drop_zero]
      iterate 6
        with_reducible refine soup_q ?_ ?_ ?_
        · rfl
        · rfl
        with_reducible apply Exists.intro
        with_reducible refine ⟨fun W hk _ => ?_, ?_⟩
        · obtain ⟨s0, sf⟩ := (HS.out.keep hk).cells
          obtain ⟨u0, uf⟩ := (HU.out.keep hk).cells
          have hsl := HSL.out
          unfold Oper.same
          go_simp
          first | rfl | exact ⟨rfl, rfl⟩
        with_reducible apply Exists.intro
        with_reducible refine ⟨?_, ?_⟩
        · go_simp
          rfl
      refine soup_nil (fun W2 hk hS => ?_)
      have HS2 := Lib.hid (HS.out.keep hk)
      have HX2 := Lib.hid (HX.out.keep hk)
      have HR2 := Lib.hid (HR.out.keep hk)
      have HU2 := Lib.hid (HU.out.keep hk)
      have HOW2 := Lib.hid (own_keep HOW.out hk (fun _ _ => by simp))
      have HB2 := Lib.hid (HB.out.trans (hk.below HB.out.size (by simp)))
      have HZ2 := Lib.hid (show w.heap.size + 4 ≤ W2.heap.size from by have := HSZ.out; have := hk.size; omega)
      clear hk hS HS HX HR HU HOW HB HSZ HSL
      obtain ⟨i0, hi0, hz0, hz1, hz2⟩ := info_parts infoOt
      go_wp2_with (at_builtin; refine wpList_append_own _ rfl _ _ 38 rfl (w.heap.size + 4) 33 i0 (Ot.val ⟨ByteArray.empty, 0, Ag.zero⟩) 10 88 Try.underlying38 hi0 hz0 hz1 hz2 rfl (by decide) _ _ _ rfl (World.ownsRow_nil _ _ _ _) ⟨g, 0, none⟩ i cap (flatE Ot.enc (L.take i)) rfl (by rw [flatE_len otlen, List.length_take, Nat.min_eq_left hi]) ?c1 ?c2 ?c3 ?c4 ?c5 ?_)
      case c1 =>
        intro j u hj
        rw [add_at, Nat.zero_add]
        refine own_cells HOW2.out ?_
        rw [← List.take_append_drop i L, flatE_app, List.getElem?_append_left ((List.getElem?_eq_some_iff.1 hj).1)]
        exact hj
      case c2 => exact flatE_one _
      case c3 => unfold maxLen; omega
      case c4 => omega
      case c5 => exact HZ2.out
      intro v1 w3 hown' hgrow _
      have kw : Keep [] W2 w3 := (Keep.refl [] W2).grown hgrow (fun k hk => by simp [Value.ownBlock] at hk)
      have HOA : Hid (w3.ownsRow (w.heap.size + 4) 33 10 v1 i (flatE Ot.enc (L.take i))) := Lib.hid (by simpa using hown')
      have HS3 := Lib.hid (HS2.out.keep kw (by simp))
      have HR3 := Lib.hid (HR2.out.keep kw (by simp))
      have HU3 := Lib.hid (HU2.out.keep kw (by simp))
      have HX3 := Lib.hid (HX2.out.keep kw (by simp))
      have HOW3 := Lib.hid (own_keep HOW2.out kw (fun g' hg' => by simp))
      have HB3 := Lib.hid (HB2.out.trans (kw.below HB2.out.size (fun y hy => by simp at hy)))
      have HZ3 := Lib.hid (Nat.le_trans HZ2.out kw.size)
      clear kw HS2 HR2 HU2 HX2 HOW2 HB2 HZ2
      obtain ⟨av1, cv1, rfl, _⟩ := own_shape HOA.out
      have hob : ∀ g', (Value.slice av1 i cv1).ownBlock = some g' → g' ∉ [w.heap.size + 1 + 1 + 1] := fun g' hg' => by have := own_base HOA.out g' hg'; simp; omega
      obtain ⟨W3, hW3⟩ : ∃ W, w3.setCell ⟨w.heap.size + 1 + 1 + 1, 0, none⟩ (Value.slice av1 i cv1) = W := ⟨_, rfl⟩
      have kst : Keep [w.heap.size + 1 + 1 + 1] w3 W3 := hW3 ▸ (Keep.refl _ w3).setCell _ _ _ (.inl (by simp))
      have HS4 := Lib.hid (HS3.out.keep kst (by simp; omega))
      have HR4 := Lib.hid (HR3.out.keep kst (by simp))
      have HX4 := Lib.hid (HX3.out.keep kst (by simp))
      have HU4 : Hid (SxAt W3 (w.heap.size + 1 + 1 + 1) (Value.slice av1 i cv1)) := Lib.hid (hW3 ▸ HU3.out.set _)
      have HOA4 := Lib.hid (own_keep HOA.out kst hob)
      have HOW4 := Lib.hid (own_keep HOW3.out kst (fun g' hg' => by have := HOL g' hg'; simp; omega))
      have HB4 := Lib.hid (HB3.out.trans (kst.below HB3.out.size (by simp; omega)))
      have HZ4 := Lib.hid (Nat.le_trans HZ3.out kst.size)
      obtain ⟨b0, bf⟩ := HU3.out.cells
      obtain ⟨u0, uf⟩ := HU4.out.cells
      obtain ⟨x0, x1, x2, x3, x4, x5, x6, x7, x8, x9, xf⟩ := HX4.out.all
      simp only at x0 x1 x2 x3 x4 x5 x6 x7 x8 x9
      clear hob kst HS3 HR3 HX3 HU3 HOA HOW3 HB3 HZ3
      obtain ⟨i0, hi0, hz0, hz1, hz2⟩ := info_parts infoOt
      go_wp2_with (at_builtin; refine wpList_append_own _ rfl _ _ 38 rfl (w.heap.size + 4) 33 i0 (Ot.val ⟨ByteArray.empty, 0, Ag.zero⟩) 10 88 Try.underlying38 hi0 hz0 hz1 hz2 rfl (by decide) _ _ _ rfl (HOA4.out.alloc _) ⟨W3.heap.size, 0, none⟩ 1 1 [.string ok, .int .i64 os, .int .i64 o1, .int .i64 o2, .int .i64 o3, .int .i64 o4, .int .i64 o5, .int .i64 o6, .int .i64 o7, .int .i64 o8] rfl rfl ?c1 ?c2 ?c3 ?c4 ?c5 ?_)
      case c1 => exact cells_new _ _ _ _ rfl
      case c2 => simp [Value.oneCell']
      case c3 => unfold maxLen; omega
      case c4 => omega
      case c5 => have := HZ4.out; simp; omega
      clear hW3 b0 bf
      intro v2 w5 hown' hgrow _
      have kw : Keep (Value.slice av1 i cv1).ownBlock.toList W3 w5 := ((Keep.refl _ W3).alloc _).grown hgrow (fun k hk => .inl (by simp [hk]))
      have HOA : Hid (w5.ownsRow (w.heap.size + 4) 33 10 v2 (i + 1) (flatE Ot.enc (L.take i ++ [⟨ok, os, ⟨o1, o2, o3, o4, o5, o6, o7, o8⟩⟩]))) := Lib.hid (by rw [flatE_app]; exact hown')
      have hob : ∀ y, y < w.heap.size + 4 → y ∉ (Value.slice av1 i cv1).ownBlock.toList := fun y hy hm => by have := own_base HOA4.out y (by simpa using hm); omega
      clear hown' hgrow u0 uf x0 x1 x2 x3 x4 x5 x6 x7 x8 x9 xf
      have HS5 := Lib.hid (HS4.out.keep kw (hob _ (by omega)))
      have HR5 := Lib.hid (HR4.out.keep kw (hob _ (by omega)))
      have HU5 := Lib.hid (HU4.out.keep kw (hob _ (by omega)))
      have HX5 := Lib.hid (HX4.out.keep kw (hob _ (by omega)))
      have HOW5 := Lib.hid (own_keep HOW4.out kw (fun g' hg' => hob _ (by have := HOL g' hg'; omega)))
      have HB5 := Lib.hid (HB4.out.trans (kw.below HB4.out.size (fun y hy => by have := own_base HOA4.out y (by simpa using hy); omega)))
      have HZ5 := Lib.hid (Nat.le_trans HZ4.out kw.size)
      clear kw HS4 HR4 HU4 HX4 HOW4 HB4 HZ4 hob HOA4
      obtain ⟨av2, cv2, rfl, _⟩ := own_shape HOA.out
      have hob : ∀ g', (Value.slice av2 (i + 1) cv2).ownBlock = some g' → g' ∉ [w.heap.size + 1 + 1 + 1] := fun g' hg' => by have := own_base HOA.out g' hg'; simp; omega
      obtain ⟨W5, hW5⟩ : ∃ W, w5.setCell ⟨w.heap.size + 1 + 1 + 1, 0, none⟩ (Value.slice av2 (i + 1) cv2) = W := ⟨_, rfl⟩
      have kst : Keep [w.heap.size + 1 + 1 + 1] w5 W5 := hW5 ▸ (Keep.refl _ w5).setCell _ _ _ (.inl (by simp))
      have HS6 := Lib.hid (HS5.out.keep kst (by simp; omega))
      have HR6 := Lib.hid (HR5.out.keep kst (by simp))
      have HX6 := Lib.hid (HX5.out.keep kst (by simp))
      have HU6 : Hid (SxAt W5 (w.heap.size + 1 + 1 + 1) (Value.slice av2 (i + 1) cv2)) := Lib.hid (hW5 ▸ HU5.out.set _)
      have HOA6 := Lib.hid (own_keep HOA.out kst hob)
      have HOW6 := Lib.hid (own_keep HOW5.out kst (fun g' hg' => by have := HOL g' hg'; simp; omega))
      have HB6 := Lib.hid (HB5.out.trans (kst.below HB5.out.size (by simp; omega)))
      have HZ6 := Lib.hid (Nat.le_trans HZ5.out kst.size)
      obtain ⟨b0, bf⟩ := HU5.out.cells
      obtain ⟨u0, uf⟩ := HU6.out.cells
      obtain ⟨x0, x1, x2, x3, x4, x5, x6, x7, x8, x9, xf⟩ := HX6.out.all
      simp only at x0 x1 x2 x3 x4 x5 x6 x7 x8 x9
      clear hob kst HS5 HR5 HX5 HU5 HOA HOW5 HB5 HZ5
      have hsl2 := fun W => slice_drop g L.length cap i (by omega) W
      obtain ⟨off2, hoff⟩ : ∃ x, (if cap = i then 0 else i * 10) = x := ⟨_, rfl⟩
      rw [hoff] at hsl2
      have HOFF : Hid (cap = i ∨ off2 = i * 10) := Lib.hid (by by_cases hc : cap = i; exact .inl hc; rw [if_neg hc] at hoff; exact .inr hoff.symm)
      have HSL2 := Lib.hid hsl2
      clear hsl2 hoff
      go_wp2_with (fail)
      clear hW5 b0 bf u0 uf x0 x1 x2 x3 x4 x5 x6 x7 x8 x9 xf
      refine wp_region_soup 6 [] (spOf []) (by kernel_rfl) (by kernel_rfl) (spOk_of (by simp [Spec.is_ok])) (pre_of (by simp [Spec.is_ok])) ?_
      simp only [List.take_succ_cons, List.take_zero, List.drop_succ_cons, List.drop_zero]
      iterate 6
        with_reducible refine soup_q ?_ ?_ ?_
        · rfl
        · rfl
        with_reducible apply Exists.intro
        with_reducible refine ⟨fun W hk _ => ?_, ?_⟩
        · obtain ⟨s0, sf⟩ := (HS6.out.keep hk).cells
          obtain ⟨u0, uf⟩ := (HU6.out.keep hk).cells
          have hsl := HSL2.out
          unfold Oper.same
          go_simp
          first | rfl | exact ⟨rfl, rfl⟩
        with_reducible apply Exists.intro
        with_reducible refine ⟨?_, ?_⟩
        · go_simp
          rfl
      refine soup_nil (fun W6 hk hS => ?_)
      have HS7 := Lib.hid (HS6.out.keep hk)
      have HX7 := Lib.hid (HX6.out.keep hk)
      have HR7 := Lib.hid (HR6.out.keep hk)
      have HU7 := Lib.hid (HU6.out.keep hk)
      have HOW7 := Lib.hid (own_keep HOW6.out hk (fun _ _ => by simp))
      have HOA7 := Lib.hid (own_keep HOA6.out hk (fun _ _ => by simp))
      have HB7 := Lib.hid (HB6.out.trans (hk.below HB6.out.size (by simp)))
      have HZ7 := Lib.hid (Nat.le_trans HZ6.out hk.size)
      clear hk hS HS6 HX6 HR6 HU6 HOW6 HOA6 HB6 HZ6 HSL2
      obtain ⟨i0, hi0, hz0, hz1, hz2⟩ := info_parts infoOt
      go_wp2_with (at_builtin; refine wpList_append_own _ rfl _ _ 38 rfl (w.heap.size + 4) 33 i0 (Ot.val ⟨ByteArray.empty, 0, Ag.zero⟩) 10 88 Try.underlying38 hi0 hz0 hz1 hz2 rfl (by decide) _ _ _ rfl HOA7.out ⟨g, off2, none⟩ (L.length - i) (cap - i) (flatE Ot.enc (L.drop i)) rfl (by rw [flatE_len otlen, List.length_drop]) ?c1 ?c2 ?c3 ?c4 ?c5 ?_)
      case c1 =>
        intro j u hj
        rw [add_at]
        have hjl := (List.getElem?_eq_some_iff.1 hj).1
        rw [flatE_len otlen, List.length_drop] at hjl
        rcases HOFF.out with hof | rfl
        · have := own_cap HOW7.out; omega
        refine own_cells HOW7.out ?_
        rw [flatE_drop, List.getElem?_drop] at hj
        exact hj
      case c2 => exact flatE_one _
      case c3 => unfold maxLen; omega
      case c4 => omega
      case c5 => have := HZ7.out; omega
      intro v3 w8 hown' hgrow _
      have kw : Keep (Value.slice av2 (i + 1) cv2).ownBlock.toList W6 w8 := (Keep.refl _ W6).grown hgrow (fun k hk => .inl (by simp [hk]))
      have HOA : Hid (w8.ownsRow (w.heap.size + 4) 33 10 v3 (i + 1 + (L.length - i)) (flatE Ot.enc (L.take i ++ [⟨ok, os, ⟨o1, o2, o3, o4, o5, o6, o7, o8⟩⟩] ++ L.drop i))) := Lib.hid (by rw [flatE_app _ (L.drop i)]; exact hown')
      have hob : ∀ y, y < w.heap.size + 4 → y ∉ (Value.slice av2 (i + 1) cv2).ownBlock.toList := fun y hy hm => by have := own_base HOA7.out y (by simpa using hm); omega
      clear hown' hgrow
      have HS8 := Lib.hid (HS7.out.keep kw (hob _ (by omega)))
      have HR8 := Lib.hid (HR7.out.keep kw (hob _ (by omega)))
      have HU8 := Lib.hid (HU7.out.keep kw (hob _ (by omega)))
      have HX8 := Lib.hid (HX7.out.keep kw (hob _ (by omega)))
      have HOW8 := Lib.hid (own_keep HOW7.out kw (fun g' hg' => hob _ (by have := HOL g' hg'; omega)))
      have HB8 := Lib.hid (HB7.out.trans (kw.below HB7.out.size (fun y hy => by have := own_base HOA7.out y (by simpa using hy); omega)))
      have HZ8 := Lib.hid (Nat.le_trans HZ7.out kw.size)
      clear kw HS7 HR7 HU7 HX7 HOW7 HB7 HZ7 hob HOA7
      obtain ⟨av3, cv3, rfl, _⟩ := own_shape HOA.out
      have hob : ∀ g', (Value.slice av3 (i + 1 + (L.length - i)) cv3).ownBlock = some g' → g' ∉ [w.heap.size + 1 + 1 + 1] := fun g' hg' => by have := own_base HOA.out g' hg'; simp; omega
      obtain ⟨W8, hW8⟩ : ∃ W, w8.setCell ⟨w.heap.size + 1 + 1 + 1, 0, none⟩ (Value.slice av3 (i + 1 + (L.length - i)) cv3) = W := ⟨_, rfl⟩
      have kst : Keep [w.heap.size + 1 + 1 + 1] w8 W8 := hW8 ▸ (Keep.refl _ w8).setCell _ _ _ (.inl (by simp))
      have HS9 := Lib.hid (HS8.out.keep kst (by simp; omega))
      have HR9 := Lib.hid (HR8.out.keep kst (by simp))
      have HX9 := Lib.hid (HX8.out.keep kst (by simp))
      have HU9 : Hid (SxAt W8 (w.heap.size + 1 + 1 + 1) (Value.slice av3 (i + 1 + (L.length - i)) cv3)) := Lib.hid (hW8 ▸ HU8.out.set _)
      have HOA9 := Lib.hid (own_keep HOA.out kst hob)
      have HOW9 := Lib.hid (own_keep HOW8.out kst (fun g' hg' => by have := HOL g' hg'; simp; omega))
      have HB9 := Lib.hid (HB8.out.trans (kst.below HB8.out.size (by simp; omega)))
      have HZ9 := Lib.hid (Nat.le_trans HZ8.out kst.size)
      obtain ⟨b0, bf⟩ := HU8.out.cells
      obtain ⟨u0, uf⟩ := HU9.out.cells
      obtain ⟨x0, x1, x2, x3, x4, x5, x6, x7, x8, x9, xf⟩ := HX9.out.all
      simp only at x0 x1 x2 x3 x4 x5 x6 x7 x8 x9
      clear hob kst HS8 HR8 HX8 HU8 HOA HOW8 HB8 HZ8
      obtain ⟨r0, rf⟩ := HR9.out.cells
      go_wp2_with (fail)
      have zc : ∀ u, (W8.setCell ⟨w.heap.size + 1 + 1, 0, none⟩ u).cell? ⟨w.heap.size + 1 + 1, 0, none⟩ = some u := fun u => (HR9.out.set u).cells.1
      have kf : ∀ u, Keep [w.heap.size + 1 + 1] W8 (W8.setCell ⟨w.heap.size + 1 + 1, 0, none⟩ u) := fun u => (Keep.refl _ W8).setCell _ _ _ (.inl (by simp))
      have HFO : Hid (∀ u, (W8.setCell ⟨w.heap.size + 1 + 1, 0, none⟩ u).ownsRow (w.heap.size + 4) 33 10 (Value.slice av3 (i + 1 + (L.length - i)) cv3) (i + 1 + (L.length - i)) (flatE Ot.enc (withL L ⟨ok, os, ⟨o1, o2, o3, o4, o5, o6, o7, o8⟩⟩ i false))) := Lib.hid (fun u => own_keep HOA9.out (kf u) (fun g' hg' => by have := own_base HOA9.out g' hg'; simp; omega))
      have HFB : Hid (∀ u, Below w.heap.size w (W8.setCell ⟨w.heap.size + 1 + 1, 0, none⟩ u)) := Lib.hid (fun u => HB9.out.trans ((kf u).below HB9.out.size (by simp; omega)))
      exact bodyPost_ret (v := .agg #[(Value.slice av3 (i + 1 + (L.length - i)) cv3)]) (by simp [results, Try.results67, go_sem, zc]) rfl ⟨_, rfl, by unfold DocRow; rw [withL_len _ _ hi]; exact own_mono (HFO.out _) (by omega), HFB.out _⟩
end Go.Proofs.Ytmhbibcfbencnaa
