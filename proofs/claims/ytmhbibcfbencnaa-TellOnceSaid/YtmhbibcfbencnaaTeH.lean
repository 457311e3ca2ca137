/- TellOnce: the values' map in memory. -/
import Derived.Test.YtmhbibcfbencnaaTeG
import Derived.Test.YtmhbibcfbencnaaStX
import Derived.Test.YtmhbibcfbencnaaRfB
namespace Go.Proofs.Ytmhbibcfbencnaa
open Go.RowKit Go.Lib
open Go.ChangeMaps (setBlock)
set_option linter.unusedSimpArgs false
set_option linter.unusedVariables false
theorem infoI8b : (Try.prog.info? 2).map (fun i => (i.zero, i.size, i.bytes)) = some (some (.int .i64 0), 1, 8) := by kernel_rfl
theorem OtAt.w0 {W : World} {b : Nat} {k : ByteArray} {s x1 x2 x3 x4 x5 x6 x7 x8 : Int} (h : OtAt W b ⟨k, s, ⟨x1, x2, x3, x4, x5, x6, x7, x8⟩⟩) (v : ByteArray) : OtAt (W.setCell ⟨b, 0, none⟩ (.string v)) b ⟨v, s, ⟨x1, x2, x3, x4, x5, x6, x7, x8⟩⟩ := by
  unfold OtAt at *
  simp [World.setCell, Array.getElem?_modify, h]
theorem OtAt.w1 {W : World} {b : Nat} {k : ByteArray} {s x1 x2 x3 x4 x5 x6 x7 x8 : Int} (h : OtAt W b ⟨k, s, ⟨x1, x2, x3, x4, x5, x6, x7, x8⟩⟩) (v : Int) : OtAt (W.setCell ⟨b, 1, none⟩ (.int .i64 v)) b ⟨k, v, ⟨x1, x2, x3, x4, x5, x6, x7, x8⟩⟩ := by
  unfold OtAt at *
  simp [World.setCell, Array.getElem?_modify, h]
theorem OtAt.w2 {W : World} {b : Nat} {k : ByteArray} {s x1 x2 x3 x4 x5 x6 x7 x8 : Int} (h : OtAt W b ⟨k, s, ⟨x1, x2, x3, x4, x5, x6, x7, x8⟩⟩) (v : Int) : OtAt (W.setCell ⟨b, 2, none⟩ (.int .i64 v)) b ⟨k, s, ⟨v, x2, x3, x4, x5, x6, x7, x8⟩⟩ := by
  unfold OtAt at *
  simp [World.setCell, Array.getElem?_modify, h]
theorem OtAt.w3 {W : World} {b : Nat} {k : ByteArray} {s x1 x2 x3 x4 x5 x6 x7 x8 : Int} (h : OtAt W b ⟨k, s, ⟨x1, x2, x3, x4, x5, x6, x7, x8⟩⟩) (v : Int) : OtAt (W.setCell ⟨b, 3, none⟩ (.int .i64 v)) b ⟨k, s, ⟨x1, v, x3, x4, x5, x6, x7, x8⟩⟩ := by
  unfold OtAt at *
  simp [World.setCell, Array.getElem?_modify, h]
theorem OtAt.w4 {W : World} {b : Nat} {k : ByteArray} {s x1 x2 x3 x4 x5 x6 x7 x8 : Int} (h : OtAt W b ⟨k, s, ⟨x1, x2, x3, x4, x5, x6, x7, x8⟩⟩) (v : Int) : OtAt (W.setCell ⟨b, 4, none⟩ (.int .i64 v)) b ⟨k, s, ⟨x1, x2, v, x4, x5, x6, x7, x8⟩⟩ := by
  unfold OtAt at *
  simp [World.setCell, Array.getElem?_modify, h]
theorem OtAt.w5 {W : World} {b : Nat} {k : ByteArray} {s x1 x2 x3 x4 x5 x6 x7 x8 : Int} (h : OtAt W b ⟨k, s, ⟨x1, x2, x3, x4, x5, x6, x7, x8⟩⟩) (v : Int) : OtAt (W.setCell ⟨b, 5, none⟩ (.int .i64 v)) b ⟨k, s, ⟨x1, x2, x3, v, x5, x6, x7, x8⟩⟩ := by
  unfold OtAt at *
  simp [World.setCell, Array.getElem?_modify, h]
theorem OtAt.w6 {W : World} {b : Nat} {k : ByteArray} {s x1 x2 x3 x4 x5 x6 x7 x8 : Int} (h : OtAt W b ⟨k, s, ⟨x1, x2, x3, x4, x5, x6, x7, x8⟩⟩) (v : Int) : OtAt (W.setCell ⟨b, 6, none⟩ (.int .i64 v)) b ⟨k, s, ⟨x1, x2, x3, x4, v, x6, x7, x8⟩⟩ := by
  unfold OtAt at *
  simp [World.setCell, Array.getElem?_modify, h]
theorem OtAt.w7 {W : World} {b : Nat} {k : ByteArray} {s x1 x2 x3 x4 x5 x6 x7 x8 : Int} (h : OtAt W b ⟨k, s, ⟨x1, x2, x3, x4, x5, x6, x7, x8⟩⟩) (v : Int) : OtAt (W.setCell ⟨b, 7, none⟩ (.int .i64 v)) b ⟨k, s, ⟨x1, x2, x3, x4, x5, v, x7, x8⟩⟩ := by
  unfold OtAt at *
  simp [World.setCell, Array.getElem?_modify, h]
theorem OtAt.w8 {W : World} {b : Nat} {k : ByteArray} {s x1 x2 x3 x4 x5 x6 x7 x8 : Int} (h : OtAt W b ⟨k, s, ⟨x1, x2, x3, x4, x5, x6, x7, x8⟩⟩) (v : Int) : OtAt (W.setCell ⟨b, 8, none⟩ (.int .i64 v)) b ⟨k, s, ⟨x1, x2, x3, x4, x5, x6, v, x8⟩⟩ := by
  unfold OtAt at *
  simp [World.setCell, Array.getElem?_modify, h]
theorem OtAt.w9 {W : World} {b : Nat} {k : ByteArray} {s x1 x2 x3 x4 x5 x6 x7 x8 : Int} (h : OtAt W b ⟨k, s, ⟨x1, x2, x3, x4, x5, x6, x7, x8⟩⟩) (v : Int) : OtAt (W.setCell ⟨b, 9, none⟩ (.int .i64 v)) b ⟨k, s, ⟨x1, x2, x3, x4, x5, x6, x7, v⟩⟩ := by
  unfold OtAt at *
  simp [World.setCell, Array.getElem?_modify, h]
/-- A window stored, cell by cell. -/
def setO (W : World) (b : Nat) (x : Ot) : World := (((((((((W.setCell ⟨b, 0, none⟩ (.string x.key)).setCell ⟨b, 1, none⟩ (.int .i64 x.st)).setCell ⟨b, 2, none⟩ (.int .i64 x.ag.c)).setCell ⟨b, 3, none⟩ (.int .i64 x.ag.s)).setCell ⟨b, 4, none⟩ (.int .i64 x.ag.lo)).setCell ⟨b, 5, none⟩ (.int .i64 x.ag.hi)).setCell ⟨b, 6, none⟩ (.int .i64 x.ag.b0)).setCell ⟨b, 7, none⟩ (.int .i64 x.ag.b1)).setCell ⟨b, 8, none⟩ (.int .i64 x.ag.b2)).setCell ⟨b, 9, none⟩ (.int .i64 x.ag.b3)
theorem setO_keep (W : World) (b : Nat) (x : Ot) : Keep [b] W (setO W b x) := ((((((((((Keep.refl [b] W).setCell b 0 (.string x.key) (.inl (List.mem_singleton.2 rfl))).setCell b 1 (.int .i64 x.st) (.inl (List.mem_singleton.2 rfl))).setCell b 2 (.int .i64 x.ag.c) (.inl (List.mem_singleton.2 rfl))).setCell b 3 (.int .i64 x.ag.s) (.inl (List.mem_singleton.2 rfl))).setCell b 4 (.int .i64 x.ag.lo) (.inl (List.mem_singleton.2 rfl))).setCell b 5 (.int .i64 x.ag.hi) (.inl (List.mem_singleton.2 rfl))).setCell b 6 (.int .i64 x.ag.b0) (.inl (List.mem_singleton.2 rfl))).setCell b 7 (.int .i64 x.ag.b1) (.inl (List.mem_singleton.2 rfl))).setCell b 8 (.int .i64 x.ag.b2) (.inl (List.mem_singleton.2 rfl))).setCell b 9 (.int .i64 x.ag.b3) (.inl (List.mem_singleton.2 rfl))
theorem setO_at {W : World} {b : Nat} {y : Ot} (h : OtAt W b y) (x : Ot) : OtAt (setO W b x) b x := by
  obtain ⟨k, s, ⟨y1, y2, y3, y4, y5, y6, y7, y8⟩⟩ := y
  obtain ⟨xk, xs, ⟨x1, x2, x3, x4, x5, x6, x7, x8⟩⟩ := x
  have h0 := h.w0 xk
  have h1 := h0.w1 xs
  have h2 := h1.w2 x1
  have h3 := h2.w3 x2
  have h4 := h3.w4 x3
  have h5 := h4.w5 x4
  have h6 := h5.w6 x5
  have h7 := h6.w7 x6
  have h8 := h7.w8 x7
  have h9 := h8.w9 x8
  unfold setO
  with_reducible exact h9
theorem row_ne {W : World} {base base' n n' size size' : Nat} {e e' : TypeId} {v v' : Value} {xs xs' : List Value} (h : W.ownsRow base e size v n xs) (h' : W.ownsRow base' e' size' v' n' xs') (hne : e ≠ e') : ∀ g, v.ownBlock = some g → v'.ownBlock ≠ some g := by
  intro g hg hg'
  rcases h.2 with ⟨hv, _⟩ | ⟨g1, cap, cur, hv, hb, hc, r⟩
  · rw [hv] at hg; cases hg
  · rcases h'.2 with ⟨hv', _⟩ | ⟨g2, cap', cur', hv', hb', hc', r'⟩
    · rw [hv'] at hg'; cases hg'
    · rw [hv] at hg
      rw [hv'] at hg'
      obtain rfl : g1 = g := by simpa [Value.ownBlock] using hg
      obtain rfl : g2 = g1 := by simpa [Value.ownBlock] using hg'
      rw [hc] at hc'
      simp only [Option.some.injEq, Obj.cells.injEq] at hc'
      exact hne hc'.2.1
abbrev VM := List (Wd × (Value × List Int))
def vz : Value × List Int := (.slice none 0 0, [])
theorem zeroIs (W : World) : (zeroValue 28).run Try.prog W = .ok (Prod.fst vz) W := by kernel_rfl
/-- The values of each window: a map bm of slices, each in memory of its own. -/
structure VsAt (base bm : Nat) (W : World) (mv : VM) : Prop where
  M : MapIs ekO Prod.fst W bm mv
  nd : (mv.map (·.1)).Nodup
  R : ∀ q ∈ mv, W.ownsRow base 2 1 q.2.1 q.2.2.length (q.2.2.map intV)
  D : ∀ q ∈ mv, ∀ q' ∈ mv, q.1 ≠ q'.1 → ∀ g, q.2.1.ownBlock = some g → q'.2.1.ownBlock ≠ some g
theorem VsAt.keep {X : List Nat} {base bm : Nat} {W W' : World} {mv : VM} (h : VsAt base bm W mv) (hk : Keep X W W') (hb : bm ∉ X) (hx : ∀ q ∈ mv, ∀ g, q.2.1.ownBlock = some g → g ∉ X) : VsAt base bm W' mv :=
  ⟨h.M.of_block (hk.block bm h.M.lt hb), h.nd, fun q hq => own_keep (h.R q hq) hk (hx q hq), h.D⟩
theorem VsAt.low {X : List Nat} {base bm : Nat} {W W' : World} {mv : VM} (h : VsAt base bm W mv) (hk : Keep X W W') (hb : bm ∉ X) (hx : ∀ y ∈ X, y < base) : VsAt base bm W' mv :=
  h.keep hk hb (fun q hq g hg hm => by have := own_base (h.R q hq) g hg; have := hx g hm; omega)
theorem VsAt.none {base bm : Nat} {W W' : World} {mv : VM} (h : VsAt base bm W mv) (hk : Keep [] W W') : VsAt base bm W' mv := h.low hk (by simp) (by simp)
theorem map_obj {W : World} {bm : Nat} {mv : VM} (h : MapIs ekO Prod.fst W bm mv) : ∃ o, W.heap[bm]? = some o ∧ ∀ c t f, o ≠ .cells c t f := by
  obtain ⟨es, clock, h1, _⟩ := h
  exact ⟨_, h1, fun _ _ _ e => by cases e⟩
theorem VsAt.bm {base bm : Nat} {W : World} {mv : VM} (h : VsAt base bm W mv) : ∀ q ∈ mv, ∀ g, q.2.1.ownBlock = some g → g ≠ bm := fun q hq => by
  obtain ⟨o, h1, h2⟩ := map_obj h.M
  exact own_ne_it (h.R q hq) h1 h2
theorem put_ent (x : Wd) (v : Value × List Int) (mv : VM) : put x v (entM x vz mv) = put x v mv := by
  unfold entM
  cases hl : look x mv with
  | some u => rfl
  | none =>
    have h1 : (look x (mv ++ [(x, vz)])).isSome = true := by rw [look_app, hl]; simp [look]
    simp only [Option.isSome_none, Bool.false_eq_true, if_false]
    unfold put
    rw [h1, hl]
    simp only [if_true, Option.isSome_none, Bool.false_eq_true, if_false, List.map_append, List.map_cons, List.map_nil]
    congr 1
    refine (List.map_congr_left (g := id) fun q hq => ?_).trans (List.map_id _)
    rw [if_neg (look_none.1 hl q hq)]
    rfl
theorem mem_put {x : Wd} {v : Value × List Int} {mv : VM} {q : Wd × (Value × List Int)} (h : q ∈ put x v mv) : q = (x, v) ∨ (q ∈ mv ∧ q.1 ≠ x) := by
  unfold put at h
  split at h
  · obtain ⟨p, hp, rfl⟩ := List.mem_map.1 h
    by_cases e : x = p.1
    · rw [if_pos e, e]; exact .inl rfl
    · rw [if_neg e]; exact .inr ⟨hp, fun h => e h.symm⟩
  · rename_i hn
    rcases List.mem_append.1 h with h | h
    · refine .inr ⟨h, fun e => ?_⟩
      have hl : look x mv = none := by cases hh : look x mv with | none => rfl | some u => rw [hh] at hn; exact absurd rfl hn
      exact look_none.1 hl q h e.symm
    · exact .inl (by simpa using h)
def valsOf (mv : VM) : Vals := mv.map fun q => (q.1, q.2.2)
theorem look_vals (x : Wd) (mv : VM) : look x (valsOf mv) = (look x mv).map (·.2) := by
  unfold valsOf
  induction mv with
  | nil => rfl
  | cons q r ih =>
    simp only [List.map_cons, look]
    split
    · rfl
    · exact ih
theorem vals_put (x : Wd) (v : Value) (n : Int) (mv : VM) : valsOf (put x (v, ((look x mv).getD vz).2 ++ [n]) mv) = addV x n (valsOf mv) := by
  unfold addV
  rw [look_vals]
  have e : ((look x mv).map (·.2)).getD [] = ((look x mv).getD vz).2 := by cases look x mv <;> rfl
  rw [e]
  unfold put
  rw [look_vals]
  cases hl : look x mv with
  | none => simp [valsOf]
  | some u =>
    simp only [Option.map_some, Option.isSome_some, if_true]
    unfold valsOf
    rw [List.map_map, List.map_map]
    refine List.map_congr_left fun q _ => ?_
    simp only [Function.comp]
    split <;> rfl
theorem VsAt.row0 {base bm : Nat} {W : World} {mv : VM} (h : VsAt base bm W mv) (x : Wd) : W.ownsRow base 2 1 ((look x mv).getD vz).1 ((look x mv).getD vz).2.length (((look x mv).getD vz).2.map intV) := by
  cases hl : look x mv with
  | none => exact World.ownsRow_nil _ _ _ _
  | some u => exact h.R (x, u) (look_mem hl)
/-- One value more. -/
theorem VsAt.done {base bm : Nat} {W Wb Wc Wd' : World} {mv : VM} {x : Wd} {n : Int} {st : Nat} {v' : Value} (h : VsAt base bm W mv) (hk : Keep [bm] W Wb) (hE : EntIs ekO Prod.fst Wb bm (entM x vz mv) x st)
    (hc : Keep ((look x mv).getD vz).1.ownBlock.toList Wb Wc) (hown : Wc.ownsRow base 2 1 v' (((look x mv).getD vz).2 ++ [n]).length ((((look x mv).getD vz).2 ++ [n]).map intV)) (hat : v'.ownBlock = ((look x mv).getD vz).1.ownBlock ∨ ∃ m, v'.ownBlock = some m ∧ Wb.heap.size ≤ m)
    (hd : Keep [bm] Wc Wd') (hM : MapIs ekO Prod.fst Wd' bm (put x (v', ((look x mv).getD vz).2 ++ [n]) (entM x vz mv))) : VsAt base bm Wd' (put x (v', ((look x mv).getD vz).2 ++ [n]) mv) := by
  have hb0 := h.bm
  have hx0 : ∀ g, ((look x mv).getD vz).1.ownBlock = some g → g ≠ bm := by
    cases hl : look x mv with
    | none => intro g hg; simp [vz, Value.ownBlock] at hg
    | some u => exact hb0 (x, u) (look_mem hl)
  have hbc : bm ∉ ((look x mv).getD vz).1.ownBlock.toList := fun hm => hx0 bm (by simpa using hm) rfl
  have hmc : MapIs ekO Prod.fst Wc bm (entM x vz mv) := hE.map.of_block (hc.block bm hE.map.lt hbc)
  have hv' : ∀ g, v'.ownBlock = some g → g ≠ bm := by
    obtain ⟨o, h1, h2⟩ := map_obj hmc
    exact own_ne_it hown h1 h2
  have hother : ∀ q ∈ mv, q.1 ≠ x → ∀ g, q.2.1.ownBlock = some g → ((look x mv).getD vz).1.ownBlock ≠ some g := by
    intro q hq hqx g hg
    cases hl : look x mv with
    | none => simp [vz, Value.ownBlock]
    | some u => exact h.D q hq (x, u) (look_mem hl) hqx g hg
  have hlt : ∀ q ∈ mv, ∀ g, q.2.1.ownBlock = some g → g < Wb.heap.size := fun q hq g hg => by
    have h1 := own_keep (h.R q hq) hk (fun g hg hm => hb0 q hq g hg (by simpa using hm))
    rcases h1.2 with ⟨hv, _⟩ | ⟨g', cap, cur, hv, hb, hg', r⟩
    · rw [hv] at hg; cases hg
    · rw [hv] at hg
      obtain rfl : g' = g := by simpa [Value.ownBlock] using hg
      exact lt_of_heap hg'
  have hfar : ∀ q ∈ mv, q.1 ≠ x → ∀ g, q.2.1.ownBlock = some g → v'.ownBlock ≠ some g := by
    intro q hq hqx g hg
    rcases hat with ha | ⟨m, ha, hm⟩
    · rw [ha]; exact hother q hq hqx g hg
    · rw [ha]
      intro e
      cases e
      have := hlt q hq g hg
      omega
  rw [put_ent] at hM
  refine ⟨hM, put_nodup h.nd, fun q hq => ?_, fun q hq q' hq' hne => ?_⟩
  · rcases mem_put hq with rfl | ⟨hq, hqx⟩
    · exact own_keep hown hd (fun g hg => by have := hv' g hg; simpa using this)
    · have h1 := own_keep (h.R q hq) hk (fun g hg hm => hb0 q hq g hg (by simpa using hm))
      have h2 := own_keep h1 hc (fun g hg hm => hother q hq hqx g hg (by simpa using hm))
      exact own_keep h2 hd (fun g hg hm => hb0 q hq g hg (by simpa using hm))
  · rcases mem_put hq with rfl | ⟨hq, hqx⟩
    · rcases mem_put hq' with rfl | ⟨hq', hqx'⟩
      · exact absurd rfl hne
      · intro g hg hg'
        exact hfar q' hq' hqx' g hg' hg
    · rcases mem_put hq' with rfl | ⟨hq', hqx'⟩
      · exact hfar q hq hqx
      · exact h.D q hq q' hq' hne
end Go.Proofs.Ytmhbibcfbencnaa
