/- The document's store: Take. -/
import Derived.Test.YtmhbibcfbencnaaRfF
import Derived.Maps.AppendAt
namespace Go.Proofs.Ytmhbibcfbencnaa
open Go.RowKit Go.Lib
set_option linter.unusedSimpArgs false
set_option linter.unusedVariables false
/-- A new row of one window. -/
def Spec.oneOt (n : Nat) (x : Ot) : Spec := { p := fun _ v => ∃ g, v = .slice (some ⟨g, 0, none⟩) 1 1 ∧ n ≤ g, A := fun _ v w => ∃ g, v = .slice (some ⟨g, 0, none⟩) 1 1 ∧ n ≤ g ∧ OtAt w g x }
theorem Spec.oneOt_ok (n : Nat) (x : Ot) : (Spec.oneOt n x).ok := ⟨fun _ v w w' ⟨g, h1, h2, h3⟩ hk => ⟨g, h1, h2, h3.keep hk (by simp)⟩, fun _ _ _ h => h, fun _ => trivial, fun _ => ⟨_, n, rfl, Nat.le_refl _⟩⟩
theorem OtAt.news {W : World} {g : Nat} {x : Ot} (h : OtAt W g x) : ∀ j u, (Ot.enc x)[j]? = some u → W.cell? ((⟨g, 0, none⟩ : Addr).add j) = some u := by
  intro j u hj
  rw [add_at]
  unfold OtAt at h
  unfold World.cell?
  simp only [Nat.zero_add]
  rw [h]
  simpa [Ot.enc] using hj
def TakeDoc (w : World) (t : Int) (L : List Ot) (e : Ending) (w' : World) : Prop := ∃ v1 v2, e = .returned (.tuple #[.agg #[v1], v2]) ∧ DocRow w.heap.size w' v1 (restL t L) ∧ DocRow w.heap.size w' v2 (overL t L) ∧ Below w.heap.size w w'
theorem over_take {L : List Ot} {j : Nat} {x : Ot} (hx : L[j]? = some x) (t : Int) : overL t (L.take (j + 1)) = overL t (L.take j) ++ (if overB x.st t then [x] else []) ∧ restL t (L.take (j + 1)) = restL t (L.take j) ++ (if overB x.st t then [] else [x]) := by
  have ht : L.take (j + 1) = L.take j ++ [x] := by rw [List.take_add_one, hx]; rfl
  unfold overL restL
  rw [ht, List.filter_append, List.filter_append]
  cases h : overB x.st t <;> simp [h]
/-- How far Take's loop has come: what is told, what stays. -/
structure TkI (w : World) (t : Int) (L : List Ot) (v : Value) (j : Nat) (vo vr : Value) (W : World) : Prop where
  O : W.ownsRow (w.heap.size + 3) 33 10 vo (overL t (L.take j)).length (flatE Ot.enc (overL t (L.take j)))
  R : W.ownsRow (w.heap.size + 3) 33 10 vr (restL t (L.take j)).length (flatE Ot.enc (restL t (L.take j)))
  S : SxAt W w.heap.size v
  X : SxAt W (w.heap.size + 1) (.slice none 0 0)
  U : SxAt W (w.heap.size + 1 + 1) vr
  D : DocRow 0 W v L
  L : ∀ g, v.ownBlock = some g → g < w.heap.size
  A : ∀ g, vo.ownBlock = some g → vr.ownBlock ≠ some g
  B : Below w.heap.size w W
  Z : w.heap.size + 3 ≤ W.heap.size
theorem TkI.keep {w : World} {t : Int} {L : List Ot} {v : Value} {j : Nat} {vo vr : Value} {W W' : World} (h : TkI w t L v j vo vr W) (hk : Keep [] W W') : TkI w t L v j vo vr W' :=
  ⟨own_keep h.O hk (fun _ _ => by simp), own_keep h.R hk (fun _ _ => by simp), h.S.keep hk, h.X.keep hk, h.U.keep hk, DocRow.keep h.D hk (by simp), h.L, h.A, h.B.trans (hk.below h.B.size (by simp)), Nat.le_trans h.Z hk.size⟩
/-- One more is told. -/
theorem TkI.tell {w : World} {t : Int} {L : List Ot} {v : Value} {j : Nat} {vo vr vo' : Value} {W W' : World} {x : Ot} (h : TkI w t L v j vo vr W) (hx : L[j]? = some x) (hov : overB x.st t = true)
    (hk : Keep vo.ownBlock.toList W W') (ho : W'.ownsRow (w.heap.size + 3) 33 10 vo' ((overL t (L.take j)).length + 1) (flatE Ot.enc (overL t (L.take j)) ++ Ot.enc x)) (ha : vo'.ownBlock = vo.ownBlock ∨ ∃ n, vo'.ownBlock = some n ∧ W.heap.size ≤ n) : TkI w t L v (j + 1) vo' vr W' := by
  have hb : ∀ y, y < w.heap.size + 3 → y ∉ vo.ownBlock.toList := fun y hy hm => by have := own_base h.O y (by simpa using hm); omega
  obtain ⟨e1, e2⟩ := over_take hx t
  rw [hov] at e1 e2
  simp only [if_true, List.append_nil] at e1 e2
  refine ⟨?_, ?_, h.S.keep hk (hb _ (by omega)), h.X.keep hk (hb _ (by omega)), h.U.keep hk (hb _ (by omega)), own_keep h.D hk (fun g hg => hb g (by have := h.L g hg; omega)), h.L, ?_, h.B.trans (hk.below h.B.size (fun y hy => by have := own_base h.O y (by simpa using hy); omega)), Nat.le_trans h.Z hk.size⟩
  · rw [e1, flatE_app, List.length_append]
    simpa [flatE] using ho
  · rw [e2]
    exact own_keep h.R hk (fun g hg hm => h.A g (by simpa using hm) hg)
  · intro g hg
    rcases ha with ha | ⟨n, ha, hn⟩
    · rw [ha] at hg; exact h.A g hg
    · rw [ha] at hg
      cases hg
      intro hr
      have := own_lt h.R _ hr
      omega
/-- One more stays. -/
theorem TkI.stay {w : World} {t : Int} {L : List Ot} {v : Value} {j : Nat} {vo vr vr' : Value} {W W' : World} {x : Ot} (h : TkI w t L v j vo vr W) (hx : L[j]? = some x) (hov : overB x.st t = false)
    (hk : Keep vr.ownBlock.toList W W') (ho : W'.ownsRow (w.heap.size + 3) 33 10 vr' ((restL t (L.take j)).length + 1) (flatE Ot.enc (restL t (L.take j)) ++ Ot.enc x)) (ha : vr'.ownBlock = vr.ownBlock ∨ ∃ n, vr'.ownBlock = some n ∧ W.heap.size ≤ n) : TkI w t L v (j + 1) vo vr' (W'.setCell ⟨w.heap.size + 1 + 1, 0, none⟩ vr') := by
  have hb : ∀ y, y < w.heap.size + 3 → y ∉ vr.ownBlock.toList := fun y hy hm => by have := own_base h.R y (by simpa using hm); omega
  have ks : Keep [w.heap.size + 1 + 1] W' (W'.setCell ⟨w.heap.size + 1 + 1, 0, none⟩ vr') := (Keep.refl _ W').setCell _ _ _ (.inl (by simp))
  have hO2 := own_keep h.O hk (fun g hg hm => h.A g hg (by simpa using hm))
  obtain ⟨e1, e2⟩ := over_take hx t
  rw [hov] at e1 e2
  simp only [if_false, List.append_nil, Bool.false_eq_true] at e1 e2
  refine ⟨?_, ?_, (h.S.keep hk (hb _ (by omega))).keep ks (by simp; omega), (h.X.keep hk (hb _ (by omega))).keep ks (by simp), (h.U.keep hk (hb _ (by omega))).set _, own_keep (own_keep h.D hk (fun g hg => hb g (by have := h.L g hg; omega))) ks (fun g hg => by have := h.L g hg; simp; omega), h.L, ?_, (h.B.trans (hk.below h.B.size (fun y hy => by have := own_base h.R y (by simpa using hy); omega))).trans (ks.below (h.B.trans (hk.below h.B.size (fun y hy => by have := own_base h.R y (by simpa using hy); omega))).size (by simp; omega)), Nat.le_trans (Nat.le_trans h.Z hk.size) ks.size⟩
  · rw [e1]
    exact own_keep hO2 ks (fun g hg => by have := own_base h.O g hg; simp; omega)
  · rw [e2, flatE_app, List.length_append]
    refine own_keep (by simpa [flatE] using ho) ks (fun g hg => by have := own_base ho g hg; simp; omega)
  · intro g hg
    rcases ha with ha | ⟨n, ha, hn⟩
    · rw [ha]; exact h.A g hg
    · rw [ha]
      intro hr
      cases hr
      have := own_lt h.O _ hg
      omega
set_option maxRecDepth 100000 in
set_option maxHeartbeats 8000000 in
theorem rdtake_any {w : World} {base : Nat} {v : Value} {L : List Ot} (h : DocRow base w v L) (hL : L.length ≤ 1000) (t : Int) :
    Calls Try.prog 40 #[.agg #[v], .int .i64 t] w (TakeDoc w t L) := by
  have hz := Int.natCast_nonneg L.length
  have hz32 : (L.length : Int) ≤ 1000 := by omega
  obtain ⟨W1, hW1⟩ : ∃ W1, ((w.alloc (.cells #[v] 64)).alloc (.cells #[.slice none 0 0] 64)).alloc (.cells #[.slice none 0 0] 64) = W1 := ⟨_, rfl⟩
  have hB : Below w.heap.size w W1 := hW1 ▸ (((Below.refl _ w).alloc (Nat.le_refl _) _).alloc (by simp) _).alloc (by simp; omega) _
  have hs : SxAt W1 w.heap.size v := hW1 ▸ (((SxAt.new w _).keep ((Keep.refl [] _).alloc _)).keep ((Keep.refl [] _).alloc _))
  have hx : SxAt W1 (w.heap.size + 1) (.slice none 0 0) := by
    have := SxAt.new (w.alloc (.cells #[v] 64)) (.slice none 0 0)
    rw [World.size_alloc] at this
    exact hW1 ▸ (this.keep ((Keep.refl [] _).alloc _))
  have hu : SxAt W1 (w.heap.size + 1 + 1) (.slice none 0 0) := by
    have := SxAt.new ((w.alloc (.cells #[v] 64)).alloc (.cells #[.slice none 0 0] 64)) (.slice none 0 0)
    rw [World.size_alloc, World.size_alloc] at this
    exact hW1 ▸ this
  have HT0 : Hid (TkI w t L v 0 (.slice none 0 0) (.slice none 0 0) W1) := Lib.hid ⟨World.ownsRow_nil _ _ _ _, World.ownsRow_nil _ _ _ _, hs, hx, hu, own_mono (DocRow.keep h (Keep.of_below hB []) (by simp)) (Nat.zero_le _), own_lt h, fun g hg => by simp [Value.ownBlock] at hg, hB, by rw [← hW1]; simp⟩
  clear hs hx hu hB
  obtain ⟨av, cv, rfl, _⟩ := own_shape h
  clear h
  go_enter Try.func40, Try.ntmps40
  go_wp2_with (fail)
  clear hW1
  go_loopw [7, 8] (fun v7 i wr => ∃ (j : Nat) (vo vr : Value), vo = v7 ∧ i = .int .i64 j ∧ j ≤ L.length ∧ TkI w t L (.slice av L.length cv) j vo vr wr) (fun _ i _ => L.length - (intOf i).toNat)
  case atStart => exact ⟨0, _, _, rfl, rfl, Nat.zero_le _, HT0.out⟩
  case round =>
    clear HT0
    obtain ⟨j, vo, vr, rfl, rfl, hj, hT⟩ := hrel
    have HT := Lib.hid hT
    obtain ⟨ao, co, rfl, _⟩ := own_shape hT.O
    obtain ⟨ar, cr, rfl, _⟩ := own_shape hT.R
    obtain ⟨s0, sf⟩ := hT.S.cells
    obtain ⟨u0, uf⟩ := hT.U.cells
    obtain ⟨x0, xf⟩ := hT.X.cells
    have h0j : (0 : Int) ≤ (j : Int) := Int.natCast_nonneg j
    by_cases hlt : j < L.length
    · have hjn : (j : Int) < (L.length : Int) := by omega
      obtain ⟨x, hx⟩ : ∃ x, L[j]? = some x := ⟨L[j], List.getElem?_eq_getElem hlt⟩
      obtain ⟨q, off, rfl, hq, hat⟩ := hT.D.row (by intro e; rw [e] at hlt; simp at hlt)
      have hx0 := hat j x hx
      have HXE := Lib.hid hx
      have hcov := fun W => rover_any x.st t W
      have hlo : (overL t (L.take j)).length ≤ 1000 := by have := List.length_filter_le (fun x => overB x.st t) (L.take j); have := List.length_take_le j L; unfold overL; omega
      have hlr : (restL t (L.take j)).length ≤ 1000 := by have := List.length_filter_le (fun x => !overB x.st t) (L.take j); have := List.length_take_le j L; unfold restL; omega
      obtain ⟨ob, hob⟩ : ∃ b, overB x.st t = b := ⟨_, rfl⟩
      rw [hob] at hcov
      have HCO := Lib.hid hcov
      have HOB := Lib.hid hob
      obtain ⟨xk, xs, ⟨x1, x2, x3, x4, x5, x6, x7, x8⟩⟩ := x
      have HX := Lib.hid hx0
      obtain ⟨d0, d1, d2, d3, d4, d5, d6, d7, d8, d9⟩ := hx0
      simp only at d0 d1 d2 d3 d4 d5 d6 d7 d8 d9 HCO
      clear hat hx hcov hob hT
      cases ob with
      | true =>
        go_wp2_with (fail)
        refine ((HCO.out _)).mono ?_
        rintro e w2 ⟨rfl, rfl⟩
        obtain ⟨i0, hi0, hz0, hz1, hz2⟩ := info_parts infoOt
        go_wp2_with (at_builtin; refine wpList_append_own_at _ rfl _ _ 38 rfl (w.heap.size + 3) 33 i0 (Ot.val ⟨ByteArray.empty, 0, Ag.zero⟩) 10 88 Try.underlying38 hi0 hz0 hz1 hz2 rfl (by decide) _ _ _ rfl (HT.out.O.alloc _) ⟨wr.heap.size, 0, none⟩ 1 1 [.string xk, .int .i64 xs, .int .i64 x1, .int .i64 x2, .int .i64 x3, .int .i64 x4, .int .i64 x5, .int .i64 x6, .int .i64 x7, .int .i64 x8] rfl rfl ?c1 ?c2 ?c3 ?c4 ?c5 ?_)
        case c1 => exact cells_new _ _ _ _ rfl
        case c2 => simp [Value.oneCell']
        case c3 => unfold maxLen; omega
        case c4 => omega
        case c5 => have := HT.out.Z; simp; omega
        intro v' w3 hown' hgrow _ hat'
        have kw : Keep (Value.slice ao (overL t (L.take j)).length co).ownBlock.toList wr w3 := ((Keep.refl _ wr).alloc _).grown hgrow (fun k hk => .inl (by simp [hk]))
        have HT2 := Lib.hid (HT.out.tell HXE.out HOB.out kw hown' (hat'.imp id (fun h => ⟨_, h, by simp⟩)))
        clear hown' hgrow kw hat' HT HX d0 d1 d2 d3 d4 d5 d6 d7 d8 d9 s0 sf u0 uf x0 xf
        go_wp2_with (fail)
        go_roundw
        case rel => exact ⟨j + 1, _, _, rfl, by go_num, by omega, HT2.out⟩
        case measure => simp [intOf]; omega
      | false =>
        go_wp2_with (fail)
        refine ((HCO.out _)).mono ?_
        rintro e w2 ⟨rfl, rfl⟩
        go_wp2_with (fail)
        clear d0 d1 d2 d3 d4 d5 d6 d7 d8 d9 s0 sf u0 uf x0 xf
        refine wp_region_soup 8 [] (spOf [(7, Spec.oneOt wr.heap.size ⟨xk, xs, ⟨x1, x2, x3, x4, x5, x6, x7, x8⟩⟩)]) (by kernel_rfl) (by kernel_rfl) (spOk_of (by simp [Spec.oneOt_ok])) (pre_of (by simp [Spec.oneOt_ok])) ?_
        simp only [List.take_succ_cons, List.take_zero, List.drop_succ_cons, List.drop_zero]
        iterate 7
          with_reducible refine soup_q ?_ ?_ ?_
          · rfl
          · rfl
          with_reducible apply Exists.intro
          with_reducible refine ⟨fun W hk _ => ?_, ?_⟩
          · obtain ⟨s0, sf⟩ := (HT.out.S.keep hk).cells
            obtain ⟨u0, uf⟩ := (HT.out.U.keep hk).cells
            obtain ⟨d0, d1, d2, d3, d4, d5, d6, d7, d8, d9⟩ := HX.out.keep hk hq (by simp)
            simp only at d0 d1 d2 d3 d4 d5 d6 d7 d8 d9
            unfold Oper.same
            go_simp
            first | rfl | exact ⟨rfl, rfl⟩
          with_reducible apply Exists.intro
          with_reducible refine ⟨?_, ?_⟩
          · go_simp
            rfl
        refine soup_s rfl rfl rfl (fun W hk _ _ => ?_) ?_
        · unfold Oper.does
          go_simp
          exact ⟨(Keep.refl _ _).alloc _, hk.alloc _, ⟨_, rfl, hk.size⟩, _, rfl, hk.size, World.alloc_heap_new W _⟩
        rintro v' ⟨g, rfl, hg⟩
        with_reducible apply Exists.intro
        with_reducible refine ⟨?_, ?_⟩
        · go_simp
          rfl
        refine soup_nil (fun W3 hk hS => ?_)
        have hnew : OtAt W3 g ⟨xk, xs, ⟨x1, x2, x3, x4, x5, x6, x7, x8⟩⟩ := by
          obtain ⟨g', e1, _, e3⟩ := hS 7
          obtain rfl : g = g' := by simpa using e1
          exact e3
        have HT3 := Lib.hid (HT.out.keep hk)
        have HN3 := Lib.hid hnew
        clear hk hS hnew HT HX hq
        obtain ⟨i0, hi0, hz0, hz1, hz2⟩ := info_parts infoOt
        obtain ⟨b0, bf⟩ : (∀ W', Keep (Value.slice ar (restL t (L.take j)).length cr).ownBlock.toList W3 W' → W'.cell? ⟨w.heap.size + 1 + 1, 0, none⟩ = some (Value.slice ar (restL t (L.take j)).length cr)) ∧ (∀ W', Keep (Value.slice ar (restL t (L.take j)).length cr).ownBlock.toList W3 W' → ∀ o, W'.frozen? ⟨w.heap.size + 1 + 1, o, none⟩ = false) := by
          have hb : w.heap.size + 1 + 1 ∉ (Value.slice ar (restL t (L.take j)).length cr).ownBlock.toList := fun hm => by have := own_base HT3.out.R _ (by simpa using hm); omega
          exact ⟨fun W' hk => (HT3.out.U.keep hk hb).cells.1, fun W' hk => (HT3.out.U.keep hk hb).cells.2⟩
        go_wp2_with (at_builtin; refine wpList_append_own_at _ rfl _ _ 38 rfl (w.heap.size + 3) 33 i0 (Ot.val ⟨ByteArray.empty, 0, Ag.zero⟩) 10 88 Try.underlying38 hi0 hz0 hz1 hz2 rfl (by decide) _ _ _ rfl HT3.out.R ⟨g, 0, none⟩ 1 1 [.string xk, .int .i64 xs, .int .i64 x1, .int .i64 x2, .int .i64 x3, .int .i64 x4, .int .i64 x5, .int .i64 x6, .int .i64 x7, .int .i64 x8] rfl rfl ?c1 ?c2 ?c3 ?c4 ?c5 ?_)
        case c1 => exact HN3.out.news
        case c2 => simp [Value.oneCell']
        case c3 => unfold maxLen; omega
        case c4 => omega
        case c5 => exact HT3.out.Z
        intro v' w3 hown' hgrow _ hat'
        have kw : Keep (Value.slice ar (restL t (L.take j)).length cr).ownBlock.toList W3 w3 := (Keep.refl _ W3).grown hgrow (fun k hk => .inl (by simp [hk]))
        have u0 := b0 _ kw
        have uf := bf _ kw
        have HT2 := Lib.hid (HT3.out.stay HXE.out HOB.out kw hown' (hat'.imp id (fun h => ⟨_, h, Nat.le_refl _⟩)))
        obtain ⟨ar', cr', rfl, _⟩ := own_shape hown'
        clear hown' hgrow kw hat' HT3 HN3 b0 bf
        go_wp2_with (fail)
        go_roundw
        case rel => exact ⟨j + 1, _, _, rfl, by go_num, by omega, HT2.out⟩
        case measure => simp [intOf]; omega
    · obtain rfl : j = L.length := by omega
      clear hlt hj hT
      go_wp2_with (fail)
      have zc : ∀ u, (wr.setCell ⟨w.heap.size + 1, 0, none⟩ u).cell? ⟨w.heap.size + 1, 0, none⟩ = some u := fun u => (HT.out.X.set u).cells.1
      have kf : ∀ u, Keep [w.heap.size + 1] wr (wr.setCell ⟨w.heap.size + 1, 0, none⟩ u) := fun u => (Keep.refl _ wr).setCell _ _ _ (.inl (by simp))
      have HFO : Hid (∀ u, DocRow w.heap.size (wr.setCell ⟨w.heap.size + 1, 0, none⟩ u) (.slice ao (overL t (L.take L.length)).length co) (overL t L)) := Lib.hid (fun u => by
        have := own_keep HT.out.O (kf u) (fun g hg => by have := own_base HT.out.O g hg; simp; omega)
        rw [List.take_length] at this ⊢
        exact own_mono this (by omega))
      have HFR : Hid (∀ u, DocRow w.heap.size (wr.setCell ⟨w.heap.size + 1, 0, none⟩ u) (.slice ar (restL t (L.take L.length)).length cr) (restL t L)) := Lib.hid (fun u => by
        have := own_keep HT.out.R (kf u) (fun g hg => by have := own_base HT.out.R g hg; simp; omega)
        rw [List.take_length] at this ⊢
        exact own_mono this (by omega))
      rw [List.take_length] at HFO HFR
      exact bodyPost_ret (v := .tuple #[.agg #[.slice ar (restL t L).length cr], .slice ao (overL t L).length co]) (by simp [results, Try.results40, go_sem, zc]) rfl ⟨_, _, rfl, HFR.out _, HFO.out _, HT.out.B.trans ((kf _).below HT.out.B.size (by simp))⟩
end Go.Proofs.Ytmhbibcfbencnaa
