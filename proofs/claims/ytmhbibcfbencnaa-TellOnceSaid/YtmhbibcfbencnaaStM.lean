/- The store: Take. -/
import Derived.Test.YtmhbibcfbencnaaStK
import Derived.Test.YtmhbibcfbencnaaSpA
namespace Go.Proofs.Ytmhbibcfbencnaa
open Go.RowKit Go.Shelf Go.Lib
open Go.ChangeMaps (setBlock)
open Go.Sort (HoldsK)
set_option linter.unusedSimpArgs false
set_option linter.unusedVariables false
def wdOf (x : Ot) : Wd := ⟨x.st, x.key⟩
theorem wdOf_otOf (q : Wd × Ag) : wdOf (otOf q) = q.1 := rfl
theorem ltO_ne {x y : Ot} (h : ltO x y) : wdOf x ≠ wdOf y := by
  intro e
  have e1 : x.st = y.st := congrArg Wd.st e
  have e2 : x.key = y.key := congrArg Wd.key e
  rcases h with h | ⟨_, h⟩
  · omega
  · rw [e2, bl_irrefl] at h; cases h
theorem up_nodup {L : List Ot} (h : L.Pairwise ltO) : (L.map wdOf).Nodup := by
  rw [List.Nodup, List.pairwise_map]
  exact h.imp fun h => ltO_ne h
theorem map_wd (m : St) : (m.map otOf).map wdOf = m.map (·.1) := by rw [List.map_map]; rfl
theorem OrdO.nodup {m : St} {L : List Ot} (h : OrdO m L) : (m.map (·.1)).Nodup := by
  rw [← map_wd]
  exact ((h.perm.map wdOf).nodup_iff).1 (up_nodup h.up)
theorem OrdO.del {m : St} {A B : List Ot} {x : Ot} (h : OrdO m (A ++ x :: B)) : OrdO (del (wdOf x) m) (A ++ B) := by
  have hn := up_nodup h.up
  rw [List.map_append, List.map_cons, List.nodup_append] at hn
  obtain ⟨_, h2, h3⟩ := hn
  rw [List.nodup_cons] at h2
  refine ⟨?_, ?_⟩
  · have e1 : (A ++ x :: B).filter (fun y => decide (wdOf x ≠ wdOf y)) = A ++ B := by
      rw [List.filter_append, List.filter_cons, if_neg (by simp)]
      congr 1
      · rw [List.filter_eq_self]
        intro y hy
        simp only [decide_eq_true_eq]
        intro e
        exact h3 (wdOf y) (List.mem_map.2 ⟨y, hy, rfl⟩) (wdOf x) (List.mem_cons.2 (.inl rfl)) e.symm
      · rw [List.filter_eq_self]
        intro y hy
        simp only [decide_eq_true_eq]
        intro e
        exact h2.1 (e ▸ List.mem_map.2 ⟨y, hy, rfl⟩)
    have e2 : (m.map otOf).filter (fun y => decide (wdOf x ≠ wdOf y)) = (Go.Proofs.Ytmhbibcfbencnaa.del (wdOf x) m).map otOf := by
      unfold Go.Proofs.Ytmhbibcfbencnaa.del
      rw [List.filter_map]
      rfl
    rw [← e1, ← e2]
    exact h.perm.filter _
  · refine h.up.sublist ?_
    exact (List.Sublist.refl A).append (List.sublist_cons_self x B)
theorem otsAt_of_own {w : World} {base : Nat} {e : TypeId} {A : Option Addr} {c : Nat} {l : List Ot} (h : w.ownsRow base e 10 (.slice A l.length c) l.length (flatE Ot.enc l)) : OtsAt base w A l := by
  intro hl
  rcases h.2 with ⟨hv, h0⟩ | ⟨g, cap, cur, hv, hb, hg, r⟩
  · exact absurd (List.length_eq_zero_iff.1 h0) hl
  · simp only [Value.slice.injEq, true_and] at hv
    obtain ⟨rfl, rfl⟩ := hv
    obtain ⟨h1, h2, h3⟩ := holdsE_of_own (by omega) otlen h hl
    exact ⟨g, rfl, h2, h3, h1⟩
theorem OtsAt.keep {X : List Nat} {base : Nat} {W W' : World} {A : Option Addr} {L : List Ot} (h : OtsAt base W A L) (hk : Keep X W W') (hx : ∀ g, A = some ⟨g, 0, none⟩ → L ≠ [] → g ∉ X) : OtsAt base W' A L := by
  intro hL
  obtain ⟨g, h1, h2, h3, h4⟩ := h hL
  refine ⟨g, h1, h2, Nat.lt_of_lt_of_le h3 hk.size, fun j hj => ?_⟩
  obtain ⟨h5, h6⟩ := h4 j hj
  exact ⟨(hk.cell (0 + j) h3 (hx g h1 hL)).trans h5, (hk.frozen (0 + j) h3 (hx g h1 hL)).trans h6⟩
theorem OtsAt.below {base : Nat} {W W' : World} {A : Option Addr} {L : List Ot} (h : OtsAt base W A L) (hb : Below W.heap.size W W') : OtsAt base W' A L := h.keep (Keep.of_below hb []) (fun _ _ _ => by simp)
theorem OtsAt.mono {b b' : Nat} {W : World} {A : Option Addr} {L : List Ot} (h : OtsAt b W A L) (hb : b' ≤ b) : OtsAt b' W A L := fun hL => by obtain ⟨g, h1, h2, h3⟩ := h hL; exact ⟨g, h1, Nat.le_trans hb h2, h3⟩
theorem OtsAt.cells {base : Nat} {W : World} {A : Option Addr} {L : List Ot} (h : OtsAt base W A L) {k : Nat} {x : Ot} (hx : L[k]? = some x) :
    ∃ g, A = some ⟨g, 0, none⟩ ∧ base ≤ g ∧ g < W.heap.size ∧ W.cell? ⟨g, k * 10, none⟩ = some (.string x.key) ∧ W.cell? ⟨g, k * 10 + 1, none⟩ = some (.int .i64 x.st) ∧ W.cell? ⟨g, k * 10 + 2, none⟩ = some (.int .i64 x.ag.c) ∧ W.cell? ⟨g, k * 10 + 3, none⟩ = some (.int .i64 x.ag.s) ∧
      W.cell? ⟨g, k * 10 + 4, none⟩ = some (.int .i64 x.ag.lo) ∧ W.cell? ⟨g, k * 10 + 5, none⟩ = some (.int .i64 x.ag.hi) ∧ W.cell? ⟨g, k * 10 + 6, none⟩ = some (.int .i64 x.ag.b0) ∧ W.cell? ⟨g, k * 10 + 7, none⟩ = some (.int .i64 x.ag.b1) ∧ W.cell? ⟨g, k * 10 + 8, none⟩ = some (.int .i64 x.ag.b2) ∧ W.cell? ⟨g, k * 10 + 9, none⟩ = some (.int .i64 x.ag.b3) := by
  have hlt := (List.getElem?_eq_some_iff.1 hx).1
  obtain ⟨g, h1, h2, h3, h4⟩ := h (by intro e; rw [e] at hlt; simp at hlt)
  have hk : k < L.toArray.size := by simpa using hlt
  have he : L.toArray[k]! = x := by
    rw [getElem!_pos L.toArray k hk]
    rw [List.getElem?_eq_getElem hlt] at hx
    simpa using hx
  have c : ∀ i, i < 10 → W.cell? ⟨g, k * 10 + i, none⟩ = some ((Ot.enc x)[i]!) := fun i hi => by
    have := (h4.cell hk (c := i) hi).1
    rw [he] at this
    simpa only [Nat.zero_add] using this
  exact ⟨g, h1, h2, h3, c 0 (by omega), c 1 (by omega), c 2 (by omega), c 3 (by omega), c 4 (by omega), c 5 (by omega), c 6 (by omega), c 7 (by omega), c 8 (by omega), c 9 (by omega)⟩
/-- What Take hands back, and leaves. -/
def overL (t : Int) (L : List Ot) : List Ot := L.filter fun x => overB x.st t
def restL (t : Int) (L : List Ot) : List Ot := L.filter fun x => !overB x.st t
def TakeP (w : World) (p b : Nat) (t : Int) (L : List Ot) (e : Ending) (w' : World) : Prop :=
  ∃ A c m', e = .returned (.slice A (overL t L).length c) ∧ OtsAt w.heap.size w' A (overL t L) ∧ StAt w' p b m' ∧ OrdO m' (restL t L) ∧ Keep [b] w w'
theorem stake_nil (t : Int) (w : World) : Calls Try.prog 22 #[.pointer none, .int .i64 t] w fun e w' => ∃ c, e = .returned (.slice none 0 c) ∧ Below w.heap.size w w' := by
  go_enter Try.func22, Try.ntmps22
  go_wp2_with (fail)
  refine (sall_nil _).mono ?_
  rintro e w1 ⟨A, c, rfl, hE, hB⟩
  simp only [List.length_nil]
  go_wp2_with (fail)
  refine wp_loop_rounds 1 ?_
  rw [rounds_succ]
  go_wp2_with (fail)
  go_ret
  exact ⟨0, rfl, hB⟩
set_option maxRecDepth 100000 in
set_option maxHeartbeats 8000000 in
theorem stake_any {w : World} {p b : Nat} {m : St} {L : List Ot} (h : StAt w p b m) (hlen : m.length ≤ 1000) (hs : OrdO m L) (t : Int) :
    Calls Try.prog 22 #[.pointer (some ⟨p, 0, none⟩), .int .i64 t] w (TakeP w p b t L) := by
  have hL : L.length ≤ 1000 := by rw [hS_len hs]; exact hlen
  have hz := Int.natCast_nonneg L.length
  go_enter Try.func22, Try.ntmps22
  go_wp2_with (fail)
  refine (sall_any h hlen hs).mono ?_
  rintro e w1 ⟨A, c, rfl, hE, hB⟩
  have hS1 := h.below hB
  have hsz1 := hB.size
  have hpl := h.lt
  have HB0 := Lib.hid hB
  clear h hB hlen
  go_wp2_with (fail)
  go_loopw [5, 11] (fun v i wr => ∃ (j : Nat) (m' : St), i = .int .i64 j ∧ j ≤ L.length ∧ wr.ownsRow w1.heap.size 33 10 v (overL t (L.take j)).length (flatE Ot.enc (overL t (L.take j))) ∧ StAt wr p b m' ∧ OrdO m' (restL t (L.take j) ++ L.drop j) ∧ OtsAt w.heap.size wr A L ∧ (∀ g, A = some ⟨g, 0, none⟩ → L ≠ [] → g < w1.heap.size) ∧ Keep [b] w wr ∧ w1.heap.size ≤ wr.heap.size) (fun _ i _ => L.length - (intOf i).toNat)
  case atStart => exact ⟨0, m, rfl, Nat.zero_le _, World.ownsRow_nil _ _ _ _, hS1, by simpa [restL] using hs, hE, fun g hg hL' => by obtain ⟨g', h1, _, h3, _⟩ := hE hL'; rw [hg] at h1; cases h1; exact h3, Keep.of_below HB0.out _, Nat.le_refl _⟩
  case round =>
    clear hE hS1 hs
    obtain ⟨j, m', rfl, hj, hown, hS, hO, hE, hA, hK, hsz⟩ := hrel
    by_cases hlt : j < L.length
    · obtain ⟨x, hx⟩ : ∃ x, L[j]? = some x := ⟨L[j], List.getElem?_eq_getElem hlt⟩
      obtain ⟨g, hAg, hg0, hg1, c0, c1, c2, c3, c4, c5, c6, c7, c8, c9⟩ := hE.cells hx
      have hgl := hA g hAg (by intro e; rw [e] at hlt; simp at hlt)
      have ht : L.take (j + 1) = L.take j ++ [x] := by rw [List.take_add_one, hx]; rfl
      have hd : L.drop j = x :: L.drop (j + 1) := by
        rw [List.drop_eq_getElem_cons hlt]
        rw [List.getElem?_eq_getElem hlt] at hx
        cases hx; rfl
      obtain ⟨av, cv, rfl, hav⟩ := own_shape hown
      subst hAg
      obtain ⟨ov, hov⟩ : ∃ o, overB x.st t = o := ⟨_, rfl⟩
      have hcov := fun W => over_any x.st t W
      rw [hov] at hcov
      have hol : (overL t (L.take j)).length ≤ 1000 := by
        have := List.length_filter_le (fun x => overB x.st t) (L.take j)
        have h2 : (L.take j).length ≤ L.length := List.length_take_le' _ _
        unfold overL; omega
      have HCOV := Lib.hid hcov
      have HX := Lib.hid (OtAt.new wr x)
      have HT := Lib.hid ht
      have HD := Lib.hid hd
      have HO := Lib.hid hO
      have HOWN := Lib.hid hown
      have HE := Lib.hid hE
      have HA := Lib.hid hA
      have HS := Lib.hid hS
      have HOV := Lib.hid hov
      have HK := Lib.hid hK
      have hsl := hS.lt
      have HAV := Lib.hid hav
      clear ht hd hO hown hE hA hS hov hcov hK hx hav
      obtain ⟨kk, ks, x1, x2, x3, x4, x5, x6, x7, x8⟩ := x
      simp only at c0 c1 c2 c3 c4 c5 c6 c7 c8 c9 HX HCOV HOV
      cases ov with
      | false =>
        go_wp2_with (fail)
        refine (HCOV.out _).mono ?_
        rintro e w2 ⟨rfl, rfl⟩
        clear c0 c1 c2 c3 c4 c5 c6 c7 c8 c9
        go_wp2_with (fail)
        go_roundw
        case rel =>
          have e1 : overL t (L.take (j + 1)) = overL t (L.take j) := by rw [HT.out]; unfold overL; rw [List.filter_append]; simp [HOV.out]
          have e2 : restL t (L.take (j + 1)) ++ L.drop (j + 1) = restL t (L.take j) ++ L.drop j := by rw [HT.out, HD.out]; unfold restL; rw [List.filter_append]; simp [HOV.out]
          refine ⟨j + 1, m', by go_num, by omega, ?_, HS.out.below ((Below.refl _ _).alloc (Nat.le_refl _) _), by rw [e2]; exact HO.out, HE.out.below ((Below.refl _ _).alloc (Nat.le_refl _) _), HA.out, HK.out.alloc _, by simp; omega⟩
          rw [e1]
          exact HOWN.out.alloc _
        case measure => simp [intOf]; omega
      | true =>
        obtain ⟨i0, hi, hz0, hz1, hz2⟩ := info_parts infoOt
        go_wp2_with (fail)
        refine (HCOV.out _).mono ?_
        rintro e w2 ⟨rfl, rfl⟩
        clear c0 c1 c2 c3 c4 c5 c6 c7 c8 c9
        obtain ⟨c0, c1, cf⟩ := HX.out.cells
        simp only at c0 c1
        go_wp2_with (at_builtin; refine wpList_append_own _ rfl _ _ 38 rfl w1.heap.size 33 i0 (Ot.val ⟨ByteArray.empty, 0, Ag.zero⟩) 10 88 Try.underlying38 hi hz0 hz1 hz2 rfl (by decide) _ _ _ rfl ((HOWN.out.alloc _).alloc _) ⟨wr.heap.size + 1, 0, none⟩ 1 1 [.string kk, .int .i64 ks, .int .i64 x1, .int .i64 x2, .int .i64 x3, .int .i64 x4, .int .i64 x5, .int .i64 x6, .int .i64 x7, .int .i64 x8] rfl rfl ?c1 ?c2 ?c3 ?c4 ?c5 ?_)
        case c1 => exact cells_new _ _ _ _ (by simp)
        case c2 => simp [Value.oneCell']
        case c3 => unfold maxLen; omega
        case c4 => omega
        case c5 => simp; omega
        intro v' w3 hown' hgrow _
        have kw : Keep (Value.slice av (overL t (L.take j)).length cv).ownBlock.toList wr w3 := (((Keep.refl _ wr).alloc _).alloc _).grown hgrow (fun k hk => .inl (by simp [hk]))
        have hob : ∀ y, y < w1.heap.size → y ∉ (Value.slice av (overL t (L.take j)).length cv).ownBlock.toList := fun y hy hm => by have := own_base HOWN.out y (by simpa using hm); omega
        have kx : Keep (Value.slice av (overL t (L.take j)).length cv).ownBlock.toList (wr.alloc (.cells #[.string kk, .int .i64 ks, .int .i64 x1, .int .i64 x2, .int .i64 x3, .int .i64 x4, .int .i64 x5, .int .i64 x6, .int .i64 x7, .int .i64 x8] 33)) w3 := ((Keep.refl _ _).alloc _).grown hgrow (fun k hk => .inl (by simp [hk]))
        have hobx : wr.heap.size ∉ (Value.slice av (overL t (L.take j)).length cv).ownBlock.toList := fun hm => by
          have h1 : (Value.slice av (overL t (L.take j)).length cv).ownBlock = some wr.heap.size := by simpa using hm
          rcases HOWN.out.2 with ⟨hv, _⟩ | ⟨g', cap', cur, hv, _, hg', _⟩
          · rw [hv] at h1; cases h1
          · rw [hv] at h1
            have h2 : g' = wr.heap.size := by simpa [Value.ownBlock] using h1
            have := lt_of_heap hg'
            omega
        have hS3 := HS.out.keep kw (hob p (by omega)) (hob b (by omega))
        have hX3 : OtAt w3 wr.heap.size ⟨kk, ks, x1, x2, x3, x4, x5, x6, x7, x8⟩ := HX.out.keep kx hobx
        have hE3 := HE.out.keep kw (fun g' hg' hL' => hob g' (HA.out g' hg' hL'))
        have hK3 : Keep [b] w w3 := HK.out.step kw (fun y hy => .inr (by have := own_base HOWN.out y (by simpa using hy); omega))
        have hw3 := kw.size
        have HS3 := Lib.hid hS3
        have HX3 := Lib.hid hX3
        have HE3 := Lib.hid hE3
        have HK3 := Lib.hid hK3
        have HOWN3 := Lib.hid hown'
        clear hS3 hX3 hE3 hK3 hown' kw kx hob hobx hgrow c0 c1 cf hi hz0 hz1 hz2 HX HS HE HK
        go_wp2_with (fail)
        refine wp_region_soup 9 [] (spOf []) (by kernel_rfl) (by kernel_rfl) (spOk_of (by simp)) (pre_of (by simp)) ?_
        simp only [List.take_succ_cons, List.take_zero, List.drop_succ_cons, List.drop_zero]
        iterate 9
          refine soup_q rfl rfl ?_
          apply Exists.intro
          refine ⟨fun W hk _ => ?_, ?_⟩
          · obtain ⟨h0, h1⟩ := (HS3.out.keep hk (by simp) (by simp)).cells
            obtain ⟨x0, x1', x2'⟩ := (HX3.out.keep hk).cells
            simp only at x0 x1'
            unfold Oper.same
            go_simp
            first | rfl | exact ⟨rfl, rfl⟩
          apply Exists.intro
          refine ⟨?_, ?_⟩
          · go_simp
            rfl
        refine soup_nil (fun W4 hk hS => ?_)
        have hS4 := HS3.out.keep hk (by simp) (by simp)
        obtain ⟨o, hrun, hmap⟩ := run_delete (P := Try.prog) Try.underlying91 keyLaw_wd hS4.map HO.out.nodup ⟨ks, kk⟩ #[91, 95] rfl 0
        simp only [ekW] at hrun
        refine BigFrame.wpList_want rfl (fun K hK => ?_)
        go_simp
        refine hK _ _ ?_
        clear hK K
        have hk5 : Keep [b] W4 (setBlock W4 b o) := (Keep.refl [b] W4).setBlock b o (.inl (by simp))
        have hS5 : StAt (setBlock W4 b o) p b (del ⟨ks, kk⟩ m') := ⟨(hk5.block p hS4.lt.1 (by simpa using hS4.lt.2.2)).trans hS4.blk, hmap⟩
        have hk35 : Keep [b] w3 (setBlock W4 b o) := (hk.mono (by simp)).trans hk5
        have hown5 := own_keep HOWN3.out hk35 (fun g' hg' => by have := own_base HOWN3.out g' hg'; simp; omega)
        have hE5 := HE3.out.keep hk35 (fun g' hg' hL' => by obtain ⟨g2, hg2, hg3, _⟩ := HE3.out hL'; rw [hg'] at hg2; cases hg2; simp; omega)
        have HS5 := Lib.hid hS5
        have HOWN5 := Lib.hid hown5
        have HE5 := Lib.hid hE5
        have HK5 := Lib.hid (HK3.out.trans hk35)
        have hw5 := hk35.size
        clear hS5 hown5 hE5 hk35 hk5 hmap hrun hS4 hk hS HS3 HX3 HOWN3 HE3 HK3
        go_wp2_with (fail)
        go_roundw
        case rel =>
          have e1 : overL t (L.take (j + 1)) = overL t (L.take j) ++ [⟨kk, ks, x1, x2, x3, x4, x5, x6, x7, x8⟩] := by rw [HT.out]; unfold overL; rw [List.filter_append]; simp [HOV.out]
          have e2 : restL t (L.take (j + 1)) = restL t (L.take j) := by rw [HT.out]; unfold restL; rw [List.filter_append]; simp [HOV.out]
          have hO := HO.out
          rw [HD.out] at hO
          refine ⟨j + 1, _, by go_num, by omega, ?_, HS5.out, ?_, HE5.out, HA.out, HK5.out, by omega⟩
          · rw [e1, List.length_append]
            simpa [flatE, Ot.enc] using HOWN5.out
          · rw [e2]
            exact hO.del
        case measure => simp [intOf]; omega
    · obtain rfl : j = L.length := by omega
      rw [List.take_length] at hown hO
      rw [List.drop_length, List.append_nil] at hO
      obtain ⟨av, cv, rfl, hav⟩ := own_shape hown
      have HOWN := Lib.hid hown
      have HS := Lib.hid hS
      have HO := Lib.hid hO
      have HK := Lib.hid hK
      clear hown hS hO hE hA hK hav
      go_wp2_with (fail)
      go_ret
      exact ⟨av, cv, m', rfl, (otsAt_of_own HOWN.out).mono (by omega), HS.out, HO.out, HK.out⟩
end Go.Proofs.Ytmhbibcfbencnaa
