/- StorePlays: whatever is put, set and taken, each answer, and what is open then, is the document's. -/
import Derived.Test.YtmhbibcfbencnaaLSm
import Derived.Test.YtmhbibcfbencnaaRfG
import Derived.Test.YtmhbibcfbencnaaRfH
namespace Go.Proofs.Ytmhbibcfbencnaa
open Go.RowKit Go.Lib
set_option linter.unusedSimpArgs false
set_option linter.unusedVariables false
theorem AcB.all {W : World} {g : Nat} {x : A9} (h : AcB W g x) : W.cell? ⟨g, 4, none⟩ = some (.string x.out.key) ∧ W.cell? ⟨g, 5, none⟩ = some (.int .i64 x.out.st) ∧ W.cell? ⟨g, 6, none⟩ = some (.int .i64 x.out.ag.c) ∧ W.cell? ⟨g, 7, none⟩ = some (.int .i64 x.out.ag.s) ∧ W.cell? ⟨g, 8, none⟩ = some (.int .i64 x.out.ag.lo) ∧ W.cell? ⟨g, 9, none⟩ = some (.int .i64 x.out.ag.hi) ∧ W.cell? ⟨g, 10, none⟩ = some (.int .i64 x.out.ag.b0) ∧ W.cell? ⟨g, 11, none⟩ = some (.int .i64 x.out.ag.b1) ∧ W.cell? ⟨g, 12, none⟩ = some (.int .i64 x.out.ag.b2) ∧ W.cell? ⟨g, 13, none⟩ = some (.int .i64 x.out.ag.b3) := by
  unfold AcB acObj at h
  refine ⟨?_, ?_, ?_, ?_, ?_, ?_, ?_, ?_, ?_, ?_⟩
  all_goals (unfold World.cell?; rw [h]; rfl)
/-- A row of windows that a call tells. -/
def Spec.ots (L : List Ot) : Spec := { p := fun _ v => ∃ A c, v = .slice A L.length c, A := fun _ v w => ∃ A c, v = .slice A L.length c ∧ OtsRow w A L }
theorem Spec.ots_ok (L : List Ot) : (Spec.ots L).ok := ⟨fun _ v w w' ⟨A, c, h1, h2⟩ hk => ⟨A, c, h1, h2.keep hk (fun _ _ _ _ => by simp)⟩, fun _ _ _ h => h, fun _ => trivial, fun _ => ⟨_, none, 0, rfl⟩⟩
/-- The store and the document's side by side. -/
structure PyI (w : World) (p b nd : Nat) (L : List Ot) (vd : Value) (W : World) : Prop where
  S : SrAt W p b L
  X : SxAt W nd vd
  D : DocRow (nd + 1) W vd L
  N : L.length ≤ 32
  U : L.Pairwise ltO
  K : ∀ y ∈ L, OkW y
  B : Below w.heap.size w W
  hp : p < nd
  hb : b < nd
  wb : w.heap.size ≤ b
  wn : w.heap.size ≤ nd
theorem PyI.keep {w : World} {p b nd : Nat} {L : List Ot} {vd : Value} {W W' : World} (h : PyI w p b nd L vd W) (hk : Keep [] W W') : PyI w p b nd L vd W' :=
  ⟨h.S.keep hk (by simp) (by simp), h.X.keep hk, DocRow.keep h.D hk (by simp), h.N, h.U, h.K, h.B.trans (hk.below h.B.size (by simp)), h.hp, h.hb, h.wb, h.wn⟩
/-- The store's step has gone. -/
structure PyM (w : World) (p b nd : Nat) (L L' : List Ot) (vd : Value) (W : World) : Prop where
  S : SrAt W p b L'
  X : SxAt W nd vd
  D : DocRow (nd + 1) W vd L
  B : Below w.heap.size w W
theorem PyI.mid {w : World} {p b nd : Nat} {L L' : List Ot} {vd : Value} {W W' : World} (h : PyI w p b nd L vd W) (hS : SrAt W' p b L') (hk : Keep [b] W W') : PyM w p b nd L L' vd W' :=
  ⟨hS, h.X.keep hk (by have := h.hb; simp; omega), own_keep h.D hk (fun g hg => by have := own_base h.D g hg; have := h.hb; simp; omega), h.B.trans (hk.below h.B.size (by have := h.wb; simp; omega))⟩
/-- The document's step has gone, and lies in its box. -/
theorem PyI.fin {w : World} {p b nd : Nat} {L L' : List Ot} {vd vd' : Value} {W W' : World} (h : PyI w p b nd L vd W') (hm : PyM w p b nd L L' vd W) {W2 : World} (hb : Below W.heap.size W W2) (hD : DocRow (nd + 1) W2 vd' L') (hN : L'.length ≤ 32) (hU : L'.Pairwise ltO) (hK : ∀ y ∈ L', OkW y) :
    PyI w p b nd L' vd' (W2.setCell ⟨nd, 0, none⟩ vd') := by
  have hk : Keep [] W W2 := Keep.of_below hb []
  have ks : Keep [nd] W2 (W2.setCell ⟨nd, 0, none⟩ vd') := (Keep.refl _ W2).setCell _ _ _ (.inl (by simp))
  have hB2 := hm.B.trans (hb.mono hm.B.size)
  exact ⟨(hm.S.keep hk (by simp) (by simp)).keep ks (by have := h.hp; simp; omega) (by have := h.hb; simp; omega), (hm.X.keep hk).set _, own_keep hD ks (fun g hg => by have := own_base hD g hg; simp; omega), hN, hU, hK, hB2.trans (ks.below hB2.size (by have := h.wn; simp; omega)), h.hp, h.hb, h.wb, h.wn⟩
theorem okW_set {L : List Ot} (h : ∀ x ∈ L, OkW x) {o : Ot} (ho : o.Wf) : ∀ x ∈ (setL L o).2, OkW x := by
  unfold setL
  split
  · exact h
  · rename_i h1
    split
    · exact h
    · split
      · exact h
      · exact okW_ins ⟨by simpa using h1, ho.ag⟩ h
set_option maxRecDepth 100000 in
set_option maxHeartbeats 8000000 in
theorem law_StorePlays (A : Option Addr) (l : List A9) (c : Nat) (hl : l.length ≤ 9223372036854775807) (hz : ∀ y ∈ l, A9.Wf y) (w : World) (hA : A9Row w A l) :
    Calls Try.prog 7 #[.slice A l.length c] w fun e w' => e = .returned (.bool true) ∧ Below w.heap.size w w' := by
  have HA := Lib.hid hA
  clear hA
  go_enter Try.func7, Try.ntmps7
  go_wp2_with (fail)
  refine (great9_any c (HA.out) hl hz).mono ?_
  rintro e w1 ⟨g, rfl, hg, rfl⟩
  cases g with
  | true =>
    go_wp2_with (fail)
    go_wp2_with (fail)
    refine (wakes09 _).mono ?_
    rintro e w2 ⟨rfl, hB2⟩
    have HBe := Lib.hid ((Below.refl w.heap.size w).trans (hB2.mono (Below.refl w.heap.size w).size))
    clear hB2
    go_wp2_with (fail)
    go_ret
    exact ⟨rfl, HBe.out⟩
  | false =>
    have hfine := hg rfl
    clear hg
    go_wp2_with (fail)
    refine (rnew_any _).mono ?_
    rintro e w1 ⟨p, b, rfl, hS1, hp1, hb1, hB1⟩
    have hz0 := Int.natCast_nonneg l.length
    have h200 : (l.length : Int) ≤ 200 := by have := hfine.1; omega
    obtain ⟨nd, hnd⟩ : ∃ n, w1.heap.size = n := ⟨_, rfl⟩
    have hP0 : PyI w p b nd [] (.slice none 0 0) (w1.alloc (.cells #[.slice none 0 0] 64)) := by
      have hk : Keep [] w1 (w1.alloc (.cells #[.slice none 0 0] 64)) := (Keep.refl _ _).alloc _
      have hl := hS1.lt
      subst hnd
      exact ⟨hS1.keep hk (by simp) (by simp), SxAt.new w1 _, World.ownsRow_nil _ _ _ _, by simp, List.Pairwise.nil, by simp, hB1.trans (hk.below hB1.size (by simp)), hl.1, hl.2.1, hb1, hB1.size⟩
    have HP0 := Lib.hid hP0
    have HZ := Lib.hid hz
    clear hP0 hS1 hp1 hb1 hB1 hfine hz
    go_wp2_with (fail)
    clear hnd
    go_loopw [5] (fun i wr => ∃ (j : Nat) (L : List Ot) (vd : Value), i = .int .i64 j ∧ j ≤ l.length ∧ PyI w p b nd L vd wr) (fun i _ => l.length - (intOf i).toNat)
    case atStart => exact ⟨0, [], _, rfl, Nat.zero_le _, HP0.out⟩
    case round =>
      clear HP0
      obtain ⟨j, L, vd, rfl, hj, hP⟩ := hrel
      obtain ⟨ad, cd, rfl, _⟩ := own_shape hP.D
      have h0j : (0 : Int) ≤ (j : Int) := Int.natCast_nonneg j
      by_cases hlt : j < l.length
      · obtain ⟨x, hx⟩ : ∃ x, l[j]? = some x := ⟨l[j], List.getElem?_eq_getElem hlt⟩
        obtain ⟨q, off, rfl, hq, hat⟩ := (HA.out.below hP.B) (by intro e; rw [e] at hlt; simp at hlt)
        have hx0 := hat j x hx
        have hxw := HZ.out x (List.mem_of_getElem? hx)
        have HXW := Lib.hid hxw
        have hjn : (j : Int) < (l.length : Int) := by omega
        have hkr : Keep [] wr (wr.alloc (acObj x)) := (Keep.refl _ wr).alloc _
        obtain ⟨W1, hW1⟩ : ∃ W1, wr.alloc (acObj x) = W1 := ⟨_, rfl⟩
        have hab := AcB.new wr x
        rw [hW1] at hab hkr
        have HABN := Lib.hid hab
        have HPN := Lib.hid (hP.keep hkr)
        have HAN := Lib.hid (show nd < wr.heap.size from SxAt.lt hP.X)
        obtain ⟨f0, f1, f2, f3, ff⟩ := hab.facts
        obtain ⟨f4, f5, f6, f7, f8, f9, f10, f11, f12, f13⟩ := hab.all
        obtain ⟨g0, gf⟩ := HPN.out.X.cells
        obtain ⟨c0, c1, c2, c3, c4⟩ := hx0
        obtain ⟨d0, d1, d2, d3, d4, d5, d6, d7, d8, d9⟩ := c4
        obtain ⟨dd, xk, xt, xn, ok, os, x1, x2, x3, x4, x5, x6, x7, x8⟩ := x
        simp only [acObj] at c0 c1 c2 c3 d0 d1 d2 d3 d4 d5 d6 d7 d8 d9 hW1 f0 f1 f2 f3 f4 f5 f6 f7 f8 f9 f10 f11 f12 f13
        have hky := fun W => key_any xk W HXW.out.key
        have hkr2 := fun W => rkey_any xk W HXW.out.key
        obtain ⟨kb, hkb⟩ : ∃ x, keyB xk = x := ⟨_, rfl⟩
        rw [hkb] at hky hkr2
        have HKY := Lib.hid hky
        have HKR := Lib.hid hkr2
        clear hat hx hxw hab hkr hP hky hkr2 hkb
        have hzL := Int.natCast_nonneg L.length
        have hzN : (L.length : Int) ≤ 32 := by have := HPN.out.N; omega
        by_cases t0 : dd = 0
        · subst t0
          obtain ⟨⟨e1, Lc⟩, hr⟩ : ∃ r, putL L xk xt xn = r := ⟨_, rfl⟩
          have hput := rput_any HPN.out.S (by have := HPN.out.N; omega) xk HXW.out.key xt xn
          have hdoc := fun (W : World) (hD : DocRow (nd + 1) W (.slice ad L.length cd) L) (hn : nd + 1 ≤ W.heap.size) => rdput_any (base := nd + 1) hD hn HPN.out.N HPN.out.U HPN.out.K xk HXW.out.key xt xn HXW.out.n
          have hN2 := put_len L xk xt xn HPN.out.N HPN.out.U
          have hU2 := putL_up xk xt xn HPN.out.U
          have hK2 := okW_put HPN.out.U HPN.out.K xk xt HXW.out.n
          rw [hr] at hput hdoc hN2 hU2 hK2
          simp only at hput hN2 hU2 hK2
          have HPUT := Lib.hid hput
          have HDOC := Lib.hid hdoc
          have HN2 := Lib.hid hN2
          have HU2 := Lib.hid hU2
          have HK2 := Lib.hid hK2
          clear hr hput hdoc hN2 hU2 hK2
          go_wp2_with (fail)
          refine HPUT.out.mono ?_
          rintro e w4 ⟨rfl, hS4, hK4⟩
          have HM := Lib.hid (HPN.out.mid hS4 hK4)
          have HABM := Lib.hid (HABN.out.keep hK4 (by have := HAN.out; have := HPN.out.hb; simp; omega))
          clear hS4 hK4 HPUT
          clear c0 c1 c2 c3 d0 d1 d2 d3 d4 d5 d6 d7 d8 d9 hW1
          clear f0 f1 f2 f3 ff f4 f5 f6 f7 f8 f9 f10 f11 f12 f13 g0 gf
          obtain ⟨f0, f1, f2, f3, ff⟩ := HABM.out.facts
          obtain ⟨f4, f5, f6, f7, f8, f9, f10, f11, f12, f13⟩ := HABM.out.all
          obtain ⟨g0, gf⟩ := HM.out.X.cells
          simp only at f0 f1 f2 f3 f4 f5 f6 f7 f8 f9 f10 f11 f12 f13
          go_wp2_with (fail)
          refine (HDOC.out _ HM.out.D (SxAt.lt HM.out.X)).mono ?_
          rintro e w5 ⟨vd', rfl, hD5, hB5⟩
          clear HDOC
          simp only at hD5 ⊢
          obtain ⟨ad', cd', rfl, _⟩ := own_shape hD5
          obtain ⟨WS, hWS⟩ : ∃ W, w5.setCell ⟨nd, 0, none⟩ (.slice ad' Lc.length cd') = W := ⟨_, rfl⟩
          have hfin := HPN.out.fin HM.out hB5 hD5 HN2.out HU2.out HK2.out
          have hab5 := HABM.out.keep (Keep.of_below hB5 [])
          have g5 := (HM.out.X.keep (Keep.of_below hB5 [])).cells
          rw [hWS] at hfin
          have HP := Lib.hid hfin
          have HAB := Lib.hid (hab5.keep (X := [nd]) (hWS ▸ (Keep.refl _ w5).setCell _ _ _ (.inl (by simp))) (by have := HAN.out; simp; omega))
          clear f0 f1 f2 f3 ff f4 f5 f6 f7 f8 f9 f10 f11 f12 f13 g0 gf
          obtain ⟨h0, hf⟩ := g5
          clear hfin hab5 hD5 hB5 HPN HM HABM HABN HN2 HU2 HK2
          have hzl := Int.natCast_nonneg Lc.length
          have hzm : (Lc.length : Int) ≤ 32 := by have := HP.out.N; omega
          obtain ⟨g0, gf⟩ := HP.out.X.cells
          obtain ⟨f0, f1, f2, f3, ff⟩ := HAB.out.facts
          simp only at f0 f1 f2 f3
          go_wp2_with (fail)
          clear hWS h0 hf g0 gf f0 f1 f2 f3 ff
          refine wp_region_soup 25 [] (spOf [(5, Spec.is (.int .i64 (Lc.length : Int))), (14, Spec.is (.bool kb)), (17, Spec.is (.bool kb)), (22, Spec.ots Lc)]) (by kernel_rfl) (by kernel_rfl) (spOk_of (by simp [Spec.is_ok, Spec.ots_ok])) (pre_of (by simp [Spec.is_ok, Spec.ots_ok])) ?_
          simp only [List.take_succ_cons, List.take_zero, List.drop_succ_cons, List.drop_zero]
          iterate 5
            with_reducible refine soup_q ?_ ?_ ?_
            · rfl
            · rfl
            with_reducible apply Exists.intro
            with_reducible refine ⟨fun W hk _ => ?_, ?_⟩
            · obtain ⟨g0, gf⟩ := (HP.out.X.keep hk).cells
              obtain ⟨f0, f1, f2, f3, ff⟩ := (HAB.out.keep hk).facts
              simp only at f0 f1 f2 f3
              unfold Oper.same
              go_simp
              first | rfl | exact ⟨rfl, rfl⟩
            with_reducible apply Exists.intro
            with_reducible refine ⟨?_, ?_⟩
            · go_simp
              rfl
          refine soup_s rfl rfl rfl (fun W hk _ _ => ?_) ?_
          · unfold Oper.does
            go_simp
            refine (rlen_any (HP.out.S.keep hk (by simp) (by simp))).mono ?_
            rintro e w' ⟨rfl, rfl⟩
            exact ⟨_, rfl, Keep.refl _ _, hk, rfl, trivial⟩
          intro v hv
          obtain rfl : v = _ := hv
          with_reducible apply Exists.intro
          with_reducible refine ⟨?_, ?_⟩
          · go_simp
            rfl
          iterate 8
            with_reducible refine soup_q ?_ ?_ ?_
            · rfl
            · rfl
            with_reducible apply Exists.intro
            with_reducible refine ⟨fun W hk _ => ?_, ?_⟩
            · obtain ⟨g0, gf⟩ := (HP.out.X.keep hk).cells
              obtain ⟨f0, f1, f2, f3, ff⟩ := (HAB.out.keep hk).facts
              simp only at f0 f1 f2 f3
              unfold Oper.same
              go_simp
              first | rfl | exact ⟨rfl, rfl⟩
            with_reducible apply Exists.intro
            with_reducible refine ⟨?_, ?_⟩
            · go_simp
              rfl
          refine soup_s rfl rfl rfl (fun W hk _ _ => ?_) ?_
          · unfold Oper.does
            go_simp
            refine (HKY.out _).mono ?_
            rintro e w' ⟨rfl, rfl⟩
            exact ⟨_, rfl, Keep.refl _ _, hk, rfl, trivial⟩
          intro v hv
          obtain rfl : v = _ := hv
          with_reducible apply Exists.intro
          with_reducible refine ⟨?_, ?_⟩
          · go_simp
            rfl
          iterate 2
            with_reducible refine soup_q ?_ ?_ ?_
            · rfl
            · rfl
            with_reducible apply Exists.intro
            with_reducible refine ⟨fun W hk _ => ?_, ?_⟩
            · obtain ⟨g0, gf⟩ := (HP.out.X.keep hk).cells
              obtain ⟨f0, f1, f2, f3, ff⟩ := (HAB.out.keep hk).facts
              simp only at f0 f1 f2 f3
              unfold Oper.same
              go_simp
              first | rfl | exact ⟨rfl, rfl⟩
            with_reducible apply Exists.intro
            with_reducible refine ⟨?_, ?_⟩
            · go_simp
              rfl
          refine soup_s rfl rfl rfl (fun W hk _ _ => ?_) ?_
          · unfold Oper.does
            go_simp
            refine (HKR.out _).mono ?_
            rintro e w' ⟨rfl, rfl⟩
            exact ⟨_, rfl, Keep.refl _ _, hk, rfl, trivial⟩
          intro v hv
          obtain rfl : v = _ := hv
          with_reducible apply Exists.intro
          with_reducible refine ⟨?_, ?_⟩
          · go_simp
            rfl
          iterate 4
            with_reducible refine soup_q ?_ ?_ ?_
            · rfl
            · rfl
            with_reducible apply Exists.intro
            with_reducible refine ⟨fun W hk _ => ?_, ?_⟩
            · obtain ⟨g0, gf⟩ := (HP.out.X.keep hk).cells
              obtain ⟨f0, f1, f2, f3, ff⟩ := (HAB.out.keep hk).facts
              simp only at f0 f1 f2 f3
              unfold Oper.same
              go_simp
              first | rfl | exact ⟨rfl, rfl⟩
            with_reducible apply Exists.intro
            with_reducible refine ⟨?_, ?_⟩
            · go_simp
              rfl
          refine soup_s rfl rfl rfl (fun W hk _ _ => ?_) ?_
          · unfold Oper.does
            go_simp
            refine (rall_any (HP.out.S.keep hk (by simp) (by simp)) (by have := HP.out.N; omega)).mono ?_
            rintro e w' ⟨A5, c5, rfl, hE, hb⟩
            exact ⟨_, rfl, Keep.of_below hb _, hk.then_below hb, ⟨_, _, rfl⟩, _, _, rfl, hE.row⟩
          rintro v ⟨A5, c5, rfl⟩
          with_reducible apply Exists.intro
          with_reducible refine ⟨?_, ?_⟩
          · go_simp
            rfl
          iterate 2
            with_reducible refine soup_q ?_ ?_ ?_
            · rfl
            · rfl
            with_reducible apply Exists.intro
            with_reducible refine ⟨fun W hk _ => ?_, ?_⟩
            · obtain ⟨g0, gf⟩ := (HP.out.X.keep hk).cells
              obtain ⟨f0, f1, f2, f3, ff⟩ := (HAB.out.keep hk).facts
              simp only at f0 f1 f2 f3
              unfold Oper.same
              go_simp
              first | rfl | exact ⟨rfl, rfl⟩
            with_reducible apply Exists.intro
            with_reducible refine ⟨?_, ?_⟩
            · go_simp
              rfl
          refine soup_nil (fun WZ hk hS => ?_)
          have hrow : OtsRow WZ A5 Lc := by
            obtain ⟨A6, c6, e1, e2⟩ := hS 22
            simp only [Value.slice.injEq, true_and] at e1
            obtain ⟨rfl, rfl⟩ := e1
            exact e2
          have HPZ := Lib.hid (HP.out.keep hk)
          have hsm := same_any c5 cd' hrow (DocRow.row HPZ.out.D) (by have := HP.out.N; omega) (by have := HP.out.N; omega)
          rw [decide_eq_true rfl] at hsm
          clear hk hS HP HAB hrow
          go_wp2_with (fail)
          refine hsm.mono ?_
          rintro e wz ⟨rfl, hKz⟩
          have HPW := Lib.hid (HPZ.out.keep hKz)
          clear hsm hKz HPZ
          go_wp2_with (fail)
          go_roundw
          case rel => exact ⟨j + 1, Lc, _, by go_num, by omega, HPW.out⟩
          case measure => simp [intOf]; omega
        by_cases t1 : dd = 1
        · subst t1
          obtain ⟨⟨e1, Lc⟩, hr⟩ : ∃ r, setL L ⟨ok, os, ⟨x1, x2, x3, x4, x5, x6, x7, x8⟩⟩ = r := ⟨_, rfl⟩
          have hput := rset_any HPN.out.S (by have := HPN.out.N; omega) ⟨ok, os, ⟨x1, x2, x3, x4, x5, x6, x7, x8⟩⟩ HXW.out.out.key
          have hdoc := fun (W : World) (hD : DocRow (nd + 1) W (.slice ad L.length cd) L) (hn : nd + 1 ≤ W.heap.size) => rdset_any (base := nd + 1) hD hn HPN.out.N HPN.out.U HPN.out.K ⟨ok, os, ⟨x1, x2, x3, x4, x5, x6, x7, x8⟩⟩ HXW.out.out
          have hN2 := set_len L ⟨ok, os, ⟨x1, x2, x3, x4, x5, x6, x7, x8⟩⟩ HPN.out.N HPN.out.U
          have hU2 := setL_up ⟨ok, os, ⟨x1, x2, x3, x4, x5, x6, x7, x8⟩⟩ HPN.out.U
          have hK2 := okW_set HPN.out.K HXW.out.out
          rw [hr] at hput hdoc hN2 hU2 hK2
          simp only at hput hN2 hU2 hK2
          simp only [Ot.enc] at hput hdoc
          have HPUT := Lib.hid hput
          have HDOC := Lib.hid hdoc
          have HN2 := Lib.hid hN2
          have HU2 := Lib.hid hU2
          have HK2 := Lib.hid hK2
          clear hr hput hdoc hN2 hU2 hK2
          go_wp2_with (fail)
          refine HPUT.out.mono ?_
          rintro e w4 ⟨rfl, hS4, hK4⟩
          have HM := Lib.hid (HPN.out.mid hS4 hK4)
          have HABM := Lib.hid (HABN.out.keep hK4 (by have := HAN.out; have := HPN.out.hb; simp; omega))
          clear hS4 hK4 HPUT
          clear c0 c1 c2 c3 d0 d1 d2 d3 d4 d5 d6 d7 d8 d9 hW1
          clear f0 f1 f2 f3 ff f4 f5 f6 f7 f8 f9 f10 f11 f12 f13 g0 gf
          obtain ⟨f0, f1, f2, f3, ff⟩ := HABM.out.facts
          obtain ⟨f4, f5, f6, f7, f8, f9, f10, f11, f12, f13⟩ := HABM.out.all
          obtain ⟨g0, gf⟩ := HM.out.X.cells
          simp only at f0 f1 f2 f3 f4 f5 f6 f7 f8 f9 f10 f11 f12 f13
          go_wp2_with (fail)
          refine (HDOC.out _ HM.out.D (SxAt.lt HM.out.X)).mono ?_
          rintro e w5 ⟨vd', rfl, hD5, hB5⟩
          clear HDOC
          simp only at hD5 ⊢
          obtain ⟨ad', cd', rfl, _⟩ := own_shape hD5
          obtain ⟨WS, hWS⟩ : ∃ W, w5.setCell ⟨nd, 0, none⟩ (.slice ad' Lc.length cd') = W := ⟨_, rfl⟩
          have hfin := HPN.out.fin HM.out hB5 hD5 HN2.out HU2.out HK2.out
          have hab5 := HABM.out.keep (Keep.of_below hB5 [])
          have g5 := (HM.out.X.keep (Keep.of_below hB5 [])).cells
          rw [hWS] at hfin
          have HP := Lib.hid hfin
          have HAB := Lib.hid (hab5.keep (X := [nd]) (hWS ▸ (Keep.refl _ w5).setCell _ _ _ (.inl (by simp))) (by have := HAN.out; simp; omega))
          clear f0 f1 f2 f3 ff f4 f5 f6 f7 f8 f9 f10 f11 f12 f13 g0 gf
          obtain ⟨h0, hf⟩ := g5
          clear hfin hab5 hD5 hB5 HPN HM HABM HABN HN2 HU2 HK2
          have hzl := Int.natCast_nonneg Lc.length
          have hzm : (Lc.length : Int) ≤ 32 := by have := HP.out.N; omega
          obtain ⟨g0, gf⟩ := HP.out.X.cells
          obtain ⟨f0, f1, f2, f3, ff⟩ := HAB.out.facts
          simp only at f0 f1 f2 f3
          go_wp2_with (fail)
          clear hWS h0 hf g0 gf f0 f1 f2 f3 ff
          refine wp_region_soup 25 [] (spOf [(5, Spec.is (.int .i64 (Lc.length : Int))), (14, Spec.is (.bool kb)), (17, Spec.is (.bool kb)), (22, Spec.ots Lc)]) (by kernel_rfl) (by kernel_rfl) (spOk_of (by simp [Spec.is_ok, Spec.ots_ok])) (pre_of (by simp [Spec.is_ok, Spec.ots_ok])) ?_
          simp only [List.take_succ_cons, List.take_zero, List.drop_succ_cons, List.drop_zero]
          iterate 5
            with_reducible refine soup_q ?_ ?_ ?_
            · rfl
            · rfl
            with_reducible apply Exists.intro
            with_reducible refine ⟨fun W hk _ => ?_, ?_⟩
            · obtain ⟨g0, gf⟩ := (HP.out.X.keep hk).cells
              obtain ⟨f0, f1, f2, f3, ff⟩ := (HAB.out.keep hk).facts
              simp only at f0 f1 f2 f3
              unfold Oper.same
              go_simp
              first | rfl | exact ⟨rfl, rfl⟩
            with_reducible apply Exists.intro
            with_reducible refine ⟨?_, ?_⟩
            · go_simp
              rfl
          refine soup_s rfl rfl rfl (fun W hk _ _ => ?_) ?_
          · unfold Oper.does
            go_simp
            refine (rlen_any (HP.out.S.keep hk (by simp) (by simp))).mono ?_
            rintro e w' ⟨rfl, rfl⟩
            exact ⟨_, rfl, Keep.refl _ _, hk, rfl, trivial⟩
          intro v hv
          obtain rfl : v = _ := hv
          with_reducible apply Exists.intro
          with_reducible refine ⟨?_, ?_⟩
          · go_simp
            rfl
          iterate 8
            with_reducible refine soup_q ?_ ?_ ?_
            · rfl
            · rfl
            with_reducible apply Exists.intro
            with_reducible refine ⟨fun W hk _ => ?_, ?_⟩
            · obtain ⟨g0, gf⟩ := (HP.out.X.keep hk).cells
              obtain ⟨f0, f1, f2, f3, ff⟩ := (HAB.out.keep hk).facts
              simp only at f0 f1 f2 f3
              unfold Oper.same
              go_simp
              first | rfl | exact ⟨rfl, rfl⟩
            with_reducible apply Exists.intro
            with_reducible refine ⟨?_, ?_⟩
            · go_simp
              rfl
          refine soup_s rfl rfl rfl (fun W hk _ _ => ?_) ?_
          · unfold Oper.does
            go_simp
            refine (HKY.out _).mono ?_
            rintro e w' ⟨rfl, rfl⟩
            exact ⟨_, rfl, Keep.refl _ _, hk, rfl, trivial⟩
          intro v hv
          obtain rfl : v = _ := hv
          with_reducible apply Exists.intro
          with_reducible refine ⟨?_, ?_⟩
          · go_simp
            rfl
          iterate 2
            with_reducible refine soup_q ?_ ?_ ?_
            · rfl
            · rfl
            with_reducible apply Exists.intro
            with_reducible refine ⟨fun W hk _ => ?_, ?_⟩
            · obtain ⟨g0, gf⟩ := (HP.out.X.keep hk).cells
              obtain ⟨f0, f1, f2, f3, ff⟩ := (HAB.out.keep hk).facts
              simp only at f0 f1 f2 f3
              unfold Oper.same
              go_simp
              first | rfl | exact ⟨rfl, rfl⟩
            with_reducible apply Exists.intro
            with_reducible refine ⟨?_, ?_⟩
            · go_simp
              rfl
          refine soup_s rfl rfl rfl (fun W hk _ _ => ?_) ?_
          · unfold Oper.does
            go_simp
            refine (HKR.out _).mono ?_
            rintro e w' ⟨rfl, rfl⟩
            exact ⟨_, rfl, Keep.refl _ _, hk, rfl, trivial⟩
          intro v hv
          obtain rfl : v = _ := hv
          with_reducible apply Exists.intro
          with_reducible refine ⟨?_, ?_⟩
          · go_simp
            rfl
          iterate 4
            with_reducible refine soup_q ?_ ?_ ?_
            · rfl
            · rfl
            with_reducible apply Exists.intro
            with_reducible refine ⟨fun W hk _ => ?_, ?_⟩
            · obtain ⟨g0, gf⟩ := (HP.out.X.keep hk).cells
              obtain ⟨f0, f1, f2, f3, ff⟩ := (HAB.out.keep hk).facts
              simp only at f0 f1 f2 f3
              unfold Oper.same
              go_simp
              first | rfl | exact ⟨rfl, rfl⟩
            with_reducible apply Exists.intro
            with_reducible refine ⟨?_, ?_⟩
            · go_simp
              rfl
          refine soup_s rfl rfl rfl (fun W hk _ _ => ?_) ?_
          · unfold Oper.does
            go_simp
            refine (rall_any (HP.out.S.keep hk (by simp) (by simp)) (by have := HP.out.N; omega)).mono ?_
            rintro e w' ⟨A5, c5, rfl, hE, hb⟩
            exact ⟨_, rfl, Keep.of_below hb _, hk.then_below hb, ⟨_, _, rfl⟩, _, _, rfl, hE.row⟩
          rintro v ⟨A5, c5, rfl⟩
          with_reducible apply Exists.intro
          with_reducible refine ⟨?_, ?_⟩
          · go_simp
            rfl
          iterate 2
            with_reducible refine soup_q ?_ ?_ ?_
            · rfl
            · rfl
            with_reducible apply Exists.intro
            with_reducible refine ⟨fun W hk _ => ?_, ?_⟩
            · obtain ⟨g0, gf⟩ := (HP.out.X.keep hk).cells
              obtain ⟨f0, f1, f2, f3, ff⟩ := (HAB.out.keep hk).facts
              simp only at f0 f1 f2 f3
              unfold Oper.same
              go_simp
              first | rfl | exact ⟨rfl, rfl⟩
            with_reducible apply Exists.intro
            with_reducible refine ⟨?_, ?_⟩
            · go_simp
              rfl
          refine soup_nil (fun WZ hk hS => ?_)
          have hrow : OtsRow WZ A5 Lc := by
            obtain ⟨A6, c6, e1, e2⟩ := hS 22
            simp only [Value.slice.injEq, true_and] at e1
            obtain ⟨rfl, rfl⟩ := e1
            exact e2
          have HPZ := Lib.hid (HP.out.keep hk)
          have hsm := same_any c5 cd' hrow (DocRow.row HPZ.out.D) (by have := HP.out.N; omega) (by have := HP.out.N; omega)
          rw [decide_eq_true rfl] at hsm
          clear hk hS HP HAB hrow
          go_wp2_with (fail)
          refine hsm.mono ?_
          rintro e wz ⟨rfl, hKz⟩
          have HPW := Lib.hid (HPZ.out.keep hKz)
          clear hsm hKz HPZ
          go_wp2_with (fail)
          go_roundw
          case rel => exact ⟨j + 1, Lc, _, by go_num, by omega, HPW.out⟩
          case measure => simp [intOf]; omega
        by_cases t2 : dd = 2
        · subst t2
          obtain ⟨Lc, hLc⟩ : ∃ x, restL xt L = x := ⟨_, rfl⟩
          obtain ⟨Lo, hLo⟩ : ∃ x, overL xt L = x := ⟨_, rfl⟩
          have htk := rtake_any HPN.out.S (by have := HPN.out.N; omega) xt
          have hdoc := fun (W : World) (hD : DocRow (nd + 1) W (.slice ad L.length cd) L) => rdtake_any hD (by have := HPN.out.N; omega) xt
          unfold TakeR at htk
          unfold TakeDoc at hdoc
          have hol := over_rest_len xt L
          have hU2 := HPN.out.U.filter (fun x => !overB x.st xt)
          have hK2 : ∀ y ∈ restL xt L, OkW y := fun y hy => HPN.out.K y (List.mem_filter.1 hy).1
          change (restL xt L).Pairwise ltO at hU2
          rw [hLc, hLo] at htk hdoc hol
          rw [hLc] at hU2 hK2
          have hlo : Lo.length ≤ 32 := by have := HPN.out.N; omega
          have hN2 : Lc.length ≤ 32 := by have := HPN.out.N; omega
          have HTK := Lib.hid htk
          have HDOC := Lib.hid hdoc
          have HU2 := Lib.hid hU2
          have HK2 := Lib.hid hK2
          clear htk hdoc hol hLc hLo hU2 hK2
          go_wp2_with (fail)
          refine HTK.out.mono ?_
          rintro e w4 ⟨A4, c4, rfl, hE4, hS4, hK4⟩
          have HM := Lib.hid (HPN.out.mid hS4 hK4)
          have HE4 := Lib.hid hE4.row
          have HFR4 : Hid (Lo ≠ [] → ∀ q off, A4 = some ⟨q, off, none⟩ → nd < q) := Lib.hid (fun hl q off hq => by obtain ⟨g, e1, e2, _⟩ := hE4 hl; rw [hq] at e1; cases e1; have := SxAt.lt HPN.out.X; omega)
          have HABM := Lib.hid (HABN.out.keep hK4 (by have := HAN.out; have := HPN.out.hb; simp; omega))
          clear hS4 hK4 hE4 HTK
          clear c0 c1 c2 c3 d0 d1 d2 d3 d4 d5 d6 d7 d8 d9 hW1
          clear f0 f1 f2 f3 ff f4 f5 f6 f7 f8 f9 f10 f11 f12 f13 g0 gf
          obtain ⟨f0, f1, f2, f3, ff⟩ := HABM.out.facts
          obtain ⟨f4, f5, f6, f7, f8, f9, f10, f11, f12, f13⟩ := HABM.out.all
          obtain ⟨g0, gf⟩ := HM.out.X.cells
          simp only at f0 f1 f2 f3 f4 f5 f6 f7 f8 f9 f10 f11 f12 f13
          go_wp2_with (fail)
          refine (HDOC.out _ HM.out.D).mono ?_
          rintro e w5 ⟨v1, v2, rfl, hD5, hO5, hB5⟩
          clear HDOC
          have hD5 : DocRow (nd + 1) w5 v1 Lc := own_mono hD5 (SxAt.lt HM.out.X)
          obtain ⟨ad', cd', rfl, _⟩ := own_shape hD5
          obtain ⟨ao, co, rfl, _⟩ := own_shape hO5
          obtain ⟨WS, hWS⟩ : ∃ W, w5.setCell ⟨nd, 0, none⟩ (.slice ad' Lc.length cd') = W := ⟨_, rfl⟩
          have kst : Keep [nd] w5 WS := hWS ▸ (Keep.refl _ w5).setCell _ _ _ (.inl (by simp))
          have hfin := HPN.out.fin HM.out hB5 hD5 hN2 HU2.out HK2.out
          have hab5 := HABM.out.keep (Keep.of_below hB5 [])
          have g5 := (HM.out.X.keep (Keep.of_below hB5 [])).cells
          rw [hWS] at hfin
          have HPT := Lib.hid hfin
          have HABT := Lib.hid (hab5.keep kst (by have := HAN.out; simp; omega))
          have HOT := Lib.hid ((DocRow.row (show DocRow w4.heap.size w5 (.slice ao Lo.length co) Lo from hO5)).keep kst (fun hl q off hq => by
            have h1 := own_base hO5 q (by rw [hq]; simp [Value.ownBlock])
            have := SxAt.lt HM.out.X
            simp; omega))
          have HET := Lib.hid ((HE4.out.keep (Keep.of_below hB5 []) (fun _ _ _ _ => by simp)).keep kst (fun hl q off hq => by
            have := HFR4.out hl q off hq
            simp; omega))
          clear f0 f1 f2 f3 ff f4 f5 f6 f7 f8 f9 f10 f11 f12 f13 g0 gf
          obtain ⟨h0, hf⟩ := g5
          clear hfin hab5 hD5 hO5 hB5 kst HPN HM HABM HABN HU2 HK2 HE4 HFR4
          obtain ⟨g0, gf⟩ := HPT.out.X.cells
          obtain ⟨f0, f1, f2, f3, ff⟩ := HABT.out.facts
          simp only at f0 f1 f2 f3
          go_wp2_with (fail)
          clear hWS h0 hf g0 gf f0 f1 f2 f3 ff
          have hsm := same_any c4 co HET.out HOT.out (by omega) (by omega)
          rw [decide_eq_true rfl] at hsm
          refine hsm.mono ?_
          rintro e w7 ⟨rfl, hK7⟩
          have HP := Lib.hid (HPT.out.keep hK7)
          have HAB := Lib.hid (HABT.out.keep hK7)
          clear hsm hK7 HPT HABT HET HOT
          have hzl := Int.natCast_nonneg Lc.length
          have hzm : (Lc.length : Int) ≤ 32 := by omega
          obtain ⟨g0, gf⟩ := HP.out.X.cells
          obtain ⟨f0, f1, f2, f3, ff⟩ := HAB.out.facts
          simp only at f0 f1 f2 f3
          go_wp2_with (fail)
          clear g0 gf f0 f1 f2 f3 ff
          refine wp_region_soup 25 [] (spOf [(5, Spec.is (.int .i64 (Lc.length : Int))), (14, Spec.is (.bool kb)), (17, Spec.is (.bool kb)), (22, Spec.ots Lc)]) (by kernel_rfl) (by kernel_rfl) (spOk_of (by simp [Spec.is_ok, Spec.ots_ok])) (pre_of (by simp [Spec.is_ok, Spec.ots_ok])) ?_
          simp only [List.take_succ_cons, List.take_zero, List.drop_succ_cons, List.drop_zero]
          iterate 5
            with_reducible refine soup_q ?_ ?_ ?_
            · rfl
            · rfl
            with_reducible apply Exists.intro
            with_reducible refine ⟨fun W hk _ => ?_, ?_⟩
            · obtain ⟨g0, gf⟩ := (HP.out.X.keep hk).cells
              obtain ⟨f0, f1, f2, f3, ff⟩ := (HAB.out.keep hk).facts
              simp only at f0 f1 f2 f3
              unfold Oper.same
              go_simp
              first | rfl | exact ⟨rfl, rfl⟩
            with_reducible apply Exists.intro
            with_reducible refine ⟨?_, ?_⟩
            · go_simp
              rfl
          refine soup_s rfl rfl rfl (fun W hk _ _ => ?_) ?_
          · unfold Oper.does
            go_simp
            refine (rlen_any (HP.out.S.keep hk (by simp) (by simp))).mono ?_
            rintro e w' ⟨rfl, rfl⟩
            exact ⟨_, rfl, Keep.refl _ _, hk, rfl, trivial⟩
          intro v hv
          obtain rfl : v = _ := hv
          with_reducible apply Exists.intro
          with_reducible refine ⟨?_, ?_⟩
          · go_simp
            rfl
          iterate 8
            with_reducible refine soup_q ?_ ?_ ?_
            · rfl
            · rfl
            with_reducible apply Exists.intro
            with_reducible refine ⟨fun W hk _ => ?_, ?_⟩
            · obtain ⟨g0, gf⟩ := (HP.out.X.keep hk).cells
              obtain ⟨f0, f1, f2, f3, ff⟩ := (HAB.out.keep hk).facts
              simp only at f0 f1 f2 f3
              unfold Oper.same
              go_simp
              first | rfl | exact ⟨rfl, rfl⟩
            with_reducible apply Exists.intro
            with_reducible refine ⟨?_, ?_⟩
            · go_simp
              rfl
          refine soup_s rfl rfl rfl (fun W hk _ _ => ?_) ?_
          · unfold Oper.does
            go_simp
            refine (HKY.out _).mono ?_
            rintro e w' ⟨rfl, rfl⟩
            exact ⟨_, rfl, Keep.refl _ _, hk, rfl, trivial⟩
          intro v hv
          obtain rfl : v = _ := hv
          with_reducible apply Exists.intro
          with_reducible refine ⟨?_, ?_⟩
          · go_simp
            rfl
          iterate 2
            with_reducible refine soup_q ?_ ?_ ?_
            · rfl
            · rfl
            with_reducible apply Exists.intro
            with_reducible refine ⟨fun W hk _ => ?_, ?_⟩
            · obtain ⟨g0, gf⟩ := (HP.out.X.keep hk).cells
              obtain ⟨f0, f1, f2, f3, ff⟩ := (HAB.out.keep hk).facts
              simp only at f0 f1 f2 f3
              unfold Oper.same
              go_simp
              first | rfl | exact ⟨rfl, rfl⟩
            with_reducible apply Exists.intro
            with_reducible refine ⟨?_, ?_⟩
            · go_simp
              rfl
          refine soup_s rfl rfl rfl (fun W hk _ _ => ?_) ?_
          · unfold Oper.does
            go_simp
            refine (HKR.out _).mono ?_
            rintro e w' ⟨rfl, rfl⟩
            exact ⟨_, rfl, Keep.refl _ _, hk, rfl, trivial⟩
          intro v hv
          obtain rfl : v = _ := hv
          with_reducible apply Exists.intro
          with_reducible refine ⟨?_, ?_⟩
          · go_simp
            rfl
          iterate 4
            with_reducible refine soup_q ?_ ?_ ?_
            · rfl
            · rfl
            with_reducible apply Exists.intro
            with_reducible refine ⟨fun W hk _ => ?_, ?_⟩
            · obtain ⟨g0, gf⟩ := (HP.out.X.keep hk).cells
              obtain ⟨f0, f1, f2, f3, ff⟩ := (HAB.out.keep hk).facts
              simp only at f0 f1 f2 f3
              unfold Oper.same
              go_simp
              first | rfl | exact ⟨rfl, rfl⟩
            with_reducible apply Exists.intro
            with_reducible refine ⟨?_, ?_⟩
            · go_simp
              rfl
          refine soup_s rfl rfl rfl (fun W hk _ _ => ?_) ?_
          · unfold Oper.does
            go_simp
            refine (rall_any (HP.out.S.keep hk (by simp) (by simp)) (by have := HP.out.N; omega)).mono ?_
            rintro e w' ⟨A5, c5, rfl, hE, hb⟩
            exact ⟨_, rfl, Keep.of_below hb _, hk.then_below hb, ⟨_, _, rfl⟩, _, _, rfl, hE.row⟩
          rintro v ⟨A5, c5, rfl⟩
          with_reducible apply Exists.intro
          with_reducible refine ⟨?_, ?_⟩
          · go_simp
            rfl
          iterate 2
            with_reducible refine soup_q ?_ ?_ ?_
            · rfl
            · rfl
            with_reducible apply Exists.intro
            with_reducible refine ⟨fun W hk _ => ?_, ?_⟩
            · obtain ⟨g0, gf⟩ := (HP.out.X.keep hk).cells
              obtain ⟨f0, f1, f2, f3, ff⟩ := (HAB.out.keep hk).facts
              simp only at f0 f1 f2 f3
              unfold Oper.same
              go_simp
              first | rfl | exact ⟨rfl, rfl⟩
            with_reducible apply Exists.intro
            with_reducible refine ⟨?_, ?_⟩
            · go_simp
              rfl
          refine soup_nil (fun WZ hk hS => ?_)
          have hrow : OtsRow WZ A5 Lc := by
            obtain ⟨A6, c6, e1, e2⟩ := hS 22
            simp only [Value.slice.injEq, true_and] at e1
            obtain ⟨rfl, rfl⟩ := e1
            exact e2
          have HPZ := Lib.hid (HP.out.keep hk)
          have hsm := same_any c5 cd' hrow (DocRow.row HPZ.out.D) (by have := HP.out.N; omega) (by have := HP.out.N; omega)
          rw [decide_eq_true rfl] at hsm
          clear hk hS HP HAB hrow
          go_wp2_with (fail)
          refine hsm.mono ?_
          rintro e wz ⟨rfl, hKz⟩
          have HPW := Lib.hid (HPZ.out.keep hKz)
          clear hsm hKz HPZ
          go_wp2_with (fail)
          go_roundw
          case rel => exact ⟨j + 1, Lc, _, by go_num, by omega, HPW.out⟩
          case measure => simp [intOf]; omega
        by_cases t3 : dd = 3
        · subst t3
          obtain ⟨⟨a1, a2, a3, a4, a5, a6, a7, a8⟩, ha⟩ : ∃ x, (lkL ⟨xt, xk⟩ L).getD Ag.zero = x := ⟨_, rfl⟩
          obtain ⟨is, his⟩ : ∃ x, (lkL ⟨xt, xk⟩ L).isSome = x := ⟨_, rfl⟩
          have hget := rget_any HPN.out.S xk xt
          have hdoc := fun (W : World) (hD : DocRow (nd + 1) W (.slice ad L.length cd) L) => rdget_any hD HPN.out.N HPN.out.U HPN.out.K xk HXW.out.key xt
          rw [ha, his] at hget hdoc
          simp only [Ag.val] at hget hdoc
          have hne := neq_ag ⟨a1, a2, a3, a4, a5, a6, a7, a8⟩ ⟨a1, a2, a3, a4, a5, a6, a7, a8⟩
          rw [decide_eq_true rfl] at hne
          simp only [Ag.val, Bool.not_true] at hne
          have HGET := Lib.hid hget
          have HDOC := Lib.hid hdoc
          have HNE := Lib.hid hne
          have HGD := Lib.hid (guard_ag .neq)
          clear ha his hget hdoc hne
          go_wp2_with (fail)
          refine HGET.out.mono ?_
          rintro e w4 ⟨rfl, hB4⟩
          clear c0 c1 c2 c3 d0 d1 d2 d3 d4 d5 d6 d7 d8 d9 hW1
          clear f0 f1 f2 f3 ff f4 f5 f6 f7 f8 f9 f10 f11 f12 f13 g0 gf
          have hka : Keep [] w4 (w4.alloc (agObj a1 a2 a3 a4 a5 a6 a7 a8)) := (Keep.refl _ _).alloc _
          have HP5 := Lib.hid ((HPN.out.keep (Keep.of_below hB4 [])).keep hka)
          have HAB5 := Lib.hid ((HABN.out.keep (Keep.of_below hB4 [])).keep hka)
          have HX5 := Lib.hid (Bx.new w4 a1 a2 a3 a4 a5 a6 a7 a8)
          obtain ⟨W5, hW5⟩ : ∃ W, w4.alloc (agObj a1 a2 a3 a4 a5 a6 a7 a8) = W := ⟨_, rfl⟩
          rw [hW5] at HP5 HAB5 HX5
          clear hB4 hka HPN HABN HGET
          obtain ⟨f0, f1, f2, f3, ff⟩ := HAB5.out.facts
          obtain ⟨g0, gf⟩ := HP5.out.X.cells
          simp only at f0 f1 f2 f3
          go_wp2_with (fail)
          clear hW5 f0 f1 f2 f3 ff g0 gf
          refine (HDOC.out _ HP5.out.D).mono ?_
          rintro e w6 ⟨rfl, hB6⟩
          have hka : Keep [] w6 (w6.alloc (agObj a1 a2 a3 a4 a5 a6 a7 a8)) := (Keep.refl _ _).alloc _
          have HP := Lib.hid ((HP5.out.keep (Keep.of_below hB6 [])).keep hka)
          have HAB := Lib.hid ((HAB5.out.keep (Keep.of_below hB6 [])).keep hka)
          have hx7 := (HX5.out.keep (Keep.of_below hB6 [])).keep hka
          have hy7 := Bx.new w6 a1 a2 a3 a4 a5 a6 a7 a8
          obtain ⟨W7, hW7⟩ : ∃ W, w6.alloc (agObj a1 a2 a3 a4 a5 a6 a7 a8) = W := ⟨_, rfl⟩
          rw [hW7] at HP HAB hx7 hy7
          obtain ⟨p0, p1, p2, p3, p4, p5, p6, p7, p8, pf⟩ := hx7.facts
          obtain ⟨q0, q1, q2, q3, q4, q5, q6, q7, q8, qf⟩ := hy7.facts
          clear hB6 hka HP5 HAB5 HX5 HDOC hx7 hy7
          have hneq := HNE.out
          have hgd := HGD.out
          obtain ⟨g0, gf⟩ := HP.out.X.cells
          obtain ⟨f0, f1, f2, f3, ff⟩ := HAB.out.facts
          simp only at f0 f1 f2 f3
          go_wp2_with (fail)
          clear hW7 p0 p1 p2 p3 p4 p5 p6 p7 p8 pf q0 q1 q2 q3 q4 q5 q6 q7 q8 qf hneq hgd HNE HGD
          clear g0 gf f0 f1 f2 f3 ff
          refine wp_region_soup 25 [] (spOf [(5, Spec.is (.int .i64 (L.length : Int))), (14, Spec.is (.bool kb)), (17, Spec.is (.bool kb)), (22, Spec.ots L)]) (by kernel_rfl) (by kernel_rfl) (spOk_of (by simp [Spec.is_ok, Spec.ots_ok])) (pre_of (by simp [Spec.is_ok, Spec.ots_ok])) ?_
          simp only [List.take_succ_cons, List.take_zero, List.drop_succ_cons, List.drop_zero]
          iterate 5
            with_reducible refine soup_q ?_ ?_ ?_
            · rfl
            · rfl
            with_reducible apply Exists.intro
            with_reducible refine ⟨fun W hk _ => ?_, ?_⟩
            · obtain ⟨g0, gf⟩ := (HP.out.X.keep hk).cells
              obtain ⟨f0, f1, f2, f3, ff⟩ := (HAB.out.keep hk).facts
              simp only at f0 f1 f2 f3
              unfold Oper.same
              go_simp
              first | rfl | exact ⟨rfl, rfl⟩
            with_reducible apply Exists.intro
            with_reducible refine ⟨?_, ?_⟩
            · go_simp
              rfl
          refine soup_s rfl rfl rfl (fun W hk _ _ => ?_) ?_
          · unfold Oper.does
            go_simp
            refine (rlen_any (HP.out.S.keep hk (by simp) (by simp))).mono ?_
            rintro e w' ⟨rfl, rfl⟩
            exact ⟨_, rfl, Keep.refl _ _, hk, rfl, trivial⟩
          intro v hv
          obtain rfl : v = _ := hv
          with_reducible apply Exists.intro
          with_reducible refine ⟨?_, ?_⟩
          · go_simp
            rfl
          iterate 8
            with_reducible refine soup_q ?_ ?_ ?_
            · rfl
            · rfl
            with_reducible apply Exists.intro
            with_reducible refine ⟨fun W hk _ => ?_, ?_⟩
            · obtain ⟨g0, gf⟩ := (HP.out.X.keep hk).cells
              obtain ⟨f0, f1, f2, f3, ff⟩ := (HAB.out.keep hk).facts
              simp only at f0 f1 f2 f3
              unfold Oper.same
              go_simp
              first | rfl | exact ⟨rfl, rfl⟩
            with_reducible apply Exists.intro
            with_reducible refine ⟨?_, ?_⟩
            · go_simp
              rfl
          refine soup_s rfl rfl rfl (fun W hk _ _ => ?_) ?_
          · unfold Oper.does
            go_simp
            refine (HKY.out _).mono ?_
            rintro e w' ⟨rfl, rfl⟩
            exact ⟨_, rfl, Keep.refl _ _, hk, rfl, trivial⟩
          intro v hv
          obtain rfl : v = _ := hv
          with_reducible apply Exists.intro
          with_reducible refine ⟨?_, ?_⟩
          · go_simp
            rfl
          iterate 2
            with_reducible refine soup_q ?_ ?_ ?_
            · rfl
            · rfl
            with_reducible apply Exists.intro
            with_reducible refine ⟨fun W hk _ => ?_, ?_⟩
            · obtain ⟨g0, gf⟩ := (HP.out.X.keep hk).cells
              obtain ⟨f0, f1, f2, f3, ff⟩ := (HAB.out.keep hk).facts
              simp only at f0 f1 f2 f3
              unfold Oper.same
              go_simp
              first | rfl | exact ⟨rfl, rfl⟩
            with_reducible apply Exists.intro
            with_reducible refine ⟨?_, ?_⟩
            · go_simp
              rfl
          refine soup_s rfl rfl rfl (fun W hk _ _ => ?_) ?_
          · unfold Oper.does
            go_simp
            refine (HKR.out _).mono ?_
            rintro e w' ⟨rfl, rfl⟩
            exact ⟨_, rfl, Keep.refl _ _, hk, rfl, trivial⟩
          intro v hv
          obtain rfl : v = _ := hv
          with_reducible apply Exists.intro
          with_reducible refine ⟨?_, ?_⟩
          · go_simp
            rfl
          iterate 4
            with_reducible refine soup_q ?_ ?_ ?_
            · rfl
            · rfl
            with_reducible apply Exists.intro
            with_reducible refine ⟨fun W hk _ => ?_, ?_⟩
            · obtain ⟨g0, gf⟩ := (HP.out.X.keep hk).cells
              obtain ⟨f0, f1, f2, f3, ff⟩ := (HAB.out.keep hk).facts
              simp only at f0 f1 f2 f3
              unfold Oper.same
              go_simp
              first | rfl | exact ⟨rfl, rfl⟩
            with_reducible apply Exists.intro
            with_reducible refine ⟨?_, ?_⟩
            · go_simp
              rfl
          refine soup_s rfl rfl rfl (fun W hk _ _ => ?_) ?_
          · unfold Oper.does
            go_simp
            refine (rall_any (HP.out.S.keep hk (by simp) (by simp)) (by have := HP.out.N; omega)).mono ?_
            rintro e w' ⟨A5, c5, rfl, hE, hb⟩
            exact ⟨_, rfl, Keep.of_below hb _, hk.then_below hb, ⟨_, _, rfl⟩, _, _, rfl, hE.row⟩
          rintro v ⟨A5, c5, rfl⟩
          with_reducible apply Exists.intro
          with_reducible refine ⟨?_, ?_⟩
          · go_simp
            rfl
          iterate 2
            with_reducible refine soup_q ?_ ?_ ?_
            · rfl
            · rfl
            with_reducible apply Exists.intro
            with_reducible refine ⟨fun W hk _ => ?_, ?_⟩
            · obtain ⟨g0, gf⟩ := (HP.out.X.keep hk).cells
              obtain ⟨f0, f1, f2, f3, ff⟩ := (HAB.out.keep hk).facts
              simp only at f0 f1 f2 f3
              unfold Oper.same
              go_simp
              first | rfl | exact ⟨rfl, rfl⟩
            with_reducible apply Exists.intro
            with_reducible refine ⟨?_, ?_⟩
            · go_simp
              rfl
          refine soup_nil (fun WZ hk hS => ?_)
          have hrow : OtsRow WZ A5 L := by
            obtain ⟨A6, c6, e1, e2⟩ := hS 22
            simp only [Value.slice.injEq, true_and] at e1
            obtain ⟨rfl, rfl⟩ := e1
            exact e2
          have HPZ := Lib.hid (HP.out.keep hk)
          have hsm := same_any c5 cd hrow (DocRow.row HPZ.out.D) (by have := HP.out.N; omega) (by have := HP.out.N; omega)
          rw [decide_eq_true rfl] at hsm
          clear hk hS HP HAB hrow
          go_wp2_with (fail)
          refine hsm.mono ?_
          rintro e wz ⟨rfl, hKz⟩
          have HPW := Lib.hid (HPZ.out.keep hKz)
          clear hsm hKz HPZ
          go_wp2_with (fail)
          go_roundw
          case rel => exact ⟨j + 1, L, _, by go_num, by omega, HPW.out⟩
          case measure => simp [intOf]; omega
        have b0 : (dd == 0) = false := by simp [t0]
        have b1 : (dd == 1) = false := by simp [t1]
        have b2 : (dd == 2) = false := by simp [t2]
        have b3 : (dd == 3) = false := by simp [t3]
        clear t0 t1 t2 t3
        have HP := HPN
        have HAB := HABN
        obtain ⟨Lc, hLc⟩ : ∃ x, L = x := ⟨_, rfl⟩
        subst hLc
        go_wp2_with (fail)
        clear c0 c1 c2 c3 d0 d1 d2 d3 d4 d5 d6 d7 d8 d9 hW1
        clear f4 f5 f6 f7 f8 f9 f10 f11 f12 f13
        clear HPN HABN b0 b1 b2 b3
        clear g0 gf f0 f1 f2 f3 ff
        refine wp_region_soup 25 [] (spOf [(5, Spec.is (.int .i64 (L.length : Int))), (14, Spec.is (.bool kb)), (17, Spec.is (.bool kb)), (22, Spec.ots L)]) (by kernel_rfl) (by kernel_rfl) (spOk_of (by simp [Spec.is_ok, Spec.ots_ok])) (pre_of (by simp [Spec.is_ok, Spec.ots_ok])) ?_
        simp only [List.take_succ_cons, List.take_zero, List.drop_succ_cons, List.drop_zero]
        iterate 5
          with_reducible refine soup_q ?_ ?_ ?_
          · rfl
          · rfl
          with_reducible apply Exists.intro
          with_reducible refine ⟨fun W hk _ => ?_, ?_⟩
          · obtain ⟨g0, gf⟩ := (HP.out.X.keep hk).cells
            obtain ⟨f0, f1, f2, f3, ff⟩ := (HAB.out.keep hk).facts
            simp only at f0 f1 f2 f3
            unfold Oper.same
            go_simp
            first | rfl | exact ⟨rfl, rfl⟩
          with_reducible apply Exists.intro
          with_reducible refine ⟨?_, ?_⟩
          · go_simp
            rfl
        refine soup_s rfl rfl rfl (fun W hk _ _ => ?_) ?_
        · unfold Oper.does
          go_simp
          refine (rlen_any (HP.out.S.keep hk (by simp) (by simp))).mono ?_
          rintro e w' ⟨rfl, rfl⟩
          exact ⟨_, rfl, Keep.refl _ _, hk, rfl, trivial⟩
        intro v hv
        obtain rfl : v = _ := hv
        with_reducible apply Exists.intro
        with_reducible refine ⟨?_, ?_⟩
        · go_simp
          rfl
        iterate 8
          with_reducible refine soup_q ?_ ?_ ?_
          · rfl
          · rfl
          with_reducible apply Exists.intro
          with_reducible refine ⟨fun W hk _ => ?_, ?_⟩
          · obtain ⟨g0, gf⟩ := (HP.out.X.keep hk).cells
            obtain ⟨f0, f1, f2, f3, ff⟩ := (HAB.out.keep hk).facts
            simp only at f0 f1 f2 f3
            unfold Oper.same
            go_simp
            first | rfl | exact ⟨rfl, rfl⟩
          with_reducible apply Exists.intro
          with_reducible refine ⟨?_, ?_⟩
          · go_simp
            rfl
        refine soup_s rfl rfl rfl (fun W hk _ _ => ?_) ?_
        · unfold Oper.does
          go_simp
          refine (HKY.out _).mono ?_
          rintro e w' ⟨rfl, rfl⟩
          exact ⟨_, rfl, Keep.refl _ _, hk, rfl, trivial⟩
        intro v hv
        obtain rfl : v = _ := hv
        with_reducible apply Exists.intro
        with_reducible refine ⟨?_, ?_⟩
        · go_simp
          rfl
        iterate 2
          with_reducible refine soup_q ?_ ?_ ?_
          · rfl
          · rfl
          with_reducible apply Exists.intro
          with_reducible refine ⟨fun W hk _ => ?_, ?_⟩
          · obtain ⟨g0, gf⟩ := (HP.out.X.keep hk).cells
            obtain ⟨f0, f1, f2, f3, ff⟩ := (HAB.out.keep hk).facts
            simp only at f0 f1 f2 f3
            unfold Oper.same
            go_simp
            first | rfl | exact ⟨rfl, rfl⟩
          with_reducible apply Exists.intro
          with_reducible refine ⟨?_, ?_⟩
          · go_simp
            rfl
        refine soup_s rfl rfl rfl (fun W hk _ _ => ?_) ?_
        · unfold Oper.does
          go_simp
          refine (HKR.out _).mono ?_
          rintro e w' ⟨rfl, rfl⟩
          exact ⟨_, rfl, Keep.refl _ _, hk, rfl, trivial⟩
        intro v hv
        obtain rfl : v = _ := hv
        with_reducible apply Exists.intro
        with_reducible refine ⟨?_, ?_⟩
        · go_simp
          rfl
        iterate 4
          with_reducible refine soup_q ?_ ?_ ?_
          · rfl
          · rfl
          with_reducible apply Exists.intro
          with_reducible refine ⟨fun W hk _ => ?_, ?_⟩
          · obtain ⟨g0, gf⟩ := (HP.out.X.keep hk).cells
            obtain ⟨f0, f1, f2, f3, ff⟩ := (HAB.out.keep hk).facts
            simp only at f0 f1 f2 f3
            unfold Oper.same
            go_simp
            first | rfl | exact ⟨rfl, rfl⟩
          with_reducible apply Exists.intro
          with_reducible refine ⟨?_, ?_⟩
          · go_simp
            rfl
        refine soup_s rfl rfl rfl (fun W hk _ _ => ?_) ?_
        · unfold Oper.does
          go_simp
          refine (rall_any (HP.out.S.keep hk (by simp) (by simp)) (by have := HP.out.N; omega)).mono ?_
          rintro e w' ⟨A5, c5, rfl, hE, hb⟩
          exact ⟨_, rfl, Keep.of_below hb _, hk.then_below hb, ⟨_, _, rfl⟩, _, _, rfl, hE.row⟩
        rintro v ⟨A5, c5, rfl⟩
        with_reducible apply Exists.intro
        with_reducible refine ⟨?_, ?_⟩
        · go_simp
          rfl
        iterate 2
          with_reducible refine soup_q ?_ ?_ ?_
          · rfl
          · rfl
          with_reducible apply Exists.intro
          with_reducible refine ⟨fun W hk _ => ?_, ?_⟩
          · obtain ⟨g0, gf⟩ := (HP.out.X.keep hk).cells
            obtain ⟨f0, f1, f2, f3, ff⟩ := (HAB.out.keep hk).facts
            simp only at f0 f1 f2 f3
            unfold Oper.same
            go_simp
            first | rfl | exact ⟨rfl, rfl⟩
          with_reducible apply Exists.intro
          with_reducible refine ⟨?_, ?_⟩
          · go_simp
            rfl
        refine soup_nil (fun WZ hk hS => ?_)
        have hrow : OtsRow WZ A5 L := by
          obtain ⟨A6, c6, e1, e2⟩ := hS 22
          simp only [Value.slice.injEq, true_and] at e1
          obtain ⟨rfl, rfl⟩ := e1
          exact e2
        have HPZ := Lib.hid (HP.out.keep hk)
        have hsm := same_any c5 cd hrow (DocRow.row HPZ.out.D) (by have := HP.out.N; omega) (by have := HP.out.N; omega)
        rw [decide_eq_true rfl] at hsm
        clear hk hS HP HAB hrow
        go_wp2_with (fail)
        refine hsm.mono ?_
        rintro e wz ⟨rfl, hKz⟩
        have HPW := Lib.hid (HPZ.out.keep hKz)
        clear hsm hKz HPZ
        go_wp2_with (fail)
        go_roundw
        case rel => exact ⟨j + 1, L, _, by go_num, by omega, HPW.out⟩
        case measure => simp [intOf]; omega
      · obtain rfl : j = l.length := by omega
        have HBE := Lib.hid hP.B
        clear hP hlt hj
        go_wp2_with (fail)
        go_wp2_with (fail)
        refine (wakes09 _).mono ?_
        rintro e w15 ⟨rfl, hB15⟩
        have HBe := Lib.hid (HBE.out.trans (hB15.mono HBE.out.size))
        clear hB15
        go_wp2_with (fail)
        go_ret
        exact ⟨rfl, HBe.out⟩
end Go.Proofs.Ytmhbibcfbencnaa
