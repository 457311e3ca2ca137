/- TellPlays: of a line as it is, or that may not be, whatever is put, and however the mark rises: each code, what is told, and what is open then, are the document's. -/
import Derived.Test.YtmhbibcfbencnaaRgB
namespace Go.Proofs.Ytmhbibcfbencnaa
open Go.RowKit Go.Lib
set_option linter.unusedSimpArgs false
set_option linter.unusedVariables false
/-- An act of a line in a block of its own. -/
def ac4Obj (x : A4) : Obj := .cells #[.int .u8 x.dd, .string x.key, .int .i64 x.t, .int .i64 x.n] 52
def Ac4 (W : World) (g : Nat) (x : A4) : Prop := W.heap[g]? = some (ac4Obj x)
theorem Ac4.keep {X : List Nat} {W W' : World} {g : Nat} {x : A4} (h : Ac4 W g x) (hk : Keep X W W') (hx : g ∉ X := by simp) : Ac4 W' g x := (hk.block g (lt_of_heap h) hx).trans h
theorem Ac4.new (W : World) (x : A4) : Ac4 (W.alloc (ac4Obj x)) W.heap.size x := World.alloc_heap_new W _
theorem Ac4.facts {W : World} {g : Nat} {x : A4} (h : Ac4 W g x) : W.cell? ⟨g, 0, none⟩ = some (.int .u8 x.dd) ∧ W.cell? ⟨g, 1, none⟩ = some (.string x.key) ∧ W.cell? ⟨g, 2, none⟩ = some (.int .i64 x.t) ∧ W.cell? ⟨g, 3, none⟩ = some (.int .i64 x.n) ∧ (∀ o, W.frozen? ⟨g, o, none⟩ = false) := by
  unfold Ac4 ac4Obj at h
  refine ⟨?_, ?_, ?_, ?_, fun o => ?_⟩
  all_goals first | (unfold World.cell?; rw [h]; rfl) | (unfold World.frozen?; rw [h]; simp)
def Spec.otsT (L : List Ot) : Spec := { p := fun _ v => ∃ A c, v = .slice A L.length c, A := fun _ v w => ∃ A c, v = .slice A L.length c ∧ OtsRow w A L }
theorem Spec.otsT_ok (L : List Ot) : (Spec.otsT L).ok := ⟨fun _ v w w' ⟨A, c, h1, h2⟩ hk => ⟨A, c, h1, h2.keep hk (fun _ _ _ _ => by simp)⟩, fun _ _ _ h => h, fun _ => trivial, fun _ => ⟨_, none, 0, rfl⟩⟩
theorem toF_ok {mk : Int} {L M : List Ot} (h : L.length ≤ 32) (hu : L.Pairwise ltO) (hk : ∀ y ∈ L, OkW y) (hw : ∀ y ∈ M, Ot.Wf y) (h0 : (toF mk L M).1 = 0) : (toF mk L M).2.length ≤ 32 ∧ (toF mk L M).2.Pairwise ltO ∧ ∀ y ∈ (toF mk L M).2, OkW y := by
  induction M generalizing L with
  | nil => exact ⟨h, hu, hk⟩
  | cons o r ih =>
    simp only [toF] at h0 ⊢
    split
    · exact ⟨h, hu, hk⟩
    · rename_i hov
      rw [if_neg hov] at h0
      split
      · rename_i he
        rw [if_pos he] at h0
        exact ih (set_len L o h hu) (setL_up o hu) (okW_set2 hk (hw o (by simp))) (fun y hy => hw y (by simp [hy])) h0
      · exact ⟨h, hu, hk⟩
theorem ofF_ok {mk : Int} {M : List Ot} (hw : ∀ y ∈ M, Ot.Wf y) (h0 : (ofF mk M).1 = 0) : (ofF mk M).2.length ≤ 32 ∧ (ofF mk M).2.Pairwise ltO ∧ ∀ y ∈ (ofF mk M).2, OkW y := by
  unfold ofF at h0 ⊢
  split
  · exact ⟨by simp, List.Pairwise.nil, by simp⟩
  · rename_i hr
    rw [if_neg hr] at h0
    exact toF_ok (by simp) List.Pairwise.nil (by simp) hw h0
/-- The line and the document's side by side. -/
structure TpI (w : World) (q p b nd bs : Nat) (mk : Int) (L : List Ot) (vd : Value) (W : World) : Prop where
  ln : LnAt W q p b mk L
  X : LxAt W nd mk vd
  D : DocRow bs W vd L
  N : L.length ≤ 32
  U : L.Pairwise ltO
  K : ∀ y ∈ L, OkW y
  B : Below w.heap.size w W
  Z : bs ≤ W.heap.size
  F : q < bs ∧ p < bs ∧ b < bs ∧ q ≠ nd ∧ p ≠ nd ∧ b ≠ nd ∧ w.heap.size ≤ q ∧ w.heap.size ≤ b ∧ w.heap.size ≤ nd
theorem TpI.keep {w : World} {q p b nd bs : Nat} {mk : Int} {L : List Ot} {vd : Value} {W W' : World} (h : TpI w q p b nd bs mk L vd W) (hk : Keep [] W W') : TpI w q p b nd bs mk L vd W' :=
  ⟨h.ln.keep hk, h.X.keep hk, DocRow.keep h.D hk (by simp), h.N, h.U, h.K, h.B.trans (hk.below h.B.size (by simp)), Nat.le_trans h.Z hk.size, h.F⟩
/-- The line's step has gone. -/
structure TpM (w : World) (q p b nd bs : Nat) (mk mk' : Int) (L L' : List Ot) (vd : Value) (W : World) : Prop where
  ln : LnAt W q p b mk' L'
  X : LxAt W nd mk vd
  D : DocRow bs W vd L
  B : Below w.heap.size w W
  Z : bs ≤ W.heap.size
theorem TpI.mid {w : World} {q p b nd bs : Nat} {mk mk' : Int} {L L' : List Ot} {vd : Value} {W W' : World} (h : TpI w q p b nd bs mk L vd W) (hl : LnAt W' q p b mk' L') (hk : Keep [q, b] W W') : TpM w q p b nd bs mk mk' L L' vd W' :=
  ⟨hl, h.X.keep hk (by have := h.F; simp; omega), own_keep h.D hk (fun g hg => by have := own_base h.D g hg; have := h.F; simp; omega), h.B.trans (hk.below h.B.size (by have := h.F; simp; omega)), Nat.le_trans h.Z hk.size⟩
/-- The document's step has gone, and lies in its box. -/
theorem TpI.fin {w : World} {q p b nd bs : Nat} {mk mk' : Int} {L L' : List Ot} {vd vd' : Value} {W0 W : World} (h : TpI w q p b nd bs mk L vd W0) (hm : TpM w q p b nd bs mk mk' L L' vd W) {W2 : World} (hb : Below W.heap.size W W2) (hD : DocRow bs W2 vd' L') (hN : L'.length ≤ 32) (hU : L'.Pairwise ltO) (hK : ∀ y ∈ L', OkW y) :
    TpI w q p b nd bs mk' L' vd' (setLx W2 nd mk' vd') := by
  have hk : Keep [] W W2 := Keep.of_below hb []
  have ks := setLx_keep W2 nd mk' vd'
  have hX2 := hm.X.keep hk
  have hB2 := hm.B.trans (hb.mono hm.B.size)
  exact ⟨(hm.ln.keep hk).keep ks (by have := h.F; simp; omega) (by have := h.F; simp; omega) (by have := h.F; simp; omega), setLx_at hX2 mk' vd', own_keep hD ks (fun g hg => by have := own_ne hD hX2 g hg; simpa using this), hN, hU, hK, hB2.trans (ks.below hB2.size (by have := h.F; simp; omega)), Nat.le_trans (Nat.le_trans hm.Z hk.size) ks.size, h.F⟩
set_option maxRecDepth 100000 in
set_option maxHeartbeats 8000000 in
theorem law_TellPlays (mk0 : Int) (wm : (Lit.int .i64 mk0).wf = true) (A : Option Addr) (M : List Ot) (c : Nat) (hl : M.length ≤ 9223372036854775807) (hz : ∀ y ∈ M, Ot.Wf y) (A2 : Option Addr) (l : List A4) (c2 : Nat) (hl2 : l.length ≤ 9223372036854775807) (hz2 : ∀ y ∈ l, A4.Wf y) (w : World) (hA : OtsRow w A M) (hA2 : A4Row w A2 l) :
    Calls Try.prog 14 #[.int .i64 mk0, .slice A M.length c, .slice A2 l.length c2] w fun e w' => e = .returned (.bool true) ∧ Below w.heap.size w w' := by
  have HA := Lib.hid hA
  have HA2 := Lib.hid hA2
  clear hA hA2 wm
  go_enter Try.func14, Try.ntmps14
  go_wp2_with (fail)
  refine (great10_any c2 (HA2.out) hl2 hz2).mono ?_
  rintro e w1 ⟨g, rfl, hg, rfl⟩
  cases g with
  | true =>
    go_wp2_with (fail)
    go_wp2_with (fail)
    refine (twakes_any _).mono ?_
    rintro e w2 ⟨rfl, hB2⟩
    have HBe := Lib.hid ((Below.refl w.heap.size w).trans (hB2.mono (Below.refl w.heap.size w).size))
    clear hB2
    go_wp2_with (fail)
    go_ret
    exact ⟨rfl, HBe.out⟩
  | false =>
    have h200 := (hg rfl).1
    clear hg
    go_wp2_with (fail)
    refine (greatO_any c (HA.out) hl hz).mono ?_
    rintro e w1 ⟨g2, rfl, hg2, rfl⟩
    cases g2 with
    | true =>
      go_wp2_with (fail)
      go_wp2_with (fail)
      refine (twakes_any _).mono ?_
      rintro e w2 ⟨rfl, hB2⟩
      have HBe := Lib.hid ((Below.refl w.heap.size w).trans (hB2.mono (Below.refl w.heap.size w).size))
      clear hB2
      go_wp2_with (fail)
      go_ret
      exact ⟨rfl, HBe.out⟩
    | false =>
      clear hg2
      obtain ⟨⟨r1, r2⟩, hr⟩ : ∃ r, ofF mk0 M = r := ⟨_, rfl⟩
      have hof := tof_any c HA.out hl (fun y hy => (hz y hy).key) mk0
      have hok := ofF_ok (mk := mk0) hz
      rw [hr] at hof hok
      unfold OfP at hof
      simp only at hof hok
      have HRR := Lib.hid hr
      have HOK := Lib.hid hok
      have hz0 := Int.natCast_nonneg l.length
      clear hr hok
      go_wp2_with (fail)
      refine hof.mono ?_
      rintro e w1 ⟨h1, h2, hB1⟩
      clear hof
      have hdf := rlof_any c (HA.out.below hB1) hl hz mk0
      rw [HRR.out] at hdf
      unfold OfD at hdf
      simp only at hdf
      have HB1 := Lib.hid hB1
      by_cases h0 : r1 = 0
      · subst h0
        obtain ⟨q, p, b, rfl, hL, hq, hp, hb⟩ := h1 (by trivial)
        obtain ⟨bs, hbs⟩ : ∃ n, w1.heap.size = n := ⟨_, rfl⟩
        have HL1 := Lib.hid hL
        have HQ := Lib.hid (show q < bs ∧ p < bs ∧ b < bs ∧ w.heap.size ≤ q ∧ w.heap.size ≤ p ∧ w.heap.size ≤ b from by have := hL.lt; omega)
        have HDF := Lib.hid hdf
        clear h1 h2 hL hq hp hb hB1 hdf
        go_wp2_with (fail)
        refine HDF.out.mono ?_
        rintro e w2 ⟨h1, _, hB2⟩
        obtain ⟨vd, rfl, hD⟩ := h1 (by trivial)
        obtain ⟨ad, cd, rfl, _⟩ := own_shape hD
        rw [hbs] at hD
        obtain ⟨nd, hnd⟩ : ∃ n, w2.heap.size = n := ⟨_, rfl⟩
        obtain ⟨h32, hu, hk⟩ := HOK.out (by trivial)
        have hka : Keep [] w2 (w2.alloc (.cells #[.int .i64 mk0, .slice ad r2.length cd] 82)) := (Keep.refl _ _).alloc _
        have hb2 := HB1.out.trans (hB2.mono HB1.out.size)
        have hs2 := hB2.size
        have HP0 : Hid (TpI w q p b nd bs mk0 r2 (.slice ad r2.length cd) (w2.alloc (.cells #[.int .i64 mk0, .slice ad r2.length cd] 82))) := Lib.hid (hnd ▸ ⟨(HL1.out.below hB2).keep hka, LxAt.new w2 mk0 _, DocRow.keep hD hka (by simp), h32, hu, hk, hb2.trans (hka.below hb2.size (by simp)), by have := hka.size; omega, by have := HQ.out; have := HB1.out.size; omega⟩)
        have hzr := Int.natCast_nonneg r2.length
        clear HDF h1 hB2 hD hka hb2 hs2 h32 hu hk HL1 HQ HB1 hbs
        go_wp2_with (fail)
        clear hnd
        go_loopw [11] (fun i wr => ∃ (j : Nat) (mk : Int) (L : List Ot) (vd : Value), i = .int .i64 j ∧ j ≤ l.length ∧ TpI w q p b nd bs mk L vd wr) (fun i _ => l.length - (intOf i).toNat)
        case atStart => exact ⟨0, _, _, _, rfl, Nat.zero_le _, HP0.out⟩
        case round =>
          clear HP0
          obtain ⟨j, mk, L, vd, rfl, hj, hP⟩ := hrel
          obtain ⟨ad, cd, rfl, _⟩ := own_shape hP.D
          have h0j : (0 : Int) ≤ (j : Int) := Int.natCast_nonneg j
          by_cases hlt : j < l.length
          · obtain ⟨x, hx⟩ : ∃ x, l[j]? = some x := ⟨l[j], List.getElem?_eq_getElem hlt⟩
            obtain ⟨ga, off, rfl, hga, hat⟩ := (HA2.out.below hP.B) (by intro e; rw [e] at hlt; simp at hlt)
            have hx0 := hat j x hx
            have HXW := Lib.hid (hz2 x (List.mem_of_getElem? hx))
            have hjn : (j : Int) < (l.length : Int) := by omega
            have hkr : Keep [] wr (wr.alloc (ac4Obj x)) := (Keep.refl _ wr).alloc _
            obtain ⟨wn, hW1⟩ : ∃ W1, wr.alloc (ac4Obj x) = W1 := ⟨_, rfl⟩
            have hab := Ac4.new wr x
            rw [hW1] at hab hkr
            have HABN := Lib.hid hab
            have HPN := Lib.hid (hP.keep hkr)
            have HAN := Lib.hid (show q < wr.heap.size ∧ b < wr.heap.size from ⟨hP.ln.lt.1, hP.ln.lt.2.2⟩)
            obtain ⟨f0, f1, f2, f3, ff⟩ := hab.facts
            obtain ⟨g0, g1, gf⟩ := HPN.out.X.cells
            obtain ⟨c0, c1, c2, c3⟩ := hx0
            obtain ⟨dd, xk, xt, xn⟩ := x
            simp only [ac4Obj] at c0 c1 c2 c3 hW1 f0 f1 f2 f3
            clear hat hx hab hkr hP
            have hzL := Int.natCast_nonneg L.length
            have hzN : (L.length : Int) ≤ 32 := by have := HPN.out.N; omega
            by_cases t0 : dd = 0
            · subst t0
              obtain ⟨⟨e1, L1⟩, hr⟩ : ∃ r, tpF mk L xk xt xn = r := ⟨_, rfl⟩
              have hput := tput_any HPN.out.ln (by have := HPN.out.N; omega) xk HXW.out.key xt xn
              have hdoc := fun (W : World) (hD : DocRow bs W (.slice ad L.length cd) L) (hn : bs ≤ W.heap.size) => rlput_any (mk := mk) hD hn HPN.out.N HPN.out.U HPN.out.K xk HXW.out.key xt xn HXW.out.n
              have hup := tpF_up (mk := mk) xk xt xn HPN.out.N HPN.out.U
              have hkk : ∀ y ∈ (tpF mk L xk xt xn).2, OkW y := by
                unfold tpF
                split
                · exact HPN.out.K
                · split
                  · exact HPN.out.K
                  · split
                    · exact okW_put HPN.out.U HPN.out.K xk xt HXW.out.n
                    · exact HPN.out.K
              rw [hr] at hput hdoc hup hkk
              unfold Ln2 at hdoc
              simp only at hput hdoc hup hkk
              have HPUT := Lib.hid hput
              have HDOC := Lib.hid hdoc
              have HUP := Lib.hid hup
              have HKK := Lib.hid hkk
              clear hr hput hdoc hup hkk
              go_wp2_with (fail)
              refine HPUT.out.mono ?_
              rintro e w4 ⟨rfl, hL4, hk4⟩
              have hk4b : Keep [q, b] wn w4 := hk4.mono (fun y hy => .inl (by simp at hy; simp [hy]))
              have HM := Lib.hid (HPN.out.mid hL4 hk4b)
              have HABM := Lib.hid (HABN.out.keep hk4 (by have := HPN.out.ln.lt; have := HAN.out; simp; omega))
              clear hL4 hk4 hk4b HPUT hW1
              clear f0 f1 f2 f3 ff g0 g1 gf
              clear c0 c1 c2 c3
              obtain ⟨f0, f1, f2, f3, ff⟩ := HABM.out.facts
              obtain ⟨g0, g1, gf⟩ := HM.out.X.cells
              simp only at f0 f1 f2 f3
              go_wp2_with (fail)
              refine (HDOC.out _ HM.out.D HM.out.Z).mono ?_
              rintro e w5 ⟨vd', rfl, hD5, hB5⟩
              clear HDOC
              obtain ⟨ad', cd', rfl, _⟩ := own_shape hD5
              have hfin := HPN.out.fin HM.out hB5 hD5 HUP.out.1 HUP.out.2 HKK.out
              have g5 := (HM.out.X.keep (Keep.of_below hB5 [])).cells
              unfold setLx at hfin
              obtain ⟨WS, hWS⟩ : ∃ W, (w5.setCell ⟨nd, 0, none⟩ (.int .i64 mk)).setCell ⟨nd, 1, none⟩ (.slice ad' L1.length cd') = W := ⟨_, rfl⟩
              rw [hWS] at hfin
              have HP := Lib.hid hfin
              clear f0 f1 f2 f3 ff g0 g1 gf
              obtain ⟨h0, h1, hf⟩ := g5
              clear hfin hD5 hB5 HPN HM HABM HABN HUP HKK
              have hzl := Int.natCast_nonneg L1.length
              have hzm : (L1.length : Int) ≤ 32 := by have := HP.out.N; omega
              obtain ⟨g0, g1, gf⟩ := HP.out.X.cells
              go_wp2_with (fail)
              clear hWS h0 h1 hf g0 g1 gf
              refine wp_region_soup 11 [] (spOf [(1, Spec.is (.int .i64 mk)), (7, Spec.otsT L1)]) (by kernel_rfl) (by kernel_rfl) (spOk_of (by simp [Spec.is_ok, Spec.otsT_ok])) (pre_of (by simp [Spec.is_ok, Spec.otsT_ok])) ?_
              simp only [List.take_succ_cons, List.take_zero, List.drop_succ_cons, List.drop_zero]
              iterate 1
                with_reducible refine soup_q ?_ ?_ ?_
                · rfl
                · rfl
                with_reducible apply Exists.intro
                with_reducible refine ⟨fun W hk _ => ?_, ?_⟩
                · obtain ⟨g0, g1, gf⟩ := (HP.out.X.keep hk).cells
                  unfold Oper.same
                  go_simp
                  first | rfl | exact ⟨rfl, rfl⟩
                with_reducible apply Exists.intro
                with_reducible refine ⟨?_, ?_⟩
                · go_simp
                  rfl
              refine soup_s rfl rfl rfl (fun W hk _ _ => ?_) ?_
              · unfold Oper.does
                go_simp
                refine (tat_any (HP.out.ln.keep hk)).mono ?_
                rintro e w' ⟨rfl, rfl⟩
                exact ⟨_, rfl, Keep.refl _ _, hk, rfl, trivial⟩
              intro v hv
              obtain rfl : v = _ := hv
              with_reducible apply Exists.intro
              with_reducible refine ⟨?_, ?_⟩
              · go_simp
                rfl
              iterate 5
                with_reducible refine soup_q ?_ ?_ ?_
                · rfl
                · rfl
                with_reducible apply Exists.intro
                with_reducible refine ⟨fun W hk _ => ?_, ?_⟩
                · obtain ⟨g0, g1, gf⟩ := (HP.out.X.keep hk).cells
                  unfold Oper.same
                  go_simp
                  first | rfl | exact ⟨rfl, rfl⟩
                with_reducible apply Exists.intro
                with_reducible refine ⟨?_, ?_⟩
                · go_simp
                  rfl
              refine soup_s rfl rfl rfl (fun W hk _ _ => ?_) ?_
              · unfold Oper.does
                go_simp
                refine (topen_any (HP.out.ln.keep hk) (by have := HP.out.N; omega)).mono ?_
                rintro e w' ⟨A5, c5, rfl, hE, hb⟩
                exact ⟨_, rfl, Keep.of_below hb _, hk.then_below hb, ⟨_, _, rfl⟩, _, _, rfl, hE.row⟩
              rintro v ⟨A5, c5, rfl⟩
              with_reducible apply Exists.intro
              with_reducible refine ⟨?_, ?_⟩
              · go_simp
                rfl
              iterate 3
                with_reducible refine soup_q ?_ ?_ ?_
                · rfl
                · rfl
                with_reducible apply Exists.intro
                with_reducible refine ⟨fun W hk _ => ?_, ?_⟩
                · obtain ⟨g0, g1, gf⟩ := (HP.out.X.keep hk).cells
                  unfold Oper.same
                  go_simp
                  first | rfl | exact ⟨rfl, rfl⟩
                with_reducible apply Exists.intro
                with_reducible refine ⟨?_, ?_⟩
                · go_simp
                  rfl
              refine soup_nil (fun WZ hk hS => ?_)
              have hrow : OtsRow WZ A5 L1 := by
                obtain ⟨A6, c6, e1, e2⟩ := hS 7
                simp only [Value.slice.injEq, true_and] at e1
                obtain ⟨rfl, rfl⟩ := e1
                exact e2
              have HPZ := Lib.hid (HP.out.keep hk)
              have hsm := same_any c5 cd' hrow (DocRow.rw HPZ.out.D) (by have := HP.out.N; omega) (by have := HP.out.N; omega)
              rw [decide_eq_true rfl] at hsm
              clear hk hS HP hrow
              go_wp2_with (fail)
              refine hsm.mono ?_
              rintro e wz ⟨rfl, hKz⟩
              have HPW := Lib.hid (HPZ.out.keep hKz)
              clear hsm hKz HPZ
              go_wp2_with (fail)
              go_roundw
              case rel => exact ⟨j + 1, mk, L1, _, by go_num, by omega, HPW.out⟩
              case measure => simp [intOf]; omega
            by_cases t1 : dd = 1
            · subst t1
              obtain ⟨⟨e1, outs, mk1, L1⟩, hr⟩ : ∃ r, tmF mk L xt = r := ⟨_, rfl⟩
              have hput := tmark_any HPN.out.ln (by have := HPN.out.N; omega) xt
              have hdoc := fun (W : World) (hD : DocRow bs W (.slice ad L.length cd) L) (hn : bs ≤ W.heap.size) => rlmark_any (mk := mk) hD hn HPN.out.N xt
              have hup := tmF_up (mk := mk) xt HPN.out.N HPN.out.U
              have hkk : ∀ y ∈ (tmF mk L xt).2.2.2, OkW y := by
                unfold tmF
                split
                · exact HPN.out.K
                · split
                  · exact HPN.out.K
                  · exact fun y hy => HPN.out.K y (List.mem_filter.1 hy).1
              rw [hr] at hput hdoc hup hkk
              unfold Ln3 at hdoc
              unfold MarkP at hput
              simp only at hput hdoc hup hkk
              have HPUT := Lib.hid hput
              have HDOC := Lib.hid hdoc
              have HUP := Lib.hid hup
              have HKK := Lib.hid hkk
              clear hr hput hdoc hup hkk
              go_wp2_with (fail)
              refine HPUT.out.mono ?_
              rintro e w4 ⟨A4, c4, rfl, hE, hL4, hk4⟩
              have HM := Lib.hid (HPN.out.mid hL4 hk4)
              have HE4 := Lib.hid hE.row
              have HF4 : Hid (outs ≠ [] → ∀ g off, A4 = some ⟨g, off, none⟩ → nd ≠ g) := Lib.hid (fun hl g off hq => by obtain ⟨g', e1, e2, _⟩ := hE hl; rw [hq] at e1; cases e1; have := LxAt.lt HPN.out.X; omega)
              have HABM := Lib.hid (HABN.out.keep hk4 (by have := HPN.out.ln.lt; have := HAN.out; simp; omega))
              clear hL4 hk4 hE HPUT hW1
              clear f0 f1 f2 f3 ff g0 g1 gf
              clear c0 c1 c2 c3
              obtain ⟨f0, f1, f2, f3, ff⟩ := HABM.out.facts
              obtain ⟨g0, g1, gf⟩ := HM.out.X.cells
              simp only at f0 f1 f2 f3
              go_wp2_with (fail)
              refine (HDOC.out _ HM.out.D HM.out.Z).mono ?_
              rintro e w5 ⟨vd', vo, rfl, hD5, hO5, hB5⟩
              clear HDOC
              obtain ⟨ad', cd', rfl, _⟩ := own_shape hD5
              obtain ⟨ao, co, rfl, _⟩ := own_shape hO5
              have hfin := HPN.out.fin HM.out hB5 hD5 HUP.out.1 HUP.out.2.1 HKK.out
              have hx5 := HM.out.X.keep (Keep.of_below hB5 [])
              have g5 := hx5.cells
              have ks := setLx_keep w5 nd mk1 (.slice ad' L1.length cd')
              have hOT := (DocRow.rw (show DocRow w4.heap.size w5 (.slice ao outs.length co) outs from hO5)).keep ks (fun hl g off hq => by
                have h1 := own_ne hO5 hx5 g (by rw [hq]; simp [Value.ownBlock])
                simpa using h1)
              have hET := (HE4.out.below hB5).keep ks (fun hl g off hq => by
                have := HF4.out hl g off hq
                simp; omega)
              unfold setLx at hfin hOT hET
              obtain ⟨WS, hWS⟩ : ∃ W, (w5.setCell ⟨nd, 0, none⟩ (.int .i64 mk1)).setCell ⟨nd, 1, none⟩ (.slice ad' L1.length cd') = W := ⟨_, rfl⟩
              rw [hWS] at hfin hOT hET
              have HPT := Lib.hid hfin
              have HOT := Lib.hid hOT
              have HET := Lib.hid hET
              clear f0 f1 f2 f3 ff g0 g1 gf
              obtain ⟨h0, h1, hf⟩ := g5
              have hno : outs.length ≤ 32 := HUP.out.2.2
              clear hfin hD5 hO5 hB5 ks hx5 hOT hET HPN HM HABM HABN HUP HKK HE4 HF4
              obtain ⟨g0, g1, gf⟩ := HPT.out.X.cells
              go_wp2_with (fail)
              clear hWS h0 h1 hf g0 g1 gf
              have hsm := same_any c4 co HET.out HOT.out (by omega) (by omega)
              rw [decide_eq_true rfl] at hsm
              refine hsm.mono ?_
              rintro e w7 ⟨rfl, hK7⟩
              have HP := Lib.hid (HPT.out.keep hK7)
              clear hsm hK7 HPT HET HOT
              have hzl := Int.natCast_nonneg L1.length
              have hzm : (L1.length : Int) ≤ 32 := by have := HP.out.N; omega
              obtain ⟨g0, g1, gf⟩ := HP.out.X.cells
              go_wp2_with (fail)
              clear g0 g1 gf
              refine wp_region_soup 11 [] (spOf [(1, Spec.is (.int .i64 mk1)), (7, Spec.otsT L1)]) (by kernel_rfl) (by kernel_rfl) (spOk_of (by simp [Spec.is_ok, Spec.otsT_ok])) (pre_of (by simp [Spec.is_ok, Spec.otsT_ok])) ?_
              simp only [List.take_succ_cons, List.take_zero, List.drop_succ_cons, List.drop_zero]
              iterate 1
                with_reducible refine soup_q ?_ ?_ ?_
                · rfl
                · rfl
                with_reducible apply Exists.intro
                with_reducible refine ⟨fun W hk _ => ?_, ?_⟩
                · obtain ⟨g0, g1, gf⟩ := (HP.out.X.keep hk).cells
                  unfold Oper.same
                  go_simp
                  first | rfl | exact ⟨rfl, rfl⟩
                with_reducible apply Exists.intro
                with_reducible refine ⟨?_, ?_⟩
                · go_simp
                  rfl
              refine soup_s rfl rfl rfl (fun W hk _ _ => ?_) ?_
              · unfold Oper.does
                go_simp
                refine (tat_any (HP.out.ln.keep hk)).mono ?_
                rintro e w' ⟨rfl, rfl⟩
                exact ⟨_, rfl, Keep.refl _ _, hk, rfl, trivial⟩
              intro v hv
              obtain rfl : v = _ := hv
              with_reducible apply Exists.intro
              with_reducible refine ⟨?_, ?_⟩
              · go_simp
                rfl
              iterate 5
                with_reducible refine soup_q ?_ ?_ ?_
                · rfl
                · rfl
                with_reducible apply Exists.intro
                with_reducible refine ⟨fun W hk _ => ?_, ?_⟩
                · obtain ⟨g0, g1, gf⟩ := (HP.out.X.keep hk).cells
                  unfold Oper.same
                  go_simp
                  first | rfl | exact ⟨rfl, rfl⟩
                with_reducible apply Exists.intro
                with_reducible refine ⟨?_, ?_⟩
                · go_simp
                  rfl
              refine soup_s rfl rfl rfl (fun W hk _ _ => ?_) ?_
              · unfold Oper.does
                go_simp
                refine (topen_any (HP.out.ln.keep hk) (by have := HP.out.N; omega)).mono ?_
                rintro e w' ⟨A5, c5, rfl, hE, hb⟩
                exact ⟨_, rfl, Keep.of_below hb _, hk.then_below hb, ⟨_, _, rfl⟩, _, _, rfl, hE.row⟩
              rintro v ⟨A5, c5, rfl⟩
              with_reducible apply Exists.intro
              with_reducible refine ⟨?_, ?_⟩
              · go_simp
                rfl
              iterate 3
                with_reducible refine soup_q ?_ ?_ ?_
                · rfl
                · rfl
                with_reducible apply Exists.intro
                with_reducible refine ⟨fun W hk _ => ?_, ?_⟩
                · obtain ⟨g0, g1, gf⟩ := (HP.out.X.keep hk).cells
                  unfold Oper.same
                  go_simp
                  first | rfl | exact ⟨rfl, rfl⟩
                with_reducible apply Exists.intro
                with_reducible refine ⟨?_, ?_⟩
                · go_simp
                  rfl
              refine soup_nil (fun WZ hk hS => ?_)
              have hrow : OtsRow WZ A5 L1 := by
                obtain ⟨A6, c6, e1, e2⟩ := hS 7
                simp only [Value.slice.injEq, true_and] at e1
                obtain ⟨rfl, rfl⟩ := e1
                exact e2
              have HPZ := Lib.hid (HP.out.keep hk)
              have hsm := same_any c5 cd' hrow (DocRow.rw HPZ.out.D) (by have := HP.out.N; omega) (by have := HP.out.N; omega)
              rw [decide_eq_true rfl] at hsm
              clear hk hS HP hrow
              go_wp2_with (fail)
              refine hsm.mono ?_
              rintro e wz ⟨rfl, hKz⟩
              have HPW := Lib.hid (HPZ.out.keep hKz)
              clear hsm hKz HPZ
              go_wp2_with (fail)
              go_roundw
              case rel => exact ⟨j + 1, mk1, L1, _, by go_num, by omega, HPW.out⟩
              case measure => simp [intOf]; omega
            have b0 : (dd == 0) = false := by simp [t0]
            have b1 : (dd == 1) = false := by simp [t1]
            clear t0 t1
            have HP := HPN
            go_wp2_with (fail)
            clear f0 f1 f2 f3 ff g0 g1 gf
            clear c0 c1 c2 c3 hW1 HPN HABN b0 b1
            refine wp_region_soup 11 [] (spOf [(1, Spec.is (.int .i64 mk)), (7, Spec.otsT L)]) (by kernel_rfl) (by kernel_rfl) (spOk_of (by simp [Spec.is_ok, Spec.otsT_ok])) (pre_of (by simp [Spec.is_ok, Spec.otsT_ok])) ?_
            simp only [List.take_succ_cons, List.take_zero, List.drop_succ_cons, List.drop_zero]
            iterate 1
              with_reducible refine soup_q ?_ ?_ ?_
              · rfl
              · rfl
              with_reducible apply Exists.intro
              with_reducible refine ⟨fun W hk _ => ?_, ?_⟩
              · obtain ⟨g0, g1, gf⟩ := (HP.out.X.keep hk).cells
                unfold Oper.same
                go_simp
                first | rfl | exact ⟨rfl, rfl⟩
              with_reducible apply Exists.intro
              with_reducible refine ⟨?_, ?_⟩
              · go_simp
                rfl
            refine soup_s rfl rfl rfl (fun W hk _ _ => ?_) ?_
            · unfold Oper.does
              go_simp
              refine (tat_any (HP.out.ln.keep hk)).mono ?_
              rintro e w' ⟨rfl, rfl⟩
              exact ⟨_, rfl, Keep.refl _ _, hk, rfl, trivial⟩
            intro v hv
            obtain rfl : v = _ := hv
            with_reducible apply Exists.intro
            with_reducible refine ⟨?_, ?_⟩
            · go_simp
              rfl
            iterate 5
              with_reducible refine soup_q ?_ ?_ ?_
              · rfl
              · rfl
              with_reducible apply Exists.intro
              with_reducible refine ⟨fun W hk _ => ?_, ?_⟩
              · obtain ⟨g0, g1, gf⟩ := (HP.out.X.keep hk).cells
                unfold Oper.same
                go_simp
                first | rfl | exact ⟨rfl, rfl⟩
              with_reducible apply Exists.intro
              with_reducible refine ⟨?_, ?_⟩
              · go_simp
                rfl
            refine soup_s rfl rfl rfl (fun W hk _ _ => ?_) ?_
            · unfold Oper.does
              go_simp
              refine (topen_any (HP.out.ln.keep hk) (by have := HP.out.N; omega)).mono ?_
              rintro e w' ⟨A5, c5, rfl, hE, hb⟩
              exact ⟨_, rfl, Keep.of_below hb _, hk.then_below hb, ⟨_, _, rfl⟩, _, _, rfl, hE.row⟩
            rintro v ⟨A5, c5, rfl⟩
            with_reducible apply Exists.intro
            with_reducible refine ⟨?_, ?_⟩
            · go_simp
              rfl
            iterate 3
              with_reducible refine soup_q ?_ ?_ ?_
              · rfl
              · rfl
              with_reducible apply Exists.intro
              with_reducible refine ⟨fun W hk _ => ?_, ?_⟩
              · obtain ⟨g0, g1, gf⟩ := (HP.out.X.keep hk).cells
                unfold Oper.same
                go_simp
                first | rfl | exact ⟨rfl, rfl⟩
              with_reducible apply Exists.intro
              with_reducible refine ⟨?_, ?_⟩
              · go_simp
                rfl
            refine soup_nil (fun WZ hk hS => ?_)
            have hrow : OtsRow WZ A5 L := by
              obtain ⟨A6, c6, e1, e2⟩ := hS 7
              simp only [Value.slice.injEq, true_and] at e1
              obtain ⟨rfl, rfl⟩ := e1
              exact e2
            have HPZ := Lib.hid (HP.out.keep hk)
            have hsm := same_any c5 cd hrow (DocRow.rw HPZ.out.D) (by have := HP.out.N; omega) (by have := HP.out.N; omega)
            rw [decide_eq_true rfl] at hsm
            clear hk hS HP hrow
            go_wp2_with (fail)
            refine hsm.mono ?_
            rintro e wz ⟨rfl, hKz⟩
            have HPW := Lib.hid (HPZ.out.keep hKz)
            clear hsm hKz HPZ
            go_wp2_with (fail)
            go_roundw
            case rel => exact ⟨j + 1, mk, L, _, by go_num, by omega, HPW.out⟩
            case measure => simp [intOf]; omega
          · obtain rfl : j = l.length := by omega
            have HBE := Lib.hid hP.B
            clear hP hlt hj
            go_wp2_with (fail)
            refine (twakes_any _).mono ?_
            rintro e w15 ⟨rfl, hB15⟩
            have HBe := Lib.hid (HBE.out.trans (hB15.mono HBE.out.size))
            clear hB15
            go_wp2_with (fail)
            go_ret
            exact ⟨rfl, HBe.out⟩
      · have hne : (r1 != 0) = true := by simp [h0]
        obtain rfl := h2 h0
        have HDF := Lib.hid hdf
        clear h1 h2 hB1 hdf
        go_wp2_with (fail)
        refine HDF.out.mono ?_
        rintro e w2 ⟨_, h2, hB2⟩
        obtain rfl := h2 h0
        obtain ⟨nd, hnd⟩ : ∃ n, w2.heap.size = n := ⟨_, rfl⟩
        have hka : Keep [] w2 (w2.alloc (.cells #[.int .i64 0, .slice none 0 0] 82)) := (Keep.refl _ _).alloc _
        have hb2 := HB1.out.trans (hB2.mono HB1.out.size)
        have hb3 := hb2.trans (hka.below hb2.size (by simp))
        have hx3 : LxAt (w2.alloc (.cells #[.int .i64 0, .slice none 0 0] 82)) nd 0 (.slice none 0 0) := hnd ▸ LxAt.new w2 0 _
        have HB3 := Lib.hid hb3
        have HX3 := Lib.hid hx3
        have HND := Lib.hid (show w.heap.size ≤ nd ∧ nd < (w2.alloc (.cells #[.int .i64 0, .slice none 0 0] 82)).heap.size from ⟨by have := hb2.size; omega, LxAt.lt hx3⟩)
        clear HDF h2 hB2 hka hb2 hb3 hx3 h0
        go_wp2_with (fail)
        clear hnd
        refine (tnew_any _).mono ?_
        rintro e w4 ⟨q, p, b, rfl, hL, hq, hp, hb, hB4⟩
        obtain ⟨bs, hbs⟩ : ∃ n, w4.heap.size = n := ⟨_, rfl⟩
        have HP0 : Hid (TpI w q p b nd bs 0 [] (.slice none 0 0) w4) := Lib.hid ⟨hL, HX3.out.keep (Keep.of_below hB4 []), World.ownsRow_nil _ _ _ _, by simp, List.Pairwise.nil, by simp, HB3.out.trans (hB4.mono HB3.out.size), by omega, by have := hL.lt; have := HND.out; have := HB3.out.size; omega⟩
        clear hL hq hp hb hB4 HX3 HB3 hbs HB1 HND
        go_wp2_with (fail)
        go_loopw [11] (fun i wr => ∃ (j : Nat) (mk : Int) (L : List Ot) (vd : Value), i = .int .i64 j ∧ j ≤ l.length ∧ TpI w q p b nd bs mk L vd wr) (fun i _ => l.length - (intOf i).toNat)
        case atStart => exact ⟨0, _, _, _, rfl, Nat.zero_le _, HP0.out⟩
        case round =>
          clear HP0
          obtain ⟨j, mk, L, vd, rfl, hj, hP⟩ := hrel
          obtain ⟨ad, cd, rfl, _⟩ := own_shape hP.D
          have h0j : (0 : Int) ≤ (j : Int) := Int.natCast_nonneg j
          by_cases hlt : j < l.length
          · obtain ⟨x, hx⟩ : ∃ x, l[j]? = some x := ⟨l[j], List.getElem?_eq_getElem hlt⟩
            obtain ⟨ga, off, rfl, hga, hat⟩ := (HA2.out.below hP.B) (by intro e; rw [e] at hlt; simp at hlt)
            have hx0 := hat j x hx
            have HXW := Lib.hid (hz2 x (List.mem_of_getElem? hx))
            have hjn : (j : Int) < (l.length : Int) := by omega
            have hkr : Keep [] wr (wr.alloc (ac4Obj x)) := (Keep.refl _ wr).alloc _
            obtain ⟨wn, hW1⟩ : ∃ W1, wr.alloc (ac4Obj x) = W1 := ⟨_, rfl⟩
            have hab := Ac4.new wr x
            rw [hW1] at hab hkr
            have HABN := Lib.hid hab
            have HPN := Lib.hid (hP.keep hkr)
            have HAN := Lib.hid (show q < wr.heap.size ∧ b < wr.heap.size from ⟨hP.ln.lt.1, hP.ln.lt.2.2⟩)
            obtain ⟨f0, f1, f2, f3, ff⟩ := hab.facts
            obtain ⟨g0, g1, gf⟩ := HPN.out.X.cells
            obtain ⟨c0, c1, c2, c3⟩ := hx0
            obtain ⟨dd, xk, xt, xn⟩ := x
            simp only [ac4Obj] at c0 c1 c2 c3 hW1 f0 f1 f2 f3
            clear hat hx hab hkr hP
            have hzL := Int.natCast_nonneg L.length
            have hzN : (L.length : Int) ≤ 32 := by have := HPN.out.N; omega
            by_cases t0 : dd = 0
            · subst t0
              obtain ⟨⟨e1, L1⟩, hr⟩ : ∃ r, tpF mk L xk xt xn = r := ⟨_, rfl⟩
              have hput := tput_any HPN.out.ln (by have := HPN.out.N; omega) xk HXW.out.key xt xn
              have hdoc := fun (W : World) (hD : DocRow bs W (.slice ad L.length cd) L) (hn : bs ≤ W.heap.size) => rlput_any (mk := mk) hD hn HPN.out.N HPN.out.U HPN.out.K xk HXW.out.key xt xn HXW.out.n
              have hup := tpF_up (mk := mk) xk xt xn HPN.out.N HPN.out.U
              have hkk : ∀ y ∈ (tpF mk L xk xt xn).2, OkW y := by
                unfold tpF
                split
                · exact HPN.out.K
                · split
                  · exact HPN.out.K
                  · split
                    · exact okW_put HPN.out.U HPN.out.K xk xt HXW.out.n
                    · exact HPN.out.K
              rw [hr] at hput hdoc hup hkk
              unfold Ln2 at hdoc
              simp only at hput hdoc hup hkk
              have HPUT := Lib.hid hput
              have HDOC := Lib.hid hdoc
              have HUP := Lib.hid hup
              have HKK := Lib.hid hkk
              clear hr hput hdoc hup hkk
              go_wp2_with (fail)
              refine HPUT.out.mono ?_
              rintro e w4 ⟨rfl, hL4, hk4⟩
              have hk4b : Keep [q, b] wn w4 := hk4.mono (fun y hy => .inl (by simp at hy; simp [hy]))
              have HM := Lib.hid (HPN.out.mid hL4 hk4b)
              have HABM := Lib.hid (HABN.out.keep hk4 (by have := HPN.out.ln.lt; have := HAN.out; simp; omega))
              clear hL4 hk4 hk4b HPUT hW1
              clear f0 f1 f2 f3 ff g0 g1 gf
              clear c0 c1 c2 c3
              obtain ⟨f0, f1, f2, f3, ff⟩ := HABM.out.facts
              obtain ⟨g0, g1, gf⟩ := HM.out.X.cells
              simp only at f0 f1 f2 f3
              go_wp2_with (fail)
              refine (HDOC.out _ HM.out.D HM.out.Z).mono ?_
              rintro e w5 ⟨vd', rfl, hD5, hB5⟩
              clear HDOC
              obtain ⟨ad', cd', rfl, _⟩ := own_shape hD5
              have hfin := HPN.out.fin HM.out hB5 hD5 HUP.out.1 HUP.out.2 HKK.out
              have g5 := (HM.out.X.keep (Keep.of_below hB5 [])).cells
              unfold setLx at hfin
              obtain ⟨WS, hWS⟩ : ∃ W, (w5.setCell ⟨nd, 0, none⟩ (.int .i64 mk)).setCell ⟨nd, 1, none⟩ (.slice ad' L1.length cd') = W := ⟨_, rfl⟩
              rw [hWS] at hfin
              have HP := Lib.hid hfin
              clear f0 f1 f2 f3 ff g0 g1 gf
              obtain ⟨h0, h1, hf⟩ := g5
              clear hfin hD5 hB5 HPN HM HABM HABN HUP HKK
              have hzl := Int.natCast_nonneg L1.length
              have hzm : (L1.length : Int) ≤ 32 := by have := HP.out.N; omega
              obtain ⟨g0, g1, gf⟩ := HP.out.X.cells
              go_wp2_with (fail)
              clear hWS h0 h1 hf g0 g1 gf
              refine wp_region_soup 11 [] (spOf [(1, Spec.is (.int .i64 mk)), (7, Spec.otsT L1)]) (by kernel_rfl) (by kernel_rfl) (spOk_of (by simp [Spec.is_ok, Spec.otsT_ok])) (pre_of (by simp [Spec.is_ok, Spec.otsT_ok])) ?_
              simp only [List.take_succ_cons, List.take_zero, List.drop_succ_cons, List.drop_zero]
              iterate 1
                with_reducible refine soup_q ?_ ?_ ?_
                · rfl
                · rfl
                with_reducible apply Exists.intro
                with_reducible refine ⟨fun W hk _ => ?_, ?_⟩
                · obtain ⟨g0, g1, gf⟩ := (HP.out.X.keep hk).cells
                  unfold Oper.same
                  go_simp
                  first | rfl | exact ⟨rfl, rfl⟩
                with_reducible apply Exists.intro
                with_reducible refine ⟨?_, ?_⟩
                · go_simp
                  rfl
              refine soup_s rfl rfl rfl (fun W hk _ _ => ?_) ?_
              · unfold Oper.does
                go_simp
                refine (tat_any (HP.out.ln.keep hk)).mono ?_
                rintro e w' ⟨rfl, rfl⟩
                exact ⟨_, rfl, Keep.refl _ _, hk, rfl, trivial⟩
              intro v hv
              obtain rfl : v = _ := hv
              with_reducible apply Exists.intro
              with_reducible refine ⟨?_, ?_⟩
              · go_simp
                rfl
              iterate 5
                with_reducible refine soup_q ?_ ?_ ?_
                · rfl
                · rfl
                with_reducible apply Exists.intro
                with_reducible refine ⟨fun W hk _ => ?_, ?_⟩
                · obtain ⟨g0, g1, gf⟩ := (HP.out.X.keep hk).cells
                  unfold Oper.same
                  go_simp
                  first | rfl | exact ⟨rfl, rfl⟩
                with_reducible apply Exists.intro
                with_reducible refine ⟨?_, ?_⟩
                · go_simp
                  rfl
              refine soup_s rfl rfl rfl (fun W hk _ _ => ?_) ?_
              · unfold Oper.does
                go_simp
                refine (topen_any (HP.out.ln.keep hk) (by have := HP.out.N; omega)).mono ?_
                rintro e w' ⟨A5, c5, rfl, hE, hb⟩
                exact ⟨_, rfl, Keep.of_below hb _, hk.then_below hb, ⟨_, _, rfl⟩, _, _, rfl, hE.row⟩
              rintro v ⟨A5, c5, rfl⟩
              with_reducible apply Exists.intro
              with_reducible refine ⟨?_, ?_⟩
              · go_simp
                rfl
              iterate 3
                with_reducible refine soup_q ?_ ?_ ?_
                · rfl
                · rfl
                with_reducible apply Exists.intro
                with_reducible refine ⟨fun W hk _ => ?_, ?_⟩
                · obtain ⟨g0, g1, gf⟩ := (HP.out.X.keep hk).cells
                  unfold Oper.same
                  go_simp
                  first | rfl | exact ⟨rfl, rfl⟩
                with_reducible apply Exists.intro
                with_reducible refine ⟨?_, ?_⟩
                · go_simp
                  rfl
              refine soup_nil (fun WZ hk hS => ?_)
              have hrow : OtsRow WZ A5 L1 := by
                obtain ⟨A6, c6, e1, e2⟩ := hS 7
                simp only [Value.slice.injEq, true_and] at e1
                obtain ⟨rfl, rfl⟩ := e1
                exact e2
              have HPZ := Lib.hid (HP.out.keep hk)
              have hsm := same_any c5 cd' hrow (DocRow.rw HPZ.out.D) (by have := HP.out.N; omega) (by have := HP.out.N; omega)
              rw [decide_eq_true rfl] at hsm
              clear hk hS HP hrow
              go_wp2_with (fail)
              refine hsm.mono ?_
              rintro e wz ⟨rfl, hKz⟩
              have HPW := Lib.hid (HPZ.out.keep hKz)
              clear hsm hKz HPZ
              go_wp2_with (fail)
              go_roundw
              case rel => exact ⟨j + 1, mk, L1, _, by go_num, by omega, HPW.out⟩
              case measure => simp [intOf]; omega
            by_cases t1 : dd = 1
            · subst t1
              obtain ⟨⟨e1, outs, mk1, L1⟩, hr⟩ : ∃ r, tmF mk L xt = r := ⟨_, rfl⟩
              have hput := tmark_any HPN.out.ln (by have := HPN.out.N; omega) xt
              have hdoc := fun (W : World) (hD : DocRow bs W (.slice ad L.length cd) L) (hn : bs ≤ W.heap.size) => rlmark_any (mk := mk) hD hn HPN.out.N xt
              have hup := tmF_up (mk := mk) xt HPN.out.N HPN.out.U
              have hkk : ∀ y ∈ (tmF mk L xt).2.2.2, OkW y := by
                unfold tmF
                split
                · exact HPN.out.K
                · split
                  · exact HPN.out.K
                  · exact fun y hy => HPN.out.K y (List.mem_filter.1 hy).1
              rw [hr] at hput hdoc hup hkk
              unfold Ln3 at hdoc
              unfold MarkP at hput
              simp only at hput hdoc hup hkk
              have HPUT := Lib.hid hput
              have HDOC := Lib.hid hdoc
              have HUP := Lib.hid hup
              have HKK := Lib.hid hkk
              clear hr hput hdoc hup hkk
              go_wp2_with (fail)
              refine HPUT.out.mono ?_
              rintro e w4 ⟨A4, c4, rfl, hE, hL4, hk4⟩
              have HM := Lib.hid (HPN.out.mid hL4 hk4)
              have HE4 := Lib.hid hE.row
              have HF4 : Hid (outs ≠ [] → ∀ g off, A4 = some ⟨g, off, none⟩ → nd ≠ g) := Lib.hid (fun hl g off hq => by obtain ⟨g', e1, e2, _⟩ := hE hl; rw [hq] at e1; cases e1; have := LxAt.lt HPN.out.X; omega)
              have HABM := Lib.hid (HABN.out.keep hk4 (by have := HPN.out.ln.lt; have := HAN.out; simp; omega))
              clear hL4 hk4 hE HPUT hW1
              clear f0 f1 f2 f3 ff g0 g1 gf
              clear c0 c1 c2 c3
              obtain ⟨f0, f1, f2, f3, ff⟩ := HABM.out.facts
              obtain ⟨g0, g1, gf⟩ := HM.out.X.cells
              simp only at f0 f1 f2 f3
              go_wp2_with (fail)
              refine (HDOC.out _ HM.out.D HM.out.Z).mono ?_
              rintro e w5 ⟨vd', vo, rfl, hD5, hO5, hB5⟩
              clear HDOC
              obtain ⟨ad', cd', rfl, _⟩ := own_shape hD5
              obtain ⟨ao, co, rfl, _⟩ := own_shape hO5
              have hfin := HPN.out.fin HM.out hB5 hD5 HUP.out.1 HUP.out.2.1 HKK.out
              have hx5 := HM.out.X.keep (Keep.of_below hB5 [])
              have g5 := hx5.cells
              have ks := setLx_keep w5 nd mk1 (.slice ad' L1.length cd')
              have hOT := (DocRow.rw (show DocRow w4.heap.size w5 (.slice ao outs.length co) outs from hO5)).keep ks (fun hl g off hq => by
                have h1 := own_ne hO5 hx5 g (by rw [hq]; simp [Value.ownBlock])
                simpa using h1)
              have hET := (HE4.out.below hB5).keep ks (fun hl g off hq => by
                have := HF4.out hl g off hq
                simp; omega)
              unfold setLx at hfin hOT hET
              obtain ⟨WS, hWS⟩ : ∃ W, (w5.setCell ⟨nd, 0, none⟩ (.int .i64 mk1)).setCell ⟨nd, 1, none⟩ (.slice ad' L1.length cd') = W := ⟨_, rfl⟩
              rw [hWS] at hfin hOT hET
              have HPT := Lib.hid hfin
              have HOT := Lib.hid hOT
              have HET := Lib.hid hET
              clear f0 f1 f2 f3 ff g0 g1 gf
              obtain ⟨h0, h1, hf⟩ := g5
              have hno : outs.length ≤ 32 := HUP.out.2.2
              clear hfin hD5 hO5 hB5 ks hx5 hOT hET HPN HM HABM HABN HUP HKK HE4 HF4
              obtain ⟨g0, g1, gf⟩ := HPT.out.X.cells
              go_wp2_with (fail)
              clear hWS h0 h1 hf g0 g1 gf
              have hsm := same_any c4 co HET.out HOT.out (by omega) (by omega)
              rw [decide_eq_true rfl] at hsm
              refine hsm.mono ?_
              rintro e w7 ⟨rfl, hK7⟩
              have HP := Lib.hid (HPT.out.keep hK7)
              clear hsm hK7 HPT HET HOT
              have hzl := Int.natCast_nonneg L1.length
              have hzm : (L1.length : Int) ≤ 32 := by have := HP.out.N; omega
              obtain ⟨g0, g1, gf⟩ := HP.out.X.cells
              go_wp2_with (fail)
              clear g0 g1 gf
              refine wp_region_soup 11 [] (spOf [(1, Spec.is (.int .i64 mk1)), (7, Spec.otsT L1)]) (by kernel_rfl) (by kernel_rfl) (spOk_of (by simp [Spec.is_ok, Spec.otsT_ok])) (pre_of (by simp [Spec.is_ok, Spec.otsT_ok])) ?_
              simp only [List.take_succ_cons, List.take_zero, List.drop_succ_cons, List.drop_zero]
              iterate 1
                with_reducible refine soup_q ?_ ?_ ?_
                · rfl
                · rfl
                with_reducible apply Exists.intro
                with_reducible refine ⟨fun W hk _ => ?_, ?_⟩
                · obtain ⟨g0, g1, gf⟩ := (HP.out.X.keep hk).cells
                  unfold Oper.same
                  go_simp
                  first | rfl | exact ⟨rfl, rfl⟩
                with_reducible apply Exists.intro
                with_reducible refine ⟨?_, ?_⟩
                · go_simp
                  rfl
              refine soup_s rfl rfl rfl (fun W hk _ _ => ?_) ?_
              · unfold Oper.does
                go_simp
                refine (tat_any (HP.out.ln.keep hk)).mono ?_
                rintro e w' ⟨rfl, rfl⟩
                exact ⟨_, rfl, Keep.refl _ _, hk, rfl, trivial⟩
              intro v hv
              obtain rfl : v = _ := hv
              with_reducible apply Exists.intro
              with_reducible refine ⟨?_, ?_⟩
              · go_simp
                rfl
              iterate 5
                with_reducible refine soup_q ?_ ?_ ?_
                · rfl
                · rfl
                with_reducible apply Exists.intro
                with_reducible refine ⟨fun W hk _ => ?_, ?_⟩
                · obtain ⟨g0, g1, gf⟩ := (HP.out.X.keep hk).cells
                  unfold Oper.same
                  go_simp
                  first | rfl | exact ⟨rfl, rfl⟩
                with_reducible apply Exists.intro
                with_reducible refine ⟨?_, ?_⟩
                · go_simp
                  rfl
              refine soup_s rfl rfl rfl (fun W hk _ _ => ?_) ?_
              · unfold Oper.does
                go_simp
                refine (topen_any (HP.out.ln.keep hk) (by have := HP.out.N; omega)).mono ?_
                rintro e w' ⟨A5, c5, rfl, hE, hb⟩
                exact ⟨_, rfl, Keep.of_below hb _, hk.then_below hb, ⟨_, _, rfl⟩, _, _, rfl, hE.row⟩
              rintro v ⟨A5, c5, rfl⟩
              with_reducible apply Exists.intro
              with_reducible refine ⟨?_, ?_⟩
              · go_simp
                rfl
              iterate 3
                with_reducible refine soup_q ?_ ?_ ?_
                · rfl
                · rfl
                with_reducible apply Exists.intro
                with_reducible refine ⟨fun W hk _ => ?_, ?_⟩
                · obtain ⟨g0, g1, gf⟩ := (HP.out.X.keep hk).cells
                  unfold Oper.same
                  go_simp
                  first | rfl | exact ⟨rfl, rfl⟩
                with_reducible apply Exists.intro
                with_reducible refine ⟨?_, ?_⟩
                · go_simp
                  rfl
              refine soup_nil (fun WZ hk hS => ?_)
              have hrow : OtsRow WZ A5 L1 := by
                obtain ⟨A6, c6, e1, e2⟩ := hS 7
                simp only [Value.slice.injEq, true_and] at e1
                obtain ⟨rfl, rfl⟩ := e1
                exact e2
              have HPZ := Lib.hid (HP.out.keep hk)
              have hsm := same_any c5 cd' hrow (DocRow.rw HPZ.out.D) (by have := HP.out.N; omega) (by have := HP.out.N; omega)
              rw [decide_eq_true rfl] at hsm
              clear hk hS HP hrow
              go_wp2_with (fail)
              refine hsm.mono ?_
              rintro e wz ⟨rfl, hKz⟩
              have HPW := Lib.hid (HPZ.out.keep hKz)
              clear hsm hKz HPZ
              go_wp2_with (fail)
              go_roundw
              case rel => exact ⟨j + 1, mk1, L1, _, by go_num, by omega, HPW.out⟩
              case measure => simp [intOf]; omega
            have b0 : (dd == 0) = false := by simp [t0]
            have b1 : (dd == 1) = false := by simp [t1]
            clear t0 t1
            have HP := HPN
            go_wp2_with (fail)
            clear f0 f1 f2 f3 ff g0 g1 gf
            clear c0 c1 c2 c3 hW1 HPN HABN b0 b1
            refine wp_region_soup 11 [] (spOf [(1, Spec.is (.int .i64 mk)), (7, Spec.otsT L)]) (by kernel_rfl) (by kernel_rfl) (spOk_of (by simp [Spec.is_ok, Spec.otsT_ok])) (pre_of (by simp [Spec.is_ok, Spec.otsT_ok])) ?_
            simp only [List.take_succ_cons, List.take_zero, List.drop_succ_cons, List.drop_zero]
            iterate 1
              with_reducible refine soup_q ?_ ?_ ?_
              · rfl
              · rfl
              with_reducible apply Exists.intro
              with_reducible refine ⟨fun W hk _ => ?_, ?_⟩
              · obtain ⟨g0, g1, gf⟩ := (HP.out.X.keep hk).cells
                unfold Oper.same
                go_simp
                first | rfl | exact ⟨rfl, rfl⟩
              with_reducible apply Exists.intro
              with_reducible refine ⟨?_, ?_⟩
              · go_simp
                rfl
            refine soup_s rfl rfl rfl (fun W hk _ _ => ?_) ?_
            · unfold Oper.does
              go_simp
              refine (tat_any (HP.out.ln.keep hk)).mono ?_
              rintro e w' ⟨rfl, rfl⟩
              exact ⟨_, rfl, Keep.refl _ _, hk, rfl, trivial⟩
            intro v hv
            obtain rfl : v = _ := hv
            with_reducible apply Exists.intro
            with_reducible refine ⟨?_, ?_⟩
            · go_simp
              rfl
            iterate 5
              with_reducible refine soup_q ?_ ?_ ?_
              · rfl
              · rfl
              with_reducible apply Exists.intro
              with_reducible refine ⟨fun W hk _ => ?_, ?_⟩
              · obtain ⟨g0, g1, gf⟩ := (HP.out.X.keep hk).cells
                unfold Oper.same
                go_simp
                first | rfl | exact ⟨rfl, rfl⟩
              with_reducible apply Exists.intro
              with_reducible refine ⟨?_, ?_⟩
              · go_simp
                rfl
            refine soup_s rfl rfl rfl (fun W hk _ _ => ?_) ?_
            · unfold Oper.does
              go_simp
              refine (topen_any (HP.out.ln.keep hk) (by have := HP.out.N; omega)).mono ?_
              rintro e w' ⟨A5, c5, rfl, hE, hb⟩
              exact ⟨_, rfl, Keep.of_below hb _, hk.then_below hb, ⟨_, _, rfl⟩, _, _, rfl, hE.row⟩
            rintro v ⟨A5, c5, rfl⟩
            with_reducible apply Exists.intro
            with_reducible refine ⟨?_, ?_⟩
            · go_simp
              rfl
            iterate 3
              with_reducible refine soup_q ?_ ?_ ?_
              · rfl
              · rfl
              with_reducible apply Exists.intro
              with_reducible refine ⟨fun W hk _ => ?_, ?_⟩
              · obtain ⟨g0, g1, gf⟩ := (HP.out.X.keep hk).cells
                unfold Oper.same
                go_simp
                first | rfl | exact ⟨rfl, rfl⟩
              with_reducible apply Exists.intro
              with_reducible refine ⟨?_, ?_⟩
              · go_simp
                rfl
            refine soup_nil (fun WZ hk hS => ?_)
            have hrow : OtsRow WZ A5 L := by
              obtain ⟨A6, c6, e1, e2⟩ := hS 7
              simp only [Value.slice.injEq, true_and] at e1
              obtain ⟨rfl, rfl⟩ := e1
              exact e2
            have HPZ := Lib.hid (HP.out.keep hk)
            have hsm := same_any c5 cd hrow (DocRow.rw HPZ.out.D) (by have := HP.out.N; omega) (by have := HP.out.N; omega)
            rw [decide_eq_true rfl] at hsm
            clear hk hS HP hrow
            go_wp2_with (fail)
            refine hsm.mono ?_
            rintro e wz ⟨rfl, hKz⟩
            have HPW := Lib.hid (HPZ.out.keep hKz)
            clear hsm hKz HPZ
            go_wp2_with (fail)
            go_roundw
            case rel => exact ⟨j + 1, mk, L, _, by go_num, by omega, HPW.out⟩
            case measure => simp [intOf]; omega
          · obtain rfl : j = l.length := by omega
            have HBE := Lib.hid hP.B
            clear hP hlt hj
            go_wp2_with (fail)
            refine (twakes_any _).mono ?_
            rintro e w15 ⟨rfl, hB15⟩
            have HBe := Lib.hid (HBE.out.trans (hB15.mono HBE.out.size))
            clear hB15
            go_wp2_with (fail)
            go_ret
            exact ⟨rfl, HBe.out⟩
end Go.Proofs.Ytmhbibcfbencnaa
