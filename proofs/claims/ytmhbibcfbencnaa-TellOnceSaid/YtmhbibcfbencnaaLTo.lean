/- TellOnce: what is told rises, no window is told twice; each value that was taken is in just one window that is told or open. -/
import Derived.Test.YtmhbibcfbencnaaTeI
namespace Go.Proofs.Ytmhbibcfbencnaa
open Go.RowKit Go.Lib
open Go.ChangeMaps (setBlock)
set_option linter.unusedSimpArgs false
set_option linter.unusedVariables false
theorem ent_nodup {x : Wd} {mv : VM} (h : (mv.map (·.1)).Nodup) : ((entM x vz mv).map (·.1)).Nodup := by
  unfold entM
  split
  · exact h
  · rename_i hn
    have hl : look x mv = none := by cases hh : look x mv with | none => rfl | some v => rw [hh] at hn; exact absurd rfl hn
    rw [List.map_append, List.nodup_append]
    refine ⟨h, by simp, fun a ha b hb => ?_⟩
    obtain rfl : b = x := by simpa using hb
    obtain ⟨q, hq, rfl⟩ := List.mem_map.1 ha
    exact fun e => look_none.1 hl q hq e.symm
/-- An act of a line in a block of its own. -/
def acTObj (x : A4) : Obj := .cells #[.int .u8 x.dd, .string x.key, .int .i64 x.t, .int .i64 x.n] 52
def AcT (W : World) (g : Nat) (x : A4) : Prop := W.heap[g]? = some (acTObj x)
theorem AcT.keep {X : List Nat} {W W' : World} {g : Nat} {x : A4} (h : AcT W g x) (hk : Keep X W W') (hx : g ∉ X := by simp) : AcT W' g x := (hk.block g (lt_of_heap h) hx).trans h
theorem AcT.new (W : World) (x : A4) : AcT (W.alloc (acTObj x)) W.heap.size x := World.alloc_heap_new W _
theorem AcT.facts {W : World} {g : Nat} {x : A4} (h : AcT W g x) : W.cell? ⟨g, 0, none⟩ = some (.int .u8 x.dd) ∧ W.cell? ⟨g, 1, none⟩ = some (.string x.key) ∧ W.cell? ⟨g, 2, none⟩ = some (.int .i64 x.t) ∧ W.cell? ⟨g, 3, none⟩ = some (.int .i64 x.n) ∧ (∀ o, W.frozen? ⟨g, o, none⟩ = false) := by
  unfold AcT acTObj at h
  refine ⟨?_, ?_, ?_, ?_, fun o => ?_⟩
  all_goals first | (unfold World.cell?; rw [h]; rfl) | (unfold World.frozen?; rw [h]; simp)
theorem DocRow.kp {X : List Nat} {W W' : World} {base : Nat} {v : Value} {M : List Ot} (h : DocRow base W v M) (hk : Keep X W W') (hx : ∀ y ∈ X, W.heap.size ≤ y) : DocRow base W' v M :=
  own_keep h hk (fun g hg hm => by have := own_lt h g hg; have := hx g hm; omega)
/-- The line, what was told and the values, in memory. -/
structure OnI (w : World) (q p b bm bs : Nat) (s : OSt) (vt : Value) (mv : VM) (W : World) : Prop where
  I : OnceI s
  ln : LnAt W q p b s.mr s.L
  T : DocRow bs W vt s.told
  V : VsAt bs bm W mv
  E : valsOf mv = s.vals
  B : Below w.heap.size w W
  Z : bs ≤ W.heap.size
  F : q < bs ∧ p < bs ∧ b < bs ∧ bm < bs ∧ bm ≠ q ∧ bm ≠ p ∧ bm ≠ b ∧ w.heap.size ≤ q ∧ w.heap.size ≤ b ∧ w.heap.size ≤ bm
theorem OnI.keep {w : World} {q p b bm bs : Nat} {s : OSt} {vt : Value} {mv : VM} {W W' : World} (h : OnI w q p b bm bs s vt mv W) (hk : Keep [] W W') : OnI w q p b bm bs s vt mv W' :=
  ⟨h.I, h.ln.keep hk, DocRow.kp h.T hk (by simp), h.V.none hk, h.E, h.B.trans (hk.below h.B.size (by simp)), Nat.le_trans h.Z hk.size, h.F⟩
/-- The line's step has gone. -/
structure OnM (w : World) (q p b bm bs : Nat) (mk : Int) (L told : List Ot) (vt : Value) (mv : VM) (W : World) : Prop where
  ln : LnAt W q p b mk L
  T : DocRow bs W vt told
  V : VsAt bs bm W mv
  B : Below w.heap.size w W
  Z : bs ≤ W.heap.size
theorem OnI.mid {w : World} {q p b bm bs : Nat} {s : OSt} {mk : Int} {L : List Ot} {vt : Value} {mv : VM} {W W' : World} (h : OnI w q p b bm bs s vt mv W) (hl : LnAt W' q p b mk L) (hk : Keep [q, b] W W') : OnM w q p b bm bs mk L s.told vt mv W' :=
  ⟨hl, own_keep h.T hk (fun g hg => by have := own_base h.T g hg; have := h.F; simp; omega), h.V.low hk (by have := h.F; simp; omega) (by have := h.F; simp; omega), h.B.trans (hk.below h.B.size (by have := h.F; simp; omega)), Nat.le_trans h.Z hk.size⟩
theorem OnM.keep {w : World} {q p b bm bs : Nat} {mk : Int} {L told : List Ot} {vt : Value} {mv : VM} {W W' : World} (h : OnM w q p b bm bs mk L told vt mv W) (hk : Keep [] W W') : OnM w q p b bm bs mk L told vt mv W' :=
  ⟨h.ln.keep hk, DocRow.kp h.T hk (by simp), h.V.none hk, h.B.trans (hk.below h.B.size (by simp)), Nat.le_trans h.Z hk.size⟩
/-- More is told. -/
theorem OnM.tell {w : World} {q p b bm bs : Nat} {mk : Int} {L told told' : List Ot} {vt vt' : Value} {mv : VM} {W W' : World} (h : OnM w q p b bm bs mk L told vt mv W) (hF : q < bs ∧ p < bs ∧ b < bs ∧ bm < bs) (hw : w.heap.size ≤ bs) (hk : Keep vt.ownBlock.toList W W') (hT : DocRow bs W' vt' told') : OnM w q p b bm bs mk L told' vt' mv W' := by
  have hob : ∀ y, y < bs → y ∉ vt.ownBlock.toList := fun y hy hm => by have := own_base h.T y (by simpa using hm); omega
  exact ⟨h.ln.keep hk (hob _ hF.1) (hob _ hF.2.1) (hob _ hF.2.2.1), hT, h.V.keep hk (hob _ hF.2.2.2) (fun q hq g hg hm => row_ne (h.V.R q hq) h.T (by decide) g hg (by simpa using hm)), h.B.trans (hk.below h.B.size (fun y hy => by have := own_base h.T y (by simpa using hy); omega)), Nat.le_trans h.Z hk.size⟩
set_option maxRecDepth 100000 in
set_option maxHeartbeats 20000000 in
theorem law_TellOnce (A : Option Addr) (l : List A4) (c : Nat) (hl : l.length ≤ 9223372036854775807) (hz : ∀ y ∈ l, A4.Wf y) (w : World) (hA : A4Row w A l) :
    Calls Try.prog 4 #[.slice A l.length c] w fun e w' => e = .returned (.bool true) ∧ Below w.heap.size w w' := by
  have HA := Lib.hid hA
  clear hA
  go_enter Try.func4, Try.ntmps4
  go_wp2_with (fail)
  refine (great10_any c (HA.out) hl hz).mono ?_
  rintro e w1 ⟨g, rfl, hg, rfl⟩
  cases g with
  | true =>
    go_wp2_with (fail)
    go_wp2_with (fail)
    refine (twakes_any _).mono ?_
    rintro e w2 ⟨rfl, hB2⟩
    have HBe := Lib.hid ((Below.refl w.heap.size w).trans (hB2.mono (Below.refl w.heap.size w).size))
    clear hB2
    go_wp2_with (fail)
    go_ret
    exact ⟨rfl, HBe.out⟩
  | false =>
    have h200 := (hg rfl).1
    clear hg
    go_wp2_with (fail)
    refine (tnew_any _).mono ?_
    rintro e w1 ⟨q, p, b, rfl, hL, hq, hp, hb, hB⟩
    have hz0 := Int.natCast_nonneg l.length
    have hz200 : (l.length : Int) ≤ 200 := by omega
    obtain ⟨bm, hbm⟩ : ∃ n, w1.heap.size = n := ⟨_, rfl⟩
    have hP0 : OnI w q p b bm (bm + 1) ⟨0, [], [], []⟩ (.slice none 0 0) [] (w1.alloc (.map #[] 0)) := by
      have hk : Keep [] w1 (w1.alloc (.map #[] 0)) := (Keep.refl _ _).alloc _
      have hl := hL.lt
      subst hbm
      exact ⟨OnceI.zero, hL.keep hk, World.ownsRow_nil _ _ _ _, ⟨MapIs.new w1, by simp, by simp, by simp⟩, rfl, hB.trans (hk.below hB.size (by simp)), by simp, by have := hB.size; omega⟩
    have HP0 := Lib.hid hP0
    have HZ := Lib.hid hz
    obtain ⟨bs, hbs⟩ : ∃ n, bm + 1 = n := ⟨_, rfl⟩
    rw [hbs] at HP0
    clear hP0 hL hq hp hb hB hz hbs
    have hmm := @run_makeMap Try.prog
    go_wp2_with (fail)
    clear hbm hmm
    go_loopw [5, 6] (fun v5 i wr => ∃ (j : Nat) (s : OSt) (vt : Value) (mv : VM), vt = v5 ∧ i = .int .i64 j ∧ j ≤ l.length ∧ s.told.length ≤ 32 * j ∧ (∀ y, ((look y mv).getD vz).2.length ≤ j) ∧ OnI w q p b bm bs s vt mv wr) (fun _ i _ => l.length - (intOf i).toNat)
    case atStart => exact ⟨0, _, _, _, rfl, rfl, Nat.zero_le _, by simp, fun y => by simp [look, vz], HP0.out⟩
    case round =>
      clear HP0
      obtain ⟨j, s, vt, mv, rfl, rfl, hj, htl, hvb, hP⟩ := hrel
      have HVB := Lib.hid hvb
      clear hvb
      obtain ⟨at_, ct, rfl, _⟩ := own_shape hP.T
      have h0j : (0 : Int) ≤ (j : Int) := Int.natCast_nonneg j
      by_cases hlt : j < l.length
      · obtain ⟨x, hx⟩ : ∃ x, l[j]? = some x := ⟨l[j], List.getElem?_eq_getElem hlt⟩
        obtain ⟨ga, off, rfl, hga, hat⟩ := (HA.out.below hP.B) (by intro e; rw [e] at hlt; simp at hlt)
        have hx0 := hat j x hx
        have HXW := Lib.hid (HZ.out x (List.mem_of_getElem? hx))
        have hjn : (j : Int) < (l.length : Int) := by omega
        have hkr : Keep [] wr (wr.alloc (acTObj x)) := (Keep.refl _ wr).alloc _
        obtain ⟨wn, hW1⟩ : ∃ W1, wr.alloc (acTObj x) = W1 := ⟨_, rfl⟩
        have hab := AcT.new wr x
        rw [hW1] at hab hkr
        have HABN := Lib.hid hab
        have HPN := Lib.hid (hP.keep hkr)
        have HAN := Lib.hid (show q < wr.heap.size ∧ b < wr.heap.size from ⟨hP.ln.lt.1, hP.ln.lt.2.2⟩)
        obtain ⟨f0, f1, f2, f3, ff⟩ := hab.facts
        obtain ⟨c0, c1, c2, c3⟩ := hx0
        obtain ⟨dd, xk, xt, xn⟩ := x
        simp only [acTObj] at c0 c1 c2 c3 hW1 f0 f1 f2 f3
        clear hat hx hab hkr hP
        by_cases t0 : dd = 0
        · subst t0
          obtain ⟨⟨e1, L1⟩, hr⟩ : ∃ r, tpF s.mr s.L xk xt xn = r := ⟨_, rfl⟩
          have hput := tput_any HPN.out.ln (by have := HPN.out.I.ok.N; omega) xk HXW.out.key xt xn
          have hon := HPN.out.I.put xk xt HXW.out.n
          rw [hr] at hput hon
          simp only at hput hon
          have HPUT := Lib.hid hput
          have HON := Lib.hid hon
          clear hr hput hon
          go_wp2_with (fail)
          refine HPUT.out.mono ?_
          rintro e w4 ⟨rfl, hL4, hk4⟩
          have hk4b : Keep [q, b] wn w4 := hk4.mono (fun y hy => .inl (by simp at hy; simp [hy]))
          have HM := Lib.hid (HPN.out.mid hL4 hk4b)
          have HAB := Lib.hid (HABN.out.keep hk4 (by have := HAN.out; simp; omega))
          clear hL4 hk4 hk4b HPUT hW1 c0 c1 c2 c3
          clear f0 f1 f2 f3 ff
          obtain ⟨f0, f1, f2, f3, ff⟩ := HAB.out.facts
          simp only at f0 f1 f2 f3
          by_cases he : e1 = 1
          · subst he
            rw [if_pos rfl] at HON
            obtain ⟨sx, hsx⟩ : ∃ x, startI xt = x := ⟨_, rfl⟩
            have hst := fun W => start_any xt W
            rw [hsx] at hst HON
            have HST := Lib.hid hst
            clear hsx hst
            go_wp2_with (fail)
            clear f0 f1 f2 f3 ff
            refine wp_region_soup 7 [] (spOf [(4, Spec.is (.int .i64 sx)), (6, Spec.fresh w4.heap.size (.cells #[.string ByteArray.empty, .int .i64 0, .int .i64 0, .int .i64 0, .int .i64 0, .int .i64 0, .int .i64 0, .int .i64 0, .int .i64 0, .int .i64 0] 33))]) (by kernel_rfl) (by kernel_rfl) (spOk_of (by simp [Spec.is_ok, Spec.fresh_ok])) (pre_of (by simp [Spec.is_ok, Spec.fresh_ok])) ?_
            simp only [List.take_succ_cons, List.take_zero, List.drop_succ_cons, List.drop_zero]
            iterate 4
              with_reducible refine soup_q ?_ ?_ ?_
              · rfl
              · rfl
              with_reducible apply Exists.intro
              with_reducible refine ⟨fun W hk _ => ?_, ?_⟩
              · obtain ⟨f0, f1, f2, f3, ff⟩ := (HAB.out.keep hk).facts
                simp only at f0 f1 f2 f3
                unfold Oper.same
                go_simp
                first | rfl | exact ⟨rfl, rfl⟩
              with_reducible apply Exists.intro
              with_reducible refine ⟨?_, ?_⟩
              · go_simp
                rfl
            refine soup_s rfl rfl rfl (fun W hk _ _ => ?_) ?_
            · unfold Oper.does
              go_simp
              refine (HST.out _).mono ?_
              rintro e w' ⟨rfl, rfl⟩
              exact ⟨_, rfl, Keep.refl _ _, hk, rfl, trivial⟩
            intro v hv
            obtain rfl : v = _ := hv
            with_reducible apply Exists.intro
            with_reducible refine ⟨?_, ?_⟩
            · go_simp
              rfl
            iterate 1
              with_reducible refine soup_q ?_ ?_ ?_
              · rfl
              · rfl
              with_reducible apply Exists.intro
              with_reducible refine ⟨fun W hk _ => ?_, ?_⟩
              · obtain ⟨f0, f1, f2, f3, ff⟩ := (HAB.out.keep hk).facts
                simp only at f0 f1 f2 f3
                unfold Oper.same
                go_simp
                first | rfl | exact ⟨rfl, rfl⟩
              with_reducible apply Exists.intro
              with_reducible refine ⟨?_, ?_⟩
              · go_simp
                rfl
            refine soup_s rfl rfl rfl (fun W hk _ _ => ?_) ?_
            · unfold Oper.does
              go_simp
              exact ⟨(Keep.refl _ _).alloc _, hk.alloc _, ⟨_, rfl, hk.size⟩, _, rfl, hk.size, World.alloc_heap_new W _⟩
            rintro v ⟨g, rfl, hg⟩
            with_reducible apply Exists.intro
            with_reducible refine ⟨?_, ?_⟩
            · go_simp
              rfl
            refine soup_nil (fun W5 hk hS => ?_)
            have hgo : OtAt W5 g ⟨ByteArray.empty, 0, Ag.zero⟩ := by
              obtain ⟨g', e1, _, e3⟩ := hS 6
              obtain rfl : g = g' := by simpa using e1
              exact e3
            have hgn : w4.heap.size ≤ g := hg
            have ks := setO_keep W5 g ⟨xk, sx, Ag.zero⟩
            have hx6 := setO_at hgo ⟨xk, sx, Ag.zero⟩
            have hm5 := HM.out.keep hk
            have hab5 := HAB.out.keep hk
            obtain ⟨a0, a1, a2, a3, a4, a5, a6, a7, a8, a9, af⟩ := hgo.all
            simp only [Ag.zero] at a0 a1 a2 a3 a4 a5 a6 a7 a8 a9
            unfold setO at ks hx6
            simp only [Ag.zero] at ks
            obtain ⟨w6, hw6⟩ : ∃ W, ((((((((((W5.setCell ⟨g, 0, none⟩ (.string xk)).setCell ⟨g, 1, none⟩ (.int .i64 sx)).setCell ⟨g, 2, none⟩ (.int .i64 0)).setCell ⟨g, 3, none⟩ (.int .i64 0)).setCell ⟨g, 4, none⟩ (.int .i64 0)).setCell ⟨g, 5, none⟩ (.int .i64 0)).setCell ⟨g, 6, none⟩ (.int .i64 0)).setCell ⟨g, 7, none⟩ (.int .i64 0)).setCell ⟨g, 8, none⟩ (.int .i64 0)).setCell ⟨g, 9, none⟩ (.int .i64 0)) = W := ⟨_, rfl⟩
            rw [hw6] at ks
            have hx6' : OtAt w6 g ⟨xk, sx, Ag.zero⟩ := hw6 ▸ hx6
            have k6 : Keep [] w4 w6 := hk.step ks (fun y hy => .inr (by simp at hy; omega))
            have HM6 := Lib.hid (HM.out.keep k6)
            have HAB6 := Lib.hid (HAB.out.keep k6)
            have HX6 := Lib.hid hx6'
            clear hk hS ks hx6 hx6' k6 hm5 hab5 hgo HM HAB
            obtain ⟨f0, f1, f2, f3, ff⟩ := HAB6.out.facts
            obtain ⟨y0, y1, y2, y3, y4, y5, y6, y7, y8, y9, yf⟩ := HX6.out.all
            simp only [Ag.zero] at f0 f1 f2 f3 y0 y1 y2 y3 y4 y5 y6 y7 y8 y9
            have hka : Keep [] w6 (w6.alloc (.cells #[.int .i64 xn] 2)) := (Keep.refl _ _).alloc _
            obtain ⟨o, st, hrun, hent⟩ := run_entry (P := Try.prog) Try.underlying50 keyLaw_ekO (v0 := vz) zeroIs (HM6.out.V.none hka).M ⟨sx, xk⟩
            have hrow := HM6.out.V.row0 ⟨sx, xk⟩
            obtain ⟨⟨vo, vs⟩, hlk⟩ : ∃ u, (look ⟨sx, xk⟩ mv).getD vz = u := ⟨_, rfl⟩
            rw [hlk] at hrun hrow
            simp only at hrun hrow
            obtain ⟨ao, co, rfl, _⟩ := own_shape hrow
            have kab : Keep [bm] (w6.alloc (.cells #[.int .i64 xn] 2)) (setBlock (w6.alloc (.cells #[.int .i64 xn] 2)) bm o) := (Keep.refl _ _).setBlock bm o (.inl (by simp))
            have kb : Keep [bm] w6 (setBlock (w6.alloc (.cells #[.int .i64 xn] 2)) bm o) := (hka.mono (by simp)).trans kab
            have hbmr : ∀ g', (Value.slice ao vs.length co).ownBlock = some g' → g' ≠ bm := by
              obtain ⟨ob, h1, h2⟩ := map_obj HM6.out.V.M
              exact own_ne_it hrow h1 h2
            have hbmt : ∀ g', (Value.slice at_ s.told.length ct).ownBlock = some g' → g' ≠ bm := by
              obtain ⟨ob, h1, h2⟩ := map_obj HM6.out.V.M
              exact own_ne_it HM6.out.T h1 h2
            have HRB := Lib.hid (own_keep hrow kb (fun g' hg' => by have := hbmr g' hg'; simpa using this))
            have HNW : Hid (∀ j u, ([.int .i64 xn] : List Value)[j]? = some u → (setBlock (w6.alloc (.cells #[.int .i64 xn] 2)) bm o).cell? ((⟨w6.heap.size, 0, none⟩ : Addr).add j) = some u) := Lib.hid (fun j u hj => by
              have h1 := cells_new w6 [.int .i64 xn] 2 _ rfl j u hj
              rw [add_at] at h1 ⊢
              exact (kab.cell _ (by simp) (by have := HM6.out.V.M.lt; simp; omega)).trans h1)
            have HENT := Lib.hid hent
            have HKB := Lib.hid kb
            have HLK := Lib.hid hlk
            have HVL : Hid (vs.length ≤ j) := Lib.hid (by have := HVB.out ⟨sx, xk⟩; rw [hlk] at this; exact this)
            have hzb : bs ≤ (setBlock (w6.alloc (.cells #[.int .i64 xn] 2)) bm o).heap.size := Nat.le_trans HM6.out.Z kb.size
            have HZB := Lib.hid hzb
            have HBR := Lib.hid hbmr
            have HBT := Lib.hid hbmt
            have HRUN := Lib.hid hrun
            have hvl := HVL.out
            clear hka hent hrow hlk kab kb hbmr hbmt hzb
            unfold ekO at hrun
            simp only at hrun
            obtain ⟨i0, hi0, hz0', hz1', hz2'⟩ := info_parts infoI8b
            go_wp2_with (at_builtin; refine wpList_append_own_at _ rfl _ _ 28 rfl bs 2 i0 (.int .i64 0) 1 8 Try.underlying28 hi0 hz0' hz1' hz2' rfl (by decide) _ _ _ rfl HRB.out ⟨w6.heap.size, 0, none⟩ 1 1 [.int .i64 xn] rfl rfl ?c1 ?c2 ?c3 ?c4 ?c5 ?_)
            case c1 => exact HNW.out
            case c2 => simp [Value.oneCell']
            case c3 => unfold maxLen; omega
            case c4 => omega
            case c5 => exact HZB.out
            clear hrun hw6 a0 a1 a2 a3 a4 a5 a6 a7 a8 a9 af y0 y1 y2 y3 y4 y5 y6 y7 y8 y9 yf f0 f1 f2 f3 ff
            intro v' w7 hown' hgrow _ hat'
            obtain ⟨av', cv', rfl, _⟩ := own_shape hown'
            have hown2 : w7.ownsRow bs 2 1 (.slice av' (vs.length + 1) cv') (vs ++ [xn]).length ((vs ++ [xn]).map intV) := by rw [List.length_append, List.map_append]; exact hown'
            have kc : Keep (Value.slice ao vs.length co).ownBlock.toList (setBlock (w6.alloc (.cells #[.int .i64 xn] 2)) bm o) w7 := (Keep.refl _ _).grown hgrow (fun k hk => .inl (by simp [hk]))
            have hbmc : bm ∉ (Value.slice ao vs.length co).ownBlock.toList := fun hm => HBR.out bm (by simpa using hm) rfl
            have hent7 := HENT.out.of_block (kc.block bm HENT.out.map.lt hbmc)
            obtain ⟨o2, hrun2, hmap2⟩ := run_entry_store (T := 50) (P := Try.prog) (ent_nodup HM6.out.V.nd) hent7 (.slice av' (vs.length + 1) cv', vs ++ [xn])
            simp only at hrun2
            have kd : Keep [bm] w7 (setBlock w7 bm o2) := (Keep.refl _ _).setBlock bm o2 (.inl (by simp))
            have hdone : VsAt bs bm (setBlock w7 bm o2) (put ⟨sx, xk⟩ (.slice av' (vs.length + 1) cv', vs ++ [xn]) mv) := by
              have h := HM6.out.V.done (x := ⟨sx, xk⟩) (n := xn) (v' := .slice av' (vs.length + 1) cv') HKB.out HENT.out (by rw [HLK.out]; exact kc) (by rw [HLK.out]; exact hown2) (by rw [HLK.out]; exact hat'.imp id (fun h => ⟨_, h, Nat.le_refl _⟩)) kd (by rw [HLK.out]; exact hmap2)
              rw [HLK.out] at h
              exact h
            have hE : valsOf (put ⟨sx, xk⟩ (.slice av' (vs.length + 1) cv', vs ++ [xn]) mv) = addV ⟨sx, xk⟩ xn s.vals := by
              have h := vals_put ⟨sx, xk⟩ (.slice av' (vs.length + 1) cv') xn mv
              rw [HLK.out, HPN.out.E] at h
              exact h
            have HVB2 : Hid (∀ y, ((look y (put ⟨sx, xk⟩ (.slice av' (vs.length + 1) cv', vs ++ [xn]) mv)).getD vz).2.length ≤ j + 1) := Lib.hid (fun y => by
              rw [look_put]
              split
              · simp; exact hvl
              · exact Nat.le_succ_of_le (HVB.out y))
            have hob : ∀ y, y < bs → y ∉ (Value.slice ao vs.length co).ownBlock.toList := fun y hy hm => by have := own_base HRB.out y (by simpa using hm); omega
            have hF := HPN.out.F
            have hlnd : LnAt (setBlock w7 bm o2) q p b s.mr L1 := (((HM6.out.ln.keep HKB.out (by simp; omega) (by simp; omega) (by simp; omega)).keep kc (hob _ hF.1) (hob _ hF.2.1) (hob _ hF.2.2.1))).keep kd (by simp; omega) (by simp; omega) (by simp; omega)
            have hT6 := own_keep HM6.out.T HKB.out (fun g' hg' => by have := HBT.out g' hg'; simpa using this)
            have hTd : DocRow bs (setBlock w7 bm o2) (.slice at_ s.told.length ct) s.told := own_keep (own_keep hT6 kc (fun g' hg' hm => row_ne hT6 HRB.out (by decide) g' hg' (by simpa using hm))) kd (fun g' hg' => by have := HBT.out g' hg'; simpa using this)
            have hB6 := HM6.out.B.trans (HKB.out.below HM6.out.B.size (by simp; omega))
            have hB7 := hB6.trans (kc.below hB6.size (fun y hy => by have := own_base HRB.out y (by simpa using hy); omega))
            have HP : Hid (OnI w q p b bm bs ⟨s.mr, L1, s.told, addV ⟨sx, xk⟩ xn s.vals⟩ (.slice at_ s.told.length ct) (put ⟨sx, xk⟩ (.slice av' (vs.length + 1) cv', vs ++ [xn]) mv) (setBlock w7 bm o2)) := Lib.hid ⟨HON.out, hlnd, hTd, hdone, hE, hB7.trans (kd.below hB7.size (by simp; omega)), Nat.le_trans (Nat.le_trans HZB.out kc.size) kd.size, hF⟩
            clear hown' hown2 hgrow hat' kc hbmc hent7 hmap2 kd hdone hE hob hF hlnd hT6 hTd hB6 hB7 HM6 HAB6 HX6 HRB HNW HENT HKB HLK HVL HZB HBR HBT HRUN HON HPN HABN hvl
            go_wp2_with (fail)
            clear hrun2
            go_roundw
            case rel => exact ⟨j + 1, _, _, _, rfl, by go_num, by omega, by simp only; omega, HVB2.out, HP.out⟩
            case measure => simp [intOf]; omega
          · have heb : (e1 == 1) = false := by simp [he]
            rw [if_neg he] at HON
            have HP : Hid (OnI w q p b bm bs ⟨s.mr, L1, s.told, s.vals⟩ (.slice at_ s.told.length ct) mv w4) := Lib.hid ⟨HON.out, HM.out.ln, HM.out.T, HM.out.V, HPN.out.E, HM.out.B, HM.out.Z, HPN.out.F⟩
            clear he HM HON HPN HABN
            go_wp2_with (fail)
            clear heb f0 f1 f2 f3 ff
            go_roundw
            case rel => exact ⟨j + 1, _, _, _, rfl, by go_num, by omega, by simp only; omega, fun y => Nat.le_succ_of_le (HVB.out y), HP.out⟩
            case measure => simp [intOf]; omega
        by_cases t1 : dd = 1
        · subst t1
          obtain ⟨⟨e1, outs, mk1, L1⟩, hr⟩ : ∃ r, tmF s.mr s.L xt = r := ⟨_, rfl⟩
          have hm := tmark_any HPN.out.ln (by have := HPN.out.I.ok.N; omega) xt
          have hon := HPN.out.I.mark xt
          have hup := (tmF_up (mk := s.mr) xt HPN.out.I.ok.N HPN.out.I.ok.U).2.2
          rw [hr] at hm hon hup
          unfold MarkP at hm
          simp only at hm hon hup
          obtain ⟨no, hno⟩ : ∃ n, outs.length = n := ⟨_, rfl⟩
          rw [hno] at hm hup
          have HMK := Lib.hid hm
          have HON := Lib.hid hon
          have HNO := Lib.hid hno
          clear hr hm hon hno
          go_wp2_with (fail)
          refine HMK.out.mono ?_
          rintro e w4 ⟨A4, c4, rfl, hE, hL4, hk4⟩
          have HM := Lib.hid (HPN.out.mid hL4 hk4)
          have HE4 := Lib.hid hE
          clear hL4 hk4 hE HMK hW1 c0 c1 c2 c3 f0 f1 f2 f3 ff
          obtain ⟨i0, hi0, hz0, hz1, hz2⟩ := info_parts infoOt
          by_cases hne : outs = []
          · subst hne
            obtain rfl : 0 = no := HNO.out
            rw [List.append_nil] at HON
            have HP : Hid (OnI w q p b bm bs ⟨mk1, L1, s.told, s.vals⟩ (.slice at_ s.told.length ct) mv w4) := Lib.hid ⟨HON.out, HM.out.ln, HM.out.T, HM.out.V, HPN.out.E, HM.out.B, HM.out.Z, HPN.out.F⟩
            go_wp2_with (at_builtin; refine wpList_append_empty rfl _ _ 38 rfl bs 33 i0 10 Try.underlying38 hi0 _ _ _ rfl HM.out.T A4 c4 rfl ?_)
            clear HM HON HPN HABN
            go_roundw
            case rel => exact ⟨j + 1, _, _, _, rfl, by go_num, by omega, by simp only; omega, fun y => Nat.le_succ_of_le (HVB.out y), HP.out⟩
            case measure => simp [intOf]; omega
          · obtain ⟨g4, rfl, hg4, _, _⟩ := HE4.out hne
            have HRW := Lib.hid (HE4.out.row)
            have hno := HNO.out
            go_wp2_with (at_builtin; refine wpList_append_own_at _ rfl _ _ 38 rfl bs 33 i0 (Ot.val ⟨ByteArray.empty, 0, Ag.zero⟩) 10 88 Try.underlying38 hi0 hz0 hz1 hz2 rfl (by decide) _ _ _ rfl HM.out.T ⟨g4, 0, none⟩ no c4 (flatE Ot.enc outs) rfl (by rw [flatE_len otlen, hno]) ?c1 ?c2 ?c3 ?c4 ?c5 ?_)
            case c1 => exact ots_news HRW.out hne
            case c2 => exact flatE_one _
            case c3 => unfold maxLen; omega
            case c4 => omega
            case c5 => exact HM.out.Z
            clear hno
            intro v' w5 hown' hgrow _ _
            have kw : Keep (Value.slice at_ s.told.length ct).ownBlock.toList w4 w5 := (Keep.refl _ w4).grown hgrow (fun k hk => .inl (by simp [hk]))
            have hT5 : DocRow bs w5 v' (s.told ++ outs) := by unfold DocRow; rw [List.length_append, flatE_app, HNO.out]; exact hown'
            have hF := HPN.out.F
            have hm5 := HM.out.tell ⟨hF.1, hF.2.1, hF.2.2.1, hF.2.2.2.1⟩ (by omega) kw hT5
            have HP : Hid (OnI w q p b bm bs ⟨mk1, L1, s.told ++ outs, s.vals⟩ v' mv w5) := Lib.hid ⟨HON.out, hm5.ln, hm5.T, hm5.V, HPN.out.E, hm5.B, hm5.Z, hF⟩
            have htl2 : (s.told ++ outs).length ≤ 32 * (j + 1) := by rw [List.length_append, HNO.out]; omega
            clear hown' hgrow kw hT5 hF hm5 HM HON HPN HABN HRW
            go_wp2_with (fail)
            go_roundw
            case rel => exact ⟨j + 1, _, _, _, rfl, by go_num, by omega, htl2, fun y => Nat.le_succ_of_le (HVB.out y), HP.out⟩
            case measure => simp [intOf]; omega
        have b0 : (dd == 0) = false := by simp [t0]
        have b1 : (dd == 1) = false := by simp [t1]
        clear t0 t1
        have HP := HPN
        go_wp2_with (fail)
        clear f0 f1 f2 f3 ff
        clear c0 c1 c2 c3 hW1 HPN HABN b0 b1
        go_roundw
        case rel => exact ⟨j + 1, _, _, _, rfl, by go_num, by omega, by omega, fun y => Nat.le_succ_of_le (HVB.out y), HP.out⟩
        case measure => simp [intOf]; omega
      · obtain rfl : j = l.length := by omega
        have HPN := Lib.hid hP
        have hmm := @run_makeMap Try.prog
        have hk1 : Keep [] wr (wr.alloc (.map #[] 0)) := (Keep.refl _ _).alloc _
        have hk2 : Keep [] (wr.alloc (.map #[] 0)) ((wr.alloc (.map #[] 0)).alloc (.cells #[.string ByteArray.empty, .int .i64 (-1), .int .i64 0, .int .i64 0, .int .i64 0, .int .i64 0, .int .i64 0, .int .i64 0, .int .i64 0, .int .i64 0] 33)) := (Keep.refl _ _).alloc _
        have HP2 := Lib.hid (hP.keep (hk1.trans hk2))
        have HM2 : Hid (MapIs ekO (Value.int .i64) ((wr.alloc (.map #[] 0)).alloc (.cells #[.string ByteArray.empty, .int .i64 (-1), .int .i64 0, .int .i64 0, .int .i64 0, .int .i64 0, .int .i64 0, .int .i64 0, .int .i64 0, .int .i64 0] 33)) wr.heap.size ([] : List (Wd × Int))) := Lib.hid ((MapIs.new wr).of_block (hk2.block wr.heap.size (by simp) (by simp)))
        have HO2 : Hid (OtAt ((wr.alloc (.map #[] 0)).alloc (.cells #[.string ByteArray.empty, .int .i64 (-1), .int .i64 0, .int .i64 0, .int .i64 0, .int .i64 0, .int .i64 0, .int .i64 0, .int .i64 0, .int .i64 0] 33)) (wr.heap.size + 1) ⟨ByteArray.empty, -1, Ag.zero⟩) := Lib.hid (by have := OtAt.new (wr.alloc (.map #[] 0)) ⟨ByteArray.empty, -1, Ag.zero⟩; rw [World.size_alloc] at this; exact this)
        have htl : s.told.length ≤ 6400 := by omega
        clear hk1 hk2 hP hlt hj
        go_wp2_with (fail)
        refine (topen_any HP2.out.ln (by have := HP2.out.I.ok.N; omega)).mono ?_
        rintro e w2 ⟨A4, c4, rfl, hE, hB⟩
        have hkb := Keep.of_below hB []
        have HP3 := Lib.hid (HP2.out.keep hkb)
        have HM3 := Lib.hid (HM2.out.of_block (hkb.block _ HM2.out.lt (by simp)))
        have HO3 := Lib.hid (HO2.out.keep hkb)
        have HE3 := Lib.hid hE
        obtain ⟨sb, hsb⟩ : ∃ n, wr.heap.size = n := ⟨_, rfl⟩
        have HSB := Lib.hid (show bs ≤ sb ∧ sb + 1 < w2.heap.size from by have h1 := HPN.out.Z; have h2 := hB.size; simp at h2; omega)
        rw [hsb] at HM3 HO3
        obtain ⟨no, hno⟩ : ∃ n, s.L.length = n := ⟨_, rfl⟩
        have HNO := Lib.hid hno
        have hn32 : no ≤ 32 := by rw [← hno]; exact HPN.out.I.ok.N
        clear hE hB hkb HP2 HM2 HO2 hmm
        rw [hno]
        have hTX : ∀ g, (Value.slice at_ s.told.length ct).ownBlock = some g → g ≠ sb + 1 := fun g hg => by have := own_lt HPN.out.T g hg; rw [hsb] at this; omega
        have HTX := Lib.hid hTX
        clear hTX
        go_wp2_with (at_builtin; refine wpList_append_ots rfl _ _ rfl bs _ s.told s.L rfl HP3.out.T A4 no c4 rfl HNO.out HE3.out.row (by omega) HP3.out.Z ?_)
        intro v' w5 hT5 kw hat
        have hX5 : ∀ g, v'.ownBlock = some g → g ≠ sb + 1 := fun g hg => by
          rcases hat with h | h
          · exact HTX.out g (h ▸ hg)
          · rw [h] at hg
            have := HSB.out
            simp at hg
            omega
        obtain ⟨A, hA⟩ : ∃ A, s.told ++ s.L = A := ⟨_, rfl⟩
        have HAE := Lib.hid hA
        rw [hA] at hT5
        have hF := HPN.out.F
        have hob : ∀ y, y < bs → y ∉ (Value.slice at_ s.told.length ct).ownBlock.toList := fun y hy hm => by have := own_base HP3.out.T y (by simpa using hm); omega
        have hsbo : sb ∉ (Value.slice at_ s.told.length ct).ownBlock.toList := fun hm => by
          obtain ⟨o, h1, h2⟩ := sb_obj HM3.out
          exact own_ne_it HP3.out.T h1 h2 sb (by simpa using hm) rfl
        have hS5 : SeI w q p b bm bs sb s.mr s.L A v' mv (seenM A 0) (lastW (s.told.take 0)) w5 := by
          have hSB := HSB.out
          refine ⟨HP3.out.ln.keep kw (hob _ hF.1) (hob _ hF.2.1) (hob _ hF.2.2.1), hT5, HP3.out.V.keep kw (hob _ hF.2.2.2.1) (fun q hq g hg hm => row_ne (HP3.out.V.R q hq) HP3.out.T (by decide) g hg (by simpa using hm)), ?_, ?_, HP3.out.B.trans (kw.below HP3.out.B.size (fun y hy => by have := own_base HP3.out.T y (by simpa using hy); omega)), hX5, by omega⟩
          · rw [seen_zero]
            exact HM3.out.of_block (kw.block _ HM3.out.lt hsbo)
          · have := HO3.out.keep kw (fun hm => HTX.out (sb + 1) (by simpa using hm) rfl)
            simpa [lastW] using this
        have HS5 := Lib.hid hS5
        obtain ⟨av, cv, rfl, _⟩ := own_shape hT5
        have hAn : A.length ≤ 6432 := by rw [← hA, List.length_append, hno]; omega
        have HND : Hid ((A.map wdOf).Nodup) := Lib.hid (by rw [← hA]; exact HPN.out.I.nodup)
        have HUP := Lib.hid HPN.out.I
        have HEV := Lib.hid HPN.out.E
        clear hat hX5 hA hT5 hF hob hsbo hS5 kw hsb hno HP3 HM3 HO3 HE3 HTX
        go_wp2_with (fail)
        go_loopw [14] (fun i wr => ∃ j : Nat, i = .int .i64 j ∧ j ≤ A.length ∧ SeI w q p b bm bs sb s.mr s.L A (.slice av A.length cv) mv (seenM A j) (lastW (s.told.take j)) wr) (fun i _ => A.length - (intOf i).toNat)
        case atStart => exact ⟨0, rfl, Nat.zero_le _, HS5.out⟩
        case round =>
          clear HS5
          obtain ⟨j, rfl, hj, hS⟩ := hrel
          have HS := Lib.hid hS
          have h0j : (0 : Int) ≤ (j : Int) := Int.natCast_nonneg j
          by_cases hlt : j < A.length
          · obtain ⟨x, hx⟩ : ∃ x, A[j]? = some x := ⟨A[j], List.getElem?_eq_getElem hlt⟩
            obtain ⟨ga, off, rfl, hga, hat⟩ := (DocRow.rw hS.T) (by intro e; rw [e] at hlt; simp at hlt)
            have hx0 := hat j x hx
            have hjn : (j : Int) < (A.length : Int) := by omega
            have HXA := Lib.hid hx
            have HG := Lib.hid hga
            have HSX : Hid (∀ g' o', (some ⟨ga, off, none⟩ : Option Addr) = some ⟨g', o', none⟩ → g' ≠ sb + 1) := Lib.hid (fun g' o' e => by cases e; exact hS.X _ rfl)
            have hmem := List.mem_of_getElem? hx
            have hmem2 : x ∈ s.told ∨ x ∈ s.L := List.mem_append.1 (by rw [HAE.out]; exact hmem)
            obtain ⟨⟨uv, vs⟩, hlk, hvn, hag⟩ := vals_ne HEV.out (HUP.out.has x hmem2)
            have hmv := look_mem hlk
            have hrow := hS.V.R _ hmv
            simp only at hrow
            obtain ⟨ao, co, rfl, _⟩ := own_shape hrow
            have hvl : vs.length ≤ 300 := by
              have h1 := HVB.out (wdOf x)
              rw [hlk] at h1
              have h2 : vs.length ≤ l.length := h1
              omega
            have hl1 := fun (W : World) (h : MapIs ekO (Value.int .i64) W sb (seenM A j)) => (run_lookup (P := Try.prog) Try.underlying56 keyLaw_ekO (z := .int .i64 0) (fun W => by kernel_rfl) h (wdOf x)).2
            have hl2 := fun (W : World) (h : MapIs ekO Prod.fst W bm mv) => (run_lookup (P := Try.prog) Try.underlying50 keyLaw_ekO zeroIs h (wdOf x)).2
            have hof := fun (W : World) (h : IntsRow W ao vs) => aof_any co h (by omega)
            rw [← hag] at hof
            rw [seen_look HND.out hx] at hl1
            rw [hlk] at hl2
            obtain ⟨xk, xs, ⟨x1, x2, x3, x4, x5, x6, x7, x8⟩⟩ := x
            unfold wdOf ekO lookV at hl1 hl2
            simp only [Ag.val] at hl1 hl2 hof
            have hvn0 : ((vs.length : Int) == 0) = false := by
              have : vs.length ≠ 0 := fun e => hvn (List.length_eq_zero_iff.1 e)
              simp; omega
            have hne := neq_ag ⟨x1, x2, x3, x4, x5, x6, x7, x8⟩ ⟨x1, x2, x3, x4, x5, x6, x7, x8⟩
            rw [decide_eq_true rfl] at hne
            simp only [Ag.val, Bool.not_true] at hne
            have HGD := Lib.hid (guard_ag .neq)
            have HNEQ := Lib.hid hne
            have HX := Lib.hid hx0
            have HL1 := Lib.hid hl1
            have HL2 := Lib.hid hl2
            have HOF := Lib.hid hof
            have HMV := Lib.hid hmv
            clear hat hx hx0 hga hmem hag hrow hlk hl1 hl2 hof hmv hne hvn hS
            by_cases hjt : j < s.told.length
            · have hxt : s.told[j]? = some ⟨xk, xs, ⟨x1, x2, x3, x4, x5, x6, x7, x8⟩⟩ := by
                have := HXA.out
                rw [← HAE.out, List.getElem?_append_left hjt] at this
                exact this
              have hov := HUP.out.ov _ (List.mem_of_getElem? hxt)
              have hgt := last_lt HUP.out.up hxt (by unfold overB at hov; rw [decide_eq_true_eq] at hov; exact hov.1)
              have HLN := Lib.hid (last_next hxt)
              have hovc := fun W => over_any xs s.mr W
              simp only at hov
              rw [hov] at hovc
              have HOV := Lib.hid hovc
              obtain ⟨lk, ls, hlo⟩ := last_form (s.told.take j)
              rw [hlo] at HS hgt
              unfold ltO at hgt
              simp only at hgt
              clear hxt hov hovc hlo hmem2
              have hjti : (j : Int) < (s.told.length : Int) := by omega
              go_wp2_with (fail)
              refine wp_region_soup 12 [] (spOf [(11, Spec.fresh wr.heap.size (.cells #[.string ByteArray.empty, .int .i64 0, .int .i64 0, .int .i64 0, .int .i64 0, .int .i64 0, .int .i64 0, .int .i64 0, .int .i64 0, .int .i64 0] 33))]) (by kernel_rfl) (by kernel_rfl) (spOk_of (by simp [Spec.is_ok, Spec.fresh_ok])) (pre_of (by simp [Spec.is_ok, Spec.fresh_ok])) ?_
              simp only [List.take_succ_cons, List.take_zero, List.drop_succ_cons, List.drop_zero]
              with_reducible refine soup_q ?_ ?_ ?_
              · rfl
              · rfl
              with_reducible apply Exists.intro
              with_reducible refine ⟨fun W hk _ => ?_, ?_⟩
              · unfold Oper.same
                go_simp
                first | rfl | exact ⟨rfl, rfl⟩
              with_reducible apply Exists.intro
              with_reducible refine ⟨?_, ?_⟩
              · go_simp
                rfl
              with_reducible refine soup_q ?_ ?_ ?_
              · rfl
              · rfl
              with_reducible apply Exists.intro
              with_reducible refine ⟨fun W hk _ => ?_, ?_⟩
              · unfold Oper.same
                go_simp
                first | rfl | exact ⟨rfl, rfl⟩
              with_reducible apply Exists.intro
              with_reducible refine ⟨?_, ?_⟩
              · go_simp
                rfl
              with_reducible refine soup_q ?_ ?_ ?_
              · rfl
              · rfl
              with_reducible apply Exists.intro
              with_reducible refine ⟨fun W hk _ => ?_, ?_⟩
              · unfold Oper.same
                go_simp
                first | rfl | exact ⟨rfl, rfl⟩
              with_reducible apply Exists.intro
              with_reducible refine ⟨?_, ?_⟩
              · go_simp
                rfl
              with_reducible refine soup_q ?_ ?_ ?_
              · rfl
              · rfl
              with_reducible apply Exists.intro
              with_reducible refine ⟨fun W hk _ => ?_, ?_⟩
              · unfold Oper.same
                go_simp
                first | rfl | exact ⟨rfl, rfl⟩
              with_reducible apply Exists.intro
              with_reducible refine ⟨?_, ?_⟩
              · go_simp
                rfl
              with_reducible refine soup_q ?_ ?_ ?_
              · rfl
              · rfl
              with_reducible apply Exists.intro
              with_reducible refine ⟨fun W hk _ => ?_, ?_⟩
              · obtain ⟨d0, d1, d2, d3, d4, d5, d6, d7, d8, d9⟩ := HX.out.keep hk HG.out (by simp)
                simp only at d0 d1 d2 d3 d4 d5 d6 d7 d8 d9
                unfold Oper.same
                go_simp
                first | rfl | exact ⟨rfl, rfl⟩
              with_reducible apply Exists.intro
              with_reducible refine ⟨?_, ?_⟩
              · go_simp
                rfl
              with_reducible refine soup_q ?_ ?_ ?_
              · rfl
              · rfl
              with_reducible apply Exists.intro
              with_reducible refine ⟨fun W hk _ => ?_, ?_⟩
              · unfold Oper.same
                go_simp
                first | rfl | exact ⟨rfl, rfl⟩
              with_reducible apply Exists.intro
              with_reducible refine ⟨?_, ?_⟩
              · go_simp
                rfl
              with_reducible refine soup_q ?_ ?_ ?_
              · rfl
              · rfl
              with_reducible apply Exists.intro
              with_reducible refine ⟨fun W hk _ => ?_, ?_⟩
              · unfold Oper.same
                go_simp
                first | rfl | exact ⟨rfl, rfl⟩
              with_reducible apply Exists.intro
              with_reducible refine ⟨?_, ?_⟩
              · go_simp
                rfl
              with_reducible refine soup_q ?_ ?_ ?_
              · rfl
              · rfl
              with_reducible apply Exists.intro
              with_reducible refine ⟨fun W hk _ => ?_, ?_⟩
              · unfold Oper.same
                go_simp
                first | rfl | exact ⟨rfl, rfl⟩
              with_reducible apply Exists.intro
              with_reducible refine ⟨?_, ?_⟩
              · go_simp
                rfl
              with_reducible refine soup_q ?_ ?_ ?_
              · rfl
              · rfl
              with_reducible apply Exists.intro
              with_reducible refine ⟨fun W hk _ => ?_, ?_⟩
              · unfold Oper.same
                go_simp
                first | rfl | exact ⟨rfl, rfl⟩
              with_reducible apply Exists.intro
              with_reducible refine ⟨?_, ?_⟩
              · go_simp
                rfl
              with_reducible refine soup_q ?_ ?_ ?_
              · rfl
              · rfl
              with_reducible apply Exists.intro
              with_reducible refine ⟨fun W hk _ => ?_, ?_⟩
              · obtain ⟨d0, d1, d2, d3, d4, d5, d6, d7, d8, d9⟩ := HX.out.keep hk HG.out (by simp)
                simp only at d0 d1 d2 d3 d4 d5 d6 d7 d8 d9
                unfold Oper.same
                go_simp
                first | rfl | exact ⟨rfl, rfl⟩
              with_reducible apply Exists.intro
              with_reducible refine ⟨?_, ?_⟩
              · go_simp
                rfl
              with_reducible refine soup_q ?_ ?_ ?_
              · rfl
              · rfl
              with_reducible apply Exists.intro
              with_reducible refine ⟨fun W hk _ => ?_, ?_⟩
              · unfold Oper.same
                go_simp
                first | rfl | exact ⟨rfl, rfl⟩
              with_reducible apply Exists.intro
              with_reducible refine ⟨?_, ?_⟩
              · go_simp
                rfl
              refine soup_s rfl rfl rfl (fun W hk _ _ => ?_) ?_
              · unfold Oper.does
                go_simp
                exact ⟨(Keep.refl _ _).alloc _, hk.alloc _, ⟨_, rfl, hk.size⟩, _, rfl, hk.size, World.alloc_heap_new W _⟩
              rintro v ⟨g, rfl, hg⟩
              with_reducible apply Exists.intro
              with_reducible refine ⟨?_, ?_⟩
              · go_simp
                rfl
              refine soup_nil (fun W5 hk hS => ?_)
              have hgo : OtAt W5 g ⟨ByteArray.empty, 0, Ag.zero⟩ := by
                obtain ⟨g', e1, _, e3⟩ := hS 11
                obtain rfl : g = g' := by simpa using e1
                exact e3
              have hgn : wr.heap.size ≤ g := hg
              have ks := setO_keep W5 g ⟨xk, xs, Ag.zero⟩
              have hx6 := setO_at hgo ⟨xk, xs, Ag.zero⟩
              obtain ⟨a0, a1, a2, a3, a4, a5, a6, a7, a8, a9, af⟩ := hgo.all
              simp only [Ag.zero] at a0 a1 a2 a3 a4 a5 a6 a7 a8 a9
              unfold setO at ks hx6
              simp only [Ag.zero] at ks
              obtain ⟨w6, hw6⟩ : ∃ W, ((((((((((W5.setCell ⟨g, 0, none⟩ (.string xk)).setCell ⟨g, 1, none⟩ (.int .i64 xs)).setCell ⟨g, 2, none⟩ (.int .i64 0)).setCell ⟨g, 3, none⟩ (.int .i64 0)).setCell ⟨g, 4, none⟩ (.int .i64 0)).setCell ⟨g, 5, none⟩ (.int .i64 0)).setCell ⟨g, 6, none⟩ (.int .i64 0)).setCell ⟨g, 7, none⟩ (.int .i64 0)).setCell ⟨g, 8, none⟩ (.int .i64 0)).setCell ⟨g, 9, none⟩ (.int .i64 0)) = W := ⟨_, rfl⟩
              rw [hw6] at ks
              have hx6' : OtAt w6 g ⟨xk, xs, Ag.zero⟩ := hw6 ▸ hx6
              have k6 : Keep [] wr w6 := hk.step ks (fun y hy => .inr (by simp at hy; omega))
              have HS6 := Lib.hid (HS.out.keep k6)
              have HGO := Lib.hid hx6'
              have HX6 := Lib.hid (HX.out.keep k6 HG.out (by simp))
              have HG6 := Lib.hid (Nat.lt_of_lt_of_le HG.out k6.size)
              have HGN := Lib.hid (show g ≠ sb + 1 from by have := lt_of_heap HS.out.O; omega)
              clear hk hS ks hx6 hx6' k6 hgo HS HX HG hg hgn
              have HS := HS6
              have HX := HX6
              have HG := HG6
              clear HS6 HX6 HG6
              rcases hgt with hlt2 | ⟨he2, hb2⟩
              · have g1 : decide (xs < ls) = false := by simp; omega
                have g2 : (xs == ls) = false := by simp; omega
                clear hlt2
                go_wp2_with (fail)
                clear a0 a1 a2 a3 a4 a5 a6 a7 a8 a9 af hw6
                refine wp_region_soup 24 [] (spOf [(23, Spec.is (.int .i64 s.mr))]) (by kernel_rfl) (by kernel_rfl) (spOk_of (by simp [Spec.is_ok])) (pre_of (by simp [Spec.is_ok])) ?_
                simp only [List.take_succ_cons, List.take_zero, List.drop_succ_cons, List.drop_zero]
                with_reducible refine soup_q ?_ ?_ ?_
                · rfl
                · rfl
                with_reducible apply Exists.intro
                with_reducible refine ⟨fun W hk _ => ?_, ?_⟩
                · unfold Oper.same
                  go_simp
                  first | rfl | exact ⟨rfl, rfl⟩
                with_reducible apply Exists.intro
                with_reducible refine ⟨?_, ?_⟩
                · go_simp
                  rfl
                with_reducible refine soup_q ?_ ?_ ?_
                · rfl
                · rfl
                with_reducible apply Exists.intro
                with_reducible refine ⟨fun W hk _ => ?_, ?_⟩
                · obtain ⟨f0, f1, f2, f3, f4, f5, f6, f7, f8, f9, ff⟩ := (HGO.out.keep hk).all
                  simp only [Ag.zero] at f0 f1 f2 f3 f4 f5 f6 f7 f8 f9
                  unfold Oper.same
                  go_simp
                  first | rfl | exact ⟨rfl, rfl⟩
                with_reducible apply Exists.intro
                with_reducible refine ⟨?_, ?_⟩
                · go_simp
                  rfl
                with_reducible refine soup_q ?_ ?_ ?_
                · rfl
                · rfl
                with_reducible apply Exists.intro
                with_reducible refine ⟨fun W hk _ => ?_, ?_⟩
                · unfold Oper.same
                  go_simp
                  first | rfl | exact ⟨rfl, rfl⟩
                with_reducible apply Exists.intro
                with_reducible refine ⟨?_, ?_⟩
                · go_simp
                  rfl
                with_reducible refine soup_q ?_ ?_ ?_
                · rfl
                · rfl
                with_reducible apply Exists.intro
                with_reducible refine ⟨fun W hk _ => ?_, ?_⟩
                · obtain ⟨y0, y1, y2, y3, y4, y5, y6, y7, y8, y9, yf⟩ := (HS.out.keep hk).O.all
                  simp only [Ag.zero] at y0 y1 y2 y3 y4 y5 y6 y7 y8 y9
                  unfold Oper.same
                  go_simp
                  first | rfl | exact ⟨rfl, rfl⟩
                with_reducible apply Exists.intro
                with_reducible refine ⟨?_, ?_⟩
                · go_simp
                  rfl
                with_reducible refine soup_q ?_ ?_ ?_
                · rfl
                · rfl
                with_reducible apply Exists.intro
                with_reducible refine ⟨fun W hk _ => ?_, ?_⟩
                · unfold Oper.same
                  go_simp
                  first | rfl | exact ⟨rfl, rfl⟩
                with_reducible apply Exists.intro
                with_reducible refine ⟨?_, ?_⟩
                · go_simp
                  rfl
                with_reducible refine soup_q ?_ ?_ ?_
                · rfl
                · rfl
                with_reducible apply Exists.intro
                with_reducible refine ⟨fun W hk _ => ?_, ?_⟩
                · unfold Oper.same
                  go_simp
                  first | rfl | exact ⟨rfl, rfl⟩
                with_reducible apply Exists.intro
                with_reducible refine ⟨?_, ?_⟩
                · go_simp
                  rfl
                with_reducible refine soup_q ?_ ?_ ?_
                · rfl
                · rfl
                with_reducible apply Exists.intro
                with_reducible refine ⟨fun W hk _ => ?_, ?_⟩
                · unfold Oper.same
                  go_simp
                  first | rfl | exact ⟨rfl, rfl⟩
                with_reducible apply Exists.intro
                with_reducible refine ⟨?_, ?_⟩
                · go_simp
                  rfl
                with_reducible refine soup_q ?_ ?_ ?_
                · rfl
                · rfl
                with_reducible apply Exists.intro
                with_reducible refine ⟨fun W hk _ => ?_, ?_⟩
                · obtain ⟨f0, f1, f2, f3, f4, f5, f6, f7, f8, f9, ff⟩ := (HGO.out.keep hk).all
                  simp only [Ag.zero] at f0 f1 f2 f3 f4 f5 f6 f7 f8 f9
                  unfold Oper.same
                  go_simp
                  first | rfl | exact ⟨rfl, rfl⟩
                with_reducible apply Exists.intro
                with_reducible refine ⟨?_, ?_⟩
                · go_simp
                  rfl
                with_reducible refine soup_q ?_ ?_ ?_
                · rfl
                · rfl
                with_reducible apply Exists.intro
                with_reducible refine ⟨fun W hk _ => ?_, ?_⟩
                · unfold Oper.same
                  go_simp
                  first | rfl | exact ⟨rfl, rfl⟩
                with_reducible apply Exists.intro
                with_reducible refine ⟨?_, ?_⟩
                · go_simp
                  rfl
                with_reducible refine soup_q ?_ ?_ ?_
                · rfl
                · rfl
                with_reducible apply Exists.intro
                with_reducible refine ⟨fun W hk _ => ?_, ?_⟩
                · obtain ⟨y0, y1, y2, y3, y4, y5, y6, y7, y8, y9, yf⟩ := (HS.out.keep hk).O.all
                  simp only [Ag.zero] at y0 y1 y2 y3 y4 y5 y6 y7 y8 y9
                  unfold Oper.same
                  go_simp
                  first | rfl | exact ⟨rfl, rfl⟩
                with_reducible apply Exists.intro
                with_reducible refine ⟨?_, ?_⟩
                · go_simp
                  rfl
                with_reducible refine soup_q ?_ ?_ ?_
                · rfl
                · rfl
                with_reducible apply Exists.intro
                with_reducible refine ⟨fun W hk _ => ?_, ?_⟩
                · unfold Oper.same
                  go_simp
                  first | rfl | exact ⟨rfl, rfl⟩
                with_reducible apply Exists.intro
                with_reducible refine ⟨?_, ?_⟩
                · go_simp
                  rfl
                with_reducible refine soup_q ?_ ?_ ?_
                · rfl
                · rfl
                with_reducible apply Exists.intro
                with_reducible refine ⟨fun W hk _ => ?_, ?_⟩
                · unfold Oper.same
                  go_simp
                  first | rfl | exact ⟨rfl, rfl⟩
                with_reducible apply Exists.intro
                with_reducible refine ⟨?_, ?_⟩
                · go_simp
                  rfl
                iterate 5
                  with_reducible refine soup_no ?_ ?_
                  · rfl
                  with_reducible apply Exists.intro
                  with_reducible refine ⟨?_, ?_⟩
                  · go_simp
                    rfl
                with_reducible refine soup_q ?_ ?_ ?_
                · rfl
                · rfl
                with_reducible apply Exists.intro
                with_reducible refine ⟨fun W hk _ => ?_, ?_⟩
                · unfold Oper.same
                  go_simp
                  first | rfl | exact ⟨rfl, rfl⟩
                with_reducible apply Exists.intro
                with_reducible refine ⟨?_, ?_⟩
                · go_simp
                  rfl
                with_reducible refine soup_q ?_ ?_ ?_
                · rfl
                · rfl
                with_reducible apply Exists.intro
                with_reducible refine ⟨fun W hk _ => ?_, ?_⟩
                · unfold Oper.same
                  go_simp
                  first | rfl | exact ⟨rfl, rfl⟩
                with_reducible apply Exists.intro
                with_reducible refine ⟨?_, ?_⟩
                · go_simp
                  rfl
                with_reducible refine soup_q ?_ ?_ ?_
                · rfl
                · rfl
                with_reducible apply Exists.intro
                with_reducible refine ⟨fun W hk _ => ?_, ?_⟩
                · unfold Oper.same
                  go_simp
                  first | rfl | exact ⟨rfl, rfl⟩
                with_reducible apply Exists.intro
                with_reducible refine ⟨?_, ?_⟩
                · go_simp
                  rfl
                with_reducible refine soup_q ?_ ?_ ?_
                · rfl
                · rfl
                with_reducible apply Exists.intro
                with_reducible refine ⟨fun W hk _ => ?_, ?_⟩
                · unfold Oper.same
                  go_simp
                  first | rfl | exact ⟨rfl, rfl⟩
                with_reducible apply Exists.intro
                with_reducible refine ⟨?_, ?_⟩
                · go_simp
                  rfl
                with_reducible refine soup_q ?_ ?_ ?_
                · rfl
                · rfl
                with_reducible apply Exists.intro
                with_reducible refine ⟨fun W hk _ => ?_, ?_⟩
                · obtain ⟨f0, f1, f2, f3, f4, f5, f6, f7, f8, f9, ff⟩ := (HGO.out.keep hk).all
                  simp only [Ag.zero] at f0 f1 f2 f3 f4 f5 f6 f7 f8 f9
                  unfold Oper.same
                  go_simp
                  first | rfl | exact ⟨rfl, rfl⟩
                with_reducible apply Exists.intro
                with_reducible refine ⟨?_, ?_⟩
                · go_simp
                  rfl
                with_reducible refine soup_q ?_ ?_ ?_
                · rfl
                · rfl
                with_reducible apply Exists.intro
                with_reducible refine ⟨fun W hk _ => ?_, ?_⟩
                · unfold Oper.same
                  go_simp
                  first | rfl | exact ⟨rfl, rfl⟩
                with_reducible apply Exists.intro
                with_reducible refine ⟨?_, ?_⟩
                · go_simp
                  rfl
                refine soup_s rfl rfl rfl (fun W hk _ _ => ?_) ?_
                · unfold Oper.does
                  go_simp
                  refine (tat_any (HS.out.keep hk).ln).mono ?_
                  rintro e w' ⟨rfl, rfl⟩
                  exact ⟨_, rfl, Keep.refl _ _, hk, rfl, trivial⟩
                intro v hv
                obtain rfl : v = _ := hv
                with_reducible apply Exists.intro
                with_reducible refine ⟨?_, ?_⟩
                · go_simp
                  rfl
                refine soup_nil (fun W7 hk hS => ?_)
                have HS7 := Lib.hid (HS.out.keep hk)
                have HX7 := Lib.hid (HX.out.keep hk HG.out (by simp))
                have HG7 := Lib.hid (Nat.lt_of_lt_of_le HG.out hk.size)
                have HGO7 := Lib.hid (HGO.out.keep hk)
                clear hk hS HS HX HG HGO
                have HS := HS7
                have HX := HX7
                have HG := HG7
                have HGO := HGO7
                clear HS7 HX7 HG7 HGO7
                go_wp2_with (fail)
                refine (HOV.out _).mono ?_
                rintro e w7 ⟨rfl, rfl⟩
                have hO := HS.out.O
                have ks := setO_keep W7 (sb + 1) ⟨xk, xs, Ag.zero⟩
                have hx8 := setO_at hO ⟨xk, xs, Ag.zero⟩
                obtain ⟨f0, f1, f2, f3, f4, f5, f6, f7, f8, f9, ff⟩ := HGO.out.all
                simp only [Ag.zero] at f0 f1 f2 f3 f4 f5 f6 f7 f8 f9
                obtain ⟨y0, y1, y2, y3, y4, y5, y6, y7, y8, y9, yf⟩ := HS.out.O.all
                simp only [Ag.zero] at y0 y1 y2 y3 y4 y5 y6 y7 y8 y9
                unfold setO at ks hx8
                simp only [Ag.zero] at ks
                obtain ⟨w8, hw8⟩ : ∃ W, ((((((((((W7.setCell ⟨sb + 1, 0, none⟩ (.string xk)).setCell ⟨sb + 1, 1, none⟩ (.int .i64 xs)).setCell ⟨sb + 1, 2, none⟩ (.int .i64 0)).setCell ⟨sb + 1, 3, none⟩ (.int .i64 0)).setCell ⟨sb + 1, 4, none⟩ (.int .i64 0)).setCell ⟨sb + 1, 5, none⟩ (.int .i64 0)).setCell ⟨sb + 1, 6, none⟩ (.int .i64 0)).setCell ⟨sb + 1, 7, none⟩ (.int .i64 0)).setCell ⟨sb + 1, 8, none⟩ (.int .i64 0)).setCell ⟨sb + 1, 9, none⟩ (.int .i64 0)) = W := ⟨_, rfl⟩
                rw [hw8] at ks
                have hx8' : OtAt w8 (sb + 1) ⟨xk, xs, Ag.zero⟩ := hw8 ▸ hx8
                have HS8 := Lib.hid (HS.out.last ks hx8')
                have HGO8 := Lib.hid (HGO.out.keep ks (by have := HGN.out; simpa using this))
                have HX8 := Lib.hid (HX.out.keep ks HG.out (by have := HSX.out ga off rfl; simpa using this))
                have HG8 := Lib.hid (Nat.lt_of_lt_of_le HG.out ks.size)
                clear ks hx8 hx8' hO HS HX HG HGO
                have HS := HS8
                have HX := HX8
                have HG := HG8
                have HGO := HGO8
                clear HS8 HX8 HG8 HGO8
                go_wp2_with (fail)
                clear f0 f1 f2 f3 f4 f5 f6 f7 f8 f9 ff y0 y1 y2 y3 y4 y5 y6 y7 y8 y9 yf hw8
                refine wp_region_soup 23 [] (spOf [(13, Spec.is (.agg #[.int .i64 x1, .int .i64 x2, .int .i64 x3, .int .i64 x4, .int .i64 x5, .int .i64 x6, .int .i64 x7, .int .i64 x8]))]) (by kernel_rfl) (by kernel_rfl) (spOk_of (by simp [Spec.is_ok])) (pre_of (by simp [Spec.is_ok])) ?_
                simp only [List.take_succ_cons, List.take_zero, List.drop_succ_cons, List.drop_zero]
                with_reducible refine soup_q ?_ ?_ ?_
                · rfl
                · rfl
                with_reducible apply Exists.intro
                with_reducible refine ⟨fun W hk _ => ?_, ?_⟩
                · unfold Oper.same
                  go_simp
                  first | rfl | exact ⟨rfl, rfl⟩
                with_reducible apply Exists.intro
                with_reducible refine ⟨?_, ?_⟩
                · go_simp
                  rfl
                with_reducible refine soup_q ?_ ?_ ?_
                · rfl
                · rfl
                with_reducible apply Exists.intro
                with_reducible refine ⟨fun W hk _ => ?_, ?_⟩
                · obtain ⟨f0, f1, f2, f3, f4, f5, f6, f7, f8, f9, ff⟩ := (HGO.out.keep hk).all
                  simp only [Ag.zero] at f0 f1 f2 f3 f4 f5 f6 f7 f8 f9
                  unfold Oper.same
                  go_simp
                  first | rfl | exact ⟨rfl, rfl⟩
                with_reducible apply Exists.intro
                with_reducible refine ⟨?_, ?_⟩
                · go_simp
                  rfl
                with_reducible refine soup_q ?_ ?_ ?_
                · rfl
                · rfl
                with_reducible apply Exists.intro
                with_reducible refine ⟨fun W hk _ => ?_, ?_⟩
                · have l1 := HL1.out W (HS.out.keep hk).S
                  unfold Oper.same
                  go_simp
                  first | rfl | exact ⟨rfl, rfl⟩
                with_reducible apply Exists.intro
                with_reducible refine ⟨?_, ?_⟩
                · go_simp
                  rfl
                with_reducible refine soup_q ?_ ?_ ?_
                · rfl
                · rfl
                with_reducible apply Exists.intro
                with_reducible refine ⟨fun W hk _ => ?_, ?_⟩
                · unfold Oper.same
                  go_simp
                  first | rfl | exact ⟨rfl, rfl⟩
                with_reducible apply Exists.intro
                with_reducible refine ⟨?_, ?_⟩
                · go_simp
                  rfl
                with_reducible refine soup_q ?_ ?_ ?_
                · rfl
                · rfl
                with_reducible apply Exists.intro
                with_reducible refine ⟨fun W hk _ => ?_, ?_⟩
                · unfold Oper.same
                  go_simp
                  first | rfl | exact ⟨rfl, rfl⟩
                with_reducible apply Exists.intro
                with_reducible refine ⟨?_, ?_⟩
                · go_simp
                  rfl
                with_reducible refine soup_q ?_ ?_ ?_
                · rfl
                · rfl
                with_reducible apply Exists.intro
                with_reducible refine ⟨fun W hk _ => ?_, ?_⟩
                · unfold Oper.same
                  go_simp
                  first | rfl | exact ⟨rfl, rfl⟩
                with_reducible apply Exists.intro
                with_reducible refine ⟨?_, ?_⟩
                · go_simp
                  rfl
                with_reducible refine soup_q ?_ ?_ ?_
                · rfl
                · rfl
                with_reducible apply Exists.intro
                with_reducible refine ⟨fun W hk _ => ?_, ?_⟩
                · unfold Oper.same
                  go_simp
                  first | rfl | exact ⟨rfl, rfl⟩
                with_reducible apply Exists.intro
                with_reducible refine ⟨?_, ?_⟩
                · go_simp
                  rfl
                with_reducible refine soup_q ?_ ?_ ?_
                · rfl
                · rfl
                with_reducible apply Exists.intro
                with_reducible refine ⟨fun W hk _ => ?_, ?_⟩
                · unfold Oper.same
                  go_simp
                  first | rfl | exact ⟨rfl, rfl⟩
                with_reducible apply Exists.intro
                with_reducible refine ⟨?_, ?_⟩
                · go_simp
                  rfl
                with_reducible refine soup_q ?_ ?_ ?_
                · rfl
                · rfl
                with_reducible apply Exists.intro
                with_reducible refine ⟨fun W hk _ => ?_, ?_⟩
                · unfold Oper.same
                  go_simp
                  first | rfl | exact ⟨rfl, rfl⟩
                with_reducible apply Exists.intro
                with_reducible refine ⟨?_, ?_⟩
                · go_simp
                  rfl
                with_reducible refine soup_q ?_ ?_ ?_
                · rfl
                · rfl
                with_reducible apply Exists.intro
                with_reducible refine ⟨fun W hk _ => ?_, ?_⟩
                · obtain ⟨d0, d1, d2, d3, d4, d5, d6, d7, d8, d9⟩ := HX.out.keep hk HG.out (by simp)
                  simp only at d0 d1 d2 d3 d4 d5 d6 d7 d8 d9
                  unfold Oper.same
                  go_simp
                  first | rfl | exact ⟨rfl, rfl⟩
                with_reducible apply Exists.intro
                with_reducible refine ⟨?_, ?_⟩
                · go_simp
                  rfl
                with_reducible refine soup_q ?_ ?_ ?_
                · rfl
                · rfl
                with_reducible apply Exists.intro
                with_reducible refine ⟨fun W hk _ => ?_, ?_⟩
                · unfold Oper.same
                  go_simp
                  first | rfl | exact ⟨rfl, rfl⟩
                with_reducible apply Exists.intro
                with_reducible refine ⟨?_, ?_⟩
                · go_simp
                  rfl
                with_reducible refine soup_q ?_ ?_ ?_
                · rfl
                · rfl
                with_reducible apply Exists.intro
                with_reducible refine ⟨fun W hk _ => ?_, ?_⟩
                · obtain ⟨f0, f1, f2, f3, f4, f5, f6, f7, f8, f9, ff⟩ := (HGO.out.keep hk).all
                  simp only [Ag.zero] at f0 f1 f2 f3 f4 f5 f6 f7 f8 f9
                  unfold Oper.same
                  go_simp
                  first | rfl | exact ⟨rfl, rfl⟩
                with_reducible apply Exists.intro
                with_reducible refine ⟨?_, ?_⟩
                · go_simp
                  rfl
                with_reducible refine soup_q ?_ ?_ ?_
                · rfl
                · rfl
                with_reducible apply Exists.intro
                with_reducible refine ⟨fun W hk _ => ?_, ?_⟩
                · have l2 := HL2.out W (HS.out.keep hk).V.M
                  unfold Oper.same
                  go_simp
                  first | rfl | exact ⟨rfl, rfl⟩
                with_reducible apply Exists.intro
                with_reducible refine ⟨?_, ?_⟩
                · go_simp
                  rfl
                refine soup_s rfl rfl rfl (fun W hk _ _ => ?_) ?_
                · unfold Oper.does
                  go_simp
                  refine (HOF.out _ (ints_row ((HS.out.keep hk).V.R _ HMV.out))).mono ?_
                  rintro e w' ⟨rfl, hb⟩
                  exact ⟨_, rfl, Keep.of_below hb _, hk.then_below hb, rfl, trivial⟩
                intro v hv
                obtain rfl : v = _ := hv
                with_reducible apply Exists.intro
                with_reducible refine ⟨?_, ?_⟩
                · go_simp
                  rfl
                with_reducible refine soup_q ?_ ?_ ?_
                · rfl
                · rfl
                with_reducible apply Exists.intro
                with_reducible refine ⟨fun W hk _ => ?_, ?_⟩
                · have hneq := HNEQ.out
                  have hgd := HGD.out
                  unfold Oper.same
                  go_simp
                  first | rfl | exact ⟨rfl, rfl⟩
                with_reducible apply Exists.intro
                with_reducible refine ⟨?_, ?_⟩
                · go_simp
                  rfl
                with_reducible refine soup_q ?_ ?_ ?_
                · rfl
                · rfl
                with_reducible apply Exists.intro
                with_reducible refine ⟨fun W hk _ => ?_, ?_⟩
                · unfold Oper.same
                  go_simp
                  first | rfl | exact ⟨rfl, rfl⟩
                with_reducible apply Exists.intro
                with_reducible refine ⟨?_, ?_⟩
                · go_simp
                  rfl
                with_reducible refine soup_q ?_ ?_ ?_
                · rfl
                · rfl
                with_reducible apply Exists.intro
                with_reducible refine ⟨fun W hk _ => ?_, ?_⟩
                · unfold Oper.same
                  go_simp
                  first | rfl | exact ⟨rfl, rfl⟩
                with_reducible apply Exists.intro
                with_reducible refine ⟨?_, ?_⟩
                · go_simp
                  rfl
                with_reducible refine soup_q ?_ ?_ ?_
                · rfl
                · rfl
                with_reducible apply Exists.intro
                with_reducible refine ⟨fun W hk _ => ?_, ?_⟩
                · unfold Oper.same
                  go_simp
                  first | rfl | exact ⟨rfl, rfl⟩
                with_reducible apply Exists.intro
                with_reducible refine ⟨?_, ?_⟩
                · go_simp
                  rfl
                with_reducible refine soup_q ?_ ?_ ?_
                · rfl
                · rfl
                with_reducible apply Exists.intro
                with_reducible refine ⟨fun W hk _ => ?_, ?_⟩
                · obtain ⟨f0, f1, f2, f3, f4, f5, f6, f7, f8, f9, ff⟩ := (HGO.out.keep hk).all
                  simp only [Ag.zero] at f0 f1 f2 f3 f4 f5 f6 f7 f8 f9
                  unfold Oper.same
                  go_simp
                  first | rfl | exact ⟨rfl, rfl⟩
                with_reducible apply Exists.intro
                with_reducible refine ⟨?_, ?_⟩
                · go_simp
                  rfl
                with_reducible refine soup_q ?_ ?_ ?_
                · rfl
                · rfl
                with_reducible apply Exists.intro
                with_reducible refine ⟨fun W hk _ => ?_, ?_⟩
                · have l2 := HL2.out W (HS.out.keep hk).V.M
                  unfold Oper.same
                  go_simp
                  first | rfl | exact ⟨rfl, rfl⟩
                with_reducible apply Exists.intro
                with_reducible refine ⟨?_, ?_⟩
                · go_simp
                  rfl
                with_reducible refine soup_q ?_ ?_ ?_
                · rfl
                · rfl
                with_reducible apply Exists.intro
                with_reducible refine ⟨fun W hk _ => ?_, ?_⟩
                · unfold Oper.same
                  go_simp
                  first | rfl | exact ⟨rfl, rfl⟩
                with_reducible apply Exists.intro
                with_reducible refine ⟨?_, ?_⟩
                · go_simp
                  rfl
                with_reducible refine soup_q ?_ ?_ ?_
                · rfl
                · rfl
                with_reducible apply Exists.intro
                with_reducible refine ⟨fun W hk _ => ?_, ?_⟩
                · unfold Oper.same
                  go_simp
                  first | rfl | exact ⟨rfl, rfl⟩
                with_reducible apply Exists.intro
                with_reducible refine ⟨?_, ?_⟩
                · go_simp
                  rfl
                with_reducible refine soup_q ?_ ?_ ?_
                · rfl
                · rfl
                with_reducible apply Exists.intro
                with_reducible refine ⟨fun W hk _ => ?_, ?_⟩
                · unfold Oper.same
                  go_simp
                  first | rfl | exact ⟨rfl, rfl⟩
                with_reducible apply Exists.intro
                with_reducible refine ⟨?_, ?_⟩
                · go_simp
                  rfl
                refine soup_nil (fun W9 hk hS => ?_)
                have HS7 := Lib.hid (HS.out.keep hk)
                have HX7 := Lib.hid (HX.out.keep hk HG.out (by simp))
                have HG7 := Lib.hid (Nat.lt_of_lt_of_le HG.out hk.size)
                have HGO7 := Lib.hid (HGO.out.keep hk)
                clear hk hS HS HX HG HGO
                have HS := HS7
                have HX := HX7
                have HG := HG7
                have HGO := HGO7
                clear HS7 HX7 HG7 HGO7
                obtain ⟨o, hrun, hmap⟩ := run_update (P := Try.prog) Try.underlying56 keyLaw_ekO HS.out.S (seen_nodup HND.out j) ⟨xs, xk⟩ (1 : Int)
                have hsp := seen_put HND.out HXA.out
                unfold wdOf at hsp
                simp only at hsp
                rw [hsp] at hmap
                have HSZ := Lib.hid (HS.out.seen ((Keep.refl _ _).setBlock sb o (.inl (by simp))) hmap)
                unfold ekO at hrun
                simp only at hrun
                clear hsp hmap
                obtain ⟨f0, f1, f2, f3, f4, f5, f6, f7, f8, f9, ff⟩ := HGO.out.all
                simp only [Ag.zero] at f0 f1 f2 f3 f4 f5 f6 f7 f8 f9
                go_wp2_with (fail)
                clear hrun f0 f1 f2 f3 f4 f5 f6 f7 f8 f9 ff
                go_roundw
                case rel => exact ⟨j + 1, by go_num, by omega, by rw [HLN.out]; exact HSZ.out⟩
                case measure => simp [intOf]; omega
              · have he3 := he2.symm
                clear he2
                subst he3
                have hleq := leq_str xk lk hb2
                have HLQ := Lib.hid hleq
                clear hb2 hleq
                go_wp2_with (fail)
                clear a0 a1 a2 a3 a4 a5 a6 a7 a8 a9 af hw6
                refine wp_region_soup 24 [] (spOf [(23, Spec.is (.int .i64 s.mr))]) (by kernel_rfl) (by kernel_rfl) (spOk_of (by simp [Spec.is_ok])) (pre_of (by simp [Spec.is_ok])) ?_
                simp only [List.take_succ_cons, List.take_zero, List.drop_succ_cons, List.drop_zero]
                with_reducible refine soup_q ?_ ?_ ?_
                · rfl
                · rfl
                with_reducible apply Exists.intro
                with_reducible refine ⟨fun W hk _ => ?_, ?_⟩
                · unfold Oper.same
                  go_simp
                  first | rfl | exact ⟨rfl, rfl⟩
                with_reducible apply Exists.intro
                with_reducible refine ⟨?_, ?_⟩
                · go_simp
                  rfl
                with_reducible refine soup_q ?_ ?_ ?_
                · rfl
                · rfl
                with_reducible apply Exists.intro
                with_reducible refine ⟨fun W hk _ => ?_, ?_⟩
                · obtain ⟨f0, f1, f2, f3, f4, f5, f6, f7, f8, f9, ff⟩ := (HGO.out.keep hk).all
                  simp only [Ag.zero] at f0 f1 f2 f3 f4 f5 f6 f7 f8 f9
                  unfold Oper.same
                  go_simp
                  first | rfl | exact ⟨rfl, rfl⟩
                with_reducible apply Exists.intro
                with_reducible refine ⟨?_, ?_⟩
                · go_simp
                  rfl
                with_reducible refine soup_q ?_ ?_ ?_
                · rfl
                · rfl
                with_reducible apply Exists.intro
                with_reducible refine ⟨fun W hk _ => ?_, ?_⟩
                · unfold Oper.same
                  go_simp
                  first | rfl | exact ⟨rfl, rfl⟩
                with_reducible apply Exists.intro
                with_reducible refine ⟨?_, ?_⟩
                · go_simp
                  rfl
                with_reducible refine soup_q ?_ ?_ ?_
                · rfl
                · rfl
                with_reducible apply Exists.intro
                with_reducible refine ⟨fun W hk _ => ?_, ?_⟩
                · obtain ⟨y0, y1, y2, y3, y4, y5, y6, y7, y8, y9, yf⟩ := (HS.out.keep hk).O.all
                  simp only [Ag.zero] at y0 y1 y2 y3 y4 y5 y6 y7 y8 y9
                  unfold Oper.same
                  go_simp
                  first | rfl | exact ⟨rfl, rfl⟩
                with_reducible apply Exists.intro
                with_reducible refine ⟨?_, ?_⟩
                · go_simp
                  rfl
                with_reducible refine soup_q ?_ ?_ ?_
                · rfl
                · rfl
                with_reducible apply Exists.intro
                with_reducible refine ⟨fun W hk _ => ?_, ?_⟩
                · unfold Oper.same
                  go_simp
                  first | rfl | exact ⟨rfl, rfl⟩
                with_reducible apply Exists.intro
                with_reducible refine ⟨?_, ?_⟩
                · go_simp
                  rfl
                with_reducible refine soup_q ?_ ?_ ?_
                · rfl
                · rfl
                with_reducible apply Exists.intro
                with_reducible refine ⟨fun W hk _ => ?_, ?_⟩
                · unfold Oper.same
                  go_simp
                  first | rfl | exact ⟨rfl, rfl⟩
                with_reducible apply Exists.intro
                with_reducible refine ⟨?_, ?_⟩
                · go_simp
                  rfl
                with_reducible refine soup_q ?_ ?_ ?_
                · rfl
                · rfl
                with_reducible apply Exists.intro
                with_reducible refine ⟨fun W hk _ => ?_, ?_⟩
                · unfold Oper.same
                  go_simp
                  first | rfl | exact ⟨rfl, rfl⟩
                with_reducible apply Exists.intro
                with_reducible refine ⟨?_, ?_⟩
                · go_simp
                  rfl
                with_reducible refine soup_q ?_ ?_ ?_
                · rfl
                · rfl
                with_reducible apply Exists.intro
                with_reducible refine ⟨fun W hk _ => ?_, ?_⟩
                · obtain ⟨f0, f1, f2, f3, f4, f5, f6, f7, f8, f9, ff⟩ := (HGO.out.keep hk).all
                  simp only [Ag.zero] at f0 f1 f2 f3 f4 f5 f6 f7 f8 f9
                  unfold Oper.same
                  go_simp
                  first | rfl | exact ⟨rfl, rfl⟩
                with_reducible apply Exists.intro
                with_reducible refine ⟨?_, ?_⟩
                · go_simp
                  rfl
                with_reducible refine soup_q ?_ ?_ ?_
                · rfl
                · rfl
                with_reducible apply Exists.intro
                with_reducible refine ⟨fun W hk _ => ?_, ?_⟩
                · unfold Oper.same
                  go_simp
                  first | rfl | exact ⟨rfl, rfl⟩
                with_reducible apply Exists.intro
                with_reducible refine ⟨?_, ?_⟩
                · go_simp
                  rfl
                with_reducible refine soup_q ?_ ?_ ?_
                · rfl
                · rfl
                with_reducible apply Exists.intro
                with_reducible refine ⟨fun W hk _ => ?_, ?_⟩
                · obtain ⟨y0, y1, y2, y3, y4, y5, y6, y7, y8, y9, yf⟩ := (HS.out.keep hk).O.all
                  simp only [Ag.zero] at y0 y1 y2 y3 y4 y5 y6 y7 y8 y9
                  unfold Oper.same
                  go_simp
                  first | rfl | exact ⟨rfl, rfl⟩
                with_reducible apply Exists.intro
                with_reducible refine ⟨?_, ?_⟩
                · go_simp
                  rfl
                with_reducible refine soup_q ?_ ?_ ?_
                · rfl
                · rfl
                with_reducible apply Exists.intro
                with_reducible refine ⟨fun W hk _ => ?_, ?_⟩
                · unfold Oper.same
                  go_simp
                  first | rfl | exact ⟨rfl, rfl⟩
                with_reducible apply Exists.intro
                with_reducible refine ⟨?_, ?_⟩
                · go_simp
                  rfl
                with_reducible refine soup_q ?_ ?_ ?_
                · rfl
                · rfl
                with_reducible apply Exists.intro
                with_reducible refine ⟨fun W hk _ => ?_, ?_⟩
                · unfold Oper.same
                  go_simp
                  first | rfl | exact ⟨rfl, rfl⟩
                with_reducible apply Exists.intro
                with_reducible refine ⟨?_, ?_⟩
                · go_simp
                  rfl
                with_reducible refine soup_q ?_ ?_ ?_
                · rfl
                · rfl
                with_reducible apply Exists.intro
                with_reducible refine ⟨fun W hk _ => ?_, ?_⟩
                · unfold Oper.same
                  go_simp
                  first | rfl | exact ⟨rfl, rfl⟩
                with_reducible apply Exists.intro
                with_reducible refine ⟨?_, ?_⟩
                · go_simp
                  rfl
                with_reducible refine soup_q ?_ ?_ ?_
                · rfl
                · rfl
                with_reducible apply Exists.intro
                with_reducible refine ⟨fun W hk _ => ?_, ?_⟩
                · obtain ⟨f0, f1, f2, f3, f4, f5, f6, f7, f8, f9, ff⟩ := (HGO.out.keep hk).all
                  simp only [Ag.zero] at f0 f1 f2 f3 f4 f5 f6 f7 f8 f9
                  unfold Oper.same
                  go_simp
                  first | rfl | exact ⟨rfl, rfl⟩
                with_reducible apply Exists.intro
                with_reducible refine ⟨?_, ?_⟩
                · go_simp
                  rfl
                with_reducible refine soup_q ?_ ?_ ?_
                · rfl
                · rfl
                with_reducible apply Exists.intro
                with_reducible refine ⟨fun W hk _ => ?_, ?_⟩
                · unfold Oper.same
                  go_simp
                  first | rfl | exact ⟨rfl, rfl⟩
                with_reducible apply Exists.intro
                with_reducible refine ⟨?_, ?_⟩
                · go_simp
                  rfl
                with_reducible refine soup_q ?_ ?_ ?_
                · rfl
                · rfl
                with_reducible apply Exists.intro
                with_reducible refine ⟨fun W hk _ => ?_, ?_⟩
                · obtain ⟨y0, y1, y2, y3, y4, y5, y6, y7, y8, y9, yf⟩ := (HS.out.keep hk).O.all
                  simp only [Ag.zero] at y0 y1 y2 y3 y4 y5 y6 y7 y8 y9
                  unfold Oper.same
                  go_simp
                  first | rfl | exact ⟨rfl, rfl⟩
                with_reducible apply Exists.intro
                with_reducible refine ⟨?_, ?_⟩
                · go_simp
                  rfl
                with_reducible refine soup_q ?_ ?_ ?_
                · rfl
                · rfl
                with_reducible apply Exists.intro
                with_reducible refine ⟨fun W hk _ => ?_, ?_⟩
                · obtain ⟨hlq1, hlq2⟩ := HLQ.out
                  unfold Oper.same
                  go_simp
                  first | rfl | exact ⟨rfl, rfl⟩
                with_reducible apply Exists.intro
                with_reducible refine ⟨?_, ?_⟩
                · go_simp
                  rfl
                with_reducible refine soup_q ?_ ?_ ?_
                · rfl
                · rfl
                with_reducible apply Exists.intro
                with_reducible refine ⟨fun W hk _ => ?_, ?_⟩
                · unfold Oper.same
                  go_simp
                  first | rfl | exact ⟨rfl, rfl⟩
                with_reducible apply Exists.intro
                with_reducible refine ⟨?_, ?_⟩
                · go_simp
                  rfl
                with_reducible refine soup_q ?_ ?_ ?_
                · rfl
                · rfl
                with_reducible apply Exists.intro
                with_reducible refine ⟨fun W hk _ => ?_, ?_⟩
                · unfold Oper.same
                  go_simp
                  first | rfl | exact ⟨rfl, rfl⟩
                with_reducible apply Exists.intro
                with_reducible refine ⟨?_, ?_⟩
                · go_simp
                  rfl
                with_reducible refine soup_q ?_ ?_ ?_
                · rfl
                · rfl
                with_reducible apply Exists.intro
                with_reducible refine ⟨fun W hk _ => ?_, ?_⟩
                · unfold Oper.same
                  go_simp
                  first | rfl | exact ⟨rfl, rfl⟩
                with_reducible apply Exists.intro
                with_reducible refine ⟨?_, ?_⟩
                · go_simp
                  rfl
                with_reducible refine soup_q ?_ ?_ ?_
                · rfl
                · rfl
                with_reducible apply Exists.intro
                with_reducible refine ⟨fun W hk _ => ?_, ?_⟩
                · unfold Oper.same
                  go_simp
                  first | rfl | exact ⟨rfl, rfl⟩
                with_reducible apply Exists.intro
                with_reducible refine ⟨?_, ?_⟩
                · go_simp
                  rfl
                with_reducible refine soup_q ?_ ?_ ?_
                · rfl
                · rfl
                with_reducible apply Exists.intro
                with_reducible refine ⟨fun W hk _ => ?_, ?_⟩
                · obtain ⟨f0, f1, f2, f3, f4, f5, f6, f7, f8, f9, ff⟩ := (HGO.out.keep hk).all
                  simp only [Ag.zero] at f0 f1 f2 f3 f4 f5 f6 f7 f8 f9
                  unfold Oper.same
                  go_simp
                  first | rfl | exact ⟨rfl, rfl⟩
                with_reducible apply Exists.intro
                with_reducible refine ⟨?_, ?_⟩
                · go_simp
                  rfl
                with_reducible refine soup_q ?_ ?_ ?_
                · rfl
                · rfl
                with_reducible apply Exists.intro
                with_reducible refine ⟨fun W hk _ => ?_, ?_⟩
                · unfold Oper.same
                  go_simp
                  first | rfl | exact ⟨rfl, rfl⟩
                with_reducible apply Exists.intro
                with_reducible refine ⟨?_, ?_⟩
                · go_simp
                  rfl
                refine soup_s rfl rfl rfl (fun W hk _ _ => ?_) ?_
                · unfold Oper.does
                  go_simp
                  refine (tat_any (HS.out.keep hk).ln).mono ?_
                  rintro e w' ⟨rfl, rfl⟩
                  exact ⟨_, rfl, Keep.refl _ _, hk, rfl, trivial⟩
                intro v hv
                obtain rfl : v = _ := hv
                with_reducible apply Exists.intro
                with_reducible refine ⟨?_, ?_⟩
                · go_simp
                  rfl
                refine soup_nil (fun W7 hk hS => ?_)
                have HS7 := Lib.hid (HS.out.keep hk)
                have HX7 := Lib.hid (HX.out.keep hk HG.out (by simp))
                have HG7 := Lib.hid (Nat.lt_of_lt_of_le HG.out hk.size)
                have HGO7 := Lib.hid (HGO.out.keep hk)
                clear hk hS HS HX HG HGO
                have HS := HS7
                have HX := HX7
                have HG := HG7
                have HGO := HGO7
                clear HS7 HX7 HG7 HGO7
                go_wp2_with (fail)
                refine (HOV.out _).mono ?_
                rintro e w7 ⟨rfl, rfl⟩
                have hO := HS.out.O
                have ks := setO_keep W7 (sb + 1) ⟨xk, xs, Ag.zero⟩
                have hx8 := setO_at hO ⟨xk, xs, Ag.zero⟩
                obtain ⟨f0, f1, f2, f3, f4, f5, f6, f7, f8, f9, ff⟩ := HGO.out.all
                simp only [Ag.zero] at f0 f1 f2 f3 f4 f5 f6 f7 f8 f9
                obtain ⟨y0, y1, y2, y3, y4, y5, y6, y7, y8, y9, yf⟩ := HS.out.O.all
                simp only [Ag.zero] at y0 y1 y2 y3 y4 y5 y6 y7 y8 y9
                unfold setO at ks hx8
                simp only [Ag.zero] at ks
                obtain ⟨w8, hw8⟩ : ∃ W, ((((((((((W7.setCell ⟨sb + 1, 0, none⟩ (.string xk)).setCell ⟨sb + 1, 1, none⟩ (.int .i64 xs)).setCell ⟨sb + 1, 2, none⟩ (.int .i64 0)).setCell ⟨sb + 1, 3, none⟩ (.int .i64 0)).setCell ⟨sb + 1, 4, none⟩ (.int .i64 0)).setCell ⟨sb + 1, 5, none⟩ (.int .i64 0)).setCell ⟨sb + 1, 6, none⟩ (.int .i64 0)).setCell ⟨sb + 1, 7, none⟩ (.int .i64 0)).setCell ⟨sb + 1, 8, none⟩ (.int .i64 0)).setCell ⟨sb + 1, 9, none⟩ (.int .i64 0)) = W := ⟨_, rfl⟩
                rw [hw8] at ks
                have hx8' : OtAt w8 (sb + 1) ⟨xk, xs, Ag.zero⟩ := hw8 ▸ hx8
                have HS8 := Lib.hid (HS.out.last ks hx8')
                have HGO8 := Lib.hid (HGO.out.keep ks (by have := HGN.out; simpa using this))
                have HX8 := Lib.hid (HX.out.keep ks HG.out (by have := HSX.out ga off rfl; simpa using this))
                have HG8 := Lib.hid (Nat.lt_of_lt_of_le HG.out ks.size)
                clear ks hx8 hx8' hO HS HX HG HGO
                have HS := HS8
                have HX := HX8
                have HG := HG8
                have HGO := HGO8
                clear HS8 HX8 HG8 HGO8
                go_wp2_with (fail)
                clear f0 f1 f2 f3 f4 f5 f6 f7 f8 f9 ff y0 y1 y2 y3 y4 y5 y6 y7 y8 y9 yf hw8
                refine wp_region_soup 23 [] (spOf [(13, Spec.is (.agg #[.int .i64 x1, .int .i64 x2, .int .i64 x3, .int .i64 x4, .int .i64 x5, .int .i64 x6, .int .i64 x7, .int .i64 x8]))]) (by kernel_rfl) (by kernel_rfl) (spOk_of (by simp [Spec.is_ok])) (pre_of (by simp [Spec.is_ok])) ?_
                simp only [List.take_succ_cons, List.take_zero, List.drop_succ_cons, List.drop_zero]
                with_reducible refine soup_q ?_ ?_ ?_
                · rfl
                · rfl
                with_reducible apply Exists.intro
                with_reducible refine ⟨fun W hk _ => ?_, ?_⟩
                · unfold Oper.same
                  go_simp
                  first | rfl | exact ⟨rfl, rfl⟩
                with_reducible apply Exists.intro
                with_reducible refine ⟨?_, ?_⟩
                · go_simp
                  rfl
                with_reducible refine soup_q ?_ ?_ ?_
                · rfl
                · rfl
                with_reducible apply Exists.intro
                with_reducible refine ⟨fun W hk _ => ?_, ?_⟩
                · obtain ⟨f0, f1, f2, f3, f4, f5, f6, f7, f8, f9, ff⟩ := (HGO.out.keep hk).all
                  simp only [Ag.zero] at f0 f1 f2 f3 f4 f5 f6 f7 f8 f9
                  unfold Oper.same
                  go_simp
                  first | rfl | exact ⟨rfl, rfl⟩
                with_reducible apply Exists.intro
                with_reducible refine ⟨?_, ?_⟩
                · go_simp
                  rfl
                with_reducible refine soup_q ?_ ?_ ?_
                · rfl
                · rfl
                with_reducible apply Exists.intro
                with_reducible refine ⟨fun W hk _ => ?_, ?_⟩
                · have l1 := HL1.out W (HS.out.keep hk).S
                  unfold Oper.same
                  go_simp
                  first | rfl | exact ⟨rfl, rfl⟩
                with_reducible apply Exists.intro
                with_reducible refine ⟨?_, ?_⟩
                · go_simp
                  rfl
                with_reducible refine soup_q ?_ ?_ ?_
                · rfl
                · rfl
                with_reducible apply Exists.intro
                with_reducible refine ⟨fun W hk _ => ?_, ?_⟩
                · unfold Oper.same
                  go_simp
                  first | rfl | exact ⟨rfl, rfl⟩
                with_reducible apply Exists.intro
                with_reducible refine ⟨?_, ?_⟩
                · go_simp
                  rfl
                with_reducible refine soup_q ?_ ?_ ?_
                · rfl
                · rfl
                with_reducible apply Exists.intro
                with_reducible refine ⟨fun W hk _ => ?_, ?_⟩
                · unfold Oper.same
                  go_simp
                  first | rfl | exact ⟨rfl, rfl⟩
                with_reducible apply Exists.intro
                with_reducible refine ⟨?_, ?_⟩
                · go_simp
                  rfl
                with_reducible refine soup_q ?_ ?_ ?_
                · rfl
                · rfl
                with_reducible apply Exists.intro
                with_reducible refine ⟨fun W hk _ => ?_, ?_⟩
                · unfold Oper.same
                  go_simp
                  first | rfl | exact ⟨rfl, rfl⟩
                with_reducible apply Exists.intro
                with_reducible refine ⟨?_, ?_⟩
                · go_simp
                  rfl
                with_reducible refine soup_q ?_ ?_ ?_
                · rfl
                · rfl
                with_reducible apply Exists.intro
                with_reducible refine ⟨fun W hk _ => ?_, ?_⟩
                · unfold Oper.same
                  go_simp
                  first | rfl | exact ⟨rfl, rfl⟩
                with_reducible apply Exists.intro
                with_reducible refine ⟨?_, ?_⟩
                · go_simp
                  rfl
                with_reducible refine soup_q ?_ ?_ ?_
                · rfl
                · rfl
                with_reducible apply Exists.intro
                with_reducible refine ⟨fun W hk _ => ?_, ?_⟩
                · unfold Oper.same
                  go_simp
                  first | rfl | exact ⟨rfl, rfl⟩
                with_reducible apply Exists.intro
                with_reducible refine ⟨?_, ?_⟩
                · go_simp
                  rfl
                with_reducible refine soup_q ?_ ?_ ?_
                · rfl
                · rfl
                with_reducible apply Exists.intro
                with_reducible refine ⟨fun W hk _ => ?_, ?_⟩
                · unfold Oper.same
                  go_simp
                  first | rfl | exact ⟨rfl, rfl⟩
                with_reducible apply Exists.intro
                with_reducible refine ⟨?_, ?_⟩
                · go_simp
                  rfl
                with_reducible refine soup_q ?_ ?_ ?_
                · rfl
                · rfl
                with_reducible apply Exists.intro
                with_reducible refine ⟨fun W hk _ => ?_, ?_⟩
                · obtain ⟨d0, d1, d2, d3, d4, d5, d6, d7, d8, d9⟩ := HX.out.keep hk HG.out (by simp)
                  simp only at d0 d1 d2 d3 d4 d5 d6 d7 d8 d9
                  unfold Oper.same
                  go_simp
                  first | rfl | exact ⟨rfl, rfl⟩
                with_reducible apply Exists.intro
                with_reducible refine ⟨?_, ?_⟩
                · go_simp
                  rfl
                with_reducible refine soup_q ?_ ?_ ?_
                · rfl
                · rfl
                with_reducible apply Exists.intro
                with_reducible refine ⟨fun W hk _ => ?_, ?_⟩
                · unfold Oper.same
                  go_simp
                  first | rfl | exact ⟨rfl, rfl⟩
                with_reducible apply Exists.intro
                with_reducible refine ⟨?_, ?_⟩
                · go_simp
                  rfl
                with_reducible refine soup_q ?_ ?_ ?_
                · rfl
                · rfl
                with_reducible apply Exists.intro
                with_reducible refine ⟨fun W hk _ => ?_, ?_⟩
                · obtain ⟨f0, f1, f2, f3, f4, f5, f6, f7, f8, f9, ff⟩ := (HGO.out.keep hk).all
                  simp only [Ag.zero] at f0 f1 f2 f3 f4 f5 f6 f7 f8 f9
                  unfold Oper.same
                  go_simp
                  first | rfl | exact ⟨rfl, rfl⟩
                with_reducible apply Exists.intro
                with_reducible refine ⟨?_, ?_⟩
                · go_simp
                  rfl
                with_reducible refine soup_q ?_ ?_ ?_
                · rfl
                · rfl
                with_reducible apply Exists.intro
                with_reducible refine ⟨fun W hk _ => ?_, ?_⟩
                · have l2 := HL2.out W (HS.out.keep hk).V.M
                  unfold Oper.same
                  go_simp
                  first | rfl | exact ⟨rfl, rfl⟩
                with_reducible apply Exists.intro
                with_reducible refine ⟨?_, ?_⟩
                · go_simp
                  rfl
                refine soup_s rfl rfl rfl (fun W hk _ _ => ?_) ?_
                · unfold Oper.does
                  go_simp
                  refine (HOF.out _ (ints_row ((HS.out.keep hk).V.R _ HMV.out))).mono ?_
                  rintro e w' ⟨rfl, hb⟩
                  exact ⟨_, rfl, Keep.of_below hb _, hk.then_below hb, rfl, trivial⟩
                intro v hv
                obtain rfl : v = _ := hv
                with_reducible apply Exists.intro
                with_reducible refine ⟨?_, ?_⟩
                · go_simp
                  rfl
                with_reducible refine soup_q ?_ ?_ ?_
                · rfl
                · rfl
                with_reducible apply Exists.intro
                with_reducible refine ⟨fun W hk _ => ?_, ?_⟩
                · have hneq := HNEQ.out
                  have hgd := HGD.out
                  unfold Oper.same
                  go_simp
                  first | rfl | exact ⟨rfl, rfl⟩
                with_reducible apply Exists.intro
                with_reducible refine ⟨?_, ?_⟩
                · go_simp
                  rfl
                with_reducible refine soup_q ?_ ?_ ?_
                · rfl
                · rfl
                with_reducible apply Exists.intro
                with_reducible refine ⟨fun W hk _ => ?_, ?_⟩
                · unfold Oper.same
                  go_simp
                  first | rfl | exact ⟨rfl, rfl⟩
                with_reducible apply Exists.intro
                with_reducible refine ⟨?_, ?_⟩
                · go_simp
                  rfl
                with_reducible refine soup_q ?_ ?_ ?_
                · rfl
                · rfl
                with_reducible apply Exists.intro
                with_reducible refine ⟨fun W hk _ => ?_, ?_⟩
                · unfold Oper.same
                  go_simp
                  first | rfl | exact ⟨rfl, rfl⟩
                with_reducible apply Exists.intro
                with_reducible refine ⟨?_, ?_⟩
                · go_simp
                  rfl
                with_reducible refine soup_q ?_ ?_ ?_
                · rfl
                · rfl
                with_reducible apply Exists.intro
                with_reducible refine ⟨fun W hk _ => ?_, ?_⟩
                · unfold Oper.same
                  go_simp
                  first | rfl | exact ⟨rfl, rfl⟩
                with_reducible apply Exists.intro
                with_reducible refine ⟨?_, ?_⟩
                · go_simp
                  rfl
                with_reducible refine soup_q ?_ ?_ ?_
                · rfl
                · rfl
                with_reducible apply Exists.intro
                with_reducible refine ⟨fun W hk _ => ?_, ?_⟩
                · obtain ⟨f0, f1, f2, f3, f4, f5, f6, f7, f8, f9, ff⟩ := (HGO.out.keep hk).all
                  simp only [Ag.zero] at f0 f1 f2 f3 f4 f5 f6 f7 f8 f9
                  unfold Oper.same
                  go_simp
                  first | rfl | exact ⟨rfl, rfl⟩
                with_reducible apply Exists.intro
                with_reducible refine ⟨?_, ?_⟩
                · go_simp
                  rfl
                with_reducible refine soup_q ?_ ?_ ?_
                · rfl
                · rfl
                with_reducible apply Exists.intro
                with_reducible refine ⟨fun W hk _ => ?_, ?_⟩
                · have l2 := HL2.out W (HS.out.keep hk).V.M
                  unfold Oper.same
                  go_simp
                  first | rfl | exact ⟨rfl, rfl⟩
                with_reducible apply Exists.intro
                with_reducible refine ⟨?_, ?_⟩
                · go_simp
                  rfl
                with_reducible refine soup_q ?_ ?_ ?_
                · rfl
                · rfl
                with_reducible apply Exists.intro
                with_reducible refine ⟨fun W hk _ => ?_, ?_⟩
                · unfold Oper.same
                  go_simp
                  first | rfl | exact ⟨rfl, rfl⟩
                with_reducible apply Exists.intro
                with_reducible refine ⟨?_, ?_⟩
                · go_simp
                  rfl
                with_reducible refine soup_q ?_ ?_ ?_
                · rfl
                · rfl
                with_reducible apply Exists.intro
                with_reducible refine ⟨fun W hk _ => ?_, ?_⟩
                · unfold Oper.same
                  go_simp
                  first | rfl | exact ⟨rfl, rfl⟩
                with_reducible apply Exists.intro
                with_reducible refine ⟨?_, ?_⟩
                · go_simp
                  rfl
                with_reducible refine soup_q ?_ ?_ ?_
                · rfl
                · rfl
                with_reducible apply Exists.intro
                with_reducible refine ⟨fun W hk _ => ?_, ?_⟩
                · unfold Oper.same
                  go_simp
                  first | rfl | exact ⟨rfl, rfl⟩
                with_reducible apply Exists.intro
                with_reducible refine ⟨?_, ?_⟩
                · go_simp
                  rfl
                refine soup_nil (fun W9 hk hS => ?_)
                have HS7 := Lib.hid (HS.out.keep hk)
                have HX7 := Lib.hid (HX.out.keep hk HG.out (by simp))
                have HG7 := Lib.hid (Nat.lt_of_lt_of_le HG.out hk.size)
                have HGO7 := Lib.hid (HGO.out.keep hk)
                clear hk hS HS HX HG HGO
                have HS := HS7
                have HX := HX7
                have HG := HG7
                have HGO := HGO7
                clear HS7 HX7 HG7 HGO7
                obtain ⟨o, hrun, hmap⟩ := run_update (P := Try.prog) Try.underlying56 keyLaw_ekO HS.out.S (seen_nodup HND.out j) ⟨xs, xk⟩ (1 : Int)
                have hsp := seen_put HND.out HXA.out
                unfold wdOf at hsp
                simp only at hsp
                rw [hsp] at hmap
                have HSZ := Lib.hid (HS.out.seen ((Keep.refl _ _).setBlock sb o (.inl (by simp))) hmap)
                unfold ekO at hrun
                simp only at hrun
                clear hsp hmap
                obtain ⟨f0, f1, f2, f3, f4, f5, f6, f7, f8, f9, ff⟩ := HGO.out.all
                simp only [Ag.zero] at f0 f1 f2 f3 f4 f5 f6 f7 f8 f9
                go_wp2_with (fail)
                clear hrun f0 f1 f2 f3 f4 f5 f6 f7 f8 f9 ff
                go_roundw
                case rel => exact ⟨j + 1, by go_num, by omega, by rw [HLN.out]; exact HSZ.out⟩
                case measure => simp [intOf]; omega
            · have hxl : ⟨xk, xs, ⟨x1, x2, x3, x4, x5, x6, x7, x8⟩⟩ ∈ s.L := by
                have := HXA.out
                rw [← HAE.out, List.getElem?_append_right (by omega)] at this
                exact List.mem_of_getElem? this
              have hov := HUP.out.ok.O _ hxl
              have HLN := Lib.hid (last_stay (T := s.told) (j := j) (by omega))
              have hovc := fun W => over_any xs s.mr W
              simp only at hov
              rw [hov] at hovc
              have HOV := Lib.hid hovc
              clear hxl hov hovc hmem2
              have hjti : ¬ (j : Int) < (s.told.length : Int) := by omega
              obtain ⟨lo, hlo⟩ : ∃ lo, lastW (s.told.take j) = lo := ⟨_, rfl⟩
              rw [hlo] at HS HLN
              go_wp2_with (fail)
              refine wp_region_soup 12 [] (spOf [(11, Spec.fresh wr.heap.size (.cells #[.string ByteArray.empty, .int .i64 0, .int .i64 0, .int .i64 0, .int .i64 0, .int .i64 0, .int .i64 0, .int .i64 0, .int .i64 0, .int .i64 0] 33))]) (by kernel_rfl) (by kernel_rfl) (spOk_of (by simp [Spec.is_ok, Spec.fresh_ok])) (pre_of (by simp [Spec.is_ok, Spec.fresh_ok])) ?_
              simp only [List.take_succ_cons, List.take_zero, List.drop_succ_cons, List.drop_zero]
              with_reducible refine soup_q ?_ ?_ ?_
              · rfl
              · rfl
              with_reducible apply Exists.intro
              with_reducible refine ⟨fun W hk _ => ?_, ?_⟩
              · unfold Oper.same
                go_simp
                first | rfl | exact ⟨rfl, rfl⟩
              with_reducible apply Exists.intro
              with_reducible refine ⟨?_, ?_⟩
              · go_simp
                rfl
              with_reducible refine soup_q ?_ ?_ ?_
              · rfl
              · rfl
              with_reducible apply Exists.intro
              with_reducible refine ⟨fun W hk _ => ?_, ?_⟩
              · unfold Oper.same
                go_simp
                first | rfl | exact ⟨rfl, rfl⟩
              with_reducible apply Exists.intro
              with_reducible refine ⟨?_, ?_⟩
              · go_simp
                rfl
              with_reducible refine soup_q ?_ ?_ ?_
              · rfl
              · rfl
              with_reducible apply Exists.intro
              with_reducible refine ⟨fun W hk _ => ?_, ?_⟩
              · unfold Oper.same
                go_simp
                first | rfl | exact ⟨rfl, rfl⟩
              with_reducible apply Exists.intro
              with_reducible refine ⟨?_, ?_⟩
              · go_simp
                rfl
              with_reducible refine soup_q ?_ ?_ ?_
              · rfl
              · rfl
              with_reducible apply Exists.intro
              with_reducible refine ⟨fun W hk _ => ?_, ?_⟩
              · unfold Oper.same
                go_simp
                first | rfl | exact ⟨rfl, rfl⟩
              with_reducible apply Exists.intro
              with_reducible refine ⟨?_, ?_⟩
              · go_simp
                rfl
              with_reducible refine soup_q ?_ ?_ ?_
              · rfl
              · rfl
              with_reducible apply Exists.intro
              with_reducible refine ⟨fun W hk _ => ?_, ?_⟩
              · obtain ⟨d0, d1, d2, d3, d4, d5, d6, d7, d8, d9⟩ := HX.out.keep hk HG.out (by simp)
                simp only at d0 d1 d2 d3 d4 d5 d6 d7 d8 d9
                unfold Oper.same
                go_simp
                first | rfl | exact ⟨rfl, rfl⟩
              with_reducible apply Exists.intro
              with_reducible refine ⟨?_, ?_⟩
              · go_simp
                rfl
              with_reducible refine soup_q ?_ ?_ ?_
              · rfl
              · rfl
              with_reducible apply Exists.intro
              with_reducible refine ⟨fun W hk _ => ?_, ?_⟩
              · unfold Oper.same
                go_simp
                first | rfl | exact ⟨rfl, rfl⟩
              with_reducible apply Exists.intro
              with_reducible refine ⟨?_, ?_⟩
              · go_simp
                rfl
              with_reducible refine soup_q ?_ ?_ ?_
              · rfl
              · rfl
              with_reducible apply Exists.intro
              with_reducible refine ⟨fun W hk _ => ?_, ?_⟩
              · unfold Oper.same
                go_simp
                first | rfl | exact ⟨rfl, rfl⟩
              with_reducible apply Exists.intro
              with_reducible refine ⟨?_, ?_⟩
              · go_simp
                rfl
              with_reducible refine soup_q ?_ ?_ ?_
              · rfl
              · rfl
              with_reducible apply Exists.intro
              with_reducible refine ⟨fun W hk _ => ?_, ?_⟩
              · unfold Oper.same
                go_simp
                first | rfl | exact ⟨rfl, rfl⟩
              with_reducible apply Exists.intro
              with_reducible refine ⟨?_, ?_⟩
              · go_simp
                rfl
              with_reducible refine soup_q ?_ ?_ ?_
              · rfl
              · rfl
              with_reducible apply Exists.intro
              with_reducible refine ⟨fun W hk _ => ?_, ?_⟩
              · unfold Oper.same
                go_simp
                first | rfl | exact ⟨rfl, rfl⟩
              with_reducible apply Exists.intro
              with_reducible refine ⟨?_, ?_⟩
              · go_simp
                rfl
              with_reducible refine soup_q ?_ ?_ ?_
              · rfl
              · rfl
              with_reducible apply Exists.intro
              with_reducible refine ⟨fun W hk _ => ?_, ?_⟩
              · obtain ⟨d0, d1, d2, d3, d4, d5, d6, d7, d8, d9⟩ := HX.out.keep hk HG.out (by simp)
                simp only at d0 d1 d2 d3 d4 d5 d6 d7 d8 d9
                unfold Oper.same
                go_simp
                first | rfl | exact ⟨rfl, rfl⟩
              with_reducible apply Exists.intro
              with_reducible refine ⟨?_, ?_⟩
              · go_simp
                rfl
              with_reducible refine soup_q ?_ ?_ ?_
              · rfl
              · rfl
              with_reducible apply Exists.intro
              with_reducible refine ⟨fun W hk _ => ?_, ?_⟩
              · unfold Oper.same
                go_simp
                first | rfl | exact ⟨rfl, rfl⟩
              with_reducible apply Exists.intro
              with_reducible refine ⟨?_, ?_⟩
              · go_simp
                rfl
              refine soup_s rfl rfl rfl (fun W hk _ _ => ?_) ?_
              · unfold Oper.does
                go_simp
                exact ⟨(Keep.refl _ _).alloc _, hk.alloc _, ⟨_, rfl, hk.size⟩, _, rfl, hk.size, World.alloc_heap_new W _⟩
              rintro v ⟨g, rfl, hg⟩
              with_reducible apply Exists.intro
              with_reducible refine ⟨?_, ?_⟩
              · go_simp
                rfl
              refine soup_nil (fun W5 hk hS => ?_)
              have hgo : OtAt W5 g ⟨ByteArray.empty, 0, Ag.zero⟩ := by
                obtain ⟨g', e1, _, e3⟩ := hS 11
                obtain rfl : g = g' := by simpa using e1
                exact e3
              have hgn : wr.heap.size ≤ g := hg
              have ks := setO_keep W5 g ⟨xk, xs, Ag.zero⟩
              have hx6 := setO_at hgo ⟨xk, xs, Ag.zero⟩
              obtain ⟨a0, a1, a2, a3, a4, a5, a6, a7, a8, a9, af⟩ := hgo.all
              simp only [Ag.zero] at a0 a1 a2 a3 a4 a5 a6 a7 a8 a9
              unfold setO at ks hx6
              simp only [Ag.zero] at ks
              obtain ⟨w6, hw6⟩ : ∃ W, ((((((((((W5.setCell ⟨g, 0, none⟩ (.string xk)).setCell ⟨g, 1, none⟩ (.int .i64 xs)).setCell ⟨g, 2, none⟩ (.int .i64 0)).setCell ⟨g, 3, none⟩ (.int .i64 0)).setCell ⟨g, 4, none⟩ (.int .i64 0)).setCell ⟨g, 5, none⟩ (.int .i64 0)).setCell ⟨g, 6, none⟩ (.int .i64 0)).setCell ⟨g, 7, none⟩ (.int .i64 0)).setCell ⟨g, 8, none⟩ (.int .i64 0)).setCell ⟨g, 9, none⟩ (.int .i64 0)) = W := ⟨_, rfl⟩
              rw [hw6] at ks
              have hx6' : OtAt w6 g ⟨xk, xs, Ag.zero⟩ := hw6 ▸ hx6
              have k6 : Keep [] wr w6 := hk.step ks (fun y hy => .inr (by simp at hy; omega))
              have HS6 := Lib.hid (HS.out.keep k6)
              have HGO := Lib.hid hx6'
              have HX6 := Lib.hid (HX.out.keep k6 HG.out (by simp))
              have HG6 := Lib.hid (Nat.lt_of_lt_of_le HG.out k6.size)
              have HGN := Lib.hid (show g ≠ sb + 1 from by have := lt_of_heap HS.out.O; omega)
              clear hk hS ks hx6 hx6' k6 hgo HS HX HG hg hgn
              have HS := HS6
              have HX := HX6
              have HG := HG6
              clear HS6 HX6 HG6
              go_wp2_with (fail)
              clear a0 a1 a2 a3 a4 a5 a6 a7 a8 a9 af hw6
              refine wp_region_soup 4 [] (spOf [(3, Spec.is (.int .i64 s.mr))]) (by kernel_rfl) (by kernel_rfl) (spOk_of (by simp [Spec.is_ok])) (pre_of (by simp [Spec.is_ok])) ?_
              simp only [List.take_succ_cons, List.take_zero, List.drop_succ_cons, List.drop_zero]
              with_reducible refine soup_q ?_ ?_ ?_
              · rfl
              · rfl
              with_reducible apply Exists.intro
              with_reducible refine ⟨fun W hk _ => ?_, ?_⟩
              · unfold Oper.same
                go_simp
                first | rfl | exact ⟨rfl, rfl⟩
              with_reducible apply Exists.intro
              with_reducible refine ⟨?_, ?_⟩
              · go_simp
                rfl
              with_reducible refine soup_q ?_ ?_ ?_
              · rfl
              · rfl
              with_reducible apply Exists.intro
              with_reducible refine ⟨fun W hk _ => ?_, ?_⟩
              · obtain ⟨f0, f1, f2, f3, f4, f5, f6, f7, f8, f9, ff⟩ := (HGO.out.keep hk).all
                simp only [Ag.zero] at f0 f1 f2 f3 f4 f5 f6 f7 f8 f9
                unfold Oper.same
                go_simp
                first | rfl | exact ⟨rfl, rfl⟩
              with_reducible apply Exists.intro
              with_reducible refine ⟨?_, ?_⟩
              · go_simp
                rfl
              with_reducible refine soup_q ?_ ?_ ?_
              · rfl
              · rfl
              with_reducible apply Exists.intro
              with_reducible refine ⟨fun W hk _ => ?_, ?_⟩
              · unfold Oper.same
                go_simp
                first | rfl | exact ⟨rfl, rfl⟩
              with_reducible apply Exists.intro
              with_reducible refine ⟨?_, ?_⟩
              · go_simp
                rfl
              refine soup_s rfl rfl rfl (fun W hk _ _ => ?_) ?_
              · unfold Oper.does
                go_simp
                refine (tat_any (HS.out.keep hk).ln).mono ?_
                rintro e w' ⟨rfl, rfl⟩
                exact ⟨_, rfl, Keep.refl _ _, hk, rfl, trivial⟩
              intro v hv
              obtain rfl : v = _ := hv
              with_reducible apply Exists.intro
              with_reducible refine ⟨?_, ?_⟩
              · go_simp
                rfl
              refine soup_nil (fun W7 hk hS => ?_)
              have HS7 := Lib.hid (HS.out.keep hk)
              have HX7 := Lib.hid (HX.out.keep hk HG.out (by simp))
              have HG7 := Lib.hid (Nat.lt_of_lt_of_le HG.out hk.size)
              have HGO7 := Lib.hid (HGO.out.keep hk)
              clear hk hS HS HX HG HGO
              have HS := HS7
              have HX := HX7
              have HG := HG7
              have HGO := HGO7
              clear HS7 HX7 HG7 HGO7
              go_wp2_with (fail)
              refine (HOV.out _).mono ?_
              rintro e w7 ⟨rfl, rfl⟩
              go_wp2_with (fail)
              refine wp_region_soup 23 [] (spOf [(13, Spec.is (.agg #[.int .i64 x1, .int .i64 x2, .int .i64 x3, .int .i64 x4, .int .i64 x5, .int .i64 x6, .int .i64 x7, .int .i64 x8]))]) (by kernel_rfl) (by kernel_rfl) (spOk_of (by simp [Spec.is_ok])) (pre_of (by simp [Spec.is_ok])) ?_
              simp only [List.take_succ_cons, List.take_zero, List.drop_succ_cons, List.drop_zero]
              with_reducible refine soup_q ?_ ?_ ?_
              · rfl
              · rfl
              with_reducible apply Exists.intro
              with_reducible refine ⟨fun W hk _ => ?_, ?_⟩
              · unfold Oper.same
                go_simp
                first | rfl | exact ⟨rfl, rfl⟩
              with_reducible apply Exists.intro
              with_reducible refine ⟨?_, ?_⟩
              · go_simp
                rfl
              with_reducible refine soup_q ?_ ?_ ?_
              · rfl
              · rfl
              with_reducible apply Exists.intro
              with_reducible refine ⟨fun W hk _ => ?_, ?_⟩
              · obtain ⟨f0, f1, f2, f3, f4, f5, f6, f7, f8, f9, ff⟩ := (HGO.out.keep hk).all
                simp only [Ag.zero] at f0 f1 f2 f3 f4 f5 f6 f7 f8 f9
                unfold Oper.same
                go_simp
                first | rfl | exact ⟨rfl, rfl⟩
              with_reducible apply Exists.intro
              with_reducible refine ⟨?_, ?_⟩
              · go_simp
                rfl
              with_reducible refine soup_q ?_ ?_ ?_
              · rfl
              · rfl
              with_reducible apply Exists.intro
              with_reducible refine ⟨fun W hk _ => ?_, ?_⟩
              · have l1 := HL1.out W (HS.out.keep hk).S
                unfold Oper.same
                go_simp
                first | rfl | exact ⟨rfl, rfl⟩
              with_reducible apply Exists.intro
              with_reducible refine ⟨?_, ?_⟩
              · go_simp
                rfl
              with_reducible refine soup_q ?_ ?_ ?_
              · rfl
              · rfl
              with_reducible apply Exists.intro
              with_reducible refine ⟨fun W hk _ => ?_, ?_⟩
              · unfold Oper.same
                go_simp
                first | rfl | exact ⟨rfl, rfl⟩
              with_reducible apply Exists.intro
              with_reducible refine ⟨?_, ?_⟩
              · go_simp
                rfl
              with_reducible refine soup_q ?_ ?_ ?_
              · rfl
              · rfl
              with_reducible apply Exists.intro
              with_reducible refine ⟨fun W hk _ => ?_, ?_⟩
              · unfold Oper.same
                go_simp
                first | rfl | exact ⟨rfl, rfl⟩
              with_reducible apply Exists.intro
              with_reducible refine ⟨?_, ?_⟩
              · go_simp
                rfl
              with_reducible refine soup_q ?_ ?_ ?_
              · rfl
              · rfl
              with_reducible apply Exists.intro
              with_reducible refine ⟨fun W hk _ => ?_, ?_⟩
              · unfold Oper.same
                go_simp
                first | rfl | exact ⟨rfl, rfl⟩
              with_reducible apply Exists.intro
              with_reducible refine ⟨?_, ?_⟩
              · go_simp
                rfl
              with_reducible refine soup_q ?_ ?_ ?_
              · rfl
              · rfl
              with_reducible apply Exists.intro
              with_reducible refine ⟨fun W hk _ => ?_, ?_⟩
              · unfold Oper.same
                go_simp
                first | rfl | exact ⟨rfl, rfl⟩
              with_reducible apply Exists.intro
              with_reducible refine ⟨?_, ?_⟩
              · go_simp
                rfl
              with_reducible refine soup_q ?_ ?_ ?_
              · rfl
              · rfl
              with_reducible apply Exists.intro
              with_reducible refine ⟨fun W hk _ => ?_, ?_⟩
              · unfold Oper.same
                go_simp
                first | rfl | exact ⟨rfl, rfl⟩
              with_reducible apply Exists.intro
              with_reducible refine ⟨?_, ?_⟩
              · go_simp
                rfl
              with_reducible refine soup_q ?_ ?_ ?_
              · rfl
              · rfl
              with_reducible apply Exists.intro
              with_reducible refine ⟨fun W hk _ => ?_, ?_⟩
              · unfold Oper.same
                go_simp
                first | rfl | exact ⟨rfl, rfl⟩
              with_reducible apply Exists.intro
              with_reducible refine ⟨?_, ?_⟩
              · go_simp
                rfl
              with_reducible refine soup_q ?_ ?_ ?_
              · rfl
              · rfl
              with_reducible apply Exists.intro
              with_reducible refine ⟨fun W hk _ => ?_, ?_⟩
              · obtain ⟨d0, d1, d2, d3, d4, d5, d6, d7, d8, d9⟩ := HX.out.keep hk HG.out (by simp)
                simp only at d0 d1 d2 d3 d4 d5 d6 d7 d8 d9
                unfold Oper.same
                go_simp
                first | rfl | exact ⟨rfl, rfl⟩
              with_reducible apply Exists.intro
              with_reducible refine ⟨?_, ?_⟩
              · go_simp
                rfl
              with_reducible refine soup_q ?_ ?_ ?_
              · rfl
              · rfl
              with_reducible apply Exists.intro
              with_reducible refine ⟨fun W hk _ => ?_, ?_⟩
              · unfold Oper.same
                go_simp
                first | rfl | exact ⟨rfl, rfl⟩
              with_reducible apply Exists.intro
              with_reducible refine ⟨?_, ?_⟩
              · go_simp
                rfl
              with_reducible refine soup_q ?_ ?_ ?_
              · rfl
              · rfl
              with_reducible apply Exists.intro
              with_reducible refine ⟨fun W hk _ => ?_, ?_⟩
              · obtain ⟨f0, f1, f2, f3, f4, f5, f6, f7, f8, f9, ff⟩ := (HGO.out.keep hk).all
                simp only [Ag.zero] at f0 f1 f2 f3 f4 f5 f6 f7 f8 f9
                unfold Oper.same
                go_simp
                first | rfl | exact ⟨rfl, rfl⟩
              with_reducible apply Exists.intro
              with_reducible refine ⟨?_, ?_⟩
              · go_simp
                rfl
              with_reducible refine soup_q ?_ ?_ ?_
              · rfl
              · rfl
              with_reducible apply Exists.intro
              with_reducible refine ⟨fun W hk _ => ?_, ?_⟩
              · have l2 := HL2.out W (HS.out.keep hk).V.M
                unfold Oper.same
                go_simp
                first | rfl | exact ⟨rfl, rfl⟩
              with_reducible apply Exists.intro
              with_reducible refine ⟨?_, ?_⟩
              · go_simp
                rfl
              refine soup_s rfl rfl rfl (fun W hk _ _ => ?_) ?_
              · unfold Oper.does
                go_simp
                refine (HOF.out _ (ints_row ((HS.out.keep hk).V.R _ HMV.out))).mono ?_
                rintro e w' ⟨rfl, hb⟩
                exact ⟨_, rfl, Keep.of_below hb _, hk.then_below hb, rfl, trivial⟩
              intro v hv
              obtain rfl : v = _ := hv
              with_reducible apply Exists.intro
              with_reducible refine ⟨?_, ?_⟩
              · go_simp
                rfl
              with_reducible refine soup_q ?_ ?_ ?_
              · rfl
              · rfl
              with_reducible apply Exists.intro
              with_reducible refine ⟨fun W hk _ => ?_, ?_⟩
              · have hneq := HNEQ.out
                have hgd := HGD.out
                unfold Oper.same
                go_simp
                first | rfl | exact ⟨rfl, rfl⟩
              with_reducible apply Exists.intro
              with_reducible refine ⟨?_, ?_⟩
              · go_simp
                rfl
              with_reducible refine soup_q ?_ ?_ ?_
              · rfl
              · rfl
              with_reducible apply Exists.intro
              with_reducible refine ⟨fun W hk _ => ?_, ?_⟩
              · unfold Oper.same
                go_simp
                first | rfl | exact ⟨rfl, rfl⟩
              with_reducible apply Exists.intro
              with_reducible refine ⟨?_, ?_⟩
              · go_simp
                rfl
              with_reducible refine soup_q ?_ ?_ ?_
              · rfl
              · rfl
              with_reducible apply Exists.intro
              with_reducible refine ⟨fun W hk _ => ?_, ?_⟩
              · unfold Oper.same
                go_simp
                first | rfl | exact ⟨rfl, rfl⟩
              with_reducible apply Exists.intro
              with_reducible refine ⟨?_, ?_⟩
              · go_simp
                rfl
              with_reducible refine soup_q ?_ ?_ ?_
              · rfl
              · rfl
              with_reducible apply Exists.intro
              with_reducible refine ⟨fun W hk _ => ?_, ?_⟩
              · unfold Oper.same
                go_simp
                first | rfl | exact ⟨rfl, rfl⟩
              with_reducible apply Exists.intro
              with_reducible refine ⟨?_, ?_⟩
              · go_simp
                rfl
              with_reducible refine soup_q ?_ ?_ ?_
              · rfl
              · rfl
              with_reducible apply Exists.intro
              with_reducible refine ⟨fun W hk _ => ?_, ?_⟩
              · obtain ⟨f0, f1, f2, f3, f4, f5, f6, f7, f8, f9, ff⟩ := (HGO.out.keep hk).all
                simp only [Ag.zero] at f0 f1 f2 f3 f4 f5 f6 f7 f8 f9
                unfold Oper.same
                go_simp
                first | rfl | exact ⟨rfl, rfl⟩
              with_reducible apply Exists.intro
              with_reducible refine ⟨?_, ?_⟩
              · go_simp
                rfl
              with_reducible refine soup_q ?_ ?_ ?_
              · rfl
              · rfl
              with_reducible apply Exists.intro
              with_reducible refine ⟨fun W hk _ => ?_, ?_⟩
              · have l2 := HL2.out W (HS.out.keep hk).V.M
                unfold Oper.same
                go_simp
                first | rfl | exact ⟨rfl, rfl⟩
              with_reducible apply Exists.intro
              with_reducible refine ⟨?_, ?_⟩
              · go_simp
                rfl
              with_reducible refine soup_q ?_ ?_ ?_
              · rfl
              · rfl
              with_reducible apply Exists.intro
              with_reducible refine ⟨fun W hk _ => ?_, ?_⟩
              · unfold Oper.same
                go_simp
                first | rfl | exact ⟨rfl, rfl⟩
              with_reducible apply Exists.intro
              with_reducible refine ⟨?_, ?_⟩
              · go_simp
                rfl
              with_reducible refine soup_q ?_ ?_ ?_
              · rfl
              · rfl
              with_reducible apply Exists.intro
              with_reducible refine ⟨fun W hk _ => ?_, ?_⟩
              · unfold Oper.same
                go_simp
                first | rfl | exact ⟨rfl, rfl⟩
              with_reducible apply Exists.intro
              with_reducible refine ⟨?_, ?_⟩
              · go_simp
                rfl
              with_reducible refine soup_q ?_ ?_ ?_
              · rfl
              · rfl
              with_reducible apply Exists.intro
              with_reducible refine ⟨fun W hk _ => ?_, ?_⟩
              · unfold Oper.same
                go_simp
                first | rfl | exact ⟨rfl, rfl⟩
              with_reducible apply Exists.intro
              with_reducible refine ⟨?_, ?_⟩
              · go_simp
                rfl
              refine soup_nil (fun W9 hk hS => ?_)
              have HS7 := Lib.hid (HS.out.keep hk)
              have HX7 := Lib.hid (HX.out.keep hk HG.out (by simp))
              have HG7 := Lib.hid (Nat.lt_of_lt_of_le HG.out hk.size)
              have HGO7 := Lib.hid (HGO.out.keep hk)
              clear hk hS HS HX HG HGO
              have HS := HS7
              have HX := HX7
              have HG := HG7
              have HGO := HGO7
              clear HS7 HX7 HG7 HGO7
              obtain ⟨o, hrun, hmap⟩ := run_update (P := Try.prog) Try.underlying56 keyLaw_ekO HS.out.S (seen_nodup HND.out j) ⟨xs, xk⟩ (1 : Int)
              have hsp := seen_put HND.out HXA.out
              unfold wdOf at hsp
              simp only at hsp
              rw [hsp] at hmap
              have HSZ := Lib.hid (HS.out.seen ((Keep.refl _ _).setBlock sb o (.inl (by simp))) hmap)
              unfold ekO at hrun
              simp only at hrun
              clear hsp hmap
              obtain ⟨f0, f1, f2, f3, f4, f5, f6, f7, f8, f9, ff⟩ := HGO.out.all
              simp only [Ag.zero] at f0 f1 f2 f3 f4 f5 f6 f7 f8 f9
              go_wp2_with (fail)
              clear hrun f0 f1 f2 f3 f4 f5 f6 f7 f8 f9 ff
              go_roundw
              case rel => exact ⟨j + 1, by go_num, by omega, by rw [HLN.out]; exact HSZ.out⟩
              case measure => simp [intOf]; omega
          · obtain rfl : j = A.length := by omega
            have hn1 := run_len (P := Try.prog) Try.underlying56 hS.S 3
            have hn2 := run_len (P := Try.prog) Try.underlying50 hS.V.M 3
            rw [seen_all] at hn1
            rw [show mv.length = A.length from by rw [← HAE.out, ← HUP.out.count, ← HEV.out]; unfold valsOf; simp] at hn2
            clear hS
            go_wp2_with (fail)
            refine (twakes_any _).mono ?_
            rintro e wz ⟨rfl, hBz⟩
            have HBe := Lib.hid (HS.out.B.trans (hBz.mono HS.out.B.size))
            clear hBz HS
            go_wp2_with (fail)
            go_ret
            exact ⟨rfl, HBe.out⟩
end Go.Proofs.Ytmhbibcfbencnaa
