/- MovesPlays: the walk. -/
import Derived.Test.YtbkbekdeplolnaaPlA
import Derived.Deep.Quiet
import Derived.IntWalk
namespace Go.Proofs.Ytbkbekdeplolnaa
open Go.RowKit Go.Shelf Go.Lib
open Go.ChangeMaps (setBlock)
set_option linter.unusedSimpArgs false
set_option linter.unusedVariables false
theorem byP_eq {w w' : World} {o : Option En} {e : Ending} {x : En} {b : Bool} (h : ByP w o e w') (h1 : o.getD En.zero = x) (h2 : o.isSome = b) : e = .returned (.tuple #[x.val, .bool b]) ∧ Below w.heap.size w w' := by
  subst h1; subst h2; exact h
theorem ite_no2 {c : Prop} [Decidable c] {A B : Prop} (h : ¬ c) (hb : B) : if c then A else B := by rw [if_neg h]; exact hb
set_option maxRecDepth 100000 in
set_option maxHeartbeats 16000000 in
theorem law_MovesPlays (A : Option Addr) (L : List Ac) (c : Nat) (hl : L.length ≤ 9223372036854775807) (mv : Int) (_ : (Lit.int .i64 mv).wf = true) (w : World) (hA : ActsAt w A L) :
    Calls Try.prog 12 #[.slice A L.length c, .int .i64 mv] w fun e w' => e = .returned (.bool true) ∧ Below w.heap.size w w' := by
  have HA := Lib.hid hA
  clear hA
  have hz := Int.natCast_nonneg L.length
  go_enter Try.func12, Try.ntmps12
  go_wp2_with (fail)
  refine (awake_any _).mono ?_
  rintro e w1 ⟨rfl, hB⟩
  go_wp2_with (fail)
  refine (great_any (HA.out.below hB) hl).mono ?_
  rintro e w2 ⟨⟨g, rfl, hg⟩, rfl⟩
  have HG := Lib.hid hg
  clear hg
  cases g with
  | true =>
    go_wp2_with (fail)
    go_ret
    exact ⟨rfl, hB⟩
  | false =>
    have h300 := HG.out rfl
    go_wp2_with (fail)
    refine (newB _).mono ?_
    rintro e w2 ⟨p, rfl, bk1, hp1, hl1, hB2⟩
    have h01 := hB.size
    have pl0 : Pl w (w2.alloc (.cells #[.slice none 0 0, .int .i64 0] 58)) p w2.heap.size none [] 0 none 0 :=
      ⟨bk1.alloc _, ⟨by simp, by decide, by simp, by simp⟩, by simp, by simp [foot]; omega, Box2.new _ _ _ _, by omega, by simp [foot]; omega, fun h => absurd rfl h, fun _ => rfl, fun h => absurd rfl h, (hB.trans (hB2.mono h01)).alloc (by omega) _⟩
    clear hB hB2 bk1 h01 HG hp1 hl1
    go_wp2_with (fail)
    go_loopw [8] (fun i wr => ∃ (k : Nat) (m : List (Int × En)) (last : Int) (om : Option Nat) (Ar : Option Addr) (cr : Nat), i = .int .i64 k ∧ k ≤ L.length ∧ m.length ≤ k ∧ last ≤ k ∧ Pl w wr p w2.heap.size om m last Ar cr) (fun i _ => L.length - (intOf i).toNat)
    case atStart => exact ⟨0, [], 0, none, none, 0, rfl, Nat.zero_le _, by simp, by omega, pl0⟩
    case round =>
      clear pl0
      obtain ⟨k, m, last, om, Ar, cr, rfl, hk, hmk, hlk, pl⟩ := hrel
      obtain ⟨wo, hwo⟩ : ∃ wo, wo = wr := ⟨_, rfl⟩
      subst hwo
      by_cases hlt : k < L.length
      · obtain ⟨b, off, rfl, hb, hact⟩ := HA.out (by intro e; rw [e] at hlt; simp at hlt)
        obtain ⟨x, hx⟩ : ∃ x, L[k]? = some x := ⟨L[k], List.getElem?_eq_getElem hlt⟩
        have hx0 := hact k x hx
        have hI := hx0.own
        obtain ⟨h0, h1, h2, h3, h4, h5, _⟩ := hx0.below rfl pl.T hb
        have hxn := XC.new wo x
        have hl0 := pl.R.l0
        have hwb : w.heap.size ≤ wo.heap.size := pl.T.size
        obtain ⟨dd, ⟨ep, nodes, oa, oc, own⟩, part, to⟩ := x
        simp only at h0 h1 h2 h3 h4 h5 hI hxn
        have HI := Lib.hid hI
        clear hact hx hx0 hI
        go_wp2_with (fail)
        refine (order_nil ⟨ep, nodes, oa, oc, own⟩ part to _).mono ?_
        rintro e w5 ⟨rfl, hB5⟩
        have pl5 := (pl.alloc _).below hB5
        have xc5 := hxn.below hB5
        have hxo : ∀ y ∈ foot p om, y ≠ wo.heap.size := fun y hy => by have := foot_lt pl.K y hy; omega
        have hxr : w2.heap.size ≠ wo.heap.size := by have := pl.le; omega
        clear hB5 hxn h0 h1 h2 h3 h4 h5 pl
        obtain ⟨x0, x1, x2, x3, x4, x5, _⟩ := id xc5
        simp only at x0 x1 x2 x3 x4 x5
        go_wp2_with (fail)
        refine (of_nil part _).mono ?_
        rintro e w6 ⟨rfl, hB⟩
        simp only [En.zero, En.val]
        have pl6 := pl5.below hB
        have xc6 := xc5.below hB
        clear hB xc5 pl5 x0 x1 x2 x3 x4 x5
        obtain ⟨x0, x1, x2, x3, x4, x5, _⟩ := id xc6
        simp only at x0 x1 x2 x3 x4 x5
        go_wp2_with (fail)
        refine (by_nil mv _).mono ?_
        rintro e w7 ⟨rfl, hB⟩
        simp only [En.zero, En.val]
        have pl7 := (pl6.alloc _).below hB
        have xc7 := (xc6.below ((Below.refl _ _).alloc (Nat.le_refl _) _)).below hB
        clear hB xc6 pl6 x0 x1 x2 x3 x4 x5
        obtain ⟨x0, x1, x2, x3, x4, x5, _⟩ := id xc7
        simp only at x0 x1 x2 x3 x4 x5
        go_wp2_with (fail)
        refine (end_nil part _).mono ?_
        rintro e w8 ⟨rfl, hB⟩
        have pl8 := (pl7.alloc _).below hB
        have xc8 := (xc7.below ((Below.refl _ _).alloc (Nat.le_refl _) _)).below hB
        clear hB xc7 pl7 x0 x1 x2 x3 x4 x5
        go_wp2_with (fail)
        refine (all_nil _).mono ?_
        rintro e w9 ⟨Az, cz, rfl, _, hB⟩
        simp only [List.length_nil]
        have pl9 := pl8.below hB
        have xc9 := xc8.below hB
        clear hB xc8 pl8
        obtain ⟨x0, x1, x2, x3, x4, x5, _⟩ := id xc9
        simp only at x0 x1 x2 x3 x4 x5
        go_wp2_with (fail)
        refine (last_nil _).mono ?_
        rintro e w9b ⟨rfl, rfl⟩
        by_cases hd0 : dd = 0
        · as_aux_lemma =>
            subst hd0
            obtain ⟨q0, q1, q2, qf⟩ := pl9.B.facts
            have hro := refOrd_any pl9.E pl9.n (Nat.zero_le _) (by omega) pl9.pk pl9.R.l0 (by omega) ⟨ep, nodes, oa, oc, own⟩ (HI.out.below pl9.T) part to
            have hln := ordF_len ⟨ep, nodes, oa, oc, own⟩ part to m last
            have hla := ordF_last1 ⟨ep, nodes, oa, oc, own⟩ part to m last
            have hR2 := pl9.R.order ⟨ep, nodes, oa, oc, own⟩ part to
            have hpk2 := ordF_pk (t := ⟨ep, nodes, oa, oc, own⟩) (part := part) (to := to) (last := last) pl9.pk
            have hor := fun W (bk : BookAt W p om m last) (hB : Below w.heap.size w W) => order_any bk pl9.R.nd pl9.R.l0 ⟨ep, nodes, oa, oc, own⟩ (HI.out.below hB) (HI.out.ne (pl9.g p (.head _))) part to
            obtain ⟨⟨n, er, m2, l2⟩, hr⟩ : ∃ r, ordF ⟨ep, nodes, oa, oc, own⟩ part to m last = r := ⟨_, rfl⟩
            rw [hr] at hro hln hla hR2 hpk2
            simp only [hr] at hor
            simp only at hln hla hR2 hpk2
            have HRO := Lib.hid hro
            have HOR := Lib.hid hor
            have HPK := Lib.hid hpk2
            clear hro hor hpk2 hr
            go_wp2_with (fail)
            refine HRO.out.mono ?_
            rintro e w10 ⟨A', c', he, hE', hn', ho', hB⟩
            simp only [refB] at he hE' ho'
            subst he
            have HE := Lib.hid hE'
            have HN := Lib.hid hn'
            have HO' := Lib.hid ho'
            clear hE' hn' ho' HRO q0 q1 q2 qf x0 x1 x2 x3 x4 x5
            have pl10 := pl9.below hB
            have xc10 := xc9.below hB
            obtain ⟨q0, q1, q2, qf⟩ := pl10.B.facts
            obtain ⟨x0, x1, x2, x3, x4, x5, x6⟩ := id xc10
            simp only at x0 x1 x2 x3 x4 x5
            have hxr' : wo.heap.size ≠ w2.heap.size := fun e => hxr e.symm
            have hB2 : Below w10.heap.size w10 (w10.alloc (.cells #[.slice A' m2.length c', .int .i64 l2] 58)) := (Below.refl _ _).alloc (Nat.le_refl _) _
            go_wp2_with (fail)
            refine (HOR.out _ (pl10.K.alloc _) (pl10.T.trans (hB2.mono pl10.T.size))).mono ?_
            rintro e w12 ⟨he, ⟨om2, bk12, hom⟩, hk⟩
            subst he
            clear q0 q1 q2 qf x0 x1 x2 x3 x4 x5
            obtain ⟨r0, r1, r2, rf⟩ := ((Box2.new w10 (.slice A' m2.length c') (.int .i64 l2) 58).keep hk (fun hh => by have := foot_lt pl10.K _ hh; omega)).facts
            have hbb := (pl10.B.below hB2).keep hk pl10.db
            obtain ⟨t0, t1, t2, tf⟩ := hbb.facts
            have hdb2 : w2.heap.size ∉ foot p om2 := by
              intro hx
              rcases hom with e | ⟨e, b2, e2, hb2⟩
              · exact pl10.db (e ▸ hx)
              · subst e2
                have hle := pl10.le
                have hsz := hB2.size
                rcases List.mem_cons.1 hx with e3 | e3
                · exact pl10.db (by simp [foot, e3])
                · have e' : b2 = w2.heap.size := by simpa [eq_comm] using e3
                  omega
            obtain ⟨w13, hw13⟩ : ∃ w13, (w12.setCell ⟨w2.heap.size, 0, none⟩ (.slice A' m2.length c')).setCell ⟨w2.heap.size, 1, none⟩ (.int .i64 l2) = w13 := ⟨_, rfl⟩
            have bk13 : BookAt w13 p om2 m2 l2 := hw13 ▸ bk12.keep (((Keep.refl [w2.heap.size] w12).setCell w2.heap.size 0 (.slice A' m2.length c') (.inl (by simp))).setCell w2.heap.size 1 (.int .i64 l2) (.inl (by simp))) (fun x hx => by simp; intro e; exact hdb2 (e ▸ hx))
            have hk13 : Keep (w2.heap.size :: foot p om) (w10.alloc (.cells #[.slice A' m2.length c', .int .i64 l2] 58)) w13 := hw13 ▸ (((hk.mono (fun x hx => .inl (List.mem_cons_of_mem _ hx))).setCell w2.heap.size 0 (.slice A' m2.length c') (.inl (by simp))).setCell w2.heap.size 1 (.int .i64 l2) (.inl (by simp)))
            have hb13 : Box2 w13 w2.heap.size (.slice A' m2.length c') (.int .i64 l2) 58 := hw13 ▸ hbb.set _ _
            have plt : Pl w w13 p w2.heap.size om2 m2 l2 A' c' := pl9.step hB HE.out HN.out HO'.out hB2 bk13 hR2 HPK.out hom hk13 hb13
            have xct := (xc10.below hB2).keep hk13 (fun hx => by rcases List.mem_cons.1 hx with e | e; exact hxr' e; exact hxo _ e rfl)
            clear hB HE HN HO' HOR HPK bk12 hk hk13 hb13 bk13 hom hdb2 hbb hB2 pl10 xc10 pl9 xc9 hxo hxr hR2
            have HW : Below w13.heap.size w13 w13 := Below.refl _ _
            obtain ⟨⟨o1, o2, o3, o4⟩, ho⟩ : ∃ o, (look part m2).getD En.zero = o := ⟨_, rfl⟩
            obtain ⟨is, his⟩ : ∃ is, (look part m2).isSome = is := ⟨_, rfl⟩
            obtain ⟨⟨s1, s2, s3, s4⟩, hs⟩ : ∃ o, (findMv mv (m2.map (·.2))).getD En.zero = o := ⟨_, rfl⟩
            obtain ⟨it, hit⟩ : ∃ it, (findMv mv (m2.map (·.2))).isSome = it := ⟨_, rfl⟩
            have hmm : (m2.map (·.2)).length = m2.length := by simp
            have hof := of_any plt.K part
            rw [ho, his] at hof
            simp only [En.val] at hof
            have hrf := fun W (hB : Below w13.heap.size w13 W) => refOf_any (last := l2) (c := c') (plt.E.below hB) (by rw [hmm]; omega) part
            rw [hmm, findPt_look plt.pk] at hrf
            have hby := fun W (hB : Below w13.heap.size w13 W) => by_gen (ptr := .pointer (some ⟨p, 0, none⟩)) (w := W) (L := m2.map (·.2)) (by rw [hmm]; omega) mv (fun W' hB' => all_any ((plt.K.below hB).below hB') (by omega) plt.R.up)
            have hrb := fun W (hB : Below w13.heap.size w13 W) => refBy_any (last := l2) (c := c') (plt.E.below hB) (by rw [hmm]; omega) mv
            rw [hmm] at hrb
            have HOF := Lib.hid hof
            have HRF := Lib.hid hrf
            have HBY := Lib.hid hby
            have HRB := Lib.hid hrb
            have HO := Lib.hid ho
            have HIS := Lib.hid his
            have HSS := Lib.hid hs
            have HIT := Lib.hid hit
            clear ho his hs hit hof hrf hby hrb hmm
            obtain ⟨q0, q1, q2, _⟩ := (plt.below HW).B.facts
            obtain ⟨x0, x1, x2, x3, x4, x5, _⟩ := id (xct.below HW)
            try simp only at x0 x1 x2 x3 x4 x5
            go_wp2_with (fail)
            clear hw13 r0 r1 t0 t1
            refine HOF.out.mono ?_
            rintro e wa ⟨rfl, hB⟩
            clear q0 q1 q2 x0 x1 x2 x3 x4 x5
            replace HW : Below w13.heap.size w13 wa := hB
            have HV : Below w13.heap.size w13 (wa.alloc (.cells #[.int .i64 o1, .int .i64 o2, .int .i64 o3, .int .i64 o4] 51)) := HW.alloc HW.size _
            have xo := EnC.new wa o1 o2 o3 o4
            clear hB HOF
            obtain ⟨q0, q1, q2, _⟩ := (plt.below HW).B.facts
            obtain ⟨x0, x1, x2, x3, x4, x5, _⟩ := id (xct.below HW)
            try simp only at x0 x1 x2 x3 x4 x5
            go_wp2_with (fail)
            refine (HRF.out _ HV).mono ?_
            rintro e wb hb'
            obtain ⟨rfl, hB⟩ := byP_eq hb' HO.out HIS.out
            clear hb'
            simp only [En.val]
            clear q0 q1 q2 x0 x1 x2 x3 x4 x5
            replace HW : Below w13.heap.size w13 wb := HV.trans (hB.mono HV.size)
            replace xo := xo.belowP hB
            clear hB HV HRF
            have HV : Below w13.heap.size w13 (wb.alloc (.cells #[.int .i64 o1, .int .i64 o2, .int .i64 o3, .int .i64 o4] 63)) := HW.alloc HW.size _
            have xr := EnC.newR wb o1 o2 o3 o4
            obtain ⟨q0, q1, q2, _⟩ := (plt.below HW).B.facts
            obtain ⟨x0, x1, x2, x3, x4, x5, _⟩ := id (xct.below HW)
            try simp only at x0 x1 x2 x3 x4 x5
            go_wp2_with (fail)
            refine (HBY.out _ HV).mono ?_
            rintro e wc hb'
            obtain ⟨rfl, hB⟩ := byP_eq hb' HSS.out HIT.out
            clear hb'
            simp only [En.val]
            clear q0 q1 q2 x0 x1 x2 x3 x4 x5
            replace HW : Below w13.heap.size w13 wc := HV.trans (hB.mono HV.size)
            replace xo := (xo.belowP ((Below.refl _ _).alloc (Nat.le_refl _) _)).belowP hB
            replace xr := xr.belowP hB
            clear hB HV HBY
            have HV : Below w13.heap.size w13 (wc.alloc (.cells #[.int .i64 s1, .int .i64 s2, .int .i64 s3, .int .i64 s4] 51)) := HW.alloc HW.size _
            have xs := EnC.new wc s1 s2 s3 s4
            obtain ⟨q0, q1, q2, _⟩ := (plt.below HW).B.facts
            obtain ⟨x0, x1, x2, x3, x4, x5, _⟩ := id (xct.below HW)
            try simp only at x0 x1 x2 x3 x4 x5
            go_wp2_with (fail)
            refine (HRB.out _ HV).mono ?_
            rintro e wd hb'
            obtain ⟨rfl, hB⟩ := byP_eq hb' HSS.out HIT.out
            clear hb'
            simp only [En.val]
            clear q0 q1 q2 x0 x1 x2 x3 x4 x5
            replace HW : Below w13.heap.size w13 wd := HV.trans (hB.mono HV.size)
            replace xo := (xo.belowP ((Below.refl _ _).alloc (Nat.le_refl _) _)).belowP hB
            replace xr := (xr.belowP ((Below.refl _ _).alloc (Nat.le_refl _) _)).belowP hB
            replace xs := xs.belowP hB
            clear hB HV HRB
            have HV : Below w13.heap.size w13 (wd.alloc (.cells #[.int .i64 s1, .int .i64 s2, .int .i64 s3, .int .i64 s4] 63)) := HW.alloc HW.size _
            have xt := EnC.newR wd s1 s2 s3 s4
            go_wp2_with (fail)
            refine (all_any (plt.K.below HV) (by omega) plt.R.up).mono ?_
            rintro e we ⟨Aa, ca, rfl, hEa, hB⟩
            simp only [List.length_map]
            replace HW : Below w13.heap.size w13 we := HV.trans (hB.mono HV.size)
            replace xo := (xo.belowP ((Below.refl _ _).alloc (Nat.le_refl _) _)).belowP hB
            replace xr := (xr.belowP ((Below.refl _ _).alloc (Nat.le_refl _) _)).belowP hB
            replace xs := (xs.belowP ((Below.refl _ _).alloc (Nat.le_refl _) _)).belowP hB
            replace xt := xt.belowP hB
            have pla := plt.below HW
            have HEA := Lib.hid hEa
            clear hB HV HW plt xct hEa
            obtain ⟨q0, q1, q2, _⟩ := pla.B.facts
            obtain ⟨a0, a1, a2, a3, ag⟩ := xo
            obtain ⟨b0, b1, b2, b3, bg⟩ := xr
            obtain ⟨c0, c1, c2, c3, cg⟩ := xs
            obtain ⟨d0, d1, d2, d3, dg⟩ := xt
            simp only at a0 a1 a2 a3 b0 b1 b2 b3 c0 c1 c2 c3 d0 d1 d2 d3
            have hsame := fun x1 x2 x3 x4 W => same_any ⟨x1, x2, x3, x4⟩ ⟨x1, x2, x3, x4⟩ W
            simp only [En.val, decide_true] at hsame
            have HSA := Lib.hid hsame
            have HP := Lib.hid pla
            clear hsame pla
            go_wp2_with (fail)
            refine wp_region_quiet (C := fun W => Below we.heap.size we W) rfl (by kernel_rfl) ((Below.refl _ we).drew) ?_
            generalize hfr : Act.mk _ _ = fr
            iterate 35
              refine wpQuiet_step (fun K hK => ?_)
              subst hfr
              go_simp
              first
                | (generalize hfr : Act.mk _ _ = fr; with_reducible refine hK fr ?_; clear hK K)
                | (refine ite_no2 (by decide) ?_; generalize hfr : Act.mk _ _ = fr; with_reducible refine hK fr ?_; clear hK K)
                | (apply Exists.intro; refine ⟨fun w' hw' => ?_, ?_⟩
                   · first
                     | exact rfl
                     | exact (HSA.out _ _ _ _ w').mono (fun e w'' ⟨he, hB⟩ => ⟨he, hw'.trans (hB.mono hw'.size)⟩)
                     | exact (last_any (HP.out.K.below hw')).mono (fun e w'' ⟨he, hB⟩ => ⟨he, hB ▸ hw'⟩)
                     | (have a0' := (hw'.cell (p := ⟨wa.heap.size, 0, none⟩) ag).trans a0; have a1' := (hw'.cell (p := ⟨wa.heap.size, 1, none⟩) ag).trans a1; have a2' := (hw'.cell (p := ⟨wa.heap.size, 2, none⟩) ag).trans a2; have a3' := (hw'.cell (p := ⟨wa.heap.size, 3, none⟩) ag).trans a3; have b0' := (hw'.cell (p := ⟨wb.heap.size, 0, none⟩) bg).trans b0; have b1' := (hw'.cell (p := ⟨wb.heap.size, 1, none⟩) bg).trans b1; have b2' := (hw'.cell (p := ⟨wb.heap.size, 2, none⟩) bg).trans b2; have b3' := (hw'.cell (p := ⟨wb.heap.size, 3, none⟩) bg).trans b3; have c0' := (hw'.cell (p := ⟨wc.heap.size, 0, none⟩) cg).trans c0; have c1' := (hw'.cell (p := ⟨wc.heap.size, 1, none⟩) cg).trans c1; have c2' := (hw'.cell (p := ⟨wc.heap.size, 2, none⟩) cg).trans c2; have c3' := (hw'.cell (p := ⟨wc.heap.size, 3, none⟩) cg).trans c3; have d0' := (hw'.cell (p := ⟨wd.heap.size, 0, none⟩) dg).trans d0; have d1' := (hw'.cell (p := ⟨wd.heap.size, 1, none⟩) dg).trans d1; have d2' := (hw'.cell (p := ⟨wd.heap.size, 2, none⟩) dg).trans d2; have d3' := (hw'.cell (p := ⟨wd.heap.size, 3, none⟩) dg).trans d3; have q0' := (hw'.cell (p := ⟨w2.heap.size, 0, none⟩) q2).trans q0; have q1' := (hw'.cell (p := ⟨w2.heap.size, 1, none⟩) q2).trans q1; go_simp; first | done | exact rfl)
                   generalize hfr : Act.mk _ _ = fr
                   with_reducible refine hK fr ?_
                   clear hK K)
            refine wpQuiet_nil ?_
            subst hfr
            intro W' hW'
            have plz := HP.out.below hW'
            have hEz := HEA.out.below hW'
            clear a0 a1 a2 a3 b0 b1 b2 b3 c0 c1 c2 c3 d0 d1 d2 d3 q0 q1 HP HEA hW'
            go_wp2_with (fail)
            refine pl_inner plz hEz (by omega) ?_
            clear plz hEz
            intros
            rename_i wi plj
            go_wp2_with (fail)
            go_roundw
            case rel => exact ⟨k + 1, m2, l2, om2, A', c', by go_num, by omega, by omega, by omega, plj⟩
            case measure => go_light; simp [intOf]; omega
        · by_cases hd1 : dd = 1
          · as_aux_lemma =>
              subst hd1
              obtain ⟨q0, q1, q2, qf⟩ := pl9.B.facts
              have hmm : (m.map (·.2)).length = m.length := by simp
              have hre := refEnd_any (c := cr) (last := last) pl9.E (by rw [hmm]; omega) part
              rw [hmm] at hre
              obtain ⟨is, his⟩ : ∃ is, (look part m).isSome = is := ⟨_, rfl⟩
              go_wp2_with (fail)
              refine hre.mono ?_
              rintro e w10 ⟨A', c', he, hE', hn', hB⟩
              rw [endL_del pl9.pk part] at he hE'
              simp only [List.length_map, del_is part m pl9.R.nd, his, refB] at he
              subst he
              have hdl := del_len part m
              have HIS := Lib.hid his
              have HE2 := Lib.hid hE'
              have HE := Lib.hid (hE'.weaken (Nat.zero_le _))
              have HN := Lib.hid hn'
              clear his hE' hn' hre hmm q0 q1 q2 qf x0 x1 x2 x3 x4 x5
              have pl10 := pl9.below hB
              have xc10 := xc9.below hB
              obtain ⟨q0, q1, q2, qf⟩ := pl10.B.facts
              obtain ⟨x0, x1, x2, x3, x4, x5, x6⟩ := id xc10
              simp only at x0 x1 x2 x3 x4 x5
              have hxr' : wo.heap.size ≠ w2.heap.size := fun e => hxr e.symm
              have bk11 := pl10.K.keep (((Keep.refl [w2.heap.size] w10).setCell w2.heap.size 0 (.slice A' (del part m).length c') (.inl (by simp))).setCell w2.heap.size 1 (.int .i64 last) (.inl (by simp))) (fun x hx => by simp; intro e; exact pl10.db (e ▸ hx))
              have hen := end_book (bk11.alloc (.cells #[.slice A' (del part m).length c', .int .i64 last] 58)) pl10.R.nd part
              go_wp2_with (fail)
              refine hen.mono ?_
              rintro e w12 ⟨he, bk12, hk⟩
              rw [HIS.out] at he
              subst he
              have hk2 : Keep (w2.heap.size :: foot p om) w10 w12 := ((((Keep.refl _ w10).setCell w2.heap.size 0 (.slice A' (del part m).length c') (.inl (by simp))).setCell w2.heap.size 1 (.int .i64 last) (.inl (by simp))).alloc (.cells #[.slice A' (del part m).length c', .int .i64 last] 58)).trans (hk.mono (fun x hx => .inl (List.mem_cons_of_mem _ hx)))
              have hb12 := Box2.keep ((pl10.B.set (.slice A' (del part m).length c') (.int .i64 last)).below ((Below.refl _ _).alloc (Nat.le_refl _) (.cells #[.slice A' (del part m).length c', .int .i64 last] 58))) hk pl10.db
              have plt : Pl w w12 p w2.heap.size om (del part m) last A' c' := pl9.step hB HE.out HN.out (.inr (by exact HE2.out)) (Below.refl _ _) bk12 (pl9.R.del part) (fun q hq => pl9.pk q (List.mem_filter.1 hq).1) (.inl rfl) hk2 hb12
              have xct := xc10.keep hk2 (fun hx => by rcases List.mem_cons.1 hx with e | e; exact hxr' e; exact hxo _ e rfl)
              clear hB HE HE2 HN bk11 hen bk12 hk hk2 hb12 pl10 xc10 pl9 xc9 q0 q1 q2 qf x0 x1 x2 x3 x4 x5 hxo hxr HIS
              have HW : Below w12.heap.size w12 w12 := Below.refl _ _
              obtain ⟨⟨o1, o2, o3, o4⟩, ho⟩ : ∃ o, (look part (del part m)).getD En.zero = o := ⟨_, rfl⟩
              obtain ⟨is, his⟩ : ∃ is, (look part (del part m)).isSome = is := ⟨_, rfl⟩
              obtain ⟨⟨s1, s2, s3, s4⟩, hs⟩ : ∃ o, (findMv mv ((del part m).map (·.2))).getD En.zero = o := ⟨_, rfl⟩
              obtain ⟨it, hit⟩ : ∃ it, (findMv mv ((del part m).map (·.2))).isSome = it := ⟨_, rfl⟩
              have hmm : ((del part m).map (·.2)).length = (del part m).length := by simp
              have hof := of_any plt.K part
              rw [ho, his] at hof
              simp only [En.val] at hof
              have hrf := fun W (hB : Below w12.heap.size w12 W) => refOf_any (last := last) (c := c') (plt.E.below hB) (by rw [hmm]; omega) part
              rw [hmm, findPt_look plt.pk] at hrf
              have hby := fun W (hB : Below w12.heap.size w12 W) => by_gen (ptr := .pointer (some ⟨p, 0, none⟩)) (w := W) (L := (del part m).map (·.2)) (by rw [hmm]; omega) mv (fun W' hB' => all_any ((plt.K.below hB).below hB') (by omega) plt.R.up)
              have hrb := fun W (hB : Below w12.heap.size w12 W) => refBy_any (last := last) (c := c') (plt.E.below hB) (by rw [hmm]; omega) mv
              rw [hmm] at hrb
              have HOF := Lib.hid hof
              have HRF := Lib.hid hrf
              have HBY := Lib.hid hby
              have HRB := Lib.hid hrb
              have HO := Lib.hid ho
              have HIS := Lib.hid his
              have HSS := Lib.hid hs
              have HIT := Lib.hid hit
              clear ho his hs hit hof hrf hby hrb hmm
              obtain ⟨q0, q1, q2, _⟩ := (plt.below HW).B.facts
              obtain ⟨x0, x1, x2, x3, x4, x5, _⟩ := id (xct.below HW)
              try simp only at x0 x1 x2 x3 x4 x5
              go_wp2_with (fail)
              refine HOF.out.mono ?_
              rintro e wa ⟨rfl, hB⟩
              clear q0 q1 q2 x0 x1 x2 x3 x4 x5
              replace HW : Below w12.heap.size w12 wa := hB
              have HV : Below w12.heap.size w12 (wa.alloc (.cells #[.int .i64 o1, .int .i64 o2, .int .i64 o3, .int .i64 o4] 51)) := HW.alloc HW.size _
              have xo := EnC.new wa o1 o2 o3 o4
              clear hB HOF
              obtain ⟨q0, q1, q2, _⟩ := (plt.below HW).B.facts
              obtain ⟨x0, x1, x2, x3, x4, x5, _⟩ := id (xct.below HW)
              try simp only at x0 x1 x2 x3 x4 x5
              go_wp2_with (fail)
              refine (HRF.out _ HV).mono ?_
              rintro e wb hb'
              obtain ⟨rfl, hB⟩ := byP_eq hb' HO.out HIS.out
              clear hb'
              simp only [En.val]
              clear q0 q1 q2 x0 x1 x2 x3 x4 x5
              replace HW : Below w12.heap.size w12 wb := HV.trans (hB.mono HV.size)
              replace xo := xo.belowP hB
              clear hB HV HRF
              have HV : Below w12.heap.size w12 (wb.alloc (.cells #[.int .i64 o1, .int .i64 o2, .int .i64 o3, .int .i64 o4] 63)) := HW.alloc HW.size _
              have xr := EnC.newR wb o1 o2 o3 o4
              obtain ⟨q0, q1, q2, _⟩ := (plt.below HW).B.facts
              obtain ⟨x0, x1, x2, x3, x4, x5, _⟩ := id (xct.below HW)
              try simp only at x0 x1 x2 x3 x4 x5
              go_wp2_with (fail)
              refine (HBY.out _ HV).mono ?_
              rintro e wc hb'
              obtain ⟨rfl, hB⟩ := byP_eq hb' HSS.out HIT.out
              clear hb'
              simp only [En.val]
              clear q0 q1 q2 x0 x1 x2 x3 x4 x5
              replace HW : Below w12.heap.size w12 wc := HV.trans (hB.mono HV.size)
              replace xo := (xo.belowP ((Below.refl _ _).alloc (Nat.le_refl _) _)).belowP hB
              replace xr := xr.belowP hB
              clear hB HV HBY
              have HV : Below w12.heap.size w12 (wc.alloc (.cells #[.int .i64 s1, .int .i64 s2, .int .i64 s3, .int .i64 s4] 51)) := HW.alloc HW.size _
              have xs := EnC.new wc s1 s2 s3 s4
              obtain ⟨q0, q1, q2, _⟩ := (plt.below HW).B.facts
              obtain ⟨x0, x1, x2, x3, x4, x5, _⟩ := id (xct.below HW)
              try simp only at x0 x1 x2 x3 x4 x5
              go_wp2_with (fail)
              refine (HRB.out _ HV).mono ?_
              rintro e wd hb'
              obtain ⟨rfl, hB⟩ := byP_eq hb' HSS.out HIT.out
              clear hb'
              simp only [En.val]
              clear q0 q1 q2 x0 x1 x2 x3 x4 x5
              replace HW : Below w12.heap.size w12 wd := HV.trans (hB.mono HV.size)
              replace xo := (xo.belowP ((Below.refl _ _).alloc (Nat.le_refl _) _)).belowP hB
              replace xr := (xr.belowP ((Below.refl _ _).alloc (Nat.le_refl _) _)).belowP hB
              replace xs := xs.belowP hB
              clear hB HV HRB
              have HV : Below w12.heap.size w12 (wd.alloc (.cells #[.int .i64 s1, .int .i64 s2, .int .i64 s3, .int .i64 s4] 63)) := HW.alloc HW.size _
              have xt := EnC.newR wd s1 s2 s3 s4
              go_wp2_with (fail)
              refine (all_any (plt.K.below HV) (by omega) plt.R.up).mono ?_
              rintro e we ⟨Aa, ca, rfl, hEa, hB⟩
              simp only [List.length_map]
              replace HW : Below w12.heap.size w12 we := HV.trans (hB.mono HV.size)
              replace xo := (xo.belowP ((Below.refl _ _).alloc (Nat.le_refl _) _)).belowP hB
              replace xr := (xr.belowP ((Below.refl _ _).alloc (Nat.le_refl _) _)).belowP hB
              replace xs := (xs.belowP ((Below.refl _ _).alloc (Nat.le_refl _) _)).belowP hB
              replace xt := xt.belowP hB
              have pla := plt.below HW
              have HEA := Lib.hid hEa
              clear hB HV HW plt xct hEa
              obtain ⟨q0, q1, q2, _⟩ := pla.B.facts
              obtain ⟨a0, a1, a2, a3, ag⟩ := xo
              obtain ⟨b0, b1, b2, b3, bg⟩ := xr
              obtain ⟨c0, c1, c2, c3, cg⟩ := xs
              obtain ⟨d0, d1, d2, d3, dg⟩ := xt
              simp only at a0 a1 a2 a3 b0 b1 b2 b3 c0 c1 c2 c3 d0 d1 d2 d3
              have hsame := fun x1 x2 x3 x4 W => same_any ⟨x1, x2, x3, x4⟩ ⟨x1, x2, x3, x4⟩ W
              simp only [En.val, decide_true] at hsame
              have HSA := Lib.hid hsame
              have HP := Lib.hid pla
              clear hsame pla
              go_wp2_with (fail)
              refine wp_region_quiet (C := fun W => Below we.heap.size we W) rfl (by kernel_rfl) ((Below.refl _ we).drew) ?_
              generalize hfr : Act.mk _ _ = fr
              iterate 35
                refine wpQuiet_step (fun K hK => ?_)
                subst hfr
                go_simp
                first
                  | (generalize hfr : Act.mk _ _ = fr; with_reducible refine hK fr ?_; clear hK K)
                  | (refine ite_no2 (by decide) ?_; generalize hfr : Act.mk _ _ = fr; with_reducible refine hK fr ?_; clear hK K)
                  | (apply Exists.intro; refine ⟨fun w' hw' => ?_, ?_⟩
                     · first
                       | exact rfl
                       | exact (HSA.out _ _ _ _ w').mono (fun e w'' ⟨he, hB⟩ => ⟨he, hw'.trans (hB.mono hw'.size)⟩)
                       | exact (last_any (HP.out.K.below hw')).mono (fun e w'' ⟨he, hB⟩ => ⟨he, hB ▸ hw'⟩)
                       | (have a0' := (hw'.cell (p := ⟨wa.heap.size, 0, none⟩) ag).trans a0; have a1' := (hw'.cell (p := ⟨wa.heap.size, 1, none⟩) ag).trans a1; have a2' := (hw'.cell (p := ⟨wa.heap.size, 2, none⟩) ag).trans a2; have a3' := (hw'.cell (p := ⟨wa.heap.size, 3, none⟩) ag).trans a3; have b0' := (hw'.cell (p := ⟨wb.heap.size, 0, none⟩) bg).trans b0; have b1' := (hw'.cell (p := ⟨wb.heap.size, 1, none⟩) bg).trans b1; have b2' := (hw'.cell (p := ⟨wb.heap.size, 2, none⟩) bg).trans b2; have b3' := (hw'.cell (p := ⟨wb.heap.size, 3, none⟩) bg).trans b3; have c0' := (hw'.cell (p := ⟨wc.heap.size, 0, none⟩) cg).trans c0; have c1' := (hw'.cell (p := ⟨wc.heap.size, 1, none⟩) cg).trans c1; have c2' := (hw'.cell (p := ⟨wc.heap.size, 2, none⟩) cg).trans c2; have c3' := (hw'.cell (p := ⟨wc.heap.size, 3, none⟩) cg).trans c3; have d0' := (hw'.cell (p := ⟨wd.heap.size, 0, none⟩) dg).trans d0; have d1' := (hw'.cell (p := ⟨wd.heap.size, 1, none⟩) dg).trans d1; have d2' := (hw'.cell (p := ⟨wd.heap.size, 2, none⟩) dg).trans d2; have d3' := (hw'.cell (p := ⟨wd.heap.size, 3, none⟩) dg).trans d3; have q0' := (hw'.cell (p := ⟨w2.heap.size, 0, none⟩) q2).trans q0; have q1' := (hw'.cell (p := ⟨w2.heap.size, 1, none⟩) q2).trans q1; go_simp; first | done | exact rfl)
                     generalize hfr : Act.mk _ _ = fr
                     with_reducible refine hK fr ?_
                     clear hK K)
              refine wpQuiet_nil ?_
              subst hfr
              intro W' hW'
              have plz := HP.out.below hW'
              have hEz := HEA.out.below hW'
              clear a0 a1 a2 a3 b0 b1 b2 b3 c0 c1 c2 c3 d0 d1 d2 d3 q0 q1 HP HEA hW'
              go_wp2_with (fail)
              refine pl_inner plz hEz (by omega) ?_
              clear plz hEz
              intros
              rename_i wi plj
              go_wp2_with (fail)
              go_roundw
              case rel => exact ⟨k + 1, (del part m), last, om, A', c', by go_num, by omega, by omega, by omega, plj⟩
              case measure => go_light; simp [intOf]; omega
          · as_aux_lemma =>
              have plt := pl9
              have xct := xc9
              clear pl9 xc9 x1 x2 x3 x4 x5 hxo hxr
              have hbx := plt.B.facts
              have HW : Below w9.heap.size w9 w9 := Below.refl _ _
              obtain ⟨⟨o1, o2, o3, o4⟩, ho⟩ : ∃ o, (look part m).getD En.zero = o := ⟨_, rfl⟩
              obtain ⟨is, his⟩ : ∃ is, (look part m).isSome = is := ⟨_, rfl⟩
              obtain ⟨⟨s1, s2, s3, s4⟩, hs⟩ : ∃ o, (findMv mv (m.map (·.2))).getD En.zero = o := ⟨_, rfl⟩
              obtain ⟨it, hit⟩ : ∃ it, (findMv mv (m.map (·.2))).isSome = it := ⟨_, rfl⟩
              have hmm : (m.map (·.2)).length = m.length := by simp
              have hof := of_any plt.K part
              rw [ho, his] at hof
              simp only [En.val] at hof
              have hrf := fun W (hB : Below w9.heap.size w9 W) => refOf_any (last := last) (c := cr) (plt.E.below hB) (by rw [hmm]; omega) part
              rw [hmm, findPt_look plt.pk] at hrf
              have hby := fun W (hB : Below w9.heap.size w9 W) => by_gen (ptr := .pointer (some ⟨p, 0, none⟩)) (w := W) (L := m.map (·.2)) (by rw [hmm]; omega) mv (fun W' hB' => all_any ((plt.K.below hB).below hB') (by omega) plt.R.up)
              have hrb := fun W (hB : Below w9.heap.size w9 W) => refBy_any (last := last) (c := cr) (plt.E.below hB) (by rw [hmm]; omega) mv
              rw [hmm] at hrb
              have HOF := Lib.hid hof
              have HRF := Lib.hid hrf
              have HBY := Lib.hid hby
              have HRB := Lib.hid hrb
              have HO := Lib.hid ho
              have HIS := Lib.hid his
              have HSS := Lib.hid hs
              have HIT := Lib.hid hit
              clear ho his hs hit hof hrf hby hrb hmm
              obtain ⟨q0, q1, q2, _⟩ := (plt.below HW).B.facts
              obtain ⟨_, x1, x2, x3, x4, x5, _⟩ := id (xct.below HW)
              try simp only at x1 x2 x3 x4 x5
              go_wp2_with (fail)
              refine HOF.out.mono ?_
              rintro e wa ⟨rfl, hB⟩
              clear q0 q1 q2 x1 x2 x3 x4 x5
              replace HW : Below w9.heap.size w9 wa := hB
              have HV : Below w9.heap.size w9 (wa.alloc (.cells #[.int .i64 o1, .int .i64 o2, .int .i64 o3, .int .i64 o4] 51)) := HW.alloc HW.size _
              have xo := EnC.new wa o1 o2 o3 o4
              clear hB HOF
              obtain ⟨q0, q1, q2, _⟩ := (plt.below HW).B.facts
              obtain ⟨_, x1, x2, x3, x4, x5, _⟩ := id (xct.below HW)
              try simp only at x1 x2 x3 x4 x5
              go_wp2_with (fail)
              refine (HRF.out _ HV).mono ?_
              rintro e wb hb'
              obtain ⟨rfl, hB⟩ := byP_eq hb' HO.out HIS.out
              clear hb'
              simp only [En.val]
              clear q0 q1 q2 x1 x2 x3 x4 x5
              replace HW : Below w9.heap.size w9 wb := HV.trans (hB.mono HV.size)
              replace xo := xo.belowP hB
              clear hB HV HRF
              have HV : Below w9.heap.size w9 (wb.alloc (.cells #[.int .i64 o1, .int .i64 o2, .int .i64 o3, .int .i64 o4] 63)) := HW.alloc HW.size _
              have xr := EnC.newR wb o1 o2 o3 o4
              obtain ⟨q0, q1, q2, _⟩ := (plt.below HW).B.facts
              obtain ⟨_, x1, x2, x3, x4, x5, _⟩ := id (xct.below HW)
              try simp only at x1 x2 x3 x4 x5
              go_wp2_with (fail)
              refine (HBY.out _ HV).mono ?_
              rintro e wc hb'
              obtain ⟨rfl, hB⟩ := byP_eq hb' HSS.out HIT.out
              clear hb'
              simp only [En.val]
              clear q0 q1 q2 x1 x2 x3 x4 x5
              replace HW : Below w9.heap.size w9 wc := HV.trans (hB.mono HV.size)
              replace xo := (xo.belowP ((Below.refl _ _).alloc (Nat.le_refl _) _)).belowP hB
              replace xr := xr.belowP hB
              clear hB HV HBY
              have HV : Below w9.heap.size w9 (wc.alloc (.cells #[.int .i64 s1, .int .i64 s2, .int .i64 s3, .int .i64 s4] 51)) := HW.alloc HW.size _
              have xs := EnC.new wc s1 s2 s3 s4
              obtain ⟨q0, q1, q2, _⟩ := (plt.below HW).B.facts
              obtain ⟨_, x1, x2, x3, x4, x5, _⟩ := id (xct.below HW)
              try simp only at x1 x2 x3 x4 x5
              go_wp2_with (fail)
              refine (HRB.out _ HV).mono ?_
              rintro e wd hb'
              obtain ⟨rfl, hB⟩ := byP_eq hb' HSS.out HIT.out
              clear hb'
              simp only [En.val]
              clear q0 q1 q2 x1 x2 x3 x4 x5
              replace HW : Below w9.heap.size w9 wd := HV.trans (hB.mono HV.size)
              replace xo := (xo.belowP ((Below.refl _ _).alloc (Nat.le_refl _) _)).belowP hB
              replace xr := (xr.belowP ((Below.refl _ _).alloc (Nat.le_refl _) _)).belowP hB
              replace xs := xs.belowP hB
              clear hB HV HRB
              have HV : Below w9.heap.size w9 (wd.alloc (.cells #[.int .i64 s1, .int .i64 s2, .int .i64 s3, .int .i64 s4] 63)) := HW.alloc HW.size _
              have xt := EnC.newR wd s1 s2 s3 s4
              go_wp2_with (fail)
              refine (all_any (plt.K.below HV) (by omega) plt.R.up).mono ?_
              rintro e we ⟨Aa, ca, rfl, hEa, hB⟩
              simp only [List.length_map]
              replace HW : Below w9.heap.size w9 we := HV.trans (hB.mono HV.size)
              replace xo := (xo.belowP ((Below.refl _ _).alloc (Nat.le_refl _) _)).belowP hB
              replace xr := (xr.belowP ((Below.refl _ _).alloc (Nat.le_refl _) _)).belowP hB
              replace xs := (xs.belowP ((Below.refl _ _).alloc (Nat.le_refl _) _)).belowP hB
              replace xt := xt.belowP hB
              have pla := plt.below HW
              have HEA := Lib.hid hEa
              clear hB HV HW plt xct hEa
              obtain ⟨q0, q1, q2, _⟩ := pla.B.facts
              obtain ⟨a0, a1, a2, a3, ag⟩ := xo
              obtain ⟨b0, b1, b2, b3, bg⟩ := xr
              obtain ⟨c0, c1, c2, c3, cg⟩ := xs
              obtain ⟨d0, d1, d2, d3, dg⟩ := xt
              simp only at a0 a1 a2 a3 b0 b1 b2 b3 c0 c1 c2 c3 d0 d1 d2 d3
              have hsame := fun x1 x2 x3 x4 W => same_any ⟨x1, x2, x3, x4⟩ ⟨x1, x2, x3, x4⟩ W
              simp only [En.val, decide_true] at hsame
              have HSA := Lib.hid hsame
              have HP := Lib.hid pla
              clear hsame pla
              go_wp2_with (fail)
              refine wp_region_quiet (C := fun W => Below we.heap.size we W) rfl (by kernel_rfl) ((Below.refl _ we).drew) ?_
              generalize hfr : Act.mk _ _ = fr
              iterate 35
                refine wpQuiet_step (fun K hK => ?_)
                subst hfr
                go_simp
                first
                  | (generalize hfr : Act.mk _ _ = fr; with_reducible refine hK fr ?_; clear hK K)
                  | (refine ite_no2 (by decide) ?_; generalize hfr : Act.mk _ _ = fr; with_reducible refine hK fr ?_; clear hK K)
                  | (apply Exists.intro; refine ⟨fun w' hw' => ?_, ?_⟩
                     · first
                       | exact rfl
                       | exact (HSA.out _ _ _ _ w').mono (fun e w'' ⟨he, hB⟩ => ⟨he, hw'.trans (hB.mono hw'.size)⟩)
                       | exact (last_any (HP.out.K.below hw')).mono (fun e w'' ⟨he, hB⟩ => ⟨he, hB ▸ hw'⟩)
                       | (have a0' := (hw'.cell (p := ⟨wa.heap.size, 0, none⟩) ag).trans a0; have a1' := (hw'.cell (p := ⟨wa.heap.size, 1, none⟩) ag).trans a1; have a2' := (hw'.cell (p := ⟨wa.heap.size, 2, none⟩) ag).trans a2; have a3' := (hw'.cell (p := ⟨wa.heap.size, 3, none⟩) ag).trans a3; have b0' := (hw'.cell (p := ⟨wb.heap.size, 0, none⟩) bg).trans b0; have b1' := (hw'.cell (p := ⟨wb.heap.size, 1, none⟩) bg).trans b1; have b2' := (hw'.cell (p := ⟨wb.heap.size, 2, none⟩) bg).trans b2; have b3' := (hw'.cell (p := ⟨wb.heap.size, 3, none⟩) bg).trans b3; have c0' := (hw'.cell (p := ⟨wc.heap.size, 0, none⟩) cg).trans c0; have c1' := (hw'.cell (p := ⟨wc.heap.size, 1, none⟩) cg).trans c1; have c2' := (hw'.cell (p := ⟨wc.heap.size, 2, none⟩) cg).trans c2; have c3' := (hw'.cell (p := ⟨wc.heap.size, 3, none⟩) cg).trans c3; have d0' := (hw'.cell (p := ⟨wd.heap.size, 0, none⟩) dg).trans d0; have d1' := (hw'.cell (p := ⟨wd.heap.size, 1, none⟩) dg).trans d1; have d2' := (hw'.cell (p := ⟨wd.heap.size, 2, none⟩) dg).trans d2; have d3' := (hw'.cell (p := ⟨wd.heap.size, 3, none⟩) dg).trans d3; have q0' := (hw'.cell (p := ⟨w2.heap.size, 0, none⟩) q2).trans q0; have q1' := (hw'.cell (p := ⟨w2.heap.size, 1, none⟩) q2).trans q1; go_simp; first | done | exact rfl)
                     generalize hfr : Act.mk _ _ = fr
                     with_reducible refine hK fr ?_
                     clear hK K)
              refine wpQuiet_nil ?_
              subst hfr
              intro W' hW'
              have plz := HP.out.below hW'
              have hEz := HEA.out.below hW'
              clear a0 a1 a2 a3 b0 b1 b2 b3 c0 c1 c2 c3 d0 d1 d2 d3 q0 q1 HP HEA hW'
              go_wp2_with (fail)
              refine pl_inner plz hEz (by omega) ?_
              clear plz hEz
              intros
              rename_i wi plj
              go_wp2_with (fail)
              go_roundw
              case rel => exact ⟨k + 1, m, last, om, Ar, cr, by go_num, by omega, by omega, by omega, plj⟩
              case measure => go_light; simp [intOf]; omega
      · obtain rfl : k = L.length := by omega
        go_wp2_with (fail)
        go_ret
        exact ⟨rfl, pl.T⟩
end Go.Proofs.Ytbkbekdeplolnaa
