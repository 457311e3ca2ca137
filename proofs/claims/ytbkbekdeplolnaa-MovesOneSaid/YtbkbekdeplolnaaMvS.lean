/- MovesOne: the walk. -/
import Derived.Test.YtbkbekdeplolnaaMvT
import Derived.Deep.Quiet
import Derived.IntWalk
namespace Go.Proofs.Ytbkbekdeplolnaa
open Go.RowKit Go.Shelf Go.Lib
open Go.ChangeMaps (setBlock)
set_option linter.unusedSimpArgs false
set_option linter.unusedVariables false
theorem ordF_a {t : Tb} {part to : Int} {m : List (Int × En)} {last : Int} (h : t.may part to ≠ 0) : ordF t part to m last = (0, t.may part to, m, last) := by unfold ordF; rw [if_pos h]
theorem ordF_b {t : Tb} {part to : Int} {m : List (Int × En)} {last : Int} (h : t.may part to = 0) (hs : (look part m).isSome = true) : ordF t part to m last = (0, 20, m, last) := by unfold ordF; rw [if_neg (by omega), if_pos hs]
theorem ordF_c {t : Tb} {part to : Int} {m : List (Int × En)} {last : Int} (h : t.may part to = 0) (hs : (look part m).isSome = false) (hl : last < 2147483647) :
    ordF t part to m last = (last + 1, 0, m ++ [(part, ⟨last + 1, part, t.owner[part.toNat]?.getD 0, to⟩)], last + 1) := by unfold ordF; rw [if_neg (by omega), if_neg (by simp [hs]), if_neg (by omega)]
theorem look_snoc {m : List (Int × En)} {k : Int} {x : En} (h : (look k m).isSome = false) : look k (m ++ [(k, x)]) = some x := by
  induction m with
  | nil => simp [look]
  | cons q r ih =>
    simp only [look] at h
    split at h
    · cases h
    · rename_i hne
      simp only [List.cons_append, look, if_neg hne]
      exact ih h
theorem del_len_eq {m : List (Int × En)} {k : Int} (hn : (m.map (·.1)).Nodup) (h : (look k m).isSome = true) : (del k m).length + 1 = m.length := by
  cases hp : pos k (m.map (·.1)) 0 with
  | none => rw [pos_none.1 hp] at h; cases h
  | some i =>
    obtain ⟨v, hv, _⟩ := pos_some hp
    have hi := (List.getElem?_eq_some_iff.1 hv).1
    rw [← eraseIdx_del hn hp, List.length_eraseIdx, if_pos hi]
    omega
theorem may_ok {ep nodes : Int} {oa : Option Addr} {oc : Nat} {own : List Int} {part to : Int} (h : Tb.may ⟨ep, nodes, oa, oc, own⟩ part to = 0) :
    ∃ pn : Nat, part = pn ∧ pn < own.length ∧ own[pn]?.getD 0 ≠ to := by
  unfold Tb.may at h
  split at h
  · cases h
  · split at h
    · cases h
    · split at h
      · cases h
      · split at h
        · cases h
        · rename_i h1 _ h3
          obtain ⟨pn, rfl⟩ := Int.eq_ofNat_of_zero_le (a := part) (by simp only at h1; omega)
          simp only [Int.toNat_natCast] at h3
          exact ⟨pn, rfl, by simp only at h1; omega, h3⟩
theorem EnC.below {W W' : World} {g : Nat} {x : En} (h : EnC W g x) (hk : Below W.heap.size W W') : EnC W' g x := h.keep (Keep.of_below hk []) (by simp)
theorem wpQuiet_skip {P : Program} {ops : Array Oper} {C : World → Prop} {Q : Act → Prop} {a fr : Act} {o : Oper} {rest : List Oper} (e : a = fr) (h : Region.wanted o (yielded ops a.tmps) = false)
    (hr : ∀ f, a.put o.dst undef = f → wpQuiet P ops C Q rest f) : wpQuiet P ops C Q (o :: rest) fr := by
  subst e
  unfold wpQuiet
  rw [if_neg (by simp [h])]
  exact hr _ rfl
theorem ite_no {c : Prop} [Decidable c] {A B : Prop} (h : ¬ c) (hb : B) : if c then A else B := by rw [if_neg h]; exact hb
theorem rise_inj {l : List En} (h : l.Pairwise (fun x y => x.mv < y.mv)) {x y : En} (hx : x ∈ l) (hy : y ∈ l) (e : x.mv = y.mv) : x = y := by
  obtain ⟨i, hi, rfl⟩ := List.getElem_of_mem hx
  obtain ⟨j, hj, rfl⟩ := List.getElem_of_mem hy
  have hp := List.pairwise_iff_getElem.1 h
  rcases Nat.lt_trichotomy i j with h1 | h1 | h1
  · have := hp i j hi hj h1; omega
  · subst h1; rfl
  · have := hp j i hj hi h1; omega
set_option maxRecDepth 100000 in
set_option maxHeartbeats 16000000 in
theorem law_MovesOne (A : Option Addr) (L : List Ac) (c : Nat) (hl : L.length ≤ 9223372036854775807) (w : World) (hA : ActsAt w A L) :
    Calls Try.prog 13 #[.slice A L.length c] w fun e w' => e = .returned (.bool true) ∧ Below w.heap.size w w' := by
  have HA := Lib.hid hA
  clear hA
  have hz := Int.natCast_nonneg L.length
  have hmm := @run_makeMap Try.prog
  go_enter Try.func13, Try.ntmps13
  go_wp2_with (fail)
  refine (awake_any _).mono ?_
  rintro e w1 ⟨rfl, hB⟩
  go_wp2_with (fail)
  refine (great_any (HA.out.below hB) hl).mono ?_
  rintro e w2 ⟨⟨g, rfl, hg⟩, rfl⟩
  have HG := Lib.hid hg
  clear hg
  cases g with
  | true =>
    go_wp2_with (fail)
    go_ret
    exact ⟨rfl, hB⟩
  | false =>
    have h300 := HG.out rfl
    go_wp2_with (fail)
    refine (newB _).mono ?_
    rintro e w2 ⟨p, rfl, bk1, hp1, hl1, hB2⟩
    have h01 := hB.size
    have one0 : One w (w2.alloc (.map #[] 0)) p w2.heap.size none [] 0 [] :=
      ⟨bk1.alloc _, ⟨by simp, by decide, by simp, by simp⟩, by simp, MapIs.new w2, by simp, by simp, by simp [foot]; omega, by omega, by simp [foot]; omega, (hB.trans (hB2.mono h01)).alloc (by omega) _⟩
    clear hB hB2 bk1 h01 HG hp1 hl1
    go_wp2_with (fail)
    go_loopw [5] (fun i wr => ∃ (k : Nat) (m : List (Int × En)) (last : Int) (om : Option Nat) (E : List (Int × Int)), i = .int .i64 k ∧ k ≤ L.length ∧ m.length ≤ k ∧ last ≤ k ∧ One w wr p w2.heap.size om m last E) (fun i _ => L.length - (intOf i).toNat)
    case atStart => exact ⟨0, [], 0, none, [], rfl, Nat.zero_le _, by simp, by omega, one0⟩
    case round =>
      clear one0
      obtain ⟨k, m, last, om, E, rfl, hk, hmk, hlk, one⟩ := hrel
      obtain ⟨wo, hwo⟩ : ∃ wo, wo = wr := ⟨_, rfl⟩
      subst hwo
      by_cases hlt : k < L.length
      · obtain ⟨b, off, rfl, hb, hact⟩ := HA.out (by intro e; rw [e] at hlt; simp at hlt)
        obtain ⟨x, hx⟩ : ∃ x, L[k]? = some x := ⟨L[k], List.getElem?_eq_getElem hlt⟩
        have hx0 := hact k x hx
        have hI := hx0.own
        obtain ⟨h0, h1, h2, h3, h4, h5, _⟩ := hx0.below rfl one.T hb
        have hxn := XC.new wo x
        have hl0 := one.R.l0
        obtain ⟨dd, ⟨ep, nodes, oa, oc, own⟩, part, to⟩ := x
        simp only at h0 h1 h2 h3 h4 h5 hI hxn
        have HI := Lib.hid hI
        clear hact hx hx0 hI
        go_wp2_with (fail)
        refine (all_any (m := m) (last := last) (one.A.alloc _) (by omega) one.R.up).mono ?_
        rintro e w5 ⟨A0, cp0, rfl, hE, hB5⟩
        simp only [List.length_map]
        have one5 := (one.alloc _).below hB5
        have xc5 := hxn.below hB5
        have hxo : ∀ y ∈ foot p om, y ≠ wo.heap.size := fun y hy => by have := foot_lt one.A y hy; omega
        clear hE hB5 hxn h0 h1 h2 h3 h4 h5
        go_wp2_with (fail)
        refine (last_any one5.A).mono ?_
        rintro e w5b ⟨rfl, rfl⟩
        obtain ⟨x0, x1, x2, x3, x4, x5, _⟩ := id xc5
        simp only at x0 x1 x2 x3 x4 x5
        obtain ⟨⟨o1, o2, o3, o4⟩, ho⟩ : ∃ o, (look part m).getD En.zero = o := ⟨_, rfl⟩
        obtain ⟨is, his⟩ : ∃ is, (look part m).isSome = is := ⟨_, rfl⟩
        have hof := of_any one5.A part
        rw [ho, his] at hof
        simp only [En.val] at hof
        have HO := Lib.hid ho
        have HIS := Lib.hid his
        clear ho his
        go_wp2_with (fail)
        refine hof.mono ?_
        rintro e w6 ⟨rfl, hB⟩
        have xo6 := EnC.new w6 o1 o2 o3 o4
        have one6 := one5.below hB
        have xc6 := xc5.below hB
        have hs6 : w5.heap.size ≤ w6.heap.size := hB.size
        have hfl6 := foot_lt one6.A
        clear hof hB x0 x1 x2 x3 x4 x5
        obtain ⟨x0, x1, x2, x3, x4, x5, _⟩ := id xc6
        simp only at x0 x1 x2 x3 x4 x5
        by_cases hd0 : dd = 0
        · subst hd0
          have hord := oneOrd (one6.alloc (.cells #[.int .i64 o1, .int .i64 o2, .int .i64 o3, .int .i64 o4] 51)) ⟨ep, nodes, oa, oc, own⟩ HI.out part to
          have hmc := fun W (hB : Below w.heap.size w W) => may_any ⟨ep, nodes, oa, oc, own⟩ part to W (HI.out.below hB)
          by_cases hmay : Tb.may ⟨ep, nodes, oa, oc, own⟩ part to = 0
          · cases is with
            | true =>
              rw [ordF_b hmay HIS.out] at hord
              rw [hmay] at hmc
              clear hmay
              have HMC := Lib.hid hmc
              clear hmc
              go_wp2_with (fail)
              refine hord.mono ?_
              clear hord
              rintro e w7 ⟨rfl, ⟨om2, one8⟩, hK⟩
              try simp only at one8
              replace xo6 := xo6.keep hK (fun hh => by have := hfl6 _ hh; omega)
              replace xc6 := (xc6.below ((Below.refl _ _).alloc (Nat.le_refl _) (.cells #[.int .i64 o1, .int .i64 o2, .int .i64 o3, .int .i64 o4] 51))).keep hK (fun hh => hxo _ hh rfl)
              clear x0 x1 x2 x3 x4 x5 hK
              obtain ⟨_, x1, x2, x3, x4, x5, _⟩ := id xc6
              simp only at x1 x2 x3 x4 x5
              go_wp2_with (fail)
              refine (HMC.out _ one8.T).mono ?_
              rintro e w8 ⟨rfl, hB⟩
              have one9 := one8.below hB
              replace xo6 := xo6.below hB
              replace xc6 := xc6.below hB
              clear hB one8 x1 x2 x3 x4 x5
              go_wp2_with (fail)
              refine (all_any one9.A (by omega) one9.R.up).mono ?_
              rintro e w9 ⟨Ab, cb, rfl, hEb, hB⟩
              clear hEb
              simp only [List.length_map]
              have one10 := one9.below hB
              replace xo6 := xo6.below hB
              replace xc6 := xc6.below hB
              clear hB one9
              go_wp2_with (fail)
              refine (last_any one10.A).mono ?_
              rintro e w9b ⟨rfl, rfl⟩
              obtain ⟨_, x1, x2, x3, x4, x5, _⟩ := id xc6
              simp only at x1 x2 x3 x4 x5
              go_wp2_with (fail)
              have hof := of_any one10.A part
              rw [HO.out, HIS.out] at hof
              simp only [En.val] at hof
              refine hof.mono ?_
              rintro e w10 ⟨rfl, hB⟩
              have one11 := one10.below hB
              clear hB one10 x1 x2 x3 x4 x5 hof xo6 xc6
              go_wp2_with (fail)
              obtain ⟨wd, hwd⟩ : ∃ wd, w10.alloc (.cells #[.int .i64 o1, .int .i64 o2, .int .i64 o3, .int .i64 o4] 51) = wd := ⟨_, rfl⟩
              have one12 := one11.alloc (.cells #[.int .i64 o1, .int .i64 o2, .int .i64 o3, .int .i64 o4] 51)
              rw [hwd] at one12
              rw [hwd]
              clear hwd one11
              refine wp_region_quiet (C := fun W => Below wd.heap.size wd W) rfl (by kernel_rfl) ((Below.refl _ wd).drew) ?_
              generalize hfr : Act.mk _ _ = fr
              iterate 2
                refine wpQuiet_step (fun K hK => ?_)
                subst hfr
                go_simp
                first
                  | (generalize hfr : Act.mk _ _ = fr; with_reducible refine hK fr ?_; clear hK K)
                  | (refine ite_no (by decide) ?_; generalize hfr : Act.mk _ _ = fr; with_reducible refine hK fr ?_; clear hK K)
                  | (apply Exists.intro; refine ⟨fun w' hw' => ?_, ?_⟩
                     · first
                       | exact rfl
                     generalize hfr : Act.mk _ _ = fr
                     with_reducible refine hK fr ?_
                     clear hK K)
              iterate 34
                refine wpQuiet_skip hfr (by kernel_rfl) ?_
                clear hfr fr
                intro fr hfr
              refine wpQuiet_step (fun K hK => ?_)
              subst hfr
              go_simp
              first
                | (generalize hfr : Act.mk _ _ = fr; with_reducible refine hK fr ?_; clear hK K)
                | (refine ite_no (by decide) ?_; generalize hfr : Act.mk _ _ = fr; with_reducible refine hK fr ?_; clear hK K)
                | (apply Exists.intro; refine ⟨fun w' hw' => ?_, ?_⟩
                   · first
                     | exact rfl
                   generalize hfr : Act.mk _ _ = fr
                   with_reducible refine hK fr ?_
                   clear hK K)
              refine wpQuiet_nil ?_
              subst hfr
              intro w8 hW'
              have one8 := one12.below hW'
              clear one12 hW'
              go_wp2_with (fail)
              refine (all_any one8.A (by omega) one8.R.up).mono ?_
              rintro e wa ⟨Aa, ca, rfl, hEa, hBa⟩
              simp only [List.length_map]
              have one9 := one8.below hBa
              clear hBa one8
              go_wp2_with (fail)
              refine one_inner (W8 := w) one9 hEa (by omega) ?_
              clear one9 hEa
              intros
              rename_i wi onej
              go_wp2_with (fail)
              go_roundw
              case rel => exact ⟨k + 1, m, last, om2, E, by go_num, by omega, by omega, by omega, onej⟩
              case measure => go_light; simp [intOf]; omega
            | false =>
              as_aux_lemma =>
                obtain ⟨pn, hpn, hpl, hft⟩ := may_ok hmay
                subst hpn
                rw [ordF_c hmay HIS.out (by omega)] at hord
                have hlk2 := look_snoc (x := ⟨last + 1, (pn : Int), own[(pn : Int).toNat]?.getD 0, to⟩) HIS.out
                have hln2 : (m ++ [((pn : Int), (⟨last + 1, (pn : Int), own[(pn : Int).toNat]?.getD 0, to⟩ : En))]).length = m.length + 1 := by simp
                simp only [Int.toNat_natCast] at hord hlk2 hln2
                obtain ⟨fr, hfr0⟩ : ∃ fr, own[pn]?.getD 0 = fr := ⟨_, rfl⟩
                rw [hfr0] at hord hlk2 hln2 hft
                obtain ⟨m2, hm2⟩ : ∃ m2, m ++ [((pn : Int), (⟨last + 1, (pn : Int), fr, to⟩ : En))] = m2 := ⟨_, rfl⟩
                simp only [hm2] at hord hlk2 hln2
                rw [hmay] at hmc
                have hwl : IntKind.i64.wrap (last + 1) = last + 1 := IntWalk.i64_in _ (by omega)
                have hwm : IntKind.i64.wrap ((m.length : Int) + 1) = ((m2.length : Nat) : Int) := by rw [hln2]; exact IntWalk.i64_in _ (by omega)
                have HLK2 := Lib.hid hlk2
                have HLN2 := Lib.hid hln2
                have HFR := Lib.hid hfr0
                clear hmay hm2 hlk2 hln2 hfr0
                have HMC := Lib.hid hmc
                clear hmc
                go_wp2_with (fail)
                refine hord.mono ?_
                clear hord
                rintro e w7 ⟨rfl, ⟨om2, one8⟩, hK⟩
                try simp only at one8
                replace xo6 := xo6.keep hK (fun hh => by have := hfl6 _ hh; omega)
                replace xc6 := (xc6.below ((Below.refl _ _).alloc (Nat.le_refl _) (.cells #[.int .i64 o1, .int .i64 o2, .int .i64 o3, .int .i64 o4] 51))).keep hK (fun hh => hxo _ hh rfl)
                clear x0 x1 x2 x3 x4 x5 hK
                obtain ⟨_, x1, x2, x3, x4, x5, _⟩ := id xc6
                simp only at x1 x2 x3 x4 x5
                go_wp2_with (fail)
                refine (HMC.out _ one8.T).mono ?_
                rintro e w8 ⟨rfl, hB⟩
                have one9 := one8.below hB
                replace xo6 := xo6.below hB
                replace xc6 := xc6.below hB
                clear hB one8 x1 x2 x3 x4 x5
                go_wp2_with (fail)
                refine (all_any one9.A (by have := HLN2.out; omega) one9.R.up).mono ?_
                rintro e w9 ⟨Ab, cb, rfl, hEb, hB⟩
                clear hEb
                simp only [List.length_map]
                have one10 := one9.below hB
                replace xo6 := xo6.below hB
                replace xc6 := xc6.below hB
                clear hB one9
                obtain ⟨_, x1, x2, x3, x4, x5, _⟩ := id xc6
                simp only at x1 x2 x3 x4 x5
                go_wp2_with (fail)
                have hof := of_any one10.A (pn : Int)
                rw [HLK2.out] at hof
                simp only [En.val, Option.getD_some, Option.isSome_some] at hof
                refine hof.mono ?_
                rintro e w10 ⟨rfl, hB⟩
                have one11 := one10.below hB
                replace xc6 := xc6.below hB
                clear hB one10 x1 x2 x3 x4 x5 hof xo6
                go_wp2_with (fail)
                have one12 := one11.alloc (.cells #[.int .i64 (last + 1), .int .i64 pn, .int .i64 fr, .int .i64 to] 51)
                have xy := EnC.new w10 (last + 1) pn fr to
                replace xc6 := xc6.below ((Below.refl _ w10).alloc (Nat.le_refl _) (.cells #[.int .i64 (last + 1), .int .i64 pn, .int .i64 fr, .int .i64 to] 51))
                obtain ⟨wd, hwd⟩ : ∃ wd, w10.alloc (.cells #[.int .i64 (last + 1), .int .i64 pn, .int .i64 fr, .int .i64 to] 51) = wd := ⟨_, rfl⟩
                rw [hwd] at one12 xy xc6
                rw [hwd]
                clear hwd one11
                obtain ⟨y0, y1, y2, y3, gy⟩ := xy
                obtain ⟨_, x1, x2, x3, x4, x5, gx⟩ := xc6
                try simp only at y0 y1 y2 y3
                try simp only at x1 x2 x3 x4 x5
                obtain ⟨b1, off1, ea, gb, hcl⟩ := HI.out.below one12.T (by intro hh; rw [hh] at hpl; simp at hpl)
                have x6 := hcl pn hpl
                try simp only at ea
                subst ea
                rw [HFR.out] at x6
                clear hcl
                have hpl2 : (pn : Int) < (own.length : Int) := by omega
                have hftd : decide (fr = to) = false := decide_eq_false hft
                have hftb : (fr == to) = false := by simp [hft]
                refine wp_region_quiet (C := fun W => Below wd.heap.size wd W) rfl (by kernel_rfl) ((Below.refl _ wd).drew) ?_
                generalize hfr : Act.mk _ _ = fr
                iterate 37
                  refine wpQuiet_step (fun K hK => ?_)
                  subst hfr
                  go_simp
                  first
                    | (generalize hfr : Act.mk _ _ = fr; with_reducible refine hK fr ?_; clear hK K)
                    | (refine ite_no (by decide) ?_; generalize hfr : Act.mk _ _ = fr; with_reducible refine hK fr ?_; clear hK K)
                    | (apply Exists.intro; refine ⟨fun w' hw' => ?_, ?_⟩
                       · first
                         | exact rfl
                         | (have n0 := (hw'.cell (p := ⟨w10.heap.size, 0, none⟩) gy).trans y0; have n1 := (hw'.cell (p := ⟨w10.heap.size, 1, none⟩) gy).trans y1; have n2 := (hw'.cell (p := ⟨w10.heap.size, 2, none⟩) gy).trans y2; have n3 := (hw'.cell (p := ⟨w10.heap.size, 3, none⟩) gy).trans y3; have m3 := (hw'.cell (p := ⟨wo.heap.size, 3, none⟩) gx).trans x3; have m4 := (hw'.cell (p := ⟨wo.heap.size, 4, none⟩) gx).trans x4; have m5 := (hw'.cell (p := ⟨wo.heap.size, 5, none⟩) gx).trans x5; have m6 := (hw'.cell (p := ⟨b1, off1 + pn, none⟩) gb).trans x6; go_simp; first | done | exact rfl)
                       generalize hfr : Act.mk _ _ = fr
                       with_reducible refine hK fr ?_
                       clear hK K)
                refine wpQuiet_nil ?_
                subst hfr
                intro w8 hW'
                have one8 := one12.below hW'
                clear one12 hW' x1 x2 x3 x4 x5 x6 y0 y1 y2 y3
                have hln2 := HLN2.out
                have HWM := Lib.hid hwm
                clear hwm
                go_wp2_with (fail)
                refine (all_any one8.A (by omega) one8.R.up).mono ?_
                rintro e wa ⟨Aa, ca, rfl, hEa, hBa⟩
                simp only [List.length_map]
                have one9 := one8.below hBa
                clear hBa one8
                go_wp2_with (fail)
                refine one_inner (W8 := w) one9 hEa (by omega) ?_
                clear one9 hEa
                intros
                rename_i wi onej
                go_wp2_with (fail)
                go_roundw
                case rel => exact ⟨k + 1, m2, (last + 1), om2, E, by go_num, by omega, by omega, by omega, onej⟩
                case measure => go_light; simp [intOf]; omega
          · rw [ordF_a hmay] at hord
            obtain ⟨q, hq⟩ : ∃ q, Tb.may ⟨ep, nodes, oa, oc, own⟩ part to = q := ⟨_, rfl⟩
            rw [hq] at hord hmay hmc
            have hqb : (q == 0) = false := by simp [hmay]
            have hqd : decide (q = 0) = false := by simp [hmay]
            clear hq
            have HMC := Lib.hid hmc
            clear hmc
            go_wp2_with (fail)
            refine hord.mono ?_
            clear hord
            rintro e w7 ⟨rfl, ⟨om2, one8⟩, hK⟩
            try simp only at one8
            replace xo6 := xo6.keep hK (fun hh => by have := hfl6 _ hh; omega)
            replace xc6 := (xc6.below ((Below.refl _ _).alloc (Nat.le_refl _) (.cells #[.int .i64 o1, .int .i64 o2, .int .i64 o3, .int .i64 o4] 51))).keep hK (fun hh => hxo _ hh rfl)
            clear x0 x1 x2 x3 x4 x5 hK
            obtain ⟨_, x1, x2, x3, x4, x5, _⟩ := id xc6
            simp only at x1 x2 x3 x4 x5
            go_wp2_with (fail)
            refine (HMC.out _ one8.T).mono ?_
            rintro e w8 ⟨rfl, hB⟩
            have one9 := one8.below hB
            replace xo6 := xo6.below hB
            replace xc6 := xc6.below hB
            clear hB one8 x1 x2 x3 x4 x5
            go_wp2_with (fail)
            refine (all_any one9.A (by omega) one9.R.up).mono ?_
            rintro e w9 ⟨Ab, cb, rfl, hEb, hB⟩
            clear hEb
            simp only [List.length_map]
            have one10 := one9.below hB
            replace xo6 := xo6.below hB
            replace xc6 := xc6.below hB
            clear hB one9
            go_wp2_with (fail)
            refine (last_any one10.A).mono ?_
            rintro e w9b ⟨rfl, rfl⟩
            obtain ⟨_, x1, x2, x3, x4, x5, _⟩ := id xc6
            simp only at x1 x2 x3 x4 x5
            go_wp2_with (fail)
            have hof := of_any one10.A part
            rw [HO.out, HIS.out] at hof
            simp only [En.val] at hof
            refine hof.mono ?_
            rintro e w10 ⟨rfl, hB⟩
            have one11 := one10.below hB
            clear hB one10 x1 x2 x3 x4 x5 hof xo6 xc6
            go_wp2_with (fail)
            obtain ⟨wd, hwd⟩ : ∃ wd, w10.alloc (.cells #[.int .i64 o1, .int .i64 o2, .int .i64 o3, .int .i64 o4] 51) = wd := ⟨_, rfl⟩
            have one12 := one11.alloc (.cells #[.int .i64 o1, .int .i64 o2, .int .i64 o3, .int .i64 o4] 51)
            rw [hwd] at one12
            rw [hwd]
            clear hwd one11
            refine wp_region_quiet (C := fun W => Below wd.heap.size wd W) rfl (by kernel_rfl) ((Below.refl _ wd).drew) ?_
            generalize hfr : Act.mk _ _ = fr
            iterate 2
              refine wpQuiet_step (fun K hK => ?_)
              subst hfr
              go_simp
              first
                | (generalize hfr : Act.mk _ _ = fr; with_reducible refine hK fr ?_; clear hK K)
                | (refine ite_no (by decide) ?_; generalize hfr : Act.mk _ _ = fr; with_reducible refine hK fr ?_; clear hK K)
                | (apply Exists.intro; refine ⟨fun w' hw' => ?_, ?_⟩
                   · first
                     | exact rfl
                   generalize hfr : Act.mk _ _ = fr
                   with_reducible refine hK fr ?_
                   clear hK K)
            iterate 34
              refine wpQuiet_skip hfr (by kernel_rfl) ?_
              clear hfr fr
              intro fr hfr
            refine wpQuiet_step (fun K hK => ?_)
            subst hfr
            go_simp
            first
              | (generalize hfr : Act.mk _ _ = fr; with_reducible refine hK fr ?_; clear hK K)
              | (refine ite_no (by decide) ?_; generalize hfr : Act.mk _ _ = fr; with_reducible refine hK fr ?_; clear hK K)
              | (apply Exists.intro; refine ⟨fun w' hw' => ?_, ?_⟩
                 · first
                   | exact rfl
                 generalize hfr : Act.mk _ _ = fr
                 with_reducible refine hK fr ?_
                 clear hK K)
            refine wpQuiet_nil ?_
            subst hfr
            intro w8 hW'
            have one8 := one12.below hW'
            clear one12 hW'
            go_wp2_with (fail)
            refine (all_any one8.A (by omega) one8.R.up).mono ?_
            rintro e wa ⟨Aa, ca, rfl, hEa, hBa⟩
            simp only [List.length_map]
            have one9 := one8.below hBa
            clear hBa one8
            go_wp2_with (fail)
            refine one_inner (W8 := w) one9 hEa (by omega) ?_
            clear one9 hEa
            intros
            rename_i wi onej
            go_wp2_with (fail)
            go_roundw
            case rel => exact ⟨k + 1, m, last, om2, E, by go_num, by omega, by omega, by omega, onej⟩
            case measure => go_light; simp [intOf]; omega
        · by_cases hd1 : dd = 1
          · as_aux_lemma =>
              subst hd1
              go_wp2_with (fail)
              refine (oneEnd (one6.alloc (.cells #[.int .i64 o1, .int .i64 o2, .int .i64 o3, .int .i64 o4] 51)) part).mono ?_
              rintro e w7 ⟨he, one8, hK⟩
              rw [HIS.out] at he
              subst he
              replace xo6 := xo6.keep hK (fun hh => by have := hfl6 _ hh; omega)
              have hdl := del_len part m
              clear x0 x1 x2 x3 x4 x5 hK
              cases is with
              | false =>
                go_wp2_with (fail)
                refine (all_any one8.A (by omega) one8.R.up).mono ?_
                rintro e wa ⟨Aa, ca, rfl, hEa, hBa⟩
                simp only [List.length_map]
                have one9 := one8.below hBa
                clear hBa one8
                go_wp2_with (fail)
                refine one_inner (W8 := w) one9 hEa (by omega) ?_
                clear one9 hEa
                intros
                rename_i wi onej
                go_wp2_with (fail)
                go_roundw
                case rel => exact ⟨k + 1, (del part m), last, om, E, by go_num, by omega, by omega, by omega, onej⟩
                case measure => go_light; simp [intOf]; omega
              | true =>
                have hdq := del_len_eq one6.R.nd HIS.out
                have hwq : IntKind.i64.wrap ((m.length : Int) - 1) = ((del part m).length : Int) := by rw [show (m.length : Int) - 1 = ((del part m).length : Int) by omega]; exact IntWalk.i64_in _ (by omega)
                have hmem : (part, (⟨o1, o2, o3, o4⟩ : En)) ∈ m := by
                  have h1 := HO.out
                  cases hl2 : look part m with
                  | none => have h2 := HIS.out; rw [hl2] at h2; cases h2
                  | some v => rw [hl2] at h1; simp only [Option.getD_some] at h1; rw [← h1]; exact look_mem hl2
                have hoe : o1 ≤ last := one6.R.le _ hmem
                have hdn : ∀ q ∈ del part m, q.2.mv ≠ o1 := by
                  intro q hq hh
                  obtain ⟨hq1, hq2⟩ := List.mem_filter.1 hq
                  have h3 := rise_inj one6.R.up (List.mem_map_of_mem (f := (·.2)) hq1) (List.mem_map_of_mem (f := (·.2)) hmem) hh
                  have h4 := one6.pk q hq1
                  have h5 := one6.pk _ hmem
                  rw [h3] at h4
                  simp at hq2 h4 h5
                  omega
                have HDQ := Lib.hid hdq
                have HDN := Lib.hid hdn
                clear hdq hdn hmem
                go_wp2_with (fail)
                refine (all_any one8.A (by omega) one8.R.up).mono ?_
                rintro e w9 ⟨Ab, cb, rfl, hEb, hBb⟩
                clear hEb
                simp only [List.length_map]
                have one9 := one8.below hBb
                replace xo6 := xo6.keep (Keep.of_below hBb []) (by simp)
                obtain ⟨ob, hr, one10⟩ := one9.ended o1 hoe HDN.out
                have xo7 := xo6.keep ((Keep.refl [w2.heap.size] _).setBlock w2.heap.size ob (.inl (by simp))) (by simp; have := one6.T.size; have := one6.M.lt; omega)
                obtain ⟨q0, q1, q2, q3, _⟩ := id xo6
                simp only at q0 q1 q2 q3
                clear one8 hBb one9
                go_wp2_with (fail)
                obtain ⟨w8, hw8⟩ : ∃ w8, setBlock w9 w2.heap.size ob = w8 := ⟨_, rfl⟩
                rw [hw8] at one10
                rw [hw8]
                clear hr q0 q1 q2 q3 hw8 xo7 hwq
                have one8 := one10
                clear one10
                refine (all_any one8.A (by omega) one8.R.up).mono ?_
                rintro e wa ⟨Aa, ca, rfl, hEa, hBa⟩
                simp only [List.length_map]
                have one9 := one8.below hBa
                clear hBa one8
                go_wp2_with (fail)
                refine one_inner (W8 := w) one9 hEa (by omega) ?_
                clear one9 hEa
                intros
                rename_i wi onej
                go_wp2_with (fail)
                go_roundw
                case rel => exact ⟨k + 1, (del part m), last, om, (put o1 1 E), by go_num, by omega, by omega, by omega, onej⟩
                case measure => go_light; simp [intOf]; omega
          · as_aux_lemma =>
              go_wp2_with (fail)
              have one8 := one6.alloc (.cells #[.int .i64 o1, .int .i64 o2, .int .i64 o3, .int .i64 o4] 51)
              clear x0 x1 x2 x3 x4 x5
              obtain ⟨w8, hw8⟩ : ∃ w8, w6.alloc (.cells #[.int .i64 o1, .int .i64 o2, .int .i64 o3, .int .i64 o4] 51) = w8 := ⟨_, rfl⟩
              rw [hw8] at one8
              rw [hw8]
              clear hw8
              refine (all_any one8.A (by omega) one8.R.up).mono ?_
              rintro e wa ⟨Aa, ca, rfl, hEa, hBa⟩
              simp only [List.length_map]
              have one9 := one8.below hBa
              clear hBa one8
              go_wp2_with (fail)
              refine one_inner (W8 := w) one9 hEa (by omega) ?_
              clear one9 hEa
              intros
              rename_i wi onej
              go_wp2_with (fail)
              go_roundw
              case rel => exact ⟨k + 1, m, last, om, E, by go_num, by omega, by omega, by omega, onej⟩
              case measure => go_light; simp [intOf]; omega
      · obtain rfl : k = L.length := by omega
        go_wp2_with (fail)
        go_ret
        exact ⟨rfl, one.T⟩
end Go.Proofs.Ytbkbekdeplolnaa
