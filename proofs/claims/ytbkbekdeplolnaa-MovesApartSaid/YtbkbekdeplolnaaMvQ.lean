/- MovesApart: the walk. -/
import Derived.Test.YtbkbekdeplolnaaMvP
import Derived.Deep.RegionHeld3
import Derived.Deep.Quiet
namespace Go.Proofs.Ytbkbekdeplolnaa
open Go.RowKit Go.Shelf Go.Lib
open Go.Sort (HoldsK)
set_option linter.unusedSimpArgs false
set_option linter.unusedVariables false
/-- A row of cells that may be written. -/
def RowW (W : World) (g n : Nat) : Prop := ∀ j, j < n → (∃ v, W.cell? ⟨g, j, none⟩ = some v) ∧ W.frozen? ⟨g, j, none⟩ = false
theorem RowW.setCell {W : World} {g n : Nat} (h : RowW W g n) (o : Nat) (v : Value) : RowW (W.setCell ⟨g, o, none⟩ v) g n := by
  intro j hj
  obtain ⟨⟨u, hu⟩, hf⟩ := h j hj
  refine ⟨?_, ?_⟩
  · by_cases e : j = o
    · subst e
      exact ⟨v, by go_simp⟩
    · exact ⟨u, by rw [World.cell?_setCell_other _ _ _ _ (by simp; try omega)]; exact hu⟩
  · simpa using hf
theorem RowW.of_holds {W : World} {g : Nat} {l : List En} (h : HoldsK En.enc 4 W g 0 l.toArray) : RowW W g (l.length * 4) := by
  intro j hj
  have := h j (by simpa using hj)
  rw [Nat.zero_add] at this
  exact ⟨⟨_, this.1⟩, this.2⟩
set_option maxRecDepth 100000 in
set_option maxHeartbeats 8000000 in
theorem law_MovesApart (A : Option Addr) (L : List Ac) (c : Nat) (hl : L.length ≤ 9223372036854775807) (w : World) (hA : ActsAt w A L) :
    Calls Try.prog 14 #[.slice A L.length c] w fun e w' => e = .returned (.bool true) ∧ Below w.heap.size w w' := by
  have HA := Lib.hid hA
  clear hA
  have hz := Int.natCast_nonneg L.length
  go_enter Try.func14, Try.ntmps14
  go_wp2_with (fail)
  refine (awake_any _).mono ?_
  rintro e w1 ⟨rfl, hB⟩
  go_wp2_with (fail)
  refine (great_any (HA.out.below hB) hl).mono ?_
  rintro e w2 ⟨⟨g, rfl, hg⟩, rfl⟩
  have HG := Lib.hid hg
  clear hg
  cases g with
  | true =>
    go_wp2_with (fail)
    go_ret
    exact ⟨rfl, hB⟩
  | false =>
    have h300 := HG.out rfl
    go_wp2_with (fail)
    refine (newB _).mono ?_
    rintro e w2 ⟨p1, rfl, bk1, hp1, hl1, hB2⟩
    go_wp2_with (fail)
    refine (newB _).mono ?_
    rintro e w3 ⟨p2, rfl, bk2, hp2, hl2, hB3⟩
    go_wp2_with (fail)
    refine (newB _).mono ?_
    rintro e w4 ⟨p3, rfl, bk3, hp3, hl3, hB4⟩
    have h01 := hB.size
    have h02 := hB2.size
    have h03 := hB3.size
    have two : Two w w4 p1 p2 p3 none none [] 0 :=
      ⟨(bk1.below hB3).below hB4, bk2.below hB4, bk3, ⟨by simp, by decide, by simp, by simp⟩, by simp [foot]; omega, by simp [foot]; omega, by omega, by simp [foot]; omega, by simp [foot]; omega, by simp [foot]; omega, hB.trans ((hB2.mono (by omega)).trans ((hB3.mono (by omega)).trans (hB4.mono (by omega))))⟩
    clear hB hB2 hB3 hB4 bk1 bk2 bk3 h01 h02 h03 HG hp1 hp2 hp3 hl1 hl2 hl3
    go_wp2_with (fail)
    go_loopw [6] (fun i wr => ∃ (k : Nat) (m : List (Int × En)) (last : Int) (om1 om2 : Option Nat), i = .int .i64 k ∧ k ≤ L.length ∧ m.length ≤ k ∧ Two w wr p1 p2 p3 om1 om2 m last) (fun i _ => L.length - (intOf i).toNat)
    case atStart => exact ⟨0, [], 0, none, none, rfl, Nat.zero_le _, by simp, two⟩
    case round =>
      clear two
      obtain ⟨k, m, last, om1, om2, rfl, hk, hmk, two⟩ := hrel
      obtain ⟨wo, hwo⟩ : ∃ wo, wo = wr := ⟨_, rfl⟩
      subst hwo
      by_cases hlt : k < L.length
      · obtain ⟨b, off, rfl, hb, hact⟩ := HA.out (by intro e; rw [e] at hlt; simp at hlt)
        obtain ⟨x, hx⟩ : ∃ x, L[k]? = some x := ⟨L[k], List.getElem?_eq_getElem hlt⟩
        have hx0 := hact k x hx
        have hI := hx0.own
        obtain ⟨h0, h1, h2, h3, h4, h5, _⟩ := hx0.below rfl two.T hb
        have hxn := XC.new wo x
        obtain ⟨dd, ⟨ep, nodes, oa, oc, own⟩, part, to⟩ := x
        simp only at h0 h1 h2 h3 h4 h5 hI hxn
        have HI := Lib.hid hI
        clear hact hx hx0 hI
        go_wp2_with (fail)
        refine (all_any (m := m) (last := last) (two.A.alloc _) (by omega) two.R.up).mono ?_
        rintro e w5 ⟨A0, cp0, rfl, hE, hB5⟩
        simp only [List.length_map]
        have two5 := (two.below ((Below.refl _ wo).alloc (Nat.le_refl _) _)).below hB5
        have xc5 := hxn.below hB5
        have hA0 : m ≠ [] → ∃ g, A0 = some ⟨g, 0, none⟩ ∧ wo.heap.size + 1 ≤ g ∧ RowW w5 g (m.length * 4) := by
          intro hm
          obtain ⟨g, e1, e2, e3, e4⟩ := hE (by simpa using hm)
          exact ⟨g, e1, by simpa using e2, by simpa using RowW.of_holds e4⟩
        have HA0 := Lib.hid hA0
        clear hA0 hE hB5 hxn h0 h1 h2 h3 h4 h5
        go_wp2_with (fail)
        go_loopw [9] (fun i wi => ∃ j : Nat, i = .int .i64 j ∧ j ≤ m.length ∧ (∀ g, A0 = some ⟨g, 0, none⟩ → m ≠ [] → RowW wi g (m.length * 4)) ∧ Two w wi p1 p2 p3 om1 om2 m last ∧ XC wi wo.heap.size ⟨dd, ⟨ep, nodes, oa, oc, own⟩, part, to⟩) (fun i _ => m.length - (intOf i).toNat)
        case atStart => exact ⟨0, rfl, Nat.zero_le _, (fun g hg hm => by obtain ⟨g', e1, e2, e3⟩ := HA0.out hm; rw [hg] at e1; cases e1; exact e3), two5, xc5⟩
        case round =>
          clear two5 xc5
          obtain ⟨j, rfl, hj, hrow, two6, xc6⟩ := hrel
          obtain ⟨x0, x1, x2, x3, x4, x5, xl⟩ := xc6
          simp only at x0 x1 x2 x3 x4 x5
          by_cases hjl : j < m.length
          · have hmne : m ≠ [] := by intro e; rw [e] at hjl; simp at hjl
            obtain ⟨g, rfl, hgw, _⟩ := HA0.out hmne
            have hrw := hrow g rfl hmne
            obtain ⟨⟨v0, r0⟩, f0⟩ := hrw (j * 4) (by omega)
            obtain ⟨⟨v1, r1⟩, f1⟩ := hrw (j * 4 + 1) (by omega)
            obtain ⟨⟨v2, r2⟩, f2⟩ := hrw (j * 4 + 2) (by omega)
            obtain ⟨⟨v3, r3⟩, f3⟩ := hrw (j * 4 + 3) (by omega)
            have HRW := Lib.hid hrw
            clear hrow hrw
            go_wp2_with (fail)
            go_roundw
            case rel =>
              have hk4 : Keep [g] wr ((((wr.setCell ⟨g, j * 4, none⟩ (.int .i64 99)).setCell ⟨g, j * 4 + 1, none⟩ (.int .i64 part)).setCell ⟨g, j * 4 + 2, none⟩ (.int .i64 0)).setCell ⟨g, j * 4 + 3, none⟩ (.int .i64 0)) :=
                ((((Keep.refl _ _).setCell g _ _ (.inl (by simp))).setCell g _ _ (.inl (by simp))).setCell g _ _ (.inl (by simp))).setCell g _ _ (.inl (by simp))
              refine ⟨j + 1, by go_num, by omega, ?_, two6.new two hk4 (by omega), XC.keep ⟨x0, x1, x2, x3, x4, x5, xl⟩ hk4 (by simp; omega)⟩
              intro g' hg' _
              obtain rfl : g = g' := by simpa using hg'
              exact (((HRW.out.setCell _ _).setCell _ _).setCell _ _).setCell _ _
            case measure => go_light; simp [intOf]; omega
          · obtain rfl : j = m.length := by omega
            have xc6 : XC wr wo.heap.size ⟨dd, ⟨ep, nodes, oa, oc, own⟩, part, to⟩ := ⟨x0, x1, x2, x3, x4, x5, xl⟩
            clear hrow
            go_wp2_with (fail)
            refine (of_any two6.A part).mono ?_
            rintro e w6 ⟨rfl, hB⟩
            replace two6 := two6.below hB
            replace xc6 := xc6.below hB
            simp only [En.val]
            clear hB x0 x1 x2 x3 x4 x5
            obtain ⟨x0, x1, x2, x3, x4, x5, _⟩ := id xc6
            simp only at x0 x1 x2 x3 x4 x5
            go_wp2_with (fail)
            refine (by_gen (L := m.map (·.2)) (by simp; omega) to (fun W hB => all_any (two6.A.below hB) (by omega) two6.R.up)).mono ?_
            rintro e w7 ⟨rfl, hB⟩
            replace two6 := two6.below hB
            replace xc6 := xc6.below hB
            simp only [En.val]
            clear hB x0 x1 x2 x3 x4 x5
            obtain ⟨x0, x1, x2, x3, x4, x5, _⟩ := id xc6
            simp only at x0 x1 x2 x3 x4 x5
            by_cases hd0 : dd = 0
            · subst hd0
              have hxg1 : ∀ y ∈ foot p1 om1, y ≠ wo.heap.size := fun y hy => by have := foot_lt two.A y hy; omega
              have hxg2 : ∀ y ∈ foot p2 om2, y ≠ wo.heap.size := fun y hy => by have := foot_lt two.B y hy; omega
              obtain ⟨⟨r1, r2, mm, ll⟩, hr⟩ : ∃ r, ordF ⟨ep, nodes, oa, oc, own⟩ part to m last = r := ⟨_, rfl⟩
              have hoA := twoOrdA two6 ⟨ep, nodes, oa, oc, own⟩ HI.out part to
              have hoB := fun W1 om1' hb hf hk1 => twoOrdB two6 (W1 := W1) (om1' := om1') ⟨ep, nodes, oa, oc, own⟩ HI.out part to hb hf hk1
              have hml := ordF_len ⟨ep, nodes, oa, oc, own⟩ part to m last
              rw [hr] at hoA hml
              simp only [hr] at hoB
              simp only [Tb.val] at hoA hoB hml
              have HOB := Lib.hid hoB
              have HR := Lib.hid hr
              clear hoB hr
              go_wp2_with (fail)
              refine hoA.mono ?_
              rintro e w8a ⟨rfl, ⟨oma, hbA, hfA⟩, hkA⟩
              have xc7 := xc6.keep hkA (fun hm => hxg1 _ hm rfl)
              clear hoA x0 x1 x2 x3 x4 x5
              obtain ⟨x0, x1, x2, x3, x4, x5, _⟩ := id xc7
              simp only at x0 x1 x2 x3 x4 x5
              go_wp2_with (fail)
              refine (HOB.out w8a oma hbA hfA hkA).mono ?_
              rintro e w8 ⟨rfl, ⟨omb, two8⟩, hkB⟩
              clear x0 x1 x2 x3 x4 x5 hkB hkA hbA hfA HOB
              go_wp2_with (fail)
              refine (all_any two8.A (by omega) two8.R.up).mono ?_
              rintro e wa ⟨Aa, ca, rfl, hEa, hBa⟩
              simp only [List.length_map]
              have two9 := two8.below hBa
              have HEa := Lib.hid hEa
              clear hEa
              go_wp2_with (fail)
              refine (all_any two9.B (by omega) two9.R.up).mono ?_
              rintro e wb ⟨Ab, cb, rfl, hEb, hBb⟩
              simp only [List.length_map]
              have two10 := two9.below hBb
              have HEb := Lib.hid hEb
              clear hEb
              go_wp2_with (fail)
              refine (all_any two10.C (by simp) (by simp)).mono ?_
              rintro e wc ⟨Ac, cc, rfl, hEc, hBc⟩
              simp only [List.map_nil, List.length_nil]
              have two11 := two10.below hBc
              have HEa3 := Lib.hid ((HEa.out.below hBb).below hBc)
              have HEb2 := Lib.hid (HEb.out.below hBc)
              clear hEc
              go_wp2_with (fail)
              refine (last_any two11.C).mono ?_
              rintro e wd ⟨rfl, rfl⟩
              go_wp2_with (fail)
              go_loopw [16] (fun i wi => ∃ j : Nat, i = .int .i64 j ∧ j ≤ mm.length ∧ Two w wi p1 p2 p3 oma omb mm ll ∧ EnsAt w8.heap.size wi Aa (mm.map (·.2)) ∧ EnsAt wa.heap.size wi Ab (mm.map (·.2))) (fun i _ => mm.length - (intOf i).toNat)
              case atStart => exact ⟨0, rfl, Nat.zero_le _, two11, HEa3.out, HEb2.out⟩
              case round =>
                clear two11 two10 two9 two8 hBa hBb hBc HEa HEb HEa3 HEb2
                obtain ⟨j, rfl, hj, two12, hEa, hEb⟩ := hrel
                by_cases hjl : j < mm.length
                · obtain ⟨y, hy⟩ : ∃ y, (mm.map (·.2))[j]? = some y := ⟨_, List.getElem?_eq_getElem (by simpa using hjl)⟩
                  obtain ⟨ga, rfl, _, hga, a0, a1, a2, a3⟩ := ensAt_cells hEa hy
                  obtain ⟨gb, rfl, _, hgb, b0, b1, b2, b3⟩ := ensAt_cells hEb hy
                  have HEA := Lib.hid hEa
                  have HEB := Lib.hid hEb
                  obtain ⟨y1, y2, y3, y4⟩ := y
                  simp only at a0 a1 a2 a3 b0 b1 b2 b3
                  clear hEa hEb hy
                  go_wp2_with (fail)
                  refine wp_region_quiet (C := fun W => Below wr.heap.size wr W) rfl (by kernel_rfl) ((Below.refl _ wr).drew) ?_
                  iterate 9
                    refine wpQuiet_step (fun K hK => ?_)
                    go_simp
                    first
                      | (refine hK _ ?_; clear hK K)
                      | (apply Exists.intro; refine ⟨fun w' hw' => ?_, hK _ ?_⟩
                         · first | exact rfl | (have l0 := (hw'.cell (p := ⟨ga, j * 4, none⟩) hga).trans a0; have l1 := (hw'.cell (p := ⟨ga, j * 4 + 1, none⟩) hga).trans a1; have l2 := (hw'.cell (p := ⟨ga, j * 4 + 2, none⟩) hga).trans a2; have l3 := (hw'.cell (p := ⟨ga, j * 4 + 3, none⟩) hga).trans a3; have m0 := (hw'.cell (p := ⟨gb, j * 4, none⟩) hgb).trans b0; have m1 := (hw'.cell (p := ⟨gb, j * 4 + 1, none⟩) hgb).trans b1; have m2 := (hw'.cell (p := ⟨gb, j * 4 + 2, none⟩) hgb).trans b2; have m3 := (hw'.cell (p := ⟨gb, j * 4 + 3, none⟩) hgb).trans b3; go_simp; first | done | exact rfl)
                         clear hK K)
                  refine wpQuiet_nil ?_
                  intro W' hW'
                  have two13 := two12.below hW'
                  have HEA2 := Lib.hid (HEA.out.below hW')
                  have HEB2 := Lib.hid (HEB.out.below hW')
                  clear a0 a1 a2 a3 b0 b1 b2 b3
                  go_wp2
                  go_roundw
                  case rel => exact ⟨j + 1, by go_num, by omega, two13, HEA2.out, HEB2.out⟩
                  case measure => go_light; simp [intOf]; omega
                · obtain rfl : j = mm.length := by omega
                  clear hEa hEb
                  go_wp2_with (fail)
                  go_roundw
                  case rel => exact ⟨k + 1, mm, ll, oma, omb, by go_num, by omega, by omega, two12⟩
                  case measure => go_light; simp [intOf]; omega
            · by_cases hd1 : dd = 1
              · subst hd1
                have hxg1 : ∀ y ∈ foot p1 om1, y ≠ wo.heap.size := fun y hy => by have := foot_lt two.A y hy; omega
                have hxg2 : ∀ y ∈ foot p2 om2, y ≠ wo.heap.size := fun y hy => by have := foot_lt two.B y hy; omega
                have two7 := two6.below ((Below.refl _ w7).drew)
                have hml := del_len part m
                obtain ⟨mm, hmm⟩ : ∃ mm, del part m = mm := ⟨_, rfl⟩
                obtain ⟨ll, hll⟩ : ∃ ll, last = ll := ⟨_, rfl⟩
                obtain ⟨oma, hoa⟩ : ∃ oma, om1 = oma := ⟨_, rfl⟩
                obtain ⟨omb, hob⟩ : ∃ omb, om2 = omb := ⟨_, rfl⟩
                obtain ⟨bb, hbb⟩ : ∃ bb, (look part m).isSome = bb := ⟨_, rfl⟩
                have hEA := twoEndA two7 part
                have hEB := fun W1 hb hk1 => twoEndB two7 (W1 := W1) part hb hk1
                rw [hmm] at hEA hml
                rw [hbb] at hEA
                simp only [hmm, hbb] at hEB
                have HEA := Lib.hid hEA
                have HEB := Lib.hid hEB
                have HX := Lib.hid xc6
                clear hEA hEB hmm hll hbb
                go_wp2_with (fail)
                go_region_held3 (fun W => W.cell? ⟨wo.heap.size, 4, none⟩ = some (.int .i64 part)) (first | exact x4 | exact z4 | exact y4)
                  (first
                    | (go_at_call 32; (with_reducible refine HEA.out.mono ?_); rintro e w8a ⟨rfl, hbA, hkA⟩; have y4 := (hkA.cell 4 HX.out.gl (fun hm => hxg1 _ hm rfl)).trans x4; have hy1 := hkA.size)
                    | (go_at_call 32; (with_reducible refine (HEB.out _ hbA hkA).mono ?_); rintro e w8 ⟨rfl, two8, hkB⟩; have z4 := (hkB.cell 4 (Nat.lt_of_lt_of_le HX.out.gl hy1) (fun hm => hxg2 _ hm rfl)).trans y4))
                clear HEA HEB hkB hkA hbA y4 z4 x0 x1 x2 x3 x4 x5
                subst hoa hob
                go_wp2_with (fail)
                refine (all_any two8.A (by omega) two8.R.up).mono ?_
                rintro e wa ⟨Aa, ca, rfl, hEa, hBa⟩
                simp only [List.length_map]
                have two9 := two8.below hBa
                have HEa := Lib.hid hEa
                clear hEa
                go_wp2_with (fail)
                refine (all_any two9.B (by omega) two9.R.up).mono ?_
                rintro e wb ⟨Ab, cb, rfl, hEb, hBb⟩
                simp only [List.length_map]
                have two10 := two9.below hBb
                have HEb := Lib.hid hEb
                clear hEb
                go_wp2_with (fail)
                refine (all_any two10.C (by simp) (by simp)).mono ?_
                rintro e wc ⟨Ac, cc, rfl, hEc, hBc⟩
                simp only [List.map_nil, List.length_nil]
                have two11 := two10.below hBc
                have HEa3 := Lib.hid ((HEa.out.below hBb).below hBc)
                have HEb2 := Lib.hid (HEb.out.below hBc)
                clear hEc
                go_wp2_with (fail)
                refine (last_any two11.C).mono ?_
                rintro e wd ⟨rfl, rfl⟩
                go_wp2_with (fail)
                go_loopw [16] (fun i wi => ∃ j : Nat, i = .int .i64 j ∧ j ≤ mm.length ∧ Two w wi p1 p2 p3 om1 om2 mm last ∧ EnsAt w8.heap.size wi Aa (mm.map (·.2)) ∧ EnsAt wa.heap.size wi Ab (mm.map (·.2))) (fun i _ => mm.length - (intOf i).toNat)
                case atStart => exact ⟨0, rfl, Nat.zero_le _, two11, HEa3.out, HEb2.out⟩
                case round =>
                  clear two11 two10 two9 two8 hBa hBb hBc HEa HEb HEa3 HEb2
                  obtain ⟨j, rfl, hj, two12, hEa, hEb⟩ := hrel
                  by_cases hjl : j < mm.length
                  · obtain ⟨y, hy⟩ : ∃ y, (mm.map (·.2))[j]? = some y := ⟨_, List.getElem?_eq_getElem (by simpa using hjl)⟩
                    obtain ⟨ga, rfl, _, hga, a0, a1, a2, a3⟩ := ensAt_cells hEa hy
                    obtain ⟨gb, rfl, _, hgb, b0, b1, b2, b3⟩ := ensAt_cells hEb hy
                    have HEA := Lib.hid hEa
                    have HEB := Lib.hid hEb
                    obtain ⟨y1, y2, y3, y4⟩ := y
                    simp only at a0 a1 a2 a3 b0 b1 b2 b3
                    clear hEa hEb hy
                    go_wp2_with (fail)
                    refine wp_region_quiet (C := fun W => Below wr.heap.size wr W) rfl (by kernel_rfl) ((Below.refl _ wr).drew) ?_
                    iterate 9
                      refine wpQuiet_step (fun K hK => ?_)
                      go_simp
                      first
                        | (refine hK _ ?_; clear hK K)
                        | (apply Exists.intro; refine ⟨fun w' hw' => ?_, hK _ ?_⟩
                           · first | exact rfl | (have l0 := (hw'.cell (p := ⟨ga, j * 4, none⟩) hga).trans a0; have l1 := (hw'.cell (p := ⟨ga, j * 4 + 1, none⟩) hga).trans a1; have l2 := (hw'.cell (p := ⟨ga, j * 4 + 2, none⟩) hga).trans a2; have l3 := (hw'.cell (p := ⟨ga, j * 4 + 3, none⟩) hga).trans a3; have m0 := (hw'.cell (p := ⟨gb, j * 4, none⟩) hgb).trans b0; have m1 := (hw'.cell (p := ⟨gb, j * 4 + 1, none⟩) hgb).trans b1; have m2 := (hw'.cell (p := ⟨gb, j * 4 + 2, none⟩) hgb).trans b2; have m3 := (hw'.cell (p := ⟨gb, j * 4 + 3, none⟩) hgb).trans b3; go_simp; first | done | exact rfl)
                           clear hK K)
                    refine wpQuiet_nil ?_
                    intro W' hW'
                    have two13 := two12.below hW'
                    have HEA2 := Lib.hid (HEA.out.below hW')
                    have HEB2 := Lib.hid (HEB.out.below hW')
                    clear a0 a1 a2 a3 b0 b1 b2 b3
                    go_wp2
                    go_roundw
                    case rel => exact ⟨j + 1, by go_num, by omega, two13, HEA2.out, HEB2.out⟩
                    case measure => go_light; simp [intOf]; omega
                  · obtain rfl : j = mm.length := by omega
                    clear hEa hEb
                    go_wp2_with (fail)
                    go_roundw
                    case rel => exact ⟨k + 1, mm, last, om1, om2, by go_num, by omega, by omega, two12⟩
                    case measure => go_light; simp [intOf]; omega
              · go_wp2_with (fail)
                have two8 := two6
                clear two6 x0 x1 x2 x3 x4 x5
                refine (all_any two8.A (by omega) two8.R.up).mono ?_
                rintro e wa ⟨Aa, ca, rfl, hEa, hBa⟩
                simp only [List.length_map]
                have two9 := two8.below hBa
                have HEa := Lib.hid hEa
                clear hEa
                go_wp2_with (fail)
                refine (all_any two9.B (by omega) two9.R.up).mono ?_
                rintro e wb ⟨Ab, cb, rfl, hEb, hBb⟩
                simp only [List.length_map]
                have two10 := two9.below hBb
                have HEb := Lib.hid hEb
                clear hEb
                go_wp2_with (fail)
                refine (all_any two10.C (by simp) (by simp)).mono ?_
                rintro e wc ⟨Ac, cc, rfl, hEc, hBc⟩
                simp only [List.map_nil, List.length_nil]
                have two11 := two10.below hBc
                have HEa3 := Lib.hid ((HEa.out.below hBb).below hBc)
                have HEb2 := Lib.hid (HEb.out.below hBc)
                clear hEc
                go_wp2_with (fail)
                refine (last_any two11.C).mono ?_
                rintro e wd ⟨rfl, rfl⟩
                go_wp2_with (fail)
                go_loopw [16] (fun i wi => ∃ j : Nat, i = .int .i64 j ∧ j ≤ m.length ∧ Two w wi p1 p2 p3 om1 om2 m last ∧ EnsAt w7.heap.size wi Aa (m.map (·.2)) ∧ EnsAt wa.heap.size wi Ab (m.map (·.2))) (fun i _ => m.length - (intOf i).toNat)
                case atStart => exact ⟨0, rfl, Nat.zero_le _, two11, HEa3.out, HEb2.out⟩
                case round =>
                  clear two11 two10 two9 two8 hBa hBb hBc HEa HEb HEa3 HEb2
                  obtain ⟨j, rfl, hj, two12, hEa, hEb⟩ := hrel
                  by_cases hjl : j < m.length
                  · obtain ⟨y, hy⟩ : ∃ y, (m.map (·.2))[j]? = some y := ⟨_, List.getElem?_eq_getElem (by simpa using hjl)⟩
                    obtain ⟨ga, rfl, _, hga, a0, a1, a2, a3⟩ := ensAt_cells hEa hy
                    obtain ⟨gb, rfl, _, hgb, b0, b1, b2, b3⟩ := ensAt_cells hEb hy
                    have HEA := Lib.hid hEa
                    have HEB := Lib.hid hEb
                    obtain ⟨y1, y2, y3, y4⟩ := y
                    simp only at a0 a1 a2 a3 b0 b1 b2 b3
                    clear hEa hEb hy
                    go_wp2_with (fail)
                    refine wp_region_quiet (C := fun W => Below wr.heap.size wr W) rfl (by kernel_rfl) ((Below.refl _ wr).drew) ?_
                    iterate 9
                      refine wpQuiet_step (fun K hK => ?_)
                      go_simp
                      first
                        | (refine hK _ ?_; clear hK K)
                        | (apply Exists.intro; refine ⟨fun w' hw' => ?_, hK _ ?_⟩
                           · first | exact rfl | (have l0 := (hw'.cell (p := ⟨ga, j * 4, none⟩) hga).trans a0; have l1 := (hw'.cell (p := ⟨ga, j * 4 + 1, none⟩) hga).trans a1; have l2 := (hw'.cell (p := ⟨ga, j * 4 + 2, none⟩) hga).trans a2; have l3 := (hw'.cell (p := ⟨ga, j * 4 + 3, none⟩) hga).trans a3; have m0 := (hw'.cell (p := ⟨gb, j * 4, none⟩) hgb).trans b0; have m1 := (hw'.cell (p := ⟨gb, j * 4 + 1, none⟩) hgb).trans b1; have m2 := (hw'.cell (p := ⟨gb, j * 4 + 2, none⟩) hgb).trans b2; have m3 := (hw'.cell (p := ⟨gb, j * 4 + 3, none⟩) hgb).trans b3; go_simp; first | done | exact rfl)
                           clear hK K)
                    refine wpQuiet_nil ?_
                    intro W' hW'
                    have two13 := two12.below hW'
                    have HEA2 := Lib.hid (HEA.out.below hW')
                    have HEB2 := Lib.hid (HEB.out.below hW')
                    clear a0 a1 a2 a3 b0 b1 b2 b3
                    go_wp2
                    go_roundw
                    case rel => exact ⟨j + 1, by go_num, by omega, two13, HEA2.out, HEB2.out⟩
                    case measure => go_light; simp [intOf]; omega
                  · obtain rfl : j = m.length := by omega
                    clear hEa hEb
                    go_wp2_with (fail)
                    go_roundw
                    case rel => exact ⟨k + 1, m, last, om1, om2, by go_num, by omega, by omega, two12⟩
                    case measure => go_light; simp [intOf]; omega
      · obtain rfl : k = L.length := by omega
        go_wp2_with (fail)
        go_ret
        exact ⟨rfl, two.T⟩
end Go.Proofs.Ytbkbekdeplolnaa
