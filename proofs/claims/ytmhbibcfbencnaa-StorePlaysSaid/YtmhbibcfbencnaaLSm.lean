/- StoreSums: what is open has what its values add up to. -/
import Derived.Test.YtmhbibcfbencnaaStX
namespace Go.Proofs.Ytmhbibcfbencnaa
open Go.RowKit Go.Lib
open Go.ChangeMaps (setBlock)
set_option linter.unusedSimpArgs false
set_option linter.unusedVariables false
/-- An act in a block of its own. -/
def acObj (x : A9) : Obj := .cells #[.int .u8 x.dd, .string x.key, .int .i64 x.t, .int .i64 x.n, .string x.out.key, .int .i64 x.out.st, .int .i64 x.out.ag.c, .int .i64 x.out.ag.s, .int .i64 x.out.ag.lo, .int .i64 x.out.ag.hi, .int .i64 x.out.ag.b0, .int .i64 x.out.ag.b1, .int .i64 x.out.ag.b2, .int .i64 x.out.ag.b3] 35
theorem infoI8 : (Try.prog.info? 2).map (fun i => (i.zero, i.size, i.bytes)) = some (some (.int .i64 0), 1, 8) := by kernel_rfl
theorem hadB_take {L : List Ot} {j : Nat} {o : Ot} (hj : L[j]? = some o) (x : Wd) : hadB x (L.take (j + 1)) = (hadB x (L.take j) || decide (wdOf o = x)) := by
  rw [List.take_add_one, hj]
  exact hadB_snoc _ _ _
def AcB (W : World) (g : Nat) (x : A9) : Prop := W.heap[g]? = some (acObj x)
theorem AcB.keep {X : List Nat} {W W' : World} {g : Nat} {x : A9} (h : AcB W g x) (hk : Keep X W W') (hx : g ∉ X := by simp) : AcB W' g x := (hk.block g (lt_of_heap h) hx).trans h
theorem AcB.below {W W' : World} {g : Nat} {x : A9} (h : AcB W g x) (hb : Below W.heap.size W W') : AcB W' g x := h.keep (Keep.of_below hb [])
theorem AcB.facts {W : World} {g : Nat} {x : A9} (h : AcB W g x) : W.cell? ⟨g, 0, none⟩ = some (.int .u8 x.dd) ∧ W.cell? ⟨g, 1, none⟩ = some (.string x.key) ∧ W.cell? ⟨g, 2, none⟩ = some (.int .i64 x.t) ∧ W.cell? ⟨g, 3, none⟩ = some (.int .i64 x.n) ∧ (∀ o, W.frozen? ⟨g, o, none⟩ = false) := by
  unfold AcB acObj at h
  refine ⟨?_, ?_, ?_, ?_, fun o => ?_⟩
  all_goals first | (unfold World.cell?; rw [h]; rfl) | (unfold World.frozen?; rw [h]; simp)
theorem AcB.new (W : World) (x : A9) : AcB (W.alloc (acObj x)) W.heap.size x := World.alloc_heap_new W _
set_option maxRecDepth 100000 in
set_option maxHeartbeats 4000000 in
theorem law_StoreSums (A : Option Addr) (l : List A9) (c : Nat) (hl : l.length ≤ 9223372036854775807) (hz : ∀ y ∈ l, A9.Wf y) (k : ByteArray) (hk : k.size ≤ maxLen) (t : Int) (wt : (Lit.int .i64 t).wf = true) (w : World) (hA : A9Row w A l) :
    Calls Try.prog 3 #[.slice A l.length c, .string k, .int .i64 t] w fun e w' => e = .returned (.bool true) ∧ Below w.heap.size w w' := by
  have HA := Lib.hid hA
  have hzk := Int.natCast_nonneg k.size
  have hkm := hk
  unfold maxLen at hkm
  clear hA wt
  go_enter Try.func3, Try.ntmps3
  go_wp2_with (fail)
  refine (great9_any c (HA.out) hl hz).mono ?_
  rintro e w1 ⟨g, rfl, hg, rfl⟩
  cases g with
  | true =>
    go_wp2_with (fail)
    go_wp2_with (fail)
    refine (wakes09 _).mono ?_
    rintro e w2 ⟨rfl, hB2⟩
    have HBe := Lib.hid ((Below.refl w.heap.size w).trans (hB2.mono (Below.refl w.heap.size w).size))
    clear hB2
    go_wp2_with (fail)
    go_ret
    exact ⟨rfl, HBe.out⟩
  | false =>
    have hfine := hg rfl
    clear hg
    by_cases hkz : 100 < k.size
    · go_wp2_with (fail)
      go_wp2_with (fail)
      refine (wakes09 _).mono ?_
      rintro e w2 ⟨rfl, hB2⟩
      have HBe := Lib.hid ((Below.refl w.heap.size w).trans (hB2.mono (Below.refl w.heap.size w).size))
      clear hB2
      go_wp2_with (fail)
      go_ret
      exact ⟨rfl, HBe.out⟩
    go_wp2_with (fail)
    refine (rnew_any _).mono ?_
    rintro e w1 ⟨p, b, rfl, hS1, hp1, hb1, hB1⟩
    have HB1 := Lib.hid hB1
    have HA1 := Lib.hid (HA.out.below hB1)
    have HFAR := Lib.hid (HA.out.far hb1)
    have HN := Lib.hid (And.intro hp1 hb1)
    have HS1 := Lib.hid hS1
    have h200 : (l.length : Int) ≤ 200 := by have := hfine.1; omega
    have HZ := Lib.hid hz
    clear hB1 hp1 hb1 hS1 hfine hz HA
    go_wp2_with (fail)
    refine (start_any _ _).mono ?_
    rintro e w2 ⟨rfl, rfl⟩
    obtain ⟨s, hs⟩ : ∃ s, startI t = s := ⟨_, rfl⟩
    rw [hs]
    have HSS := Lib.hid hs
    have hz0 := Int.natCast_nonneg l.length
    clear hs
    go_wp2_with (fail)
    go_loopw [9, 10] (fun v i wr => ∃ (j : Nat) (L : List Ot) (vs : List Int), i = .int .i64 j ∧ j ≤ l.length ∧ vs.length ≤ j ∧ L.length ≤ 32 ∧ L.Pairwise ltO ∧ SumOk ⟨s, k⟩ L vs ∧ SrAt wr p b L ∧ wr.ownsRow w1.heap.size 2 1 v vs.length (vs.map intV) ∧ Keep [b] w1 wr) (fun _ i _ => l.length - (intOf i).toNat)
    case atStart => exact ⟨0, [], [], rfl, Nat.zero_le _, Nat.le_refl _, by simp, List.Pairwise.nil, ⟨rfl, rfl⟩, HS1.out, World.ownsRow_nil _ _ _ _, Keep.refl _ _⟩
    case round =>
      obtain ⟨j, L, vs, rfl, hj, hvj, h32, hup, hsum, hS, hown, hK⟩ := hrel
      have H32 := Lib.hid h32
      have HU := Lib.hid hup
      have HSM := Lib.hid hsum
      have HS := Lib.hid hS
      have HK := Lib.hid hK
      have HO := Lib.hid hown
      obtain ⟨av, cv, rfl, hav⟩ := own_shape hown
      have HAV := Lib.hid hav
      clear h32 hup hsum hS hown hK hav
      by_cases hlt : j < l.length
      · obtain ⟨x, hx⟩ : ∃ x, l[j]? = some x := ⟨l[j], List.getElem?_eq_getElem hlt⟩
        obtain ⟨q, off, rfl, hq, hat⟩ := HA1.out (by intro e; rw [e] at hlt; simp at hlt)
        have hqb := HFAR.out (by intro e; rw [e] at hlt; simp at hlt) q off rfl
        have hx0 := (hat j x hx).keep HK.out hq (by simpa using hqb)
        have hxw := HZ.out x (List.mem_of_getElem? hx)
        have HXW := Lib.hid hxw.key
        have h0j : (0 : Int) ≤ (j : Int) := Int.natCast_nonneg j
        have hjn : (j : Int) < (l.length : Int) := by omega
        obtain ⟨W1, hW1⟩ : ∃ W1, wr.alloc (acObj x) = W1 := ⟨_, rfl⟩
        have hab := AcB.new wr x
        have hB : Below wr.heap.size wr W1 := hW1 ▸ (Below.refl _ wr).alloc (Nat.le_refl _) _
        rw [hW1] at hab
        have HAB := Lib.hid hab
        have HSA := Lib.hid (HS.out.below hB)
        have HKA := Lib.hid (HK.out.then_below hB)
        have HNA := Lib.hid (HK.out.size)
        have HOA : Hid (W1.ownsRow w1.heap.size 2 1 (.slice av vs.length cv) vs.length (vs.map intV)) := Lib.hid (hW1 ▸ HO.out.alloc _)
        obtain ⟨f0, f1, f2, f3, f4⟩ := hab.facts
        obtain ⟨c0, c1, c2, c3, c4⟩ := hx0
        obtain ⟨d0, d1, d2, d3, d4, d5, d6, d7, d8, d9⟩ := c4
        obtain ⟨dd, xk, xt, xn, ok, os, x1, x2, x3, x4, x5, x6, x7, x8⟩ := x
        simp only [acObj] at c0 c1 c2 c3 d0 d1 d2 d3 d4 d5 d6 d7 d8 d9 hW1 f0 f1 f2 f3
        have HLT : Hid (∀ g, (Value.slice av vs.length cv).ownBlock = some g → w1.heap.size ≤ g ∧ g < wr.heap.size) := Lib.hid (fun g hg => ⟨own_base HO.out g hg, by
          rcases HO.out.2 with ⟨hv, _⟩ | ⟨g', cap', cur, hv, _, hg', _⟩
          · rw [hv] at hg; cases hg
          · rw [hv] at hg
            have h2 : g' = g := by simpa [Value.ownBlock] using hg
            rw [← h2]; exact lt_of_heap hg'⟩)
        have HPB := Lib.hid HS1.out.lt
        clear hat hx hxw hab hB HS HK HO
        by_cases g0 : dd = 0
        · subst g0
          obtain ⟨⟨e1, L1⟩, hr⟩ : ∃ r, putL L xk xt xn = r := ⟨_, rfl⟩
          have hput := rput_any HSA.out (by have := H32.out; omega) xk HXW.out xt xn
          have hsum2 := HSM.out.put HU.out xk xt xn
          have h132 := put_len L xk xt xn H32.out HU.out
          have hu1 := putL_up xk xt xn HU.out
          rw [hr] at hput hsum2 h132 hu1
          simp only at hsum2 h132 hu1
          have HPUT := Lib.hid hput
          have H132 := Lib.hid h132
          have HU1 := Lib.hid hu1
          have HS20 := Lib.hid hsum2
          clear hr hput hsum2 h132 hu1
          go_wp2_with (fail)
          refine HPUT.out.mono ?_
          rintro e w3 ⟨rfl, hS3, hK3⟩
          simp only at hS3 ⊢
          have HS3 := Lib.hid hS3
          have hbn : b < w1.heap.size := HPB.out.2.1
          have HAB3 := Lib.hid (HAB.out.keep hK3 (by have := HNA.out; simp; omega))
          have HO3 := Lib.hid (own_keep HOA.out hK3 (fun g hg => by have := (HLT.out g hg).1; simp; omega))
          have HK3 := Lib.hid (HKA.out.trans hK3)
          clear hS3 hK3 HPUT HAB HOA HKA HSA c0 c1 c2 c3 d0 d1 d2 d3 d4 d5 d6 d7 d8 d9 f0 f1 f2 f3 f4 hW1
          obtain ⟨f0, f1, f2, f3, f4⟩ := HAB3.out.facts
          simp only at f0 f1 f2 f3
          by_cases he : e1 = 0
          · have heb : (e1 == 0) = true := by simp [he]
            by_cases hkk : xk = k
            · have hkb : (xk.toList == k.toList) = true := by rw [beq_bytes]; simp [hkk]
              by_cases hss : startI xt = s
              · have hsb : (startI xt == s) = true := by simp [hss]
                have HS2 : Hid (SumOk ⟨s, k⟩ L1 (vs ++ [xn])) := Lib.hid (by have := HS20.out; rwa [if_pos ⟨he, hkk, hss⟩] at this)
                clear he hkk hss HS20
                go_wp2_with (fail)
                refine (start_any _ _).mono ?_
                rintro e w9 ⟨rfl, rfl⟩
                obtain ⟨i0, hi, hz0', hz1', hz2'⟩ := info_parts infoI8
                go_wp2_with (at_builtin; refine wpList_append_own _ rfl _ _ 28 rfl w1.heap.size 2 i0 (.int .i64 0) 1 8 Try.underlying28 hi hz0' hz1' hz2' rfl (by decide) _ _ _ rfl (HO3.out.alloc _) ⟨w3.heap.size, 0, none⟩ 1 1 [.int .i64 xn] rfl rfl ?c1 ?c2 ?c3 ?c4 ?c5 ?_)
                case c1 => exact cells_new _ _ _ _ rfl
                case c2 => simp [Value.oneCell']
                case c3 => unfold maxLen; omega
                case c4 => omega
                case c5 => have := HK3.out.size; simp; omega
                intro v' w4 hown' hgrow _
                have kw : Keep (Value.slice av vs.length cv).ownBlock.toList w3 w4 := ((Keep.refl _ w3).alloc _).grown hgrow (fun k hk => .inl (by simp [hk]))
                have hob : ∀ y, y < w1.heap.size ∨ wr.heap.size ≤ y → y ∉ (Value.slice av vs.length cv).ownBlock.toList := fun y hy hm => by have := HLT.out y (by simpa using hm); omega
                have hS4 := HS3.out.keep kw (hob p (.inl HPB.out.1)) (hob b (.inl HPB.out.2.1))
                have hA4 := HAB3.out.keep kw (hob _ (.inr (Nat.le_refl _)))
                have hK4 : Keep [b] w1 w4 := HK3.out.step kw (fun y hy => .inr (HLT.out y (by simpa using hy)).1)
                have HS4 := Lib.hid hS4
                have HK4 := Lib.hid hK4
                have HO4 : Hid (w4.ownsRow w1.heap.size 2 1 v' (vs ++ [xn]).length ((vs ++ [xn]).map intV)) := Lib.hid (by rw [List.length_append, List.map_append]; exact hown')
                obtain ⟨f0, f1, f2, f3, f4⟩ := hA4.facts
                simp only at f0 f1 f2 f3
                clear hS4 hA4 hK4 hown' kw hob hgrow hi hz0' hz1' hz2' HS3 HO3 HAB3
                go_wp2_with (fail)
                go_roundw
                case rel => exact ⟨j + 1, L1, vs ++ [xn], by go_num, by omega, by simp; omega, H132.out, HU1.out, HS2.out, HS4.out, HO4.out, HK4.out⟩
                case measure => simp [intOf]; omega
              · have hsb : (startI xt == s) = false := by simp [hss]
                have HS2 : Hid (SumOk ⟨s, k⟩ L1 vs) := Lib.hid (by have := HS20.out; rwa [if_neg (fun h => hss h.2.2)] at this)
                clear he hkk hss HS20
                go_wp2_with (fail)
                refine (start_any _ _).mono ?_
                rintro e w9 ⟨rfl, rfl⟩
                go_wp2_with (fail)
                go_roundw
                case rel => exact ⟨j + 1, L1, vs, by go_num, by omega, by omega, H132.out, HU1.out, HS2.out, HS3.out, HO3.out, HK3.out⟩
                case measure => simp [intOf]; omega
            · have hkb : (xk.toList == k.toList) = false := by rw [beq_bytes]; simp [hkk]
              have HS2 : Hid (SumOk ⟨s, k⟩ L1 vs) := Lib.hid (by have := HS20.out; rwa [if_neg (fun h => hkk h.2.1)] at this)
              clear he hkk HS20
              go_wp2_with (fail)
              go_roundw
              case rel => exact ⟨j + 1, L1, vs, by go_num, by omega, by omega, H132.out, HU1.out, HS2.out, HS3.out, HO3.out, HK3.out⟩
              case measure => simp [intOf]; omega
          · have heb : (e1 == 0) = false := by simp [he]
            have HS2 : Hid (SumOk ⟨s, k⟩ L1 vs) := Lib.hid (by have := HS20.out; rwa [if_neg (fun h => he h.1)] at this)
            clear he HS20
            go_wp2_with (fail)
            go_roundw
            case rel => exact ⟨j + 1, L1, vs, by go_num, by omega, by omega, H132.out, HU1.out, HS2.out, HS3.out, HO3.out, HK3.out⟩
            case measure => simp [intOf]; omega
        by_cases g2 : dd = 2
        · subst g2
          go_wp2_with (fail)
          refine (rall_any HSA.out (by have := H32.out; omega)).mono ?_
          rintro e w3 ⟨A3, cc3, rfl, hE3, hB3⟩
          have HAB3 := Lib.hid (HAB.out.below (hB3))
          have HS3 := Lib.hid (HSA.out.below hB3)
          have HO3 := Lib.hid (own_keep HOA.out (Keep.of_below hB3 []) (fun _ _ => by simp))
          have HK3 := Lib.hid (HKA.out.then_below hB3)
          clear hE3 hB3 HAB HSA HOA HKA f0 f1 f2 f3 f4 hW1 c0 c1 c2 c3 d0 d1 d2 d3 d4 d5 d6 d7 d8 d9
          obtain ⟨f0, f1, f2, f3, f4⟩ := HAB3.out.facts
          simp only at f0 f1 f2 f3
          go_wp2_with (fail)
          refine (rtake_any HS3.out (by have := H32.out; omega) xt).mono ?_
          rintro e w4 ⟨A4, cc4, rfl, hE4, hS4, hK4⟩
          have hbn : b < w1.heap.size := HPB.out.2.1
          have hnn : w1.heap.size ≤ wr.heap.size := HNA.out
          have HS4 := Lib.hid hS4
          have HE4 := Lib.hid hE4.row
          have HAB4 := Lib.hid (HAB3.out.keep hK4 (by simp; omega))
          have HO4 := Lib.hid (own_keep HO3.out hK4 (fun g hg => by have := (HLT.out g hg).1; simp; omega))
          have HK4 := Lib.hid (HK3.out.trans hK4)
          clear hE4 hS4 hK4 HAB3 HS3 HO3 HK3
          have hr32 : (restL xt L).length ≤ 32 := by have := rest_len xt L; have := H32.out; omega
          go_wp2_with (fail)
          refine (rall_any HS4.out (by omega)).mono ?_
          rintro e w5 ⟨A5, cc5, rfl, hE5, hB5⟩
          have HR5 := Lib.hid hE5.row
          have HS5 := Lib.hid (HS4.out.below hB5)
          have HE5 := Lib.hid (HE4.out.below hB5)
          have HAB5 := Lib.hid (HAB4.out.below hB5)
          have HO5 := Lib.hid (own_keep HO4.out (Keep.of_below hB5 []) (fun _ _ => by simp))
          have HK5 := Lib.hid (HK4.out.then_below hB5)
          clear hE5 hB5 HS4 HE4 HAB4 HO4 HK4 f0 f1 f2 f3 f4
          have hsl : (((overL xt L).length : Int) + ((restL xt L).length : Int) != (L.length : Int)) = false := by have := over_rest_len xt L; simp; omega
          have hzo := Int.natCast_nonneg (overL xt L).length
          have hzr := Int.natCast_nonneg (restL xt L).length
          have hzL := Int.natCast_nonneg L.length
          have hmo : ((overL xt L).length : Int) ≤ 32 := by have := over_rest_len xt L; have := H32.out; omega
          have hmr : ((restL xt L).length : Int) ≤ 32 := by omega
          have hmL : (L.length : Int) ≤ 32 := by have := H32.out; omega
          go_wp2_with (fail)
          clear hsl
          go_loopw [9, 15] (fun v i wq => ∃ (j2 : Nat) (vv : Value), vv = v ∧ i = .int .i64 j2 ∧ j2 ≤ (overL xt L).length ∧ ((hadB ⟨s, k⟩ ((overL xt L).take j2) = false ∧ v = .slice av vs.length cv) ∨ (hadB ⟨s, k⟩ ((overL xt L).take j2) = true ∧ v = .slice none 0 0)) ∧ Below w5.heap.size w5 wq) (fun _ i _ => (overL xt L).length - (intOf i).toNat)
          case atStart => exact ⟨0, _, rfl, rfl, Nat.zero_le _, .inl ⟨rfl, rfl⟩, Below.refl _ _⟩
          case round =>
            obtain ⟨j2, v, rfl, rfl, hj2, hv2, hB⟩ := hrel
            have HE := Lib.hid (HE5.out.below hB)
            have HAB := Lib.hid (HAB5.out.below hB)
            have HO := Lib.hid (own_keep HO5.out (Keep.of_below hB []) (fun _ _ => by simp))
            have HW := Lib.hid hB
            have HV := Lib.hid hv2
            clear hB hv2
            by_cases hlt2 : j2 < (overL xt L).length
            · obtain ⟨y, hy⟩ : ∃ y, (overL xt L)[j2]? = some y := ⟨(overL xt L)[j2], List.getElem?_eq_getElem hlt2⟩
              obtain ⟨q2, off2, rfl, hq2, hat2⟩ := HE.out (by intro e; rw [e] at hlt2; simp at hlt2)
              have hy0 := hat2 j2 y hy
              have hym := List.mem_of_getElem? hy
              have hov := (List.mem_filter.1 hym).2
              have hht := hadB_take hy (⟨s, k⟩ : Wd)
              have HHO := Lib.hid (had_once (HU.out.filter (p := fun x => overB x.st xt)) hy)
              obtain ⟨yk, ys, ⟨y1, y2, y3, y4, y5, y6, y7, y8⟩⟩ := y
              have hcov : ∀ W, Calls Try.prog 23 #[.int .i64 ys, .int .i64 xt] W fun e w' => e = .returned (.bool true) ∧ W = w' := fun W => by
                have := over_any ys xt W
                rw [hov] at this
                exact this
              have HOV := Lib.hid hcov
              have HY := Lib.hid hy0
              have HYM := Lib.hid hym
              have HHT := Lib.hid hht
              have h0j2 : (0 : Int) ≤ (j2 : Int) := Int.natCast_nonneg j2
              have hjn2 : (j2 : Int) < ((overL xt L).length : Int) := by omega
              clear hat2 hy hy0 hym hov hht hcov
              go_wp2_with (fail)
              refine wp_region_soup 9 [] (spOf [(7, Spec.is (.bool true))]) (by kernel_rfl) (by kernel_rfl) (spOk_of (by simp [Spec.is_ok])) (pre_of (by simp [Spec.is_ok])) ?_
              simp only [List.take_succ_cons, List.take_zero, List.drop_succ_cons, List.drop_zero]
              iterate 7
                with_reducible refine soup_q ?_ ?_ ?_
                · rfl
                · rfl
                with_reducible apply Exists.intro
                with_reducible refine ⟨fun W hk _ => ?_, ?_⟩
                · obtain ⟨d0, d1, d2, d3, d4, d5, d6, d7, d8, d9⟩ := HY.out.keep hk hq2 (by simp)
                  simp only at d0 d1 d2 d3 d4 d5 d6 d7 d8 d9
                  obtain ⟨f0, f1, f2, f3, f4⟩ := (HAB.out.keep hk).facts
                  simp only at f0 f1 f2 f3
                  unfold Oper.same
                  go_simp
                  first | rfl | exact ⟨rfl, rfl⟩
                with_reducible apply Exists.intro
                with_reducible refine ⟨?_, ?_⟩
                · go_simp
                  rfl
              refine soup_s rfl rfl rfl (fun W hk _ _ => ?_) ?_
              · unfold Oper.does
                go_simp
                refine (HOV.out _).mono ?_
                rintro e w' ⟨rfl, rfl⟩
                exact ⟨_, rfl, Keep.refl _ _, hk, rfl, trivial⟩
              intro v hv
              obtain rfl : v = _ := hv
              with_reducible apply Exists.intro
              with_reducible refine ⟨?_, ?_⟩
              · go_simp
                rfl
              iterate 1
                with_reducible refine soup_q ?_ ?_ ?_
                · rfl
                · rfl
                with_reducible apply Exists.intro
                with_reducible refine ⟨fun W hk _ => ?_, ?_⟩
                · obtain ⟨d0, d1, d2, d3, d4, d5, d6, d7, d8, d9⟩ := HY.out.keep hk hq2 (by simp)
                  simp only at d0 d1 d2 d3 d4 d5 d6 d7 d8 d9
                  obtain ⟨f0, f1, f2, f3, f4⟩ := (HAB.out.keep hk).facts
                  simp only at f0 f1 f2 f3
                  unfold Oper.same
                  go_simp
                  first | rfl | exact ⟨rfl, rfl⟩
                with_reducible apply Exists.intro
                with_reducible refine ⟨?_, ?_⟩
                · go_simp
                  rfl
              refine soup_nil (fun W3 hk hS => ?_)
              have HY3 := Lib.hid (HY.out.keep hk hq2 (by simp))
              have hq3 : q2 < W3.heap.size := Nat.lt_of_lt_of_le hq2 hk.size
              have HO3 := Lib.hid (own_keep HO.out hk (fun _ _ => by simp))
              have HW3 := Lib.hid (HW.out.trans (hk.below HW.out.size (by simp)))
              clear hk hS HY hq2 HO HW HAB HOV
              obtain ⟨d0, d1, d2, d3, d4, d5, d6, d7, d8, d9⟩ := HY3.out
              simp only at d0 d1 d2 d3 d4 d5 d6 d7 d8 d9
              by_cases hkk : yk = k
              · have hkb : (yk.toList == k.toList) = true := by rw [beq_bytes]; simp [hkk]
                by_cases hss : ys = s
                · have hsb : (ys == s) = true := by simp [hss]
                  subst hkk hss
                  have hnh : hadB ⟨ys, yk⟩ ((overL xt L).take j2) = false := HHO.out
                  obtain rfl : v = .slice av vs.length cv := by
                    rcases HV.out with ⟨_, h⟩ | ⟨h, _⟩
                    · exact h
                    · rw [hnh] at h; cases h
                  have hag : (⟨y1, y2, y3, y4, y5, y6, y7, y8⟩ : Ag) = ofL vs := HSM.out.over HU.out xt HYM.out rfl
                  have HOF : Hid (∀ W, IntsRow W av vs → Calls Try.prog 24 #[.slice av vs.length cv] W fun e w' => e = .returned (.agg #[.int .i64 y1, .int .i64 y2, .int .i64 y3, .int .i64 y4, .int .i64 y5, .int .i64 y6, .int .i64 y7, .int .i64 y8]) ∧ Below W.heap.size W w') := Lib.hid (fun W h => by
                    have := aof_any cv h (by omega)
                    rw [← hag] at this
                    exact this)
                  have hne := neq_ag ⟨y1, y2, y3, y4, y5, y6, y7, y8⟩ ⟨y1, y2, y3, y4, y5, y6, y7, y8⟩
                  rw [decide_eq_true rfl] at hne
                  simp only [Ag.val, Bool.not_true] at hne
                  have HNEQ := Lib.hid hne
                  have HGD := Lib.hid (guard_ag .neq)
                  have HR3 := Lib.hid (ints_row HO3.out)
                  have HH1 : Hid (hadB ⟨ys, yk⟩ ((overL xt L).take (j2 + 1)) = true) := Lib.hid (by rw [HHT.out, Bool.or_eq_true]; exact .inr (decide_eq_true rfl))
                  clear hne hag hnh HV HHT HHO HYM HO3
                  go_wp2_with (fail)
                  clear d0 d1 d2 d3 d4 d5 d6 d7 d8 d9
                  refine wp_region_soup 8 [] (spOf [(6, Spec.is (.agg #[.int .i64 y1, .int .i64 y2, .int .i64 y3, .int .i64 y4, .int .i64 y5, .int .i64 y6, .int .i64 y7, .int .i64 y8]))]) (by kernel_rfl) (by kernel_rfl) (spOk_of (by simp [Spec.is_ok])) (pre_of (by simp [Spec.is_ok])) ?_
                  simp only [List.take_succ_cons, List.take_zero, List.drop_succ_cons, List.drop_zero]
                  iterate 6
                    with_reducible refine soup_q ?_ ?_ ?_
                    · rfl
                    · rfl
                    with_reducible apply Exists.intro
                    with_reducible refine ⟨fun W hk _ => ?_, ?_⟩
                    · obtain ⟨d0, d1, d2, d3, d4, d5, d6, d7, d8, d9⟩ := HY3.out.keep hk hq3 (by simp)
                      simp only at d0 d1 d2 d3 d4 d5 d6 d7 d8 d9
                      have hneq := HNEQ.out
                      have hgd := HGD.out
                      unfold Oper.same
                      go_simp
                      first | rfl | exact ⟨rfl, rfl⟩
                    with_reducible apply Exists.intro
                    with_reducible refine ⟨?_, ?_⟩
                    · go_simp
                      rfl
                  refine soup_s rfl rfl rfl (fun W hk _ _ => ?_) ?_
                  · unfold Oper.does
                    go_simp
                    refine (HOF.out _ (HR3.out.keep hk (fun _ _ _ _ => by simp))).mono ?_
                    rintro e w' ⟨rfl, hb⟩
                    exact ⟨_, rfl, Keep.of_below hb _, hk.then_below hb, rfl, trivial⟩
                  intro v hv
                  obtain rfl : v = _ := hv
                  with_reducible apply Exists.intro
                  with_reducible refine ⟨?_, ?_⟩
                  · go_simp
                    rfl
                  iterate 1
                    with_reducible refine soup_q ?_ ?_ ?_
                    · rfl
                    · rfl
                    with_reducible apply Exists.intro
                    with_reducible refine ⟨fun W hk _ => ?_, ?_⟩
                    · obtain ⟨d0, d1, d2, d3, d4, d5, d6, d7, d8, d9⟩ := HY3.out.keep hk hq3 (by simp)
                      simp only at d0 d1 d2 d3 d4 d5 d6 d7 d8 d9
                      have hneq := HNEQ.out
                      have hgd := HGD.out
                      unfold Oper.same
                      go_simp
                      first | rfl | exact ⟨rfl, rfl⟩
                    with_reducible apply Exists.intro
                    with_reducible refine ⟨?_, ?_⟩
                    · go_simp
                      rfl
                  refine soup_nil (fun W4 hk hS => ?_)
                  have HW4 := Lib.hid (HW3.out.trans (hk.below HW3.out.size (by simp)))
                  clear hk hS HY3 hq3 HR3 HOF HNEQ HGD HW3
                  go_wp2_with (fail)
                  go_roundw
                  case rel => exact ⟨j2 + 1, _, rfl, by go_num, by omega, .inr ⟨HH1.out, rfl⟩, HW4.out⟩
                  case measure => simp [intOf]; omega
                · have hsb : (ys == s) = false := by simp [hss]
                  have HNE : ys = s → yk = k → False := fun h _ => hss h
                  have HH2 : Hid ((hadB ⟨s, k⟩ ((overL xt L).take (j2 + 1)) = false ∧ v = .slice av vs.length cv) ∨ (hadB ⟨s, k⟩ ((overL xt L).take (j2 + 1)) = true ∧ v = .slice none 0 0)) := Lib.hid (by
                    rw [HHT.out, decide_eq_false (fun h => by injection h with h1 h2; exact HNE h1 h2), Bool.or_false]
                    exact HV.out)
                  clear HV HHT HHO HYM
                  clear HNE hkk hss
                  go_wp2_with (fail)
                  go_roundw
                  case rel => exact ⟨j2 + 1, v, rfl, by go_num, by omega, HH2.out, HW3.out⟩
                  case measure => simp [intOf]; omega
              · have hkb : (yk.toList == k.toList) = false := by rw [beq_bytes]; simp [hkk]
                have HNE : ys = s → yk = k → False := fun _ h => hkk h
                have HH2 : Hid ((hadB ⟨s, k⟩ ((overL xt L).take (j2 + 1)) = false ∧ v = .slice av vs.length cv) ∨ (hadB ⟨s, k⟩ ((overL xt L).take (j2 + 1)) = true ∧ v = .slice none 0 0)) := Lib.hid (by
                  rw [HHT.out, decide_eq_false (fun h => by injection h with h1 h2; exact HNE h1 h2), Bool.or_false]
                  exact HV.out)
                clear HV HHT HHO HYM
                clear HNE hkk
                go_wp2_with (fail)
                go_roundw
                case rel => exact ⟨j2 + 1, v, rfl, by go_num, by omega, HH2.out, HW3.out⟩
                case measure => simp [intOf]; omega
            · obtain rfl : j2 = (overL xt L).length := by omega
              have HFIN : Hid (∃ vs', vs'.length ≤ j ∧ SumOk ⟨s, k⟩ (restL xt L) vs' ∧ wr.ownsRow w1.heap.size 2 1 v vs'.length (vs'.map intV)) := Lib.hid (by
                have hsm := HSM.out.take HU.out xt
                rcases HV.out with ⟨hh, hv⟩ | ⟨hh, hv⟩
                · rw [List.take_length] at hh
                  rw [if_neg (fun h => by rw [hadB_iff.2 h] at hh; cases hh)] at hsm
                  exact ⟨vs, hvj, hsm, by rw [hv]; exact HO.out⟩
                · rw [List.take_length] at hh
                  rw [if_pos (hadB_iff.1 hh)] at hsm
                  exact ⟨[], Nat.zero_le _, hsm, by rw [hv]; exact World.ownsRow_nil _ _ _ _⟩)
              have HS6 := Lib.hid (HS5.out.below HW.out)
              have HR6 := Lib.hid (HR5.out.below HW.out)
              have HK6 := Lib.hid (HK5.out.then_below HW.out)
              clear HV HO HE HE5 HR5 HS5 HO5 HAB5 HK5 HW hlt2 hj2
              go_wp2_with (fail)
              go_loopw [16] (fun i wt => ∃ j3 : Nat, i = .int .i64 j3 ∧ j3 ≤ (restL xt L).length ∧ Below wr.heap.size wr wt) (fun i _ => (restL xt L).length - (intOf i).toNat)
              case atStart => exact ⟨0, rfl, Nat.zero_le _, Below.refl _ _⟩
              case round =>
                obtain ⟨j3, rfl, hj3, hB⟩ := hrel
                have HRR := Lib.hid (HR6.out.below hB)
                have HABR := Lib.hid (HAB.out.below hB)
                have HW := Lib.hid hB
                clear hB
                by_cases hlt3 : j3 < (restL xt L).length
                · obtain ⟨y, hy⟩ : ∃ y, (restL xt L)[j3]? = some y := ⟨(restL xt L)[j3], List.getElem?_eq_getElem hlt3⟩
                  obtain ⟨q2, off2, rfl, hq2, hat2⟩ := HRR.out (by intro e; rw [e] at hlt3; simp at hlt3)
                  have hy0 := hat2 j3 y hy
                  have hov := (List.mem_filter.1 (List.mem_of_getElem? hy)).2
                  obtain ⟨yk, ys, ⟨y1, y2, y3, y4, y5, y6, y7, y8⟩⟩ := y
                  have hov2 : overB ys xt = false := by simpa using hov
                  have hcov : ∀ W, Calls Try.prog 23 #[.int .i64 ys, .int .i64 xt] W fun e w' => e = .returned (.bool false) ∧ W = w' := fun W => by
                    have := over_any ys xt W
                    rw [hov2] at this
                    exact this
                  have HOV := Lib.hid hcov
                  have HY := Lib.hid hy0
                  have h0j3 : (0 : Int) ≤ (j3 : Int) := Int.natCast_nonneg j3
                  have hjn3 : (j3 : Int) < ((restL xt L).length : Int) := by omega
                  clear hat2 hy hy0 hov hov2 hcov
                  go_wp2_with (fail)
                  refine wp_region_soup 8 [] (spOf [(7, Spec.is (.bool false))]) (by kernel_rfl) (by kernel_rfl) (spOk_of (by simp [Spec.is_ok])) (pre_of (by simp [Spec.is_ok])) ?_
                  simp only [List.take_succ_cons, List.take_zero, List.drop_succ_cons, List.drop_zero]
                  iterate 7
                    with_reducible refine soup_q ?_ ?_ ?_
                    · rfl
                    · rfl
                    with_reducible apply Exists.intro
                    with_reducible refine ⟨fun W hk _ => ?_, ?_⟩
                    · obtain ⟨d0, d1, d2, d3, d4, d5, d6, d7, d8, d9⟩ := HY.out.keep hk hq2 (by simp)
                      simp only at d0 d1 d2 d3 d4 d5 d6 d7 d8 d9
                      obtain ⟨f0, f1, f2, f3, f4⟩ := (HABR.out.keep hk).facts
                      simp only at f0 f1 f2 f3
                      unfold Oper.same
                      go_simp
                      first | rfl | exact ⟨rfl, rfl⟩
                    with_reducible apply Exists.intro
                    with_reducible refine ⟨?_, ?_⟩
                    · go_simp
                      rfl
                  refine soup_s rfl rfl rfl (fun W hk _ _ => ?_) ?_
                  · unfold Oper.does
                    go_simp
                    refine (HOV.out _).mono ?_
                    rintro e w' ⟨rfl, rfl⟩
                    exact ⟨_, rfl, Keep.refl _ _, hk, rfl, trivial⟩
                  intro v hv
                  obtain rfl : v = _ := hv
                  with_reducible apply Exists.intro
                  with_reducible refine ⟨?_, ?_⟩
                  · go_simp
                    rfl
                  refine soup_nil (fun W3 hk hS => ?_)
                  have HW3 := Lib.hid (HW.out.trans (hk.below HW.out.size (by simp)))
                  clear hk hS HY hq2 HW HABR HOV
                  go_wp2_with (fail)
                  go_roundw
                  case rel => exact ⟨j3 + 1, by go_num, by omega, HW3.out⟩
                  case measure => simp [intOf]; omega
                · obtain ⟨vs', hv1, hv3, hv4⟩ := HFIN.out
                  have HS7 := Lib.hid (HS6.out.below HW.out)
                  have HK7 := Lib.hid (HK6.out.then_below HW.out)
                  have HSM7 := Lib.hid hv3
                  have HO7 := Lib.hid (own_keep hv4 (Keep.of_below HW.out []) (fun _ _ => by simp))
                  have hvl : vs'.length ≤ j := hv1
                  clear HFIN hv1 hv3 hv4 HRR HABR HW HS6 HK6
                  go_wp2_with (fail)
                  go_roundw
                  case rel => exact ⟨j + 1, restL xt L, vs', by go_num, by omega, by omega, hr32, HU.out.filter _, HSM7.out, HS7.out, HO7.out, HK7.out⟩
                  case measure => simp [intOf]; omega
        have e0 : (dd == 0) = false := by simp [g0]
        have e2 : (dd == 2) = false := by simp [g2]
        clear g0 g2
        go_wp2_with (fail)

        go_roundw
        case rel => exact ⟨j + 1, L, vs, by go_num, by omega, by omega, H32.out, HU.out, HSM.out, HSA.out, HOA.out, HKA.out⟩
        case measure => simp [intOf]; omega
      · obtain rfl : j = l.length := by omega
        obtain ⟨⟨o1, o2, o3, o4, o5, o6, o7, o8⟩, ho⟩ : ∃ x, ofL vs = x := ⟨_, rfl⟩
        have hget := rget_any HS.out k s
        rw [HSM.out.ag, HSM.out.op, ho] at hget
        simp only [Ag.val] at hget
        have HGET := Lib.hid hget
        have HR := Lib.hid (ints_row HO.out)
        have hof := fun (W : World) (h : IntsRow W av vs) => aof_any cv h (by omega)
        rw [ho] at hof
        simp only [Ag.val] at hof
        have HOF := Lib.hid hof
        have heq := eql_ag ⟨o1, o2, o3, o4, o5, o6, o7, o8⟩ ⟨o1, o2, o3, o4, o5, o6, o7, o8⟩
        rw [decide_eq_true rfl] at heq
        simp only [Ag.val] at heq
        have HEQ := Lib.hid heq
        have HGD := Lib.hid (guard_ag .eql)
        have HB := Lib.hid (HB1.out.trans (HK.out.below HB1.out.size (by have := HN.out.2; simp; omega)))
        have hzv := Int.natCast_nonneg vs.length
        clear hget hof heq ho HS HO HK HAV HSM hlt hj
        go_wp2_with (fail)
        refine HGET.out.mono ?_
        rintro e w2 ⟨rfl, hB2⟩
        have HR2 := Lib.hid (HR.out.keep (Keep.of_below hB2 []) (fun _ _ _ _ => by simp))
        have HB2 := Lib.hid (HB.out.trans (hB2.mono HB.out.size))
        have hbx := Bx.new w2 o1 o2 o3 o4 o5 o6 o7 o8
        have hB3 : Below w2.heap.size w2 (w2.alloc (agObj o1 o2 o3 o4 o5 o6 o7 o8)) := (Below.refl _ _).alloc (Nat.le_refl _) _
        obtain ⟨W3, hW3⟩ : ∃ W3, w2.alloc (agObj o1 o2 o3 o4 o5 o6 o7 o8) = W3 := ⟨_, rfl⟩
        rw [hW3] at hbx hB3
        have HBX := Lib.hid hbx
        have HR3 := Lib.hid (HR2.out.keep (Keep.of_below hB3 []) (fun _ _ _ _ => by simp))
        have HB3 := Lib.hid (HB2.out.trans (hB3.mono HB2.out.size))
        clear hB2 hbx hB3 HR HB HR2 HB2 HGET
        by_cases hv : 0 < vs.length
        · have hvd : decide (0 < vs.length) = true := by simp [hv]
          have hvi : (0 : Int) < (vs.length : Int) := by omega
          rw [hvd]
          clear hvd
          go_wp2_with (fail)
          clear hW3
          refine wp_region_soup 14 [] (spOf [(2, Spec.is (.agg #[.int .i64 o1, .int .i64 o2, .int .i64 o3, .int .i64 o4, .int .i64 o5, .int .i64 o6, .int .i64 o7, .int .i64 o8])), (12, Spec.is (.bool true))]) (by kernel_rfl) (by kernel_rfl) (spOk_of (by simp [Spec.is_ok])) (pre_of (by simp [Spec.is_ok])) ?_
          simp only [List.take_succ_cons, List.take_zero, List.drop_succ_cons, List.drop_zero]
          iterate 2
            with_reducible refine soup_q ?_ ?_ ?_
            · rfl
            · rfl
            with_reducible apply Exists.intro
            with_reducible refine ⟨fun W hk _ => ?_, ?_⟩
            · obtain ⟨r0, r1, r2, r3, r4, r5, r6, r7, r8, rf⟩ := (HBX.out.keep hk).facts
              have heql := HEQ.out
              have hgd := HGD.out
              unfold Oper.same
              go_simp
              first | rfl | exact ⟨rfl, rfl⟩
            with_reducible apply Exists.intro
            with_reducible refine ⟨?_, ?_⟩
            · go_simp
              rfl
          refine soup_s rfl rfl rfl (fun W hk _ _ => ?_) ?_
          · unfold Oper.does
            go_simp
            refine (HOF.out _ (HR3.out.keep hk (fun _ _ _ _ => by simp))).mono ?_
            rintro e w' ⟨rfl, hb⟩
            exact ⟨_, rfl, Keep.of_below hb _, hk.then_below hb, rfl, trivial⟩
          intro v hv
          obtain rfl : v = _ := hv
          with_reducible apply Exists.intro
          with_reducible refine ⟨?_, ?_⟩
          · go_simp
            rfl
          iterate 9
            with_reducible refine soup_q ?_ ?_ ?_
            · rfl
            · rfl
            with_reducible apply Exists.intro
            with_reducible refine ⟨fun W hk _ => ?_, ?_⟩
            · obtain ⟨r0, r1, r2, r3, r4, r5, r6, r7, r8, rf⟩ := (HBX.out.keep hk).facts
              have heql := HEQ.out
              have hgd := HGD.out
              unfold Oper.same
              go_simp
              first | rfl | exact ⟨rfl, rfl⟩
            with_reducible apply Exists.intro
            with_reducible refine ⟨?_, ?_⟩
            · go_simp
              rfl
          refine soup_s rfl rfl rfl (fun W hk _ _ => ?_) ?_
          · unfold Oper.does
            go_simp
            refine (wakes09 _).mono ?_
            rintro e w' ⟨rfl, hb⟩
            exact ⟨_, rfl, Keep.of_below hb _, hk.then_below hb, rfl, trivial⟩
          intro v hv
          obtain rfl : v = _ := hv
          with_reducible apply Exists.intro
          with_reducible refine ⟨?_, ?_⟩
          · go_simp
            rfl
          iterate 1
            with_reducible refine soup_q ?_ ?_ ?_
            · rfl
            · rfl
            with_reducible apply Exists.intro
            with_reducible refine ⟨fun W hk _ => ?_, ?_⟩
            · obtain ⟨r0, r1, r2, r3, r4, r5, r6, r7, r8, rf⟩ := (HBX.out.keep hk).facts
              have heql := HEQ.out
              have hgd := HGD.out
              unfold Oper.same
              go_simp
              first | rfl | exact ⟨rfl, rfl⟩
            with_reducible apply Exists.intro
            with_reducible refine ⟨?_, ?_⟩
            · go_simp
              rfl
          refine soup_nil (fun W4 hk hS => ?_)
          have HBE := Lib.hid (HB3.out.trans (hk.below HB3.out.size (by simp)))
          clear hk hS HBX HR3 HB3 HEQ HGD HOF
          go_wp2_with (fail)
          go_ret
          exact ⟨rfl, HBE.out⟩
        · have hvd : decide (0 < vs.length) = false := by simp [hv]
          have hvi : ¬ (0 : Int) < (vs.length : Int) := by omega
          rw [hvd]
          clear hvd
          go_wp2_with (fail)
          clear hW3
          refine wp_region_soup 14 [] (spOf [(2, Spec.is (.agg #[.int .i64 o1, .int .i64 o2, .int .i64 o3, .int .i64 o4, .int .i64 o5, .int .i64 o6, .int .i64 o7, .int .i64 o8])), (12, Spec.is (.bool true))]) (by kernel_rfl) (by kernel_rfl) (spOk_of (by simp [Spec.is_ok])) (pre_of (by simp [Spec.is_ok])) ?_
          simp only [List.take_succ_cons, List.take_zero, List.drop_succ_cons, List.drop_zero]
          iterate 2
            with_reducible refine soup_q ?_ ?_ ?_
            · rfl
            · rfl
            with_reducible apply Exists.intro
            with_reducible refine ⟨fun W hk _ => ?_, ?_⟩
            · obtain ⟨r0, r1, r2, r3, r4, r5, r6, r7, r8, rf⟩ := (HBX.out.keep hk).facts
              have heql := HEQ.out
              have hgd := HGD.out
              unfold Oper.same
              go_simp
              first | rfl | exact ⟨rfl, rfl⟩
            with_reducible apply Exists.intro
            with_reducible refine ⟨?_, ?_⟩
            · go_simp
              rfl
          refine soup_s rfl rfl rfl (fun W hk _ _ => ?_) ?_
          · unfold Oper.does
            go_simp
            refine (HOF.out _ (HR3.out.keep hk (fun _ _ _ _ => by simp))).mono ?_
            rintro e w' ⟨rfl, hb⟩
            exact ⟨_, rfl, Keep.of_below hb _, hk.then_below hb, rfl, trivial⟩
          intro v hv
          obtain rfl : v = _ := hv
          with_reducible apply Exists.intro
          with_reducible refine ⟨?_, ?_⟩
          · go_simp
            rfl
          iterate 9
            with_reducible refine soup_q ?_ ?_ ?_
            · rfl
            · rfl
            with_reducible apply Exists.intro
            with_reducible refine ⟨fun W hk _ => ?_, ?_⟩
            · obtain ⟨r0, r1, r2, r3, r4, r5, r6, r7, r8, rf⟩ := (HBX.out.keep hk).facts
              have heql := HEQ.out
              have hgd := HGD.out
              unfold Oper.same
              go_simp
              first | rfl | exact ⟨rfl, rfl⟩
            with_reducible apply Exists.intro
            with_reducible refine ⟨?_, ?_⟩
            · go_simp
              rfl
          refine soup_s rfl rfl rfl (fun W hk _ _ => ?_) ?_
          · unfold Oper.does
            go_simp
            refine (wakes09 _).mono ?_
            rintro e w' ⟨rfl, hb⟩
            exact ⟨_, rfl, Keep.of_below hb _, hk.then_below hb, rfl, trivial⟩
          intro v hv
          obtain rfl : v = _ := hv
          with_reducible apply Exists.intro
          with_reducible refine ⟨?_, ?_⟩
          · go_simp
            rfl
          iterate 1
            with_reducible refine soup_q ?_ ?_ ?_
            · rfl
            · rfl
            with_reducible apply Exists.intro
            with_reducible refine ⟨fun W hk _ => ?_, ?_⟩
            · obtain ⟨r0, r1, r2, r3, r4, r5, r6, r7, r8, rf⟩ := (HBX.out.keep hk).facts
              have heql := HEQ.out
              have hgd := HGD.out
              unfold Oper.same
              go_simp
              first | rfl | exact ⟨rfl, rfl⟩
            with_reducible apply Exists.intro
            with_reducible refine ⟨?_, ?_⟩
            · go_simp
              rfl
          refine soup_nil (fun W4 hk hS => ?_)
          have HBE := Lib.hid (HB3.out.trans (hk.below HB3.out.size (by simp)))
          clear hk hS HBX HR3 HB3 HEQ HGD HOF
          go_wp2_with (fail)
          go_ret
          exact ⟨rfl, HBE.out⟩
end Go.Proofs.Ytmhbibcfbencnaa
