/- The document's table: Move. -/
import Derived.Test.YteejdfpfdnkiiaaGreatCqE
import Derived.Test.YteejdfpfdnkiiaaGreatCrD
import Derived.Laws.AppendOwn
namespace Go.Proofs.YteejdfpfdnkiiaaGreat
open Go.RowKit Go.Lib
open Go.ChangeMaps (setBlock)
set_option linter.unusedSimpArgs false
set_option linter.unusedVariables false
/-- A box of three fields. -/
def Box3 (W : World) (b : Nat) (x y z : Value) (t : TypeId) : Prop := W.heap[b]? = some (.cells #[x, y, z] t (0, 0))
theorem Box3.facts {W : World} {b : Nat} {x y z : Value} {t : TypeId} (h : Box3 W b x y z t) : W.cell? ⟨b, 0, none⟩ = some x ∧ W.cell? ⟨b, 1, none⟩ = some y ∧ W.cell? ⟨b, 2, none⟩ = some z ∧ b < W.heap.size ∧ ∀ o, W.frozen? ⟨b, o, none⟩ = false := by
  refine ⟨?_, ?_, ?_, lt_of_heap h, fun o => ?_⟩
  · unfold World.cell?; rw [h]; rfl
  · unfold World.cell?; rw [h]; rfl
  · unfold World.cell?; rw [h]; rfl
  · unfold World.frozen?; rw [h]; simp
theorem Box3.keep {X : List Nat} {W W' : World} {b : Nat} {x y z : Value} {t : TypeId} (h : Box3 W b x y z t) (hk : Keep X W W') (hx : b ∉ X) : Box3 W' b x y z t := (hk.block b (lt_of_heap h) hx).trans h
theorem Box3.below {W W' : World} {b : Nat} {x y z : Value} {t : TypeId} (h : Box3 W b x y z t) (hk : Below W.heap.size W W') : Box3 W' b x y z t := (hk.block b (lt_of_heap h)).trans h
theorem Box3.new (W : World) (x y z : Value) (t : TypeId) : Box3 (W.alloc (.cells #[x, y, z] t)) W.heap.size x y z t := World.alloc_heap_new W _
theorem Box3.set {W : World} {b : Nat} {x y z : Value} {t : TypeId} (h : Box3 W b x y z t) (u : Value) : Box3 (W.setCell ⟨b, 2, none⟩ u) b x y u t := by
  unfold Box3 at *
  simp [World.setCell, Array.getElem?_modify, h]
theorem set_take {own : List Int} {p j : Nat} {v x : Int} (hj : j < own.length) (hx : own[j]?.getD 0 = x) : ((own.set p v).take (j + 1)).map inV = ((own.set p v).take j).map inV ++ [inV (if j = p then v else x)] := by
  rw [List.take_add_one, List.getElem?_set, List.map_append]
  congr 1
  rw [List.getElem?_eq_getElem hj] at hx
  by_cases h : j = p
  · subst h
    simp [hj]
  · simp only [Option.getD_some] at hx
    simp [Ne.symm h, h, hj, hx]
def RmvP (w : World) (my ep nd : Int) (own : List Int) (e : Ending) (w' : World) : Prop := ((my ≠ 0 ∧ e = .returned (.tuple #[.agg #[.int .i64 0, .int .i64 0, .slice none 0 0], .int .i64 my])) ∨ (my = 0 ∧ ∃ a c, e = .returned (.tuple #[.agg #[.int .i64 ep, .int .i64 nd, .slice a own.length c], .int .i64 0]) ∧ IRow w.heap.size w' (.slice a own.length c) own)) ∧ Keep [] w w'
theorem RmvP.no {w w' : World} {my ep nd : Int} {own : List Int} (h : my ≠ 0) (hb : Below w.heap.size w w') : RmvP w my ep nd own (.returned (.tuple #[.agg #[.int .i64 0, .int .i64 0, .slice none 0 0], .int .i64 my])) w' := ⟨.inl ⟨h, rfl⟩, Keep.of_below hb []⟩
theorem RmvP.yes {w w' : World} {ep nd : Int} {own : List Int} {n c : Nat} {a : Option Addr} (hn : own.length = n) (hr : IRow w.heap.size w' (.slice a n c) own) (hb : Below w.heap.size w w') : RmvP w 0 ep nd own (.returned (.tuple #[.agg #[.int .i64 ep, .int .i64 nd, .slice a n c], .int .i64 0])) w' := by
  subst hn
  exact ⟨.inr ⟨rfl, a, c, rfl, hr⟩, Keep.of_below hb []⟩
set_option maxRecDepth 100000 in
set_option maxHeartbeats 4000000 in
theorem refMove_any (t : Tb) (part to : Int) (w : World) (hI : IntsAt w t.oa t.owner) :
    Calls Tryz.prog 37 #[t.val, .int .i64 part, .int .i64 to] w (RmvP w (t.may part to) (t.ep + 1) t.nodes (t.owner.set part.toNat to)) := by
  have hright := fun W (hB : Below w.heap.size w W) => refRight_any t W (hI.below hB)
  have hmayd : t.may part to = if t.right = false ∨ 2147483647 ≤ t.ep then 1 else if part < 0 ∨ (t.owner.length : Int) ≤ part then 21 else if to < 0 ∨ t.nodes ≤ to then 22 else if t.owner[part.toNat]?.getD 0 = to then 23 else 0 := rfl
  obtain ⟨ep, nodes, oa, oc, own⟩ := t
  simp only [Tb.val] at hright hI hmayd ⊢
  obtain ⟨my, hmy⟩ : ∃ my, Tb.may ⟨ep, nodes, oa, oc, own⟩ part to = my := ⟨_, rfl⟩
  rw [hmy] at hmayd ⊢
  obtain ⟨rt, hrt⟩ : ∃ rt, Tb.right ⟨ep, nodes, oa, oc, own⟩ = rt := ⟨_, rfl⟩
  rw [hrt] at hmayd
  simp only [hrt] at hright
  clear hmy
  have hb0 : Box3 (w.alloc (.cells #[.int .i64 ep, .int .i64 nodes, .slice oa own.length oc] 24)) w.heap.size (.int .i64 ep) (.int .i64 nodes) (.slice oa own.length oc) 24 := Box3.new _ _ _ _ _
  have hr0 := Box3.new (w.alloc (.cells #[.int .i64 ep, .int .i64 nodes, .slice oa own.length oc] 24)) (.int .i64 0) (.int .i64 0) (.slice none 0 0) 24
  have hB1 : Below w.heap.size w (w.alloc (.cells #[.int .i64 ep, .int .i64 nodes, .slice oa own.length oc] 24)) := (Below.refl _ w).alloc (Nat.le_refl _) _
  have hB2 := hB1.alloc (by simp) (.cells #[.int .i64 0, .int .i64 0, .slice none 0 0] 24)
  replace hb0 := hb0.below ((Below.refl _ _).alloc (Nat.le_refl _) (.cells #[.int .i64 0, .int .i64 0, .slice none 0 0] 24))
  rw [World.size_alloc] at hr0
  obtain ⟨w2, hw2⟩ : ∃ w2, (w.alloc (.cells #[.int .i64 ep, .int .i64 nodes, .slice oa own.length oc] 24)).alloc (.cells #[.int .i64 0, .int .i64 0, .slice none 0 0] 24) = w2 := ⟨_, rfl⟩
  rw [hw2] at hb0 hr0 hB2
  have hR := hright w2 hB2
  obtain ⟨x0, x1, x2, x3, _⟩ := hb0.facts
  have HB := Lib.hid hB2
  have HI := Lib.hid hI
  have HM := Lib.hid hmayd
  have HRT := Lib.hid hrt
  have HR0 := Lib.hid hr0
  have HB0 := Lib.hid hb0
  have HR := Lib.hid hR
  clear hright hI hmayd hrt hr0 hb0 hB1 hB2 hR
  go_enter Tryz.func37, Tryz.ntmps37
  go_wp2_with (fail)
  refine HR.out.mono ?_
  rintro e w3 ⟨rfl, hB3⟩
  clear hw2 x0 x1 x2 x3
  have HB3 := Lib.hid (HB.out.trans (hB3.mono HB.out.size))
  have hb0 := HB0.out.below hB3
  have hr0 := HR0.out.below hB3
  obtain ⟨x0, x1, x2, x3, _⟩ := hb0.facts
  obtain ⟨z0, z1, z2, z3, zf⟩ := hr0.facts
  have HI3 := Lib.hid (HI.out.below HB3.out)
  have HRR := Lib.hid hr0
  clear HB HI HR0 HB0 HR hB3 hb0 hr0
  by_cases c1 : rt = false
  · subst c1
    have hm := HM.out
    rw [if_pos (.inl rfl)] at hm
    subst hm
    go_wp2_with (fail)
    refine bodyPost_ret (v := .tuple #[.agg #[.int .i64 0, .int .i64 0, .slice none 0 0], .int .i64 1]) (by simp [results, Tryz.results37, go_sem, z0, z1, z2, z3]) rfl (RmvP.no (by decide) ?_)
    repeat' (first | exact HB3.out | refine Below.setCell ?_ (by simp) _ | refine Below.alloc ?_ (by first | (simp; done) | (simp; omega)) _)
  · obtain rfl : rt = true := by simpa using c1
    by_cases c2 : 2147483647 ≤ ep
    · have hm := HM.out
      rw [if_pos (.inr c2)] at hm
      subst hm
      go_wp2_with (fail)
      refine bodyPost_ret (v := .tuple #[.agg #[.int .i64 0, .int .i64 0, .slice none 0 0], .int .i64 1]) (by simp [results, Tryz.results37, go_sem, z0, z1, z2, z3]) rfl (RmvP.no (by decide) ?_)
      repeat' (first | exact HB3.out | refine Below.setCell ?_ (by simp) _ | refine Below.alloc ?_ (by first | (simp; done) | (simp; omega)) _)
    have hg1 : ¬ ((true = false) ∨ 2147483647 ≤ ep) := by rintro (h | h); cases h; exact c2 h
    have hs := HRT.out
    simp only [Tb.right, Bool.and_eq_true, decide_eq_true_eq] at hs
    obtain ⟨⟨⟨⟨⟨_, _⟩, _⟩, hl1⟩, hl8⟩, _⟩ := hs
    by_cases c3 : part < 0
    · have hm := HM.out
      rw [if_neg hg1, if_pos (.inl c3)] at hm
      subst hm
      go_wp2_with (fail)
      refine bodyPost_ret (v := .tuple #[.agg #[.int .i64 0, .int .i64 0, .slice none 0 0], .int .i64 21]) (by simp [results, Tryz.results37, go_sem, z0, z1, z2, z3]) rfl (RmvP.no (by decide) ?_)
      repeat' (first | exact HB3.out | refine Below.setCell ?_ (by simp) _ | refine Below.alloc ?_ (by first | (simp; done) | (simp; omega)) _)
    by_cases c4 : (own.length : Int) ≤ part
    · have hm := HM.out
      rw [if_neg hg1, if_pos (.inr c4)] at hm
      subst hm
      go_wp2_with (fail)
      refine bodyPost_ret (v := .tuple #[.agg #[.int .i64 0, .int .i64 0, .slice none 0 0], .int .i64 21]) (by simp [results, Tryz.results37, go_sem, z0, z1, z2, z3]) rfl (RmvP.no (by decide) ?_)
      repeat' (first | exact HB3.out | refine Below.setCell ?_ (by simp) _ | refine Below.alloc ?_ (by first | (simp; done) | (simp; omega)) _)
    have hg2 : ¬ (part < 0 ∨ (own.length : Int) ≤ part) := by omega
    by_cases c5 : to < 0
    · have hm := HM.out
      rw [if_neg hg1, if_neg hg2, if_pos (.inl c5)] at hm
      subst hm
      go_wp2_with (fail)
      refine bodyPost_ret (v := .tuple #[.agg #[.int .i64 0, .int .i64 0, .slice none 0 0], .int .i64 22]) (by simp [results, Tryz.results37, go_sem, z0, z1, z2, z3]) rfl (RmvP.no (by decide) ?_)
      repeat' (first | exact HB3.out | refine Below.setCell ?_ (by simp) _ | refine Below.alloc ?_ (by first | (simp; done) | (simp; omega)) _)
    by_cases c6 : nodes ≤ to
    · have hm := HM.out
      rw [if_neg hg1, if_neg hg2, if_pos (.inr c6)] at hm
      subst hm
      go_wp2_with (fail)
      refine bodyPost_ret (v := .tuple #[.agg #[.int .i64 0, .int .i64 0, .slice none 0 0], .int .i64 22]) (by simp [results, Tryz.results37, go_sem, z0, z1, z2, z3]) rfl (RmvP.no (by decide) ?_)
      repeat' (first | exact HB3.out | refine Below.setCell ?_ (by simp) _ | refine Below.alloc ?_ (by first | (simp; done) | (simp; omega)) _)
    have hg3 : ¬ (to < 0 ∨ nodes ≤ to) := by omega
    obtain ⟨b1, off1, ea, gb, hcl⟩ := HI3.out (by intro hh; rw [hh] at hl1; simp at hl1)
    obtain ⟨pn, rfl⟩ := Int.eq_ofNat_of_zero_le (a := part) (by omega)
    have hpl : pn < own.length := by omega
    have hpl2 : (pn : Int) < (own.length : Int) := by omega
    have x4 := hcl pn hpl
    have hm := HM.out
    rw [if_neg hg1, if_neg hg2, if_neg hg3, Int.toNat_natCast] at hm
    obtain ⟨fr, hfr⟩ : ∃ fr, own[pn]?.getD 0 = fr := ⟨_, rfl⟩
    rw [hfr] at hm x4
    subst ea
    have HCL := Lib.hid hcl
    clear hcl hfr hg1 hg2 hg3 HM HI3
    have hwb : w.heap.size + 1 < w3.heap.size := z3
    simp only [Int.toNat_natCast]
    by_cases c7 : fr = to
    · rw [if_pos c7] at hm
      subst hm
      subst c7
      go_wp2_with (fail)
      refine bodyPost_ret (v := .tuple #[.agg #[.int .i64 0, .int .i64 0, .slice none 0 0], .int .i64 23]) (by simp [results, Tryz.results37, go_sem, z0, z1, z2, z3]) rfl (RmvP.no (by decide) ?_)
      repeat' (first | exact HB3.out | refine Below.setCell ?_ (by simp) _ | refine Below.alloc ?_ (by first | (simp; done) | (simp; omega)) _)
    rw [if_neg c7] at hm
    subst hm
    have c7b : (fr == to) = false := by simp [c7]
    have c7d : decide (fr = to) = false := by simp [c7]
    go_wp2_with (fail)
    clear x0 x1 z0 z1 z2 z3 zf
    go_loopw [9] (fun i wr => ∃ (j : Nat) (xs : List Value) (v : Value), i = .int .i64 j ∧ j ≤ own.length ∧ Below w3.heap.size w3 wr ∧ Box3 wr w3.heap.size (.int .i64 (ep + 1)) (.int .i64 nodes) v 24 ∧ wr.ownsRow (w3.heap.size + 1) 3 1 v j xs ∧ xs = ((own.set pn to).take j).map inV) (fun i _ => own.length - (intOf i).toNat)
    case atStart => exact ⟨0, [], _, rfl, Nat.zero_le _, (Below.refl _ _).alloc (Nat.le_refl _) _, Box3.new _ _ _ _ _, World.ownsRow_nil _ _ _ _, rfl⟩
    case round =>
      obtain ⟨j, xs, v, rfl, hj, hBr, hbx, hown, hxs⟩ := hrel
      have HXS := Lib.hid hxs
      clear hxs
      obtain ⟨av, cv, rfl, hav⟩ := own_shape hown
      obtain ⟨y0, y1, y2, y3, yf⟩ := hbx.facts
      replace x2 := (hBr.cell (p := ⟨w.heap.size, 2, none⟩) x3).trans x2
      have hbr := hBr.size
      have HBR := Lib.hid hBr
      have HOX := Lib.hid hown
      have HBX := Lib.hid hbx
      obtain ⟨i0, hi, hi0, hi1, hi2⟩ := info_parts infoInt
      have hwr1 : w.heap.size < wr.heap.size := by omega
      by_cases hjl : j < own.length
      · obtain ⟨x, hx⟩ : ∃ x, own[j]?.getD 0 = x := ⟨_, rfl⟩
        have x5 := (HBR.out.cell (p := ⟨b1, off1 + j, none⟩) gb).trans (HCL.out j hjl)
        rw [hx] at x5
        have hsn := set_take (p := pn) (v := to) hjl hx
        have HSN := Lib.hid hsn
        clear hsn
        have hjl2 : (j : Int) < (own.length : Int) := by omega
        clear hx hBr hown hbx hav x4
        by_cases hjp : j = pn
        · subst hjp
          go_wp2_with (at_builtin; refine wpList_append_own _ rfl _ _ 22 rfl (w3.heap.size + 1) 3 i0 (.int .i64 0) 1 8 Tryz.underlying22 hi hi0 hi1 hi2 rfl (by decide) _ _ _ rfl (HOX.out.alloc _) ⟨wr.heap.size, 0, none⟩ 1 1 [.int .i64 to] rfl rfl ?c1 ?c2 ?c3 ?c4 ?c5 ?_)
          try case c1 => exact cells_new _ _ _ _ (by simp)
          case c2 => simp [Value.oneCell']
          case c3 => unfold maxLen; omega
          case c4 => omega
          try case c5 => simp; omega
          intro v' w4 hown' hgrow _
          obtain ⟨av', cv', rfl, _⟩ := own_shape hown'
          have kw : Keep (Value.slice av j cv).ownBlock.toList wr w4 := ((Keep.refl _ wr).alloc _).grown hgrow (fun k hk => .inl (by simp [hk]))
          have hbx4 := HBX.out.keep kw (fun hm => by have := own_base HOX.out _ (by simpa using hm); omega)
          obtain ⟨_, _, _, q3, qf⟩ := hbx4.facts
          have HBX4 := Lib.hid hbx4
          have hB4 : Below w3.heap.size w3 w4 := (HBR.out.alloc (by have := HBR.out.size; omega) _).grown hgrow (by simp; have := HBR.out.size; omega) (fun g hg => by have := own_base HOX.out g hg; omega)
          have HB4 := Lib.hid hB4
          have HO4 := Lib.hid hown'
          clear hgrow kw hbx4 hB4 hown'
          go_wp2
          go_roundw
          case rel =>
            refine ⟨j + 1, _, _, by go_num, by omega, HB4.out.setCell (Nat.le_refl _) _, HBX4.out.set _, own_keep HO4.out ((Keep.refl [w3.heap.size] _).setCell w3.heap.size 2 _ (.inl (by simp))) (fun g hg => by have := own_base HO4.out g hg; simp; omega), ?_⟩
            rw [HSN.out, HXS.out]
            first | (simp [inV]; done) | (simp [hjp, inV]; done)
          case measure => go_light; simp [intOf]; omega
        · have hjb : ((j : Int) == (pn : Int)) = false := by simp; omega
          have hjd : decide ((j : Int) = (pn : Int)) = false := by simp; omega
          have hjn : ¬ (j : Int) = (pn : Int) := by omega
          go_wp2_with (at_builtin; refine wpList_append_own _ rfl _ _ 22 rfl (w3.heap.size + 1) 3 i0 (.int .i64 0) 1 8 Tryz.underlying22 hi hi0 hi1 hi2 rfl (by decide) _ _ _ rfl (HOX.out.alloc _) ⟨wr.heap.size, 0, none⟩ 1 1 [.int .i64 x] rfl rfl ?d1 ?d2 ?d3 ?d4 ?d5 ?_)
          try case d1 => exact cells_new _ _ _ _ (by simp)
          try case d2 => simp [Value.oneCell']
          try case d3 => unfold maxLen; omega
          try case d4 => omega
          try case d5 => simp; omega
          intro v' w4 hown' hgrow _
          obtain ⟨av', cv', rfl, _⟩ := own_shape hown'
          have kw : Keep (Value.slice av j cv).ownBlock.toList wr w4 := ((Keep.refl _ wr).alloc _).grown hgrow (fun k hk => .inl (by simp [hk]))
          have hbx4 := HBX.out.keep kw (fun hm => by have := own_base HOX.out _ (by simpa using hm); omega)
          obtain ⟨_, _, _, q3, qf⟩ := hbx4.facts
          have HBX4 := Lib.hid hbx4
          have hB4 : Below w3.heap.size w3 w4 := (HBR.out.alloc (by have := HBR.out.size; omega) _).grown hgrow (by simp; have := HBR.out.size; omega) (fun g hg => by have := own_base HOX.out g hg; omega)
          have HB4 := Lib.hid hB4
          have HO4 := Lib.hid hown'
          clear hgrow kw hbx4 hB4 hown'
          go_wp2
          go_roundw
          case rel =>
            refine ⟨j + 1, _, _, by go_num, by omega, HB4.out.setCell (Nat.le_refl _) _, HBX4.out.set _, own_keep HO4.out ((Keep.refl [w3.heap.size] _).setCell w3.heap.size 2 _ (.inl (by simp))) (fun g hg => by have := own_base HO4.out g hg; simp; omega), ?_⟩
            rw [HSN.out, HXS.out]
            first | (simp [inV]; done) | (simp [hjp, inV]; done)
          case measure => go_light; simp [intOf]; omega
      · obtain rfl : j = own.length := by omega
        have hr1 := HRR.out.below HBR.out
        have HFIN : Hid (IRow w.heap.size wr (.slice av own.length cv) (own.set pn to)) := Lib.hid (by
          have h := HOX.out
          rw [HXS.out, List.take_of_length_le (by simp)] at h
          have h2 := own_low (b := w.heap.size) h (by omega)
          unfold IRow
          rw [List.length_set]
          exact h2)
        have HFB : Hid (∀ g, (Value.slice av own.length cv).ownBlock = some g → w3.heap.size + 1 ≤ g) := Lib.hid (own_base HOX.out)
        obtain ⟨z0, z1, z2, z3, zf⟩ := hr1.facts
        clear hBr hown hbx hav x4 hr1
        go_wp2_with (fail)
        refine bodyPost_ret (v := .tuple #[.agg #[.int .i64 (ep + 1), .int .i64 nodes, .slice av own.length cv], .int .i64 0]) (by simp [results, Tryz.results37, go_sem, z0, z1, z2, z3]) rfl (RmvP.yes (List.length_set ..) (show IRow w.heap.size _ _ _ from ?_) ?_)
        · exact IRow.keep HFIN.out (X := [w.heap.size + 1]) (by repeat' (first | exact Keep.refl _ _ | refine Keep.setCell ?_ _ _ _ (.inl (by simp)))) (fun g hg => by have := HFB.out g hg; simp; omega)
        repeat' (first | exact HB3.out.trans (HBR.out.mono HB3.out.size) | refine Below.setCell ?_ (by simp) _ | refine Below.alloc ?_ (by first | (simp; done) | (simp; omega)) _)
end Go.Proofs.YteejdfpfdnkiiaaGreat
