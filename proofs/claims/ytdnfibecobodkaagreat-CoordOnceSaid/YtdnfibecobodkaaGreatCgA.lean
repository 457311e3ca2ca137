/- goes: may moves and the table become these by one act? -/
import Derived.Test.YtdnfibecobodkaaGreatCgO
namespace Go.Proofs.YtdnfibecobodkaaGreat
open Go.RowKit Go.Lib
set_option linter.unusedSimpArgs false
set_option linter.unusedVariables false
theorem cntC_snoc {was l : List Mo} {j : Nat} {x : Mo} (h : l[j]? = some x) : ((l.take (j + 1)).countP (isC was)) = ((l.take j).countP (isC was)) + if isC was x then 1 else 0 := by
  rw [List.take_add_one, h, List.countP_append]
  simp [List.countP_cons]
theorem and_keep {a b : Nat} (ha : a ≤ 2) (hb : b ≤ 2) (h : a &&& b = b) : (bits BinOp.and .i64 (a : Int) (b : Int) != (b : Int)) = false := by
  rcases dn_cases ha with rfl | rfl | rfl <;> rcases dn_cases hb with rfl | rfl | rfl <;> first | rfl | exact absurd h (by decide)
theorem pair_at {l : List Mo} (h : l.Pairwise fun a b => a.x.part ≠ b.x.part ∧ a.x.mv < b.x.mv) {k j : Nat} {x y : Mo} (hk : k < j) (hx : l[k]? = some x) (hy : l[j]? = some y) : x.x.part ≠ y.x.part ∧ x.x.mv < y.x.mv := by
  obtain ⟨h1, e1⟩ := List.getElem?_eq_some_iff.1 hx
  obtain ⟨h2, e2⟩ := List.getElem?_eq_some_iff.1 hy
  have := List.pairwise_iff_getElem.1 h k j h1 h2 hk
  rw [e1, e2] at this
  exact this
set_option maxRecDepth 100000 in
set_option maxHeartbeats 16000000 in
theorem goes_any {b1 b2 : Nat} {w : World} {v u : Value} {was now : List Mo} (hv : MoRow b1 w v was) (hu : MoRow b2 w u now) {tep uep nd nd' : Int} {ta ua : Option Addr} (tc uc : Nat) {tow uow : List Int} (ht : IntsAt w ta tow) (hw : IntsAt w ua uow) (h : GoesOk was now tep uep tow uow) (htr : (⟨tep, nd, ta, tc, tow⟩ : Tb).right = true) (hur : (⟨uep, nd', ua, uc, uow⟩ : Tb).right = true) :
    Calls Tryz.prog 30 #[v, u, .agg #[.int .i64 tep, .int .i64 nd, .slice ta tow.length tc], .agg #[.int .i64 uep, .int .i64 nd', .slice ua uow.length uc]] w fun e w' => e = .returned (.bool true) ∧ Keep [] w w' := by
  obtain ⟨w1, hw1⟩ : ∃ x, w.alloc (.cells #[.int .i64 tep, .int .i64 nd, .slice ta tow.length tc] 28) = x := ⟨_, rfl⟩
  obtain ⟨w2, hw2⟩ : ∃ x, w1.alloc (.cells #[.int .i64 uep, .int .i64 nd', .slice ua uow.length uc] 28) = x := ⟨_, rfl⟩
  have s1 : w1.heap.size = w.heap.size + 1 := by rw [← hw1, World.size_alloc]
  have k1 : Keep [] w w1 := by rw [← hw1]; exact (Keep.refl _ _).alloc _
  have k2 : Keep [] w1 w2 := by rw [← hw2]; exact (Keep.refl _ _).alloc _
  have bt : w2.heap[w.heap.size]? = some (.cells #[.int .i64 tep, .int .i64 nd, .slice ta tow.length tc] 28 (0, 0)) := (k2.block _ (by rw [s1]; omega) (by simp)).trans (by rw [← hw1]; exact World.alloc_heap_new w _)
  have bu : w2.heap[w.heap.size + 1]? = some (.cells #[.int .i64 uep, .int .i64 nd', .slice ua uow.length uc] 28 (0, 0)) := by rw [← hw2, ← s1]; exact World.alloc_heap_new w1 _
  have k12 := k1.trans k2
  have HK := Lib.hid k12
  have HV := Lib.hid (MoRow.keep hv k12 (by simp))
  have HU := Lib.hid (MoRow.keep hu k12 (by simp))
  have HTI := Lib.hid (ht.keep k12 (by simp))
  have HUI := Lib.hid (hw.keep k12 (by simp))
  have HT := Lib.hid bt
  have HB := Lib.hid bu
  have HOT := Lib.hid (fun W (hk : Keep [] w2 W) p hp => towner_any (w := W) ⟨tep, nd, ta, tc, tow⟩ (HTI.out.keep hk (by simp)) htr p hp)
  have HOU := Lib.hid (fun W (hk : Keep [] w2 W) p hp => towner_any (w := W) ⟨uep, nd', ua, uc, uow⟩ (HUI.out.keep hk (by simp)) hur p hp)
  obtain ⟨av, cv, rfl, _⟩ := own_shape hv
  obtain ⟨au, cu, rfl, _⟩ := own_shape hu
  obtain ⟨row, pair, hlen, hone, hd, hep, hepb, hwl, hnlb⟩ := h
  have HROW := Lib.hid row
  have HPAIR := Lib.hid pair
  obtain ⟨wl, hwle⟩ : ∃ x, was.length = x := ⟨_, rfl⟩
  obtain ⟨nl, hnle⟩ : ∃ x, now.length = x := ⟨_, rfl⟩
  obtain ⟨on, hon⟩ : ∃ x, uow.length = x := ⟨_, rfl⟩
  have HWL := Lib.hid hwle
  have HNL := Lib.hid hnle
  have HON := Lib.hid hon
  rw [hon] at hlen
  have HTL := Lib.hid hlen
  have HEP := Lib.hid hep
  have HD := Lib.hid hd
  have HONE := Lib.hid hone
  have hon8 : on ≤ 8 := by
    have h8 := hur
    unfold Tb.right at h8
    simp only [Bool.and_eq_true, decide_eq_true_eq] at h8
    rw [hon] at h8
    exact h8.1.2
  unfold Tb.val at HOT HOU
  simp only at HOT HOU
  rw [hlen] at hw1 HT HOT ⊢
  rw [hon] at hw2 HB HOU ⊢
  rw [hwle] at HV hwl ⊢
  rw [hnle] at HU hnlb ⊢
  clear hv hu ht hw htr hur bt bu k1 k2 k12 hwle hnle hon hlen hep hd hone row pair
  go_enter Tryz.func30, Tryz.ntmps30
  go_wp2_with (fail)
  go_loopw [9, 10] (fun cm i wr => ∃ j : Nat, i = .int .i64 j ∧ j ≤ nl ∧ cm = .int .i64 ((now.take j).countP (isC was) : Nat) ∧ Keep [] w2 wr) (fun _ i _ => nl - (intOf i).toNat)
  case atStart => exact ⟨0, rfl, Nat.zero_le _, rfl, Keep.refl _ _⟩
  case round =>
    obtain ⟨j, rfl, hj, rfl, hk0⟩ := hrel
    obtain ⟨Wr, hWr⟩ : ∃ x, x = wr := ⟨_, rfl⟩
    subst hWr
    have HKR := Lib.hid hk0
    have h0j : (0 : Int) ≤ (j : Int) := Int.natCast_nonneg j
    by_cases hlt : j < nl
    · have hjn : (j : Int) < (nl : Int) := by omega
      have hlj : j < now.length := by rw [HNL.out]; exact hlt
      obtain ⟨y, hy⟩ : ∃ y, now[j]? = some y := ⟨now[j], List.getElem?_eq_getElem hlj⟩
      have hne : now ≠ [] := by intro e; rw [e] at hlj; simp at hlj
      have hok := HROW.out y (List.mem_of_getElem? hy)
      have hrv := HU.out
      rw [← HNL.out] at hrv
      obtain ⟨ga, ca, hv', hg0, hg1, _, hcell⟩ := rows_at Mo.len (MoRow.keep hrv hk0 (by simp)) hne
      simp only [Value.slice.injEq] at hv'
      obtain ⟨rfl, -, rfl⟩ := hv'
      have x0 := hcell j 0 _ hy (by omega)
      have x1 := hcell j 1 _ hy (by omega)
      have x2 := hcell j 2 _ hy (by omega)
      have x3 := hcell j 3 _ hy (by omega)
      have x4 := hcell j 4 _ hy (by omega)
      have x5 := hcell j 5 _ hy (by omega)
      have HCELL := Lib.hid hcell
      have HGA := Lib.hid hg1
      have HY := Lib.hid hy
      have HCS := Lib.hid (cntC_snoc (was := was) hy)
      obtain ⟨⟨mv, part, fr, to⟩, ⟨st, dn⟩⟩ := y
      obtain ⟨hdn, hpart, hfne, hown, hold⟩ := hok
      simp only at hdn hpart hfne hown hold
      obtain ⟨pn, rfl⟩ := Int.eq_ofNat_of_zero_le hpart.1
      rw [Int.toNat_natCast] at hown hold
      simp only [Mo.cells, List.getElem?_cons_zero, List.getElem?_cons_succ, Nat.add_zero] at x0 x1 x2 x3 x4 x5
      obtain ⟨t0, ht0⟩ : ∃ t0, (now.take j).countP (isC was) = t0 := ⟨_, rfl⟩
      have ht0b : t0 ≤ 1000 := by rw [← ht0]; exact Nat.le_trans List.countP_le_length (Nat.le_trans (List.length_take_le _ _) (by omega))
      rw [ht0] at HCS ⊢
      have hpo : pn < on := by have := HON.out; omega
      have hpt : pn < on := hpo
      have hou := fun W hk => HOU.out W hk pn hpo
      have hot := fun W hk => HOT.out W hk pn hpt
      obtain ⟨W1, hW1⟩ : ∃ x, Wr.alloc (.cells #[.int .i64 mv, .int .i64 (pn : Int), .int .i64 fr, .int .i64 to, .int .i64 st, .int .i64 dn] 56) = x := ⟨_, rfl⟩
      have k1 : Keep [] Wr W1 := by rw [← hW1]; exact (Keep.refl _ _).alloc _
      have hS1 : SixAt W1 Wr.heap.size (.int .i64 mv) (.int .i64 (pn : Int)) (.int .i64 fr) (.int .i64 to) (.int .i64 st) (.int .i64 dn) := ⟨by rw [← hW1]; exact World.alloc_heap_new Wr _⟩
      have HS1 := Lib.hid hS1
      have hk1 := hk0.trans k1
      have HK1 := Lib.hid hk1
      have HKQ1 := Lib.hid k1
      have HFI := Lib.hid (find_any (w := W1) (MoRow.keep HV.out hk1 (by simp)) (by rw [HWL.out]; omega) mv)
      have z0 := hS1.facts.1
      have hfg : (fr == to) = false := by simpa using hfne
      have hd3 : ((dn : Int) == 3) = false := by simp; omega
      have HW1 := Lib.hid hW1
      have HOLD := Lib.hid hold
      have HOWN := Lib.hid hown
      have HOUU := Lib.hid hou
      have HOTT := Lib.hid hot
      have HDN := Lib.hid hdn
      clear hrv hcell hy hne hk0 ht0 k1 hk1 hS1 hold hown hou hot hW1 hpart hdn hpo hpt hlj
      go_upto_region 6 with (fail)
      rw [HW1.out]
      clear x0 x1 x2 x3 x4 x5
      go_wp2_with (fail)
      refine HFI.out.mono ?_
      rintro e W2 ⟨rfl, hk2⟩
      clear z0
      rcases HOLD.out with ⟨hno, hyv⟩ | ⟨s0, hso, hs2, hand, hcase⟩
      · as_aux_lemma =>
          obtain ⟨⟨⟨q1, q2, q3, q4⟩, ⟨sq, dq⟩⟩, hx⟩ : ∃ x, (Option.none : Option Mo).getD Mo.zero = x := ⟨_, rfl⟩
          rw [hno, hx]
          simp only [Option.isSome_none]
          simp only [St.mk.injEq] at hyv
          obtain ⟨e2, e3⟩ := hyv
          obtain rfl : st = 1 := e2
          obtain rfl : dn = 0 := e3
          have hdd : (bits BinOp.and .i64 0 0 != 0) = false := rfl
          have HISC : Hid (isC was ⟨⟨mv, (pn : Int), fr, to⟩, ⟨1, 0⟩⟩ = false) := Lib.hid (by unfold isC; simp only [hno]; rfl)
          have HOW : Hid (uow[pn]?.getD 0 = fr) := Lib.hid (by rw [HOWN.out]; simp)
          obtain ⟨W3, hW3⟩ : ∃ x, W2.alloc (.cells #[.int .i64 q1, .int .i64 q2, .int .i64 q3, .int .i64 q4, .int .i64 sq, .int .i64 dq] 56) = x := ⟨_, rfl⟩
          have k3 : Keep [] W2 W3 := by rw [← hW3]; exact (Keep.refl _ _).alloc _
          have hS3 : SixAt W3 W2.heap.size (.int .i64 q1) (.int .i64 q2) (.int .i64 q3) (.int .i64 q4) (.int .i64 sq) (.int .i64 dq) := ⟨by rw [← hW3]; exact World.alloc_heap_new W2 _⟩
          have hk13 := hk2.trans k3
          have hlt2 : Wr.heap.size < W2.heap.size := Nat.lt_of_lt_of_le (lt_of_heap HS1.out.blk) hk2.size
          have hS1 : SixAt W3 Wr.heap.size (.int .i64 mv) (.int .i64 (pn : Int)) (.int .i64 fr) (.int .i64 to) (.int .i64 1) (.int .i64 ((0 : Nat) : Int)) := ⟨(hk13.block _ (lt_of_heap HS1.out.blk) (by simp)).trans HS1.out.blk⟩
          have HK3 := Lib.hid (HK1.out.trans hk13)
          have HKQ := Lib.hid (HKQ1.out.trans hk13)
          have HS1 := Lib.hid hS1
          have HS3 := Lib.hid hS3
          have HW3 := Lib.hid hW3
          have HL2 := Lib.hid hlt2
          have HG2 := Lib.hid (HK1.out.trans hk2).size
          clear hk2 k3 hk13 hW3 hx hno hlt2
          obtain ⟨y0, y1, y2, y3, y4, y5, y6⟩ := HS1.out.facts
          obtain ⟨z0, z1, z2, z3, z4, z5, z6⟩ := HS3.out.facts
          clear hS1 hS3 hw1 hw2 hwl hon8 hepb HROW HTI HUI HEP HD HONE HOLD
          go_upto_region 8 with (fail)
          rw [HW3.out]
          go_upto_region 9 with (fail)
          obtain ⟨W4, hW4⟩ : ∃ x, ((((((W3.setCell ⟨W2.heap.size, 0, none⟩ (.int .i64 mv)).setCell ⟨W2.heap.size, 1, none⟩ (.int .i64 (pn : Int))).setCell ⟨W2.heap.size, 2, none⟩ (.int .i64 fr)).setCell ⟨W2.heap.size, 3, none⟩ (.int .i64 to)).setCell ⟨W2.heap.size, 4, none⟩ (.int .i64 1)).setCell ⟨W2.heap.size, 5, none⟩ (.int .i64 0)) = x := ⟨_, rfl⟩
          have hks : Keep [W2.heap.size] W3 W4 := by
            rw [← hW4]
            exact ((((((Keep.refl _ _).setCell _ _ _ (.inl (by simp))).setCell _ _ _ (.inl (by simp))).setCell _ _ _ (.inl (by simp))).setCell _ _ _ (.inl (by simp))).setCell _ _ _ (.inl (by simp))).setCell _ _ _ (.inl (by simp))
          have hS3 : SixAt W4 W2.heap.size (.int .i64 mv) (.int .i64 (pn : Int)) (.int .i64 fr) (.int .i64 to) (.int .i64 1) (.int .i64 0) := ⟨by
            have h := HS3.out.blk
            rw [← hW4]
            simp [World.setCell, Array.getElem?_modify, h]⟩
          have hS1 : SixAt W4 Wr.heap.size (.int .i64 mv) (.int .i64 (pn : Int)) (.int .i64 fr) (.int .i64 to) (.int .i64 1) (.int .i64 0) := ⟨(hks.block _ (lt_of_heap HS1.out.blk) (by have := HL2.out; simp; omega)).trans HS1.out.blk⟩
          rw [hW4]
          have HK3 := Lib.hid (HK3.out.step hks (by simp; exact HG2.out))
          have HKQ := Lib.hid (HKQ.out.step hks (by simp; exact Nat.le_of_lt HL2.out))
          have HS1 := Lib.hid hS1
          have HS3 := Lib.hid hS3
          clear hks hS1 hS3 hW4 y0 y1 y2 y3 y4 y5 y6 z0 z1 z2 z3 z4 z5 z6
          obtain ⟨y0, y1, y2, y3, y4, y5, y6⟩ := HS1.out.facts
          obtain ⟨z0, z1, z2, z3, z4, z5, z6⟩ := HS3.out.facts
          go_upto_region 11 with (fail)
          obtain ⟨d0, d1, d2, d3⟩ := TbFacts ((HK3.out.block _ (lt_of_heap HT.out) (by simp)).trans HT.out)
          obtain ⟨f0, f1, f2, f3⟩ := TbFacts ((HK3.out.block _ (lt_of_heap HB.out) (by simp)).trans HB.out)
          go_wp2_with (fail)
          refine (HOUU.out _ HK3.out).mono ?_
          rintro e W6 ⟨rfl, hk6⟩
          rw [HOW.out]
          have HK6 := Lib.hid (HK3.out.trans hk6)
          have HS1 := Lib.hid (show SixAt W6 Wr.heap.size _ _ _ _ _ _ from ⟨(hk6.block _ (lt_of_heap HS1.out.blk) (by simp)).trans HS1.out.blk⟩)
          clear y0 y1 y2 y3 y4 y5 y6 d0 d1 d2 d3 f0 f1 f2 f3
          obtain ⟨y0, y1, y2, y3, y4, y5, y6⟩ := HS1.out.facts
          have HKO := Lib.hid (show Keep [] Wr W6 from HKQ.out.trans hk6)
          clear hk6
          go_wp2_with (fail)
          go_loopw [20] (fun i wr => ∃ k : Nat, i = .int .i64 k ∧ k ≤ j ∧ Keep [] W6 wr) (fun i _ => j - (intOf i).toNat)
          case atStart => exact ⟨0, rfl, Nat.zero_le _, Keep.refl _ _⟩
          case round =>
            obtain ⟨k, rfl, hk, hkk⟩ := hrel
            obtain ⟨Wq, hWq⟩ : ∃ x, x = wr := ⟨_, rfl⟩
            subst hWq
            have HKK := Lib.hid hkk
            have h0k : (0 : Int) ≤ (k : Int) := Int.natCast_nonneg k
            by_cases hlk : k < j
            · have hkn : (k : Int) < (j : Int) := by omega
              have hkl : (k : Int) < (nl : Int) := by omega
              have hlj : k < now.length := by rw [HNL.out]; omega
              obtain ⟨x, hx⟩ : ∃ x, now[k]? = some x := ⟨now[k], List.getElem?_eq_getElem hlj⟩
              have hpr := pair_at HPAIR.out hlk hx HY.out
              have hq0 := HCELL.out k 0 _ hx (by omega)
              have hq1 := HCELL.out k 1 _ hx (by omega)
              obtain ⟨⟨a1, a2, a3, a4⟩, ⟨a5, a6⟩⟩ := x
              simp only [Mo.cells, List.getElem?_cons_zero, List.getElem?_cons_succ, Nat.add_zero] at hq0 hq1
              simp only at hpr
              have hA := Lib.hid ((HKO.out.cell _ HGA.out (by simp)).trans hq0)
              have hB := Lib.hid ((HKO.out.cell _ HGA.out (by simp)).trans hq1)
              have HGB := Lib.hid (Nat.lt_of_lt_of_le HGA.out HKO.out.size)
              have gp : (a2 == (pn : Int)) = false := by simpa using hpr.1
              have gm : decide (mv ≤ a1) = false := by simp; omega
              have gm2 : ¬ mv ≤ a1 := by omega
              have HSB := Lib.hid (lt_of_heap HS1.out.blk)
              clear hpr hx hq0 hq1 y0 y1 y2 y3 y4 y5 y6 hkk
              go_wp2_with (fail)
              refine wp_region_soup 16 [] (fun _ => none) (by kernel_rfl) (by kernel_rfl) (spOk_of (l := []) (by simp)) (pre_of (l := []) (by simp)) ?_
              simp only [List.take_succ_cons, List.take_zero, List.drop_succ_cons, List.drop_zero]
              with_reducible refine soup_q ?_ ?_ ?_
              · rfl
              · rfl
              with_reducible apply Exists.intro
              with_reducible refine ⟨fun W hk _ => ?_, ?_⟩
              · unfold Oper.same
                go_simp
                first | rfl | exact ⟨rfl, rfl⟩
              with_reducible apply Exists.intro
              with_reducible refine ⟨?_, ?_⟩
              · go_simp
                rfl
              with_reducible refine soup_q ?_ ?_ ?_
              · rfl
              · rfl
              with_reducible apply Exists.intro
              with_reducible refine ⟨fun W hk _ => ?_, ?_⟩
              · unfold Oper.same
                go_simp
                first | rfl | exact ⟨rfl, rfl⟩
              with_reducible apply Exists.intro
              with_reducible refine ⟨?_, ?_⟩
              · go_simp
                rfl
              with_reducible refine soup_q ?_ ?_ ?_
              · rfl
              · rfl
              with_reducible apply Exists.intro
              with_reducible refine ⟨fun W hk _ => ?_, ?_⟩
              · unfold Oper.same
                go_simp
                first | rfl | exact ⟨rfl, rfl⟩
              with_reducible apply Exists.intro
              with_reducible refine ⟨?_, ?_⟩
              · go_simp
                rfl
              with_reducible refine soup_q ?_ ?_ ?_
              · rfl
              · rfl
              with_reducible apply Exists.intro
              with_reducible refine ⟨fun W hk _ => ?_, ?_⟩
              · unfold Oper.same
                go_simp
                first | rfl | exact ⟨rfl, rfl⟩
              with_reducible apply Exists.intro
              with_reducible refine ⟨?_, ?_⟩
              · go_simp
                rfl
              with_reducible refine soup_q ?_ ?_ ?_
              · rfl
              · rfl
              with_reducible apply Exists.intro
              with_reducible refine ⟨fun W hk _ => ?_, ?_⟩
              · have qB := (hk.cell _ (Nat.lt_of_lt_of_le HGB.out HKK.out.size) (by simp)).trans ((HKK.out.cell _ HGB.out (by simp)).trans hB.out)
                unfold Oper.same
                go_simp
                first | rfl | exact ⟨rfl, rfl⟩
              with_reducible apply Exists.intro
              with_reducible refine ⟨?_, ?_⟩
              · go_simp
                rfl
              with_reducible refine soup_q ?_ ?_ ?_
              · rfl
              · rfl
              with_reducible apply Exists.intro
              with_reducible refine ⟨fun W hk _ => ?_, ?_⟩
              · unfold Oper.same
                go_simp
                first | rfl | exact ⟨rfl, rfl⟩
              with_reducible apply Exists.intro
              with_reducible refine ⟨?_, ?_⟩
              · go_simp
                rfl
              with_reducible refine soup_q ?_ ?_ ?_
              · rfl
              · rfl
              with_reducible apply Exists.intro
              with_reducible refine ⟨fun W hk _ => ?_, ?_⟩
              · have y1 := ((hk.cell _ (Nat.lt_of_lt_of_le HSB.out HKK.out.size) (by simp)).trans ((HKK.out.cell _ HSB.out (by simp)).trans HS1.out.facts.2.1))
                unfold Oper.same
                go_simp
                first | rfl | exact ⟨rfl, rfl⟩
              with_reducible apply Exists.intro
              with_reducible refine ⟨?_, ?_⟩
              · go_simp
                rfl
              with_reducible refine soup_q ?_ ?_ ?_
              · rfl
              · rfl
              with_reducible apply Exists.intro
              with_reducible refine ⟨fun W hk _ => ?_, ?_⟩
              · unfold Oper.same
                go_simp
                first | rfl | exact ⟨rfl, rfl⟩
              with_reducible apply Exists.intro
              with_reducible refine ⟨?_, ?_⟩
              · go_simp
                rfl
              with_reducible refine soup_q ?_ ?_ ?_
              · rfl
              · rfl
              with_reducible apply Exists.intro
              with_reducible refine ⟨fun W hk _ => ?_, ?_⟩
              · unfold Oper.same
                go_simp
                first | rfl | exact ⟨rfl, rfl⟩
              with_reducible apply Exists.intro
              with_reducible refine ⟨?_, ?_⟩
              · go_simp
                rfl
              with_reducible refine soup_q ?_ ?_ ?_
              · rfl
              · rfl
              with_reducible apply Exists.intro
              with_reducible refine ⟨fun W hk _ => ?_, ?_⟩
              · unfold Oper.same
                go_simp
                first | rfl | exact ⟨rfl, rfl⟩
              with_reducible apply Exists.intro
              with_reducible refine ⟨?_, ?_⟩
              · go_simp
                rfl
              with_reducible refine soup_q ?_ ?_ ?_
              · rfl
              · rfl
              with_reducible apply Exists.intro
              with_reducible refine ⟨fun W hk _ => ?_, ?_⟩
              · unfold Oper.same
                go_simp
                first | rfl | exact ⟨rfl, rfl⟩
              with_reducible apply Exists.intro
              with_reducible refine ⟨?_, ?_⟩
              · go_simp
                rfl
              with_reducible refine soup_q ?_ ?_ ?_
              · rfl
              · rfl
              with_reducible apply Exists.intro
              with_reducible refine ⟨fun W hk _ => ?_, ?_⟩
              · unfold Oper.same
                go_simp
                first | rfl | exact ⟨rfl, rfl⟩
              with_reducible apply Exists.intro
              with_reducible refine ⟨?_, ?_⟩
              · go_simp
                rfl
              with_reducible refine soup_q ?_ ?_ ?_
              · rfl
              · rfl
              with_reducible apply Exists.intro
              with_reducible refine ⟨fun W hk _ => ?_, ?_⟩
              · unfold Oper.same
                go_simp
                first | rfl | exact ⟨rfl, rfl⟩
              with_reducible apply Exists.intro
              with_reducible refine ⟨?_, ?_⟩
              · go_simp
                rfl
              with_reducible refine soup_q ?_ ?_ ?_
              · rfl
              · rfl
              with_reducible apply Exists.intro
              with_reducible refine ⟨fun W hk _ => ?_, ?_⟩
              · have qA := (hk.cell _ (Nat.lt_of_lt_of_le HGB.out HKK.out.size) (by simp)).trans ((HKK.out.cell _ HGB.out (by simp)).trans hA.out)
                unfold Oper.same
                go_simp
                first | rfl | exact ⟨rfl, rfl⟩
              with_reducible apply Exists.intro
              with_reducible refine ⟨?_, ?_⟩
              · go_simp
                rfl
              with_reducible refine soup_q ?_ ?_ ?_
              · rfl
              · rfl
              with_reducible apply Exists.intro
              with_reducible refine ⟨fun W hk _ => ?_, ?_⟩
              · unfold Oper.same
                go_simp
                first | rfl | exact ⟨rfl, rfl⟩
              with_reducible apply Exists.intro
              with_reducible refine ⟨?_, ?_⟩
              · go_simp
                rfl
              with_reducible refine soup_q ?_ ?_ ?_
              · rfl
              · rfl
              with_reducible apply Exists.intro
              with_reducible refine ⟨fun W hk _ => ?_, ?_⟩
              · have y0 := ((hk.cell _ (Nat.lt_of_lt_of_le HSB.out HKK.out.size) (by simp)).trans ((HKK.out.cell _ HSB.out (by simp)).trans HS1.out.facts.1))
                unfold Oper.same
                go_simp
                first | rfl | exact ⟨rfl, rfl⟩
              with_reducible apply Exists.intro
              with_reducible refine ⟨?_, ?_⟩
              · go_simp
                rfl
              refine soup_nil (fun W8 hk hS => ?_)
              have HKK := Lib.hid (HKK.out.trans hk)
              clear hk hS
              go_wp2_with (fail)
              go_roundw
              case rel => exact ⟨k + 1, by go_num, by omega, HKK.out⟩
              case measure => go_light; simp [intOf]; omega
            · obtain rfl : k = j := by omega
              have hkn : ¬ (k : Int) < (k : Int) := by omega
              have HKE := Lib.hid (HK6.out.trans hkk)
              clear y0 y1 y2 y3 y4 y5 y6 hkk
              go_wp2_with (fail)
              go_roundw
              case rel => exact ⟨k + 1, by go_num, by omega, by rw [HCS.out, HISC.out]; first | rfl | (push_cast; rfl), HKE.out⟩
              case measure => go_light; simp [intOf]; omega
      · rw [hso]
        simp only [Option.getD_some, Option.isSome_some]
        obtain ⟨st0, dn0⟩ := s0
        simp only at hs2 hand hcase
        have hdd := and_keep HDN.out hs2 hand
        have hz0 : dn = 0 → dn0 = 0 := fun e => by rw [e, Nat.zero_and] at hand; exact hand.symm
        have HSO := Lib.hid hso
        clear hand hs2 hso
        obtain ⟨W3, hW3⟩ : ∃ x, W2.alloc (.cells #[.int .i64 mv, .int .i64 (pn : Int), .int .i64 fr, .int .i64 to, .int .i64 st0, .int .i64 dn0] 56) = x := ⟨_, rfl⟩
        have k3 : Keep [] W2 W3 := by rw [← hW3]; exact (Keep.refl _ _).alloc _
        have hS3 : SixAt W3 W2.heap.size (.int .i64 mv) (.int .i64 (pn : Int)) (.int .i64 fr) (.int .i64 to) (.int .i64 st0) (.int .i64 dn0) := ⟨by rw [← hW3]; exact World.alloc_heap_new W2 _⟩
        have hk13 := hk2.trans k3
        have hS1 : SixAt W3 Wr.heap.size (.int .i64 mv) (.int .i64 (pn : Int)) (.int .i64 fr) (.int .i64 to) (.int .i64 st) (.int .i64 dn) := ⟨(hk13.block _ (lt_of_heap HS1.out.blk) (by simp)).trans HS1.out.blk⟩
        have HK3 := Lib.hid (HK1.out.trans hk13)
        have HKQ := Lib.hid (HKQ1.out.trans hk13)
        have HS1 := Lib.hid hS1
        have HS3 := Lib.hid hS3
        have HW3 := Lib.hid hW3
        clear hk2 k3 hk13 hW3
        rcases hcase with ⟨e1, e2, e3⟩ | ⟨e1, e2, e3⟩ | ⟨e1, e2⟩ | ⟨e1, e2⟩ | ⟨e1, e2⟩
        · as_aux_lemma =>
            obtain rfl : st0 = 1 := e1
            obtain rfl : st = 1 := e2
            obtain rfl : dn0 = 0 := hz0 e3
            obtain rfl : dn = 0 := e3
            clear hdd
            have hdd : (bits BinOp.and .i64 0 0 != 0) = false := rfl
            have HW3 : Hid (W2.alloc (.cells #[.int .i64 mv, .int .i64 (pn : Int), .int .i64 fr, .int .i64 to, .int .i64 1, .int .i64 0] 56) = W3) := HW3
            have HS1 : Hid (SixAt W3 Wr.heap.size (.int .i64 mv) (.int .i64 (pn : Int)) (.int .i64 fr) (.int .i64 to) (.int .i64 1) (.int .i64 0)) := HS1
            have HS3 : Hid (SixAt W3 W2.heap.size (.int .i64 mv) (.int .i64 (pn : Int)) (.int .i64 fr) (.int .i64 to) (.int .i64 1) (.int .i64 0)) := HS3
            have HOW : Hid (uow[pn]?.getD 0 = fr) := Lib.hid (by rw [HOWN.out]; simp)
            have HISC : Hid (isC was ⟨⟨mv, (pn : Int), fr, to⟩, ⟨1, 0⟩⟩ = false) := Lib.hid (by unfold isC; simp only [HSO.out]; rfl)
            clear hz0
            obtain ⟨y0, y1, y2, y3, y4, y5, y6⟩ := HS1.out.facts
            obtain ⟨z0, z1, z2, z3, z4, z5, z6⟩ := HS3.out.facts
            clear hS1 hS3
            clear hw1 hw2 hwl hon8 hepb HROW HTI HUI HEP HD HONE HOLD
            go_upto_region 9 with (fail)
            rw [HW3.out]
            go_upto_region 11 with (fail)
            obtain ⟨d0, d1, d2, d3⟩ := TbFacts ((HK3.out.block _ (lt_of_heap HT.out) (by simp)).trans HT.out)
            obtain ⟨f0, f1, f2, f3⟩ := TbFacts ((HK3.out.block _ (lt_of_heap HB.out) (by simp)).trans HB.out)
            go_wp2_with (fail)
            refine (HOUU.out _ HK3.out).mono ?_
            rintro e W6 ⟨rfl, hk6⟩
            rw [HOW.out]
            have HK6 := Lib.hid (HK3.out.trans hk6)
            have HS1 := Lib.hid (show SixAt W6 Wr.heap.size _ _ _ _ _ _ from ⟨(hk6.block _ (lt_of_heap HS1.out.blk) (by simp)).trans HS1.out.blk⟩)
            clear y0 y1 y2 y3 y4 y5 y6 d0 d1 d2 d3 f0 f1 f2 f3
            obtain ⟨y0, y1, y2, y3, y4, y5, y6⟩ := HS1.out.facts
            have HKO := Lib.hid (show Keep [] Wr W6 from HKQ.out.trans hk6)
            clear hk6
            go_wp2_with (fail)
            go_loopw [20] (fun i wr => ∃ k : Nat, i = .int .i64 k ∧ k ≤ j ∧ Keep [] W6 wr) (fun i _ => j - (intOf i).toNat)
            case atStart => exact ⟨0, rfl, Nat.zero_le _, Keep.refl _ _⟩
            case round =>
              obtain ⟨k, rfl, hk, hkk⟩ := hrel
              obtain ⟨Wq, hWq⟩ : ∃ x, x = wr := ⟨_, rfl⟩
              subst hWq
              have HKK := Lib.hid hkk
              have h0k : (0 : Int) ≤ (k : Int) := Int.natCast_nonneg k
              by_cases hlk : k < j
              · have hkn : (k : Int) < (j : Int) := by omega
                have hkl : (k : Int) < (nl : Int) := by omega
                have hlj : k < now.length := by rw [HNL.out]; omega
                obtain ⟨x, hx⟩ : ∃ x, now[k]? = some x := ⟨now[k], List.getElem?_eq_getElem hlj⟩
                have hpr := pair_at HPAIR.out hlk hx HY.out
                have hq0 := HCELL.out k 0 _ hx (by omega)
                have hq1 := HCELL.out k 1 _ hx (by omega)
                obtain ⟨⟨a1, a2, a3, a4⟩, ⟨a5, a6⟩⟩ := x
                simp only [Mo.cells, List.getElem?_cons_zero, List.getElem?_cons_succ, Nat.add_zero] at hq0 hq1
                simp only at hpr
                have hA := Lib.hid ((HKO.out.cell _ HGA.out (by simp)).trans hq0)
                have hB := Lib.hid ((HKO.out.cell _ HGA.out (by simp)).trans hq1)
                have HGB := Lib.hid (Nat.lt_of_lt_of_le HGA.out HKO.out.size)
                have gp : (a2 == (pn : Int)) = false := by simpa using hpr.1
                have gm : decide (mv ≤ a1) = false := by simp; omega
                have gm2 : ¬ mv ≤ a1 := by omega
                have HSB := Lib.hid (lt_of_heap HS1.out.blk)
                clear hpr hx hq0 hq1 y0 y1 y2 y3 y4 y5 y6 hkk
                go_wp2_with (fail)
                refine wp_region_soup 16 [] (fun _ => none) (by kernel_rfl) (by kernel_rfl) (spOk_of (l := []) (by simp)) (pre_of (l := []) (by simp)) ?_
                simp only [List.take_succ_cons, List.take_zero, List.drop_succ_cons, List.drop_zero]
                with_reducible refine soup_q ?_ ?_ ?_
                · rfl
                · rfl
                with_reducible apply Exists.intro
                with_reducible refine ⟨fun W hk _ => ?_, ?_⟩
                · unfold Oper.same
                  go_simp
                  first | rfl | exact ⟨rfl, rfl⟩
                with_reducible apply Exists.intro
                with_reducible refine ⟨?_, ?_⟩
                · go_simp
                  rfl
                with_reducible refine soup_q ?_ ?_ ?_
                · rfl
                · rfl
                with_reducible apply Exists.intro
                with_reducible refine ⟨fun W hk _ => ?_, ?_⟩
                · unfold Oper.same
                  go_simp
                  first | rfl | exact ⟨rfl, rfl⟩
                with_reducible apply Exists.intro
                with_reducible refine ⟨?_, ?_⟩
                · go_simp
                  rfl
                with_reducible refine soup_q ?_ ?_ ?_
                · rfl
                · rfl
                with_reducible apply Exists.intro
                with_reducible refine ⟨fun W hk _ => ?_, ?_⟩
                · unfold Oper.same
                  go_simp
                  first | rfl | exact ⟨rfl, rfl⟩
                with_reducible apply Exists.intro
                with_reducible refine ⟨?_, ?_⟩
                · go_simp
                  rfl
                with_reducible refine soup_q ?_ ?_ ?_
                · rfl
                · rfl
                with_reducible apply Exists.intro
                with_reducible refine ⟨fun W hk _ => ?_, ?_⟩
                · unfold Oper.same
                  go_simp
                  first | rfl | exact ⟨rfl, rfl⟩
                with_reducible apply Exists.intro
                with_reducible refine ⟨?_, ?_⟩
                · go_simp
                  rfl
                with_reducible refine soup_q ?_ ?_ ?_
                · rfl
                · rfl
                with_reducible apply Exists.intro
                with_reducible refine ⟨fun W hk _ => ?_, ?_⟩
                · have qB := (hk.cell _ (Nat.lt_of_lt_of_le HGB.out HKK.out.size) (by simp)).trans ((HKK.out.cell _ HGB.out (by simp)).trans hB.out)
                  unfold Oper.same
                  go_simp
                  first | rfl | exact ⟨rfl, rfl⟩
                with_reducible apply Exists.intro
                with_reducible refine ⟨?_, ?_⟩
                · go_simp
                  rfl
                with_reducible refine soup_q ?_ ?_ ?_
                · rfl
                · rfl
                with_reducible apply Exists.intro
                with_reducible refine ⟨fun W hk _ => ?_, ?_⟩
                · unfold Oper.same
                  go_simp
                  first | rfl | exact ⟨rfl, rfl⟩
                with_reducible apply Exists.intro
                with_reducible refine ⟨?_, ?_⟩
                · go_simp
                  rfl
                with_reducible refine soup_q ?_ ?_ ?_
                · rfl
                · rfl
                with_reducible apply Exists.intro
                with_reducible refine ⟨fun W hk _ => ?_, ?_⟩
                · have y1 := ((hk.cell _ (Nat.lt_of_lt_of_le HSB.out HKK.out.size) (by simp)).trans ((HKK.out.cell _ HSB.out (by simp)).trans HS1.out.facts.2.1))
                  unfold Oper.same
                  go_simp
                  first | rfl | exact ⟨rfl, rfl⟩
                with_reducible apply Exists.intro
                with_reducible refine ⟨?_, ?_⟩
                · go_simp
                  rfl
                with_reducible refine soup_q ?_ ?_ ?_
                · rfl
                · rfl
                with_reducible apply Exists.intro
                with_reducible refine ⟨fun W hk _ => ?_, ?_⟩
                · unfold Oper.same
                  go_simp
                  first | rfl | exact ⟨rfl, rfl⟩
                with_reducible apply Exists.intro
                with_reducible refine ⟨?_, ?_⟩
                · go_simp
                  rfl
                with_reducible refine soup_q ?_ ?_ ?_
                · rfl
                · rfl
                with_reducible apply Exists.intro
                with_reducible refine ⟨fun W hk _ => ?_, ?_⟩
                · unfold Oper.same
                  go_simp
                  first | rfl | exact ⟨rfl, rfl⟩
                with_reducible apply Exists.intro
                with_reducible refine ⟨?_, ?_⟩
                · go_simp
                  rfl
                with_reducible refine soup_q ?_ ?_ ?_
                · rfl
                · rfl
                with_reducible apply Exists.intro
                with_reducible refine ⟨fun W hk _ => ?_, ?_⟩
                · unfold Oper.same
                  go_simp
                  first | rfl | exact ⟨rfl, rfl⟩
                with_reducible apply Exists.intro
                with_reducible refine ⟨?_, ?_⟩
                · go_simp
                  rfl
                with_reducible refine soup_q ?_ ?_ ?_
                · rfl
                · rfl
                with_reducible apply Exists.intro
                with_reducible refine ⟨fun W hk _ => ?_, ?_⟩
                · unfold Oper.same
                  go_simp
                  first | rfl | exact ⟨rfl, rfl⟩
                with_reducible apply Exists.intro
                with_reducible refine ⟨?_, ?_⟩
                · go_simp
                  rfl
                with_reducible refine soup_q ?_ ?_ ?_
                · rfl
                · rfl
                with_reducible apply Exists.intro
                with_reducible refine ⟨fun W hk _ => ?_, ?_⟩
                · unfold Oper.same
                  go_simp
                  first | rfl | exact ⟨rfl, rfl⟩
                with_reducible apply Exists.intro
                with_reducible refine ⟨?_, ?_⟩
                · go_simp
                  rfl
                with_reducible refine soup_q ?_ ?_ ?_
                · rfl
                · rfl
                with_reducible apply Exists.intro
                with_reducible refine ⟨fun W hk _ => ?_, ?_⟩
                · unfold Oper.same
                  go_simp
                  first | rfl | exact ⟨rfl, rfl⟩
                with_reducible apply Exists.intro
                with_reducible refine ⟨?_, ?_⟩
                · go_simp
                  rfl
                with_reducible refine soup_q ?_ ?_ ?_
                · rfl
                · rfl
                with_reducible apply Exists.intro
                with_reducible refine ⟨fun W hk _ => ?_, ?_⟩
                · have qA := (hk.cell _ (Nat.lt_of_lt_of_le HGB.out HKK.out.size) (by simp)).trans ((HKK.out.cell _ HGB.out (by simp)).trans hA.out)
                  unfold Oper.same
                  go_simp
                  first | rfl | exact ⟨rfl, rfl⟩
                with_reducible apply Exists.intro
                with_reducible refine ⟨?_, ?_⟩
                · go_simp
                  rfl
                with_reducible refine soup_q ?_ ?_ ?_
                · rfl
                · rfl
                with_reducible apply Exists.intro
                with_reducible refine ⟨fun W hk _ => ?_, ?_⟩
                · unfold Oper.same
                  go_simp
                  first | rfl | exact ⟨rfl, rfl⟩
                with_reducible apply Exists.intro
                with_reducible refine ⟨?_, ?_⟩
                · go_simp
                  rfl
                with_reducible refine soup_q ?_ ?_ ?_
                · rfl
                · rfl
                with_reducible apply Exists.intro
                with_reducible refine ⟨fun W hk _ => ?_, ?_⟩
                · have y0 := ((hk.cell _ (Nat.lt_of_lt_of_le HSB.out HKK.out.size) (by simp)).trans ((HKK.out.cell _ HSB.out (by simp)).trans HS1.out.facts.1))
                  unfold Oper.same
                  go_simp
                  first | rfl | exact ⟨rfl, rfl⟩
                with_reducible apply Exists.intro
                with_reducible refine ⟨?_, ?_⟩
                · go_simp
                  rfl
                refine soup_nil (fun W8 hk hS => ?_)
                have HKK := Lib.hid (HKK.out.trans hk)
                clear hk hS
                go_wp2_with (fail)
                go_roundw
                case rel => exact ⟨k + 1, by go_num, by omega, HKK.out⟩
                case measure => go_light; simp [intOf]; omega
              · obtain rfl : k = j := by omega
                have hkn : ¬ (k : Int) < (k : Int) := by omega
                have HKE := Lib.hid (HK6.out.trans hkk)
                clear y0 y1 y2 y3 y4 y5 y6 hkk
                go_wp2_with (fail)
                go_roundw
                case rel => exact ⟨k + 1, by go_num, by omega, by rw [HCS.out, HISC.out]; first | rfl | (push_cast; rfl), HKE.out⟩
                case measure => go_light; simp [intOf]; omega
        · as_aux_lemma =>
            obtain rfl : st0 = 1 := e1
            obtain rfl : st = 2 := e2
            have HOW : Hid (uow[pn]?.getD 0 = to) := Lib.hid (by rw [HOWN.out]; simp)
            have HISC : Hid (isC was ⟨⟨mv, (pn : Int), fr, to⟩, ⟨2, dn⟩⟩ = true) := Lib.hid (by unfold isC; simp only [HSO.out]; rfl)
            clear hz0
            obtain ⟨y0, y1, y2, y3, y4, y5, y6⟩ := HS1.out.facts
            obtain ⟨z0, z1, z2, z3, z4, z5, z6⟩ := HS3.out.facts
            clear hS1 hS3
            clear hw1 hw2 hwl hon8 hepb HROW HTI HUI HEP HD HONE HOLD
            go_upto_region 9 with (fail)
            rw [HW3.out]
            go_upto_region 11 with (fail)
            obtain ⟨d0, d1, d2, d3⟩ := TbFacts ((HK3.out.block _ (lt_of_heap HT.out) (by simp)).trans HT.out)
            obtain ⟨f0, f1, f2, f3⟩ := TbFacts ((HK3.out.block _ (lt_of_heap HB.out) (by simp)).trans HB.out)
            go_wp2_with (fail)
            refine (HOTT.out _ HK3.out).mono ?_
            rintro e W4 ⟨rfl, hk4⟩
            rw [e3]
            have HK4 := Lib.hid (HK3.out.trans hk4)
            have HKQ := Lib.hid (HKQ.out.trans hk4)
            have HS1 := Lib.hid (show SixAt W4 Wr.heap.size _ _ _ _ _ _ from ⟨(hk4.block _ (lt_of_heap HS1.out.blk) (by simp)).trans HS1.out.blk⟩)
            obtain ⟨y0, y1, y2, y3, y4, y5, y6⟩ := HS1.out.facts
            obtain ⟨d0, d1, d2, d3⟩ := TbFacts ((HK4.out.block _ (lt_of_heap HT.out) (by simp)).trans HT.out)
            obtain ⟨f0, f1, f2, f3⟩ := TbFacts ((HK4.out.block _ (lt_of_heap HB.out) (by simp)).trans HB.out)
            clear hk4
            go_wp2_with (fail)
            refine (HOUU.out _ HK4.out).mono ?_
            rintro e W5 ⟨rfl, hk5⟩
            rw [HOW.out]
            have HK5 := Lib.hid (HK4.out.trans hk5)
            have HKQ := Lib.hid (HKQ.out.trans hk5)
            have HS1 := Lib.hid (show SixAt W5 Wr.heap.size _ _ _ _ _ _ from ⟨(hk5.block _ (lt_of_heap HS1.out.blk) (by simp)).trans HS1.out.blk⟩)
            clear y0 y1 y2 y3 y4 y5 y6 d0 d1 d2 d3 f0 f1 f2 f3
            obtain ⟨y0, y1, y2, y3, y4, y5, y6⟩ := HS1.out.facts
            obtain ⟨d0, d1, d2, d3⟩ := TbFacts ((HK5.out.block _ (lt_of_heap HT.out) (by simp)).trans HT.out)
            obtain ⟨f0, f1, f2, f3⟩ := TbFacts ((HK5.out.block _ (lt_of_heap HB.out) (by simp)).trans HB.out)
            clear hk5
            go_wp2_with (fail)
            refine (HOUU.out _ HK5.out).mono ?_
            rintro e W6 ⟨rfl, hk6⟩
            rw [HOW.out]
            have HK6 := Lib.hid (HK5.out.trans hk6)
            have HS1 := Lib.hid (show SixAt W6 Wr.heap.size _ _ _ _ _ _ from ⟨(hk6.block _ (lt_of_heap HS1.out.blk) (by simp)).trans HS1.out.blk⟩)
            clear y0 y1 y2 y3 y4 y5 y6 d0 d1 d2 d3 f0 f1 f2 f3
            obtain ⟨y0, y1, y2, y3, y4, y5, y6⟩ := HS1.out.facts
            have HKO := Lib.hid (show Keep [] Wr W6 from HKQ.out.trans hk6)
            clear hk6
            go_wp2_with (fail)
            go_loopw [20] (fun i wr => ∃ k : Nat, i = .int .i64 k ∧ k ≤ j ∧ Keep [] W6 wr) (fun i _ => j - (intOf i).toNat)
            case atStart => exact ⟨0, rfl, Nat.zero_le _, Keep.refl _ _⟩
            case round =>
              obtain ⟨k, rfl, hk, hkk⟩ := hrel
              obtain ⟨Wq, hWq⟩ : ∃ x, x = wr := ⟨_, rfl⟩
              subst hWq
              have HKK := Lib.hid hkk
              have h0k : (0 : Int) ≤ (k : Int) := Int.natCast_nonneg k
              by_cases hlk : k < j
              · have hkn : (k : Int) < (j : Int) := by omega
                have hkl : (k : Int) < (nl : Int) := by omega
                have hlj : k < now.length := by rw [HNL.out]; omega
                obtain ⟨x, hx⟩ : ∃ x, now[k]? = some x := ⟨now[k], List.getElem?_eq_getElem hlj⟩
                have hpr := pair_at HPAIR.out hlk hx HY.out
                have hq0 := HCELL.out k 0 _ hx (by omega)
                have hq1 := HCELL.out k 1 _ hx (by omega)
                obtain ⟨⟨a1, a2, a3, a4⟩, ⟨a5, a6⟩⟩ := x
                simp only [Mo.cells, List.getElem?_cons_zero, List.getElem?_cons_succ, Nat.add_zero] at hq0 hq1
                simp only at hpr
                have hA := Lib.hid ((HKO.out.cell _ HGA.out (by simp)).trans hq0)
                have hB := Lib.hid ((HKO.out.cell _ HGA.out (by simp)).trans hq1)
                have HGB := Lib.hid (Nat.lt_of_lt_of_le HGA.out HKO.out.size)
                have gp : (a2 == (pn : Int)) = false := by simpa using hpr.1
                have gm : decide (mv ≤ a1) = false := by simp; omega
                have gm2 : ¬ mv ≤ a1 := by omega
                have HSB := Lib.hid (lt_of_heap HS1.out.blk)
                clear hpr hx hq0 hq1 y0 y1 y2 y3 y4 y5 y6 hkk
                go_wp2_with (fail)
                refine wp_region_soup 16 [] (fun _ => none) (by kernel_rfl) (by kernel_rfl) (spOk_of (l := []) (by simp)) (pre_of (l := []) (by simp)) ?_
                simp only [List.take_succ_cons, List.take_zero, List.drop_succ_cons, List.drop_zero]
                with_reducible refine soup_q ?_ ?_ ?_
                · rfl
                · rfl
                with_reducible apply Exists.intro
                with_reducible refine ⟨fun W hk _ => ?_, ?_⟩
                · unfold Oper.same
                  go_simp
                  first | rfl | exact ⟨rfl, rfl⟩
                with_reducible apply Exists.intro
                with_reducible refine ⟨?_, ?_⟩
                · go_simp
                  rfl
                with_reducible refine soup_q ?_ ?_ ?_
                · rfl
                · rfl
                with_reducible apply Exists.intro
                with_reducible refine ⟨fun W hk _ => ?_, ?_⟩
                · unfold Oper.same
                  go_simp
                  first | rfl | exact ⟨rfl, rfl⟩
                with_reducible apply Exists.intro
                with_reducible refine ⟨?_, ?_⟩
                · go_simp
                  rfl
                with_reducible refine soup_q ?_ ?_ ?_
                · rfl
                · rfl
                with_reducible apply Exists.intro
                with_reducible refine ⟨fun W hk _ => ?_, ?_⟩
                · unfold Oper.same
                  go_simp
                  first | rfl | exact ⟨rfl, rfl⟩
                with_reducible apply Exists.intro
                with_reducible refine ⟨?_, ?_⟩
                · go_simp
                  rfl
                with_reducible refine soup_q ?_ ?_ ?_
                · rfl
                · rfl
                with_reducible apply Exists.intro
                with_reducible refine ⟨fun W hk _ => ?_, ?_⟩
                · unfold Oper.same
                  go_simp
                  first | rfl | exact ⟨rfl, rfl⟩
                with_reducible apply Exists.intro
                with_reducible refine ⟨?_, ?_⟩
                · go_simp
                  rfl
                with_reducible refine soup_q ?_ ?_ ?_
                · rfl
                · rfl
                with_reducible apply Exists.intro
                with_reducible refine ⟨fun W hk _ => ?_, ?_⟩
                · have qB := (hk.cell _ (Nat.lt_of_lt_of_le HGB.out HKK.out.size) (by simp)).trans ((HKK.out.cell _ HGB.out (by simp)).trans hB.out)
                  unfold Oper.same
                  go_simp
                  first | rfl | exact ⟨rfl, rfl⟩
                with_reducible apply Exists.intro
                with_reducible refine ⟨?_, ?_⟩
                · go_simp
                  rfl
                with_reducible refine soup_q ?_ ?_ ?_
                · rfl
                · rfl
                with_reducible apply Exists.intro
                with_reducible refine ⟨fun W hk _ => ?_, ?_⟩
                · unfold Oper.same
                  go_simp
                  first | rfl | exact ⟨rfl, rfl⟩
                with_reducible apply Exists.intro
                with_reducible refine ⟨?_, ?_⟩
                · go_simp
                  rfl
                with_reducible refine soup_q ?_ ?_ ?_
                · rfl
                · rfl
                with_reducible apply Exists.intro
                with_reducible refine ⟨fun W hk _ => ?_, ?_⟩
                · have y1 := ((hk.cell _ (Nat.lt_of_lt_of_le HSB.out HKK.out.size) (by simp)).trans ((HKK.out.cell _ HSB.out (by simp)).trans HS1.out.facts.2.1))
                  unfold Oper.same
                  go_simp
                  first | rfl | exact ⟨rfl, rfl⟩
                with_reducible apply Exists.intro
                with_reducible refine ⟨?_, ?_⟩
                · go_simp
                  rfl
                with_reducible refine soup_q ?_ ?_ ?_
                · rfl
                · rfl
                with_reducible apply Exists.intro
                with_reducible refine ⟨fun W hk _ => ?_, ?_⟩
                · unfold Oper.same
                  go_simp
                  first | rfl | exact ⟨rfl, rfl⟩
                with_reducible apply Exists.intro
                with_reducible refine ⟨?_, ?_⟩
                · go_simp
                  rfl
                with_reducible refine soup_q ?_ ?_ ?_
                · rfl
                · rfl
                with_reducible apply Exists.intro
                with_reducible refine ⟨fun W hk _ => ?_, ?_⟩
                · unfold Oper.same
                  go_simp
                  first | rfl | exact ⟨rfl, rfl⟩
                with_reducible apply Exists.intro
                with_reducible refine ⟨?_, ?_⟩
                · go_simp
                  rfl
                with_reducible refine soup_q ?_ ?_ ?_
                · rfl
                · rfl
                with_reducible apply Exists.intro
                with_reducible refine ⟨fun W hk _ => ?_, ?_⟩
                · unfold Oper.same
                  go_simp
                  first | rfl | exact ⟨rfl, rfl⟩
                with_reducible apply Exists.intro
                with_reducible refine ⟨?_, ?_⟩
                · go_simp
                  rfl
                with_reducible refine soup_q ?_ ?_ ?_
                · rfl
                · rfl
                with_reducible apply Exists.intro
                with_reducible refine ⟨fun W hk _ => ?_, ?_⟩
                · unfold Oper.same
                  go_simp
                  first | rfl | exact ⟨rfl, rfl⟩
                with_reducible apply Exists.intro
                with_reducible refine ⟨?_, ?_⟩
                · go_simp
                  rfl
                with_reducible refine soup_q ?_ ?_ ?_
                · rfl
                · rfl
                with_reducible apply Exists.intro
                with_reducible refine ⟨fun W hk _ => ?_, ?_⟩
                · unfold Oper.same
                  go_simp
                  first | rfl | exact ⟨rfl, rfl⟩
                with_reducible apply Exists.intro
                with_reducible refine ⟨?_, ?_⟩
                · go_simp
                  rfl
                with_reducible refine soup_q ?_ ?_ ?_
                · rfl
                · rfl
                with_reducible apply Exists.intro
                with_reducible refine ⟨fun W hk _ => ?_, ?_⟩
                · unfold Oper.same
                  go_simp
                  first | rfl | exact ⟨rfl, rfl⟩
                with_reducible apply Exists.intro
                with_reducible refine ⟨?_, ?_⟩
                · go_simp
                  rfl
                with_reducible refine soup_q ?_ ?_ ?_
                · rfl
                · rfl
                with_reducible apply Exists.intro
                with_reducible refine ⟨fun W hk _ => ?_, ?_⟩
                · have qA := (hk.cell _ (Nat.lt_of_lt_of_le HGB.out HKK.out.size) (by simp)).trans ((HKK.out.cell _ HGB.out (by simp)).trans hA.out)
                  unfold Oper.same
                  go_simp
                  first | rfl | exact ⟨rfl, rfl⟩
                with_reducible apply Exists.intro
                with_reducible refine ⟨?_, ?_⟩
                · go_simp
                  rfl
                with_reducible refine soup_q ?_ ?_ ?_
                · rfl
                · rfl
                with_reducible apply Exists.intro
                with_reducible refine ⟨fun W hk _ => ?_, ?_⟩
                · unfold Oper.same
                  go_simp
                  first | rfl | exact ⟨rfl, rfl⟩
                with_reducible apply Exists.intro
                with_reducible refine ⟨?_, ?_⟩
                · go_simp
                  rfl
                with_reducible refine soup_q ?_ ?_ ?_
                · rfl
                · rfl
                with_reducible apply Exists.intro
                with_reducible refine ⟨fun W hk _ => ?_, ?_⟩
                · have y0 := ((hk.cell _ (Nat.lt_of_lt_of_le HSB.out HKK.out.size) (by simp)).trans ((HKK.out.cell _ HSB.out (by simp)).trans HS1.out.facts.1))
                  unfold Oper.same
                  go_simp
                  first | rfl | exact ⟨rfl, rfl⟩
                with_reducible apply Exists.intro
                with_reducible refine ⟨?_, ?_⟩
                · go_simp
                  rfl
                refine soup_nil (fun W8 hk hS => ?_)
                have HKK := Lib.hid (HKK.out.trans hk)
                clear hk hS
                go_wp2_with (fail)
                go_roundw
                case rel => exact ⟨k + 1, by go_num, by omega, HKK.out⟩
                case measure => go_light; simp [intOf]; omega
              · obtain rfl : k = j := by omega
                have hkn : ¬ (k : Int) < (k : Int) := by omega
                have HKE := Lib.hid (HK6.out.trans hkk)
                clear y0 y1 y2 y3 y4 y5 y6 hkk
                go_wp2_with (fail)
                go_roundw
                case rel => exact ⟨k + 1, by go_num, by omega, by rw [HCS.out, HISC.out]; first | rfl | (push_cast; rfl), HKE.out⟩
                case measure => go_light; simp [intOf]; omega
        · as_aux_lemma =>
            obtain rfl : st0 = 1 := e1
            obtain rfl : st = 3 := e2
            have HOW : Hid (uow[pn]?.getD 0 = fr) := Lib.hid (by rw [HOWN.out]; simp)
            have HISC : Hid (isC was ⟨⟨mv, (pn : Int), fr, to⟩, ⟨3, dn⟩⟩ = false) := Lib.hid (by unfold isC; simp only [HSO.out]; rfl)
            clear hz0
            obtain ⟨y0, y1, y2, y3, y4, y5, y6⟩ := HS1.out.facts
            obtain ⟨z0, z1, z2, z3, z4, z5, z6⟩ := HS3.out.facts
            clear hS1 hS3
            clear hw1 hw2 hwl hon8 hepb HROW HTI HUI HEP HD HONE HOLD
            go_upto_region 9 with (fail)
            rw [HW3.out]
            go_upto_region 11 with (fail)
            obtain ⟨d0, d1, d2, d3⟩ := TbFacts ((HK3.out.block _ (lt_of_heap HT.out) (by simp)).trans HT.out)
            obtain ⟨f0, f1, f2, f3⟩ := TbFacts ((HK3.out.block _ (lt_of_heap HB.out) (by simp)).trans HB.out)
            go_wp2_with (fail)
            refine (HOUU.out _ HK3.out).mono ?_
            rintro e W6 ⟨rfl, hk6⟩
            rw [HOW.out]
            have HK6 := Lib.hid (HK3.out.trans hk6)
            have HS1 := Lib.hid (show SixAt W6 Wr.heap.size _ _ _ _ _ _ from ⟨(hk6.block _ (lt_of_heap HS1.out.blk) (by simp)).trans HS1.out.blk⟩)
            clear y0 y1 y2 y3 y4 y5 y6 d0 d1 d2 d3 f0 f1 f2 f3
            obtain ⟨y0, y1, y2, y3, y4, y5, y6⟩ := HS1.out.facts
            have HKO := Lib.hid (show Keep [] Wr W6 from HKQ.out.trans hk6)
            clear hk6
            go_wp2_with (fail)
            go_loopw [20] (fun i wr => ∃ k : Nat, i = .int .i64 k ∧ k ≤ j ∧ Keep [] W6 wr) (fun i _ => j - (intOf i).toNat)
            case atStart => exact ⟨0, rfl, Nat.zero_le _, Keep.refl _ _⟩
            case round =>
              obtain ⟨k, rfl, hk, hkk⟩ := hrel
              obtain ⟨Wq, hWq⟩ : ∃ x, x = wr := ⟨_, rfl⟩
              subst hWq
              have HKK := Lib.hid hkk
              have h0k : (0 : Int) ≤ (k : Int) := Int.natCast_nonneg k
              by_cases hlk : k < j
              · have hkn : (k : Int) < (j : Int) := by omega
                have hkl : (k : Int) < (nl : Int) := by omega
                have hlj : k < now.length := by rw [HNL.out]; omega
                obtain ⟨x, hx⟩ : ∃ x, now[k]? = some x := ⟨now[k], List.getElem?_eq_getElem hlj⟩
                have hpr := pair_at HPAIR.out hlk hx HY.out
                have hq0 := HCELL.out k 0 _ hx (by omega)
                have hq1 := HCELL.out k 1 _ hx (by omega)
                obtain ⟨⟨a1, a2, a3, a4⟩, ⟨a5, a6⟩⟩ := x
                simp only [Mo.cells, List.getElem?_cons_zero, List.getElem?_cons_succ, Nat.add_zero] at hq0 hq1
                simp only at hpr
                have hA := Lib.hid ((HKO.out.cell _ HGA.out (by simp)).trans hq0)
                have hB := Lib.hid ((HKO.out.cell _ HGA.out (by simp)).trans hq1)
                have HGB := Lib.hid (Nat.lt_of_lt_of_le HGA.out HKO.out.size)
                have gp : (a2 == (pn : Int)) = false := by simpa using hpr.1
                have gm : decide (mv ≤ a1) = false := by simp; omega
                have gm2 : ¬ mv ≤ a1 := by omega
                have HSB := Lib.hid (lt_of_heap HS1.out.blk)
                clear hpr hx hq0 hq1 y0 y1 y2 y3 y4 y5 y6 hkk
                go_wp2_with (fail)
                refine wp_region_soup 16 [] (fun _ => none) (by kernel_rfl) (by kernel_rfl) (spOk_of (l := []) (by simp)) (pre_of (l := []) (by simp)) ?_
                simp only [List.take_succ_cons, List.take_zero, List.drop_succ_cons, List.drop_zero]
                with_reducible refine soup_q ?_ ?_ ?_
                · rfl
                · rfl
                with_reducible apply Exists.intro
                with_reducible refine ⟨fun W hk _ => ?_, ?_⟩
                · unfold Oper.same
                  go_simp
                  first | rfl | exact ⟨rfl, rfl⟩
                with_reducible apply Exists.intro
                with_reducible refine ⟨?_, ?_⟩
                · go_simp
                  rfl
                with_reducible refine soup_q ?_ ?_ ?_
                · rfl
                · rfl
                with_reducible apply Exists.intro
                with_reducible refine ⟨fun W hk _ => ?_, ?_⟩
                · unfold Oper.same
                  go_simp
                  first | rfl | exact ⟨rfl, rfl⟩
                with_reducible apply Exists.intro
                with_reducible refine ⟨?_, ?_⟩
                · go_simp
                  rfl
                with_reducible refine soup_q ?_ ?_ ?_
                · rfl
                · rfl
                with_reducible apply Exists.intro
                with_reducible refine ⟨fun W hk _ => ?_, ?_⟩
                · unfold Oper.same
                  go_simp
                  first | rfl | exact ⟨rfl, rfl⟩
                with_reducible apply Exists.intro
                with_reducible refine ⟨?_, ?_⟩
                · go_simp
                  rfl
                with_reducible refine soup_q ?_ ?_ ?_
                · rfl
                · rfl
                with_reducible apply Exists.intro
                with_reducible refine ⟨fun W hk _ => ?_, ?_⟩
                · unfold Oper.same
                  go_simp
                  first | rfl | exact ⟨rfl, rfl⟩
                with_reducible apply Exists.intro
                with_reducible refine ⟨?_, ?_⟩
                · go_simp
                  rfl
                with_reducible refine soup_q ?_ ?_ ?_
                · rfl
                · rfl
                with_reducible apply Exists.intro
                with_reducible refine ⟨fun W hk _ => ?_, ?_⟩
                · have qB := (hk.cell _ (Nat.lt_of_lt_of_le HGB.out HKK.out.size) (by simp)).trans ((HKK.out.cell _ HGB.out (by simp)).trans hB.out)
                  unfold Oper.same
                  go_simp
                  first | rfl | exact ⟨rfl, rfl⟩
                with_reducible apply Exists.intro
                with_reducible refine ⟨?_, ?_⟩
                · go_simp
                  rfl
                with_reducible refine soup_q ?_ ?_ ?_
                · rfl
                · rfl
                with_reducible apply Exists.intro
                with_reducible refine ⟨fun W hk _ => ?_, ?_⟩
                · unfold Oper.same
                  go_simp
                  first | rfl | exact ⟨rfl, rfl⟩
                with_reducible apply Exists.intro
                with_reducible refine ⟨?_, ?_⟩
                · go_simp
                  rfl
                with_reducible refine soup_q ?_ ?_ ?_
                · rfl
                · rfl
                with_reducible apply Exists.intro
                with_reducible refine ⟨fun W hk _ => ?_, ?_⟩
                · have y1 := ((hk.cell _ (Nat.lt_of_lt_of_le HSB.out HKK.out.size) (by simp)).trans ((HKK.out.cell _ HSB.out (by simp)).trans HS1.out.facts.2.1))
                  unfold Oper.same
                  go_simp
                  first | rfl | exact ⟨rfl, rfl⟩
                with_reducible apply Exists.intro
                with_reducible refine ⟨?_, ?_⟩
                · go_simp
                  rfl
                with_reducible refine soup_q ?_ ?_ ?_
                · rfl
                · rfl
                with_reducible apply Exists.intro
                with_reducible refine ⟨fun W hk _ => ?_, ?_⟩
                · unfold Oper.same
                  go_simp
                  first | rfl | exact ⟨rfl, rfl⟩
                with_reducible apply Exists.intro
                with_reducible refine ⟨?_, ?_⟩
                · go_simp
                  rfl
                with_reducible refine soup_q ?_ ?_ ?_
                · rfl
                · rfl
                with_reducible apply Exists.intro
                with_reducible refine ⟨fun W hk _ => ?_, ?_⟩
                · unfold Oper.same
                  go_simp
                  first | rfl | exact ⟨rfl, rfl⟩
                with_reducible apply Exists.intro
                with_reducible refine ⟨?_, ?_⟩
                · go_simp
                  rfl
                with_reducible refine soup_q ?_ ?_ ?_
                · rfl
                · rfl
                with_reducible apply Exists.intro
                with_reducible refine ⟨fun W hk _ => ?_, ?_⟩
                · unfold Oper.same
                  go_simp
                  first | rfl | exact ⟨rfl, rfl⟩
                with_reducible apply Exists.intro
                with_reducible refine ⟨?_, ?_⟩
                · go_simp
                  rfl
                with_reducible refine soup_q ?_ ?_ ?_
                · rfl
                · rfl
                with_reducible apply Exists.intro
                with_reducible refine ⟨fun W hk _ => ?_, ?_⟩
                · unfold Oper.same
                  go_simp
                  first | rfl | exact ⟨rfl, rfl⟩
                with_reducible apply Exists.intro
                with_reducible refine ⟨?_, ?_⟩
                · go_simp
                  rfl
                with_reducible refine soup_q ?_ ?_ ?_
                · rfl
                · rfl
                with_reducible apply Exists.intro
                with_reducible refine ⟨fun W hk _ => ?_, ?_⟩
                · unfold Oper.same
                  go_simp
                  first | rfl | exact ⟨rfl, rfl⟩
                with_reducible apply Exists.intro
                with_reducible refine ⟨?_, ?_⟩
                · go_simp
                  rfl
                with_reducible refine soup_q ?_ ?_ ?_
                · rfl
                · rfl
                with_reducible apply Exists.intro
                with_reducible refine ⟨fun W hk _ => ?_, ?_⟩
                · unfold Oper.same
                  go_simp
                  first | rfl | exact ⟨rfl, rfl⟩
                with_reducible apply Exists.intro
                with_reducible refine ⟨?_, ?_⟩
                · go_simp
                  rfl
                with_reducible refine soup_q ?_ ?_ ?_
                · rfl
                · rfl
                with_reducible apply Exists.intro
                with_reducible refine ⟨fun W hk _ => ?_, ?_⟩
                · have qA := (hk.cell _ (Nat.lt_of_lt_of_le HGB.out HKK.out.size) (by simp)).trans ((HKK.out.cell _ HGB.out (by simp)).trans hA.out)
                  unfold Oper.same
                  go_simp
                  first | rfl | exact ⟨rfl, rfl⟩
                with_reducible apply Exists.intro
                with_reducible refine ⟨?_, ?_⟩
                · go_simp
                  rfl
                with_reducible refine soup_q ?_ ?_ ?_
                · rfl
                · rfl
                with_reducible apply Exists.intro
                with_reducible refine ⟨fun W hk _ => ?_, ?_⟩
                · unfold Oper.same
                  go_simp
                  first | rfl | exact ⟨rfl, rfl⟩
                with_reducible apply Exists.intro
                with_reducible refine ⟨?_, ?_⟩
                · go_simp
                  rfl
                with_reducible refine soup_q ?_ ?_ ?_
                · rfl
                · rfl
                with_reducible apply Exists.intro
                with_reducible refine ⟨fun W hk _ => ?_, ?_⟩
                · have y0 := ((hk.cell _ (Nat.lt_of_lt_of_le HSB.out HKK.out.size) (by simp)).trans ((HKK.out.cell _ HSB.out (by simp)).trans HS1.out.facts.1))
                  unfold Oper.same
                  go_simp
                  first | rfl | exact ⟨rfl, rfl⟩
                with_reducible apply Exists.intro
                with_reducible refine ⟨?_, ?_⟩
                · go_simp
                  rfl
                refine soup_nil (fun W8 hk hS => ?_)
                have HKK := Lib.hid (HKK.out.trans hk)
                clear hk hS
                go_wp2_with (fail)
                go_roundw
                case rel => exact ⟨k + 1, by go_num, by omega, HKK.out⟩
                case measure => go_light; simp [intOf]; omega
              · obtain rfl : k = j := by omega
                have hkn : ¬ (k : Int) < (k : Int) := by omega
                have HKE := Lib.hid (HK6.out.trans hkk)
                clear y0 y1 y2 y3 y4 y5 y6 hkk
                go_wp2_with (fail)
                go_roundw
                case rel => exact ⟨k + 1, by go_num, by omega, by rw [HCS.out, HISC.out]; first | rfl | (push_cast; rfl), HKE.out⟩
                case measure => go_light; simp [intOf]; omega
        · as_aux_lemma =>
            obtain rfl : st0 = 2 := e1
            obtain rfl : st = 2 := e2
            have HOW : Hid (uow[pn]?.getD 0 = to) := Lib.hid (by rw [HOWN.out]; simp)
            have HISC : Hid (isC was ⟨⟨mv, (pn : Int), fr, to⟩, ⟨2, dn⟩⟩ = false) := Lib.hid (by unfold isC; simp only [HSO.out]; rfl)
            clear hz0
            obtain ⟨y0, y1, y2, y3, y4, y5, y6⟩ := HS1.out.facts
            obtain ⟨z0, z1, z2, z3, z4, z5, z6⟩ := HS3.out.facts
            clear hS1 hS3
            clear hw1 hw2 hwl hon8 hepb HROW HTI HUI HEP HD HONE HOLD
            go_upto_region 9 with (fail)
            rw [HW3.out]
            go_upto_region 11 with (fail)
            obtain ⟨d0, d1, d2, d3⟩ := TbFacts ((HK3.out.block _ (lt_of_heap HT.out) (by simp)).trans HT.out)
            obtain ⟨f0, f1, f2, f3⟩ := TbFacts ((HK3.out.block _ (lt_of_heap HB.out) (by simp)).trans HB.out)
            go_wp2_with (fail)
            refine (HOUU.out _ HK3.out).mono ?_
            rintro e W6 ⟨rfl, hk6⟩
            rw [HOW.out]
            have HK6 := Lib.hid (HK3.out.trans hk6)
            have HS1 := Lib.hid (show SixAt W6 Wr.heap.size _ _ _ _ _ _ from ⟨(hk6.block _ (lt_of_heap HS1.out.blk) (by simp)).trans HS1.out.blk⟩)
            clear y0 y1 y2 y3 y4 y5 y6 d0 d1 d2 d3 f0 f1 f2 f3
            obtain ⟨y0, y1, y2, y3, y4, y5, y6⟩ := HS1.out.facts
            have HKO := Lib.hid (show Keep [] Wr W6 from HKQ.out.trans hk6)
            clear hk6
            go_wp2_with (fail)
            go_loopw [20] (fun i wr => ∃ k : Nat, i = .int .i64 k ∧ k ≤ j ∧ Keep [] W6 wr) (fun i _ => j - (intOf i).toNat)
            case atStart => exact ⟨0, rfl, Nat.zero_le _, Keep.refl _ _⟩
            case round =>
              obtain ⟨k, rfl, hk, hkk⟩ := hrel
              obtain ⟨Wq, hWq⟩ : ∃ x, x = wr := ⟨_, rfl⟩
              subst hWq
              have HKK := Lib.hid hkk
              have h0k : (0 : Int) ≤ (k : Int) := Int.natCast_nonneg k
              by_cases hlk : k < j
              · have hkn : (k : Int) < (j : Int) := by omega
                have hkl : (k : Int) < (nl : Int) := by omega
                have hlj : k < now.length := by rw [HNL.out]; omega
                obtain ⟨x, hx⟩ : ∃ x, now[k]? = some x := ⟨now[k], List.getElem?_eq_getElem hlj⟩
                have hpr := pair_at HPAIR.out hlk hx HY.out
                have hq0 := HCELL.out k 0 _ hx (by omega)
                have hq1 := HCELL.out k 1 _ hx (by omega)
                obtain ⟨⟨a1, a2, a3, a4⟩, ⟨a5, a6⟩⟩ := x
                simp only [Mo.cells, List.getElem?_cons_zero, List.getElem?_cons_succ, Nat.add_zero] at hq0 hq1
                simp only at hpr
                have hA := Lib.hid ((HKO.out.cell _ HGA.out (by simp)).trans hq0)
                have hB := Lib.hid ((HKO.out.cell _ HGA.out (by simp)).trans hq1)
                have HGB := Lib.hid (Nat.lt_of_lt_of_le HGA.out HKO.out.size)
                have gp : (a2 == (pn : Int)) = false := by simpa using hpr.1
                have gm : decide (mv ≤ a1) = false := by simp; omega
                have gm2 : ¬ mv ≤ a1 := by omega
                have HSB := Lib.hid (lt_of_heap HS1.out.blk)
                clear hpr hx hq0 hq1 y0 y1 y2 y3 y4 y5 y6 hkk
                go_wp2_with (fail)
                refine wp_region_soup 16 [] (fun _ => none) (by kernel_rfl) (by kernel_rfl) (spOk_of (l := []) (by simp)) (pre_of (l := []) (by simp)) ?_
                simp only [List.take_succ_cons, List.take_zero, List.drop_succ_cons, List.drop_zero]
                with_reducible refine soup_q ?_ ?_ ?_
                · rfl
                · rfl
                with_reducible apply Exists.intro
                with_reducible refine ⟨fun W hk _ => ?_, ?_⟩
                · unfold Oper.same
                  go_simp
                  first | rfl | exact ⟨rfl, rfl⟩
                with_reducible apply Exists.intro
                with_reducible refine ⟨?_, ?_⟩
                · go_simp
                  rfl
                with_reducible refine soup_q ?_ ?_ ?_
                · rfl
                · rfl
                with_reducible apply Exists.intro
                with_reducible refine ⟨fun W hk _ => ?_, ?_⟩
                · unfold Oper.same
                  go_simp
                  first | rfl | exact ⟨rfl, rfl⟩
                with_reducible apply Exists.intro
                with_reducible refine ⟨?_, ?_⟩
                · go_simp
                  rfl
                with_reducible refine soup_q ?_ ?_ ?_
                · rfl
                · rfl
                with_reducible apply Exists.intro
                with_reducible refine ⟨fun W hk _ => ?_, ?_⟩
                · unfold Oper.same
                  go_simp
                  first | rfl | exact ⟨rfl, rfl⟩
                with_reducible apply Exists.intro
                with_reducible refine ⟨?_, ?_⟩
                · go_simp
                  rfl
                with_reducible refine soup_q ?_ ?_ ?_
                · rfl
                · rfl
                with_reducible apply Exists.intro
                with_reducible refine ⟨fun W hk _ => ?_, ?_⟩
                · unfold Oper.same
                  go_simp
                  first | rfl | exact ⟨rfl, rfl⟩
                with_reducible apply Exists.intro
                with_reducible refine ⟨?_, ?_⟩
                · go_simp
                  rfl
                with_reducible refine soup_q ?_ ?_ ?_
                · rfl
                · rfl
                with_reducible apply Exists.intro
                with_reducible refine ⟨fun W hk _ => ?_, ?_⟩
                · have qB := (hk.cell _ (Nat.lt_of_lt_of_le HGB.out HKK.out.size) (by simp)).trans ((HKK.out.cell _ HGB.out (by simp)).trans hB.out)
                  unfold Oper.same
                  go_simp
                  first | rfl | exact ⟨rfl, rfl⟩
                with_reducible apply Exists.intro
                with_reducible refine ⟨?_, ?_⟩
                · go_simp
                  rfl
                with_reducible refine soup_q ?_ ?_ ?_
                · rfl
                · rfl
                with_reducible apply Exists.intro
                with_reducible refine ⟨fun W hk _ => ?_, ?_⟩
                · unfold Oper.same
                  go_simp
                  first | rfl | exact ⟨rfl, rfl⟩
                with_reducible apply Exists.intro
                with_reducible refine ⟨?_, ?_⟩
                · go_simp
                  rfl
                with_reducible refine soup_q ?_ ?_ ?_
                · rfl
                · rfl
                with_reducible apply Exists.intro
                with_reducible refine ⟨fun W hk _ => ?_, ?_⟩
                · have y1 := ((hk.cell _ (Nat.lt_of_lt_of_le HSB.out HKK.out.size) (by simp)).trans ((HKK.out.cell _ HSB.out (by simp)).trans HS1.out.facts.2.1))
                  unfold Oper.same
                  go_simp
                  first | rfl | exact ⟨rfl, rfl⟩
                with_reducible apply Exists.intro
                with_reducible refine ⟨?_, ?_⟩
                · go_simp
                  rfl
                with_reducible refine soup_q ?_ ?_ ?_
                · rfl
                · rfl
                with_reducible apply Exists.intro
                with_reducible refine ⟨fun W hk _ => ?_, ?_⟩
                · unfold Oper.same
                  go_simp
                  first | rfl | exact ⟨rfl, rfl⟩
                with_reducible apply Exists.intro
                with_reducible refine ⟨?_, ?_⟩
                · go_simp
                  rfl
                with_reducible refine soup_q ?_ ?_ ?_
                · rfl
                · rfl
                with_reducible apply Exists.intro
                with_reducible refine ⟨fun W hk _ => ?_, ?_⟩
                · unfold Oper.same
                  go_simp
                  first | rfl | exact ⟨rfl, rfl⟩
                with_reducible apply Exists.intro
                with_reducible refine ⟨?_, ?_⟩
                · go_simp
                  rfl
                with_reducible refine soup_q ?_ ?_ ?_
                · rfl
                · rfl
                with_reducible apply Exists.intro
                with_reducible refine ⟨fun W hk _ => ?_, ?_⟩
                · unfold Oper.same
                  go_simp
                  first | rfl | exact ⟨rfl, rfl⟩
                with_reducible apply Exists.intro
                with_reducible refine ⟨?_, ?_⟩
                · go_simp
                  rfl
                with_reducible refine soup_q ?_ ?_ ?_
                · rfl
                · rfl
                with_reducible apply Exists.intro
                with_reducible refine ⟨fun W hk _ => ?_, ?_⟩
                · unfold Oper.same
                  go_simp
                  first | rfl | exact ⟨rfl, rfl⟩
                with_reducible apply Exists.intro
                with_reducible refine ⟨?_, ?_⟩
                · go_simp
                  rfl
                with_reducible refine soup_q ?_ ?_ ?_
                · rfl
                · rfl
                with_reducible apply Exists.intro
                with_reducible refine ⟨fun W hk _ => ?_, ?_⟩
                · unfold Oper.same
                  go_simp
                  first | rfl | exact ⟨rfl, rfl⟩
                with_reducible apply Exists.intro
                with_reducible refine ⟨?_, ?_⟩
                · go_simp
                  rfl
                with_reducible refine soup_q ?_ ?_ ?_
                · rfl
                · rfl
                with_reducible apply Exists.intro
                with_reducible refine ⟨fun W hk _ => ?_, ?_⟩
                · unfold Oper.same
                  go_simp
                  first | rfl | exact ⟨rfl, rfl⟩
                with_reducible apply Exists.intro
                with_reducible refine ⟨?_, ?_⟩
                · go_simp
                  rfl
                with_reducible refine soup_q ?_ ?_ ?_
                · rfl
                · rfl
                with_reducible apply Exists.intro
                with_reducible refine ⟨fun W hk _ => ?_, ?_⟩
                · have qA := (hk.cell _ (Nat.lt_of_lt_of_le HGB.out HKK.out.size) (by simp)).trans ((HKK.out.cell _ HGB.out (by simp)).trans hA.out)
                  unfold Oper.same
                  go_simp
                  first | rfl | exact ⟨rfl, rfl⟩
                with_reducible apply Exists.intro
                with_reducible refine ⟨?_, ?_⟩
                · go_simp
                  rfl
                with_reducible refine soup_q ?_ ?_ ?_
                · rfl
                · rfl
                with_reducible apply Exists.intro
                with_reducible refine ⟨fun W hk _ => ?_, ?_⟩
                · unfold Oper.same
                  go_simp
                  first | rfl | exact ⟨rfl, rfl⟩
                with_reducible apply Exists.intro
                with_reducible refine ⟨?_, ?_⟩
                · go_simp
                  rfl
                with_reducible refine soup_q ?_ ?_ ?_
                · rfl
                · rfl
                with_reducible apply Exists.intro
                with_reducible refine ⟨fun W hk _ => ?_, ?_⟩
                · have y0 := ((hk.cell _ (Nat.lt_of_lt_of_le HSB.out HKK.out.size) (by simp)).trans ((HKK.out.cell _ HSB.out (by simp)).trans HS1.out.facts.1))
                  unfold Oper.same
                  go_simp
                  first | rfl | exact ⟨rfl, rfl⟩
                with_reducible apply Exists.intro
                with_reducible refine ⟨?_, ?_⟩
                · go_simp
                  rfl
                refine soup_nil (fun W8 hk hS => ?_)
                have HKK := Lib.hid (HKK.out.trans hk)
                clear hk hS
                go_wp2_with (fail)
                go_roundw
                case rel => exact ⟨k + 1, by go_num, by omega, HKK.out⟩
                case measure => go_light; simp [intOf]; omega
              · obtain rfl : k = j := by omega
                have hkn : ¬ (k : Int) < (k : Int) := by omega
                have HKE := Lib.hid (HK6.out.trans hkk)
                clear y0 y1 y2 y3 y4 y5 y6 hkk
                go_wp2_with (fail)
                go_roundw
                case rel => exact ⟨k + 1, by go_num, by omega, by rw [HCS.out, HISC.out]; first | rfl | (push_cast; rfl), HKE.out⟩
                case measure => go_light; simp [intOf]; omega
        · as_aux_lemma =>
            obtain rfl : st0 = 3 := e1
            obtain rfl : st = 3 := e2
            have HOW : Hid (uow[pn]?.getD 0 = fr) := Lib.hid (by rw [HOWN.out]; simp)
            have HISC : Hid (isC was ⟨⟨mv, (pn : Int), fr, to⟩, ⟨3, dn⟩⟩ = false) := Lib.hid (by unfold isC; simp only [HSO.out]; rfl)
            clear hz0
            obtain ⟨y0, y1, y2, y3, y4, y5, y6⟩ := HS1.out.facts
            obtain ⟨z0, z1, z2, z3, z4, z5, z6⟩ := HS3.out.facts
            clear hS1 hS3
            clear hw1 hw2 hwl hon8 hepb HROW HTI HUI HEP HD HONE HOLD
            go_upto_region 9 with (fail)
            rw [HW3.out]
            go_upto_region 11 with (fail)
            obtain ⟨d0, d1, d2, d3⟩ := TbFacts ((HK3.out.block _ (lt_of_heap HT.out) (by simp)).trans HT.out)
            obtain ⟨f0, f1, f2, f3⟩ := TbFacts ((HK3.out.block _ (lt_of_heap HB.out) (by simp)).trans HB.out)
            go_wp2_with (fail)
            refine (HOUU.out _ HK3.out).mono ?_
            rintro e W6 ⟨rfl, hk6⟩
            rw [HOW.out]
            have HK6 := Lib.hid (HK3.out.trans hk6)
            have HS1 := Lib.hid (show SixAt W6 Wr.heap.size _ _ _ _ _ _ from ⟨(hk6.block _ (lt_of_heap HS1.out.blk) (by simp)).trans HS1.out.blk⟩)
            clear y0 y1 y2 y3 y4 y5 y6 d0 d1 d2 d3 f0 f1 f2 f3
            obtain ⟨y0, y1, y2, y3, y4, y5, y6⟩ := HS1.out.facts
            have HKO := Lib.hid (show Keep [] Wr W6 from HKQ.out.trans hk6)
            clear hk6
            go_wp2_with (fail)
            go_loopw [20] (fun i wr => ∃ k : Nat, i = .int .i64 k ∧ k ≤ j ∧ Keep [] W6 wr) (fun i _ => j - (intOf i).toNat)
            case atStart => exact ⟨0, rfl, Nat.zero_le _, Keep.refl _ _⟩
            case round =>
              obtain ⟨k, rfl, hk, hkk⟩ := hrel
              obtain ⟨Wq, hWq⟩ : ∃ x, x = wr := ⟨_, rfl⟩
              subst hWq
              have HKK := Lib.hid hkk
              have h0k : (0 : Int) ≤ (k : Int) := Int.natCast_nonneg k
              by_cases hlk : k < j
              · have hkn : (k : Int) < (j : Int) := by omega
                have hkl : (k : Int) < (nl : Int) := by omega
                have hlj : k < now.length := by rw [HNL.out]; omega
                obtain ⟨x, hx⟩ : ∃ x, now[k]? = some x := ⟨now[k], List.getElem?_eq_getElem hlj⟩
                have hpr := pair_at HPAIR.out hlk hx HY.out
                have hq0 := HCELL.out k 0 _ hx (by omega)
                have hq1 := HCELL.out k 1 _ hx (by omega)
                obtain ⟨⟨a1, a2, a3, a4⟩, ⟨a5, a6⟩⟩ := x
                simp only [Mo.cells, List.getElem?_cons_zero, List.getElem?_cons_succ, Nat.add_zero] at hq0 hq1
                simp only at hpr
                have hA := Lib.hid ((HKO.out.cell _ HGA.out (by simp)).trans hq0)
                have hB := Lib.hid ((HKO.out.cell _ HGA.out (by simp)).trans hq1)
                have HGB := Lib.hid (Nat.lt_of_lt_of_le HGA.out HKO.out.size)
                have gp : (a2 == (pn : Int)) = false := by simpa using hpr.1
                have gm : decide (mv ≤ a1) = false := by simp; omega
                have gm2 : ¬ mv ≤ a1 := by omega
                have HSB := Lib.hid (lt_of_heap HS1.out.blk)
                clear hpr hx hq0 hq1 y0 y1 y2 y3 y4 y5 y6 hkk
                go_wp2_with (fail)
                refine wp_region_soup 16 [] (fun _ => none) (by kernel_rfl) (by kernel_rfl) (spOk_of (l := []) (by simp)) (pre_of (l := []) (by simp)) ?_
                simp only [List.take_succ_cons, List.take_zero, List.drop_succ_cons, List.drop_zero]
                with_reducible refine soup_q ?_ ?_ ?_
                · rfl
                · rfl
                with_reducible apply Exists.intro
                with_reducible refine ⟨fun W hk _ => ?_, ?_⟩
                · unfold Oper.same
                  go_simp
                  first | rfl | exact ⟨rfl, rfl⟩
                with_reducible apply Exists.intro
                with_reducible refine ⟨?_, ?_⟩
                · go_simp
                  rfl
                with_reducible refine soup_q ?_ ?_ ?_
                · rfl
                · rfl
                with_reducible apply Exists.intro
                with_reducible refine ⟨fun W hk _ => ?_, ?_⟩
                · unfold Oper.same
                  go_simp
                  first | rfl | exact ⟨rfl, rfl⟩
                with_reducible apply Exists.intro
                with_reducible refine ⟨?_, ?_⟩
                · go_simp
                  rfl
                with_reducible refine soup_q ?_ ?_ ?_
                · rfl
                · rfl
                with_reducible apply Exists.intro
                with_reducible refine ⟨fun W hk _ => ?_, ?_⟩
                · unfold Oper.same
                  go_simp
                  first | rfl | exact ⟨rfl, rfl⟩
                with_reducible apply Exists.intro
                with_reducible refine ⟨?_, ?_⟩
                · go_simp
                  rfl
                with_reducible refine soup_q ?_ ?_ ?_
                · rfl
                · rfl
                with_reducible apply Exists.intro
                with_reducible refine ⟨fun W hk _ => ?_, ?_⟩
                · unfold Oper.same
                  go_simp
                  first | rfl | exact ⟨rfl, rfl⟩
                with_reducible apply Exists.intro
                with_reducible refine ⟨?_, ?_⟩
                · go_simp
                  rfl
                with_reducible refine soup_q ?_ ?_ ?_
                · rfl
                · rfl
                with_reducible apply Exists.intro
                with_reducible refine ⟨fun W hk _ => ?_, ?_⟩
                · have qB := (hk.cell _ (Nat.lt_of_lt_of_le HGB.out HKK.out.size) (by simp)).trans ((HKK.out.cell _ HGB.out (by simp)).trans hB.out)
                  unfold Oper.same
                  go_simp
                  first | rfl | exact ⟨rfl, rfl⟩
                with_reducible apply Exists.intro
                with_reducible refine ⟨?_, ?_⟩
                · go_simp
                  rfl
                with_reducible refine soup_q ?_ ?_ ?_
                · rfl
                · rfl
                with_reducible apply Exists.intro
                with_reducible refine ⟨fun W hk _ => ?_, ?_⟩
                · unfold Oper.same
                  go_simp
                  first | rfl | exact ⟨rfl, rfl⟩
                with_reducible apply Exists.intro
                with_reducible refine ⟨?_, ?_⟩
                · go_simp
                  rfl
                with_reducible refine soup_q ?_ ?_ ?_
                · rfl
                · rfl
                with_reducible apply Exists.intro
                with_reducible refine ⟨fun W hk _ => ?_, ?_⟩
                · have y1 := ((hk.cell _ (Nat.lt_of_lt_of_le HSB.out HKK.out.size) (by simp)).trans ((HKK.out.cell _ HSB.out (by simp)).trans HS1.out.facts.2.1))
                  unfold Oper.same
                  go_simp
                  first | rfl | exact ⟨rfl, rfl⟩
                with_reducible apply Exists.intro
                with_reducible refine ⟨?_, ?_⟩
                · go_simp
                  rfl
                with_reducible refine soup_q ?_ ?_ ?_
                · rfl
                · rfl
                with_reducible apply Exists.intro
                with_reducible refine ⟨fun W hk _ => ?_, ?_⟩
                · unfold Oper.same
                  go_simp
                  first | rfl | exact ⟨rfl, rfl⟩
                with_reducible apply Exists.intro
                with_reducible refine ⟨?_, ?_⟩
                · go_simp
                  rfl
                with_reducible refine soup_q ?_ ?_ ?_
                · rfl
                · rfl
                with_reducible apply Exists.intro
                with_reducible refine ⟨fun W hk _ => ?_, ?_⟩
                · unfold Oper.same
                  go_simp
                  first | rfl | exact ⟨rfl, rfl⟩
                with_reducible apply Exists.intro
                with_reducible refine ⟨?_, ?_⟩
                · go_simp
                  rfl
                with_reducible refine soup_q ?_ ?_ ?_
                · rfl
                · rfl
                with_reducible apply Exists.intro
                with_reducible refine ⟨fun W hk _ => ?_, ?_⟩
                · unfold Oper.same
                  go_simp
                  first | rfl | exact ⟨rfl, rfl⟩
                with_reducible apply Exists.intro
                with_reducible refine ⟨?_, ?_⟩
                · go_simp
                  rfl
                with_reducible refine soup_q ?_ ?_ ?_
                · rfl
                · rfl
                with_reducible apply Exists.intro
                with_reducible refine ⟨fun W hk _ => ?_, ?_⟩
                · unfold Oper.same
                  go_simp
                  first | rfl | exact ⟨rfl, rfl⟩
                with_reducible apply Exists.intro
                with_reducible refine ⟨?_, ?_⟩
                · go_simp
                  rfl
                with_reducible refine soup_q ?_ ?_ ?_
                · rfl
                · rfl
                with_reducible apply Exists.intro
                with_reducible refine ⟨fun W hk _ => ?_, ?_⟩
                · unfold Oper.same
                  go_simp
                  first | rfl | exact ⟨rfl, rfl⟩
                with_reducible apply Exists.intro
                with_reducible refine ⟨?_, ?_⟩
                · go_simp
                  rfl
                with_reducible refine soup_q ?_ ?_ ?_
                · rfl
                · rfl
                with_reducible apply Exists.intro
                with_reducible refine ⟨fun W hk _ => ?_, ?_⟩
                · unfold Oper.same
                  go_simp
                  first | rfl | exact ⟨rfl, rfl⟩
                with_reducible apply Exists.intro
                with_reducible refine ⟨?_, ?_⟩
                · go_simp
                  rfl
                with_reducible refine soup_q ?_ ?_ ?_
                · rfl
                · rfl
                with_reducible apply Exists.intro
                with_reducible refine ⟨fun W hk _ => ?_, ?_⟩
                · have qA := (hk.cell _ (Nat.lt_of_lt_of_le HGB.out HKK.out.size) (by simp)).trans ((HKK.out.cell _ HGB.out (by simp)).trans hA.out)
                  unfold Oper.same
                  go_simp
                  first | rfl | exact ⟨rfl, rfl⟩
                with_reducible apply Exists.intro
                with_reducible refine ⟨?_, ?_⟩
                · go_simp
                  rfl
                with_reducible refine soup_q ?_ ?_ ?_
                · rfl
                · rfl
                with_reducible apply Exists.intro
                with_reducible refine ⟨fun W hk _ => ?_, ?_⟩
                · unfold Oper.same
                  go_simp
                  first | rfl | exact ⟨rfl, rfl⟩
                with_reducible apply Exists.intro
                with_reducible refine ⟨?_, ?_⟩
                · go_simp
                  rfl
                with_reducible refine soup_q ?_ ?_ ?_
                · rfl
                · rfl
                with_reducible apply Exists.intro
                with_reducible refine ⟨fun W hk _ => ?_, ?_⟩
                · have y0 := ((hk.cell _ (Nat.lt_of_lt_of_le HSB.out HKK.out.size) (by simp)).trans ((HKK.out.cell _ HSB.out (by simp)).trans HS1.out.facts.1))
                  unfold Oper.same
                  go_simp
                  first | rfl | exact ⟨rfl, rfl⟩
                with_reducible apply Exists.intro
                with_reducible refine ⟨?_, ?_⟩
                · go_simp
                  rfl
                refine soup_nil (fun W8 hk hS => ?_)
                have HKK := Lib.hid (HKK.out.trans hk)
                clear hk hS
                go_wp2_with (fail)
                go_roundw
                case rel => exact ⟨k + 1, by go_num, by omega, HKK.out⟩
                case measure => go_light; simp [intOf]; omega
              · obtain rfl : k = j := by omega
                have hkn : ¬ (k : Int) < (k : Int) := by omega
                have HKE := Lib.hid (HK6.out.trans hkk)
                clear y0 y1 y2 y3 y4 y5 y6 hkk
                go_wp2_with (fail)
                go_roundw
                case rel => exact ⟨k + 1, by go_num, by omega, by rw [HCS.out, HISC.out]; first | rfl | (push_cast; rfl), HKE.out⟩
                case measure => go_light; simp [intOf]; omega
    · obtain rfl : j = nl := by omega
      have hjn : ¬ (j : Int) < (j : Int) := by omega
      have hct : (now.take j).countP (isC was) = now.countP (isC was) := by rw [← HNL.out, List.take_length]
      rw [hct]
      obtain ⟨T, hT⟩ : ∃ T, now.countP (isC was) = T := ⟨_, rfl⟩
      have hep := HEP.out
      have hd := HD.out
      have hone := HONE.out
      rw [hT] at hep hd hone ⊢
      have HDD := Lib.hid hd
      clear hct hT hd HEP HD HONE
      go_wp2_with (fail)
      go_loopw [21, 22] (fun d i wr => ∃ j' : Nat, i = .int .i64 j' ∧ j' ≤ on ∧ d = .int .i64 (dF tow uow j' : Nat) ∧ Keep [] Wr wr) (fun _ i _ => on - (intOf i).toNat)
      case atStart => exact ⟨0, rfl, Nat.zero_le _, rfl, Keep.refl _ _⟩
      case round =>
        obtain ⟨k, rfl, hk, rfl, hkk⟩ := hrel
        obtain ⟨Wq, hWq⟩ : ∃ x, x = wr := ⟨_, rfl⟩
        subst hWq
        have HKK := Lib.hid hkk
        have h0k : (0 : Int) ≤ (k : Int) := Int.natCast_nonneg k
        have hk2 := hk0.trans hkk
        have HTQ := Lib.hid ((hk2.block _ (lt_of_heap HT.out) (by simp)).trans HT.out)
        have HBQ := Lib.hid ((hk2.block _ (lt_of_heap HB.out) (by simp)).trans HB.out)
        obtain ⟨dk, hdk⟩ : ∃ dk, dF tow uow k = dk := ⟨_, rfl⟩
        have hdk8 : dk ≤ 8 := by rw [← hdk]; exact Nat.le_trans (dF_le _ _ _) (by omega)
        have HDK := Lib.hid hdk
        rw [hdk]
        clear hdk
        by_cases hlk : k < on
        · have hkn : (k : Int) < (on : Int) := by omega
          have hnt : tow ≠ [] := by intro e; have := HTL.out; rw [e] at this; simp at this; omega
          have hnu : uow ≠ [] := by intro e; have := HON.out; rw [e] at this; simp at this; omega
          obtain ⟨bt, ot, rfl, hbt, hct⟩ := HTI.out.keep hk2 (by simp) hnt
          obtain ⟨bu, ou, rfl, hbu, hcu⟩ := HUI.out.keep hk2 (by simp) hnu
          have hx := hct k (by rw [HTL.out]; exact hlk)
          have hy := hcu k (by rw [HON.out]; exact hlk)
          have hsc := dF_succ tow uow k
          obtain ⟨a, ha⟩ : ∃ a, tow[k]?.getD 0 = a := ⟨_, rfl⟩
          obtain ⟨b, hb⟩ : ∃ b, uow[k]?.getD 0 = b := ⟨_, rfl⟩
          rw [ha] at hx hsc
          rw [hb] at hy hsc
          rw [HDK.out] at hsc
          have HX := Lib.hid hx
          have HY := Lib.hid hy
          have HBT := Lib.hid hbt
          have HBU := Lib.hid hbu
          obtain ⟨d0, d1, d2, d3⟩ := TbFacts HTQ.out
          clear hct hcu hx hy hbt hbu ha hb hnt hnu
          by_cases hab : a = b
          · have gab : (a != b) = false := by simpa using hab
            rw [if_pos hab, Nat.add_zero] at hsc
            have HSC := Lib.hid hsc
            clear hsc hab
            go_wp2_with (fail)
            refine wp_region_soup 10 [] (fun _ => none) (by kernel_rfl) (by kernel_rfl) (spOk_of (l := []) (by simp)) (pre_of (l := []) (by simp)) ?_
            simp only [List.take_succ_cons, List.take_zero, List.drop_succ_cons, List.drop_zero]
            with_reducible refine soup_q ?_ ?_ ?_
            · rfl
            · rfl
            with_reducible apply Exists.intro
            with_reducible refine ⟨fun W hk _ => ?_, ?_⟩
            · unfold Oper.same
              go_simp
              first | rfl | exact ⟨rfl, rfl⟩
            with_reducible apply Exists.intro
            with_reducible refine ⟨?_, ?_⟩
            · go_simp
              rfl
            with_reducible refine soup_q ?_ ?_ ?_
            · rfl
            · rfl
            with_reducible apply Exists.intro
            with_reducible refine ⟨fun W hk _ => ?_, ?_⟩
            · have q2 := (hk.cell _ (lt_of_heap HTQ.out) (by simp)).trans (TbFacts HTQ.out).2.2.1
              unfold Oper.same
              go_simp
              first | rfl | exact ⟨rfl, rfl⟩
            with_reducible apply Exists.intro
            with_reducible refine ⟨?_, ?_⟩
            · go_simp
              rfl
            with_reducible refine soup_q ?_ ?_ ?_
            · rfl
            · rfl
            with_reducible apply Exists.intro
            with_reducible refine ⟨fun W hk _ => ?_, ?_⟩
            · unfold Oper.same
              go_simp
              first | rfl | exact ⟨rfl, rfl⟩
            with_reducible apply Exists.intro
            with_reducible refine ⟨?_, ?_⟩
            · go_simp
              rfl
            with_reducible refine soup_q ?_ ?_ ?_
            · rfl
            · rfl
            with_reducible apply Exists.intro
            with_reducible refine ⟨fun W hk _ => ?_, ?_⟩
            · unfold Oper.same
              go_simp
              first | rfl | exact ⟨rfl, rfl⟩
            with_reducible apply Exists.intro
            with_reducible refine ⟨?_, ?_⟩
            · go_simp
              rfl
            with_reducible refine soup_q ?_ ?_ ?_
            · rfl
            · rfl
            with_reducible apply Exists.intro
            with_reducible refine ⟨fun W hk _ => ?_, ?_⟩
            · have q2 := (hk.cell _ HBT.out (by simp)).trans HX.out
              unfold Oper.same
              go_simp
              first | rfl | exact ⟨rfl, rfl⟩
            with_reducible apply Exists.intro
            with_reducible refine ⟨?_, ?_⟩
            · go_simp
              rfl
            with_reducible refine soup_q ?_ ?_ ?_
            · rfl
            · rfl
            with_reducible apply Exists.intro
            with_reducible refine ⟨fun W hk _ => ?_, ?_⟩
            · unfold Oper.same
              go_simp
              first | rfl | exact ⟨rfl, rfl⟩
            with_reducible apply Exists.intro
            with_reducible refine ⟨?_, ?_⟩
            · go_simp
              rfl
            with_reducible refine soup_q ?_ ?_ ?_
            · rfl
            · rfl
            with_reducible apply Exists.intro
            with_reducible refine ⟨fun W hk _ => ?_, ?_⟩
            · have q2 := (hk.cell _ (lt_of_heap HBQ.out) (by simp)).trans (TbFacts HBQ.out).2.2.1
              unfold Oper.same
              go_simp
              first | rfl | exact ⟨rfl, rfl⟩
            with_reducible apply Exists.intro
            with_reducible refine ⟨?_, ?_⟩
            · go_simp
              rfl
            with_reducible refine soup_q ?_ ?_ ?_
            · rfl
            · rfl
            with_reducible apply Exists.intro
            with_reducible refine ⟨fun W hk _ => ?_, ?_⟩
            · unfold Oper.same
              go_simp
              first | rfl | exact ⟨rfl, rfl⟩
            with_reducible apply Exists.intro
            with_reducible refine ⟨?_, ?_⟩
            · go_simp
              rfl
            with_reducible refine soup_q ?_ ?_ ?_
            · rfl
            · rfl
            with_reducible apply Exists.intro
            with_reducible refine ⟨fun W hk _ => ?_, ?_⟩
            · unfold Oper.same
              go_simp
              first | rfl | exact ⟨rfl, rfl⟩
            with_reducible apply Exists.intro
            with_reducible refine ⟨?_, ?_⟩
            · go_simp
              rfl
            with_reducible refine soup_q ?_ ?_ ?_
            · rfl
            · rfl
            with_reducible apply Exists.intro
            with_reducible refine ⟨fun W hk _ => ?_, ?_⟩
            · have q2 := (hk.cell _ HBU.out (by simp)).trans HY.out
              unfold Oper.same
              go_simp
              first | rfl | exact ⟨rfl, rfl⟩
            with_reducible apply Exists.intro
            with_reducible refine ⟨?_, ?_⟩
            · go_simp
              rfl
            refine soup_nil (fun W9 hk hS => ?_)
            have HKK := Lib.hid (HKK.out.trans hk)
            clear hk hS
            go_wp2_with (fail)
            go_roundw
            case rel => exact ⟨k + 1, by go_num, by omega, by rw [HSC.out]; first | rfl | (push_cast; rfl), HKK.out⟩
            case measure => go_light; simp [intOf]; omega
          · have gab : (a != b) = true := by simpa using hab
            rw [if_neg hab] at hsc
            have HSC := Lib.hid hsc
            clear hsc hab
            go_wp2_with (fail)
            refine wp_region_soup 10 [] (fun _ => none) (by kernel_rfl) (by kernel_rfl) (spOk_of (l := []) (by simp)) (pre_of (l := []) (by simp)) ?_
            simp only [List.take_succ_cons, List.take_zero, List.drop_succ_cons, List.drop_zero]
            with_reducible refine soup_q ?_ ?_ ?_
            · rfl
            · rfl
            with_reducible apply Exists.intro
            with_reducible refine ⟨fun W hk _ => ?_, ?_⟩
            · unfold Oper.same
              go_simp
              first | rfl | exact ⟨rfl, rfl⟩
            with_reducible apply Exists.intro
            with_reducible refine ⟨?_, ?_⟩
            · go_simp
              rfl
            with_reducible refine soup_q ?_ ?_ ?_
            · rfl
            · rfl
            with_reducible apply Exists.intro
            with_reducible refine ⟨fun W hk _ => ?_, ?_⟩
            · have q2 := (hk.cell _ (lt_of_heap HTQ.out) (by simp)).trans (TbFacts HTQ.out).2.2.1
              unfold Oper.same
              go_simp
              first | rfl | exact ⟨rfl, rfl⟩
            with_reducible apply Exists.intro
            with_reducible refine ⟨?_, ?_⟩
            · go_simp
              rfl
            with_reducible refine soup_q ?_ ?_ ?_
            · rfl
            · rfl
            with_reducible apply Exists.intro
            with_reducible refine ⟨fun W hk _ => ?_, ?_⟩
            · unfold Oper.same
              go_simp
              first | rfl | exact ⟨rfl, rfl⟩
            with_reducible apply Exists.intro
            with_reducible refine ⟨?_, ?_⟩
            · go_simp
              rfl
            with_reducible refine soup_q ?_ ?_ ?_
            · rfl
            · rfl
            with_reducible apply Exists.intro
            with_reducible refine ⟨fun W hk _ => ?_, ?_⟩
            · unfold Oper.same
              go_simp
              first | rfl | exact ⟨rfl, rfl⟩
            with_reducible apply Exists.intro
            with_reducible refine ⟨?_, ?_⟩
            · go_simp
              rfl
            with_reducible refine soup_q ?_ ?_ ?_
            · rfl
            · rfl
            with_reducible apply Exists.intro
            with_reducible refine ⟨fun W hk _ => ?_, ?_⟩
            · have q2 := (hk.cell _ HBT.out (by simp)).trans HX.out
              unfold Oper.same
              go_simp
              first | rfl | exact ⟨rfl, rfl⟩
            with_reducible apply Exists.intro
            with_reducible refine ⟨?_, ?_⟩
            · go_simp
              rfl
            with_reducible refine soup_q ?_ ?_ ?_
            · rfl
            · rfl
            with_reducible apply Exists.intro
            with_reducible refine ⟨fun W hk _ => ?_, ?_⟩
            · unfold Oper.same
              go_simp
              first | rfl | exact ⟨rfl, rfl⟩
            with_reducible apply Exists.intro
            with_reducible refine ⟨?_, ?_⟩
            · go_simp
              rfl
            with_reducible refine soup_q ?_ ?_ ?_
            · rfl
            · rfl
            with_reducible apply Exists.intro
            with_reducible refine ⟨fun W hk _ => ?_, ?_⟩
            · have q2 := (hk.cell _ (lt_of_heap HBQ.out) (by simp)).trans (TbFacts HBQ.out).2.2.1
              unfold Oper.same
              go_simp
              first | rfl | exact ⟨rfl, rfl⟩
            with_reducible apply Exists.intro
            with_reducible refine ⟨?_, ?_⟩
            · go_simp
              rfl
            with_reducible refine soup_q ?_ ?_ ?_
            · rfl
            · rfl
            with_reducible apply Exists.intro
            with_reducible refine ⟨fun W hk _ => ?_, ?_⟩
            · unfold Oper.same
              go_simp
              first | rfl | exact ⟨rfl, rfl⟩
            with_reducible apply Exists.intro
            with_reducible refine ⟨?_, ?_⟩
            · go_simp
              rfl
            with_reducible refine soup_q ?_ ?_ ?_
            · rfl
            · rfl
            with_reducible apply Exists.intro
            with_reducible refine ⟨fun W hk _ => ?_, ?_⟩
            · unfold Oper.same
              go_simp
              first | rfl | exact ⟨rfl, rfl⟩
            with_reducible apply Exists.intro
            with_reducible refine ⟨?_, ?_⟩
            · go_simp
              rfl
            with_reducible refine soup_q ?_ ?_ ?_
            · rfl
            · rfl
            with_reducible apply Exists.intro
            with_reducible refine ⟨fun W hk _ => ?_, ?_⟩
            · have q2 := (hk.cell _ HBU.out (by simp)).trans HY.out
              unfold Oper.same
              go_simp
              first | rfl | exact ⟨rfl, rfl⟩
            with_reducible apply Exists.intro
            with_reducible refine ⟨?_, ?_⟩
            · go_simp
              rfl
            refine soup_nil (fun W9 hk hS => ?_)
            have HKK := Lib.hid (HKK.out.trans hk)
            clear hk hS
            go_wp2_with (fail)
            go_roundw
            case rel => exact ⟨k + 1, by go_num, by omega, by rw [HSC.out]; first | rfl | (push_cast; rfl), HKK.out⟩
            case measure => go_light; simp [intOf]; omega
        · obtain rfl : k = on := by omega
          have hkn : ¬ (k : Int) < (k : Int) := by omega
          obtain rfl : T = dk := by have h1 := HDD.out; rw [HTL.out, HDK.out] at h1; exact h1.symm
          obtain ⟨d0, d1, d2, d3⟩ := TbFacts HTQ.out
          obtain ⟨f0, f1, f2, f3⟩ := TbFacts HBQ.out
          have hT1 : (T : Int) ≤ 1 := by omega
          have hepq : (uep == tep + (T : Int)) = true := by simpa using hep
          have hkk2 := Lib.hid hkk
          clear hep hkk hk2 hone
          go_wp2_with (fail)
          go_ret
          exact ⟨rfl, HK.out.trans (HKR.out.trans hkk2.out)⟩
end Go.Proofs.YtdnfibecobodkaaGreat
