/- The coordinator: done. -/
import Derived.Test.YteejdfpfdnkiiaaGreatPg
namespace Go.Proofs.YteejdfpfdnkiiaaGreat
open Go.RowKit Go.Lib
open Go.ChangeMaps (setBlock)
set_option linter.unusedSimpArgs false
set_option linter.unusedVariables false
theorem or1 {d : Nat} (h : d ≤ 3) : bits BinOp.or .i64 (d : Int) 1 = ((d ||| 1 : Nat) : Int) := by
  have : d = 0 ∨ d = 1 ∨ d = 2 ∨ d = 3 := by omega
  rcases this with rfl | rfl | rfl | rfl <;> first | rfl | decide
theorem or2 {d : Nat} (h : d ≤ 3) : bits BinOp.or .i64 (d : Int) 2 = ((d ||| 2 : Nat) : Int) := by
  have : d = 0 ∨ d = 1 ∨ d = 2 ∨ d = 3 := by omega
  rcases this with rfl | rfl | rfl | rfl <;> first | rfl | decide
theorem put_nodup {K V : Type} [DecidableEq K] {m : List (K × V)} {k : K} {v : V} (hn : (m.map (·.1)).Nodup) : ((put k v m).map (·.1)).Nodup := by
  unfold put
  split
  · have e : (m.map (fun p => if k = p.1 then (p.1, v) else p)).map (·.1) = m.map (·.1) := by
      rw [List.map_map]
      refine List.map_congr_left fun p _ => ?_
      simp only [Function.comp]
      split <;> rfl
    rw [e]
    exact hn
  · rename_i h
    rw [List.map_append, List.nodup_append]
    refine ⟨hn, by simp, fun a ha b hb => ?_⟩
    obtain rfl : b = k := by simpa using hb
    obtain ⟨q, hq, rfl⟩ := List.mem_map.1 ha
    have hl : look b m = none := by cases hh : look b m with | none => rfl | some v => rw [hh] at h; exact absurd rfl h
    exact fun e => look_none.1 hl q hq e.symm
theorem CoAt.setBook {W W' : World} {p : Nat} {oa : Option Addr} {oc bp : Nat} {om : Option Nat} {ab : Nat} {c : Cd} (h : CoAt W p oa oc bp om ab c) {m2 : List (Int × En)} {l2 : Int} (hk : Keep (foot bp om) W W') (hb : BookAt W' bp om m2 l2) : CoAt W' p oa oc bp om ab { c with m := m2, last := l2 } := by
  obtain ⟨hpx, hax, hrx, hfx⟩ := h.bookOff
  exact ⟨(hk.block p (lt_of_heap h.blk) hpx).trans h.blk, h.row.keep hk hrx, hb, h.map.keep hk hax, h.ne⟩
theorem CoAt.setCom {W : World} {p : Nat} {oa : Option Addr} {oc bp : Nat} {om : Option Nat} {ab : Nat} {c : Cd} (h : CoAt W p oa oc bp om ab c) (n : Int) : CoAt (W.setCell ⟨p, 5, none⟩ (.int .i64 n)) p oa oc bp om ab { c with com := n } := by
  have hks : Keep [p] W (W.setCell ⟨p, 5, none⟩ (.int .i64 n)) := (Keep.refl _ _).setCell _ _ _ (.inl (by simp))
  have hap := h.ap
  have hb := h.blk
  refine ⟨by simp [World.setCell, Array.getElem?_modify, hb], h.row.keep hks (fun g hg => by have := hap.r_p g hg; simpa using this), h.book.keep hks (fun b hm => ?_), h.map.keep hks (by have := hap.p_ab.symm; simpa using this), h.ne⟩
  simp only [foot, List.mem_cons] at hm
  rcases hm with rfl | hm
  · have := hap.p_bp.symm; simpa using this
  · have := (hap.p_om b (by simpa using hm)).symm; simpa using this
theorem CoAt.setAbo {W : World} {p : Nat} {oa : Option Addr} {oc bp : Nat} {om : Option Nat} {ab : Nat} {c : Cd} (h : CoAt W p oa oc bp om ab c) (n : Int) : CoAt (W.setCell ⟨p, 6, none⟩ (.int .i64 n)) p oa oc bp om ab { c with abo := n } := by
  have hks : Keep [p] W (W.setCell ⟨p, 6, none⟩ (.int .i64 n)) := (Keep.refl _ _).setCell _ _ _ (.inl (by simp))
  have hap := h.ap
  have hb := h.blk
  refine ⟨by simp [World.setCell, Array.getElem?_modify, hb], h.row.keep hks (fun g hg => by have := hap.r_p g hg; simpa using this), h.book.keep hks (fun b hm => ?_), h.map.keep hks (by have := hap.p_ab.symm; simpa using this), h.ne⟩
  simp only [foot, List.mem_cons] at hm
  rcases hm with rfl | hm
  · have := hap.p_bp.symm; simpa using this
  · have := (hap.p_om b (by simpa using hm)).symm; simpa using this
/-- A state in a block. -/
def SaAt (W : World) (b : Nat) (s : Int) (d : Nat) : Prop := W.heap[b]? = some (.cells #[.int .i64 s, .int .i64 d] 76 (0, 0))
theorem SaAt.keep {X : List Nat} {W W' : World} {b : Nat} {s : Int} {d : Nat} (h : SaAt W b s d) (hk : Keep X W W') (hx : b ∉ X) : SaAt W' b s d := (hk.block b (lt_of_heap h) hx).trans h
theorem SaAt.facts {W : World} {b : Nat} {s : Int} {d : Nat} (h : SaAt W b s d) : W.cell? ⟨b, 0, none⟩ = some (.int .i64 s) ∧ W.cell? ⟨b, 1, none⟩ = some (.int .i64 d) ∧ (∀ o, W.frozen? ⟨b, o, none⟩ = false) := by
  unfold SaAt at h
  refine ⟨?_, ?_, fun o => ?_⟩
  all_goals first | (unfold World.cell?; rw [h]; rfl) | (unfold World.frozen?; rw [h]; simp)
theorem beqN (a b : Nat) : ((a : Int) == (b : Int)) = decide (a = b) := by
  by_cases h : a = b
  · subst h; simp
  · rw [decide_eq_false h]
    simp
    omega
theorem bneN (a b : Nat) : (!((a : Int) == (b : Int))) = decide (a ≠ b) := by rw [beqN]; simp
/-- Whom a side's word leaves to be told. -/
def dnF (x : En) (fr : Int) (d : Nat) : Nat := if fr = x.fr then d ||| 1 else if fr = x.to then d ||| 2 else d
def coDone (c : Cd) (x : En) (fr : Int) : Bool × Cd :=
  (decide (dnF x fr (atOf x.mv c.at_).dn ≠ (atOf x.mv c.at_).dn),
    if dnF x fr (atOf x.mv c.at_).dn = 3 then { c with m := del x.part c.m, at_ := del x.mv (put x.mv ⟨(atOf x.mv c.at_).st, 3⟩ c.at_), com := if (atOf x.mv c.at_).st = 2 then c.com + 1 else c.com, abo := if (atOf x.mv c.at_).st = 2 then c.abo else c.abo + 1 }
    else { c with at_ := put x.mv ⟨(atOf x.mv c.at_).st, dnF x fr (atOf x.mv c.at_).dn⟩ c.at_ })
theorem or3 {d : Nat} (h : d ≤ 3) : d ||| 1 ≤ 3 ∧ d ||| 2 ≤ 3 := by
  have : d = 0 ∨ d = 1 ∨ d = 2 ∨ d = 3 := by omega
  rcases this with rfl | rfl | rfl | rfl <;> decide
theorem dnF_le {x : En} {fr : Int} {d : Nat} (h : d ≤ 3) : dnF x fr d ≤ 3 := by
  unfold dnF
  split
  · exact (or3 h).1
  · split
    · exact (or3 h).2
    · exact h
set_option maxRecDepth 100000 in
set_option maxHeartbeats 4000000 in
theorem cdone_any {w : World} {p : Nat} {oa : Option Addr} {oc bp : Nat} {om : Option Nat} {ab : Nat} {c : Cd} (h : CoAt w p oa oc bp om ab c) (hn : (c.m.map (·.1)).Nodup) (hn2 : (c.at_.map (·.1)).Nodup) (hcm : 0 ≤ c.com ∧ c.com ≤ 1000000 ∧ 0 ≤ c.abo ∧ c.abo ≤ 1000000) (x : En) (fr : Int) (hdn : (atOf x.mv c.at_).dn ≤ 3) : Calls Tryz.prog 36 #[.pointer (some ⟨p, 0, none⟩), x.val, .int .i64 fr] w fun e w' => e = .returned (.bool (coDone c x fr).1) ∧ CoN w p (cfoot p oa oc c.own.length bp om ab) w' (coDone c x fr).2 := by
  obtain ⟨x1, x2, x3, x4⟩ := x
  obtain ⟨⟨st, dn⟩, hst⟩ : ∃ s, atOf x1 c.at_ = s := ⟨_, rfl⟩
  simp only at hdn
  rw [hst] at hdn
  simp only at hdn
  have hco : coDone c ⟨x1, x2, x3, x4⟩ fr = (decide (dnF ⟨x1, x2, x3, x4⟩ fr dn ≠ dn), if dnF ⟨x1, x2, x3, x4⟩ fr dn = 3 then { c with m := del x2 c.m, at_ := del x1 (put x1 ⟨st, 3⟩ c.at_), com := if st = 2 then c.com + 1 else c.com, abo := if st = 2 then c.abo else c.abo + 1 } else { c with at_ := put x1 ⟨st, dnF ⟨x1, x2, x3, x4⟩ fr dn⟩ c.at_ }) := by unfold coDone; simp only [hst]
  unfold En.val
  obtain ⟨w1, hw1⟩ : ∃ u, w.alloc (.cells #[.int .i64 x1, .int .i64 x2, .int .i64 x3, .int .i64 x4] 78) = u := ⟨_, rfl⟩
  have k1 : Keep [] w w1 := by rw [← hw1]; exact (Keep.refl _ _).alloc _
  have he : EnAt w1 w.heap.size ⟨x1, x2, x3, x4⟩ := by rw [← hw1]; exact World.alloc_heap_new w _
  have hc1 := h.kept k1
  have HE := Lib.hid he
  have HC := Lib.hid hc1
  have HK1 := Lib.hid k1
  have hpl := lt_of_heap hc1.blk
  have hp0 := h.lt
  have HP0 := Lib.hid hp0
  have hel := lt_of_heap he
  have HST := Lib.hid hst
  have HCO := Lib.hid hco
  have HDL := Lib.hid (dnF_le (x := ⟨x1, x2, x3, x4⟩) (fr := fr) hdn)
  have h1 := or1 hdn
  have h2 := or2 hdn
  clear h k1 he hc1 hco hst hp0
  rw [HCO.out]
  obtain ⟨c1, c2, c3, c4⟩ := hcm
  by_cases hf1 : fr = x3
  · have hd : dnF ⟨x1, x2, x3, x4⟩ fr dn = dn ||| 1 := by unfold dnF; rw [if_pos hf1]
    rw [hd] at HDL ⊢
    subst hf1
    obtain ⟨d2, hd2⟩ : ∃ d2, dn ||| 1 = d2 := ⟨_, rfl⟩
    rw [hd2] at h1 HDL ⊢
    clear hd hd2 h2
    go_enter Tryz.func36, Tryz.ntmps36
    go_wp2_with (fail)
    refine wp_region_soup 8 [] (spOf [(7, Spec.new w1.heap.size #[.int .i64 0, .int .i64 0] 76)]) (by kernel_rfl) (by kernel_rfl) (spOk_of (by simp [Spec.new_ok])) (pre_of (by simp [Spec.new_ok])) ?_
    simp only [List.take_succ_cons, List.take_zero, List.drop_succ_cons, List.drop_zero]
    iterate 3
      with_reducible refine soup_q ?_ ?_ ?_
      · rfl
      · rfl
      with_reducible apply Exists.intro
      with_reducible refine ⟨fun W hk _ => ?_, ?_⟩
      · unfold Oper.same
        go_simp
        first | rfl | exact ⟨rfl, rfl⟩
      with_reducible apply Exists.intro
      with_reducible refine ⟨?_, ?_⟩
      · go_simp
        rfl
    with_reducible refine soup_q ?_ ?_ ?_
    · rfl
    · rfl
    with_reducible apply Exists.intro
    with_reducible refine ⟨fun W hk _ => ?_, ?_⟩
    · have c0 := (HC.out.kept hk).facts.2.2.2.2.1
      unfold Oper.same
      go_simp
      first | rfl | exact ⟨rfl, rfl⟩
    with_reducible apply Exists.intro
    with_reducible refine ⟨?_, ?_⟩
    · go_simp
      rfl
    with_reducible refine soup_q ?_ ?_ ?_
    · rfl
    · rfl
    with_reducible apply Exists.intro
    with_reducible refine ⟨fun W hk _ => ?_, ?_⟩
    · unfold Oper.same
      go_simp
      first | rfl | exact ⟨rfl, rfl⟩
    with_reducible apply Exists.intro
    with_reducible refine ⟨?_, ?_⟩
    · go_simp
      rfl
    with_reducible refine soup_q ?_ ?_ ?_
    · rfl
    · rfl
    with_reducible apply Exists.intro
    with_reducible refine ⟨fun W hk _ => ?_, ?_⟩
    · have c0 := (HE.out.keep hk (by simp)).facts.1
      unfold Oper.same
      go_simp
      first | rfl | exact ⟨rfl, rfl⟩
    with_reducible apply Exists.intro
    with_reducible refine ⟨?_, ?_⟩
    · go_simp
      rfl
    with_reducible refine soup_q ?_ ?_ ?_
    · rfl
    · rfl
    with_reducible apply Exists.intro
    with_reducible refine ⟨fun W hk _ => ?_, ?_⟩
    · have hlk := lookSt (HC.out.kept hk).map x1
      rw [HST.out] at hlk
      unfold Oper.same
      go_simp
      first | rfl | exact ⟨rfl, rfl⟩
    with_reducible apply Exists.intro
    with_reducible refine ⟨?_, ?_⟩
    · go_simp
      rfl
    refine soup_s rfl rfl rfl (fun W hk _ _ => ?_) ?_
    · unfold Oper.does
      go_simp
      exact ⟨(Keep.refl _ _).alloc _, hk.alloc _, ⟨_, rfl, hk.size⟩, _, rfl, hk.size, World.alloc_heap_new W _⟩
    rintro v ⟨g, rfl, hg⟩
    with_reducible apply Exists.intro
    with_reducible refine ⟨?_, ?_⟩
    · go_simp
      rfl
    refine soup_nil (fun W hk hS => ?_)
    obtain ⟨g', e1, e2, e3⟩ := hS 7
    obtain rfl : g = g' := by simpa using e1
    have s0 : W.cell? ⟨g, 0, none⟩ = some (.int .i64 0) := by unfold World.cell?; rw [e3]; rfl
    have s1 : W.cell? ⟨g, 1, none⟩ = some (.int .i64 0) := by unfold World.cell?; rw [e3]; rfl
    have s2 : ∀ o, W.frozen? ⟨g, o, none⟩ = false := fun o => by unfold World.frozen?; rw [e3]; simp
    have hgw : w.heap.size < g := by omega
    have hgp : ∀ b ∈ cfoot p oa oc c.own.length bp om ab, b ≠ g := fun b hb => by have := HP0.out b hb; omega
    obtain ⟨Wa, hWa⟩ : ∃ u, (W.setCell ⟨g, 0, none⟩ (.int .i64 st)).setCell ⟨g, 1, none⟩ (.int .i64 dn) = u := ⟨_, rfl⟩
    have ka : Keep [g] W Wa := by rw [← hWa]; exact ((Keep.refl _ _).setCell _ _ _ (.inl (by simp))).setCell _ _ _ (.inl (by simp))
    have hca : CoAt Wa p oa oc bp om ab c := (HC.out.kept hk).keep ka (fun b hb => by have := hgp b hb; simpa using this)
    have hea := (HE.out.keep hk (by simp)).keep ka (by simp; omega)
    have hsa : SaAt Wa g st dn := by
      unfold SaAt
      rw [← hWa]
      simp [World.setCell, Array.getElem?_modify, e3]
    have hka : Keep [] w Wa := (HK1.out.trans hk).step ka (by simp; omega)
    obtain ⟨q0, q1, q2, q3, q4⟩ := hea.facts
    obtain ⟨r0, r1, r2⟩ := hsa.facts
    have HGP := Lib.hid hgp
    have HC := Lib.hid hca
    have HE := Lib.hid hea
    have HS := Lib.hid hsa
    have HKA := Lib.hid hka
    clear hk hS e1 e2 e3 hgp ka hca hea hsa hka
    go_wp2_with (fail)
    obtain ⟨Wb, hWb⟩ : ∃ u, Wa.setCell ⟨g, 1, none⟩ (.int .i64 d2) = u := ⟨_, rfl⟩
    have kb : Keep [g] Wa Wb := by rw [← hWb]; exact (Keep.refl _ _).setCell _ _ _ (.inl (by simp))
    have hcb : CoAt Wb p oa oc bp om ab c := HC.out.keep kb (fun b hb => by have := HGP.out b hb; simpa using this)
    have heb := HE.out.keep kb (by simp; omega)
    have hsb : SaAt Wb g st d2 := by
      have h := HS.out
      unfold SaAt at h ⊢
      rw [← hWb]
      simp [World.setCell, Array.getElem?_modify, h]
    have hkb : Keep [] w Wb := HKA.out.step kb (by simp; omega)
    rw [hWb]
    have HC := Lib.hid hcb
    have HE := Lib.hid heb
    have HS := Lib.hid hsb
    have HKB := Lib.hid hkb
    clear kb hcb heb hsb hkb hWb hWa q0 q1 q2 q3 q4 r0 r1 r2 s0 s1 s2
    have hpl4 := lt_of_heap HC.out.blk
    have hel4 := lt_of_heap HE.out
    have hsl4 := lt_of_heap HS.out
    by_cases h3 : d2 = 3
    · have h3d := h3
      subst h3
      refine wp_region_soup 7 [] (fun _ => none) (by kernel_rfl) (by kernel_rfl) (spOk_of (l := []) (by simp)) (pre_of (l := []) (by simp)) ?_
      simp only [List.take_succ_cons, List.take_zero, List.drop_succ_cons, List.drop_zero]
      iterate 3
        with_reducible refine soup_q ?_ ?_ ?_
        · rfl
        · rfl
        with_reducible apply Exists.intro
        with_reducible refine ⟨fun W hk _ => ?_, ?_⟩
        · unfold Oper.same
          go_simp
          first | rfl | exact ⟨rfl, rfl⟩
        with_reducible apply Exists.intro
        with_reducible refine ⟨?_, ?_⟩
        · go_simp
          rfl
      with_reducible refine soup_q ?_ ?_ ?_
      · rfl
      · rfl
      with_reducible apply Exists.intro
      with_reducible refine ⟨fun W hk _ => ?_, ?_⟩
      · have c0 := (HC.out.kept hk).facts.2.2.2.2.1
        unfold Oper.same
        go_simp
        first | rfl | exact ⟨rfl, rfl⟩
      with_reducible apply Exists.intro
      with_reducible refine ⟨?_, ?_⟩
      · go_simp
        rfl
      with_reducible refine soup_q ?_ ?_ ?_
      · rfl
      · rfl
      with_reducible apply Exists.intro
      with_reducible refine ⟨fun W hk _ => ?_, ?_⟩
      · unfold Oper.same
        go_simp
        first | rfl | exact ⟨rfl, rfl⟩
      with_reducible apply Exists.intro
      with_reducible refine ⟨?_, ?_⟩
      · go_simp
        rfl
      with_reducible refine soup_q ?_ ?_ ?_
      · rfl
      · rfl
      with_reducible apply Exists.intro
      with_reducible refine ⟨fun W hk _ => ?_, ?_⟩
      · have c0 := (HE.out.keep hk (by simp)).facts.1
        unfold Oper.same
        go_simp
        first | rfl | exact ⟨rfl, rfl⟩
      with_reducible apply Exists.intro
      with_reducible refine ⟨?_, ?_⟩
      · go_simp
        rfl
      with_reducible refine soup_q ?_ ?_ ?_
      · rfl
      · rfl
      with_reducible apply Exists.intro
      with_reducible refine ⟨fun W hk _ => ?_, ?_⟩
      · have c0 := (HS.out.keep hk (by simp)).facts.1
        have c1 : W.cell? ⟨g, 1, none⟩ = some (.int .i64 3) := (HS.out.keep hk (by simp)).facts.2.1
        unfold Oper.same
        go_simp
        first | rfl | exact ⟨rfl, rfl⟩
      with_reducible apply Exists.intro
      with_reducible refine ⟨?_, ?_⟩
      · go_simp
        rfl
      refine soup_nil (fun W hk hS => ?_)
      obtain ⟨o, hup, hmp2⟩ := upSt (HC.out.kept hk).map hn2 x1 st 3 3 rfl
      obtain ⟨W3, hW3⟩ : ∃ u, setBlock W ab o = u := ⟨_, rfl⟩
      have k3 : Keep [ab] W W3 := by rw [← hW3]; exact (Keep.refl _ _).setBlock _ _ (.inl (by simp))
      rw [hW3] at hmp2 hup
      have hc3 := (HC.out.kept hk).setAt k3 hmp2
      have habl := HP0.out ab (by simp [cfoot])
      have he3 := (HE.out.keep hk (by simp)).keep k3 (by simp; omega)
      have hs3 := (HS.out.keep hk (by simp)).keep k3 (by simp; omega)
      have hk3 : Keep [ab] w W3 := ((HKB.out.trans hk).mono (by simp)).trans k3
      obtain ⟨r0, r1, r2⟩ := hs3.facts
      have r1 : W3.cell? ⟨g, 1, none⟩ = some (.int .i64 3) := r1
      have HC := Lib.hid hc3
      have HE := Lib.hid he3
      have HS := Lib.hid hs3
      have HK3 := Lib.hid hk3
      clear hk hS hmp2 k3 hc3 he3 hs3 hk3 hW3
      go_wp2_with (fail)
      have hpl5 := lt_of_heap HC.out.blk
      have hel5 := lt_of_heap HE.out
      refine wp_region_soup 6 [] (fun _ => none) (by kernel_rfl) (by kernel_rfl) (spOk_of (l := []) (by simp)) (pre_of (l := []) (by simp)) ?_
      simp only [List.take_succ_cons, List.take_zero, List.drop_succ_cons, List.drop_zero]
      iterate 3
        with_reducible refine soup_q ?_ ?_ ?_
        · rfl
        · rfl
        with_reducible apply Exists.intro
        with_reducible refine ⟨fun W hk _ => ?_, ?_⟩
        · unfold Oper.same
          go_simp
          first | rfl | exact ⟨rfl, rfl⟩
        with_reducible apply Exists.intro
        with_reducible refine ⟨?_, ?_⟩
        · go_simp
          rfl
      with_reducible refine soup_q ?_ ?_ ?_
      · rfl
      · rfl
      with_reducible apply Exists.intro
      with_reducible refine ⟨fun W hk _ => ?_, ?_⟩
      · have c0 := (HC.out.kept hk).facts.2.2.2.1
        unfold Oper.same
        go_simp
        first | rfl | exact ⟨rfl, rfl⟩
      with_reducible apply Exists.intro
      with_reducible refine ⟨?_, ?_⟩
      · go_simp
        rfl
      with_reducible refine soup_q ?_ ?_ ?_
      · rfl
      · rfl
      with_reducible apply Exists.intro
      with_reducible refine ⟨fun W hk _ => ?_, ?_⟩
      · unfold Oper.same
        go_simp
        first | rfl | exact ⟨rfl, rfl⟩
      with_reducible apply Exists.intro
      with_reducible refine ⟨?_, ?_⟩
      · go_simp
        rfl
      with_reducible refine soup_q ?_ ?_ ?_
      · rfl
      · rfl
      with_reducible apply Exists.intro
      with_reducible refine ⟨fun W hk _ => ?_, ?_⟩
      · have c0 := (HE.out.keep hk (by simp)).facts.2.1
        unfold Oper.same
        go_simp
        first | rfl | exact ⟨rfl, rfl⟩
      with_reducible apply Exists.intro
      with_reducible refine ⟨?_, ?_⟩
      · go_simp
        rfl
      refine soup_nil (fun W hk hS => ?_)
      have hc4 := HC.out.kept hk
      have HE := Lib.hid (HE.out.keep hk (by simp))
      have HS := Lib.hid (HS.out.keep hk (by simp))
      have HK4 := Lib.hid (HK3.out.trans (hk.mono (by simp)))
      have hend := end_book hc4.book hn x2
      have HC := Lib.hid hc4
      have HEND := Lib.hid hend
      clear hk hS hc4 hend r0 r1 r2
      go_wp2_with (fail)
      refine HEND.out.mono ?_
      rintro e w5 ⟨rfl, hbk, hk5⟩
      have hc5 := HC.out.setBook hk5 hbk
      have hfl : ∀ b ∈ foot bp om, b < w.heap.size := fun b hb => HP0.out b (by
        simp only [foot, List.mem_cons] at hb
        simp only [cfoot, List.mem_cons, List.mem_append]
        rcases hb with e | e
        · exact .inr (.inl e)
        · exact .inr (.inr (.inr (.inl e))))
      have he5 := HE.out.keep hk5 (fun hm => by have := hfl _ hm; omega)
      have hs5 := HS.out.keep hk5 (fun hm => by have := hfl _ hm; omega)
      have hk5' : Keep (cfoot p oa oc c.own.length bp om ab) w w5 := (HK4.out.mono (fun y hy => .inl (by have h : y = ab := (by simpa using hy); simp [cfoot, h]))).trans (hk5.mono (fun y hy => .inl (by
        simp only [foot, List.mem_cons] at hy
        simp only [cfoot, List.mem_cons, List.mem_append]
        rcases hy with e | e
        · exact .inr (.inl e)
        · exact .inr (.inr (.inr (.inl e))))))
      have HC := Lib.hid hc5
      have HE := Lib.hid he5
      have HS := Lib.hid hs5
      have HK5 := Lib.hid hk5'
      have hpl6 := lt_of_heap hc5.blk
      have hel6 := lt_of_heap he5
      clear hbk hk5 hc5 hfl he5 hs5 hk5'
      go_wp2_with (fail)
      refine wp_region_soup 6 [] (fun _ => none) (by kernel_rfl) (by kernel_rfl) (spOk_of (l := []) (by simp)) (pre_of (l := []) (by simp)) ?_
      simp only [List.take_succ_cons, List.take_zero, List.drop_succ_cons, List.drop_zero]
      iterate 3
        with_reducible refine soup_q ?_ ?_ ?_
        · rfl
        · rfl
        with_reducible apply Exists.intro
        with_reducible refine ⟨fun W hk _ => ?_, ?_⟩
        · unfold Oper.same
          go_simp
          first | rfl | exact ⟨rfl, rfl⟩
        with_reducible apply Exists.intro
        with_reducible refine ⟨?_, ?_⟩
        · go_simp
          rfl
      with_reducible refine soup_q ?_ ?_ ?_
      · rfl
      · rfl
      with_reducible apply Exists.intro
      with_reducible refine ⟨fun W hk _ => ?_, ?_⟩
      · have c0 := (HC.out.kept hk).facts.2.2.2.2.1
        unfold Oper.same
        go_simp
        first | rfl | exact ⟨rfl, rfl⟩
      with_reducible apply Exists.intro
      with_reducible refine ⟨?_, ?_⟩
      · go_simp
        rfl
      with_reducible refine soup_q ?_ ?_ ?_
      · rfl
      · rfl
      with_reducible apply Exists.intro
      with_reducible refine ⟨fun W hk _ => ?_, ?_⟩
      · unfold Oper.same
        go_simp
        first | rfl | exact ⟨rfl, rfl⟩
      with_reducible apply Exists.intro
      with_reducible refine ⟨?_, ?_⟩
      · go_simp
        rfl
      with_reducible refine soup_q ?_ ?_ ?_
      · rfl
      · rfl
      with_reducible apply Exists.intro
      with_reducible refine ⟨fun W hk _ => ?_, ?_⟩
      · have c0 := (HE.out.keep hk (by simp)).facts.1
        unfold Oper.same
        go_simp
        first | rfl | exact ⟨rfl, rfl⟩
      with_reducible apply Exists.intro
      with_reducible refine ⟨?_, ?_⟩
      · go_simp
        rfl
      refine soup_nil (fun W hk hS => ?_)
      obtain ⟨o2, hdl, hmp3⟩ := run_delete (W := W) Tryz.underlying36 (keyLaw_int Tryz.underlying3) (HC.out.kept hk).map (put_nodup hn2) x1 #[36, 3] rfl 0
      obtain ⟨W6, hW6⟩ : ∃ u, setBlock W ab o2 = u := ⟨_, rfl⟩
      have k6 : Keep [ab] W W6 := by rw [← hW6]; exact (Keep.refl _ _).setBlock _ _ (.inl (by simp))
      rw [hW6] at hmp3 hdl
      have hc6 := (HC.out.kept hk).setAt k6 hmp3
      have hs6 := (HS.out.keep hk (by simp)).keep k6 (by simp; omega)
      have hk6 : Keep (cfoot p oa oc c.own.length bp om ab) w W6 := (HK5.out.trans (hk.mono (by simp))).trans (k6.mono (fun y hy => .inl (by have h : y = ab := (by simpa using hy); simp [cfoot, h])))
      obtain ⟨q0, q1, q2, q3, q4, q5, q6, q7⟩ := hc6.facts
      obtain ⟨r0, r1, r2⟩ := hs6.facts
      have hap6 := hc6.ap
      have hgpp : g ≠ p := by have := HP0.out p (by simp [cfoot]); omega
      have HC := Lib.hid hc6
      have HS := Lib.hid hs6
      have HK6 := Lib.hid hk6
      clear hk hS hmp3 k6 hc6 hs6 hk6 hW6
      by_cases hs2 : st = 2
      · have hs2i : ((st : Int) == 2) = true := by simpa using hs2
        have t1 : (W6.setCell ⟨p, 5, none⟩ (.int .i64 (c.com + 1))).cell? ⟨g, 1, none⟩ = some (.int .i64 3) := (World.cell?_of_block (by simp [World.setCell, Array.getElem?_modify, Ne.symm hgpp])).trans r1
        go_wp2_with (fail)
        go_ret
        refine ⟨?_, ?_⟩
        · first | exact congrArg (fun z => Ending.returned (Value.bool (!z))) (beqN 3 dn) | exact congrArg (fun z => Ending.returned (Value.bool z)) (bneN 3 dn) | rfl
        · subst hs2
          exact CoN.of (HC.out.setCom _) (HK6.out.setCell _ _ _ (.inl (by simp [cfoot]))) (fun b hb => .inl hb) (fun b hb => .inl hb)
      · have hs2i : ((st : Int) == 2) = false := by simpa using hs2
        have t1 : (W6.setCell ⟨p, 6, none⟩ (.int .i64 (c.abo + 1))).cell? ⟨g, 1, none⟩ = some (.int .i64 3) := (World.cell?_of_block (by simp [World.setCell, Array.getElem?_modify, Ne.symm hgpp])).trans r1
        go_wp2_with (fail)
        go_ret
        refine ⟨?_, ?_⟩
        · first | exact congrArg (fun z => Ending.returned (Value.bool (!z))) (beqN 3 dn) | exact congrArg (fun z => Ending.returned (Value.bool z)) (bneN 3 dn) | rfl
        · exact CoN.of (HC.out.setAbo _) (HK6.out.setCell _ _ _ (.inl (by simp [cfoot]))) (fun b hb => .inl hb) (fun b hb => .inl hb)
    · have h3i : ((d2 : Int) == 3) = false := by simp; omega
      refine wp_region_soup 7 [] (fun _ => none) (by kernel_rfl) (by kernel_rfl) (spOk_of (l := []) (by simp)) (pre_of (l := []) (by simp)) ?_
      simp only [List.take_succ_cons, List.take_zero, List.drop_succ_cons, List.drop_zero]
      iterate 3
        with_reducible refine soup_q ?_ ?_ ?_
        · rfl
        · rfl
        with_reducible apply Exists.intro
        with_reducible refine ⟨fun W hk _ => ?_, ?_⟩
        · unfold Oper.same
          go_simp
          first | rfl | exact ⟨rfl, rfl⟩
        with_reducible apply Exists.intro
        with_reducible refine ⟨?_, ?_⟩
        · go_simp
          rfl
      with_reducible refine soup_q ?_ ?_ ?_
      · rfl
      · rfl
      with_reducible apply Exists.intro
      with_reducible refine ⟨fun W hk _ => ?_, ?_⟩
      · have c0 := (HC.out.kept hk).facts.2.2.2.2.1
        unfold Oper.same
        go_simp
        first | rfl | exact ⟨rfl, rfl⟩
      with_reducible apply Exists.intro
      with_reducible refine ⟨?_, ?_⟩
      · go_simp
        rfl
      with_reducible refine soup_q ?_ ?_ ?_
      · rfl
      · rfl
      with_reducible apply Exists.intro
      with_reducible refine ⟨fun W hk _ => ?_, ?_⟩
      · unfold Oper.same
        go_simp
        first | rfl | exact ⟨rfl, rfl⟩
      with_reducible apply Exists.intro
      with_reducible refine ⟨?_, ?_⟩
      · go_simp
        rfl
      with_reducible refine soup_q ?_ ?_ ?_
      · rfl
      · rfl
      with_reducible apply Exists.intro
      with_reducible refine ⟨fun W hk _ => ?_, ?_⟩
      · have c0 := (HE.out.keep hk (by simp)).facts.1
        unfold Oper.same
        go_simp
        first | rfl | exact ⟨rfl, rfl⟩
      with_reducible apply Exists.intro
      with_reducible refine ⟨?_, ?_⟩
      · go_simp
        rfl
      with_reducible refine soup_q ?_ ?_ ?_
      · rfl
      · rfl
      with_reducible apply Exists.intro
      with_reducible refine ⟨fun W hk _ => ?_, ?_⟩
      · have c0 := (HS.out.keep hk (by simp)).facts.1
        have c1 := (HS.out.keep hk (by simp)).facts.2.1
        unfold Oper.same
        go_simp
        first | rfl | exact ⟨rfl, rfl⟩
      with_reducible apply Exists.intro
      with_reducible refine ⟨?_, ?_⟩
      · go_simp
        rfl
      refine soup_nil (fun W hk hS => ?_)
      obtain ⟨o, hup, hmp2⟩ := upSt (HC.out.kept hk).map hn2 x1 st d2 (d2 : Int) rfl
      obtain ⟨W3, hW3⟩ : ∃ u, setBlock W ab o = u := ⟨_, rfl⟩
      have k3 : Keep [ab] W W3 := by rw [← hW3]; exact (Keep.refl _ _).setBlock _ _ (.inl (by simp))
      rw [hW3] at hmp2 hup
      have hc3 := (HC.out.kept hk).setAt k3 hmp2
      have habl := HP0.out ab (by simp [cfoot])
      have he3 := (HE.out.keep hk (by simp)).keep k3 (by simp; omega)
      have hs3 := (HS.out.keep hk (by simp)).keep k3 (by simp; omega)
      have hk3 : Keep [ab] w W3 := ((HKB.out.trans hk).mono (by simp)).trans k3
      obtain ⟨r0, r1, r2⟩ := hs3.facts
      have r1 : W3.cell? ⟨g, 1, none⟩ = some (.int .i64 (d2 : Int)) := r1
      have HC := Lib.hid hc3
      have HE := Lib.hid he3
      have HS := Lib.hid hs3
      have HK3 := Lib.hid hk3
      clear hk hS hmp2 k3 hc3 he3 hs3 hk3 hW3
      go_wp2_with (fail)
      go_ret
      refine ⟨?_, ?_⟩
      · first | exact congrArg (fun z => Ending.returned (Value.bool (!z))) (beqN d2 dn) | exact congrArg (fun z => Ending.returned (Value.bool z)) (bneN d2 dn) | simp | rfl
      · exact CoN.of HC.out (HK3.out.mono (fun y hy => .inl (by have h : y = ab := (by simpa using hy); simp [cfoot, h]))) (fun b hb => .inl hb) (fun b hb => .inl hb)
  · have hg1 : ((fr : Int) == x3) = false := by simpa using hf1
    by_cases hf2 : fr = x4
    · have hd : dnF ⟨x1, x2, x3, x4⟩ fr dn = dn ||| 2 := by unfold dnF; rw [if_neg hf1, if_pos hf2]
      rw [hd] at HDL ⊢
      subst hf2
      obtain ⟨d2, hd2⟩ : ∃ d2, dn ||| 2 = d2 := ⟨_, rfl⟩
      rw [hd2] at h2 HDL ⊢
      clear hd hd2 h1 hf1
      go_enter Tryz.func36, Tryz.ntmps36
      go_wp2_with (fail)
      refine wp_region_soup 8 [] (spOf [(7, Spec.new w1.heap.size #[.int .i64 0, .int .i64 0] 76)]) (by kernel_rfl) (by kernel_rfl) (spOk_of (by simp [Spec.new_ok])) (pre_of (by simp [Spec.new_ok])) ?_
      simp only [List.take_succ_cons, List.take_zero, List.drop_succ_cons, List.drop_zero]
      iterate 3
        with_reducible refine soup_q ?_ ?_ ?_
        · rfl
        · rfl
        with_reducible apply Exists.intro
        with_reducible refine ⟨fun W hk _ => ?_, ?_⟩
        · unfold Oper.same
          go_simp
          first | rfl | exact ⟨rfl, rfl⟩
        with_reducible apply Exists.intro
        with_reducible refine ⟨?_, ?_⟩
        · go_simp
          rfl
      with_reducible refine soup_q ?_ ?_ ?_
      · rfl
      · rfl
      with_reducible apply Exists.intro
      with_reducible refine ⟨fun W hk _ => ?_, ?_⟩
      · have c0 := (HC.out.kept hk).facts.2.2.2.2.1
        unfold Oper.same
        go_simp
        first | rfl | exact ⟨rfl, rfl⟩
      with_reducible apply Exists.intro
      with_reducible refine ⟨?_, ?_⟩
      · go_simp
        rfl
      with_reducible refine soup_q ?_ ?_ ?_
      · rfl
      · rfl
      with_reducible apply Exists.intro
      with_reducible refine ⟨fun W hk _ => ?_, ?_⟩
      · unfold Oper.same
        go_simp
        first | rfl | exact ⟨rfl, rfl⟩
      with_reducible apply Exists.intro
      with_reducible refine ⟨?_, ?_⟩
      · go_simp
        rfl
      with_reducible refine soup_q ?_ ?_ ?_
      · rfl
      · rfl
      with_reducible apply Exists.intro
      with_reducible refine ⟨fun W hk _ => ?_, ?_⟩
      · have c0 := (HE.out.keep hk (by simp)).facts.1
        unfold Oper.same
        go_simp
        first | rfl | exact ⟨rfl, rfl⟩
      with_reducible apply Exists.intro
      with_reducible refine ⟨?_, ?_⟩
      · go_simp
        rfl
      with_reducible refine soup_q ?_ ?_ ?_
      · rfl
      · rfl
      with_reducible apply Exists.intro
      with_reducible refine ⟨fun W hk _ => ?_, ?_⟩
      · have hlk := lookSt (HC.out.kept hk).map x1
        rw [HST.out] at hlk
        unfold Oper.same
        go_simp
        first | rfl | exact ⟨rfl, rfl⟩
      with_reducible apply Exists.intro
      with_reducible refine ⟨?_, ?_⟩
      · go_simp
        rfl
      refine soup_s rfl rfl rfl (fun W hk _ _ => ?_) ?_
      · unfold Oper.does
        go_simp
        exact ⟨(Keep.refl _ _).alloc _, hk.alloc _, ⟨_, rfl, hk.size⟩, _, rfl, hk.size, World.alloc_heap_new W _⟩
      rintro v ⟨g, rfl, hg⟩
      with_reducible apply Exists.intro
      with_reducible refine ⟨?_, ?_⟩
      · go_simp
        rfl
      refine soup_nil (fun W hk hS => ?_)
      obtain ⟨g', e1, e2, e3⟩ := hS 7
      obtain rfl : g = g' := by simpa using e1
      have s0 : W.cell? ⟨g, 0, none⟩ = some (.int .i64 0) := by unfold World.cell?; rw [e3]; rfl
      have s1 : W.cell? ⟨g, 1, none⟩ = some (.int .i64 0) := by unfold World.cell?; rw [e3]; rfl
      have s2 : ∀ o, W.frozen? ⟨g, o, none⟩ = false := fun o => by unfold World.frozen?; rw [e3]; simp
      have hgw : w.heap.size < g := by omega
      have hgp : ∀ b ∈ cfoot p oa oc c.own.length bp om ab, b ≠ g := fun b hb => by have := HP0.out b hb; omega
      obtain ⟨Wa, hWa⟩ : ∃ u, (W.setCell ⟨g, 0, none⟩ (.int .i64 st)).setCell ⟨g, 1, none⟩ (.int .i64 dn) = u := ⟨_, rfl⟩
      have ka : Keep [g] W Wa := by rw [← hWa]; exact ((Keep.refl _ _).setCell _ _ _ (.inl (by simp))).setCell _ _ _ (.inl (by simp))
      have hca : CoAt Wa p oa oc bp om ab c := (HC.out.kept hk).keep ka (fun b hb => by have := hgp b hb; simpa using this)
      have hea := (HE.out.keep hk (by simp)).keep ka (by simp; omega)
      have hsa : SaAt Wa g st dn := by
        unfold SaAt
        rw [← hWa]
        simp [World.setCell, Array.getElem?_modify, e3]
      have hka : Keep [] w Wa := (HK1.out.trans hk).step ka (by simp; omega)
      obtain ⟨q0, q1, q2, q3, q4⟩ := hea.facts
      obtain ⟨r0, r1, r2⟩ := hsa.facts
      have HGP := Lib.hid hgp
      have HC := Lib.hid hca
      have HE := Lib.hid hea
      have HS := Lib.hid hsa
      have HKA := Lib.hid hka
      clear hk hS e1 e2 e3 hgp ka hca hea hsa hka
      go_wp2_with (fail)
      obtain ⟨Wb, hWb⟩ : ∃ u, Wa.setCell ⟨g, 1, none⟩ (.int .i64 d2) = u := ⟨_, rfl⟩
      have kb : Keep [g] Wa Wb := by rw [← hWb]; exact (Keep.refl _ _).setCell _ _ _ (.inl (by simp))
      have hcb : CoAt Wb p oa oc bp om ab c := HC.out.keep kb (fun b hb => by have := HGP.out b hb; simpa using this)
      have heb := HE.out.keep kb (by simp; omega)
      have hsb : SaAt Wb g st d2 := by
        have h := HS.out
        unfold SaAt at h ⊢
        rw [← hWb]
        simp [World.setCell, Array.getElem?_modify, h]
      have hkb : Keep [] w Wb := HKA.out.step kb (by simp; omega)
      rw [hWb]
      have HC := Lib.hid hcb
      have HE := Lib.hid heb
      have HS := Lib.hid hsb
      have HKB := Lib.hid hkb
      clear kb hcb heb hsb hkb hWb hWa q0 q1 q2 q3 q4 r0 r1 r2 s0 s1 s2
      have hpl4 := lt_of_heap HC.out.blk
      have hel4 := lt_of_heap HE.out
      have hsl4 := lt_of_heap HS.out
      by_cases h3 : d2 = 3
      · have h3d := h3
        subst h3
        refine wp_region_soup 7 [] (fun _ => none) (by kernel_rfl) (by kernel_rfl) (spOk_of (l := []) (by simp)) (pre_of (l := []) (by simp)) ?_
        simp only [List.take_succ_cons, List.take_zero, List.drop_succ_cons, List.drop_zero]
        iterate 3
          with_reducible refine soup_q ?_ ?_ ?_
          · rfl
          · rfl
          with_reducible apply Exists.intro
          with_reducible refine ⟨fun W hk _ => ?_, ?_⟩
          · unfold Oper.same
            go_simp
            first | rfl | exact ⟨rfl, rfl⟩
          with_reducible apply Exists.intro
          with_reducible refine ⟨?_, ?_⟩
          · go_simp
            rfl
        with_reducible refine soup_q ?_ ?_ ?_
        · rfl
        · rfl
        with_reducible apply Exists.intro
        with_reducible refine ⟨fun W hk _ => ?_, ?_⟩
        · have c0 := (HC.out.kept hk).facts.2.2.2.2.1
          unfold Oper.same
          go_simp
          first | rfl | exact ⟨rfl, rfl⟩
        with_reducible apply Exists.intro
        with_reducible refine ⟨?_, ?_⟩
        · go_simp
          rfl
        with_reducible refine soup_q ?_ ?_ ?_
        · rfl
        · rfl
        with_reducible apply Exists.intro
        with_reducible refine ⟨fun W hk _ => ?_, ?_⟩
        · unfold Oper.same
          go_simp
          first | rfl | exact ⟨rfl, rfl⟩
        with_reducible apply Exists.intro
        with_reducible refine ⟨?_, ?_⟩
        · go_simp
          rfl
        with_reducible refine soup_q ?_ ?_ ?_
        · rfl
        · rfl
        with_reducible apply Exists.intro
        with_reducible refine ⟨fun W hk _ => ?_, ?_⟩
        · have c0 := (HE.out.keep hk (by simp)).facts.1
          unfold Oper.same
          go_simp
          first | rfl | exact ⟨rfl, rfl⟩
        with_reducible apply Exists.intro
        with_reducible refine ⟨?_, ?_⟩
        · go_simp
          rfl
        with_reducible refine soup_q ?_ ?_ ?_
        · rfl
        · rfl
        with_reducible apply Exists.intro
        with_reducible refine ⟨fun W hk _ => ?_, ?_⟩
        · have c0 := (HS.out.keep hk (by simp)).facts.1
          have c1 : W.cell? ⟨g, 1, none⟩ = some (.int .i64 3) := (HS.out.keep hk (by simp)).facts.2.1
          unfold Oper.same
          go_simp
          first | rfl | exact ⟨rfl, rfl⟩
        with_reducible apply Exists.intro
        with_reducible refine ⟨?_, ?_⟩
        · go_simp
          rfl
        refine soup_nil (fun W hk hS => ?_)
        obtain ⟨o, hup, hmp2⟩ := upSt (HC.out.kept hk).map hn2 x1 st 3 3 rfl
        obtain ⟨W3, hW3⟩ : ∃ u, setBlock W ab o = u := ⟨_, rfl⟩
        have k3 : Keep [ab] W W3 := by rw [← hW3]; exact (Keep.refl _ _).setBlock _ _ (.inl (by simp))
        rw [hW3] at hmp2 hup
        have hc3 := (HC.out.kept hk).setAt k3 hmp2
        have habl := HP0.out ab (by simp [cfoot])
        have he3 := (HE.out.keep hk (by simp)).keep k3 (by simp; omega)
        have hs3 := (HS.out.keep hk (by simp)).keep k3 (by simp; omega)
        have hk3 : Keep [ab] w W3 := ((HKB.out.trans hk).mono (by simp)).trans k3
        obtain ⟨r0, r1, r2⟩ := hs3.facts
        have r1 : W3.cell? ⟨g, 1, none⟩ = some (.int .i64 3) := r1
        have HC := Lib.hid hc3
        have HE := Lib.hid he3
        have HS := Lib.hid hs3
        have HK3 := Lib.hid hk3
        clear hk hS hmp2 k3 hc3 he3 hs3 hk3 hW3
        go_wp2_with (fail)
        have hpl5 := lt_of_heap HC.out.blk
        have hel5 := lt_of_heap HE.out
        refine wp_region_soup 6 [] (fun _ => none) (by kernel_rfl) (by kernel_rfl) (spOk_of (l := []) (by simp)) (pre_of (l := []) (by simp)) ?_
        simp only [List.take_succ_cons, List.take_zero, List.drop_succ_cons, List.drop_zero]
        iterate 3
          with_reducible refine soup_q ?_ ?_ ?_
          · rfl
          · rfl
          with_reducible apply Exists.intro
          with_reducible refine ⟨fun W hk _ => ?_, ?_⟩
          · unfold Oper.same
            go_simp
            first | rfl | exact ⟨rfl, rfl⟩
          with_reducible apply Exists.intro
          with_reducible refine ⟨?_, ?_⟩
          · go_simp
            rfl
        with_reducible refine soup_q ?_ ?_ ?_
        · rfl
        · rfl
        with_reducible apply Exists.intro
        with_reducible refine ⟨fun W hk _ => ?_, ?_⟩
        · have c0 := (HC.out.kept hk).facts.2.2.2.1
          unfold Oper.same
          go_simp
          first | rfl | exact ⟨rfl, rfl⟩
        with_reducible apply Exists.intro
        with_reducible refine ⟨?_, ?_⟩
        · go_simp
          rfl
        with_reducible refine soup_q ?_ ?_ ?_
        · rfl
        · rfl
        with_reducible apply Exists.intro
        with_reducible refine ⟨fun W hk _ => ?_, ?_⟩
        · unfold Oper.same
          go_simp
          first | rfl | exact ⟨rfl, rfl⟩
        with_reducible apply Exists.intro
        with_reducible refine ⟨?_, ?_⟩
        · go_simp
          rfl
        with_reducible refine soup_q ?_ ?_ ?_
        · rfl
        · rfl
        with_reducible apply Exists.intro
        with_reducible refine ⟨fun W hk _ => ?_, ?_⟩
        · have c0 := (HE.out.keep hk (by simp)).facts.2.1
          unfold Oper.same
          go_simp
          first | rfl | exact ⟨rfl, rfl⟩
        with_reducible apply Exists.intro
        with_reducible refine ⟨?_, ?_⟩
        · go_simp
          rfl
        refine soup_nil (fun W hk hS => ?_)
        have hc4 := HC.out.kept hk
        have HE := Lib.hid (HE.out.keep hk (by simp))
        have HS := Lib.hid (HS.out.keep hk (by simp))
        have HK4 := Lib.hid (HK3.out.trans (hk.mono (by simp)))
        have hend := end_book hc4.book hn x2
        have HC := Lib.hid hc4
        have HEND := Lib.hid hend
        clear hk hS hc4 hend r0 r1 r2
        go_wp2_with (fail)
        refine HEND.out.mono ?_
        rintro e w5 ⟨rfl, hbk, hk5⟩
        have hc5 := HC.out.setBook hk5 hbk
        have hfl : ∀ b ∈ foot bp om, b < w.heap.size := fun b hb => HP0.out b (by
          simp only [foot, List.mem_cons] at hb
          simp only [cfoot, List.mem_cons, List.mem_append]
          rcases hb with e | e
          · exact .inr (.inl e)
          · exact .inr (.inr (.inr (.inl e))))
        have he5 := HE.out.keep hk5 (fun hm => by have := hfl _ hm; omega)
        have hs5 := HS.out.keep hk5 (fun hm => by have := hfl _ hm; omega)
        have hk5' : Keep (cfoot p oa oc c.own.length bp om ab) w w5 := (HK4.out.mono (fun y hy => .inl (by have h : y = ab := (by simpa using hy); simp [cfoot, h]))).trans (hk5.mono (fun y hy => .inl (by
          simp only [foot, List.mem_cons] at hy
          simp only [cfoot, List.mem_cons, List.mem_append]
          rcases hy with e | e
          · exact .inr (.inl e)
          · exact .inr (.inr (.inr (.inl e))))))
        have HC := Lib.hid hc5
        have HE := Lib.hid he5
        have HS := Lib.hid hs5
        have HK5 := Lib.hid hk5'
        have hpl6 := lt_of_heap hc5.blk
        have hel6 := lt_of_heap he5
        clear hbk hk5 hc5 hfl he5 hs5 hk5'
        go_wp2_with (fail)
        refine wp_region_soup 6 [] (fun _ => none) (by kernel_rfl) (by kernel_rfl) (spOk_of (l := []) (by simp)) (pre_of (l := []) (by simp)) ?_
        simp only [List.take_succ_cons, List.take_zero, List.drop_succ_cons, List.drop_zero]
        iterate 3
          with_reducible refine soup_q ?_ ?_ ?_
          · rfl
          · rfl
          with_reducible apply Exists.intro
          with_reducible refine ⟨fun W hk _ => ?_, ?_⟩
          · unfold Oper.same
            go_simp
            first | rfl | exact ⟨rfl, rfl⟩
          with_reducible apply Exists.intro
          with_reducible refine ⟨?_, ?_⟩
          · go_simp
            rfl
        with_reducible refine soup_q ?_ ?_ ?_
        · rfl
        · rfl
        with_reducible apply Exists.intro
        with_reducible refine ⟨fun W hk _ => ?_, ?_⟩
        · have c0 := (HC.out.kept hk).facts.2.2.2.2.1
          unfold Oper.same
          go_simp
          first | rfl | exact ⟨rfl, rfl⟩
        with_reducible apply Exists.intro
        with_reducible refine ⟨?_, ?_⟩
        · go_simp
          rfl
        with_reducible refine soup_q ?_ ?_ ?_
        · rfl
        · rfl
        with_reducible apply Exists.intro
        with_reducible refine ⟨fun W hk _ => ?_, ?_⟩
        · unfold Oper.same
          go_simp
          first | rfl | exact ⟨rfl, rfl⟩
        with_reducible apply Exists.intro
        with_reducible refine ⟨?_, ?_⟩
        · go_simp
          rfl
        with_reducible refine soup_q ?_ ?_ ?_
        · rfl
        · rfl
        with_reducible apply Exists.intro
        with_reducible refine ⟨fun W hk _ => ?_, ?_⟩
        · have c0 := (HE.out.keep hk (by simp)).facts.1
          unfold Oper.same
          go_simp
          first | rfl | exact ⟨rfl, rfl⟩
        with_reducible apply Exists.intro
        with_reducible refine ⟨?_, ?_⟩
        · go_simp
          rfl
        refine soup_nil (fun W hk hS => ?_)
        obtain ⟨o2, hdl, hmp3⟩ := run_delete (W := W) Tryz.underlying36 (keyLaw_int Tryz.underlying3) (HC.out.kept hk).map (put_nodup hn2) x1 #[36, 3] rfl 0
        obtain ⟨W6, hW6⟩ : ∃ u, setBlock W ab o2 = u := ⟨_, rfl⟩
        have k6 : Keep [ab] W W6 := by rw [← hW6]; exact (Keep.refl _ _).setBlock _ _ (.inl (by simp))
        rw [hW6] at hmp3 hdl
        have hc6 := (HC.out.kept hk).setAt k6 hmp3
        have hs6 := (HS.out.keep hk (by simp)).keep k6 (by simp; omega)
        have hk6 : Keep (cfoot p oa oc c.own.length bp om ab) w W6 := (HK5.out.trans (hk.mono (by simp))).trans (k6.mono (fun y hy => .inl (by have h : y = ab := (by simpa using hy); simp [cfoot, h])))
        obtain ⟨q0, q1, q2, q3, q4, q5, q6, q7⟩ := hc6.facts
        obtain ⟨r0, r1, r2⟩ := hs6.facts
        have hap6 := hc6.ap
        have hgpp : g ≠ p := by have := HP0.out p (by simp [cfoot]); omega
        have HC := Lib.hid hc6
        have HS := Lib.hid hs6
        have HK6 := Lib.hid hk6
        clear hk hS hmp3 k6 hc6 hs6 hk6 hW6
        by_cases hs2 : st = 2
        · have hs2i : ((st : Int) == 2) = true := by simpa using hs2
          have t1 : (W6.setCell ⟨p, 5, none⟩ (.int .i64 (c.com + 1))).cell? ⟨g, 1, none⟩ = some (.int .i64 3) := (World.cell?_of_block (by simp [World.setCell, Array.getElem?_modify, Ne.symm hgpp])).trans r1
          go_wp2_with (fail)
          go_ret
          refine ⟨?_, ?_⟩
          · first | exact congrArg (fun z => Ending.returned (Value.bool (!z))) (beqN 3 dn) | exact congrArg (fun z => Ending.returned (Value.bool z)) (bneN 3 dn) | rfl
          · subst hs2
            exact CoN.of (HC.out.setCom _) (HK6.out.setCell _ _ _ (.inl (by simp [cfoot]))) (fun b hb => .inl hb) (fun b hb => .inl hb)
        · have hs2i : ((st : Int) == 2) = false := by simpa using hs2
          have t1 : (W6.setCell ⟨p, 6, none⟩ (.int .i64 (c.abo + 1))).cell? ⟨g, 1, none⟩ = some (.int .i64 3) := (World.cell?_of_block (by simp [World.setCell, Array.getElem?_modify, Ne.symm hgpp])).trans r1
          go_wp2_with (fail)
          go_ret
          refine ⟨?_, ?_⟩
          · first | exact congrArg (fun z => Ending.returned (Value.bool (!z))) (beqN 3 dn) | exact congrArg (fun z => Ending.returned (Value.bool z)) (bneN 3 dn) | rfl
          · exact CoN.of (HC.out.setAbo _) (HK6.out.setCell _ _ _ (.inl (by simp [cfoot]))) (fun b hb => .inl hb) (fun b hb => .inl hb)
      · have h3i : ((d2 : Int) == 3) = false := by simp; omega
        refine wp_region_soup 7 [] (fun _ => none) (by kernel_rfl) (by kernel_rfl) (spOk_of (l := []) (by simp)) (pre_of (l := []) (by simp)) ?_
        simp only [List.take_succ_cons, List.take_zero, List.drop_succ_cons, List.drop_zero]
        iterate 3
          with_reducible refine soup_q ?_ ?_ ?_
          · rfl
          · rfl
          with_reducible apply Exists.intro
          with_reducible refine ⟨fun W hk _ => ?_, ?_⟩
          · unfold Oper.same
            go_simp
            first | rfl | exact ⟨rfl, rfl⟩
          with_reducible apply Exists.intro
          with_reducible refine ⟨?_, ?_⟩
          · go_simp
            rfl
        with_reducible refine soup_q ?_ ?_ ?_
        · rfl
        · rfl
        with_reducible apply Exists.intro
        with_reducible refine ⟨fun W hk _ => ?_, ?_⟩
        · have c0 := (HC.out.kept hk).facts.2.2.2.2.1
          unfold Oper.same
          go_simp
          first | rfl | exact ⟨rfl, rfl⟩
        with_reducible apply Exists.intro
        with_reducible refine ⟨?_, ?_⟩
        · go_simp
          rfl
        with_reducible refine soup_q ?_ ?_ ?_
        · rfl
        · rfl
        with_reducible apply Exists.intro
        with_reducible refine ⟨fun W hk _ => ?_, ?_⟩
        · unfold Oper.same
          go_simp
          first | rfl | exact ⟨rfl, rfl⟩
        with_reducible apply Exists.intro
        with_reducible refine ⟨?_, ?_⟩
        · go_simp
          rfl
        with_reducible refine soup_q ?_ ?_ ?_
        · rfl
        · rfl
        with_reducible apply Exists.intro
        with_reducible refine ⟨fun W hk _ => ?_, ?_⟩
        · have c0 := (HE.out.keep hk (by simp)).facts.1
          unfold Oper.same
          go_simp
          first | rfl | exact ⟨rfl, rfl⟩
        with_reducible apply Exists.intro
        with_reducible refine ⟨?_, ?_⟩
        · go_simp
          rfl
        with_reducible refine soup_q ?_ ?_ ?_
        · rfl
        · rfl
        with_reducible apply Exists.intro
        with_reducible refine ⟨fun W hk _ => ?_, ?_⟩
        · have c0 := (HS.out.keep hk (by simp)).facts.1
          have c1 := (HS.out.keep hk (by simp)).facts.2.1
          unfold Oper.same
          go_simp
          first | rfl | exact ⟨rfl, rfl⟩
        with_reducible apply Exists.intro
        with_reducible refine ⟨?_, ?_⟩
        · go_simp
          rfl
        refine soup_nil (fun W hk hS => ?_)
        obtain ⟨o, hup, hmp2⟩ := upSt (HC.out.kept hk).map hn2 x1 st d2 (d2 : Int) rfl
        obtain ⟨W3, hW3⟩ : ∃ u, setBlock W ab o = u := ⟨_, rfl⟩
        have k3 : Keep [ab] W W3 := by rw [← hW3]; exact (Keep.refl _ _).setBlock _ _ (.inl (by simp))
        rw [hW3] at hmp2 hup
        have hc3 := (HC.out.kept hk).setAt k3 hmp2
        have habl := HP0.out ab (by simp [cfoot])
        have he3 := (HE.out.keep hk (by simp)).keep k3 (by simp; omega)
        have hs3 := (HS.out.keep hk (by simp)).keep k3 (by simp; omega)
        have hk3 : Keep [ab] w W3 := ((HKB.out.trans hk).mono (by simp)).trans k3
        obtain ⟨r0, r1, r2⟩ := hs3.facts
        have r1 : W3.cell? ⟨g, 1, none⟩ = some (.int .i64 (d2 : Int)) := r1
        have HC := Lib.hid hc3
        have HE := Lib.hid he3
        have HS := Lib.hid hs3
        have HK3 := Lib.hid hk3
        clear hk hS hmp2 k3 hc3 he3 hs3 hk3 hW3
        go_wp2_with (fail)
        go_ret
        refine ⟨?_, ?_⟩
        · first | exact congrArg (fun z => Ending.returned (Value.bool (!z))) (beqN d2 dn) | exact congrArg (fun z => Ending.returned (Value.bool z)) (bneN d2 dn) | simp | rfl
        · exact CoN.of HC.out (HK3.out.mono (fun y hy => .inl (by have h : y = ab := (by simpa using hy); simp [cfoot, h]))) (fun b hb => .inl hb) (fun b hb => .inl hb)
    · have hd : dnF ⟨x1, x2, x3, x4⟩ fr dn = dn := by unfold dnF; rw [if_neg hf1, if_neg hf2]
      have hg2 : ((fr : Int) == x4) = false := by simpa using hf2
      rw [hd] at HDL ⊢
      clear hd h1 h2 hf1 hf2
      go_enter Tryz.func36, Tryz.ntmps36
      go_wp2_with (fail)
      refine wp_region_soup 8 [] (spOf [(7, Spec.new w1.heap.size #[.int .i64 0, .int .i64 0] 76)]) (by kernel_rfl) (by kernel_rfl) (spOk_of (by simp [Spec.new_ok])) (pre_of (by simp [Spec.new_ok])) ?_
      simp only [List.take_succ_cons, List.take_zero, List.drop_succ_cons, List.drop_zero]
      iterate 3
        with_reducible refine soup_q ?_ ?_ ?_
        · rfl
        · rfl
        with_reducible apply Exists.intro
        with_reducible refine ⟨fun W hk _ => ?_, ?_⟩
        · unfold Oper.same
          go_simp
          first | rfl | exact ⟨rfl, rfl⟩
        with_reducible apply Exists.intro
        with_reducible refine ⟨?_, ?_⟩
        · go_simp
          rfl
      with_reducible refine soup_q ?_ ?_ ?_
      · rfl
      · rfl
      with_reducible apply Exists.intro
      with_reducible refine ⟨fun W hk _ => ?_, ?_⟩
      · have c0 := (HC.out.kept hk).facts.2.2.2.2.1
        unfold Oper.same
        go_simp
        first | rfl | exact ⟨rfl, rfl⟩
      with_reducible apply Exists.intro
      with_reducible refine ⟨?_, ?_⟩
      · go_simp
        rfl
      with_reducible refine soup_q ?_ ?_ ?_
      · rfl
      · rfl
      with_reducible apply Exists.intro
      with_reducible refine ⟨fun W hk _ => ?_, ?_⟩
      · unfold Oper.same
        go_simp
        first | rfl | exact ⟨rfl, rfl⟩
      with_reducible apply Exists.intro
      with_reducible refine ⟨?_, ?_⟩
      · go_simp
        rfl
      with_reducible refine soup_q ?_ ?_ ?_
      · rfl
      · rfl
      with_reducible apply Exists.intro
      with_reducible refine ⟨fun W hk _ => ?_, ?_⟩
      · have c0 := (HE.out.keep hk (by simp)).facts.1
        unfold Oper.same
        go_simp
        first | rfl | exact ⟨rfl, rfl⟩
      with_reducible apply Exists.intro
      with_reducible refine ⟨?_, ?_⟩
      · go_simp
        rfl
      with_reducible refine soup_q ?_ ?_ ?_
      · rfl
      · rfl
      with_reducible apply Exists.intro
      with_reducible refine ⟨fun W hk _ => ?_, ?_⟩
      · have hlk := lookSt (HC.out.kept hk).map x1
        rw [HST.out] at hlk
        unfold Oper.same
        go_simp
        first | rfl | exact ⟨rfl, rfl⟩
      with_reducible apply Exists.intro
      with_reducible refine ⟨?_, ?_⟩
      · go_simp
        rfl
      refine soup_s rfl rfl rfl (fun W hk _ _ => ?_) ?_
      · unfold Oper.does
        go_simp
        exact ⟨(Keep.refl _ _).alloc _, hk.alloc _, ⟨_, rfl, hk.size⟩, _, rfl, hk.size, World.alloc_heap_new W _⟩
      rintro v ⟨g, rfl, hg⟩
      with_reducible apply Exists.intro
      with_reducible refine ⟨?_, ?_⟩
      · go_simp
        rfl
      refine soup_nil (fun W hk hS => ?_)
      obtain ⟨g', e1, e2, e3⟩ := hS 7
      obtain rfl : g = g' := by simpa using e1
      have s0 : W.cell? ⟨g, 0, none⟩ = some (.int .i64 0) := by unfold World.cell?; rw [e3]; rfl
      have s1 : W.cell? ⟨g, 1, none⟩ = some (.int .i64 0) := by unfold World.cell?; rw [e3]; rfl
      have s2 : ∀ o, W.frozen? ⟨g, o, none⟩ = false := fun o => by unfold World.frozen?; rw [e3]; simp
      have hgw : w.heap.size < g := by omega
      have hgp : ∀ b ∈ cfoot p oa oc c.own.length bp om ab, b ≠ g := fun b hb => by have := HP0.out b hb; omega
      obtain ⟨Wa, hWa⟩ : ∃ u, (W.setCell ⟨g, 0, none⟩ (.int .i64 st)).setCell ⟨g, 1, none⟩ (.int .i64 dn) = u := ⟨_, rfl⟩
      have ka : Keep [g] W Wa := by rw [← hWa]; exact ((Keep.refl _ _).setCell _ _ _ (.inl (by simp))).setCell _ _ _ (.inl (by simp))
      have hca : CoAt Wa p oa oc bp om ab c := (HC.out.kept hk).keep ka (fun b hb => by have := hgp b hb; simpa using this)
      have hea := (HE.out.keep hk (by simp)).keep ka (by simp; omega)
      have hsa : SaAt Wa g st dn := by
        unfold SaAt
        rw [← hWa]
        simp [World.setCell, Array.getElem?_modify, e3]
      have hka : Keep [] w Wa := (HK1.out.trans hk).step ka (by simp; omega)
      obtain ⟨q0, q1, q2, q3, q4⟩ := hea.facts
      obtain ⟨r0, r1, r2⟩ := hsa.facts
      have HGP := Lib.hid hgp
      have HC := Lib.hid hca
      have HE := Lib.hid hea
      have HS := Lib.hid hsa
      have HKA := Lib.hid hka
      clear hk hS e1 e2 e3 hgp ka hca hea hsa hka
      go_wp2_with (fail)
      obtain ⟨Wb, hWb⟩ : ∃ u, Wa = u := ⟨_, rfl⟩
      rw [hWb] at HC HE HS HKA ⊢
      have HKB := HKA
      clear hWb hWa q0 q1 q2 q3 q4 r0 r1 r2 s0 s1 s2 HGP
      have hpl4 := lt_of_heap HC.out.blk
      have hel4 := lt_of_heap HE.out
      have hsl4 := lt_of_heap HS.out
      by_cases h3 : dn = 3
      · have h3d := h3
        subst h3
        refine wp_region_soup 7 [] (fun _ => none) (by kernel_rfl) (by kernel_rfl) (spOk_of (l := []) (by simp)) (pre_of (l := []) (by simp)) ?_
        simp only [List.take_succ_cons, List.take_zero, List.drop_succ_cons, List.drop_zero]
        iterate 3
          with_reducible refine soup_q ?_ ?_ ?_
          · rfl
          · rfl
          with_reducible apply Exists.intro
          with_reducible refine ⟨fun W hk _ => ?_, ?_⟩
          · unfold Oper.same
            go_simp
            first | rfl | exact ⟨rfl, rfl⟩
          with_reducible apply Exists.intro
          with_reducible refine ⟨?_, ?_⟩
          · go_simp
            rfl
        with_reducible refine soup_q ?_ ?_ ?_
        · rfl
        · rfl
        with_reducible apply Exists.intro
        with_reducible refine ⟨fun W hk _ => ?_, ?_⟩
        · have c0 := (HC.out.kept hk).facts.2.2.2.2.1
          unfold Oper.same
          go_simp
          first | rfl | exact ⟨rfl, rfl⟩
        with_reducible apply Exists.intro
        with_reducible refine ⟨?_, ?_⟩
        · go_simp
          rfl
        with_reducible refine soup_q ?_ ?_ ?_
        · rfl
        · rfl
        with_reducible apply Exists.intro
        with_reducible refine ⟨fun W hk _ => ?_, ?_⟩
        · unfold Oper.same
          go_simp
          first | rfl | exact ⟨rfl, rfl⟩
        with_reducible apply Exists.intro
        with_reducible refine ⟨?_, ?_⟩
        · go_simp
          rfl
        with_reducible refine soup_q ?_ ?_ ?_
        · rfl
        · rfl
        with_reducible apply Exists.intro
        with_reducible refine ⟨fun W hk _ => ?_, ?_⟩
        · have c0 := (HE.out.keep hk (by simp)).facts.1
          unfold Oper.same
          go_simp
          first | rfl | exact ⟨rfl, rfl⟩
        with_reducible apply Exists.intro
        with_reducible refine ⟨?_, ?_⟩
        · go_simp
          rfl
        with_reducible refine soup_q ?_ ?_ ?_
        · rfl
        · rfl
        with_reducible apply Exists.intro
        with_reducible refine ⟨fun W hk _ => ?_, ?_⟩
        · have c0 := (HS.out.keep hk (by simp)).facts.1
          have c1 : W.cell? ⟨g, 1, none⟩ = some (.int .i64 3) := (HS.out.keep hk (by simp)).facts.2.1
          unfold Oper.same
          go_simp
          first | rfl | exact ⟨rfl, rfl⟩
        with_reducible apply Exists.intro
        with_reducible refine ⟨?_, ?_⟩
        · go_simp
          rfl
        refine soup_nil (fun W hk hS => ?_)
        obtain ⟨o, hup, hmp2⟩ := upSt (HC.out.kept hk).map hn2 x1 st 3 3 rfl
        obtain ⟨W3, hW3⟩ : ∃ u, setBlock W ab o = u := ⟨_, rfl⟩
        have k3 : Keep [ab] W W3 := by rw [← hW3]; exact (Keep.refl _ _).setBlock _ _ (.inl (by simp))
        rw [hW3] at hmp2 hup
        have hc3 := (HC.out.kept hk).setAt k3 hmp2
        have habl := HP0.out ab (by simp [cfoot])
        have he3 := (HE.out.keep hk (by simp)).keep k3 (by simp; omega)
        have hs3 := (HS.out.keep hk (by simp)).keep k3 (by simp; omega)
        have hk3 : Keep [ab] w W3 := ((HKB.out.trans hk).mono (by simp)).trans k3
        obtain ⟨r0, r1, r2⟩ := hs3.facts
        have r1 : W3.cell? ⟨g, 1, none⟩ = some (.int .i64 3) := r1
        have HC := Lib.hid hc3
        have HE := Lib.hid he3
        have HS := Lib.hid hs3
        have HK3 := Lib.hid hk3
        clear hk hS hmp2 k3 hc3 he3 hs3 hk3 hW3
        go_wp2_with (fail)
        have hpl5 := lt_of_heap HC.out.blk
        have hel5 := lt_of_heap HE.out
        refine wp_region_soup 6 [] (fun _ => none) (by kernel_rfl) (by kernel_rfl) (spOk_of (l := []) (by simp)) (pre_of (l := []) (by simp)) ?_
        simp only [List.take_succ_cons, List.take_zero, List.drop_succ_cons, List.drop_zero]
        iterate 3
          with_reducible refine soup_q ?_ ?_ ?_
          · rfl
          · rfl
          with_reducible apply Exists.intro
          with_reducible refine ⟨fun W hk _ => ?_, ?_⟩
          · unfold Oper.same
            go_simp
            first | rfl | exact ⟨rfl, rfl⟩
          with_reducible apply Exists.intro
          with_reducible refine ⟨?_, ?_⟩
          · go_simp
            rfl
        with_reducible refine soup_q ?_ ?_ ?_
        · rfl
        · rfl
        with_reducible apply Exists.intro
        with_reducible refine ⟨fun W hk _ => ?_, ?_⟩
        · have c0 := (HC.out.kept hk).facts.2.2.2.1
          unfold Oper.same
          go_simp
          first | rfl | exact ⟨rfl, rfl⟩
        with_reducible apply Exists.intro
        with_reducible refine ⟨?_, ?_⟩
        · go_simp
          rfl
        with_reducible refine soup_q ?_ ?_ ?_
        · rfl
        · rfl
        with_reducible apply Exists.intro
        with_reducible refine ⟨fun W hk _ => ?_, ?_⟩
        · unfold Oper.same
          go_simp
          first | rfl | exact ⟨rfl, rfl⟩
        with_reducible apply Exists.intro
        with_reducible refine ⟨?_, ?_⟩
        · go_simp
          rfl
        with_reducible refine soup_q ?_ ?_ ?_
        · rfl
        · rfl
        with_reducible apply Exists.intro
        with_reducible refine ⟨fun W hk _ => ?_, ?_⟩
        · have c0 := (HE.out.keep hk (by simp)).facts.2.1
          unfold Oper.same
          go_simp
          first | rfl | exact ⟨rfl, rfl⟩
        with_reducible apply Exists.intro
        with_reducible refine ⟨?_, ?_⟩
        · go_simp
          rfl
        refine soup_nil (fun W hk hS => ?_)
        have hc4 := HC.out.kept hk
        have HE := Lib.hid (HE.out.keep hk (by simp))
        have HS := Lib.hid (HS.out.keep hk (by simp))
        have HK4 := Lib.hid (HK3.out.trans (hk.mono (by simp)))
        have hend := end_book hc4.book hn x2
        have HC := Lib.hid hc4
        have HEND := Lib.hid hend
        clear hk hS hc4 hend r0 r1 r2
        go_wp2_with (fail)
        refine HEND.out.mono ?_
        rintro e w5 ⟨rfl, hbk, hk5⟩
        have hc5 := HC.out.setBook hk5 hbk
        have hfl : ∀ b ∈ foot bp om, b < w.heap.size := fun b hb => HP0.out b (by
          simp only [foot, List.mem_cons] at hb
          simp only [cfoot, List.mem_cons, List.mem_append]
          rcases hb with e | e
          · exact .inr (.inl e)
          · exact .inr (.inr (.inr (.inl e))))
        have he5 := HE.out.keep hk5 (fun hm => by have := hfl _ hm; omega)
        have hs5 := HS.out.keep hk5 (fun hm => by have := hfl _ hm; omega)
        have hk5' : Keep (cfoot p oa oc c.own.length bp om ab) w w5 := (HK4.out.mono (fun y hy => .inl (by have h : y = ab := (by simpa using hy); simp [cfoot, h]))).trans (hk5.mono (fun y hy => .inl (by
          simp only [foot, List.mem_cons] at hy
          simp only [cfoot, List.mem_cons, List.mem_append]
          rcases hy with e | e
          · exact .inr (.inl e)
          · exact .inr (.inr (.inr (.inl e))))))
        have HC := Lib.hid hc5
        have HE := Lib.hid he5
        have HS := Lib.hid hs5
        have HK5 := Lib.hid hk5'
        have hpl6 := lt_of_heap hc5.blk
        have hel6 := lt_of_heap he5
        clear hbk hk5 hc5 hfl he5 hs5 hk5'
        go_wp2_with (fail)
        refine wp_region_soup 6 [] (fun _ => none) (by kernel_rfl) (by kernel_rfl) (spOk_of (l := []) (by simp)) (pre_of (l := []) (by simp)) ?_
        simp only [List.take_succ_cons, List.take_zero, List.drop_succ_cons, List.drop_zero]
        iterate 3
          with_reducible refine soup_q ?_ ?_ ?_
          · rfl
          · rfl
          with_reducible apply Exists.intro
          with_reducible refine ⟨fun W hk _ => ?_, ?_⟩
          · unfold Oper.same
            go_simp
            first | rfl | exact ⟨rfl, rfl⟩
          with_reducible apply Exists.intro
          with_reducible refine ⟨?_, ?_⟩
          · go_simp
            rfl
        with_reducible refine soup_q ?_ ?_ ?_
        · rfl
        · rfl
        with_reducible apply Exists.intro
        with_reducible refine ⟨fun W hk _ => ?_, ?_⟩
        · have c0 := (HC.out.kept hk).facts.2.2.2.2.1
          unfold Oper.same
          go_simp
          first | rfl | exact ⟨rfl, rfl⟩
        with_reducible apply Exists.intro
        with_reducible refine ⟨?_, ?_⟩
        · go_simp
          rfl
        with_reducible refine soup_q ?_ ?_ ?_
        · rfl
        · rfl
        with_reducible apply Exists.intro
        with_reducible refine ⟨fun W hk _ => ?_, ?_⟩
        · unfold Oper.same
          go_simp
          first | rfl | exact ⟨rfl, rfl⟩
        with_reducible apply Exists.intro
        with_reducible refine ⟨?_, ?_⟩
        · go_simp
          rfl
        with_reducible refine soup_q ?_ ?_ ?_
        · rfl
        · rfl
        with_reducible apply Exists.intro
        with_reducible refine ⟨fun W hk _ => ?_, ?_⟩
        · have c0 := (HE.out.keep hk (by simp)).facts.1
          unfold Oper.same
          go_simp
          first | rfl | exact ⟨rfl, rfl⟩
        with_reducible apply Exists.intro
        with_reducible refine ⟨?_, ?_⟩
        · go_simp
          rfl
        refine soup_nil (fun W hk hS => ?_)
        obtain ⟨o2, hdl, hmp3⟩ := run_delete (W := W) Tryz.underlying36 (keyLaw_int Tryz.underlying3) (HC.out.kept hk).map (put_nodup hn2) x1 #[36, 3] rfl 0
        obtain ⟨W6, hW6⟩ : ∃ u, setBlock W ab o2 = u := ⟨_, rfl⟩
        have k6 : Keep [ab] W W6 := by rw [← hW6]; exact (Keep.refl _ _).setBlock _ _ (.inl (by simp))
        rw [hW6] at hmp3 hdl
        have hc6 := (HC.out.kept hk).setAt k6 hmp3
        have hs6 := (HS.out.keep hk (by simp)).keep k6 (by simp; omega)
        have hk6 : Keep (cfoot p oa oc c.own.length bp om ab) w W6 := (HK5.out.trans (hk.mono (by simp))).trans (k6.mono (fun y hy => .inl (by have h : y = ab := (by simpa using hy); simp [cfoot, h])))
        obtain ⟨q0, q1, q2, q3, q4, q5, q6, q7⟩ := hc6.facts
        obtain ⟨r0, r1, r2⟩ := hs6.facts
        have hap6 := hc6.ap
        have hgpp : g ≠ p := by have := HP0.out p (by simp [cfoot]); omega
        have HC := Lib.hid hc6
        have HS := Lib.hid hs6
        have HK6 := Lib.hid hk6
        clear hk hS hmp3 k6 hc6 hs6 hk6 hW6
        by_cases hs2 : st = 2
        · have hs2i : ((st : Int) == 2) = true := by simpa using hs2
          have t1 : (W6.setCell ⟨p, 5, none⟩ (.int .i64 (c.com + 1))).cell? ⟨g, 1, none⟩ = some (.int .i64 3) := (World.cell?_of_block (by simp [World.setCell, Array.getElem?_modify, Ne.symm hgpp])).trans r1
          go_wp2_with (fail)
          go_ret
          refine ⟨?_, ?_⟩
          · first | exact congrArg (fun z => Ending.returned (Value.bool (!z))) (beqN 3 dn) | exact congrArg (fun z => Ending.returned (Value.bool z)) (bneN 3 dn) | rfl
          · subst hs2
            exact CoN.of (HC.out.setCom _) (HK6.out.setCell _ _ _ (.inl (by simp [cfoot]))) (fun b hb => .inl hb) (fun b hb => .inl hb)
        · have hs2i : ((st : Int) == 2) = false := by simpa using hs2
          have t1 : (W6.setCell ⟨p, 6, none⟩ (.int .i64 (c.abo + 1))).cell? ⟨g, 1, none⟩ = some (.int .i64 3) := (World.cell?_of_block (by simp [World.setCell, Array.getElem?_modify, Ne.symm hgpp])).trans r1
          go_wp2_with (fail)
          go_ret
          refine ⟨?_, ?_⟩
          · first | exact congrArg (fun z => Ending.returned (Value.bool (!z))) (beqN 3 dn) | exact congrArg (fun z => Ending.returned (Value.bool z)) (bneN 3 dn) | rfl
          · exact CoN.of (HC.out.setAbo _) (HK6.out.setCell _ _ _ (.inl (by simp [cfoot]))) (fun b hb => .inl hb) (fun b hb => .inl hb)
      · have h3i : ((dn : Int) == 3) = false := by simp; omega
        refine wp_region_soup 7 [] (fun _ => none) (by kernel_rfl) (by kernel_rfl) (spOk_of (l := []) (by simp)) (pre_of (l := []) (by simp)) ?_
        simp only [List.take_succ_cons, List.take_zero, List.drop_succ_cons, List.drop_zero]
        iterate 3
          with_reducible refine soup_q ?_ ?_ ?_
          · rfl
          · rfl
          with_reducible apply Exists.intro
          with_reducible refine ⟨fun W hk _ => ?_, ?_⟩
          · unfold Oper.same
            go_simp
            first | rfl | exact ⟨rfl, rfl⟩
          with_reducible apply Exists.intro
          with_reducible refine ⟨?_, ?_⟩
          · go_simp
            rfl
        with_reducible refine soup_q ?_ ?_ ?_
        · rfl
        · rfl
        with_reducible apply Exists.intro
        with_reducible refine ⟨fun W hk _ => ?_, ?_⟩
        · have c0 := (HC.out.kept hk).facts.2.2.2.2.1
          unfold Oper.same
          go_simp
          first | rfl | exact ⟨rfl, rfl⟩
        with_reducible apply Exists.intro
        with_reducible refine ⟨?_, ?_⟩
        · go_simp
          rfl
        with_reducible refine soup_q ?_ ?_ ?_
        · rfl
        · rfl
        with_reducible apply Exists.intro
        with_reducible refine ⟨fun W hk _ => ?_, ?_⟩
        · unfold Oper.same
          go_simp
          first | rfl | exact ⟨rfl, rfl⟩
        with_reducible apply Exists.intro
        with_reducible refine ⟨?_, ?_⟩
        · go_simp
          rfl
        with_reducible refine soup_q ?_ ?_ ?_
        · rfl
        · rfl
        with_reducible apply Exists.intro
        with_reducible refine ⟨fun W hk _ => ?_, ?_⟩
        · have c0 := (HE.out.keep hk (by simp)).facts.1
          unfold Oper.same
          go_simp
          first | rfl | exact ⟨rfl, rfl⟩
        with_reducible apply Exists.intro
        with_reducible refine ⟨?_, ?_⟩
        · go_simp
          rfl
        with_reducible refine soup_q ?_ ?_ ?_
        · rfl
        · rfl
        with_reducible apply Exists.intro
        with_reducible refine ⟨fun W hk _ => ?_, ?_⟩
        · have c0 := (HS.out.keep hk (by simp)).facts.1
          have c1 := (HS.out.keep hk (by simp)).facts.2.1
          unfold Oper.same
          go_simp
          first | rfl | exact ⟨rfl, rfl⟩
        with_reducible apply Exists.intro
        with_reducible refine ⟨?_, ?_⟩
        · go_simp
          rfl
        refine soup_nil (fun W hk hS => ?_)
        obtain ⟨o, hup, hmp2⟩ := upSt (HC.out.kept hk).map hn2 x1 st dn (dn : Int) rfl
        obtain ⟨W3, hW3⟩ : ∃ u, setBlock W ab o = u := ⟨_, rfl⟩
        have k3 : Keep [ab] W W3 := by rw [← hW3]; exact (Keep.refl _ _).setBlock _ _ (.inl (by simp))
        rw [hW3] at hmp2 hup
        have hc3 := (HC.out.kept hk).setAt k3 hmp2
        have habl := HP0.out ab (by simp [cfoot])
        have he3 := (HE.out.keep hk (by simp)).keep k3 (by simp; omega)
        have hs3 := (HS.out.keep hk (by simp)).keep k3 (by simp; omega)
        have hk3 : Keep [ab] w W3 := ((HKB.out.trans hk).mono (by simp)).trans k3
        obtain ⟨r0, r1, r2⟩ := hs3.facts
        have r1 : W3.cell? ⟨g, 1, none⟩ = some (.int .i64 (dn : Int)) := r1
        have HC := Lib.hid hc3
        have HE := Lib.hid he3
        have HS := Lib.hid hs3
        have HK3 := Lib.hid hk3
        clear hk hS hmp2 k3 hc3 he3 hs3 hk3 hW3
        go_wp2_with (fail)
        go_ret
        refine ⟨?_, ?_⟩
        · first | exact congrArg (fun z => Ending.returned (Value.bool (!z))) (beqN dn dn) | exact congrArg (fun z => Ending.returned (Value.bool z)) (bneN dn dn) | simp | rfl
        · exact CoN.of HC.out (HK3.out.mono (fun y hy => .inl (by have h : y = ab := (by simpa using hy); simp [cfoot, h]))) (fun b hb => .inl hb) (fun b hb => .inl hb)
end Go.Proofs.YteejdfpfdnkiiaaGreat
