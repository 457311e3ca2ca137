/- The document's coordinator beside the program's: the plain law · A coordinator behind some acts: the plain law · The same tables, the same moves (toward CoordPlays) · packets · CoordPlays: the two coordinators side by side in memory -/
import Derived.Test.YteejdfpfdnkiiaaGreatCqS
import Derived.Test.YteejdfpfdnkiiaaGreatCqT
import Derived.Test.YteejdfpfdnkiiaaGreatPj
import Derived.Test.YteejdfpfdnkiiaaGreatCeD
import Derived.Test.YteejdfpfdnkiiaaGreatPh
namespace Go.Proofs.YteejdfpfdnkiiaaGreat
section
set_option linter.unusedSimpArgs false
set_option linter.unusedVariables false
theorem dx_ord {n s k : Nat} {c : Cd} (h : CdInv n s k c) (hk : k ≤ 300) (part to : Int) : dxOrd (Dx.of c) part to = (Dx.of (coOrd c part to).2.2, (coOrd c part to).1, (coOrd c part to).2.1) := by
  unfold dxOrd
  show (if (c.tb none 0).may part to ≠ 0 then _ else _) = _
  by_cases hm : (c.tb none 0).may part to = 0
  · rw [if_neg (by simp [hm])]
    show (match fnd part (movesF c) with | some _ => _ | none => _) = _
    cases hl : look part c.m with
    | some x =>
      obtain ⟨i, hi, _⟩ := h.fnd_some hl
      rw [hi, ord_move hm (by rw [hl]; rfl)]
    | none =>
      rw [h.fnd_none hl]
      obtain ⟨h1, h2, h3⟩ := ord_yes h hk hm hl
      rw [h1, h2, h3]
      have hmv := h.moves_ord (x := ⟨c.last + 1, part, c.own[part.toNat]?.getD 0, to⟩) rfl ⟨1, 0⟩ (c' := { c with m := c.m ++ [(part, ⟨c.last + 1, part, c.own[part.toNat]?.getD 0, to⟩)], last := c.last + 1, at_ := put (c.last + 1) ⟨1, 0⟩ c.at_ }) rfl rfl
      unfold Dx.of
      simp only
      rw [hmv]
  · rw [if_pos hm, ord_no hm]
    rfl
theorem look_mem' {c : Cd} {part : Int} {x : En} (h : look part c.m = some x) : (part, x) ∈ c.m := look_mem h
theorem dx_abort {n s k : Nat} {c : Cd} (h : CdInv n s k c) (part : Int) : dxAbo (Dx.of c) part = (Dx.of (coAbort c part).2, (coAbort c part).1) := by
  unfold dxAbo coAbort
  show (if part < 0 ∨ (c.own.length : Int) ≤ part then _ else _) = _
  by_cases hp : part < 0 ∨ (c.own.length : Int) ≤ part
  · rw [if_pos hp, if_pos hp]
  · rw [if_neg hp, if_neg hp]
    show (match fnd part (movesF c) with | none => _ | some i => _) = _
    cases hl : look part c.m with
    | none =>
      rw [h.fnd_none hl]
      simp
    | some x =>
      obtain ⟨i, hi, hci⟩ := h.fnd_some hl
      obtain ⟨x', hx', _, hmi, _, _, _⟩ := h.fnd_at hi
      rw [hl] at hx'
      cases hx'
      rw [hi]
      show (if (((movesF c)[i]?).getD Mo.zero).s.st = 1 then _ else _) = _
      rw [hmi]
      simp only [Option.getD_some, Option.isSome_some, Bool.true_eq_false, if_false]
      have e := h.mem _ (look_mem hl)
      by_cases hs : (atOf x.mv c.at_).st = 1
      · rw [if_pos hs, if_pos hs]
        have hd : (atOf x.mv c.at_).dn = 0 := by
          rcases e.st with h1 | h1 | h1
          · exact h1.2
          · simp only at h1; omega
          · simp only at h1; omega
        have hmv := h.moves_set hci (v := ⟨3, 0⟩) (c' := { c with at_ := put x.mv ⟨3, 0⟩ c.at_ }) rfl rfl
        unfold Dx.of
        simp only
        rw [hmv]
        simp only [hd, hmi, Option.getD_some]
      · rw [if_neg hs, if_neg hs]
theorem mvF_err (t : Tb) (part to : Int) : (mvF t part to).2.2.2 = t.may part to := by
  unfold mvF
  split
  · rename_i h; rw [h]
  · rfl
theorem dx_done {n s k : Nat} {c : Cd} (h : CdInv n s k c) {part : Int} {i : Nat} {x : En} (hci : c.m[i]? = some (part, x)) (fr : Int) (hs : (atOf x.mv c.at_).st ≠ 1) (hf : fr = x.fr ∨ fr = x.to) :
    (if (atOf x.mv c.at_).dn = (if fr = x.to then 2 else 1) then (Dx.of c, false)
     else if (atOf x.mv c.at_).dn + (if fr = x.to then 2 else 1) < 3 then ({ Dx.of c with L := (movesF c).set i ⟨x, ⟨(atOf x.mv c.at_).st, (atOf x.mv c.at_).dn + (if fr = x.to then 2 else 1)⟩⟩ }, true)
     else ({ Dx.of c with L := (movesF c).take i ++ (movesF c).drop (i + 1), com := if (atOf x.mv c.at_).st = 2 then c.com + 1 else c.com, abo := if (atOf x.mv c.at_).st = 2 then c.abo else c.abo + 1 }, true)) = (Dx.of (coDone c x fr).2, (coDone c x fr).1) := by
  have hq := List.mem_of_getElem? hci
  have e := h.mem _ hq
  have hne := e.ne
  have hd2 := e.dn
  have hk := e.key
  simp only at hne hd2 hk
  have hmi : (movesF c)[i]? = some ⟨x, atOf x.mv c.at_⟩ := by rw [movesF_eq, List.getElem?_map, hci]; rfl
  have hset : ∀ v : St, movesF { c with at_ := put x.mv v c.at_ } = (movesF c).set i ⟨x, v⟩ := fun v => h.moves_set hci rfl rfl
  have hdel : ∀ (cm ab : Int), movesF { c with m := del x.part c.m, at_ := del x.mv (put x.mv ⟨(atOf x.mv c.at_).st, 3⟩ c.at_), com := cm, abo := ab } = (movesF c).take i ++ (movesF c).drop (i + 1) := fun cm ab =>
    h.moves_del hci (by rw [hk]) (fun j hj => by simp only; rw [atOf_del, if_neg hj, atOf_put, if_neg hj])
  have hself : (movesF c).set i ⟨x, atOf x.mv c.at_⟩ = movesF c := set_self hmi
  obtain ⟨v, hv⟩ : ∃ v, atOf x.mv c.at_ = v := ⟨_, rfl⟩
  rw [hv] at hd2 hs hself ⊢
  simp only [hv] at hdel
  obtain ⟨st, dn⟩ := v
  simp only at hd2 hs
  unfold coDone
  rw [hv]
  simp only
  have hdn : dnF x fr dn = dn ||| (if fr = x.to then 2 else 1) := by
    unfold dnF
    by_cases h1 : fr = x.fr
    · rw [if_pos h1, if_neg (fun h2 => hne (h1.symm.trans h2))]
    · rw [if_neg h1]
      rcases hf with h2 | h2
      · exact absurd h2 h1
      · rw [if_pos h2, if_pos h2]
  rw [hdn]
  by_cases ht : fr = x.to
  · simp only [if_pos ht]
    rcases dn3 hd2 with rfl | rfl | rfl
    · simp [Dx.of, hset]
    · simp [Dx.of, hdel]
    · have hs2 := hset ⟨st, 2⟩
      rw [hself] at hs2
      simp [Dx.of, hs2]
  · simp only [if_neg ht]
    rcases dn3 hd2 with rfl | rfl | rfl
    · simp [Dx.of, hset]
    · have hs2 := hset ⟨st, 1⟩
      rw [hself] at hs2
      simp [Dx.of, hs2]
    · simp [Dx.of, hdel]
theorem dx_handle {n s k : Nat} {c : Cd} (h : CdInv n s k c) (fr : Int) (kd : Nat) (mv pt code : Int) : dxHan (Dx.of c) fr kd mv pt code = (Dx.of (coHandle c fr kd mv pt code).2, (coHandle c fr kd mv pt code).1) := by
  unfold dxHan
  show (match fnd pt (movesF c) with | none => _ | some i => _) = _
  cases hl : look pt c.m with
  | none =>
    have hf := h.fnd_none hl
    rw [hf, handle_none h hf]
  | some x =>
    obtain ⟨i, hi, hci⟩ := h.fnd_some hl
    have hq := List.mem_of_getElem? hci
    have e := h.mem _ hq
    have hmi : (movesF c)[i]? = some ⟨x, atOf x.mv c.at_⟩ := by rw [movesF_eq, List.getElem?_map, hci]; rfl
    rw [hi, handle_some h hl]
    simp only
    show (if (((movesF c)[i]?).getD Mo.zero).x.mv ≠ mv then _ else _) = _
    have hgd : ((Dx.of c).L[i]?).getD Mo.zero = ⟨x, atOf x.mv c.at_⟩ := by show ((movesF c)[i]?).getD Mo.zero = _; rw [hmi]; rfl
    have hgd2 : ((movesF c)[i]?).getD Mo.zero = ⟨x, atOf x.mv c.at_⟩ := hgd
    simp only [hgd, hgd2]
    by_cases hm : x.mv = mv
    · rw [if_neg (show ¬ (x.mv ≠ mv) by simp [hm]), if_neg (show ¬ (x.mv ≠ mv) by simp [hm])]
      by_cases hA : kd = 10 ∧ (atOf x.mv c.at_).st = 1 ∧ fr = x.to
      · rw [if_pos hA, if_pos hA]
        have hd : (atOf x.mv c.at_).dn = 0 := by
          rcases e.st with h1 | h1 | h1
          · exact h1.2
          · have := hA.2.1; simp only at h1; omega
          · have := hA.2.1; simp only at h1; omega
        have hset : ∀ (ep nd : Int) (own : List Int) (v : St), movesF { c with ep := ep, nd := nd, own := own, at_ := put x.mv v c.at_ } = (movesF c).set i ⟨x, v⟩ := fun ep nd own v => h.moves_set hci rfl rfl
        have hset2 : ∀ v : St, movesF { c with at_ := put x.mv v c.at_ } = (movesF c).set i ⟨x, v⟩ := fun v => h.moves_set hci rfl rfl
        unfold coReady
        rw [mvF_err]
        show (if code = 1 ∧ (c.tb none 0).may x.part x.to = 0 then _ else _) = _
        by_cases hc : code = 1 ∧ (c.tb none 0).may x.part x.to = 0
        · rw [if_pos hc, if_pos hc]
          have hmf : mvF (c.tb none 0) x.part x.to = (c.ep + 1, c.nd, c.own.set x.part.toNat x.to, 0) := by
            unfold mvF
            rw [if_pos hc.2]
            rfl
          rw [hmf, hd]
          simp only [Dx.of, hset]
        · rw [if_neg hc, if_neg hc, hd]
          simp only [Dx.of, hset2]
      · rw [if_neg hA, if_neg hA]
        by_cases hB : kd = 13 ∧ (atOf x.mv c.at_).st ≠ 1
        · rw [if_pos hB]
          by_cases hf : fr = x.fr ∨ fr = x.to
          · rw [if_neg (by
              rintro (h1 | h1 | h1)
              · exact h1 hB.1
              · exact hB.2 h1
              · rcases hf with h2 | h2
                · exact h1.1 h2
                · exact h1.2 h2)]
            exact dx_done h hci fr hB.2 hf
          · rw [if_pos (.inr (.inr ⟨fun h1 => hf (.inl h1), fun h1 => hf (.inr h1)⟩))]
            have hd2 := e.dn
            have hdn : dnF x fr (atOf x.mv c.at_).dn = (atOf x.mv c.at_).dn := by
              unfold dnF
              rw [if_neg (fun h1 => hf (.inl h1)), if_neg (fun h1 => hf (.inr h1))]
            unfold coDone
            rw [hdn, if_neg (by simp only at hd2; omega)]
            have hset2 := h.moves_set (c' := { c with at_ := put x.mv (atOf x.mv c.at_) c.at_ }) hci (v := atOf x.mv c.at_) rfl rfl
            rw [set_self hmi] at hset2
            simp only [Dx.of, ne_eq, not_true, decide_false]
            rw [show (⟨(atOf x.mv c.at_).st, (atOf x.mv c.at_).dn⟩ : St) = atOf x.mv c.at_ from rfl, hset2]
        · rw [if_neg hB, if_pos (by
            by_cases h1 : kd = 13
            · exact .inr (.inl (Classical.byContradiction fun h2 => hB ⟨h1, h2⟩))
            · exact .inl h1)]
    · rw [if_pos hm, if_pos hm]
end
section
set_option linter.unusedSimpArgs false
set_option linter.unusedVariables false
theorem CdInv.mo {n s k : Nat} {c : Cd} (h : CdInv n s k c) {y : Mo} (hy : y ∈ movesF c) : (y.s.st = 1 ∨ y.s.st = 2 ∨ y.s.st = 3) ∧ y.s.dn ≤ 2 ∧ y.x.fr ≠ y.x.to := by
  rw [movesF_eq] at hy
  obtain ⟨q, hq, rfl⟩ := List.mem_map.1 hy
  have e := h.mem q hq
  refine ⟨?_, e.dn, e.ne⟩
  rcases e.st with h1 | h1 | h1
  · exact .inl h1.1
  · exact .inr (.inl h1)
  · exact .inr (.inr h1)
/-- What an act makes of a coordinator. -/
def actF (c : Cd) (x : Ac) : Cd :=
  if x.dd = 0 then (coOrd c x.part x.to).2.2
  else if x.dd = 1 then (coAbort c x.part).2
  else if x.dd = 2 ∨ x.dd = 4 then (coHandle c (saysF x (movesF c)).fr (saysF x (movesF c)).k (saysF x (movesF c)).mv (saysF x (movesF c)).pt (saysF x (movesF c)).cd).2
  else c
theorem CdInv.act {n s k : Nat} {c : Cd} (h : CdInv n s k c) (x : Ac) : CdInv n s (k + 1) (actF c x) := by
  unfold actF
  split
  · exact h.order _ _
  · split
    · exact h.abort _
    · split
      · exact h.handle _ _ _ _ _
      · exact h.mono (by omega)
def runA (c : Cd) (l : List Ac) : Cd := l.foldl actF c
theorem runA_snoc (c : Cd) {l : List Ac} {j : Nat} {x : Ac} (h : l[j]? = some x) : runA c (l.take (j + 1)) = actF (runA c (l.take j)) x := by
  unfold runA
  rw [List.take_add_one, h, List.foldl_append]
  rfl
theorem CdInv.runA {n s : Nat} : ∀ (l : List Ac) {k : Nat} {c : Cd}, CdInv n s k c → CdInv n s (k + l.length) (runA c l)
  | [], _, _, h => h
  | x :: l, k, c, h => by
    have := CdInv.runA l (h.act x)
    rw [List.length_cons, show k + (l.length + 1) = k + 1 + l.length from by omega]
    exact this
def cdT (t : Tb) : Cd := ⟨t.ep, t.nodes, t.owner, [], 0, [], 0, 0⟩
theorem right_parts {t : Tb} (h : t.right = true) : 1 ≤ t.ep ∧ 1 ≤ t.nodes ∧ t.nodes ≤ 4 ∧ 1 ≤ t.owner.length ∧ t.owner.length ≤ 8 ∧ ∀ x ∈ t.owner, 0 ≤ x ∧ x < t.nodes := by
  unfold Tb.right at h
  simp only [Bool.and_eq_true, decide_eq_true_eq, Bool.not_eq_true', List.any_eq_false] at h
  obtain ⟨⟨⟨⟨⟨h1, h2⟩, h3⟩, h4⟩, h5⟩, h6⟩ := h
  refine ⟨h1, h2, h3, h4, h5, fun x hx => ?_⟩
  have := h6 x hx
  unfold outN at this
  simpa using this
theorem cdT_inv {t : Tb} (h : t.right = true) (he : t.ep ≤ 2147483647) : CdInv t.nodes.toNat t.owner.length 0 (cdT t) := by
  obtain ⟨h1, h2, h3, h4, h5, h6⟩ := right_parts h
  refine ⟨by simp [cdT], by simp [cdT], by simp [cdT], ⟨by simp [cdT], by simp [cdT]⟩, ⟨h1, he⟩, by simp only [cdT]; omega, rfl, fun x hx => ?_, ⟨by simp [cdT], by simp [cdT], by simp [cdT]⟩, fun q hq => by simp [cdT] at hq, fun j => by simp [cdT, atOf, look, St.zero]⟩
  have := h6 x hx
  omega
theorem inv_takeA {t : Tb} (h : t.right = true) (he : t.ep ≤ 2147483647) {l : List Ac} (hl : l.length ≤ 200) (j : Nat) : CdInv t.nodes.toNat t.owner.length 200 (runA (cdT t) (l.take j)) :=
  ((cdT_inv h he).runA (l.take j)).mono (by rw [List.length_take]; omega)
end
section
open Go.RowKit Go.Lib
set_option linter.unusedSimpArgs false
set_option linter.unusedVariables false
set_option maxRecDepth 100000 in
set_option maxHeartbeats 4000000 in
theorem rtsame_true {w : World} (ep nd : Int) {a b : Option Addr} {own : List Int} (c d : Nat) (ha : IntsAt w a own) (hb : IntsAt w b own) (hl : own.length ≤ 64) : Calls Tryz.prog 23 #[.agg #[.int .i64 ep, .int .i64 nd, .slice a own.length c], .agg #[.int .i64 ep, .int .i64 nd, .slice b own.length d]] w fun e w' => e = .returned (.bool true) ∧ Keep [] w w' := by
  obtain ⟨n, hn⟩ : ∃ n, own.length = n := ⟨_, rfl⟩
  have HN := Lib.hid hn
  rw [hn] at hl ⊢
  obtain ⟨w1, hw1⟩ : ∃ u, w.alloc (.cells #[.int .i64 ep, .int .i64 nd, .slice a n c] 24) = u := ⟨_, rfl⟩
  obtain ⟨w2, hw2⟩ : ∃ u, w1.alloc (.cells #[.int .i64 ep, .int .i64 nd, .slice b n d] 24) = u := ⟨_, rfl⟩
  have s1 : w1.heap.size = w.heap.size + 1 := by rw [← hw1, World.size_alloc]
  have k1 : Keep [] w w1 := by rw [← hw1]; exact (Keep.refl _ _).alloc _
  have k2 : Keep [] w1 w2 := by rw [← hw2]; exact (Keep.refl _ _).alloc _
  have b1 : w1.heap[w.heap.size]? = some (.cells #[.int .i64 ep, .int .i64 nd, .slice a n c] 24 (0, 0)) := by rw [← hw1]; exact World.alloc_heap_new w _
  replace b1 := (k2.block _ (lt_of_heap b1) (by simp)).trans b1
  have b2 : w2.heap[w.heap.size + 1]? = some (.cells #[.int .i64 ep, .int .i64 nd, .slice b n d] 24 (0, 0)) := by rw [← hw2, ← s1]; exact World.alloc_heap_new w1 _
  have HK := Lib.hid (k1.trans k2)
  have HA := Lib.hid (ha.keep HK.out (by simp))
  have HB := Lib.hid (hb.keep HK.out (by simp))
  have HT1 := Lib.hid b1
  have HT2 := Lib.hid b2
  obtain ⟨c0, c1, c2, c3⟩ := TbFacts b1
  obtain ⟨d0, d1, d2, d3⟩ := TbFacts b2
  clear ha hb hn k1 k2 b1 b2
  go_enter Tryz.func23, Tryz.ntmps23
  go_wp2_with (fail)
  go_loopw [5] (fun i wr => ∃ j : Nat, i = .int .i64 j ∧ j ≤ n ∧ Keep [] w2 wr) (fun i _ => n - (intOf i).toNat)
  case atStart => exact ⟨0, rfl, Nat.zero_le _, Keep.refl _ _⟩
  case round =>
    obtain ⟨j, rfl, hj, hk2⟩ := hrel
    have HK2 := Lib.hid hk2
    have HT1 := Lib.hid ((hk2.block _ (lt_of_heap HT1.out) (by simp)).trans HT1.out)
    have HT2 := Lib.hid ((hk2.block _ (lt_of_heap HT2.out) (by simp)).trans HT2.out)
    clear hk2 c0 c1 c2 c3 d0 d1 d2 d3
    obtain ⟨c0, c1, c2, c3⟩ := TbFacts HT1.out
    obtain ⟨d0, d1, d2, d3⟩ := TbFacts HT2.out
    have h0j : (0 : Int) ≤ (j : Int) := Int.natCast_nonneg j
    by_cases hlt : j < n
    · have hjn : (j : Int) < (n : Int) := by omega
      have hlj : j < own.length := by rw [HN.out]; exact hlt
      obtain ⟨ba, oa, rfl, hba, hca⟩ := (HA.out.keep HK2.out (by simp)) (by intro e; rw [e] at hlj; simp at hlj)
      obtain ⟨bb, ob, rfl, hbb, hcb⟩ := (HB.out.keep HK2.out (by simp)) (by intro e; rw [e] at hlj; simp at hlj)
      obtain ⟨x, hx⟩ : ∃ x, own[j]?.getD 0 = x := ⟨_, rfl⟩
      have x0 := hca j hlj
      have y0 := hcb j hlj
      rw [hx] at x0 y0
      have HX := Lib.hid x0
      have HY := Lib.hid y0
      have HBA := Lib.hid hba
      have HBB := Lib.hid hbb
      have C2 := Lib.hid c2
      have D2 := Lib.hid d2
      have L1 := Lib.hid (lt_of_heap HT1.out)
      have L2 := Lib.hid (lt_of_heap HT2.out)
      clear hca hcb hx x0 y0
      go_wp2_with (fail)
      refine wp_region_soup 10 [] (fun _ => none) (by kernel_rfl) (by kernel_rfl) (spOk_of (l := []) (by simp)) (pre_of (l := []) (by simp)) ?_
      simp only [List.take_succ_cons, List.take_zero, List.drop_succ_cons, List.drop_zero]
      with_reducible refine soup_q ?_ ?_ ?_
      · rfl
      · rfl
      with_reducible apply Exists.intro
      with_reducible refine ⟨fun W hk _ => ?_, ?_⟩
      · unfold Oper.same
        go_simp
        first | rfl | exact ⟨rfl, rfl⟩
      with_reducible apply Exists.intro
      with_reducible refine ⟨?_, ?_⟩
      · go_simp
        rfl
      with_reducible refine soup_q ?_ ?_ ?_
      · rfl
      · rfl
      with_reducible apply Exists.intro
      with_reducible refine ⟨fun W hk _ => ?_, ?_⟩
      · have q := (hk.cell _ L1.out (by simp)).trans C2.out
        unfold Oper.same
        go_simp
        first | rfl | exact ⟨rfl, rfl⟩
      with_reducible apply Exists.intro
      with_reducible refine ⟨?_, ?_⟩
      · go_simp
        rfl
      iterate 2
        with_reducible refine soup_q ?_ ?_ ?_
        · rfl
        · rfl
        with_reducible apply Exists.intro
        with_reducible refine ⟨fun W hk _ => ?_, ?_⟩
        · unfold Oper.same
          go_simp
          first | rfl | exact ⟨rfl, rfl⟩
        with_reducible apply Exists.intro
        with_reducible refine ⟨?_, ?_⟩
        · go_simp
          rfl
      with_reducible refine soup_q ?_ ?_ ?_
      · rfl
      · rfl
      with_reducible apply Exists.intro
      with_reducible refine ⟨fun W hk _ => ?_, ?_⟩
      · have q := (hk.cell _ HBA.out (by simp)).trans HX.out
        unfold Oper.same
        go_simp
        first | rfl | exact ⟨rfl, rfl⟩
      with_reducible apply Exists.intro
      with_reducible refine ⟨?_, ?_⟩
      · go_simp
        rfl
      with_reducible refine soup_q ?_ ?_ ?_
      · rfl
      · rfl
      with_reducible apply Exists.intro
      with_reducible refine ⟨fun W hk _ => ?_, ?_⟩
      · unfold Oper.same
        go_simp
        first | rfl | exact ⟨rfl, rfl⟩
      with_reducible apply Exists.intro
      with_reducible refine ⟨?_, ?_⟩
      · go_simp
        rfl
      with_reducible refine soup_q ?_ ?_ ?_
      · rfl
      · rfl
      with_reducible apply Exists.intro
      with_reducible refine ⟨fun W hk _ => ?_, ?_⟩
      · have q := (hk.cell _ L2.out (by simp)).trans D2.out
        unfold Oper.same
        go_simp
        first | rfl | exact ⟨rfl, rfl⟩
      with_reducible apply Exists.intro
      with_reducible refine ⟨?_, ?_⟩
      · go_simp
        rfl
      iterate 2
        with_reducible refine soup_q ?_ ?_ ?_
        · rfl
        · rfl
        with_reducible apply Exists.intro
        with_reducible refine ⟨fun W hk _ => ?_, ?_⟩
        · unfold Oper.same
          go_simp
          first | rfl | exact ⟨rfl, rfl⟩
        with_reducible apply Exists.intro
        with_reducible refine ⟨?_, ?_⟩
        · go_simp
          rfl
      with_reducible refine soup_q ?_ ?_ ?_
      · rfl
      · rfl
      with_reducible apply Exists.intro
      with_reducible refine ⟨fun W hk _ => ?_, ?_⟩
      · have q := (hk.cell _ HBB.out (by simp)).trans HY.out
        unfold Oper.same
        go_simp
        first | rfl | exact ⟨rfl, rfl⟩
      with_reducible apply Exists.intro
      with_reducible refine ⟨?_, ?_⟩
      · go_simp
        rfl
      refine soup_nil (fun W hk hS => ?_)
      have HKW := Lib.hid hk
      clear hk hS
      go_wp2_with (fail)
      go_roundw
      case rel => exact ⟨j + 1, by go_num, by omega, HK2.out.trans HKW.out⟩
      case measure => go_light; simp [intOf]; omega
    · obtain rfl : n = j := by omega
      have hjn : ¬ (n : Int) < (n : Int) := by omega
      go_wp2_with (fail)
      go_ret
      exact ⟨rfl, HK.out.trans HK2.out⟩
set_option maxRecDepth 100000 in
set_option maxHeartbeats 4000000 in
theorem same_true {base : Nat} {w : World} {v : Value} {la : Option Addr} {L : List Mo} (lc : Nat) (hv : MoRow base w v L) (hl : FlAt w la L) (hlen : L.length ≤ 1000) : Calls Tryz.prog 22 #[v, .slice la L.length lc] w fun e w' => e = .returned (.bool true) ∧ Keep [] w w' := by
  have HV := Lib.hid hv
  have HL := Lib.hid hl
  obtain ⟨av, cv, rfl, _⟩ := own_shape hv
  obtain ⟨n, hn⟩ : ∃ n, L.length = n := ⟨_, rfl⟩
  have HN := Lib.hid hn
  rw [hn] at HV hlen ⊢
  clear hv hl hn
  go_enter Tryz.func22, Tryz.ntmps22
  go_wp2_with (fail)
  go_loopw [5] (fun i wr => ∃ j : Nat, i = .int .i64 j ∧ j ≤ n ∧ Keep [] w wr) (fun i _ => n - (intOf i).toNat)
  case atStart => exact ⟨0, rfl, Nat.zero_le _, Keep.refl _ _⟩
  case round =>
    obtain ⟨j, rfl, hj, hk0⟩ := hrel
    have HKR := Lib.hid hk0
    have h0j : (0 : Int) ≤ (j : Int) := Int.natCast_nonneg j
    by_cases hlt : j < n
    · have hjn : (j : Int) < (n : Int) := by omega
      have hlj : j < L.length := by rw [HN.out]; exact hlt
      obtain ⟨x, hx⟩ : ∃ x, L[j]? = some x := ⟨L[j], List.getElem?_eq_getElem hlj⟩
      have hne : L ≠ [] := by intro e; rw [e] at hlj; simp at hlj
      have hrv := HV.out
      rw [← HN.out] at hrv
      obtain ⟨ga, ca, hv', hg0, hg1, _, hcell⟩ := rows_at Mo.len (MoRow.keep hrv hk0 (by simp)) hne
      simp only [Value.slice.injEq] at hv'
      obtain ⟨rfl, -, rfl⟩ := hv'
      obtain ⟨lb, lo, rfl, hlb, hlc⟩ := (HL.out.kept hk0).get hx
      obtain ⟨⟨x1, x2, x3, x4⟩, ⟨st, dn⟩⟩ := x
      have HC := Lib.hid (fun q u (hq : (Mo.cells ⟨⟨x1, x2, x3, x4⟩, ⟨st, dn⟩⟩)[q]? = some u) => (hcell j q _ hx (List.getElem?_eq_some_iff.1 hq).1).trans hq)
      have HD := Lib.hid hlc
      have HGA := Lib.hid hg1
      have HGB := Lib.hid hlb
      clear hrv hcell hlc hx hk0 hne
      go_wp2_with (fail)
      refine wp_region_soup 8 [] (fun _ => none) (by kernel_rfl) (by kernel_rfl) (spOk_of (l := []) (by simp)) (pre_of (l := []) (by simp)) ?_
      simp only [List.take_succ_cons, List.take_zero, List.drop_succ_cons, List.drop_zero]
      iterate 3
        with_reducible refine soup_q ?_ ?_ ?_
        · rfl
        · rfl
        with_reducible apply Exists.intro
        with_reducible refine ⟨fun W hk _ => ?_, ?_⟩
        · unfold Oper.same
          go_simp
          first | rfl | exact ⟨rfl, rfl⟩
        with_reducible apply Exists.intro
        with_reducible refine ⟨?_, ?_⟩
        · go_simp
          rfl
      with_reducible refine soup_q ?_ ?_ ?_
      · rfl
      · rfl
      with_reducible apply Exists.intro
      with_reducible refine ⟨fun W hk _ => ?_, ?_⟩
      · have p0 : W.cell? ⟨ga, j * 6, none⟩ = some (.int .i64 x1) := (hk.cell _ HGA.out (by simp)).trans (HC.out 0 _ rfl)
        have p1 := (hk.cell _ HGA.out (by simp)).trans (HC.out 1 _ rfl)
        have p2 := (hk.cell _ HGA.out (by simp)).trans (HC.out 2 _ rfl)
        have p3 := (hk.cell _ HGA.out (by simp)).trans (HC.out 3 _ rfl)
        have p4 := (hk.cell _ HGA.out (by simp)).trans (HC.out 4 _ rfl)
        have p5 := (hk.cell _ HGA.out (by simp)).trans (HC.out 5 _ rfl)
        unfold Oper.same
        go_simp
        first | rfl | exact ⟨rfl, rfl⟩
      with_reducible apply Exists.intro
      with_reducible refine ⟨?_, ?_⟩
      · go_simp
        rfl
      iterate 3
        with_reducible refine soup_q ?_ ?_ ?_
        · rfl
        · rfl
        with_reducible apply Exists.intro
        with_reducible refine ⟨fun W hk _ => ?_, ?_⟩
        · unfold Oper.same
          go_simp
          first | rfl | exact ⟨rfl, rfl⟩
        with_reducible apply Exists.intro
        with_reducible refine ⟨?_, ?_⟩
        · go_simp
          rfl
      with_reducible refine soup_q ?_ ?_ ?_
      · rfl
      · rfl
      with_reducible apply Exists.intro
      with_reducible refine ⟨fun W hk _ => ?_, ?_⟩
      · have p0 : W.cell? ⟨lb, lo + j * 6, none⟩ = some (.int .i64 x1) := (hk.cell _ HGB.out (by simp)).trans (HD.out 0 _ rfl)
        have p1 := (hk.cell _ HGB.out (by simp)).trans (HD.out 1 _ rfl)
        have p2 := (hk.cell _ HGB.out (by simp)).trans (HD.out 2 _ rfl)
        have p3 := (hk.cell _ HGB.out (by simp)).trans (HD.out 3 _ rfl)
        have p4 := (hk.cell _ HGB.out (by simp)).trans (HD.out 4 _ rfl)
        have p5 := (hk.cell _ HGB.out (by simp)).trans (HD.out 5 _ rfl)
        unfold Oper.same
        go_simp
        first | rfl | exact ⟨rfl, rfl⟩
      with_reducible apply Exists.intro
      with_reducible refine ⟨?_, ?_⟩
      · go_simp
        rfl
      refine soup_nil (fun W hk hS => ?_)
      have HKW := Lib.hid (HKR.out.trans hk)
      clear hk hS
      go_wp2_with (fail)
      go_roundw
      case rel => exact ⟨j + 1, by go_num, by omega, HKW.out⟩
      case measure => go_light; simp [intOf]; omega
    · have hjn : ¬ (j : Int) < (n : Int) := by omega
      go_wp2_with (fail)
      go_ret
      exact ⟨rfl, HKR.out⟩
end
section
open Go.RowKit Go.Lib
set_option linter.unusedSimpArgs false
set_option linter.unusedVariables false
set_option maxRecDepth 100000 in
set_option maxHeartbeats 4000000 in
theorem packets_true {b1 b2 : Nat} {w : World} {v u : Value} {l : List Pk} (hv : PRow b1 w v l) (hu : PRow b2 w u l) (hlen : l.length ≤ 100000) : Calls Tryz.prog 19 #[v, u] w fun e w' => e = .returned (.bool true) ∧ Keep [] w w' := by
  have HV := Lib.hid hv
  have HU := Lib.hid hu
  obtain ⟨av, cv, rfl, _⟩ := own_shape hv
  obtain ⟨au, cu, rfl, _⟩ := own_shape hu
  obtain ⟨nl, hnl⟩ : ∃ nl, l.length = nl := ⟨_, rfl⟩
  have HNL := Lib.hid hnl
  rw [hnl] at HV HU hlen ⊢
  clear hv hu hnl
  go_enter Tryz.func19, Tryz.ntmps19
  go_wp2_with (fail)
  go_loopw [5] (fun i wr => ∃ j : Nat, i = .int .i64 j ∧ j ≤ nl ∧ Keep [] w wr) (fun i _ => nl - (intOf i).toNat)
  case atStart => exact ⟨0, rfl, Nat.zero_le _, Keep.refl _ _⟩
  case round =>
    obtain ⟨j, rfl, hj, hk0⟩ := hrel
    have HKR := Lib.hid hk0
    have h0j : (0 : Int) ≤ (j : Int) := Int.natCast_nonneg j
    by_cases hlt : j < nl
    · have hjn : (j : Int) < (nl : Int) := by omega
      have hlj : j < l.length := by rw [HNL.out]; exact hlt
      obtain ⟨x, hx⟩ : ∃ x, l[j]? = some x := ⟨l[j], List.getElem?_eq_getElem hlj⟩
      have hne : l ≠ [] := by intro e; rw [e] at hlj; simp at hlj
      have hrv := HV.out
      have hru := HU.out
      rw [← HNL.out] at hrv hru
      obtain ⟨ga, ca, hv', hg0, hg1, _, hcell⟩ := rows_at Pk.len (PRow.keep hrv hk0 (by simp)) hne
      obtain ⟨gb, cb, hu', hh0, hh1, _, hcel2⟩ := rows_at Pk.len (PRow.keep hru hk0 (by simp)) hne
      simp only [Value.slice.injEq] at hv' hu'
      obtain ⟨rfl, -, rfl⟩ := hv'
      obtain ⟨rfl, -, rfl⟩ := hu'
      have x0 := hcell j 0 _ hx (by omega)
      have x1 := hcell j 1 _ hx (by omega)
      have x2 := hcell j 2 _ hx (by omega)
      have y0 := hcel2 j 0 _ hx (by omega)
      have y1 := hcel2 j 1 _ hx (by omega)
      have y2 := hcel2 j 2 _ hx (by omega)
      obtain ⟨to, dt⟩ := x
      simp only [Pk.cells, List.getElem?_cons_zero, List.getElem?_cons_succ, Nat.add_zero] at x0 x1 x2 y0 y1 y2
      obtain ⟨ds, hds⟩ : ∃ ds : ByteArray, ⟨dt.toArray⟩ = ds := ⟨_, rfl⟩
      rw [hds] at x2 y2
      have HX0 := Lib.hid x0
      have HX1 := Lib.hid x1
      have HX2 := Lib.hid x2
      have HY0 := Lib.hid y0
      have HY1 := Lib.hid y1
      have HY2 := Lib.hid y2
      have HGA := Lib.hid hg1
      have HGB := Lib.hid hh1
      clear hrv hru hcell hcel2 hx x0 x1 x2 y0 y1 y2 hds hk0 hne
      go_wp2_with (fail)
      refine wp_region_soup 8 [] (fun _ => none) (by kernel_rfl) (by kernel_rfl) (spOk_of (l := []) (by simp)) (pre_of (l := []) (by simp)) ?_
      simp only [List.take_succ_cons, List.take_zero, List.drop_succ_cons, List.drop_zero]
      iterate 3
        with_reducible refine soup_q ?_ ?_ ?_
        · rfl
        · rfl
        with_reducible apply Exists.intro
        with_reducible refine ⟨fun W hk _ => ?_, ?_⟩
        · unfold Oper.same
          go_simp
          first | rfl | exact ⟨rfl, rfl⟩
        with_reducible apply Exists.intro
        with_reducible refine ⟨?_, ?_⟩
        · go_simp
          rfl
      with_reducible refine soup_q ?_ ?_ ?_
      · rfl
      · rfl
      with_reducible apply Exists.intro
      with_reducible refine ⟨fun W hk _ => ?_, ?_⟩
      · have q0 := (hk.cell _ HGA.out (by simp)).trans HX0.out
        have q1 := (hk.cell _ HGA.out (by simp)).trans HX1.out
        have q2 := (hk.cell _ HGA.out (by simp)).trans HX2.out
        unfold Oper.same
        go_simp
        first | rfl | exact ⟨rfl, rfl⟩
      with_reducible apply Exists.intro
      with_reducible refine ⟨?_, ?_⟩
      · go_simp
        rfl
      iterate 3
        with_reducible refine soup_q ?_ ?_ ?_
        · rfl
        · rfl
        with_reducible apply Exists.intro
        with_reducible refine ⟨fun W hk _ => ?_, ?_⟩
        · unfold Oper.same
          go_simp
          first | rfl | exact ⟨rfl, rfl⟩
        with_reducible apply Exists.intro
        with_reducible refine ⟨?_, ?_⟩
        · go_simp
          rfl
      with_reducible refine soup_q ?_ ?_ ?_
      · rfl
      · rfl
      with_reducible apply Exists.intro
      with_reducible refine ⟨fun W hk _ => ?_, ?_⟩
      · have q0 := (hk.cell _ HGB.out (by simp)).trans HY0.out
        have q1 := (hk.cell _ HGB.out (by simp)).trans HY1.out
        have q2 := (hk.cell _ HGB.out (by simp)).trans HY2.out
        unfold Oper.same
        go_simp
        first | rfl | exact ⟨rfl, rfl⟩
      with_reducible apply Exists.intro
      with_reducible refine ⟨?_, ?_⟩
      · go_simp
        rfl
      refine soup_nil (fun W hk hS => ?_)
      have HKW := Lib.hid (HKR.out.trans hk)
      clear hk hS
      go_wp2_with (fail)
      go_roundw
      case rel => exact ⟨j + 1, by go_num, by omega, HKW.out⟩
      case measure => go_light; simp [intOf]; omega
    · have hjn : ¬ (j : Int) < (nl : Int) := by omega
      go_wp2_with (fail)
      go_ret
      exact ⟨rfl, HKR.out⟩
end
section
open Go.RowKit Go.Lib
set_option linter.unusedSimpArgs false
set_option linter.unusedVariables false
theorem tick_len {c : Cd} (h : CdFine c) : (tickF c).length ≤ 1000 := by
  rw [tick_tk]
  simp only [List.length_append, List.length_map, List.length_range]
  have h1 := tkP_len c (movesF c)
  have h2 : (movesF c).length ≤ 400 := by unfold movesF; simp only [List.length_map]; exact h.num
  have h3 := h.nd
  omega
theorem moves_num {c : Cd} (h : CdFine c) : (movesF c).length ≤ 400 := by unfold movesF; simp only [List.length_map]; exact h.num
theorem szAct {cs : List Value} (h : cs.length = 28) : (Tryz.prog.info? 56).map (·.size) = some cs.length := by
  rw [h]
  kernel_rfl
def zAct : Array Value := #[.int .i64 0, .int .i64 0, .int .i64 0, .int .i64 0, .int .u8 0, .int .i64 0, .int .i64 0, .int .i64 0, .int .i64 0, .int .i64 0, .int .i64 0, .int .u64 0, .int .i64 0, .int .i64 0, .int .i64 0, .int .i64 0, .int .u8 0, .string ⟨#[]⟩, .int .i64 0, .int .i64 0, .int .i64 0, .int .i64 0, .int .i64 0, .slice none 0 0, .slice none 0 0, .string ⟨#[]⟩, .int .i64 0, .int .i64 0]
/-- An act goes into new memory. -/
theorem store_act (w : World) {x : Ac} (hx : x.Ok) : ∃ w', (storeVar 56 ⟨w.heap.size, 0, none⟩ (.agg x.cells.toArray)).run Tryz.prog (w.alloc (.cells zAct 56)) = .ok () w' ∧ Keep [] w w' ∧ ActAt w' w.heap.size x x.cells.toArray := by
  have hz : (w.alloc (.cells zAct 56)).heap[w.heap.size]? = some (.cells zAct 56 (0, 0)) := World.alloc_heap_new w _
  have hl := Ac.len hx
  have h1 : x.cells.toArray.all (·.oneCell') = true := by
    have h := hx.1.one
    have hi : ∀ (k : IntKind) (i : Int), (Value.int k i).oneCell' = true := fun _ _ => rfl
    simp [Ac.cells, hi]
    simpa using h
  refine ⟨_, run_storeVar_row (P := Tryz.prog) _ w.heap.size 56 56 _ x.cells.toArray hz (by rw [List.size_toArray]; exact szAct hl) (Eq.trans (show zAct.size = 28 from rfl) (by rw [List.size_toArray, hl])) h1, ?_, ?_⟩
  · exact ((Keep.refl _ _).alloc _).setRow _ _ (.inr (Nat.le_refl _))
  · exact ActAt.of hx (setRow_heap _ w.heap.size _ _ _ _ hz)
theorem ActAt.whole {W : World} {g : Nat} {x : Ac} {cs : Array Value} (h : ActAt W g x cs) {cl : List Value} (hc : cl.toArray = cs) : W.rangeAt g 0 cl := fun j v hj => by
  unfold World.cell?
  rw [h.blk, Nat.zero_add, ← hc]
  simpa using hj
/-- A row of packets; a row of moves; a table. -/
def Spec.pr (n : Nat) (l : List Pk) : Spec := { p := fun _ _ => True, A := fun _ v w => PRow n w v l }
theorem Spec.pr_ok (n : Nat) (l : List Pk) : (Spec.pr n l).ok := ⟨fun x v w w' h hk => PRow.keep h hk (by simp), fun _ _ _ h => h, fun _ => trivial, fun _ => ⟨undef, trivial⟩⟩
def Spec.mov (n : Nat) (l : List Mo) : Spec := { p := fun _ v => ∃ a c, v = .slice a l.length c, A := fun _ v w => MoRow n w v l }
theorem Spec.mov_ok (n : Nat) (l : List Mo) : (Spec.mov n l).ok :=
  ⟨fun x v w w' h hk => MoRow.keep h hk (by simp), fun _ _ _ h => h, fun _ => trivial, fun _ => ⟨_, none, 0, rfl⟩⟩
def Spec.tbl (n : Nat) (ep nd : Int) (own : List Int) : Spec := { p := fun _ v => ∃ a c, v = .agg #[.int .i64 ep, .int .i64 nd, .slice a own.length c], A := fun _ v w => ∃ a c, v = .agg #[.int .i64 ep, .int .i64 nd, .slice a own.length c] ∧ IRow n w (.slice a own.length c) own }
theorem Spec.tbl_ok (n : Nat) (ep nd : Int) (own : List Int) : (Spec.tbl n ep nd own).ok :=
  ⟨fun _ v w w' ⟨a, c, h1, h2⟩ hk => ⟨a, c, h1, h2.keep hk (by simp)⟩, fun _ _ _ h => h, fun _ => trivial, fun _ => ⟨_, none, 0, rfl⟩⟩
theorem field_tb (a b c : Value) (W : World) : (Instr.field 24 (.agg #[a, b, c]) 0).run Tryz.prog W = .ok a W := by kernel_rfl
/-- An address apart from the coordinator's blocks. -/
def Apt (F : List Nat) (n5 : Nat) (W : World) (a : Option Addr) : Prop := ∀ b off, a = some ⟨b, off, none⟩ → b ∉ F ∧ b ≠ n5 ∧ b < W.heap.size
theorem Apt.keep {F : List Nat} {n5 : Nat} {W W' : World} {a : Option Addr} (h : Apt F n5 W a) (hs : W.heap.size ≤ W'.heap.size) : Apt F n5 W' a := fun b off e => ⟨(h b off e).1, (h b off e).2.1, Nat.lt_of_lt_of_le (h b off e).2.2 hs⟩
/-- The document's coordinator as a value, its rows in memory, apart from the program's blocks. -/
def DocP (F : List Nat) (n5 : Nat) (d : Dx) (cs : Array Value) (W : World) : Prop := ∃ oa oc la lc, cs = d.cells oa oc la lc ∧ IntsAt W oa d.own ∧ FlAt W la d.L ∧ d.L.length ≤ lc ∧ Apt F n5 W oa ∧ Apt F n5 W la
theorem DocP.size {F : List Nat} {n5 : Nat} {d : Dx} {cs : Array Value} {W : World} (h : DocP F n5 d cs W) : cs.size = 7 := by
  obtain ⟨oa, oc, la, lc, rfl, _⟩ := h
  rfl
theorem DocP.one {F : List Nat} {n5 : Nat} {d : Dx} {cs : Array Value} {W : World} (h : DocP F n5 d cs W) : cs.all (·.oneCell') = true := by
  obtain ⟨oa, oc, la, lc, rfl, _⟩ := h
  simp [Dx.cells, Value.oneCell']
theorem DocP.keep {X F : List Nat} {n5 : Nat} {d : Dx} {cs : Array Value} {W W' : World} (h : DocP F n5 d cs W) (hk : Keep X W W') (hX : ∀ x ∈ X, x ∈ F ∨ x = n5) : DocP F n5 d cs W' := by
  obtain ⟨oa, oc, la, lc, h1, h2, h3, h4, h5, h6⟩ := h
  have hout : ∀ a, Apt F n5 W a → ∀ b off, a = some ⟨b, off, none⟩ → b ∉ X := fun a ha b off e hb => by
    rcases hX b hb with h | h
    · exact (ha b off e).1 h
    · exact (ha b off e).2.1 h
  exact ⟨oa, oc, la, lc, h1, h2.keep hk (fun _ b off e => hout oa h5 b off e), h3.keep hk (fun _ b off e => hout la h6 b off e), h4, h5.keep hk.size, h6.keep hk.size⟩
theorem DocP.act {F F' : List Nat} {n5 : Nat} {d : Dx} {cs : Array Value} {W W' : World} (h : DocP F n5 d cs W) (hk : Keep F W W') (hu : CoUp W F F') : DocP F' n5 d cs W' := by
  obtain ⟨oa, oc, la, lc, h1, h2, h3, h4, h5, h6⟩ := h
  have hup : ∀ a, Apt F n5 W a → Apt F' n5 W' a := fun a ha b off e => ⟨fun hb => by
    rcases hu b hb with h | h
    · exact (ha b off e).1 h
    · have := (ha b off e).2.2
      omega, (ha b off e).2.1, Nat.lt_of_lt_of_le (ha b off e).2.2 hk.size⟩
  exact ⟨oa, oc, la, lc, h1, h2.keep hk (fun _ b off e => (h5 b off e).1), h3.keep hk (fun _ b off e => (h6 b off e).1), h4, hup oa h5, hup la h6⟩
structure RelX (n3 n5 p : Nat) (W : World) (c : Cd) (d : Dx) (F : List Nat) (cb cs : Array Value) (w : World) : Prop where
  co : CoS w p F c
  lo : ∀ x ∈ F, n3 ≤ x
  nf : n5 ∉ F
  blk : w.heap[n5]? = some (.cells cb 54 (0, 0))
  doc : DocP F n5 d cs w
  keep : Keep [] W w
  sz : n3 ≤ w.heap.size
  base : W.heap.size ≤ n3
  own5 : W.heap.size ≤ n5
section
variable {n3 n5 p : Nat} {W w w' : World} {c c' : Cd} {d d' : Dx} {F : List Nat} {cb cs cs' : Array Value}
theorem RelX.kept (h : RelX n3 n5 p W c d F cb cs w) (hk : Keep [] w w') : RelX n3 n5 p W c d F cb cs w' :=
  ⟨h.co.kept hk, h.lo, h.nf, (hk.block _ (lt_of_heap h.blk) (by simp)).trans h.blk, h.doc.keep hk (by simp), h.keep.trans hk, Nat.le_trans h.sz hk.size, h.base, h.own5⟩
theorem RelX.dx {oa la : Option Addr} {oc lc : Nat} (h : RelX n3 n5 p W c d F cb cs w) (hcs : cs = d.cells oa oc la lc) (hk : Keep [] w w') (hd : DxP w oa la d' cs' w') : RelX n3 n5 p W c d' F cb cs' w' := by
  have h' := h.kept hk
  obtain ⟨oa', oc', la', lc', e, h1, h2, h3, h4, h5⟩ := hd
  obtain ⟨oa0, oc0, la0, lc0, e0, _, _, _, a1, a2⟩ := h.doc
  have e1 := hcs.symm.trans e0
  simp only [Dx.cells, Array.mk.injEq, List.cons.injEq, Value.slice.injEq, true_and, and_true] at e1
  obtain ⟨⟨rfl, rfl⟩, rfl, rfl⟩ := e1
  have hb := lt_of_heap h.blk
  have hnew : ∀ a, NewA w w' a → Apt F n5 w' a := fun a ha b off e => by
    obtain ⟨n1, n2⟩ := ha b off e
    exact ⟨fun hm => by have := h.co.lt b hm; omega, by omega, n2⟩
  exact { h' with doc := ⟨oa', oc', la', lc', e, h1, h2, h3, h4.elim (fun e => by rw [e]; exact a1.keep hk.size) (hnew _), h5.elim (fun e => by rw [e]; exact a2.keep hk.size) (hnew _)⟩ }
theorem RelX.put (h : RelX n3 n5 p W c d F cb cs w) (hk : Keep [n5] w w') (hb : w'.heap[n5]? = some (.cells cs 54 (0, 0))) : RelX n3 n5 p W c d F cs cs w' :=
  ⟨h.co.keep hk (fun b hm hx => by simp at hx; subst hx; exact h.nf hm), h.lo, h.nf, hb, h.doc.keep hk (fun x hx => .inr (by simpa using hx)), h.keep.step hk (fun y hy => .inr (by simp at hy; subst hy; exact h.own5)), Nat.le_trans h.sz hk.size, h.base, h.own5⟩
theorem RelX.act (h : RelX n3 n5 p W c d F cb cs w) (hn : CoN w p F w' c') : ∃ F', RelX n3 n5 p W c' d F' cb cs w' := by
  obtain ⟨F', hc, hk, hu⟩ := hn
  have hb := lt_of_heap h.blk
  exact ⟨F', hc, fun x hx => by
    rcases hu x hx with h1 | h1
    · exact h.lo x h1
    · exact Nat.le_trans h.sz h1, fun hx => by
    rcases hu _ hx with h1 | h1
    · exact h.nf h1
    · omega, (hk.block _ hb h.nf).trans h.blk, h.doc.act hk hu, h.keep.step hk (fun y hy => .inr (Nat.le_trans h.base (h.lo y hy))), Nat.le_trans h.sz hk.size, h.base, h.own5⟩
end
def zDx : Array Value := #[.int .i64 0, .int .i64 0, .slice none 0 0, .slice none 0 0, .int .i64 0, .int .i64 0, .int .i64 0]
theorem szDx {cs : Array Value} (h : cs.size = 7) : (Tryz.prog.info? 54).map (·.size) = some cs.size := by
  rw [h]
  kernel_rfl
/-- A document's coordinator goes into new memory. -/
theorem new_dx (w : World) {cs : Array Value} (h7 : cs.size = 7) (h1 : cs.all (·.oneCell') = true) : ∃ w', (storeVar 54 ⟨w.heap.size, 0, none⟩ (.agg cs)).run Tryz.prog (w.alloc (.cells zDx 54)) = .ok () w' ∧ Keep [] w w' ∧ w'.heap[w.heap.size]? = some (.cells cs 54 (0, 0)) := by
  have hz : (w.alloc (.cells zDx 54)).heap[w.heap.size]? = some (.cells zDx 54 (0, 0)) := World.alloc_heap_new w _
  refine ⟨_, run_storeVar_row (P := Tryz.prog) _ w.heap.size 54 54 _ cs hz (szDx h7) (Eq.trans (show zDx.size = 7 from rfl) h7.symm) h1, ?_, ?_⟩
  · exact ((Keep.refl _ _).alloc _).setRow _ _ (.inr (Nat.le_refl _))
  · exact setRow_heap _ w.heap.size _ _ _ _ hz
/-- It is written over another one. -/
theorem set_dx {w : World} {g : Nat} {cb cs : Array Value} (hb : w.heap[g]? = some (.cells cb 54 (0, 0))) (hc : cb.size = 7) (h7 : cs.size = 7) (h1 : cs.all (·.oneCell') = true) : ∃ w', (storeVar 54 ⟨g, 0, none⟩ (.agg cs)).run Tryz.prog w = .ok () w' ∧ Keep [g] w w' ∧ w'.heap[g]? = some (.cells cs 54 (0, 0)) := by
  refine ⟨_, run_storeVar_row (P := Tryz.prog) _ g 54 54 _ cs hb (szDx h7) (by rw [hc, h7]) h1, ?_, ?_⟩
  · exact (Keep.refl _ _).setRow _ _ (.inl (by simp))
  · exact setRow_heap _ g _ _ _ _ hb
end
end Go.Proofs.YteejdfpfdnkiiaaGreat
