/- The coordinator: Tick. -/
import Derived.Test.YteejdfpfdnkiiaaGreatPg
import Derived.Test.YteejdfpfdnkiiaaGreatCcJ
namespace Go.Proofs.YteejdfpfdnkiiaaGreat
open Go.RowKit Go.Lib
open Go.ChangeMaps (setBlock)
set_option linter.unusedSimpArgs false
set_option linter.unusedVariables false
def m4 (x : En) : Mg := ⟨4, x.mv.toNat, x.part.toNat, x.to.toNat, 0, 0, []⟩
def m12 (x : En) : Mg := ⟨12, x.mv.toNat, x.part.toNat, 0, 0, 0, []⟩
def m11 (c : Cd) (x : En) : Mg := ⟨11, x.mv.toNat, x.part.toNat, 0, c.ep.toNat, c.nd.toNat, c.own⟩
def m14 (c : Cd) : Mg := ⟨14, 0, 0, 0, c.ep.toNat, c.nd.toNat, c.own⟩
/-- What a move's sides are told at a tick. -/
def tickOf (c : Cd) (x : En) (s : St) : List Pk :=
  if s.st = 1 then [⟨x.fr, frameB (m4 x).enc⟩]
  else if s.st = 2 then
    (if s.dn = 2 then [⟨x.fr, frameB (m11 c x).enc⟩] else []) ++ (if s.dn = 0 ∨ s.dn = 1 then [⟨x.to, frameB (m11 c x).enc⟩] else [])
  else
    (if s.dn = 0 ∨ s.dn = 2 then [⟨x.fr, frameB (m12 x).enc⟩] else []) ++ (if s.dn = 0 ∨ s.dn = 1 then [⟨x.to, frameB (m12 x).enc⟩] else [])
theorem tickOf_len (c : Cd) (x : En) (s : St) : (tickOf c x s).length ≤ 2 := by
  unfold tickOf
  split
  · simp
  · split <;> (rw [List.length_append]; split <;> split <;> simp)
def newsOf (c : Cd) (n : Int) : Pk := ⟨n, frameB (m14 c).enc⟩
def tickF (c : Cd) : List Pk := ((c.m.map (·.2)).flatMap fun x => tickOf c x (atOf x.mv c.at_)) ++ ((List.range c.nd.toNat).map fun (n : Nat) => newsOf c n) ++ ((List.range 4).map fun (n : Nat) => newsOf c (4 + n))
/-- What a coordinator's messages want of it. -/
structure CdFine (c : Cd) : Prop where
  mem : ∀ x ∈ c.m.map (·.2), (0 ≤ x.mv ∧ x.mv ≤ 2147483647) ∧ (0 ≤ x.part ∧ x.part ≤ 2147483647) ∧ (0 ≤ x.fr ∧ x.fr ≤ 2147483647) ∧ (0 ≤ x.to ∧ x.to ≤ 2147483647)
  ep : 0 ≤ c.ep ∧ c.ep ≤ 2147483647
  nd : 0 ≤ c.nd ∧ c.nd ≤ 4
  own : ∀ x ∈ c.own, 0 ≤ x ∧ x ≤ 2147483647
  len : c.own.length ≤ 64
  num : c.m.length ≤ 400
  dn : ∀ k, (atOf k c.at_).dn ≤ 3
/-- The message's kind is written. -/
def Spec.set1 (mb : Nat) (cs : Array Value) (n : Nat) : Spec := { p := fun _ v => v = undef, A := fun _ _ w => MsAt w mb (cs.setIfInBounds 0 (.int .u8 n)), B := fun w => MsAt w mb cs, G := fun _ => Keep [mb] }
set_option maxRecDepth 100000 in
set_option maxHeartbeats 16000000 in
theorem ctick_any {w : World} {p : Nat} {oa : Option Addr} {oc bp : Nat} {om : Option Nat} {ab : Nat} {c : Cd} (h : CoAt w p oa oc bp om ab c) (hf : CdFine c) (hord : (c.m.map (·.2)).Pairwise (fun x y => x.mv < y.mv)) : Calls Tryz.prog 10 #[.pointer (some ⟨p, 0, none⟩)] w fun e w' => ∃ v, e = .returned v ∧ PRow w.heap.size w' v (tickF c) ∧ Keep [] w w' := by
  have hall := all_any h.book (by have := hf.num; omega) hord
  obtain ⟨hmem, hep, hnd, hown, hlen, hnum, hdn⟩ := hf
  obtain ⟨ep, nd, own, m, last, at_, com, abo⟩ := c
  simp only at hall hmem hep hnd hown hlen hnum hdn hord
  obtain ⟨ep, rfl⟩ := Int.eq_ofNat_of_zero_le hep.1
  obtain ⟨nd, rfl⟩ := Int.eq_ofNat_of_zero_le hnd.1
  obtain ⟨L, hL⟩ : ∃ L, m.map (·.2) = L := ⟨_, rfl⟩
  have hLl : L.length ≤ 400 := by rw [← hL, List.length_map]; exact hnum
  have hep2 : ep ≤ 2147483647 := by omega
  have hnd2 : nd ≤ 4 := by omega
  obtain ⟨C, hC⟩ : ∃ C : Cd, (⟨(ep : Int), (nd : Int), own, m, last, at_, com, abo⟩ : Cd) = C := ⟨_, rfl⟩
  have htf : tickF C = (L.flatMap fun x => tickOf C x (atOf x.mv at_)) ++ ((List.range nd).map fun (n : Nat) => newsOf C n) ++ ((List.range 4).map fun (n : Nat) => newsOf C (4 + n)) := by unfold tickF; rw [← hC, hL]; simp
  have h14 : m14 C = ⟨14, 0, 0, 0, ep, nd, own⟩ := by unfold m14; rw [← hC]; simp
  have h11 : ∀ x, m11 C x = ⟨11, x.mv.toNat, x.part.toNat, 0, ep, nd, own⟩ := fun x => by unfold m11; rw [← hC]; simp
  rw [hL] at hall hmem
  rw [hC, htf]
  unfold AllP at hall
  have HALL := Lib.hid hall
  have HC := Lib.hid h
  have HMEM := Lib.hid hmem
  have HOWN := Lib.hid hown
  have HDN := Lib.hid hdn
  have H14 := Lib.hid h14
  have H11 := Lib.hid h11
  clear h hall hL hord hnum hmem hown hdn hC htf h14 h11 hep hnd
  go_enter Tryz.func10, Tryz.ntmps10
  go_wp2_with (fail)
  refine (none_any HC.out).mono ?_
  rintro e w0 ⟨rfl, hw0⟩
  rw [hw0]
  clear hw0
  obtain ⟨c0, c1, c2, c3, c4, c5, c6, c7⟩ := HC.out.facts
  simp only at c0 c1 c2 c3 c4 c5 c6
  go_wp2_with (fail)
  refine HALL.out.mono ?_
  rintro e w1 ⟨A, cA, rfl, hE, hB⟩
  have hk1 : Keep [] w w1 := Keep.of_below hB []
  clear c0 c1 c2 c3 c4 c5 c6 c7
  have HC1 := Lib.hid (HC.out.kept hk1)
  have HE1 := Lib.hid hE
  have HK1 := Lib.hid hk1
  clear hE hB hk1
  go_wp2_with (fail)
  go_loopw [3, 20] (fun v i wr => ∃ j : Nat, i = .int .i64 j ∧ j ≤ L.length ∧ Keep [] w1 wr ∧ PRow w1.heap.size wr v ((L.take j).flatMap fun x => tickOf C x (atOf x.mv at_))) (fun _ i _ => L.length - (intOf i).toNat)
  case atStart => exact ⟨0, rfl, Nat.zero_le _, Keep.refl _ _, World.ownsRow_nil _ _ _ _⟩
  case round =>
    obtain ⟨j, rfl, hj, hk, hrow⟩ := hrel
    have h0j : (0 : Int) ≤ (j : Int) := Int.natCast_nonneg j
    obtain ⟨av, cv, rfl, _⟩ := own_shape hrow
    have HK := Lib.hid hk
    have HR := Lib.hid hrow
    clear hk hrow
    by_cases hlt : j < L.length
    · have hjn : (j : Int) < (L.length : Int) := by omega
      obtain ⟨x, hx⟩ : ∃ x, L[j]? = some x := ⟨L[j], List.getElem?_eq_getElem hlt⟩
      obtain ⟨g, rfl, hg0, hg1, h0, h1, h2, h3⟩ := ensAt_cells (HE1.out.below (HK.out.below (Nat.le_refl _) (by simp))) hx
      have ht : L.take (j + 1) = L.take j ++ [x] := by rw [List.take_add_one, hx]; rfl
      have hxm := HMEM.out x (List.mem_of_getElem? hx)
      obtain ⟨⟨st, dn⟩, hst⟩ : ∃ s, atOf x.mv at_ = s := ⟨_, rfl⟩
      have hdn3 := HDN.out x.mv
      rw [hst] at hdn3
      have hnext : (L.take (j + 1)).flatMap (fun x => tickOf C x (atOf x.mv at_)) = (L.take j).flatMap (fun x => tickOf C x (atOf x.mv at_)) ++ tickOf C x ⟨st, dn⟩ := by rw [ht, List.flatMap_append]; simp [hst]
      obtain ⟨x1, x2, x3, x4⟩ := x
      simp only at h0 h1 h2 h3 hst hxm hdn3
      obtain ⟨⟨hx1, hx1'⟩, ⟨hx2, hx2'⟩, ⟨hx3, hx3'⟩, ⟨hx4, hx4'⟩⟩ := hxm
      obtain ⟨x1, rfl⟩ := Int.eq_ofNat_of_zero_le hx1
      obtain ⟨x2, rfl⟩ := Int.eq_ofNat_of_zero_le hx2
      obtain ⟨x4, rfl⟩ := Int.eq_ofNat_of_zero_le hx4
      obtain ⟨M, hM⟩ : ∃ M, (L.take j).flatMap (fun x => tickOf C x (atOf x.mv at_)) = M := ⟨_, rfl⟩
      have hMl : M.length ≤ 2 * j := by
        rw [← hM, List.length_flatMap]
        have h1 : ∀ l : List En, (l.map fun x => (tickOf C x (atOf x.mv at_)).length).sum ≤ 2 * l.length := by
          intro l
          induction l with
          | nil => simp
          | cons y r ih =>
            rw [List.map_cons, List.sum_cons, List.length_cons]
            have := tickOf_len C y (atOf y.mv at_)
            omega
        have h2 := h1 (L.take j)
        rw [List.length_take] at h2
        omega
      have hlM : (List.flatMap (fun x => tickOf C x (atOf x.mv at_)) (List.take j L)).length = M.length := by rw [hM]
      rw [hM] at HR hnext
      rw [hlM]
      obtain ⟨w2, hw2⟩ : ∃ u, wr.alloc (.cells #[.int .i64 x1, .int .i64 x2, .int .i64 x3, .int .i64 x4] 78) = u := ⟨_, rfl⟩
      have s2 : w2.heap.size = wr.heap.size + 1 := by rw [← hw2, World.size_alloc]
      have k2 : Keep [] wr w2 := by rw [← hw2]; exact (Keep.refl _ _).alloc _
      have he2 : EnAt w2 wr.heap.size ⟨x1, x2, x3, x4⟩ := by rw [← hw2]; exact World.alloc_heap_new wr _
      obtain ⟨w3, hw3⟩ : ∃ u, w2.alloc (.cells #[.int .u8 0, .int .i64 0, .int .i64 0, .int .i64 0, .int .i64 0, .int .i64 0, .int .i64 0, .int .u64 0, .int .i64 0, .int .i64 0, .int .i64 0, .int .i64 0, .int .u8 0, .string ⟨#[]⟩, .int .i64 0, .int .i64 0, .int .i64 0, .int .i64 0, .int .i64 0, .slice none 0 0, .slice none 0 0, .string ⟨#[]⟩] 47) = u := ⟨_, rfl⟩
      have s3 : w3.heap.size = wr.heap.size + 2 := by rw [← hw3, World.size_alloc, s2]
      have k3 : Keep [] w2 w3 := by rw [← hw3]; exact (Keep.refl _ _).alloc _
      have z3 : MsAt w3 (wr.heap.size + 1) (msC 0 0 0 0 0 0 (.slice none 0 0)) := by rw [← hw3, ← s2]; exact World.alloc_heap_new w2 _
      obtain ⟨w4, hw4⟩ : ∃ u, w3.setRow (wr.heap.size + 1) (msC 12 x1 x2 0 0 0 (.slice none 0 0)) = u := ⟨_, rfl⟩
      have k4 : Keep [wr.heap.size + 1] w3 w4 := by rw [← hw4]; exact (Keep.refl _ _).setRow _ _ (.inl (by simp))
      have hst4 := run_storeVar_row (P := Tryz.prog) w3 (wr.heap.size + 1) 47 47 _ (msC 12 x1 x2 0 0 0 (.slice none 0 0)) z3 (by kernel_rfl) rfl (by simp [msC, Value.oneCell'])
      rw [hw4] at hst4
      have z4 : MsAt w4 (wr.heap.size + 1) (msC 12 x1 x2 0 0 0 (.slice none 0 0)) := by rw [← hw4]; exact z3.row
      have hk24 : Keep [] w2 w4 := k3.step k4 (by simp [s2])
      have k04 : Keep [] wr w4 := k2.trans hk24
      have e3 := (he2.keep k3 (by simp))
      obtain ⟨q0, q1, q2, q3, q4⟩ := he2.facts
      have HST4 := Lib.hid hst4
      have HC := Lib.hid ((HC1.out.kept HK.out).kept k04)
      have HE := Lib.hid (he2.keep hk24 (by simp))
      have HR := Lib.hid (HR.out.keep k04 (by simp))
      have hkw := HK.out.size
      have HK := Lib.hid (HK.out.trans k04)
      have HM := Lib.hid z4
      have HN := Lib.hid hnext
      have HST := Lib.hid hst
      have hpl := lt_of_heap HC.out.blk
      have hel := lt_of_heap HE.out
      have hml := lt_of_heap z4
      have hpw := lt_of_heap HC1.out.blk
      have HSZ4 : Hid (w4.heap.size = wr.heap.size + 2) := Lib.hid (by rw [← hw4]; simpa using s3)
      clear he2 k2 k3 k4 z3 z4 hnext hst hlM hM ht hx hst4 hw4 hk24 k04 e3 hx1 hx2 hx4
      go_wp2_with (((with_reducible refine wpList_store_all ?_ 47 (.tmp 6) (.tmp 28) ?_ (wr.heap.size + 1) ?_ (msC 12 x1 x2 0 0 0 (.slice none 0 0)) ?_ HST4.out ?_); rfl; rfl; rfl; rfl))
      clear h0 h1 h2 h3 q0 q1 q2 q3 q4
      refine wp_region_soup 8 [] (spOf [(7, Spec.new w4.heap.size #[.int .i64 0, .int .i64 0] 76)]) (by kernel_rfl) (by kernel_rfl) (spOk_of (by simp [Spec.new_ok])) (pre_of (by simp [Spec.new_ok])) ?_
      simp only [List.take_succ_cons, List.take_zero, List.drop_succ_cons, List.drop_zero]
      iterate 3
        with_reducible refine soup_q ?_ ?_ ?_
        · rfl
        · rfl
        with_reducible apply Exists.intro
        with_reducible refine ⟨fun W hk _ => ?_, ?_⟩
        · unfold Oper.same
          go_simp
          first | rfl | exact ⟨rfl, rfl⟩
        with_reducible apply Exists.intro
        with_reducible refine ⟨?_, ?_⟩
        · go_simp
          rfl
      with_reducible refine soup_q ?_ ?_ ?_
      · rfl
      · rfl
      with_reducible apply Exists.intro
      with_reducible refine ⟨fun W hk _ => ?_, ?_⟩
      · have c0 := (HC.out.kept hk).facts.2.2.2.2.1
        unfold Oper.same
        go_simp
        first | rfl | exact ⟨rfl, rfl⟩
      with_reducible apply Exists.intro
      with_reducible refine ⟨?_, ?_⟩
      · go_simp
        rfl
      with_reducible refine soup_q ?_ ?_ ?_
      · rfl
      · rfl
      with_reducible apply Exists.intro
      with_reducible refine ⟨fun W hk _ => ?_, ?_⟩
      · unfold Oper.same
        go_simp
        first | rfl | exact ⟨rfl, rfl⟩
      with_reducible apply Exists.intro
      with_reducible refine ⟨?_, ?_⟩
      · go_simp
        rfl
      with_reducible refine soup_q ?_ ?_ ?_
      · rfl
      · rfl
      with_reducible apply Exists.intro
      with_reducible refine ⟨fun W hk _ => ?_, ?_⟩
      · have c0 := (HE.out.keep hk (by simp)).facts.1
        unfold Oper.same
        go_simp
        first | rfl | exact ⟨rfl, rfl⟩
      with_reducible apply Exists.intro
      with_reducible refine ⟨?_, ?_⟩
      · go_simp
        rfl
      with_reducible refine soup_q ?_ ?_ ?_
      · rfl
      · rfl
      with_reducible apply Exists.intro
      with_reducible refine ⟨fun W hk _ => ?_, ?_⟩
      · have hlk := lookSt (HC.out.kept hk).map x1
        simp only at hlk
        rw [HST.out] at hlk
        unfold Oper.same
        go_simp
        first | rfl | exact ⟨rfl, rfl⟩
      with_reducible apply Exists.intro
      with_reducible refine ⟨?_, ?_⟩
      · go_simp
        rfl
      refine soup_s rfl rfl rfl (fun W hk _ _ => ?_) ?_
      · unfold Oper.does
        go_simp
        exact ⟨(Keep.refl _ _).alloc _, hk.alloc _, ⟨_, rfl, hk.size⟩, _, rfl, hk.size, World.alloc_heap_new W _⟩
      rintro v ⟨g2, rfl, hg2⟩
      with_reducible apply Exists.intro
      with_reducible refine ⟨?_, ?_⟩
      · go_simp
        rfl
      refine soup_nil (fun W hk hS => ?_)
      obtain ⟨g', e1, e2, e3⟩ := hS 7
      obtain rfl : g2 = g' := by simpa using e1
      have s0 : W.cell? ⟨g2, 0, none⟩ = some (.int .i64 0) := by unfold World.cell?; rw [e3]; rfl
      have s1 : W.cell? ⟨g2, 1, none⟩ = some (.int .i64 0) := by unfold World.cell?; rw [e3]; rfl
      have sf : ∀ o, W.frozen? ⟨g2, o, none⟩ = false := fun o => by unfold World.frozen?; rw [e3]; simp
      by_cases hs1 : st = 1
      · subst hs1
        have htk : tickOf C ⟨x1, x2, x3, x4⟩ ⟨1, dn⟩ = [⟨x3, frameB (⟨4, x1, x2, x4, 0, 0, []⟩ : Mg).enc⟩] := by unfold tickOf m4; simp
        rw [htk] at HN
        clear htk
        have hsz4 := HSZ4.out
        obtain ⟨Wa, hWa⟩ : ∃ u, (W.setCell ⟨g2, 0, none⟩ (.int .i64 1)).setCell ⟨g2, 1, none⟩ (.int .i64 dn) = u := ⟨_, rfl⟩
        have ka : Keep [g2] W Wa := by rw [← hWa]; exact ((Keep.refl _ _).setCell _ _ _ (.inl (by simp))).setCell _ _ _ (.inl (by simp))
        have hsa : Wa.heap[g2]? = some (.cells #[.int .i64 1, .int .i64 dn] 76 (0, 0)) := by
          rw [← hWa]
          simp [World.setCell, Array.getElem?_modify, e3]
        have r0 : Wa.cell? ⟨g2, 0, none⟩ = some (.int .i64 1) := by unfold World.cell?; rw [hsa]; rfl
        have r1 : Wa.cell? ⟨g2, 1, none⟩ = some (.int .i64 dn) := by unfold World.cell?; rw [hsa]; rfl
        have hea := (HE.out.keep hk (by simp)).keep ka (by simp; omega)
        obtain ⟨q0, q1, q2, q3, q4⟩ := hea.facts
        have HE := Lib.hid hea
        have HC := Lib.hid ((HC.out.kept hk).keep ka (fun b hb => by have := HC.out.lt b hb; simp; omega))
        have HR := Lib.hid ((HR.out.keep hk (by simp)).keep ka (fun b hb => by have := own_lt HR.out b hb; simp; omega))
        have HM := Lib.hid ((HM.out.keep hk (by simp)).keep ka (by simp; omega))
        have HK := Lib.hid ((HK.out.trans hk).step ka (by simp; omega))
        have HSA := Lib.hid hsa
        have hgg : wr.heap.size + 1 < g2 := by omega
        clear hk hS e1 e2 e3 ka hsa hea
        go_wp2_with (fail)
        refine (post_any HR.out HK.out.size (by omega) x3 (m := (⟨4, x1, x2, x4, 0, 0, []⟩ : Mg)) ⟨.inl ⟨rfl, rfl, rfl, rfl⟩, (show x1 ≤ 2147483647 by omega), (show x2 ≤ 2147483647 by omega), (show x4 ≤ 2147483647 by omega), (by simp), (by simp), (by simp), (by simp)⟩ (fun _ => ⟨rfl, rfl⟩) (fun h => absurd rfl h)).mono ?_
        rintro e w5 ⟨v5, rfl, hr, hk5⟩
        have hb5 := own_base HR.out
        obtain ⟨M5, hM5⟩ : ∃ M', M ++ [⟨x3, frameB ((⟨4, x1, x2, x4, 0, 0, []⟩ : Mg)).enc⟩] = M' := ⟨_, rfl⟩
        have hMl5 : M5.length ≤ 805 := by rw [← hM5, List.length_append, List.length_singleton]; omega
        rw [hM5] at hr
        have HM5 := Lib.hid hM5
        clear hM5
        obtain ⟨a5, cv5, rfl, _⟩ := own_shape hr
        have HK := Lib.hid (HK.out.step hk5 (fun y hy => .inr (hb5 y (by simpa using hy))))
        have hkz := hk5
        have HR := Lib.hid hr
        clear hkz hr hk5 hb5 r0 r1 q0 q1 q2 q3 q4
        go_wp2_with (fail)
        go_roundw
        case rel => exact ⟨j + 1, by go_num, by omega, HK.out, by rw [HN.out, HM5.out]; exact HR.out⟩
        case measure => simp [intOf]; omega
      · have hn1 : ((st : Int) == 1) = false := by simpa using hs1
        have hd4 : dn = 0 ∨ dn = 1 ∨ dn = 2 ∨ dn = 3 := by omega
        by_cases hs2 : st = 2
        · subst hs2
          rcases hd4 with rfl | rfl | rfl | rfl
          · have htk : tickOf C ⟨x1, x2, x3, x4⟩ ⟨2, 0⟩ = [⟨x4, frameB (⟨11, x1, x2, 0, ep, nd, own⟩ : Mg).enc⟩] := by unfold tickOf; simp [H11.out]
            rw [htk] at HN
            clear htk
            have hsz4 := HSZ4.out
            obtain ⟨Wa, hWa⟩ : ∃ u, (W.setCell ⟨g2, 0, none⟩ (.int .i64 2)).setCell ⟨g2, 1, none⟩ (.int .i64 0) = u := ⟨_, rfl⟩
            have ka : Keep [g2] W Wa := by rw [← hWa]; exact ((Keep.refl _ _).setCell _ _ _ (.inl (by simp))).setCell _ _ _ (.inl (by simp))
            have hsa : Wa.heap[g2]? = some (.cells #[.int .i64 2, .int .i64 0] 76 (0, 0)) := by
              rw [← hWa]
              simp [World.setCell, Array.getElem?_modify, e3]
            have r0 : Wa.cell? ⟨g2, 0, none⟩ = some (.int .i64 2) := by unfold World.cell?; rw [hsa]; rfl
            have r1 : Wa.cell? ⟨g2, 1, none⟩ = some (.int .i64 0) := by unfold World.cell?; rw [hsa]; rfl
            have hea := (HE.out.keep hk (by simp)).keep ka (by simp; omega)
            obtain ⟨q0, q1, q2, q3, q4⟩ := hea.facts
            have HE := Lib.hid hea
            have HC := Lib.hid ((HC.out.kept hk).keep ka (fun b hb => by have := HC.out.lt b hb; simp; omega))
            have HR := Lib.hid ((HR.out.keep hk (by simp)).keep ka (fun b hb => by have := own_lt HR.out b hb; simp; omega))
            have HM := Lib.hid ((HM.out.keep hk (by simp)).keep ka (by simp; omega))
            have HK := Lib.hid ((HK.out.trans hk).step ka (by simp; omega))
            have HSA := Lib.hid hsa
            have hgg : wr.heap.size + 1 < g2 := by omega
            clear hk hS e1 e2 e3 ka hsa hea
            go_wp2_with (fail)
            have hpl5 := lt_of_heap HC.out.blk
            have hml5 := lt_of_heap HM.out
            have hpm : p ≠ wr.heap.size + 1 := by omega
            refine wp_region_soup 6 [wr.heap.size + 1] (spOf [(5, Spec.set1 (wr.heap.size + 1) (msC 12 x1 x2 0 0 0 (.slice none 0 0)) 11)]) (by kernel_rfl) (by kernel_rfl) (spOk_one (fun _ => ⟨_, rfl⟩)) (fun i s hs => by have h := spOf_mem hs; simp at h; rcases h with ⟨_, rfl⟩; exact HM.out.keep (Keep.refl [] _).drew (by simp)) ?_
            simp only [List.take_succ_cons, List.take_zero, List.drop_succ_cons, List.drop_zero]
            iterate 3
              with_reducible refine soup_q ?_ ?_ ?_
              · rfl
              · rfl
              with_reducible apply Exists.intro
              with_reducible refine ⟨fun W hk _ => ?_, ?_⟩
              · unfold Oper.same
                go_simp
                first | rfl | exact ⟨rfl, rfl⟩
              with_reducible apply Exists.intro
              with_reducible refine ⟨?_, ?_⟩
              · go_simp
                rfl
            with_reducible refine soup_q ?_ ?_ ?_
            · rfl
            · rfl
            with_reducible apply Exists.intro
            with_reducible refine ⟨fun W hk _ => ?_, ?_⟩
            · have c0 := (HC.out.off hk (by simpa using hpm)).1
              simp only at c0
              have c1 := (HC.out.off hk (by simpa using hpm)).2.1
              simp only at c1
              have c2 := (HC.out.off hk (by simpa using hpm)).2.2.1
              simp only at c2
              unfold Oper.same
              go_simp
              first | rfl | exact ⟨rfl, rfl⟩
            with_reducible apply Exists.intro
            with_reducible refine ⟨?_, ?_⟩
            · go_simp
              rfl
            with_reducible refine soup_q ?_ ?_ ?_
            · rfl
            · rfl
            with_reducible apply Exists.intro
            with_reducible refine ⟨fun W hk _ => ?_, ?_⟩
            · unfold Oper.same
              go_simp
              first | rfl | exact ⟨rfl, rfl⟩
            with_reducible apply Exists.intro
            with_reducible refine ⟨?_, ?_⟩
            · go_simp
              rfl
            refine soup_s rfl rfl rfl (fun W5 hk hB _ => ?_) ?_
            · have z0 : W5.cell? ⟨wr.heap.size + 1, 0, none⟩ = some (.int .u8 12) := hB.cell 0
              have zf := hB.fz
              have hks : Keep [wr.heap.size + 1] W5 (W5.setCell ⟨wr.heap.size + 1, 0, none⟩ (.int .u8 11)) := (Keep.refl _ _).setCell _ _ _ (.inl (by simp))
              unfold Oper.does
              go_simp
              exact ⟨hks, hk.trans hks, rfl, hB.set 0 _⟩
            rintro v rfl
            with_reducible apply Exists.intro
            with_reducible refine ⟨?_, ?_⟩
            · go_simp
              rfl
            refine soup_nil (fun W5 hk hS => ?_)
            have hm5 : MsAt W5 (wr.heap.size + 1) (msC 11 x1 x2 0 0 0 (.slice none 0 0)) := hS 5
            obtain ⟨z0, z1, z2, z3, z4, z5, z6, z7, z8, z9, z10, z11, z12, z13, z14, z15, z16, z17, z18, z19, z20, z21⟩ := msC_facts hm5
            have zf := hm5.fz
            obtain ⟨W6, hW6⟩ : ∃ u, ((W5.setCell ⟨wr.heap.size + 1, 17, none⟩ (.int .i64 ep)).setCell ⟨wr.heap.size + 1, 18, none⟩ (.int .i64 nd)).setCell ⟨wr.heap.size + 1, 19, none⟩ (.slice oa own.length oc) = u := ⟨_, rfl⟩
            have hm6 : MsAt W6 (wr.heap.size + 1) (msC 11 x1 x2 0 ep nd (.slice oa own.length oc)) := by rw [← hW6]; exact ((hm5.set 17 _).set 18 _).set 19 _
            have k6 : Keep [wr.heap.size + 1] W5 W6 := by rw [← hW6]; exact (((Keep.refl _ _).setCell _ _ _ (.inl (by simp))).setCell _ _ _ (.inl (by simp))).setCell _ _ _ (.inl (by simp))
            have k06 := hk.trans k6
            have hsa := (k06.block _ (lt_of_heap HSA.out) (by simp; omega)).trans HSA.out
            have r0 : W6.cell? ⟨g2, 0, none⟩ = some (.int .i64 2) := by unfold World.cell?; rw [hsa]; rfl
            have r1 : W6.cell? ⟨g2, 1, none⟩ = some (.int .i64 0) := by unfold World.cell?; rw [hsa]; rfl
            have hea := HE.out.keep k06 (by simp)
            clear q0 q1 q2 q3 q4
            obtain ⟨q0, q1, q2, q3, q4⟩ := hea.facts
            have HE := Lib.hid hea
            have HC := Lib.hid (HC.out.keep k06 (fun b hb => by have h1 := HC1.out.lt b hb; simp only [List.mem_cons, List.not_mem_nil, or_false]; omega))
            have HR := Lib.hid (HR.out.keep k06 (fun b hb => by have := own_ne_obj HR.out HM.out (by decide) b hb; simpa using this))
            have HK := Lib.hid (HK.out.step k06 (by simp; omega))
            have HSA := Lib.hid hsa
            have HMC : Hid (W6.heap[wr.heap.size + 1]? = some (.cells (msC 11 x1 x2 0 ep nd (.slice oa own.length oc)) 47 (0, 0))) := Lib.hid hm6
            clear hk hS hm5 hm6 k6 k06 hsa hea
            have HZ : Hid ((Tryz.prog.info? 47).map (·.size) = some ((msC 11 x1 x2 0 ep nd (.slice oa own.length oc))).size) := Lib.hid (by kernel_rfl)
            have HB := Lib.hid (show ∀ b ∈ cfoot p oa oc own.length bp om ab, b < w1.heap.size from HC1.out.lt)
            go_wp2_with (first | ((with_reducible refine wpList_load_row ?_ 47 (.tmp 6) ?_ (wr.heap.size + 1) ?_ 47 (msC 11 x1 x2 0 ep nd (.slice oa own.length oc)) (0, 0) _ HMC.out Tryz.underlying47 ?_ HZ.out ?_); rfl; rfl; rfl; rfl))
            have HRo := HR
            refine (post_any HR.out HK.out.size (by omega) x4 (m := (⟨11, x1, x2, 0, ep, nd, own⟩ : Mg)) ⟨.inr (.inr (.inl ⟨rfl, rfl⟩)), (show x1 ≤ 2147483647 by omega), (show x2 ≤ 2147483647 by omega), (by simp), hep2, (show nd ≤ 2147483647 by omega), hlen, HOWN.out⟩ (fun h => by rcases h with h | h <;> cases h) HC.out.ints).mono ?_
            rintro e w7 ⟨v7, rfl, hr, hk5⟩
            have hb5 := own_base HR.out
            obtain ⟨M7, hM7⟩ : ∃ M', M ++ [⟨x4, frameB ((⟨11, x1, x2, 0, ep, nd, own⟩ : Mg)).enc⟩] = M' := ⟨_, rfl⟩
            have hMl7 : M7.length ≤ 807 := by rw [← hM7, List.length_append, List.length_singleton]; omega
            rw [hM7] at hr
            have HM7 := Lib.hid hM7
            clear hM7
            obtain ⟨a7, cv7, rfl, _⟩ := own_shape hr
            have HK := Lib.hid (HK.out.step hk5 (fun y hy => .inr (hb5 y (by simpa using hy))))
            have hkz := hk5
            have HR := Lib.hid hr
            clear r0 r1 q0 q1 q2 q3 q4
            have hsa := (hkz.block _ (lt_of_heap HSA.out) (fun hm => own_ne_obj HRo.out HSA.out (by decide) g2 (by simpa using hm) rfl)).trans HSA.out
            have r0 : w7.cell? ⟨g2, 0, none⟩ = some (.int .i64 2) := by unfold World.cell?; rw [hsa]; rfl
            have r1 : w7.cell? ⟨g2, 1, none⟩ = some (.int .i64 0) := by unfold World.cell?; rw [hsa]; rfl
            have hea := HE.out.keep hkz (fun hm => own_ne_obj HRo.out HE.out (by decide) _ (by simpa using hm) rfl)
            obtain ⟨q0, q1, q2, q3, q4⟩ := hea.facts
            have HMC : Hid (w7.heap[wr.heap.size + 1]? = some (.cells (msC 11 x1 x2 0 ep nd (.slice oa own.length oc)) 47 (0, 0))) := Lib.hid ((hkz.block _ (lt_of_heap HMC.out) (fun hm => own_ne_obj HRo.out HMC.out (by decide) _ (by simpa using hm) rfl)).trans HMC.out)
            have HC := Lib.hid (HC.out.keep hkz (fun b hb hm => by have h1 := HB.out b hb; have h2 := own_base HRo.out b (by simpa using hm); omega))
            have HE := Lib.hid hea
            have HSA := Lib.hid hsa
            clear hkz hr hk5 hb5 hsa hea
            go_wp2_with (first | ((with_reducible refine wpList_load_row ?_ 47 (.tmp 6) ?_ (wr.heap.size + 1) ?_ 47 (msC 11 x1 x2 0 ep nd (.slice oa own.length oc)) (0, 0) _ HMC.out Tryz.underlying47 ?_ HZ.out ?_); rfl; rfl; rfl; rfl))
            go_roundw
            case rel => exact ⟨j + 1, by go_num, by omega, HK.out, by rw [HN.out, HM7.out]; exact HR.out⟩
            case measure => simp [intOf]; omega
          · have htk : tickOf C ⟨x1, x2, x3, x4⟩ ⟨2, 1⟩ = [⟨x4, frameB (⟨11, x1, x2, 0, ep, nd, own⟩ : Mg).enc⟩] := by unfold tickOf; simp [H11.out]
            rw [htk] at HN
            clear htk
            have hsz4 := HSZ4.out
            obtain ⟨Wa, hWa⟩ : ∃ u, (W.setCell ⟨g2, 0, none⟩ (.int .i64 2)).setCell ⟨g2, 1, none⟩ (.int .i64 1) = u := ⟨_, rfl⟩
            have ka : Keep [g2] W Wa := by rw [← hWa]; exact ((Keep.refl _ _).setCell _ _ _ (.inl (by simp))).setCell _ _ _ (.inl (by simp))
            have hsa : Wa.heap[g2]? = some (.cells #[.int .i64 2, .int .i64 1] 76 (0, 0)) := by
              rw [← hWa]
              simp [World.setCell, Array.getElem?_modify, e3]
            have r0 : Wa.cell? ⟨g2, 0, none⟩ = some (.int .i64 2) := by unfold World.cell?; rw [hsa]; rfl
            have r1 : Wa.cell? ⟨g2, 1, none⟩ = some (.int .i64 1) := by unfold World.cell?; rw [hsa]; rfl
            have hea := (HE.out.keep hk (by simp)).keep ka (by simp; omega)
            obtain ⟨q0, q1, q2, q3, q4⟩ := hea.facts
            have HE := Lib.hid hea
            have HC := Lib.hid ((HC.out.kept hk).keep ka (fun b hb => by have := HC.out.lt b hb; simp; omega))
            have HR := Lib.hid ((HR.out.keep hk (by simp)).keep ka (fun b hb => by have := own_lt HR.out b hb; simp; omega))
            have HM := Lib.hid ((HM.out.keep hk (by simp)).keep ka (by simp; omega))
            have HK := Lib.hid ((HK.out.trans hk).step ka (by simp; omega))
            have HSA := Lib.hid hsa
            have hgg : wr.heap.size + 1 < g2 := by omega
            clear hk hS e1 e2 e3 ka hsa hea
            go_wp2_with (fail)
            have hpl5 := lt_of_heap HC.out.blk
            have hml5 := lt_of_heap HM.out
            have hpm : p ≠ wr.heap.size + 1 := by omega
            refine wp_region_soup 6 [wr.heap.size + 1] (spOf [(5, Spec.set1 (wr.heap.size + 1) (msC 12 x1 x2 0 0 0 (.slice none 0 0)) 11)]) (by kernel_rfl) (by kernel_rfl) (spOk_one (fun _ => ⟨_, rfl⟩)) (fun i s hs => by have h := spOf_mem hs; simp at h; rcases h with ⟨_, rfl⟩; exact HM.out.keep (Keep.refl [] _).drew (by simp)) ?_
            simp only [List.take_succ_cons, List.take_zero, List.drop_succ_cons, List.drop_zero]
            iterate 3
              with_reducible refine soup_q ?_ ?_ ?_
              · rfl
              · rfl
              with_reducible apply Exists.intro
              with_reducible refine ⟨fun W hk _ => ?_, ?_⟩
              · unfold Oper.same
                go_simp
                first | rfl | exact ⟨rfl, rfl⟩
              with_reducible apply Exists.intro
              with_reducible refine ⟨?_, ?_⟩
              · go_simp
                rfl
            with_reducible refine soup_q ?_ ?_ ?_
            · rfl
            · rfl
            with_reducible apply Exists.intro
            with_reducible refine ⟨fun W hk _ => ?_, ?_⟩
            · have c0 := (HC.out.off hk (by simpa using hpm)).1
              simp only at c0
              have c1 := (HC.out.off hk (by simpa using hpm)).2.1
              simp only at c1
              have c2 := (HC.out.off hk (by simpa using hpm)).2.2.1
              simp only at c2
              unfold Oper.same
              go_simp
              first | rfl | exact ⟨rfl, rfl⟩
            with_reducible apply Exists.intro
            with_reducible refine ⟨?_, ?_⟩
            · go_simp
              rfl
            with_reducible refine soup_q ?_ ?_ ?_
            · rfl
            · rfl
            with_reducible apply Exists.intro
            with_reducible refine ⟨fun W hk _ => ?_, ?_⟩
            · unfold Oper.same
              go_simp
              first | rfl | exact ⟨rfl, rfl⟩
            with_reducible apply Exists.intro
            with_reducible refine ⟨?_, ?_⟩
            · go_simp
              rfl
            refine soup_s rfl rfl rfl (fun W5 hk hB _ => ?_) ?_
            · have z0 : W5.cell? ⟨wr.heap.size + 1, 0, none⟩ = some (.int .u8 12) := hB.cell 0
              have zf := hB.fz
              have hks : Keep [wr.heap.size + 1] W5 (W5.setCell ⟨wr.heap.size + 1, 0, none⟩ (.int .u8 11)) := (Keep.refl _ _).setCell _ _ _ (.inl (by simp))
              unfold Oper.does
              go_simp
              exact ⟨hks, hk.trans hks, rfl, hB.set 0 _⟩
            rintro v rfl
            with_reducible apply Exists.intro
            with_reducible refine ⟨?_, ?_⟩
            · go_simp
              rfl
            refine soup_nil (fun W5 hk hS => ?_)
            have hm5 : MsAt W5 (wr.heap.size + 1) (msC 11 x1 x2 0 0 0 (.slice none 0 0)) := hS 5
            obtain ⟨z0, z1, z2, z3, z4, z5, z6, z7, z8, z9, z10, z11, z12, z13, z14, z15, z16, z17, z18, z19, z20, z21⟩ := msC_facts hm5
            have zf := hm5.fz
            obtain ⟨W6, hW6⟩ : ∃ u, ((W5.setCell ⟨wr.heap.size + 1, 17, none⟩ (.int .i64 ep)).setCell ⟨wr.heap.size + 1, 18, none⟩ (.int .i64 nd)).setCell ⟨wr.heap.size + 1, 19, none⟩ (.slice oa own.length oc) = u := ⟨_, rfl⟩
            have hm6 : MsAt W6 (wr.heap.size + 1) (msC 11 x1 x2 0 ep nd (.slice oa own.length oc)) := by rw [← hW6]; exact ((hm5.set 17 _).set 18 _).set 19 _
            have k6 : Keep [wr.heap.size + 1] W5 W6 := by rw [← hW6]; exact (((Keep.refl _ _).setCell _ _ _ (.inl (by simp))).setCell _ _ _ (.inl (by simp))).setCell _ _ _ (.inl (by simp))
            have k06 := hk.trans k6
            have hsa := (k06.block _ (lt_of_heap HSA.out) (by simp; omega)).trans HSA.out
            have r0 : W6.cell? ⟨g2, 0, none⟩ = some (.int .i64 2) := by unfold World.cell?; rw [hsa]; rfl
            have r1 : W6.cell? ⟨g2, 1, none⟩ = some (.int .i64 1) := by unfold World.cell?; rw [hsa]; rfl
            have hea := HE.out.keep k06 (by simp)
            clear q0 q1 q2 q3 q4
            obtain ⟨q0, q1, q2, q3, q4⟩ := hea.facts
            have HE := Lib.hid hea
            have HC := Lib.hid (HC.out.keep k06 (fun b hb => by have h1 := HC1.out.lt b hb; simp only [List.mem_cons, List.not_mem_nil, or_false]; omega))
            have HR := Lib.hid (HR.out.keep k06 (fun b hb => by have := own_ne_obj HR.out HM.out (by decide) b hb; simpa using this))
            have HK := Lib.hid (HK.out.step k06 (by simp; omega))
            have HSA := Lib.hid hsa
            have HMC : Hid (W6.heap[wr.heap.size + 1]? = some (.cells (msC 11 x1 x2 0 ep nd (.slice oa own.length oc)) 47 (0, 0))) := Lib.hid hm6
            clear hk hS hm5 hm6 k6 k06 hsa hea
            have HZ : Hid ((Tryz.prog.info? 47).map (·.size) = some ((msC 11 x1 x2 0 ep nd (.slice oa own.length oc))).size) := Lib.hid (by kernel_rfl)
            have HB := Lib.hid (show ∀ b ∈ cfoot p oa oc own.length bp om ab, b < w1.heap.size from HC1.out.lt)
            go_wp2_with (first | ((with_reducible refine wpList_load_row ?_ 47 (.tmp 6) ?_ (wr.heap.size + 1) ?_ 47 (msC 11 x1 x2 0 ep nd (.slice oa own.length oc)) (0, 0) _ HMC.out Tryz.underlying47 ?_ HZ.out ?_); rfl; rfl; rfl; rfl))
            have HRo := HR
            refine (post_any HR.out HK.out.size (by omega) x4 (m := (⟨11, x1, x2, 0, ep, nd, own⟩ : Mg)) ⟨.inr (.inr (.inl ⟨rfl, rfl⟩)), (show x1 ≤ 2147483647 by omega), (show x2 ≤ 2147483647 by omega), (by simp), hep2, (show nd ≤ 2147483647 by omega), hlen, HOWN.out⟩ (fun h => by rcases h with h | h <;> cases h) HC.out.ints).mono ?_
            rintro e w7 ⟨v7, rfl, hr, hk5⟩
            have hb5 := own_base HR.out
            obtain ⟨M7, hM7⟩ : ∃ M', M ++ [⟨x4, frameB ((⟨11, x1, x2, 0, ep, nd, own⟩ : Mg)).enc⟩] = M' := ⟨_, rfl⟩
            have hMl7 : M7.length ≤ 807 := by rw [← hM7, List.length_append, List.length_singleton]; omega
            rw [hM7] at hr
            have HM7 := Lib.hid hM7
            clear hM7
            obtain ⟨a7, cv7, rfl, _⟩ := own_shape hr
            have HK := Lib.hid (HK.out.step hk5 (fun y hy => .inr (hb5 y (by simpa using hy))))
            have hkz := hk5
            have HR := Lib.hid hr
            clear r0 r1 q0 q1 q2 q3 q4
            have hsa := (hkz.block _ (lt_of_heap HSA.out) (fun hm => own_ne_obj HRo.out HSA.out (by decide) g2 (by simpa using hm) rfl)).trans HSA.out
            have r0 : w7.cell? ⟨g2, 0, none⟩ = some (.int .i64 2) := by unfold World.cell?; rw [hsa]; rfl
            have r1 : w7.cell? ⟨g2, 1, none⟩ = some (.int .i64 1) := by unfold World.cell?; rw [hsa]; rfl
            have hea := HE.out.keep hkz (fun hm => own_ne_obj HRo.out HE.out (by decide) _ (by simpa using hm) rfl)
            obtain ⟨q0, q1, q2, q3, q4⟩ := hea.facts
            have HMC : Hid (w7.heap[wr.heap.size + 1]? = some (.cells (msC 11 x1 x2 0 ep nd (.slice oa own.length oc)) 47 (0, 0))) := Lib.hid ((hkz.block _ (lt_of_heap HMC.out) (fun hm => own_ne_obj HRo.out HMC.out (by decide) _ (by simpa using hm) rfl)).trans HMC.out)
            have HC := Lib.hid (HC.out.keep hkz (fun b hb hm => by have h1 := HB.out b hb; have h2 := own_base HRo.out b (by simpa using hm); omega))
            have HE := Lib.hid hea
            have HSA := Lib.hid hsa
            clear hkz hr hk5 hb5 hsa hea
            go_wp2_with (first | ((with_reducible refine wpList_load_row ?_ 47 (.tmp 6) ?_ (wr.heap.size + 1) ?_ 47 (msC 11 x1 x2 0 ep nd (.slice oa own.length oc)) (0, 0) _ HMC.out Tryz.underlying47 ?_ HZ.out ?_); rfl; rfl; rfl; rfl))
            go_roundw
            case rel => exact ⟨j + 1, by go_num, by omega, HK.out, by rw [HN.out, HM7.out]; exact HR.out⟩
            case measure => simp [intOf]; omega
          · have htk : tickOf C ⟨x1, x2, x3, x4⟩ ⟨2, 2⟩ = [⟨x3, frameB (⟨11, x1, x2, 0, ep, nd, own⟩ : Mg).enc⟩] := by unfold tickOf; simp [H11.out]
            rw [htk] at HN
            clear htk
            have hsz4 := HSZ4.out
            obtain ⟨Wa, hWa⟩ : ∃ u, (W.setCell ⟨g2, 0, none⟩ (.int .i64 2)).setCell ⟨g2, 1, none⟩ (.int .i64 2) = u := ⟨_, rfl⟩
            have ka : Keep [g2] W Wa := by rw [← hWa]; exact ((Keep.refl _ _).setCell _ _ _ (.inl (by simp))).setCell _ _ _ (.inl (by simp))
            have hsa : Wa.heap[g2]? = some (.cells #[.int .i64 2, .int .i64 2] 76 (0, 0)) := by
              rw [← hWa]
              simp [World.setCell, Array.getElem?_modify, e3]
            have r0 : Wa.cell? ⟨g2, 0, none⟩ = some (.int .i64 2) := by unfold World.cell?; rw [hsa]; rfl
            have r1 : Wa.cell? ⟨g2, 1, none⟩ = some (.int .i64 2) := by unfold World.cell?; rw [hsa]; rfl
            have hea := (HE.out.keep hk (by simp)).keep ka (by simp; omega)
            obtain ⟨q0, q1, q2, q3, q4⟩ := hea.facts
            have HE := Lib.hid hea
            have HC := Lib.hid ((HC.out.kept hk).keep ka (fun b hb => by have := HC.out.lt b hb; simp; omega))
            have HR := Lib.hid ((HR.out.keep hk (by simp)).keep ka (fun b hb => by have := own_lt HR.out b hb; simp; omega))
            have HM := Lib.hid ((HM.out.keep hk (by simp)).keep ka (by simp; omega))
            have HK := Lib.hid ((HK.out.trans hk).step ka (by simp; omega))
            have HSA := Lib.hid hsa
            have hgg : wr.heap.size + 1 < g2 := by omega
            clear hk hS e1 e2 e3 ka hsa hea
            go_wp2_with (fail)
            have hpl5 := lt_of_heap HC.out.blk
            have hml5 := lt_of_heap HM.out
            have hpm : p ≠ wr.heap.size + 1 := by omega
            refine wp_region_soup 6 [wr.heap.size + 1] (spOf [(5, Spec.set1 (wr.heap.size + 1) (msC 12 x1 x2 0 0 0 (.slice none 0 0)) 11)]) (by kernel_rfl) (by kernel_rfl) (spOk_one (fun _ => ⟨_, rfl⟩)) (fun i s hs => by have h := spOf_mem hs; simp at h; rcases h with ⟨_, rfl⟩; exact HM.out.keep (Keep.refl [] _).drew (by simp)) ?_
            simp only [List.take_succ_cons, List.take_zero, List.drop_succ_cons, List.drop_zero]
            iterate 3
              with_reducible refine soup_q ?_ ?_ ?_
              · rfl
              · rfl
              with_reducible apply Exists.intro
              with_reducible refine ⟨fun W hk _ => ?_, ?_⟩
              · unfold Oper.same
                go_simp
                first | rfl | exact ⟨rfl, rfl⟩
              with_reducible apply Exists.intro
              with_reducible refine ⟨?_, ?_⟩
              · go_simp
                rfl
            with_reducible refine soup_q ?_ ?_ ?_
            · rfl
            · rfl
            with_reducible apply Exists.intro
            with_reducible refine ⟨fun W hk _ => ?_, ?_⟩
            · have c0 := (HC.out.off hk (by simpa using hpm)).1
              simp only at c0
              have c1 := (HC.out.off hk (by simpa using hpm)).2.1
              simp only at c1
              have c2 := (HC.out.off hk (by simpa using hpm)).2.2.1
              simp only at c2
              unfold Oper.same
              go_simp
              first | rfl | exact ⟨rfl, rfl⟩
            with_reducible apply Exists.intro
            with_reducible refine ⟨?_, ?_⟩
            · go_simp
              rfl
            with_reducible refine soup_q ?_ ?_ ?_
            · rfl
            · rfl
            with_reducible apply Exists.intro
            with_reducible refine ⟨fun W hk _ => ?_, ?_⟩
            · unfold Oper.same
              go_simp
              first | rfl | exact ⟨rfl, rfl⟩
            with_reducible apply Exists.intro
            with_reducible refine ⟨?_, ?_⟩
            · go_simp
              rfl
            refine soup_s rfl rfl rfl (fun W5 hk hB _ => ?_) ?_
            · have z0 : W5.cell? ⟨wr.heap.size + 1, 0, none⟩ = some (.int .u8 12) := hB.cell 0
              have zf := hB.fz
              have hks : Keep [wr.heap.size + 1] W5 (W5.setCell ⟨wr.heap.size + 1, 0, none⟩ (.int .u8 11)) := (Keep.refl _ _).setCell _ _ _ (.inl (by simp))
              unfold Oper.does
              go_simp
              exact ⟨hks, hk.trans hks, rfl, hB.set 0 _⟩
            rintro v rfl
            with_reducible apply Exists.intro
            with_reducible refine ⟨?_, ?_⟩
            · go_simp
              rfl
            refine soup_nil (fun W5 hk hS => ?_)
            have hm5 : MsAt W5 (wr.heap.size + 1) (msC 11 x1 x2 0 0 0 (.slice none 0 0)) := hS 5
            obtain ⟨z0, z1, z2, z3, z4, z5, z6, z7, z8, z9, z10, z11, z12, z13, z14, z15, z16, z17, z18, z19, z20, z21⟩ := msC_facts hm5
            have zf := hm5.fz
            obtain ⟨W6, hW6⟩ : ∃ u, ((W5.setCell ⟨wr.heap.size + 1, 17, none⟩ (.int .i64 ep)).setCell ⟨wr.heap.size + 1, 18, none⟩ (.int .i64 nd)).setCell ⟨wr.heap.size + 1, 19, none⟩ (.slice oa own.length oc) = u := ⟨_, rfl⟩
            have hm6 : MsAt W6 (wr.heap.size + 1) (msC 11 x1 x2 0 ep nd (.slice oa own.length oc)) := by rw [← hW6]; exact ((hm5.set 17 _).set 18 _).set 19 _
            have k6 : Keep [wr.heap.size + 1] W5 W6 := by rw [← hW6]; exact (((Keep.refl _ _).setCell _ _ _ (.inl (by simp))).setCell _ _ _ (.inl (by simp))).setCell _ _ _ (.inl (by simp))
            have k06 := hk.trans k6
            have hsa := (k06.block _ (lt_of_heap HSA.out) (by simp; omega)).trans HSA.out
            have r0 : W6.cell? ⟨g2, 0, none⟩ = some (.int .i64 2) := by unfold World.cell?; rw [hsa]; rfl
            have r1 : W6.cell? ⟨g2, 1, none⟩ = some (.int .i64 2) := by unfold World.cell?; rw [hsa]; rfl
            have hea := HE.out.keep k06 (by simp)
            clear q0 q1 q2 q3 q4
            obtain ⟨q0, q1, q2, q3, q4⟩ := hea.facts
            have HE := Lib.hid hea
            have HC := Lib.hid (HC.out.keep k06 (fun b hb => by have h1 := HC1.out.lt b hb; simp only [List.mem_cons, List.not_mem_nil, or_false]; omega))
            have HR := Lib.hid (HR.out.keep k06 (fun b hb => by have := own_ne_obj HR.out HM.out (by decide) b hb; simpa using this))
            have HK := Lib.hid (HK.out.step k06 (by simp; omega))
            have HSA := Lib.hid hsa
            have HMC : Hid (W6.heap[wr.heap.size + 1]? = some (.cells (msC 11 x1 x2 0 ep nd (.slice oa own.length oc)) 47 (0, 0))) := Lib.hid hm6
            clear hk hS hm5 hm6 k6 k06 hsa hea
            have HZ : Hid ((Tryz.prog.info? 47).map (·.size) = some ((msC 11 x1 x2 0 ep nd (.slice oa own.length oc))).size) := Lib.hid (by kernel_rfl)
            have HB := Lib.hid (show ∀ b ∈ cfoot p oa oc own.length bp om ab, b < w1.heap.size from HC1.out.lt)
            go_wp2_with (first | ((with_reducible refine wpList_load_row ?_ 47 (.tmp 6) ?_ (wr.heap.size + 1) ?_ 47 (msC 11 x1 x2 0 ep nd (.slice oa own.length oc)) (0, 0) _ HMC.out Tryz.underlying47 ?_ HZ.out ?_); rfl; rfl; rfl; rfl))
            have HRo := HR
            refine (post_any HR.out HK.out.size (by omega) x3 (m := (⟨11, x1, x2, 0, ep, nd, own⟩ : Mg)) ⟨.inr (.inr (.inl ⟨rfl, rfl⟩)), (show x1 ≤ 2147483647 by omega), (show x2 ≤ 2147483647 by omega), (by simp), hep2, (show nd ≤ 2147483647 by omega), hlen, HOWN.out⟩ (fun h => by rcases h with h | h <;> cases h) HC.out.ints).mono ?_
            rintro e w7 ⟨v7, rfl, hr, hk5⟩
            have hb5 := own_base HR.out
            obtain ⟨M7, hM7⟩ : ∃ M', M ++ [⟨x3, frameB ((⟨11, x1, x2, 0, ep, nd, own⟩ : Mg)).enc⟩] = M' := ⟨_, rfl⟩
            have hMl7 : M7.length ≤ 807 := by rw [← hM7, List.length_append, List.length_singleton]; omega
            rw [hM7] at hr
            have HM7 := Lib.hid hM7
            clear hM7
            obtain ⟨a7, cv7, rfl, _⟩ := own_shape hr
            have HK := Lib.hid (HK.out.step hk5 (fun y hy => .inr (hb5 y (by simpa using hy))))
            have hkz := hk5
            have HR := Lib.hid hr
            clear r0 r1 q0 q1 q2 q3 q4
            have hsa := (hkz.block _ (lt_of_heap HSA.out) (fun hm => own_ne_obj HRo.out HSA.out (by decide) g2 (by simpa using hm) rfl)).trans HSA.out
            have r0 : w7.cell? ⟨g2, 0, none⟩ = some (.int .i64 2) := by unfold World.cell?; rw [hsa]; rfl
            have r1 : w7.cell? ⟨g2, 1, none⟩ = some (.int .i64 2) := by unfold World.cell?; rw [hsa]; rfl
            have hea := HE.out.keep hkz (fun hm => own_ne_obj HRo.out HE.out (by decide) _ (by simpa using hm) rfl)
            obtain ⟨q0, q1, q2, q3, q4⟩ := hea.facts
            have HMC : Hid (w7.heap[wr.heap.size + 1]? = some (.cells (msC 11 x1 x2 0 ep nd (.slice oa own.length oc)) 47 (0, 0))) := Lib.hid ((hkz.block _ (lt_of_heap HMC.out) (fun hm => own_ne_obj HRo.out HMC.out (by decide) _ (by simpa using hm) rfl)).trans HMC.out)
            have HC := Lib.hid (HC.out.keep hkz (fun b hb hm => by have h1 := HB.out b hb; have h2 := own_base HRo.out b (by simpa using hm); omega))
            have HE := Lib.hid hea
            have HSA := Lib.hid hsa
            clear hkz hr hk5 hb5 hsa hea
            go_wp2_with (first | ((with_reducible refine wpList_load_row ?_ 47 (.tmp 6) ?_ (wr.heap.size + 1) ?_ 47 (msC 11 x1 x2 0 ep nd (.slice oa own.length oc)) (0, 0) _ HMC.out Tryz.underlying47 ?_ HZ.out ?_); rfl; rfl; rfl; rfl))
            go_roundw
            case rel => exact ⟨j + 1, by go_num, by omega, HK.out, by rw [HN.out, HM7.out]; exact HR.out⟩
            case measure => simp [intOf]; omega
          · have htk : tickOf C ⟨x1, x2, x3, x4⟩ ⟨2, 3⟩ = [] := by unfold tickOf; simp [H11.out]
            rw [htk] at HN
            clear htk
            have hsz4 := HSZ4.out
            obtain ⟨Wa, hWa⟩ : ∃ u, (W.setCell ⟨g2, 0, none⟩ (.int .i64 2)).setCell ⟨g2, 1, none⟩ (.int .i64 3) = u := ⟨_, rfl⟩
            have ka : Keep [g2] W Wa := by rw [← hWa]; exact ((Keep.refl _ _).setCell _ _ _ (.inl (by simp))).setCell _ _ _ (.inl (by simp))
            have hsa : Wa.heap[g2]? = some (.cells #[.int .i64 2, .int .i64 3] 76 (0, 0)) := by
              rw [← hWa]
              simp [World.setCell, Array.getElem?_modify, e3]
            have r0 : Wa.cell? ⟨g2, 0, none⟩ = some (.int .i64 2) := by unfold World.cell?; rw [hsa]; rfl
            have r1 : Wa.cell? ⟨g2, 1, none⟩ = some (.int .i64 3) := by unfold World.cell?; rw [hsa]; rfl
            have hea := (HE.out.keep hk (by simp)).keep ka (by simp; omega)
            obtain ⟨q0, q1, q2, q3, q4⟩ := hea.facts
            have HE := Lib.hid hea
            have HC := Lib.hid ((HC.out.kept hk).keep ka (fun b hb => by have := HC.out.lt b hb; simp; omega))
            have HR := Lib.hid ((HR.out.keep hk (by simp)).keep ka (fun b hb => by have := own_lt HR.out b hb; simp; omega))
            have HM := Lib.hid ((HM.out.keep hk (by simp)).keep ka (by simp; omega))
            have HK := Lib.hid ((HK.out.trans hk).step ka (by simp; omega))
            have HSA := Lib.hid hsa
            have hgg : wr.heap.size + 1 < g2 := by omega
            clear hk hS e1 e2 e3 ka hsa hea
            go_wp2_with (fail)
            have hpl5 := lt_of_heap HC.out.blk
            have hml5 := lt_of_heap HM.out
            have hpm : p ≠ wr.heap.size + 1 := by omega
            refine wp_region_soup 6 [wr.heap.size + 1] (spOf [(5, Spec.set1 (wr.heap.size + 1) (msC 12 x1 x2 0 0 0 (.slice none 0 0)) 11)]) (by kernel_rfl) (by kernel_rfl) (spOk_one (fun _ => ⟨_, rfl⟩)) (fun i s hs => by have h := spOf_mem hs; simp at h; rcases h with ⟨_, rfl⟩; exact HM.out.keep (Keep.refl [] _).drew (by simp)) ?_
            simp only [List.take_succ_cons, List.take_zero, List.drop_succ_cons, List.drop_zero]
            iterate 3
              with_reducible refine soup_q ?_ ?_ ?_
              · rfl
              · rfl
              with_reducible apply Exists.intro
              with_reducible refine ⟨fun W hk _ => ?_, ?_⟩
              · unfold Oper.same
                go_simp
                first | rfl | exact ⟨rfl, rfl⟩
              with_reducible apply Exists.intro
              with_reducible refine ⟨?_, ?_⟩
              · go_simp
                rfl
            with_reducible refine soup_q ?_ ?_ ?_
            · rfl
            · rfl
            with_reducible apply Exists.intro
            with_reducible refine ⟨fun W hk _ => ?_, ?_⟩
            · have c0 := (HC.out.off hk (by simpa using hpm)).1
              simp only at c0
              have c1 := (HC.out.off hk (by simpa using hpm)).2.1
              simp only at c1
              have c2 := (HC.out.off hk (by simpa using hpm)).2.2.1
              simp only at c2
              unfold Oper.same
              go_simp
              first | rfl | exact ⟨rfl, rfl⟩
            with_reducible apply Exists.intro
            with_reducible refine ⟨?_, ?_⟩
            · go_simp
              rfl
            with_reducible refine soup_q ?_ ?_ ?_
            · rfl
            · rfl
            with_reducible apply Exists.intro
            with_reducible refine ⟨fun W hk _ => ?_, ?_⟩
            · unfold Oper.same
              go_simp
              first | rfl | exact ⟨rfl, rfl⟩
            with_reducible apply Exists.intro
            with_reducible refine ⟨?_, ?_⟩
            · go_simp
              rfl
            refine soup_s rfl rfl rfl (fun W5 hk hB _ => ?_) ?_
            · have z0 : W5.cell? ⟨wr.heap.size + 1, 0, none⟩ = some (.int .u8 12) := hB.cell 0
              have zf := hB.fz
              have hks : Keep [wr.heap.size + 1] W5 (W5.setCell ⟨wr.heap.size + 1, 0, none⟩ (.int .u8 11)) := (Keep.refl _ _).setCell _ _ _ (.inl (by simp))
              unfold Oper.does
              go_simp
              exact ⟨hks, hk.trans hks, rfl, hB.set 0 _⟩
            rintro v rfl
            with_reducible apply Exists.intro
            with_reducible refine ⟨?_, ?_⟩
            · go_simp
              rfl
            refine soup_nil (fun W5 hk hS => ?_)
            have hm5 : MsAt W5 (wr.heap.size + 1) (msC 11 x1 x2 0 0 0 (.slice none 0 0)) := hS 5
            obtain ⟨z0, z1, z2, z3, z4, z5, z6, z7, z8, z9, z10, z11, z12, z13, z14, z15, z16, z17, z18, z19, z20, z21⟩ := msC_facts hm5
            have zf := hm5.fz
            obtain ⟨W6, hW6⟩ : ∃ u, ((W5.setCell ⟨wr.heap.size + 1, 17, none⟩ (.int .i64 ep)).setCell ⟨wr.heap.size + 1, 18, none⟩ (.int .i64 nd)).setCell ⟨wr.heap.size + 1, 19, none⟩ (.slice oa own.length oc) = u := ⟨_, rfl⟩
            have hm6 : MsAt W6 (wr.heap.size + 1) (msC 11 x1 x2 0 ep nd (.slice oa own.length oc)) := by rw [← hW6]; exact ((hm5.set 17 _).set 18 _).set 19 _
            have k6 : Keep [wr.heap.size + 1] W5 W6 := by rw [← hW6]; exact (((Keep.refl _ _).setCell _ _ _ (.inl (by simp))).setCell _ _ _ (.inl (by simp))).setCell _ _ _ (.inl (by simp))
            have k06 := hk.trans k6
            have hsa := (k06.block _ (lt_of_heap HSA.out) (by simp; omega)).trans HSA.out
            have r0 : W6.cell? ⟨g2, 0, none⟩ = some (.int .i64 2) := by unfold World.cell?; rw [hsa]; rfl
            have r1 : W6.cell? ⟨g2, 1, none⟩ = some (.int .i64 3) := by unfold World.cell?; rw [hsa]; rfl
            have hea := HE.out.keep k06 (by simp)
            clear q0 q1 q2 q3 q4
            obtain ⟨q0, q1, q2, q3, q4⟩ := hea.facts
            have HE := Lib.hid hea
            have HC := Lib.hid (HC.out.keep k06 (fun b hb => by have h1 := HC1.out.lt b hb; simp only [List.mem_cons, List.not_mem_nil, or_false]; omega))
            have HR := Lib.hid (HR.out.keep k06 (fun b hb => by have := own_ne_obj HR.out HM.out (by decide) b hb; simpa using this))
            have HK := Lib.hid (HK.out.step k06 (by simp; omega))
            have HSA := Lib.hid hsa
            have HMC : Hid (W6.heap[wr.heap.size + 1]? = some (.cells (msC 11 x1 x2 0 ep nd (.slice oa own.length oc)) 47 (0, 0))) := Lib.hid hm6
            clear hk hS hm5 hm6 k6 k06 hsa hea
            have HZ : Hid ((Tryz.prog.info? 47).map (·.size) = some ((msC 11 x1 x2 0 ep nd (.slice oa own.length oc))).size) := Lib.hid (by kernel_rfl)
            have HB := Lib.hid (show ∀ b ∈ cfoot p oa oc own.length bp om ab, b < w1.heap.size from HC1.out.lt)
            go_wp2_with (first | ((with_reducible refine wpList_load_row ?_ 47 (.tmp 6) ?_ (wr.heap.size + 1) ?_ 47 (msC 11 x1 x2 0 ep nd (.slice oa own.length oc)) (0, 0) _ HMC.out Tryz.underlying47 ?_ HZ.out ?_); rfl; rfl; rfl; rfl))
            go_roundw
            case rel => exact ⟨j + 1, by go_num, by omega, HK.out, by rw [HN.out, List.append_nil]; exact HR.out⟩
            case measure => simp [intOf]; omega
        · have hn2 : ((st : Int) == 2) = false := by simpa using hs2
          rcases hd4 with rfl | rfl | rfl | rfl
          · have htk : tickOf C ⟨x1, x2, x3, x4⟩ ⟨st, 0⟩ = [⟨x3, frameB (⟨12, x1, x2, 0, 0, 0, []⟩ : Mg).enc⟩, ⟨x4, frameB (⟨12, x1, x2, 0, 0, 0, []⟩ : Mg).enc⟩] := by unfold tickOf m12; simp [hs1, hs2]
            rw [htk] at HN
            clear htk
            have hsz4 := HSZ4.out
            obtain ⟨Wa, hWa⟩ : ∃ u, (W.setCell ⟨g2, 0, none⟩ (.int .i64 st)).setCell ⟨g2, 1, none⟩ (.int .i64 0) = u := ⟨_, rfl⟩
            have ka : Keep [g2] W Wa := by rw [← hWa]; exact ((Keep.refl _ _).setCell _ _ _ (.inl (by simp))).setCell _ _ _ (.inl (by simp))
            have hsa : Wa.heap[g2]? = some (.cells #[.int .i64 st, .int .i64 0] 76 (0, 0)) := by
              rw [← hWa]
              simp [World.setCell, Array.getElem?_modify, e3]
            have r0 : Wa.cell? ⟨g2, 0, none⟩ = some (.int .i64 st) := by unfold World.cell?; rw [hsa]; rfl
            have r1 : Wa.cell? ⟨g2, 1, none⟩ = some (.int .i64 0) := by unfold World.cell?; rw [hsa]; rfl
            have hea := (HE.out.keep hk (by simp)).keep ka (by simp; omega)
            obtain ⟨q0, q1, q2, q3, q4⟩ := hea.facts
            have HE := Lib.hid hea
            have HC := Lib.hid ((HC.out.kept hk).keep ka (fun b hb => by have := HC.out.lt b hb; simp; omega))
            have HR := Lib.hid ((HR.out.keep hk (by simp)).keep ka (fun b hb => by have := own_lt HR.out b hb; simp; omega))
            have HM := Lib.hid ((HM.out.keep hk (by simp)).keep ka (by simp; omega))
            have HK := Lib.hid ((HK.out.trans hk).step ka (by simp; omega))
            have HSA := Lib.hid hsa
            have hgg : wr.heap.size + 1 < g2 := by omega
            clear hk hS e1 e2 e3 ka hsa hea
            have HMC : Hid (Wa.heap[wr.heap.size + 1]? = some (.cells (msC 12 x1 x2 0 0 0 (.slice none 0 0)) 47 (0, 0))) := HM
            have HZ : Hid ((Tryz.prog.info? 47).map (·.size) = some ((msC 12 x1 x2 0 0 0 (.slice none 0 0))).size) := Lib.hid (by kernel_rfl)
            have HB := Lib.hid (show ∀ b ∈ cfoot p oa oc own.length bp om ab, b < w1.heap.size from HC1.out.lt)
            go_wp2_with (first | ((with_reducible refine wpList_load_row ?_ 47 (.tmp 6) ?_ (wr.heap.size + 1) ?_ 47 (msC 12 x1 x2 0 0 0 (.slice none 0 0)) (0, 0) _ HMC.out Tryz.underlying47 ?_ HZ.out ?_); rfl; rfl; rfl; rfl))
            have HRo := HR
            refine (post_any HR.out HK.out.size (by omega) x3 (m := (⟨12, x1, x2, 0, 0, 0, []⟩ : Mg)) ⟨.inr (.inl ⟨rfl, rfl, rfl, rfl, rfl⟩), (show x1 ≤ 2147483647 by omega), (show x2 ≤ 2147483647 by omega), (by simp), (by simp), (by simp), (by simp), (by simp)⟩ (fun _ => ⟨rfl, rfl⟩) (fun h => absurd rfl h)).mono ?_
            rintro e w7 ⟨v7, rfl, hr, hk5⟩
            have hb5 := own_base HR.out
            obtain ⟨M7, hM7⟩ : ∃ M', M ++ [⟨x3, frameB ((⟨12, x1, x2, 0, 0, 0, []⟩ : Mg)).enc⟩] = M' := ⟨_, rfl⟩
            have hMl7 : M7.length ≤ 807 := by rw [← hM7, List.length_append, List.length_singleton]; omega
            rw [hM7] at hr
            have HM7 := Lib.hid hM7
            clear hM7
            obtain ⟨a7, cv7, rfl, _⟩ := own_shape hr
            have HK := Lib.hid (HK.out.step hk5 (fun y hy => .inr (hb5 y (by simpa using hy))))
            have hkz := hk5
            have HR := Lib.hid hr
            clear r0 r1 q0 q1 q2 q3 q4
            have hsa := (hkz.block _ (lt_of_heap HSA.out) (fun hm => own_ne_obj HRo.out HSA.out (by decide) g2 (by simpa using hm) rfl)).trans HSA.out
            have r0 : w7.cell? ⟨g2, 0, none⟩ = some (.int .i64 st) := by unfold World.cell?; rw [hsa]; rfl
            have r1 : w7.cell? ⟨g2, 1, none⟩ = some (.int .i64 0) := by unfold World.cell?; rw [hsa]; rfl
            have hea := HE.out.keep hkz (fun hm => own_ne_obj HRo.out HE.out (by decide) _ (by simpa using hm) rfl)
            obtain ⟨q0, q1, q2, q3, q4⟩ := hea.facts
            have HMC : Hid (w7.heap[wr.heap.size + 1]? = some (.cells (msC 12 x1 x2 0 0 0 (.slice none 0 0)) 47 (0, 0))) := Lib.hid ((hkz.block _ (lt_of_heap HMC.out) (fun hm => own_ne_obj HRo.out HMC.out (by decide) _ (by simpa using hm) rfl)).trans HMC.out)
            have HC := Lib.hid (HC.out.keep hkz (fun b hb hm => by have h1 := HB.out b hb; have h2 := own_base HRo.out b (by simpa using hm); omega))
            have HE := Lib.hid hea
            have HSA := Lib.hid hsa
            clear hkz hr hk5 hb5 hsa hea
            go_wp2_with (first | ((with_reducible refine wpList_load_row ?_ 47 (.tmp 6) ?_ (wr.heap.size + 1) ?_ 47 (msC 12 x1 x2 0 0 0 (.slice none 0 0)) (0, 0) _ HMC.out Tryz.underlying47 ?_ HZ.out ?_); rfl; rfl; rfl; rfl))
            have HRo := HR
            refine (post_any HR.out HK.out.size (by omega) x4 (m := (⟨12, x1, x2, 0, 0, 0, []⟩ : Mg)) ⟨.inr (.inl ⟨rfl, rfl, rfl, rfl, rfl⟩), (show x1 ≤ 2147483647 by omega), (show x2 ≤ 2147483647 by omega), (by simp), (by simp), (by simp), (by simp), (by simp)⟩ (fun _ => ⟨rfl, rfl⟩) (fun h => absurd rfl h)).mono ?_
            rintro e w9 ⟨v9, rfl, hr, hk5⟩
            have hb5 := own_base HR.out
            obtain ⟨M9, hM9⟩ : ∃ M', M7 ++ [⟨x4, frameB ((⟨12, x1, x2, 0, 0, 0, []⟩ : Mg)).enc⟩] = M' := ⟨_, rfl⟩
            have hMl9 : M9.length ≤ 809 := by rw [← hM9, List.length_append, List.length_singleton]; omega
            rw [hM9] at hr
            have HM9 := Lib.hid hM9
            clear hM9
            obtain ⟨a9, cv9, rfl, _⟩ := own_shape hr
            have HK := Lib.hid (HK.out.step hk5 (fun y hy => .inr (hb5 y (by simpa using hy))))
            have hkz := hk5
            have HR := Lib.hid hr
            clear r0 r1 q0 q1 q2 q3 q4
            have hsa := (hkz.block _ (lt_of_heap HSA.out) (fun hm => own_ne_obj HRo.out HSA.out (by decide) g2 (by simpa using hm) rfl)).trans HSA.out
            have r0 : w9.cell? ⟨g2, 0, none⟩ = some (.int .i64 st) := by unfold World.cell?; rw [hsa]; rfl
            have r1 : w9.cell? ⟨g2, 1, none⟩ = some (.int .i64 0) := by unfold World.cell?; rw [hsa]; rfl
            have hea := HE.out.keep hkz (fun hm => own_ne_obj HRo.out HE.out (by decide) _ (by simpa using hm) rfl)
            obtain ⟨q0, q1, q2, q3, q4⟩ := hea.facts
            have HMC : Hid (w9.heap[wr.heap.size + 1]? = some (.cells (msC 12 x1 x2 0 0 0 (.slice none 0 0)) 47 (0, 0))) := Lib.hid ((hkz.block _ (lt_of_heap HMC.out) (fun hm => own_ne_obj HRo.out HMC.out (by decide) _ (by simpa using hm) rfl)).trans HMC.out)
            have HC := Lib.hid (HC.out.keep hkz (fun b hb hm => by have h1 := HB.out b hb; have h2 := own_base HRo.out b (by simpa using hm); omega))
            have HE := Lib.hid hea
            have HSA := Lib.hid hsa
            clear hkz hr hk5 hb5 hsa hea
            go_wp2_with (first | ((with_reducible refine wpList_load_row ?_ 47 (.tmp 6) ?_ (wr.heap.size + 1) ?_ 47 (msC 12 x1 x2 0 0 0 (.slice none 0 0)) (0, 0) _ HMC.out Tryz.underlying47 ?_ HZ.out ?_); rfl; rfl; rfl; rfl))
            go_roundw
            case rel => exact ⟨j + 1, by go_num, by omega, HK.out, by rw [HN.out, List.append_cons, HM7.out, HM9.out]; exact HR.out⟩
            case measure => simp [intOf]; omega
          · have htk : tickOf C ⟨x1, x2, x3, x4⟩ ⟨st, 1⟩ = [⟨x4, frameB (⟨12, x1, x2, 0, 0, 0, []⟩ : Mg).enc⟩] := by unfold tickOf m12; simp [hs1, hs2]
            rw [htk] at HN
            clear htk
            have hsz4 := HSZ4.out
            obtain ⟨Wa, hWa⟩ : ∃ u, (W.setCell ⟨g2, 0, none⟩ (.int .i64 st)).setCell ⟨g2, 1, none⟩ (.int .i64 1) = u := ⟨_, rfl⟩
            have ka : Keep [g2] W Wa := by rw [← hWa]; exact ((Keep.refl _ _).setCell _ _ _ (.inl (by simp))).setCell _ _ _ (.inl (by simp))
            have hsa : Wa.heap[g2]? = some (.cells #[.int .i64 st, .int .i64 1] 76 (0, 0)) := by
              rw [← hWa]
              simp [World.setCell, Array.getElem?_modify, e3]
            have r0 : Wa.cell? ⟨g2, 0, none⟩ = some (.int .i64 st) := by unfold World.cell?; rw [hsa]; rfl
            have r1 : Wa.cell? ⟨g2, 1, none⟩ = some (.int .i64 1) := by unfold World.cell?; rw [hsa]; rfl
            have hea := (HE.out.keep hk (by simp)).keep ka (by simp; omega)
            obtain ⟨q0, q1, q2, q3, q4⟩ := hea.facts
            have HE := Lib.hid hea
            have HC := Lib.hid ((HC.out.kept hk).keep ka (fun b hb => by have := HC.out.lt b hb; simp; omega))
            have HR := Lib.hid ((HR.out.keep hk (by simp)).keep ka (fun b hb => by have := own_lt HR.out b hb; simp; omega))
            have HM := Lib.hid ((HM.out.keep hk (by simp)).keep ka (by simp; omega))
            have HK := Lib.hid ((HK.out.trans hk).step ka (by simp; omega))
            have HSA := Lib.hid hsa
            have hgg : wr.heap.size + 1 < g2 := by omega
            clear hk hS e1 e2 e3 ka hsa hea
            have HMC : Hid (Wa.heap[wr.heap.size + 1]? = some (.cells (msC 12 x1 x2 0 0 0 (.slice none 0 0)) 47 (0, 0))) := HM
            have HZ : Hid ((Tryz.prog.info? 47).map (·.size) = some ((msC 12 x1 x2 0 0 0 (.slice none 0 0))).size) := Lib.hid (by kernel_rfl)
            have HB := Lib.hid (show ∀ b ∈ cfoot p oa oc own.length bp om ab, b < w1.heap.size from HC1.out.lt)
            go_wp2_with (first | ((with_reducible refine wpList_load_row ?_ 47 (.tmp 6) ?_ (wr.heap.size + 1) ?_ 47 (msC 12 x1 x2 0 0 0 (.slice none 0 0)) (0, 0) _ HMC.out Tryz.underlying47 ?_ HZ.out ?_); rfl; rfl; rfl; rfl))
            have HRo := HR
            refine (post_any HR.out HK.out.size (by omega) x4 (m := (⟨12, x1, x2, 0, 0, 0, []⟩ : Mg)) ⟨.inr (.inl ⟨rfl, rfl, rfl, rfl, rfl⟩), (show x1 ≤ 2147483647 by omega), (show x2 ≤ 2147483647 by omega), (by simp), (by simp), (by simp), (by simp), (by simp)⟩ (fun _ => ⟨rfl, rfl⟩) (fun h => absurd rfl h)).mono ?_
            rintro e w7 ⟨v7, rfl, hr, hk5⟩
            have hb5 := own_base HR.out
            obtain ⟨M7, hM7⟩ : ∃ M', M ++ [⟨x4, frameB ((⟨12, x1, x2, 0, 0, 0, []⟩ : Mg)).enc⟩] = M' := ⟨_, rfl⟩
            have hMl7 : M7.length ≤ 807 := by rw [← hM7, List.length_append, List.length_singleton]; omega
            rw [hM7] at hr
            have HM7 := Lib.hid hM7
            clear hM7
            obtain ⟨a7, cv7, rfl, _⟩ := own_shape hr
            have HK := Lib.hid (HK.out.step hk5 (fun y hy => .inr (hb5 y (by simpa using hy))))
            have hkz := hk5
            have HR := Lib.hid hr
            clear r0 r1 q0 q1 q2 q3 q4
            have hsa := (hkz.block _ (lt_of_heap HSA.out) (fun hm => own_ne_obj HRo.out HSA.out (by decide) g2 (by simpa using hm) rfl)).trans HSA.out
            have r0 : w7.cell? ⟨g2, 0, none⟩ = some (.int .i64 st) := by unfold World.cell?; rw [hsa]; rfl
            have r1 : w7.cell? ⟨g2, 1, none⟩ = some (.int .i64 1) := by unfold World.cell?; rw [hsa]; rfl
            have hea := HE.out.keep hkz (fun hm => own_ne_obj HRo.out HE.out (by decide) _ (by simpa using hm) rfl)
            obtain ⟨q0, q1, q2, q3, q4⟩ := hea.facts
            have HMC : Hid (w7.heap[wr.heap.size + 1]? = some (.cells (msC 12 x1 x2 0 0 0 (.slice none 0 0)) 47 (0, 0))) := Lib.hid ((hkz.block _ (lt_of_heap HMC.out) (fun hm => own_ne_obj HRo.out HMC.out (by decide) _ (by simpa using hm) rfl)).trans HMC.out)
            have HC := Lib.hid (HC.out.keep hkz (fun b hb hm => by have h1 := HB.out b hb; have h2 := own_base HRo.out b (by simpa using hm); omega))
            have HE := Lib.hid hea
            have HSA := Lib.hid hsa
            clear hkz hr hk5 hb5 hsa hea
            go_wp2_with (first | ((with_reducible refine wpList_load_row ?_ 47 (.tmp 6) ?_ (wr.heap.size + 1) ?_ 47 (msC 12 x1 x2 0 0 0 (.slice none 0 0)) (0, 0) _ HMC.out Tryz.underlying47 ?_ HZ.out ?_); rfl; rfl; rfl; rfl))
            go_roundw
            case rel => exact ⟨j + 1, by go_num, by omega, HK.out, by rw [HN.out, HM7.out]; exact HR.out⟩
            case measure => simp [intOf]; omega
          · have htk : tickOf C ⟨x1, x2, x3, x4⟩ ⟨st, 2⟩ = [⟨x3, frameB (⟨12, x1, x2, 0, 0, 0, []⟩ : Mg).enc⟩] := by unfold tickOf m12; simp [hs1, hs2]
            rw [htk] at HN
            clear htk
            have hsz4 := HSZ4.out
            obtain ⟨Wa, hWa⟩ : ∃ u, (W.setCell ⟨g2, 0, none⟩ (.int .i64 st)).setCell ⟨g2, 1, none⟩ (.int .i64 2) = u := ⟨_, rfl⟩
            have ka : Keep [g2] W Wa := by rw [← hWa]; exact ((Keep.refl _ _).setCell _ _ _ (.inl (by simp))).setCell _ _ _ (.inl (by simp))
            have hsa : Wa.heap[g2]? = some (.cells #[.int .i64 st, .int .i64 2] 76 (0, 0)) := by
              rw [← hWa]
              simp [World.setCell, Array.getElem?_modify, e3]
            have r0 : Wa.cell? ⟨g2, 0, none⟩ = some (.int .i64 st) := by unfold World.cell?; rw [hsa]; rfl
            have r1 : Wa.cell? ⟨g2, 1, none⟩ = some (.int .i64 2) := by unfold World.cell?; rw [hsa]; rfl
            have hea := (HE.out.keep hk (by simp)).keep ka (by simp; omega)
            obtain ⟨q0, q1, q2, q3, q4⟩ := hea.facts
            have HE := Lib.hid hea
            have HC := Lib.hid ((HC.out.kept hk).keep ka (fun b hb => by have := HC.out.lt b hb; simp; omega))
            have HR := Lib.hid ((HR.out.keep hk (by simp)).keep ka (fun b hb => by have := own_lt HR.out b hb; simp; omega))
            have HM := Lib.hid ((HM.out.keep hk (by simp)).keep ka (by simp; omega))
            have HK := Lib.hid ((HK.out.trans hk).step ka (by simp; omega))
            have HSA := Lib.hid hsa
            have hgg : wr.heap.size + 1 < g2 := by omega
            clear hk hS e1 e2 e3 ka hsa hea
            have HMC : Hid (Wa.heap[wr.heap.size + 1]? = some (.cells (msC 12 x1 x2 0 0 0 (.slice none 0 0)) 47 (0, 0))) := HM
            have HZ : Hid ((Tryz.prog.info? 47).map (·.size) = some ((msC 12 x1 x2 0 0 0 (.slice none 0 0))).size) := Lib.hid (by kernel_rfl)
            have HB := Lib.hid (show ∀ b ∈ cfoot p oa oc own.length bp om ab, b < w1.heap.size from HC1.out.lt)
            go_wp2_with (first | ((with_reducible refine wpList_load_row ?_ 47 (.tmp 6) ?_ (wr.heap.size + 1) ?_ 47 (msC 12 x1 x2 0 0 0 (.slice none 0 0)) (0, 0) _ HMC.out Tryz.underlying47 ?_ HZ.out ?_); rfl; rfl; rfl; rfl))
            have HRo := HR
            refine (post_any HR.out HK.out.size (by omega) x3 (m := (⟨12, x1, x2, 0, 0, 0, []⟩ : Mg)) ⟨.inr (.inl ⟨rfl, rfl, rfl, rfl, rfl⟩), (show x1 ≤ 2147483647 by omega), (show x2 ≤ 2147483647 by omega), (by simp), (by simp), (by simp), (by simp), (by simp)⟩ (fun _ => ⟨rfl, rfl⟩) (fun h => absurd rfl h)).mono ?_
            rintro e w7 ⟨v7, rfl, hr, hk5⟩
            have hb5 := own_base HR.out
            obtain ⟨M7, hM7⟩ : ∃ M', M ++ [⟨x3, frameB ((⟨12, x1, x2, 0, 0, 0, []⟩ : Mg)).enc⟩] = M' := ⟨_, rfl⟩
            have hMl7 : M7.length ≤ 807 := by rw [← hM7, List.length_append, List.length_singleton]; omega
            rw [hM7] at hr
            have HM7 := Lib.hid hM7
            clear hM7
            obtain ⟨a7, cv7, rfl, _⟩ := own_shape hr
            have HK := Lib.hid (HK.out.step hk5 (fun y hy => .inr (hb5 y (by simpa using hy))))
            have hkz := hk5
            have HR := Lib.hid hr
            clear r0 r1 q0 q1 q2 q3 q4
            have hsa := (hkz.block _ (lt_of_heap HSA.out) (fun hm => own_ne_obj HRo.out HSA.out (by decide) g2 (by simpa using hm) rfl)).trans HSA.out
            have r0 : w7.cell? ⟨g2, 0, none⟩ = some (.int .i64 st) := by unfold World.cell?; rw [hsa]; rfl
            have r1 : w7.cell? ⟨g2, 1, none⟩ = some (.int .i64 2) := by unfold World.cell?; rw [hsa]; rfl
            have hea := HE.out.keep hkz (fun hm => own_ne_obj HRo.out HE.out (by decide) _ (by simpa using hm) rfl)
            obtain ⟨q0, q1, q2, q3, q4⟩ := hea.facts
            have HMC : Hid (w7.heap[wr.heap.size + 1]? = some (.cells (msC 12 x1 x2 0 0 0 (.slice none 0 0)) 47 (0, 0))) := Lib.hid ((hkz.block _ (lt_of_heap HMC.out) (fun hm => own_ne_obj HRo.out HMC.out (by decide) _ (by simpa using hm) rfl)).trans HMC.out)
            have HC := Lib.hid (HC.out.keep hkz (fun b hb hm => by have h1 := HB.out b hb; have h2 := own_base HRo.out b (by simpa using hm); omega))
            have HE := Lib.hid hea
            have HSA := Lib.hid hsa
            clear hkz hr hk5 hb5 hsa hea
            go_wp2_with (first | ((with_reducible refine wpList_load_row ?_ 47 (.tmp 6) ?_ (wr.heap.size + 1) ?_ 47 (msC 12 x1 x2 0 0 0 (.slice none 0 0)) (0, 0) _ HMC.out Tryz.underlying47 ?_ HZ.out ?_); rfl; rfl; rfl; rfl))
            go_roundw
            case rel => exact ⟨j + 1, by go_num, by omega, HK.out, by rw [HN.out, HM7.out]; exact HR.out⟩
            case measure => simp [intOf]; omega
          · have htk : tickOf C ⟨x1, x2, x3, x4⟩ ⟨st, 3⟩ = [] := by unfold tickOf m12; simp [hs1, hs2]
            rw [htk] at HN
            clear htk
            have hsz4 := HSZ4.out
            obtain ⟨Wa, hWa⟩ : ∃ u, (W.setCell ⟨g2, 0, none⟩ (.int .i64 st)).setCell ⟨g2, 1, none⟩ (.int .i64 3) = u := ⟨_, rfl⟩
            have ka : Keep [g2] W Wa := by rw [← hWa]; exact ((Keep.refl _ _).setCell _ _ _ (.inl (by simp))).setCell _ _ _ (.inl (by simp))
            have hsa : Wa.heap[g2]? = some (.cells #[.int .i64 st, .int .i64 3] 76 (0, 0)) := by
              rw [← hWa]
              simp [World.setCell, Array.getElem?_modify, e3]
            have r0 : Wa.cell? ⟨g2, 0, none⟩ = some (.int .i64 st) := by unfold World.cell?; rw [hsa]; rfl
            have r1 : Wa.cell? ⟨g2, 1, none⟩ = some (.int .i64 3) := by unfold World.cell?; rw [hsa]; rfl
            have hea := (HE.out.keep hk (by simp)).keep ka (by simp; omega)
            obtain ⟨q0, q1, q2, q3, q4⟩ := hea.facts
            have HE := Lib.hid hea
            have HC := Lib.hid ((HC.out.kept hk).keep ka (fun b hb => by have := HC.out.lt b hb; simp; omega))
            have HR := Lib.hid ((HR.out.keep hk (by simp)).keep ka (fun b hb => by have := own_lt HR.out b hb; simp; omega))
            have HM := Lib.hid ((HM.out.keep hk (by simp)).keep ka (by simp; omega))
            have HK := Lib.hid ((HK.out.trans hk).step ka (by simp; omega))
            have HSA := Lib.hid hsa
            have hgg : wr.heap.size + 1 < g2 := by omega
            clear hk hS e1 e2 e3 ka hsa hea
            have HMC : Hid (Wa.heap[wr.heap.size + 1]? = some (.cells (msC 12 x1 x2 0 0 0 (.slice none 0 0)) 47 (0, 0))) := HM
            have HZ : Hid ((Tryz.prog.info? 47).map (·.size) = some ((msC 12 x1 x2 0 0 0 (.slice none 0 0))).size) := Lib.hid (by kernel_rfl)
            have HB := Lib.hid (show ∀ b ∈ cfoot p oa oc own.length bp om ab, b < w1.heap.size from HC1.out.lt)
            go_wp2_with (first | ((with_reducible refine wpList_load_row ?_ 47 (.tmp 6) ?_ (wr.heap.size + 1) ?_ 47 (msC 12 x1 x2 0 0 0 (.slice none 0 0)) (0, 0) _ HMC.out Tryz.underlying47 ?_ HZ.out ?_); rfl; rfl; rfl; rfl))
            go_roundw
            case rel => exact ⟨j + 1, by go_num, by omega, HK.out, by rw [HN.out, List.append_nil]; exact HR.out⟩
            case measure => simp [intOf]; omega
    · obtain rfl : j = L.length := by omega
      obtain ⟨mb, hmb⟩ : ∃ n, wr.heap.size = n := ⟨_, rfl⟩
      have hrow := HR.out
      rw [List.take_length] at hrow
      obtain ⟨M, hM⟩ : ∃ M, L.flatMap (fun x => tickOf C x (atOf x.mv at_)) = M := ⟨_, rfl⟩
      have hMl : M.length ≤ 800 := by
        rw [← hM, List.length_flatMap]
        have h1 : ∀ l : List En, (l.map fun x => (tickOf C x (atOf x.mv at_)).length).sum ≤ 2 * l.length := by
          intro l
          induction l with
          | nil => simp
          | cons y r ih =>
            rw [List.map_cons, List.sum_cons, List.length_cons]
            have := tickOf_len C y (atOf y.mv at_)
            omega
        have h2 := h1 L
        omega
      rw [hM] at hrow
      have hlM : (List.flatMap (fun x => tickOf C x (atOf x.mv at_)) (List.take L.length L)).length = M.length := by rw [List.take_length, hM]
      rw [hlM]
      have HMM := Lib.hid hM
      have hn14 : ∀ n : Int, newsOf C n = ⟨n, frameB (⟨14, 0, 0, 0, ep, nd, own⟩ : Mg).enc⟩ := fun n => by unfold newsOf; rw [H14.out]
      have HN14 := Lib.hid hn14
      obtain ⟨w3, hw3⟩ : ∃ u, wr.alloc (.cells #[.int .u8 0, .int .i64 0, .int .i64 0, .int .i64 0, .int .i64 0, .int .i64 0, .int .i64 0, .int .u64 0, .int .i64 0, .int .i64 0, .int .i64 0, .int .i64 0, .int .u8 0, .string ⟨#[]⟩, .int .i64 0, .int .i64 0, .int .i64 0, .int .i64 0, .int .i64 0, .slice none 0 0, .slice none 0 0, .string ⟨#[]⟩] 47) = u := ⟨_, rfl⟩
      have k3 : Keep [] wr w3 := by rw [← hw3]; exact (Keep.refl _ _).alloc _
      have z3 : MsAt w3 mb (msC 0 0 0 0 0 0 (.slice none 0 0)) := by rw [← hw3, ← hmb]; exact World.alloc_heap_new wr _
      obtain ⟨w4, hw4⟩ : ∃ u, w3.setRow mb (msC 14 0 0 0 ep nd (.slice oa own.length oc)) = u := ⟨_, rfl⟩
      have k4 : Keep [mb] w3 w4 := by rw [← hw4]; exact (Keep.refl _ _).setRow _ _ (.inl (by simp))
      have hst4 := run_storeVar_row (P := Tryz.prog) w3 mb 47 47 _ (msC 14 0 0 0 ep nd (.slice oa own.length oc)) z3 (by kernel_rfl) rfl (by simp [msC, Value.oneCell'])
      rw [hw4] at hst4
      have z4 : MsAt w4 mb (msC 14 0 0 0 ep nd (.slice oa own.length oc)) := by rw [← hw4]; exact z3.row
      have k04 : Keep [] wr w4 := k3.step k4 (by simp [hmb])
      have HC := HC1.out.kept HK.out
      obtain ⟨c0, c1, c2, c3, c4, c5, c6, c7⟩ := HC.facts
      simp only at c0 c1 c2 c3 c4 c5 c6
      have HST4 := Lib.hid hst4
      have HC4 := HC.kept k04
      obtain ⟨d0, d1, d2, d3, d4, d5, d6, d7⟩ := HC4.facts
      simp only at d0 d1 d2 d3 d4 d5 d6
      have hkw := HK.out.size
      have HK := Lib.hid (HK.out.trans k04)
      have HR := Lib.hid (PRow.keep hrow k04 (by simp))
      have HB := Lib.hid (show ∀ b ∈ cfoot p oa oc own.length bp om ab, b < w1.heap.size from HC1.out.lt)
      have HCC := Lib.hid HC4
      have HMC : Hid (w4.heap[mb]? = some (.cells (msC 14 0 0 0 ep nd (.slice oa own.length oc)) 47 (0, 0))) := Lib.hid z4
      have HZ : Hid ((Tryz.prog.info? 47).map (·.size) = some ((msC 14 0 0 0 ep nd (.slice oa own.length oc))).size) := Lib.hid (by kernel_rfl)
      clear k3 z3 k4 hst4 z4 k04 HC HC4 hrow hM hlM hn14 hw4
      go_wp2_with (((with_reducible refine wpList_store_all ?_ 47 (.tmp 9) (.tmp 95) ?_ (mb) ?_ (msC 14 0 0 0 ep nd (.slice oa own.length oc)) ?_ HST4.out ?_); rfl; rfl; rfl; rfl))
      clear c0 c1 c2 c3 c4 c5 c6 c7 d0 d1 d2 d3 d4 d5 d6 d7
      go_loopw [3, 101] (fun v i wr => ∃ n : Nat, i = .int .i64 n ∧ n ≤ nd ∧ Keep [] w1 wr ∧ wr.heap[mb]? = some (.cells (msC 14 0 0 0 ep nd (.slice oa own.length oc)) 47 (0, 0)) ∧ PRow w1.heap.size wr v (M ++ (List.range n).map fun (q : Nat) => newsOf C (q : Int))) (fun _ i _ => nd - (intOf i).toNat)
      case atStart => exact ⟨0, rfl, Nat.zero_le _, HK.out, HMC.out, by simpa using HR.out⟩
      case round =>
        obtain ⟨n, rfl, hn, hk, hmc, hrow2⟩ := hrel
        have h0n : (0 : Int) ≤ (n : Int) := Int.natCast_nonneg n
        obtain ⟨N1, hN1⟩ : ∃ N1, M ++ (List.range n).map (fun (q : Nat) => newsOf C (q : Int)) = N1 := ⟨_, rfl⟩
        have hNl : N1.length ≤ 810 := by rw [← hN1, List.length_append, List.length_map, List.length_range]; omega
        rw [hN1] at hrow2
        obtain ⟨av2, cv2, rfl, _⟩ := own_shape hrow2
        have HK := Lib.hid hk
        have HR := Lib.hid hrow2
        have HN1 := Lib.hid hN1
        have HMC : Hid (wr.heap[mb]? = some (.cells (msC 14 0 0 0 ep nd (.slice oa own.length oc)) 47 (0, 0))) := Lib.hid hmc
        have HCC := Lib.hid (HC1.out.kept hk)
        clear hk hmc hrow2 hN1
        by_cases hlt2 : n < nd
        · have hnn : (n : Int) < nd := by omega
          go_wp2_with (((with_reducible refine wpList_load_row ?_ 47 (.tmp 9) ?_ (mb) ?_ 47 (msC 14 0 0 0 ep nd (.slice oa own.length oc)) (0, 0) _ HMC.out Tryz.underlying47 ?_ HZ.out ?_); rfl; rfl; rfl; rfl))
          refine (post_any HR.out HK.out.size (by omega) (n : Int) (m := (⟨14, 0, 0, 0, ep, nd, own⟩ : Mg)) ⟨.inr (.inr (.inr ⟨rfl, rfl, rfl, rfl⟩)), (by simp), (by simp), (by simp), hep2, (show nd ≤ 2147483647 by omega), hlen, HOWN.out⟩ (fun h => by rcases h with h | h <;> cases h) HCC.out.ints).mono ?_
          rintro e w6 ⟨v6, rfl, hr6, hk6⟩
          have hb6 := own_base HR.out
          obtain ⟨N2, hN2⟩ : ∃ N2, N1 ++ [⟨(n : Int), frameB ((⟨14, 0, 0, 0, ep, nd, own⟩ : Mg)).enc⟩] = N2 := ⟨_, rfl⟩
          rw [hN2] at hr6
          obtain ⟨a6, cv6, rfl, _⟩ := own_shape hr6
          have hnx : M ++ (List.range (n + 1)).map (fun (q : Nat) => newsOf C (q : Int)) = N2 := by
            rw [List.range_succ, List.map_append, ← List.append_assoc, HN1.out, ← hN2, List.map_cons, List.map_nil, HN14.out]
          have HNX := Lib.hid hnx
          have HK6 := Lib.hid (HK.out.step hk6 (fun y hy => .inr (hb6 y (by simpa using hy))))
          have HMC6 := Lib.hid ((hk6.block _ (lt_of_heap HMC.out) (fun hm => own_ne_obj HR.out HMC.out (by decide) _ (by simpa using hm) rfl)).trans HMC.out)
          have HR6 := Lib.hid hr6
          clear hr6 hk6 hb6 hN2 hnx
          go_wp2_with (fail)
          go_roundw
          case rel => exact ⟨n + 1, by go_num, by omega, HK6.out, HMC6.out, by rw [HNX.out]; exact HR6.out⟩
          case measure => simp [intOf]; omega
        · obtain rfl : nd = n := by omega
          obtain ⟨M2, hM2⟩ : ∃ M2, M ++ (List.range nd).map (fun (q : Nat) => newsOf C (q : Int)) = M2 := ⟨_, rfl⟩
          have hM2l : M2.length ≤ 804 := by rw [← hM2, List.length_append, List.length_map, List.length_range]; omega
          have HM2 := Lib.hid hM2
          rw [hM2] at HN1
          have hNM : N1 = M2 := HN1.out.symm
          rw [hNM] at HR ⊢
          clear hM2
          go_wp2_with (fail)
          go_loopw [3, 109] (fun v i wr => ∃ n : Nat, i = .int .i64 n ∧ n ≤ 4 ∧ Keep [] w1 wr ∧ wr.heap[mb]? = some (.cells (msC 14 0 0 0 ep nd (.slice oa own.length oc)) 47 (0, 0)) ∧ PRow w1.heap.size wr v (M2 ++ (List.range n).map fun (q : Nat) => newsOf C (4 + q : Int))) (fun _ i _ => 4 - (intOf i).toNat)
          case atStart => exact ⟨0, rfl, Nat.zero_le _, HK.out, HMC.out, by simpa using HR.out⟩
          case round =>
            obtain ⟨n, rfl, hn, hk, hmc, hrow2⟩ := hrel
            have h0n : (0 : Int) ≤ (n : Int) := Int.natCast_nonneg n
            obtain ⟨N1, hN1⟩ : ∃ N1, M2 ++ (List.range n).map (fun (q : Nat) => newsOf C (4 + q : Int)) = N1 := ⟨_, rfl⟩
            have hNl : N1.length ≤ 820 := by rw [← hN1, List.length_append, List.length_map, List.length_range]; omega
            rw [hN1] at hrow2
            obtain ⟨av2, cv2, rfl, _⟩ := own_shape hrow2
            have HK := Lib.hid hk
            have HR := Lib.hid hrow2
            have HN1 := Lib.hid hN1
            have HMC : Hid (wr.heap[mb]? = some (.cells (msC 14 0 0 0 ep nd (.slice oa own.length oc)) 47 (0, 0))) := Lib.hid hmc
            have HCC := Lib.hid (HC1.out.kept hk)
            clear hk hmc hrow2 hN1
            by_cases hlt2 : n < 4
            · have hnn : (n : Int) < 4 := by omega
              go_wp2_with (((with_reducible refine wpList_load_row ?_ 47 (.tmp 9) ?_ (mb) ?_ 47 (msC 14 0 0 0 ep nd (.slice oa own.length oc)) (0, 0) _ HMC.out Tryz.underlying47 ?_ HZ.out ?_); rfl; rfl; rfl; rfl))
              refine (post_any HR.out HK.out.size (by omega) (4 + n : Int) (m := (⟨14, 0, 0, 0, ep, nd, own⟩ : Mg)) ⟨.inr (.inr (.inr ⟨rfl, rfl, rfl, rfl⟩)), (by simp), (by simp), (by simp), hep2, (show nd ≤ 2147483647 by omega), hlen, HOWN.out⟩ (fun h => by rcases h with h | h <;> cases h) HCC.out.ints).mono ?_
              rintro e w6 ⟨v6, rfl, hr6, hk6⟩
              have hb6 := own_base HR.out
              obtain ⟨N2, hN2⟩ : ∃ N2, N1 ++ [⟨(4 + n : Int), frameB ((⟨14, 0, 0, 0, ep, nd, own⟩ : Mg)).enc⟩] = N2 := ⟨_, rfl⟩
              rw [hN2] at hr6
              obtain ⟨a6, cv6, rfl, _⟩ := own_shape hr6
              have hnx : M2 ++ (List.range (n + 1)).map (fun (q : Nat) => newsOf C (4 + q : Int)) = N2 := by
                rw [List.range_succ, List.map_append, ← List.append_assoc, HN1.out, ← hN2, List.map_cons, List.map_nil, HN14.out]
              have HNX := Lib.hid hnx
              have HK6 := Lib.hid (HK.out.step hk6 (fun y hy => .inr (hb6 y (by simpa using hy))))
              have HMC6 := Lib.hid ((hk6.block _ (lt_of_heap HMC.out) (fun hm => own_ne_obj HR.out HMC.out (by decide) _ (by simpa using hm) rfl)).trans HMC.out)
              have HR6 := Lib.hid hr6
              clear hr6 hk6 hb6 hN2 hnx
              go_wp2_with (fail)
              go_roundw
              case rel => exact ⟨n + 1, by go_num, by omega, HK6.out, HMC6.out, by rw [HNX.out]; exact HR6.out⟩
              case measure => simp [intOf]; omega
            · obtain rfl : 4 = n := by omega
              go_wp2_with (fail)
              go_ret
              refine ⟨_, rfl, ?_, HK1.out.trans HK.out⟩
              have h : PRow w.heap.size wr (.slice av2 N1.length cv2) N1 := own_low HR.out HK1.out.size
              have e1 : (L.flatMap fun x => tickOf C x (atOf x.mv at_)) ++ ((List.range nd).map fun (n : Nat) => newsOf C n) ++ ((List.range 4).map fun (n : Nat) => newsOf C (4 + n)) = N1 := by
                rw [HMM.out, HM2.out, ← HN1.out]
              rw [e1]
              exact h
end Go.Proofs.YteejdfpfdnkiiaaGreat
