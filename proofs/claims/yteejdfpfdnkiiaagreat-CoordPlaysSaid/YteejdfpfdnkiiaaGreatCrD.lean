/- Lists of numbers: the reader. -/
import Derived.Test.YteejdfpfdnkiiaaGreatPe
import Derived.Test.YteejdfpfdnkiiaaGreatCmD
namespace Go.Proofs.YteejdfpfdnkiiaaGreat
open Go.RowKit Go.Lib
set_option linter.unusedSimpArgs false
set_option linter.unusedVariables false
theorem own_ne_obj {W : World} {g base n size : Nat} {e t : TypeId} {v : Value} {xs : List Value} {cs : Array Value} {f : Nat × Nat} (h : W.ownsRow base e size v n xs) (ho : W.heap[g]? = some (.cells cs t f)) (he : e ≠ t) : ∀ b, v.ownBlock = some b → b ≠ g := by
  rintro b hb rfl
  rcases h.2 with ⟨hv, _⟩ | ⟨g', cap, cur, hv, hb', hg', r⟩
  · rw [hv] at hb; cases hb
  · rw [hv] at hb
    obtain rfl : g' = b := by simpa [Value.ownBlock] using hb
    rw [hg'] at ho
    simp only [Option.some.injEq, Obj.cells.injEq] at ho
    exact he ho.2.1
theorem obj_ne {W : World} {g g' : Nat} {t t' : TypeId} {cs cs' : Array Value} {f f' : Nat × Nat} (h : W.heap[g]? = some (.cells cs t f)) (h' : W.heap[g']? = some (.cells cs' t' f')) (he : t ≠ t') : g ≠ g' := by
  rintro rfl
  rw [h] at h'
  simp only [Option.some.injEq, Obj.cells.injEq] at h'
  exact he h'.2.1
theorem own_low {W : World} {base b n size : Nat} {e : TypeId} {v : Value} {xs : List Value} (h : W.ownsRow base e size v n xs) (hb : b ≤ base) : W.ownsRow b e size v n xs := by
  refine ⟨h.1, ?_⟩
  rcases h.2 with h2 | ⟨g, cap, cur, h1, h2, r⟩
  · exact .inl h2
  · exact .inr ⟨g, cap, cur, h1, Nat.le_trans hb h2, r⟩
/-- The reader, and the message that it fills. -/
structure StR (r x mb : Nat) (s : ByteArray) (p : Nat) (cs : Array Value) (w W : World) : Prop where
  I : InAt W x s p
  R : OneAt W r (.pointer (some ⟨x, 0, none⟩)) 187
  M : MsAt W mb cs
  K : Keep [x, mb] w W
  S : cs.size = 22
theorem StR.ne {r x mb : Nat} {s : ByteArray} {p : Nat} {cs : Array Value} {w W : World} (h : StR r x mb s p cs w W) : mb ≠ x ∧ mb ≠ r ∧ r ≠ x := ⟨obj_ne h.M h.I (by decide), obj_ne h.M h.R (by decide), obj_ne h.R h.I (by decide)⟩
theorem StR.keep {r x mb : Nat} {s : ByteArray} {p : Nat} {cs : Array Value} {w W W' : World} (h : StR r x mb s p cs w W) (hk : Keep [] W W') : StR r x mb s p cs w W' := ⟨h.I.keep hk (by simp), h.R.keep hk (by simp), h.M.keep hk (by simp), h.K.step hk (by simp), h.S⟩
theorem StR.put {r x mb : Nat} {s : ByteArray} {p q : Nat} {cs : Array Value} {w W W1 : World} (h : StR r x mb s p cs w W) (hi : InAt W1 x s q) (hk : Keep [x] W W1) (off : Nat) (v : Value) : StR r x mb s q (cs.setIfInBounds off v) w (W1.setCell ⟨mb, off, none⟩ v) := by
  obtain ⟨n1, n2, n3⟩ := h.ne
  have hks : Keep [mb] W1 (W1.setCell ⟨mb, off, none⟩ v) := (Keep.refl _ _).setCell _ _ _ (.inl (by simp))
  refine ⟨hi.keep hks (by simpa using n1.symm), (h.R.keep hk (by simpa using n3)).keep hks (by simpa using n2.symm), (h.M.keep hk (by simpa using n1)).set off v, (h.K.step hk (by simp)).step hks (by simp), by simp [h.S]⟩
theorem rnum_st {r x mb : Nat} {s : ByteArray} {p : Nat} {cs : Array Value} {w W : World} (h : StR r x mb s p cs w W) (n : Nat) (rest : List UInt8) (hs : s.data.toList.drop p = varB n ++ rest) (hn : n ≤ 2147483647) (hz : s.size ≤ 100000) (off : Nat) (ho : off < 22) : Calls Tryz.prog 143 #[.pointer (some ⟨r, 0, none⟩), .pointer (some ⟨mb, off, none⟩)] W fun e w' => e = .returned (.tuple #[]) ∧ StR r x mb s (p + (varB n).length) (cs.setIfInBounds off (.int .i64 n)) w w' := by
  obtain ⟨n1, n2, n3⟩ := h.ne
  have hc := h.M.cell off
  rw [Array.getElem?_eq_getElem (by rw [h.S]; exact ho)] at hc
  refine (rnum_any h.R h.I n rest hs hn hz mb off hc (h.M.fz off) n1 n2).mono ?_
  rintro e w' ⟨rfl, W1, rfl, h1, h2⟩
  exact ⟨rfl, h.put h1 h2 off _⟩
theorem rbyte_st {r x mb : Nat} {s : ByteArray} {p : Nat} {cs : Array Value} {w W : World} (h : StR r x mb s p cs w W) (b : UInt8) (hs : s.data.toList[p]? = some b) (hz : s.size ≤ 100000) (off : Nat) (ho : off < 22) : Calls Tryz.prog 140 #[.pointer (some ⟨r, 0, none⟩), .pointer (some ⟨mb, off, none⟩)] W fun e w' => e = .returned (.tuple #[]) ∧ StR r x mb s (p + 1) (cs.setIfInBounds off (byV b)) w w' := by
  obtain ⟨n1, n2, n3⟩ := h.ne
  have hc := h.M.cell off
  rw [Array.getElem?_eq_getElem (by rw [h.S]; exact ho)] at hc
  refine (rbyte_any h.R h.I b hs hz mb off hc (h.M.fz off) n1 n2).mono ?_
  rintro e w' ⟨rfl, W1, rfl, h1, h2⟩
  exact ⟨rfl, h.put h1 h2 off _⟩
/-- How far the reader's list has come. -/
structure NrI (r x mb off : Nat) (s : ByteArray) (p : Nat) (cs : Array Value) (own : List Int) (nb : Nat) (w : World) (j : Nat) (vp : Value) (W : World) : Prop where
  T : StR r x mb s (p + (numsB (own.take j)).length) (cs.setIfInBounds off vp) w W
  P : IRow nb W vp (own.take j)
  Z : nb ≤ W.heap.size
  B : w.heap.size ≤ nb
theorem NrI.app {r x mb off : Nat} {s : ByteArray} {p : Nat} {cs : Array Value} {own : List Int} {nb : Nat} {w : World} {j xn : Nat} {vp u : Value} {W W1 W2 : World} (h : NrI r x mb off s p cs own nb w j vp W) (hx : own[j]? = some (xn : Int)) (h1 : StR r x mb s (p + (numsB (own.take j)).length + (varB xn).length) (cs.setIfInBounds off vp) w W1) (hp1 : IRow nb W1 vp (own.take j)) (hk : Keep vp.ownBlock.toList W1 W2) (hu : IRow nb W2 u (own.take j ++ [(xn : Int)])) (hz : nb ≤ W2.heap.size) : NrI r x mb off s p cs own nb w (j + 1) u (W2.setCell ⟨mb, off, none⟩ u) := by
  obtain ⟨n1, n2, n3⟩ := h1.ne
  have ht : own.take (j + 1) = own.take j ++ [(xn : Int)] := by rw [List.take_add_one, hx]; rfl
  have hks : Keep [mb] W2 (W2.setCell ⟨mb, off, none⟩ u) := (Keep.refl _ _).setCell _ _ _ (.inl (by simp))
  have e1 : (numsB (own.take (j + 1))).length = (numsB (own.take j)).length + (varB xn).length := by rw [ht, numsB_snoc, List.length_append]; simp
  have hmem : ∀ g, g ∈ vp.ownBlock.toList → vp.ownBlock = some g := fun g hg => by simpa using hg
  have hi2 := h1.I.keep hk (fun hm => own_ne_obj hp1 h1.I (by decide) x (hmem _ hm) rfl)
  have hr2 := h1.R.keep hk (fun hm => own_ne_obj hp1 h1.R (by decide) r (hmem _ hm) rfl)
  have hm2 := h1.M.keep hk (fun hm => own_ne_obj hp1 h1.M (by decide) mb (hmem _ hm) rfl)
  refine ⟨⟨?_, hr2.keep hks (by simpa using n2.symm), ?_, (h1.K.step hk (fun y hy => .inr (Nat.le_trans h.B (own_base hp1 y (hmem _ hy))))).step hks (by simp), by simpa using h1.S⟩, ?_, Nat.le_trans hz hks.size, h.B⟩
  · rw [e1, ← Nat.add_assoc]
    exact hi2.keep hks (by simpa using n1.symm)
  · have := hm2.set off u
    simpa using this
  · rw [ht]
    exact hu.keep hks (fun b hb => by have := own_ne_obj hu hm2 (by decide) b hb; simpa using this)
theorem NrI.keep {r x mb off : Nat} {s : ByteArray} {p : Nat} {cs : Array Value} {own : List Int} {nb : Nat} {w : World} {j : Nat} {vp : Value} {W W' : World} (h : NrI r x mb off s p cs own nb w j vp W) (hk : Keep [] W W') : NrI r x mb off s p cs own nb w j vp W' := ⟨h.T.keep hk, h.P.keep hk (by simp), Nat.le_trans h.Z hk.size, h.B⟩
set_option maxRecDepth 100000 in
set_option maxHeartbeats 4000000 in
theorem rnums_st {r x mb off : Nat} {s : ByteArray} {p : Nat} {cs : Array Value} {w W : World} {own : List Int} (h : StR r x mb s p cs w W) (rest : List UInt8) (hs : s.data.toList.drop p = varB own.length ++ numsB own ++ rest) (hz : s.size ≤ 100000) (hof : cs[off]? = some (.slice none 0 0)) (h64 : own.length ≤ 64) (hr : ∀ x ∈ own, 0 ≤ x ∧ x ≤ 2147483647) : Calls Tryz.prog 100 #[(.iface 183 (.pointer (some ⟨r, 0, none⟩))), .pointer (some ⟨mb, off, none⟩), .int .i64 64] W fun e w' => e = .returned (.tuple #[]) ∧ ∃ vp, StR r x mb s (p + (varB own.length).length + (numsB own).length) (cs.setIfInBounds off vp) w w' ∧ IRow w.heap.size w' vp own := by
  have H := Lib.hid h
  have HOF := Lib.hid hof
  have HR := Lib.hid hr
  have hlo : off < 22 := by rw [← h.S]; exact (Array.getElem?_eq_some_iff.1 hof).1
  rw [List.append_assoc] at hs
  have hs2 : s.data.toList.drop (p + (varB own.length).length) = numsB own ++ rest := by rw [← List.drop_drop, hs, List.drop_left]
  have HS := Lib.hid hs
  have HS2 := Lib.hid hs2
  clear h hof hr hs hs2
  obtain ⟨p2, hp2⟩ : ∃ p2, p + (varB own.length).length = p2 := ⟨_, rfl⟩
  rw [hp2] at HS2 ⊢
  have hm_count : ∀ W, (method 327 183 (.pointer (some ⟨r, 0, none⟩)) "meter/msg.count").run Tryz.prog W = .ok (141, .pointer (some ⟨r, 0, none⟩)) W := fun _ => by kernel_rfl
  have hm_num : ∀ W, (method 327 183 (.pointer (some ⟨r, 0, none⟩)) "meter/msg.num").run Tryz.prog W = .ok (143, .pointer (some ⟨r, 0, none⟩)) W := fun _ => by kernel_rfl
  go_enter Tryz.func100, Tryz.ntmps100
  go_wp2_with (fail)
  refine wp_region_soup 9 [] (fun _ => none) (by kernel_rfl) (by kernel_rfl) (spOk_of (l := []) (by simp)) (pre_of (l := []) (by simp)) ?_
  simp only [List.take_succ_cons, List.take_zero, List.drop_succ_cons, List.drop_zero]
  iterate 3
    with_reducible refine soup_q ?_ ?_ ?_
    · rfl
    · rfl
    with_reducible apply Exists.intro
    with_reducible refine ⟨fun W hk _ => ?_, ?_⟩
    · unfold Oper.same
      go_simp
      first | rfl | exact ⟨rfl, rfl⟩
    with_reducible apply Exists.intro
    with_reducible refine ⟨?_, ?_⟩
    · go_simp
      rfl
  with_reducible refine soup_q ?_ ?_ ?_
  · rfl
  · rfl
  with_reducible apply Exists.intro
  with_reducible refine ⟨fun W hk _ => ?_, ?_⟩
  · have c0 := ((H.out.M.keep hk (by simp)).cell off).trans HOF.out
    unfold Oper.same
    go_simp
    first | rfl | exact ⟨rfl, rfl⟩
  with_reducible apply Exists.intro
  with_reducible refine ⟨?_, ?_⟩
  · go_simp
    rfl
  iterate 2
    with_reducible refine soup_q ?_ ?_ ?_
    · rfl
    · rfl
    with_reducible apply Exists.intro
    with_reducible refine ⟨fun W hk _ => ?_, ?_⟩
    · unfold Oper.same
      go_simp
      first | rfl | exact ⟨rfl, rfl⟩
    with_reducible apply Exists.intro
    with_reducible refine ⟨?_, ?_⟩
    · go_simp
      rfl
  with_reducible refine soup_q ?_ ?_ ?_
  · rfl
  · rfl
  with_reducible apply Exists.intro
  with_reducible refine ⟨fun W hk _ => ?_, ?_⟩
  · have hmf : ∀ (fn : Fn) (first cap : Array Value) (w : World), (Instr.makeFunc fn first cap).run Tryz.prog w = .ok (.func fn first cap) w := fun _ _ _ _ => rfl
    unfold Oper.same
    go_simp
    first | rfl | exact ⟨rfl, rfl⟩
  with_reducible apply Exists.intro
  with_reducible refine ⟨?_, ?_⟩
  · go_simp
    rfl
  iterate 2
    with_reducible refine soup_q ?_ ?_ ?_
    · rfl
    · rfl
    with_reducible apply Exists.intro
    with_reducible refine ⟨fun W hk _ => ?_, ?_⟩
    · unfold Oper.same
      go_simp
      first | rfl | exact ⟨rfl, rfl⟩
    with_reducible apply Exists.intro
    with_reducible refine ⟨?_, ?_⟩
    · go_simp
      rfl
  refine soup_nil (fun W0 hk hS => ?_)
  have H1 := Lib.hid (H.out.keep hk)
  clear hk hS H
  go_wp2_with (fail)
  refine (rcount_any H1.out.R H1.out.I own.length _ HS.out 64 (by omega) (by omega) hz _).mono ?_
  rintro e w1 ⟨rfl, hi1, hk1⟩
  rw [hp2] at hi1
  obtain ⟨n1, n2, n3⟩ := H1.out.ne
  have HT := Lib.hid (show StR r x mb s p2 cs w w1 from ⟨hi1, H1.out.R.keep hk1 (by simpa using n3), H1.out.M.keep hk1 (by simpa using n1), H1.out.K.step hk1 (by simp), H1.out.S⟩)
  have c0 := (HT.out.M.cell off).trans HOF.out
  have cf := HT.out.M.fz
  clear hi1 hk1 H1
  go_wp2_with (fail)
  refine (clone_any (a := none) (l := []) 0 (fun h => absurd rfl h) (by simp)).mono ?_
  rintro e w2 ⟨vc, rfl, hIr, hB2⟩
  have hvc : ∃ ac cc, vc = .slice ac 0 cc := by obtain ⟨ac, cc, h, _⟩ := own_shape hIr; exact ⟨ac, cc, h⟩
  obtain ⟨ac, cc, rfl⟩ := hvc
  have HT2 := Lib.hid (HT.out.keep (Keep.of_below hB2 []))
  have c0 := (HT2.out.M.cell off).trans HOF.out
  have cf := HT2.out.M.fz
  clear hIr hB2 HT
  go_wp2_with (fail)
  clear c0 cf
  have h0 : NrI r x mb off s p2 cs own w2.heap.size w 0 (.slice none 0 0) (w2.setCell ⟨mb, off, none⟩ (.slice none 0 0)) := by
    have h1 := HT2.out.put HT2.out.I (Keep.refl _ _) off (.slice none 0 0)
    exact ⟨by simpa [numsB] using h1, World.ownsRow_nil _ _ _ _, by simp [World.setCell], HT2.out.K.size⟩
  have H0 := Lib.hid h0
  clear h0 HT2
  go_loopw [27] (fun i wr => ∃ (j : Nat) (vp : Value), i = .int .i64 j ∧ j ≤ own.length ∧ NrI r x mb off s p2 cs own w2.heap.size w j vp wr) (fun i _ => own.length - (intOf i).toNat)
  case atStart => exact ⟨0, _, rfl, Nat.zero_le _, H0.out⟩
  case round =>
    clear H0
    obtain ⟨j, vp, rfl, hj, hN⟩ := hrel
    have h0j : (0 : Int) ≤ (j : Int) := Int.natCast_nonneg j
    have HN := Lib.hid hN
    clear hN
    by_cases hlt : j < own.length
    · obtain ⟨xi, hx⟩ : ∃ x, own[j]? = some x := ⟨own[j], List.getElem?_eq_getElem hlt⟩
      have hx1 := HR.out xi (List.mem_of_getElem? hx)
      obtain ⟨xn, rfl⟩ : ∃ n : Nat, xi = n := ⟨xi.toNat, by omega⟩
      have hjn : (j : Int) < (own.length : Int) := by omega
      have hsx : s.data.toList.drop (p2 + (numsB (own.take j)).length) = varB xn ++ (numsB (own.drop (j + 1)) ++ rest) := by
        rw [← List.drop_drop, HS2.out]
        have e1 : own = own.take j ++ ((xn : Int) :: own.drop (j + 1)) := by
          conv => lhs; rw [← List.take_append_drop j own]
          rw [List.drop_eq_getElem_cons hlt]
          rw [List.getElem?_eq_getElem hlt] at hx
          simp only [Option.some.injEq] at hx
          rw [hx]
        have e2 : numsB own = numsB (own.take j) ++ (varB xn ++ numsB (own.drop (j + 1))) := by
          conv => lhs; rw [e1]
          unfold numsB
          rw [List.flatMap_append, List.flatMap_cons]
          simp
        rw [e2, List.append_assoc, List.drop_left, List.append_assoc]
      have HX := Lib.hid hx
      have HSX := Lib.hid hsx
      clear hx hsx
      go_wp2_with (fail)
      have kx : Keep [] wr (wr.alloc (.cells #[.int .i64 0] 3)) := (Keep.refl _ _).alloc _
      have HNX := Lib.hid (HN.out.keep kx)
      have hbx : OneAt (wr.alloc (.cells #[.int .i64 0] 3)) wr.heap.size (.int .i64 0) 3 := OneAt.new _ _ _
      have hxl := lt_of_heap HN.out.T.I
      have hrl := lt_of_heap HN.out.T.R
      have hml := lt_of_heap HN.out.T.M
      refine (rnum_any HNX.out.T.R HNX.out.T.I xn _ HSX.out (by omega) hz wr.heap.size 0 hbx.facts.1 (hbx.facts.2 0) (by omega) (by omega)).mono ?_
      rintro e w3 ⟨rfl, W1, rfl, hi1, hk1⟩
      have hpl := own_lt HN.out.P
      have hks : Keep [wr.heap.size] W1 (W1.setCell ⟨wr.heap.size, 0, none⟩ (.int .i64 xn)) := (Keep.refl _ _).setCell _ _ _ (.inl (by simp))
      obtain ⟨n1, n2, n3⟩ := HNX.out.T.ne
      have ht3 : StR r x mb s (p2 + (numsB (own.take j)).length + (varB xn).length) (cs.setIfInBounds off vp) w (W1.setCell ⟨wr.heap.size, 0, none⟩ (.int .i64 xn)) :=
        ⟨hi1.keep hks (by simp; omega), (HNX.out.T.R.keep hk1 (by simpa using n3)).keep hks (by simp; omega), (HNX.out.T.M.keep hk1 (by simpa using n1)).keep hks (by simp; omega), (HNX.out.T.K.step hk1 (by simp)).step hks (by have := HN.out.T.K.size; simp; exact .inr this), HNX.out.T.S⟩
      have hp3 : IRow w2.heap.size (W1.setCell ⟨wr.heap.size, 0, none⟩ (.int .i64 xn)) vp (own.take j) := (HNX.out.P.keep hk1 (fun b hb => by have := own_ne_obj HNX.out.P HNX.out.T.I (by decide) b hb; simpa using this)).keep hks (fun b hb => by have := hpl b hb; simp; omega)
      have hb3 : OneAt (W1.setCell ⟨wr.heap.size, 0, none⟩ (.int .i64 xn)) wr.heap.size (.int .i64 xn) 3 := (hbx.keep hk1 (by simp; omega)).set _
      have hz3 : w2.heap.size ≤ (W1.setCell ⟨wr.heap.size, 0, none⟩ (.int .i64 xn)).heap.size := Nat.le_trans (Nat.le_trans HNX.out.Z hk1.size) hks.size
      have hc3 : (cs.setIfInBounds off vp)[off]? = some vp := by
        have h2 := HN.out.T.S
        simp only [Array.size_setIfInBounds] at h2
        simp [h2, hlo]
      obtain ⟨w3, hw3⟩ : ∃ u, W1.setCell ⟨wr.heap.size, 0, none⟩ (.int .i64 xn) = u := ⟨_, rfl⟩
      rw [hw3] at ht3 hp3 hb3 hz3 ⊢
      obtain ⟨ap, cp, rfl, _⟩ := own_shape HN.out.P
      have htl : (own.take j).length = j := by rw [List.length_take]; omega
      have HTL := Lib.hid htl
      rw [htl] at ht3 hp3 hc3 hpl HN
      have HT3 := Lib.hid ht3
      have HP3 := Lib.hid hp3
      have HB3 := Lib.hid hb3
      have HZ3 := Lib.hid hz3
      have HC := Lib.hid hc3
      have HVX := Lib.hid hpl
      clear ht3 hp3 hb3 hz3 hc3 hpl hks hi1 hk1 hbx kx HNX hw3 htl
      go_wp2_with (fail)
      refine wp_region_soup 7 (Value.slice ap j cp).ownBlock.toList (spOf [(5, Spec.oneI w3.heap.size xn), (6, Spec.appI w2.heap.size (.slice ap j cp) (own.take j) xn w3)]) (by kernel_rfl) (by kernel_rfl) (spOk_appI HP3.out) (fun i s hs => by have h := spOf_mem hs; simp at h; rcases h with ⟨_, rfl⟩ | ⟨_, rfl⟩; exact trivial; exact HP3.out.keep (Keep.refl [] _).drew (by simp)) ?_
      simp only [List.take_succ_cons, List.take_zero, List.drop_succ_cons, List.drop_zero]
      iterate 3
        with_reducible refine soup_q ?_ ?_ ?_
        · rfl
        · rfl
        with_reducible apply Exists.intro
        with_reducible refine ⟨fun W hk _ => ?_, ?_⟩
        · unfold Oper.same
          go_simp
          first | rfl | exact ⟨rfl, rfl⟩
        with_reducible apply Exists.intro
        with_reducible refine ⟨?_, ?_⟩
        · go_simp
          rfl
      with_reducible refine soup_q ?_ ?_ ?_
      · rfl
      · rfl
      with_reducible apply Exists.intro
      with_reducible refine ⟨fun W hk _ => ?_, ?_⟩
      · have c0 := ((HT3.out.M.keep hk (fun hm => own_ne_obj HP3.out HT3.out.M (by decide) mb (by simpa using hm) rfl)).cell off).trans HC.out
        unfold Oper.same
        go_simp
        first | rfl | exact ⟨rfl, rfl⟩
      with_reducible apply Exists.intro
      with_reducible refine ⟨?_, ?_⟩
      · go_simp
        rfl
      with_reducible refine soup_q ?_ ?_ ?_
      · rfl
      · rfl
      with_reducible apply Exists.intro
      with_reducible refine ⟨fun W hk _ => ?_, ?_⟩
      · have hb4 := HB3.out.keep hk (fun hm => by have := HVX.out _ (by simpa using hm); omega)
        have c0 := hb4.facts.1
        unfold Oper.same
        go_simp
        first | rfl | exact ⟨rfl, rfl⟩
      with_reducible apply Exists.intro
      with_reducible refine ⟨?_, ?_⟩
      · go_simp
        rfl
      refine soup_s rfl rfl rfl (fun W hk _ _ => ?_) ?_
      · unfold Oper.does
        go_simp
        exact ⟨(Keep.refl _ _).alloc _, hk.alloc _, ⟨_, rfl, hk.size⟩, _, rfl, hk.size, World.alloc_heap_new W _⟩
      rintro v ⟨gx, rfl, hgx⟩
      with_reducible apply Exists.intro
      with_reducible refine ⟨?_, ?_⟩
      · go_simp
        rfl
      refine soup_s rfl rfl rfl (fun W hk hB hd => ?_) ?_
      · obtain ⟨g', e1, _, e3⟩ := hd 5 (Dep.of 3 (by kernel_rfl))
        obtain rfl : gx = g' := by simpa using e1
        have hlt3 := own_lt HP3.out
        refine does_append_int _ _ rfl w2.heap.size _ (own.take j) rfl hB ⟨gx, 0, none⟩ 1 rfl xn (by unfold World.cell?; rw [e3]; rfl) (by rw [HTL.out]; omega) (Nat.le_trans HZ3.out hk.size) ?_
        intro v' w' h1 h2 h3
        refine ⟨h2, hk.trans h2, ?_, h1, ?_⟩
        · obtain ⟨a', c', rfl, _⟩ := own_shape h1
          exact ⟨a', c', by rw [List.length_append, HTL.out]; rfl⟩
        · exact h3.imp id (fun e => ⟨_, e, hk.size⟩)
      rintro v ⟨ay, cy, rfl⟩
      with_reducible apply Exists.intro
      with_reducible refine ⟨?_, ?_⟩
      · go_simp
        rfl
      refine soup_nil (fun W4 hk hS => ?_)
      obtain ⟨hu, ho⟩ := hS 6
      have hap := HN.out.app HX.out HT3.out HP3.out hk hu (Nat.le_trans HZ3.out hk.size)
      have hm4 := HT3.out.M.keep hk (fun hm => own_ne_obj HP3.out HT3.out.M (by decide) mb (by simpa using hm) rfl)
      have c0 := (hm4.cell off).trans HC.out
      have cf := hm4.fz
      rw [HTL.out] at hap
      have HAP := Lib.hid hap
      clear hk hS hu ho hap hm4
      go_wp2_with (fail)
      go_roundw
      case rel => exact ⟨j + 1, _, by go_num, by omega, HAP.out⟩
      case measure => simp [intOf]; omega
    · obtain rfl : j = own.length := by omega
      go_wp2_with (fail)
      have hT := HN.out.T
      have hP := HN.out.P
      rw [List.take_length] at hT hP
      go_end0
      exact ⟨rfl, vp, hT, own_low hP (HN.out.B)⟩
end Go.Proofs.YteejdfpfdnkiiaaGreat
