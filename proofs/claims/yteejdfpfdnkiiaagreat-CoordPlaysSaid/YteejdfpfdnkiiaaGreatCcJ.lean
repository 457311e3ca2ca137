/- The coordinator: Moves. -/
import Derived.Test.YteejdfpfdnkiiaaGreatCcG
namespace Go.Proofs.YteejdfpfdnkiiaaGreat
open Go.RowKit Go.Lib
open Go.ChangeMaps (setBlock)
set_option linter.unusedSimpArgs false
set_option linter.unusedVariables false
/-- A move, as it is told: with its state. -/
structure Mo where
  x : En
  s : St
def Mo.cells (m : Mo) : List Value := [.int .i64 m.x.mv, .int .i64 m.x.part, .int .i64 m.x.fr, .int .i64 m.x.to, .int .i64 m.s.st, .int .i64 m.s.dn]
def MoRow (base : Nat) (W : World) (v : Value) (l : List Mo) : Prop := W.ownsRow base 87 6 v l.length (l.flatMap Mo.cells)
theorem MoRow.keep {X : List Nat} {base : Nat} {W W' : World} {v : Value} {l : List Mo} (h : MoRow base W v l) (hk : Keep X W W') (hx : ∀ g, v.ownBlock = some g → g ∉ X) : MoRow base W' v l := own_keep h hk hx
theorem infoMo : (Tryz.prog.info? 87).map (fun i => (i.zero, i.size, i.bytes)) = some (some (.agg #[.int .i64 0, .int .i64 0, .int .i64 0, .int .i64 0, .int .i64 0, .int .i64 0]), 6, 48) := by kernel_rfl
theorem wpList_append_mo {w : World} {ops : Array Oper} {rest : List Oper} {o : Oper} {a : Act} {Q : Exit → Act → World → Prop} (hgd : o.guard = none) (s x : Operand)
    (ho : o.op = .call { callee := .builtin .append, args := #[s, x], argTypes := #[50, 50] }) (base : Nat) (v : Value) (M : List Mo) (hs : a.eval s = v) (hown : MoRow base w v M)
    (ad : Addr) (c : Nat) (hx : a.eval x = .slice (some ad) 1 c) (b : Mo) (hb : ∀ j u, (Mo.cells b)[j]? = some u → w.cell? (ad.add j) = some u) (hm : M.length ≤ 1000) (hbase : base ≤ w.heap.size)
    (h : ∀ v' w', MoRow base w' v' (M ++ [b]) → Keep v.ownBlock.toList w w' → wpList Tryz.prog ops Q rest (a.put o.dst v') w') :
    wpList Tryz.prog ops Q (o :: rest) a w := by
  obtain ⟨i0, hi0, hz0, hz1, hz2⟩ := info_parts infoMo
  refine wpList_append_own_at _ hgd s x 50 ho base 87 i0 (.agg #[.int .i64 0, .int .i64 0, .int .i64 0, .int .i64 0, .int .i64 0, .int .i64 0]) 6 48 Tryz.underlying50 hi0 hz0 hz1 hz2 rfl (by decide) v M.length (M.flatMap Mo.cells) hs hown ad 1 c (Mo.cells b) hx rfl hb ?_ (by unfold maxLen; omega) (by omega) hbase ?_
  · intro u hu
    simp only [Mo.cells, List.mem_cons, List.not_mem_nil, or_false] at hu
    rcases hu with rfl | rfl | rfl | rfl | rfl | rfl <;> rfl
  · intro v' w' hown' hgrow _ hat'
    refine h v' w' ?_ ((Keep.refl _ w).grown hgrow (fun k hk => .inl (by simp [hk])))
    unfold MoRow
    rw [List.length_append, List.flatMap_append]
    simpa using hown'
def movesF (c : Cd) : List Mo := (c.m.map (·.2)).map fun x => ⟨x, atOf x.mv c.at_⟩
theorem keep_low {B : Nat} {X : List Nat} {a b c : World} (h : Keep [] a b) (k : Keep X b c) (hX : ∀ x ∈ X, a.heap.size ≤ x) : Keep [] a c := h.step k (fun y hy => .inr (hX y hy))
set_option maxRecDepth 100000 in
set_option maxHeartbeats 4000000 in
theorem cmoves_any {w : World} {p : Nat} {oa : Option Addr} {oc bp : Nat} {om : Option Nat} {ab : Nat} {c : Cd} (h : CoAt w p oa oc bp om ab c) (hlen : c.m.length ≤ 900) (hord : (c.m.map (·.2)).Pairwise (fun x y => x.mv < y.mv)) : Calls Tryz.prog 14 #[.pointer (some ⟨p, 0, none⟩)] w fun e w' => ∃ v, e = .returned v ∧ MoRow w.heap.size w' v (movesF c) ∧ Keep [] w w' := by
  have hall := all_any h.book (by omega) hord
  obtain ⟨L, hL⟩ : ∃ L, c.m.map (·.2) = L := ⟨_, rfl⟩
  have hLl : L.length ≤ 900 := by rw [← hL, List.length_map]; exact hlen
  have hmf : movesF c = L.map fun x => ⟨x, atOf x.mv c.at_⟩ := by unfold movesF; rw [hL]
  rw [hL] at hall
  rw [hmf]
  unfold AllP at hall
  have HALL := Lib.hid hall
  have HC := Lib.hid h
  clear h hall hL hmf hlen hord
  go_enter Tryz.func14, Tryz.ntmps14
  go_wp2_with (fail)
  refine (none_any HC.out).mono ?_
  rintro e w0 ⟨rfl, hw0⟩
  rw [hw0]
  clear hw0
  obtain ⟨c0, c1, c2, c3, c4, c5, c6, c7⟩ := HC.out.facts
  go_wp2_with (fail)
  refine HALL.out.mono ?_
  rintro e w1 ⟨A, cA, rfl, hE, hB⟩
  have hk1 : Keep [] w w1 := Keep.of_below hB []
  clear c0 c1 c2 c3 c4 c5 c6 c7
  have HC1 := Lib.hid (HC.out.kept hk1)
  have HE1 := Lib.hid hE
  have HK1 := Lib.hid hk1
  clear hE hB hk1
  go_wp2_with (fail)
  go_loopw [3, 15] (fun v i wr => ∃ j : Nat, i = .int .i64 j ∧ j ≤ L.length ∧ Keep [] w1 wr ∧ MoRow w1.heap.size wr v ((L.take j).map fun x => ⟨x, atOf x.mv c.at_⟩)) (fun _ i _ => L.length - (intOf i).toNat)
  case atStart => exact ⟨0, rfl, Nat.zero_le _, Keep.refl _ _, World.ownsRow_nil _ _ _ _⟩
  case round =>
    obtain ⟨j, rfl, hj, hk, hrow⟩ := hrel
    have h0j : (0 : Int) ≤ (j : Int) := Int.natCast_nonneg j
    obtain ⟨av, cv, rfl, _⟩ := own_shape hrow
    have HK := Lib.hid hk
    have HROW := Lib.hid hrow
    clear hk hrow
    by_cases hlt : j < L.length
    · have hjn : (j : Int) < (L.length : Int) := by omega
      obtain ⟨x, hx⟩ : ∃ x, L[j]? = some x := ⟨L[j], List.getElem?_eq_getElem hlt⟩
      obtain ⟨g, rfl, hg0, hg1, h0, h1, h2, h3⟩ := ensAt_cells (HE1.out.below (HK.out.below (Nat.le_refl _) (by simp))) hx
      have ht : L.take (j + 1) = L.take j ++ [x] := by rw [List.take_add_one, hx]; rfl
      obtain ⟨⟨st, dn⟩, hst⟩ : ∃ s, atOf x.mv c.at_ = s := ⟨_, rfl⟩
      obtain ⟨x1, x2, x3, x4⟩ := x
      simp only at h0 h1 h2 h3 hst
      have hnext : (L.take (j + 1)).map (fun x => (⟨x, atOf x.mv c.at_⟩ : Mo)) = (L.take j).map (fun x => ⟨x, atOf x.mv c.at_⟩) ++ [⟨⟨x1, x2, x3, x4⟩, ⟨st, dn⟩⟩] := by rw [ht, List.map_append]; simp [hst]
      obtain ⟨M, hM⟩ : ∃ M, (L.take j).map (fun x => (⟨x, atOf x.mv c.at_⟩ : Mo)) = M := ⟨_, rfl⟩
      have hMl : M.length ≤ 900 := by rw [← hM, List.length_map, List.length_take]; omega
      have hlM : (List.map (fun x => (⟨x, atOf x.mv c.at_⟩ : Mo)) (List.take j L)).length = M.length := by rw [hM]
      rw [hM] at HROW hnext
      rw [hlM]
      obtain ⟨w2, hw2⟩ : ∃ u, wr.alloc (.cells #[.int .i64 x1, .int .i64 x2, .int .i64 x3, .int .i64 x4] 78) = u := ⟨_, rfl⟩
      have k2 : Keep [] wr w2 := by rw [← hw2]; exact (Keep.refl _ _).alloc _
      have he2 : EnAt w2 wr.heap.size ⟨x1, x2, x3, x4⟩ := by rw [← hw2]; exact World.alloc_heap_new wr _
      have HC := Lib.hid ((HC1.out.kept HK.out).kept k2)
      have HE := Lib.hid he2
      have HK2 := Lib.hid (HK.out.trans k2)
      have HR2 := Lib.hid (HROW.out.keep k2 (by simp))
      have HN := Lib.hid hnext
      have HST := Lib.hid hst
      have hpl := lt_of_heap HC.out.blk
      have hel := lt_of_heap he2
      clear he2 k2 hnext hst hlM hM ht hx
      go_wp2_with (fail)
      refine wp_region_soup 8 [] (spOf [(7, Spec.new w2.heap.size #[.int .i64 0, .int .i64 0] 76)]) (by kernel_rfl) (by kernel_rfl) (spOk_of (by simp [Spec.new_ok])) (pre_of (by simp [Spec.new_ok])) ?_
      simp only [List.take_succ_cons, List.take_zero, List.drop_succ_cons, List.drop_zero]
      iterate 3
        with_reducible refine soup_q ?_ ?_ ?_
        · rfl
        · rfl
        with_reducible apply Exists.intro
        with_reducible refine ⟨fun W hk _ => ?_, ?_⟩
        · unfold Oper.same
          go_simp
          first | rfl | exact ⟨rfl, rfl⟩
        with_reducible apply Exists.intro
        with_reducible refine ⟨?_, ?_⟩
        · go_simp
          rfl
      with_reducible refine soup_q ?_ ?_ ?_
      · rfl
      · rfl
      with_reducible apply Exists.intro
      with_reducible refine ⟨fun W hk _ => ?_, ?_⟩
      · have c0 := (HC.out.kept hk).facts.2.2.2.2.1
        unfold Oper.same
        go_simp
        first | rfl | exact ⟨rfl, rfl⟩
      with_reducible apply Exists.intro
      with_reducible refine ⟨?_, ?_⟩
      · go_simp
        rfl
      with_reducible refine soup_q ?_ ?_ ?_
      · rfl
      · rfl
      with_reducible apply Exists.intro
      with_reducible refine ⟨fun W hk _ => ?_, ?_⟩
      · unfold Oper.same
        go_simp
        first | rfl | exact ⟨rfl, rfl⟩
      with_reducible apply Exists.intro
      with_reducible refine ⟨?_, ?_⟩
      · go_simp
        rfl
      with_reducible refine soup_q ?_ ?_ ?_
      · rfl
      · rfl
      with_reducible apply Exists.intro
      with_reducible refine ⟨fun W hk _ => ?_, ?_⟩
      · have c0 := (HE.out.keep hk (by simp)).facts.1
        unfold Oper.same
        go_simp
        first | rfl | exact ⟨rfl, rfl⟩
      with_reducible apply Exists.intro
      with_reducible refine ⟨?_, ?_⟩
      · go_simp
        rfl
      with_reducible refine soup_q ?_ ?_ ?_
      · rfl
      · rfl
      with_reducible apply Exists.intro
      with_reducible refine ⟨fun W hk _ => ?_, ?_⟩
      · have hlk := lookSt (HC.out.kept hk).map x1
        rw [HST.out] at hlk
        unfold Oper.same
        go_simp
        first | rfl | exact ⟨rfl, rfl⟩
      with_reducible apply Exists.intro
      with_reducible refine ⟨?_, ?_⟩
      · go_simp
        rfl
      refine soup_s rfl rfl rfl (fun W hk _ _ => ?_) ?_
      · unfold Oper.does
        go_simp
        exact ⟨(Keep.refl _ _).alloc _, hk.alloc _, ⟨_, rfl, hk.size⟩, _, rfl, hk.size, World.alloc_heap_new W _⟩
      rintro v ⟨g2, rfl, hg2⟩
      with_reducible apply Exists.intro
      with_reducible refine ⟨?_, ?_⟩
      · go_simp
        rfl
      refine soup_nil (fun W hk hS => ?_)
      obtain ⟨g', e1, e2, e3⟩ := hS 7
      obtain rfl : g2 = g' := by simpa using e1
      have s0 : W.cell? ⟨g2, 0, none⟩ = some (.int .i64 0) := by unfold World.cell?; rw [e3]; rfl
      have s1 : W.cell? ⟨g2, 1, none⟩ = some (.int .i64 0) := by unfold World.cell?; rw [e3]; rfl
      have s2 : ∀ o, W.frozen? ⟨g2, o, none⟩ = false := fun o => by unfold World.frozen?; rw [e3]; simp
      obtain ⟨Wa, hWa⟩ : ∃ u, (W.setCell ⟨g2, 0, none⟩ (.int .i64 st)).setCell ⟨g2, 1, none⟩ (.int .i64 dn) = u := ⟨_, rfl⟩
      have ka : Keep [g2] W Wa := by rw [← hWa]; exact ((Keep.refl _ _).setCell _ _ _ (.inl (by simp))).setCell _ _ _ (.inl (by simp))
      have hea := (HE.out.keep hk (by simp)).keep ka (by simp; omega)
      have hsa : SaAt Wa g2 st dn := by
        unfold SaAt
        rw [← hWa]
        simp [World.setCell, Array.getElem?_modify, e3]
      obtain ⟨q0, q1, q2, q3, q4⟩ := hea.facts
      obtain ⟨r0, r1, r2⟩ := hsa.facts
      have hra : MoRow w1.heap.size Wa (.slice av M.length cv) M := (HR2.out.keep hk (by simp)).keep ka (fun b hb => by have := own_lt HR2.out b hb; simp; omega)
      have hka : Keep [] w1 Wa := (HK2.out.trans hk).step ka (by have := HK2.out.size; simp; omega)
      obtain ⟨w4, hw4⟩ : ∃ u, Wa.alloc (.cells #[.int .i64 x1, .int .i64 x2, .int .i64 x3, .int .i64 x4, .int .i64 st, .int .i64 dn] 87) = u := ⟨_, rfl⟩
      have k4 : Keep [] Wa w4 := by rw [← hw4]; exact (Keep.refl _ _).alloc _
      have hcl : ∀ j u, (Mo.cells ⟨⟨x1, x2, x3, x4⟩, ⟨st, dn⟩⟩)[j]? = some u → w4.cell? ((⟨Wa.heap.size, 0, none⟩ : Addr).add j) = some u := by
        rw [← hw4]
        exact cells_new Wa _ _ _ rfl
      have HR4 := Lib.hid (hra.keep k4 (by simp))
      have HK4 := Lib.hid (hka.trans k4)
      have HCL := Lib.hid hcl
      clear hk hS e1 e2 e3 ka hea hsa hra hka k4 hcl
      go_wp2_with (at_builtin; refine wpList_append_mo rfl _ _ rfl w1.heap.size _ M rfl HR4.out ⟨Wa.heap.size, 0, none⟩ 1 rfl ⟨⟨x1, x2, x3, x4⟩, ⟨st, dn⟩⟩ HCL.out (by omega) HK4.out.size ?_)
      intro v' w5 hr5 hk5
      have hb4 := own_base HR4.out
      rw [← HN.out] at hr5
      obtain ⟨a5, c5, rfl, _⟩ := own_shape hr5
      have HR5 := Lib.hid hr5
      have HK5 := Lib.hid (HK4.out.step hk5 (fun y hy => .inr (hb4 y (by simpa using hy))))
      clear hr5 hk5 hb4
      go_wp2_with (fail)
      go_roundw
      case rel => exact ⟨j + 1, by go_num, by omega, HK5.out, HR5.out⟩
      case measure => simp [intOf]; omega
    · obtain rfl : j = L.length := by omega
      go_wp2_with (fail)
      go_ret
      have h : MoRow w.heap.size wr (.slice av ((L.take L.length).map fun x => (⟨x, atOf x.mv c.at_⟩ : Mo)).length cv) ((L.take L.length).map fun x => ⟨x, atOf x.mv c.at_⟩) := own_low HROW.out HK1.out.size
      refine ⟨_, rfl, ?_, HK1.out.trans HK.out⟩
      rw [List.take_length] at h
      simp only [List.take_length]
      exact h
end Go.Proofs.YteejdfpfdnkiiaaGreat
