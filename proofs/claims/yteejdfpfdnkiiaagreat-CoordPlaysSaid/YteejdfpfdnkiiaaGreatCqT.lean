/- The document's coordinator: Tick. -/
import Derived.Test.YteejdfpfdnkiiaaGreatPj
import Derived.Test.YteejdfpfdnkiiaaGreatCqL
import Derived.Test.YteejdfpfdnkiiaaGreatCcK
namespace Go.Proofs.YteejdfpfdnkiiaaGreat
open Go.RowKit Go.Lib
set_option linter.unusedSimpArgs false
set_option linter.unusedVariables false
/-- What the first moves' sides are told. -/
def tkP (c : Cd) (L : List Mo) : List Pk := L.flatMap fun y => tickOf c y.x y.s
theorem tkP_snoc {c : Cd} {L : List Mo} {j : Nat} {y : Mo} (h : L[j]? = some y) : tkP c (L.take (j + 1)) = tkP c (L.take j) ++ tickOf c y.x y.s := by
  unfold tkP
  rw [List.take_add_one, h, List.flatMap_append]
  simp
theorem tkP_len (c : Cd) : ∀ L : List Mo, (tkP c L).length ≤ 2 * L.length
  | [] => Nat.le_refl _
  | y :: L => by
    have h1 := tickOf_len c y.x y.s
    have h2 := tkP_len c L
    unfold tkP at h2 ⊢
    rw [List.flatMap_cons, List.length_append, List.length_cons]
    omega
theorem tick_tk (c : Cd) : tickF c = tkP c (movesF c) ++ ((List.range c.nd.toNat).map fun (n : Nat) => newsOf c n) ++ ((List.range 4).map fun (n : Nat) => newsOf c (4 + n)) := by
  simp only [tickF, tkP, movesF, List.flatMap_map]
def nwP (c : Cd) (b n : Nat) : List Pk := (List.range n).map fun (i : Nat) => newsOf c ((b + i : Nat) : Int)
theorem nwP_snoc (c : Cd) (b n : Nat) : nwP c b (n + 1) = nwP c b n ++ [newsOf c ((b + n : Nat) : Int)] := by
  unfold nwP
  rw [List.range_succ, List.map_append]
  rfl
theorem nwP_len (c : Cd) (b n : Nat) : (nwP c b n).length = n := by simp [nwP]
set_option maxRecDepth 100000 in
set_option maxHeartbeats 16000000 in
theorem rtick_any {w : World} (C : Cd) (hf : CdFine C) (hst : ∀ y ∈ movesF C, y.s.st = 1 ∨ y.s.st = 2 ∨ y.s.st = 3) (hdn : ∀ y ∈ movesF C, y.s.dn ≤ 2) {oa la : Option Addr} (oc lc : Nat) (hI : IntsAt w oa C.own) (hl : FlAt w la (movesF C)) : Calls Tryz.prog 20 #[.agg ((Dx.of C).cells oa oc la lc)] w fun e w' => ∃ v, e = .returned v ∧ PRow w.heap.size w' v (tickF C) ∧ Keep [] w w' := by
  obtain ⟨ep, hep0⟩ := Int.eq_ofNat_of_zero_le hf.ep.1
  obtain ⟨nd, hnd0⟩ := Int.eq_ofNat_of_zero_le hf.nd.1
  have hep2 : ep ≤ 2147483647 := by have := hf.ep.2; omega
  have hnd2 : nd ≤ 4 := by have := hf.nd.2; omega
  obtain ⟨L, hL⟩ : ∃ L, movesF C = L := ⟨_, rfl⟩
  have hLn : L.length ≤ 400 := by rw [← hL]; unfold movesF; simp only [List.length_map]; exact hf.num
  obtain ⟨own, hown⟩ : ∃ o, C.own = o := ⟨_, rfl⟩
  have hon : ∀ x ∈ own, 0 ≤ x ∧ x ≤ 2147483647 := by rw [← hown]; exact hf.own
  have hol : own.length ≤ 64 := by rw [← hown]; exact hf.len
  have hmb : ∀ y ∈ L, (0 ≤ y.x.mv ∧ y.x.mv ≤ 2147483647) ∧ (0 ≤ y.x.part ∧ y.x.part ≤ 2147483647) ∧ (0 ≤ y.x.fr ∧ y.x.fr ≤ 2147483647) ∧ (0 ≤ y.x.to ∧ y.x.to ≤ 2147483647) := by
    intro y hy
    rw [← hL] at hy
    unfold movesF at hy
    obtain ⟨x, hx, rfl⟩ := List.mem_map.1 hy
    exact hf.mem x hx
  have htk := tick_tk C
  rw [hnd0, Int.toNat_natCast] at htk
  have hnw0 : ((List.range nd).map fun (n : Nat) => newsOf C n) = nwP C 0 nd := by unfold nwP; simp
  have hnw4 : ((List.range 4).map fun (n : Nat) => newsOf C (4 + n)) = nwP C 4 4 := by unfold nwP; simp
  rw [hnw0, hnw4] at htk
  have hm11 : ∀ x, m11 C x = ⟨11, x.mv.toNat, x.part.toNat, 0, ep, nd, own⟩ := fun x => by unfold m11; rw [hep0, hnd0, hown, Int.toNat_natCast, Int.toNat_natCast]
  have hnwo : ∀ n : Int, newsOf C n = ⟨n, frameB (Mg.enc ⟨14, 0, 0, 0, ep, nd, own⟩)⟩ := fun n => by unfold newsOf m14; rw [hep0, hnd0, hown, Int.toNat_natCast, Int.toNat_natCast]
  rw [hown] at hI
  rw [hL] at hst hdn hl htk
  rw [htk]
  unfold Dx.of Dx.cells
  rw [hep0, hnd0, hown]
  simp only [hL]
  obtain ⟨last, hla⟩ : ∃ x, C.last = x := ⟨_, rfl⟩
  obtain ⟨com, hco⟩ : ∃ x, C.com = x := ⟨_, rfl⟩
  obtain ⟨abo, hab⟩ : ∃ x, C.abo = x := ⟨_, rfl⟩
  rw [hla, hco, hab]
  obtain ⟨w1, hw1⟩ : ∃ u, w.alloc (.cells #[.int .i64 ep, .int .i64 nd, .slice oa own.length oc, .slice la L.length lc, .int .i64 last, .int .i64 com, .int .i64 abo] 54) = u := ⟨_, rfl⟩
  have k1 : Keep [] w w1 := by rw [← hw1]; exact (Keep.refl _ _).alloc _
  have b1 : w1.heap[w.heap.size]? = some (.cells #[.int .i64 ep, .int .i64 nd, .slice oa own.length oc, .slice la L.length lc, .int .i64 last, .int .i64 com, .int .i64 abo] 54 (0, 0)) := by rw [← hw1]; exact World.alloc_heap_new w _
  have s1 : w1.heap.size = w.heap.size + 1 := by rw [← hw1, World.size_alloc]
  have HB := Lib.hid b1
  have HI := Lib.hid (hI.keep k1 (by simp))
  have HL := Lib.hid (hl.kept k1)
  have HK1 := Lib.hid k1
  have HST := Lib.hid hst
  have HDN := Lib.hid hdn
  have HMB := Lib.hid hmb
  have H11 := Lib.hid hm11
  have HNO := Lib.hid hnwo
  have HON := Lib.hid hon
  have hno0 : ∃ m : Mg, (⟨14, 0, 0, 0, ep, nd, own⟩ : Mg) = m := ⟨_, rfl⟩
  have H14 := Lib.hid (show Mg.Ok ⟨14, 0, 0, 0, ep, nd, own⟩ from ⟨.inr (.inr (.inr ⟨rfl, rfl, rfl, rfl⟩)), Nat.zero_le _, Nat.zero_le _, Nat.zero_le _, hep2, by show nd ≤ _; omega, hol, hon⟩)
  clear hst hdn hmb hm11 hnwo hI hl k1 b1 htk hnw0 hnw4 hL hown hep0 hnd0 hla hco hab hon hno0
  go_enter Tryz.func20, Tryz.ntmps20
  go_wp2_with (fail)
  go_loopw [4, 3] (fun i l wr => ∃ j : Nat, i = .int .i64 j ∧ j ≤ L.length ∧ PRow (w.heap.size + 1) wr l (tkP C (L.take j)) ∧ Keep [] w1 wr) (fun i _ _ => L.length - (intOf i).toNat)
  case atStart => exact ⟨0, rfl, Nat.zero_le _, by simp only [List.take_zero]; exact World.ownsRow_nil _ _ _ _, Keep.refl _ _⟩
  case round =>
    obtain ⟨j, rfl, hj, hrow, hk0⟩ := hrel
    obtain ⟨av, cv, rfl, _⟩ := own_shape hrow
    obtain ⟨M, hM⟩ : ∃ M, tkP C (L.take j) = M := ⟨_, rfl⟩
    have hMl : M.length ≤ 800 := by rw [← hM]; have := tkP_len C (L.take j); have := List.length_take_le j L; omega
    rw [hM] at hrow ⊢
    have HM := Lib.hid hM
    have HR := Lib.hid hrow
    have HK := Lib.hid hk0
    have HBW := Lib.hid ((hk0.block _ (lt_of_heap HB.out) (by simp)).trans HB.out)
    have HIW := Lib.hid (HI.out.keep hk0 (by simp))
    have hws := hk0.size
    obtain ⟨d0, d1, d2, d3, d4, d5, d6, d7⟩ := DxFacts HBW.out
    have h0j : (0 : Int) ≤ (j : Int) := Int.natCast_nonneg j
    clear hrow hk0 hM
    by_cases hlt : j < L.length
    · have hlj : j < L.length := hlt
      have hjn : (j : Int) < (L.length : Int) := by omega
      obtain ⟨x, hx⟩ : ∃ x, L[j]? = some x := ⟨L[j], List.getElem?_eq_getElem hlj⟩
      have hxm := List.mem_of_getElem? hx
      have hn := tkP_snoc (c := C) hx
      have z1 := HMB.out x hxm
      have z2 := HST.out x hxm
      have z3 := HDN.out x hxm
      rw [HM.out] at hn
      obtain ⟨lb, lo, rfl, hlb, hlc⟩ := (HL.out.kept HK.out).get hx
      obtain ⟨⟨x1, x2, x3, x4⟩, ⟨st, dn⟩⟩ := x
      simp only at z1 z2 z3
      obtain ⟨⟨y1, y1'⟩, ⟨y2, y2'⟩, ⟨y3, y3'⟩, ⟨y4, y4'⟩⟩ := z1
      obtain ⟨n1, rfl⟩ := Int.eq_ofNat_of_zero_le y1
      obtain ⟨n2, rfl⟩ := Int.eq_ofNat_of_zero_le y2
      obtain ⟨n4, rfl⟩ := Int.eq_ofNat_of_zero_le y4
      have q0 : wr.cell? ⟨lb, lo + j * 6, none⟩ = some (.int .i64 n1) := hlc 0 _ rfl
      have q1 : wr.cell? ⟨lb, lo + j * 6 + 1, none⟩ = some (.int .i64 n2) := hlc 1 _ rfl
      have q2 := hlc 2 _ rfl
      have q3 : wr.cell? ⟨lb, lo + j * 6 + 3, none⟩ = some (.int .i64 n4) := hlc 3 _ rfl
      have q4 := hlc 4 _ rfl
      have q5 := hlc 5 _ rfl
      have b1' : n1 ≤ 2147483647 := by omega
      have b2' : n2 ≤ 2147483647 := by omega
      have b4' : n4 ≤ 2147483647 := by omega
      have HN := Lib.hid hn
      clear hn hlc hx hxm
      obtain ⟨wA, hwA1⟩ : ∃ u, wr.alloc (.cells #[.int .i64 0, .int .i64 0, .int .i64 0, .int .i64 0, .int .i64 0, .int .i64 0] 91) = u := ⟨_, rfl⟩
      have tA1 : wA.heap[wr.heap.size]? = some (.cells #[.int .i64 0, .int .i64 0, .int .i64 0, .int .i64 0, .int .i64 0, .int .i64 0] 91 (0, 0)) := by rw [← hwA1]; exact World.alloc_heap_new wr _
      obtain ⟨wB, hwB1⟩ : ∃ u, wA.setRow wr.heap.size #[.int .i64 n1, .int .i64 n2, .int .i64 x3, .int .i64 n4, .int .i64 st, .int .i64 dn] = u := ⟨_, rfl⟩
      have hst1 := run_storeVar_row (P := Tryz.prog) wA wr.heap.size 91 91 _ #[.int .i64 n1, .int .i64 n2, .int .i64 x3, .int .i64 n4, .int .i64 st, .int .i64 dn] tA1 (by kernel_rfl) rfl (by simp [Value.oneCell'])
      rw [hwB1] at hst1
      have tB1 : wB.heap[wr.heap.size]? = some (.cells #[.int .i64 n1, .int .i64 n2, .int .i64 x3, .int .i64 n4, .int .i64 st, .int .i64 dn] 91 (0, 0)) := by rw [← hwB1]; exact setRow_heap wA _ _ _ _ _ tA1
      have kA1 : Keep [] wr wA := by rw [← hwA1]; exact (Keep.refl _ _).alloc _
      have kB1 : Keep [] wr wB := kA1.step (show Keep [wr.heap.size] wA wB from by rw [← hwB1]; exact (Keep.refl _ _).setRow _ _ (.inl (by simp))) (fun y hy => .inr (by rw [List.mem_singleton.1 hy]; exact Nat.le_refl _))
      have HST1 := Lib.hid hst1
      clear hst1 tA1 kA1 hwB1
      obtain ⟨mm0, mm1, mm2, mm3, mm4, mm5, mm6⟩ := MvFacts tB1
      have HV := Lib.hid tB1
      have hwB := lt_of_heap tB1
      have HK := Lib.hid (HK.out.trans kB1)
      have HR := Lib.hid (PRow.keep HR.out kB1 (by simp))
      have HBW := Lib.hid ((kB1.block _ (lt_of_heap HBW.out) (by simp)).trans HBW.out)
      have HIW := Lib.hid (HIW.out.keep kB1 (by simp))
      clear tB1 kB1
      obtain ⟨wC, hwA2⟩ : ∃ u, wB.alloc (.cells #[.int .u8 0, .int .i64 0, .int .i64 0, .int .i64 0, .int .i64 0, .int .i64 0, .int .i64 0, .int .u64 0, .int .i64 0, .int .i64 0, .int .i64 0, .int .i64 0, .int .u8 0, .string ⟨#[]⟩, .int .i64 0, .int .i64 0, .int .i64 0, .int .i64 0, .int .i64 0, (.slice none 0 0), .slice none 0 0, .string ⟨#[]⟩] 47) = u := ⟨_, rfl⟩
      have tA2 : wC.heap[wB.heap.size]? = some (.cells #[.int .u8 0, .int .i64 0, .int .i64 0, .int .i64 0, .int .i64 0, .int .i64 0, .int .i64 0, .int .u64 0, .int .i64 0, .int .i64 0, .int .i64 0, .int .i64 0, .int .u8 0, .string ⟨#[]⟩, .int .i64 0, .int .i64 0, .int .i64 0, .int .i64 0, .int .i64 0, (.slice none 0 0), .slice none 0 0, .string ⟨#[]⟩] 47 (0, 0)) := by rw [← hwA2]; exact World.alloc_heap_new wB _
      obtain ⟨wD, hwB2⟩ : ∃ u, wC.setRow wB.heap.size #[.int .u8 12, .int .i64 n1, .int .i64 n2, .int .i64 0, .int .i64 0, .int .i64 0, .int .i64 0, .int .u64 0, .int .i64 0, .int .i64 0, .int .i64 0, .int .i64 0, .int .u8 0, .string ⟨#[]⟩, .int .i64 0, .int .i64 0, .int .i64 0, .int .i64 0, .int .i64 0, (.slice none 0 0), .slice none 0 0, .string ⟨#[]⟩] = u := ⟨_, rfl⟩
      have hst2 := run_storeVar_row (P := Tryz.prog) wC wB.heap.size 47 47 _ #[.int .u8 12, .int .i64 n1, .int .i64 n2, .int .i64 0, .int .i64 0, .int .i64 0, .int .i64 0, .int .u64 0, .int .i64 0, .int .i64 0, .int .i64 0, .int .i64 0, .int .u8 0, .string ⟨#[]⟩, .int .i64 0, .int .i64 0, .int .i64 0, .int .i64 0, .int .i64 0, (.slice none 0 0), .slice none 0 0, .string ⟨#[]⟩] tA2 (by kernel_rfl) rfl (by simp [Value.oneCell'])
      rw [hwB2] at hst2
      have tB2 : wD.heap[wB.heap.size]? = some (.cells #[.int .u8 12, .int .i64 n1, .int .i64 n2, .int .i64 0, .int .i64 0, .int .i64 0, .int .i64 0, .int .u64 0, .int .i64 0, .int .i64 0, .int .i64 0, .int .i64 0, .int .u8 0, .string ⟨#[]⟩, .int .i64 0, .int .i64 0, .int .i64 0, .int .i64 0, .int .i64 0, (.slice none 0 0), .slice none 0 0, .string ⟨#[]⟩] 47 (0, 0)) := by rw [← hwB2]; exact setRow_heap wC _ _ _ _ _ tA2
      have kA2 : Keep [] wB wC := by rw [← hwA2]; exact (Keep.refl _ _).alloc _
      have kB2 : Keep [] wB wD := kA2.step (show Keep [wB.heap.size] wC wD from by rw [← hwB2]; exact (Keep.refl _ _).setRow _ _ (.inl (by simp))) (fun y hy => .inr (by rw [List.mem_singleton.1 hy]; exact Nat.le_refl _))
      have HST2 := Lib.hid hst2
      clear hst2 tA2 kA2 hwB2
      have HV := Lib.hid ((kB2.block _ (lt_of_heap HV.out) (by simp)).trans HV.out)
      have HMS : Hid (wD.heap[wB.heap.size]? = some (.cells #[.int .u8 12, .int .i64 n1, .int .i64 n2, .int .i64 0, .int .i64 0, .int .i64 0, .int .i64 0, .int .u64 0, .int .i64 0, .int .i64 0, .int .i64 0, .int .i64 0, .int .u8 0, .string ⟨#[]⟩, .int .i64 0, .int .i64 0, .int .i64 0, .int .i64 0, .int .i64 0, (.slice none 0 0), .slice none 0 0, .string ⟨#[]⟩] 47 (0, 0))) := Lib.hid tB2
      have hwD := lt_of_heap tB2
      obtain ⟨v0, v1, v2, v3, v4, v5, v6⟩ := MvFacts HV.out
      have HK := Lib.hid (HK.out.trans kB2)
      have HR := Lib.hid (PRow.keep HR.out kB2 (by simp))
      have HBW := Lib.hid ((kB2.block _ (lt_of_heap HBW.out) (by simp)).trans HBW.out)
      have HIW := Lib.hid (HIW.out.keep kB2 (by simp))
      obtain ⟨e0, e1, e2, e3, e4, e5, e6, e7⟩ := DxFacts HBW.out
      clear tB2 kB2
      rcases z2 with rfl | rfl | rfl
      · go_wp2_with (first | ((with_reducible refine wpList_store_all ?_ 91 (.tmp 5) (.tmp 20) ?_ wr.heap.size ?_ _ ?_ HST1.out ?_); rfl; rfl; rfl; rfl) | ((with_reducible refine wpList_store_all ?_ 47 (.tmp 6) (.tmp 25) ?_ wB.heap.size ?_ _ ?_ HST2.out ?_); rfl; rfl; rfl; rfl))
        refine (rpacket_any (m := ⟨4, n1, n2, n4, 0, 0, []⟩) (by exact ⟨.inl ⟨rfl, rfl, rfl, rfl⟩, b1', b2', b4', Nat.zero_le _, Nat.zero_le _, Nat.zero_le _, fun y hy => by cases hy⟩) (a := none) (c := 0) (fun _ => ⟨rfl, rfl⟩) (fun h => absurd rfl h) x3).mono ?_
        rintro e wP1 ⟨rfl, hkP1⟩
        have HK := Lib.hid (HK.out.trans hkP1)
        have HR := Lib.hid (PRow.keep HR.out hkP1 (by simp))
        have HBW := Lib.hid ((hkP1.block _ (lt_of_heap HBW.out) (by simp)).trans HBW.out)
        have HIW := Lib.hid (HIW.out.keep hkP1 (by simp))
        have HV := Lib.hid ((hkP1.block _ (lt_of_heap HV.out) (by simp)).trans HV.out)
        have HMS := Lib.hid ((hkP1.block _ (lt_of_heap HMS.out) (by simp)).trans HMS.out)
        obtain ⟨bs1, hbs⟩ : ∃ bs1, frameB (Mg.enc ⟨4, n1, n2, n4, 0, 0, []⟩) = bs1 := ⟨_, rfl⟩
        rw [hbs]
        obtain ⟨wQ1, hwQ1⟩ : ∃ u, wP1.alloc (.cells #[.int .i64 8, .int .i64 x3, .string ⟨bs1.toArray⟩] 94) = u := ⟨_, rfl⟩
        have kQ1 : Keep [] wP1 wQ1 := by rw [← hwQ1]; exact (Keep.refl _ _).alloc _
        have hcl : ∀ q u, (Pk.cells ⟨x3, bs1⟩)[q]? = some u → wQ1.cell? ((⟨wP1.heap.size, 0, none⟩ : Addr).add q) = some u := by
          rw [← hwQ1]
          exact cells_new wP1 _ _ _ rfl
        have HCL := Lib.hid hcl
        have HBS1 := Lib.hid hbs
        have HK := Lib.hid (HK.out.trans kQ1)
        have HR := Lib.hid (PRow.keep HR.out kQ1 (by simp))
        have HBW := Lib.hid ((kQ1.block _ (lt_of_heap HBW.out) (by simp)).trans HBW.out)
        have HIW := Lib.hid (HIW.out.keep kQ1 (by simp))
        have HV := Lib.hid ((kQ1.block _ (lt_of_heap HV.out) (by simp)).trans HV.out)
        have HMS := Lib.hid ((kQ1.block _ (lt_of_heap HMS.out) (by simp)).trans HMS.out)
        have hwsQ := HK.out.size
        clear hkP1 kQ1 hcl hbs
        go_wp2_with (at_builtin; refine wpList_append_pk rfl _ _ rfl (w.heap.size + 1) _ M rfl HR.out ⟨wP1.heap.size, 0, none⟩ 1 rfl ⟨x3, bs1⟩ HCL.out (by omega) (by omega) ?_)
        intro v' wR1 hr1 hkR1
        obtain ⟨av1, cv1, rfl, _⟩ := own_shape hr1
        have hob := own_base HR.out
        have hne : ∀ {b : Nat}, b < w.heap.size + 1 → b ∉ (Value.ownBlock _).toList := fun {b} hb hm => by have := hob b (by simpa using hm); omega
        have HK := Lib.hid (HK.out.step hkR1 (fun y hy => .inr (by have := hob y (by simpa using hy); omega)))
        have HBW := Lib.hid ((hkR1.block _ (lt_of_heap HBW.out) (hne (by omega))).trans HBW.out)
        have HIW := Lib.hid (HI.out.keep HK.out (by simp))
        have HV := Lib.hid ((hkR1.block _ (lt_of_heap HV.out) (fun hm => (absurd rfl) (own_ne_obj HR.out HV.out (by decide) _ (by simpa using hm)))).trans HV.out)
        have HMS := Lib.hid ((hkR1.block _ (lt_of_heap HMS.out) (fun hm => (absurd rfl) (own_ne_obj HR.out HMS.out (by decide) _ (by simpa using hm)))).trans HMS.out)
        have HRN := Lib.hid hr1
        obtain ⟨M1, hMM1⟩ : ∃ M', M ++ [⟨x3, bs1⟩] = M' := ⟨_, rfl⟩
        rw [hMM1] at hr1 ⊢
        have hMl1 : M1.length ≤ M.length + 1 := by rw [← hMM1]; simp
        have HR := Lib.hid hr1
        have HMM1 := Lib.hid hMM1
        clear hr1 hkR1 hob hne hMM1 HRN
        obtain ⟨y30, y31, y32, y33, y34, y35, y36⟩ := MvFacts HV.out
        have HTK := Lib.hid (show tickOf C ⟨n1, n2, x3, n4⟩ ⟨1, dn⟩ = [⟨x3, bs1⟩] from by rw [← HBS1.out]; unfold tickOf m4; rw [if_pos rfl]; simp only [Int.toNat_natCast])
        go_wp2_with (fail)
        go_roundw
        case rel => exact ⟨j + 1, by go_num, by omega, by rw [HN.out, HTK.out]; rw [HMM1.out]; exact HR.out, HK.out⟩
        case measure => go_light; simp [intOf]; omega
      · rcases (show dn = 0 ∨ dn = 1 ∨ dn = 2 by omega) with hd0 | hd1 | hd2
        · subst hd0
          have c0 : wD.cell? ⟨wB.heap.size, 0, none⟩ = some (.int .u8 12) := by unfold World.cell?; rw [HMS.out]; rfl
          have fz : ∀ o, wD.frozen? ⟨wB.heap.size, o, none⟩ = false := fun o => by unfold World.frozen?; rw [HMS.out]; simp
          obtain ⟨wE, hwE⟩ : ∃ u, wD.setCell ⟨wB.heap.size, 0, none⟩ (.int .u8 11) = u := ⟨_, rfl⟩
          have kE : Keep [wB.heap.size] wD wE := by rw [← hwE]; exact (Keep.refl _ _).setCell _ _ _ (.inl (by simp))
          have tE : wE.heap[wB.heap.size]? = some (.cells #[.int .u8 11, .int .i64 n1, .int .i64 n2, .int .i64 0, .int .i64 0, .int .i64 0, .int .i64 0, .int .u64 0, .int .i64 0, .int .i64 0, .int .i64 0, .int .i64 0, .int .u8 0, .string ⟨#[]⟩, .int .i64 0, .int .i64 0, .int .i64 0, .int .i64 0, .int .i64 0, (.slice none 0 0), .slice none 0 0, .string ⟨#[]⟩] 47 (0, 0)) := by rw [← hwE]; simp [World.setCell, Array.getElem?_modify, HMS.out]
          have nB : w.heap.size ∉ [wB.heap.size] := by simp; omega
          have nV : wr.heap.size ∉ [wB.heap.size] := by simp; omega
          have hbE := (kE.block _ (lt_of_heap HBW.out) nB).trans HBW.out
          have hvE := (kE.block _ (lt_of_heap HV.out) nV).trans HV.out
          obtain ⟨g0, g1, g2, g3, g4, g5, g6, g7⟩ := DxFacts hbE
          obtain ⟨vE0, vE1, vE2, vE3, vE4, vE5, vE6⟩ := MvFacts hvE
          have c17 : wE.cell? ⟨wB.heap.size, 17, none⟩ = some (.int .i64 0) := by unfold World.cell?; rw [tE]; rfl
          have c18 : wE.cell? ⟨wB.heap.size, 18, none⟩ = some (.int .i64 0) := by unfold World.cell?; rw [tE]; rfl
          have c19 : wE.cell? ⟨wB.heap.size, 19, none⟩ = some (.slice none 0 0) := by unfold World.cell?; rw [tE]; rfl
          have fz2 : ∀ o, wE.frozen? ⟨wB.heap.size, o, none⟩ = false := fun o => by unfold World.frozen?; rw [tE]; simp
          obtain ⟨wF, hwF⟩ : ∃ u, ((wE.setCell ⟨wB.heap.size, 17, none⟩ (.int .i64 ep)).setCell ⟨wB.heap.size, 18, none⟩ (.int .i64 nd)).setCell ⟨wB.heap.size, 19, none⟩ (.slice oa own.length oc) = u := ⟨_, rfl⟩
          have kF : Keep [wB.heap.size] wE wF := by rw [← hwF]; exact (((Keep.refl _ _).setCell _ _ _ (.inl (by simp))).setCell _ _ _ (.inl (by simp))).setCell _ _ _ (.inl (by simp))
          have tF : wF.heap[wB.heap.size]? = some (.cells #[.int .u8 11, .int .i64 n1, .int .i64 n2, .int .i64 0, .int .i64 0, .int .i64 0, .int .i64 0, .int .u64 0, .int .i64 0, .int .i64 0, .int .i64 0, .int .i64 0, .int .u8 0, .string ⟨#[]⟩, .int .i64 0, .int .i64 0, .int .i64 0, .int .i64 ep, .int .i64 nd, (.slice oa own.length oc), .slice none 0 0, .string ⟨#[]⟩] 47 (0, 0)) := by rw [← hwF]; simp [World.setCell, Array.getElem?_modify, tE]
          have kEF := kE.trans kF
          have hbF := (kF.block _ (lt_of_heap hbE) nB).trans hbE
          have hvF := (kF.block _ (lt_of_heap hvE) nV).trans hvE
          obtain ⟨vF0, vF1, vF2, vF3, vF4, vF5, vF6⟩ := MvFacts hvF
          have HIW := Lib.hid (HIW.out.keep kEF (fun hz b off hb => by
            obtain ⟨b', o', e1, e2, _⟩ := HI.out hz
            rw [hb] at e1
            cases e1
            simp
            omega))
          have HR := Lib.hid (PRow.keep HR.out kEF (fun g hg => by have := own_ne_obj HR.out HMS.out (by decide) g hg; simpa using this))
          have HK := Lib.hid (HK.out.step kEF (fun y hy => .inr (by rw [List.mem_singleton.1 hy]; omega)))
          have HBW := Lib.hid hbF
          have HV := Lib.hid hvF
          have HMS : Hid (wF.heap[wB.heap.size]? = some (.cells #[.int .u8 11, .int .i64 n1, .int .i64 n2, .int .i64 0, .int .i64 0, .int .i64 0, .int .i64 0, .int .u64 0, .int .i64 0, .int .i64 0, .int .i64 0, .int .i64 0, .int .u8 0, .string ⟨#[]⟩, .int .i64 0, .int .i64 0, .int .i64 0, .int .i64 ep, .int .i64 nd, (.slice oa own.length oc), .slice none 0 0, .string ⟨#[]⟩] 47 (0, 0))) := Lib.hid tF
          clear kE tE hbE hvE kF tF kEF hbF hvF
          go_wp2_with (first | ((with_reducible refine wpList_store_all ?_ 91 (.tmp 5) (.tmp 20) ?_ wr.heap.size ?_ _ ?_ HST1.out ?_); rfl; rfl; rfl; rfl) | ((with_reducible refine wpList_store_all ?_ 47 (.tmp 6) (.tmp 25) ?_ wB.heap.size ?_ _ ?_ HST2.out ?_); rfl; rfl; rfl; rfl) | ((with_reducible refine wpList_load_row ?_ 47 (.tmp 6) ?_ wB.heap.size ?_ 47 #[.int .u8 11, .int .i64 n1, .int .i64 n2, .int .i64 0, .int .i64 0, .int .i64 0, .int .i64 0, .int .u64 0, .int .i64 0, .int .i64 0, .int .i64 0, .int .i64 0, .int .u8 0, .string ⟨#[]⟩, .int .i64 0, .int .i64 0, .int .i64 0, .int .i64 ep, .int .i64 nd, (.slice oa own.length oc), .slice none 0 0, .string ⟨#[]⟩] (0, 0) _ HMS.out Tryz.underlying47 ?_ ?_ ?_); rfl; rfl; rfl; rfl; kernel_rfl))
          refine (rpacket_any (m := ⟨11, n1, n2, 0, ep, nd, own⟩) (by exact ⟨.inr (.inr (.inl ⟨rfl, rfl⟩)), b1', b2', Nat.zero_le _, hep2, (by show nd ≤ _; omega), hol, HON.out⟩) (a := oa) (c := oc) (fun h => by rcases h with h | h <;> cases h) HIW.out (n4 : Int)).mono ?_
          rintro e wP1 ⟨rfl, hkP1⟩
          have HK := Lib.hid (HK.out.trans hkP1)
          have HR := Lib.hid (PRow.keep HR.out hkP1 (by simp))
          have HBW := Lib.hid ((hkP1.block _ (lt_of_heap HBW.out) (by simp)).trans HBW.out)
          have HIW := Lib.hid (HIW.out.keep hkP1 (by simp))
          have HV := Lib.hid ((hkP1.block _ (lt_of_heap HV.out) (by simp)).trans HV.out)
          have HMS := Lib.hid ((hkP1.block _ (lt_of_heap HMS.out) (by simp)).trans HMS.out)
          obtain ⟨bs1, hbs⟩ : ∃ bs1, frameB (Mg.enc ⟨11, n1, n2, 0, ep, nd, own⟩) = bs1 := ⟨_, rfl⟩
          rw [hbs]
          obtain ⟨wQ1, hwQ1⟩ : ∃ u, wP1.alloc (.cells #[.int .i64 8, .int .i64 (n4 : Int), .string ⟨bs1.toArray⟩] 94) = u := ⟨_, rfl⟩
          have kQ1 : Keep [] wP1 wQ1 := by rw [← hwQ1]; exact (Keep.refl _ _).alloc _
          have hcl : ∀ q u, (Pk.cells ⟨(n4 : Int), bs1⟩)[q]? = some u → wQ1.cell? ((⟨wP1.heap.size, 0, none⟩ : Addr).add q) = some u := by
            rw [← hwQ1]
            exact cells_new wP1 _ _ _ rfl
          have HCL := Lib.hid hcl
          have HBS1 := Lib.hid hbs
          have HK := Lib.hid (HK.out.trans kQ1)
          have HR := Lib.hid (PRow.keep HR.out kQ1 (by simp))
          have HBW := Lib.hid ((kQ1.block _ (lt_of_heap HBW.out) (by simp)).trans HBW.out)
          have HIW := Lib.hid (HIW.out.keep kQ1 (by simp))
          have HV := Lib.hid ((kQ1.block _ (lt_of_heap HV.out) (by simp)).trans HV.out)
          have HMS := Lib.hid ((kQ1.block _ (lt_of_heap HMS.out) (by simp)).trans HMS.out)
          have hwsQ := HK.out.size
          clear hkP1 kQ1 hcl hbs
          go_wp2_with (at_builtin; refine wpList_append_pk rfl _ _ rfl (w.heap.size + 1) _ M rfl HR.out ⟨wP1.heap.size, 0, none⟩ 1 rfl ⟨(n4 : Int), bs1⟩ HCL.out (by omega) (by omega) ?_)
          intro v' wR1 hr1 hkR1
          obtain ⟨av1, cv1, rfl, _⟩ := own_shape hr1
          have hob := own_base HR.out
          have hne : ∀ {b : Nat}, b < w.heap.size + 1 → b ∉ (Value.ownBlock _).toList := fun {b} hb hm => by have := hob b (by simpa using hm); omega
          have HK := Lib.hid (HK.out.step hkR1 (fun y hy => .inr (by have := hob y (by simpa using hy); omega)))
          have HBW := Lib.hid ((hkR1.block _ (lt_of_heap HBW.out) (hne (by omega))).trans HBW.out)
          have HIW := Lib.hid (HI.out.keep HK.out (by simp))
          have HV := Lib.hid ((hkR1.block _ (lt_of_heap HV.out) (fun hm => (absurd rfl) (own_ne_obj HR.out HV.out (by decide) _ (by simpa using hm)))).trans HV.out)
          have HMS := Lib.hid ((hkR1.block _ (lt_of_heap HMS.out) (fun hm => (absurd rfl) (own_ne_obj HR.out HMS.out (by decide) _ (by simpa using hm)))).trans HMS.out)
          have HRN := Lib.hid hr1
          obtain ⟨M1, hMM1⟩ : ∃ M', M ++ [⟨(n4 : Int), bs1⟩] = M' := ⟨_, rfl⟩
          rw [hMM1] at hr1 ⊢
          have hMl1 : M1.length ≤ M.length + 1 := by rw [← hMM1]; simp
          have HR := Lib.hid hr1
          have HMM1 := Lib.hid hMM1
          clear hr1 hkR1 hob hne hMM1 HRN
          obtain ⟨y30, y31, y32, y33, y34, y35, y36⟩ := MvFacts HV.out
          have HTK := Lib.hid (show tickOf C ⟨n1, n2, x3, n4⟩ ⟨2, 0⟩ = [⟨(n4 : Int), bs1⟩] from by rw [← HBS1.out]; unfold tickOf; rw [if_neg (by decide), if_pos rfl]; simp [H11.out])
          go_wp2_with (fail)
          go_roundw
          case rel => exact ⟨j + 1, by go_num, by omega, by rw [HN.out, HTK.out]; rw [HMM1.out]; exact HR.out, HK.out⟩
          case measure => go_light; simp [intOf]; omega
        · subst hd1
          have c0 : wD.cell? ⟨wB.heap.size, 0, none⟩ = some (.int .u8 12) := by unfold World.cell?; rw [HMS.out]; rfl
          have fz : ∀ o, wD.frozen? ⟨wB.heap.size, o, none⟩ = false := fun o => by unfold World.frozen?; rw [HMS.out]; simp
          obtain ⟨wE, hwE⟩ : ∃ u, wD.setCell ⟨wB.heap.size, 0, none⟩ (.int .u8 11) = u := ⟨_, rfl⟩
          have kE : Keep [wB.heap.size] wD wE := by rw [← hwE]; exact (Keep.refl _ _).setCell _ _ _ (.inl (by simp))
          have tE : wE.heap[wB.heap.size]? = some (.cells #[.int .u8 11, .int .i64 n1, .int .i64 n2, .int .i64 0, .int .i64 0, .int .i64 0, .int .i64 0, .int .u64 0, .int .i64 0, .int .i64 0, .int .i64 0, .int .i64 0, .int .u8 0, .string ⟨#[]⟩, .int .i64 0, .int .i64 0, .int .i64 0, .int .i64 0, .int .i64 0, (.slice none 0 0), .slice none 0 0, .string ⟨#[]⟩] 47 (0, 0)) := by rw [← hwE]; simp [World.setCell, Array.getElem?_modify, HMS.out]
          have nB : w.heap.size ∉ [wB.heap.size] := by simp; omega
          have nV : wr.heap.size ∉ [wB.heap.size] := by simp; omega
          have hbE := (kE.block _ (lt_of_heap HBW.out) nB).trans HBW.out
          have hvE := (kE.block _ (lt_of_heap HV.out) nV).trans HV.out
          obtain ⟨g0, g1, g2, g3, g4, g5, g6, g7⟩ := DxFacts hbE
          obtain ⟨vE0, vE1, vE2, vE3, vE4, vE5, vE6⟩ := MvFacts hvE
          have c17 : wE.cell? ⟨wB.heap.size, 17, none⟩ = some (.int .i64 0) := by unfold World.cell?; rw [tE]; rfl
          have c18 : wE.cell? ⟨wB.heap.size, 18, none⟩ = some (.int .i64 0) := by unfold World.cell?; rw [tE]; rfl
          have c19 : wE.cell? ⟨wB.heap.size, 19, none⟩ = some (.slice none 0 0) := by unfold World.cell?; rw [tE]; rfl
          have fz2 : ∀ o, wE.frozen? ⟨wB.heap.size, o, none⟩ = false := fun o => by unfold World.frozen?; rw [tE]; simp
          obtain ⟨wF, hwF⟩ : ∃ u, ((wE.setCell ⟨wB.heap.size, 17, none⟩ (.int .i64 ep)).setCell ⟨wB.heap.size, 18, none⟩ (.int .i64 nd)).setCell ⟨wB.heap.size, 19, none⟩ (.slice oa own.length oc) = u := ⟨_, rfl⟩
          have kF : Keep [wB.heap.size] wE wF := by rw [← hwF]; exact (((Keep.refl _ _).setCell _ _ _ (.inl (by simp))).setCell _ _ _ (.inl (by simp))).setCell _ _ _ (.inl (by simp))
          have tF : wF.heap[wB.heap.size]? = some (.cells #[.int .u8 11, .int .i64 n1, .int .i64 n2, .int .i64 0, .int .i64 0, .int .i64 0, .int .i64 0, .int .u64 0, .int .i64 0, .int .i64 0, .int .i64 0, .int .i64 0, .int .u8 0, .string ⟨#[]⟩, .int .i64 0, .int .i64 0, .int .i64 0, .int .i64 ep, .int .i64 nd, (.slice oa own.length oc), .slice none 0 0, .string ⟨#[]⟩] 47 (0, 0)) := by rw [← hwF]; simp [World.setCell, Array.getElem?_modify, tE]
          have kEF := kE.trans kF
          have hbF := (kF.block _ (lt_of_heap hbE) nB).trans hbE
          have hvF := (kF.block _ (lt_of_heap hvE) nV).trans hvE
          obtain ⟨vF0, vF1, vF2, vF3, vF4, vF5, vF6⟩ := MvFacts hvF
          have HIW := Lib.hid (HIW.out.keep kEF (fun hz b off hb => by
            obtain ⟨b', o', e1, e2, _⟩ := HI.out hz
            rw [hb] at e1
            cases e1
            simp
            omega))
          have HR := Lib.hid (PRow.keep HR.out kEF (fun g hg => by have := own_ne_obj HR.out HMS.out (by decide) g hg; simpa using this))
          have HK := Lib.hid (HK.out.step kEF (fun y hy => .inr (by rw [List.mem_singleton.1 hy]; omega)))
          have HBW := Lib.hid hbF
          have HV := Lib.hid hvF
          have HMS : Hid (wF.heap[wB.heap.size]? = some (.cells #[.int .u8 11, .int .i64 n1, .int .i64 n2, .int .i64 0, .int .i64 0, .int .i64 0, .int .i64 0, .int .u64 0, .int .i64 0, .int .i64 0, .int .i64 0, .int .i64 0, .int .u8 0, .string ⟨#[]⟩, .int .i64 0, .int .i64 0, .int .i64 0, .int .i64 ep, .int .i64 nd, (.slice oa own.length oc), .slice none 0 0, .string ⟨#[]⟩] 47 (0, 0))) := Lib.hid tF
          clear kE tE hbE hvE kF tF kEF hbF hvF
          go_wp2_with (first | ((with_reducible refine wpList_store_all ?_ 91 (.tmp 5) (.tmp 20) ?_ wr.heap.size ?_ _ ?_ HST1.out ?_); rfl; rfl; rfl; rfl) | ((with_reducible refine wpList_store_all ?_ 47 (.tmp 6) (.tmp 25) ?_ wB.heap.size ?_ _ ?_ HST2.out ?_); rfl; rfl; rfl; rfl) | ((with_reducible refine wpList_load_row ?_ 47 (.tmp 6) ?_ wB.heap.size ?_ 47 #[.int .u8 11, .int .i64 n1, .int .i64 n2, .int .i64 0, .int .i64 0, .int .i64 0, .int .i64 0, .int .u64 0, .int .i64 0, .int .i64 0, .int .i64 0, .int .i64 0, .int .u8 0, .string ⟨#[]⟩, .int .i64 0, .int .i64 0, .int .i64 0, .int .i64 ep, .int .i64 nd, (.slice oa own.length oc), .slice none 0 0, .string ⟨#[]⟩] (0, 0) _ HMS.out Tryz.underlying47 ?_ ?_ ?_); rfl; rfl; rfl; rfl; kernel_rfl))
          refine (rpacket_any (m := ⟨11, n1, n2, 0, ep, nd, own⟩) (by exact ⟨.inr (.inr (.inl ⟨rfl, rfl⟩)), b1', b2', Nat.zero_le _, hep2, (by show nd ≤ _; omega), hol, HON.out⟩) (a := oa) (c := oc) (fun h => by rcases h with h | h <;> cases h) HIW.out (n4 : Int)).mono ?_
          rintro e wP1 ⟨rfl, hkP1⟩
          have HK := Lib.hid (HK.out.trans hkP1)
          have HR := Lib.hid (PRow.keep HR.out hkP1 (by simp))
          have HBW := Lib.hid ((hkP1.block _ (lt_of_heap HBW.out) (by simp)).trans HBW.out)
          have HIW := Lib.hid (HIW.out.keep hkP1 (by simp))
          have HV := Lib.hid ((hkP1.block _ (lt_of_heap HV.out) (by simp)).trans HV.out)
          have HMS := Lib.hid ((hkP1.block _ (lt_of_heap HMS.out) (by simp)).trans HMS.out)
          obtain ⟨bs1, hbs⟩ : ∃ bs1, frameB (Mg.enc ⟨11, n1, n2, 0, ep, nd, own⟩) = bs1 := ⟨_, rfl⟩
          rw [hbs]
          obtain ⟨wQ1, hwQ1⟩ : ∃ u, wP1.alloc (.cells #[.int .i64 8, .int .i64 (n4 : Int), .string ⟨bs1.toArray⟩] 94) = u := ⟨_, rfl⟩
          have kQ1 : Keep [] wP1 wQ1 := by rw [← hwQ1]; exact (Keep.refl _ _).alloc _
          have hcl : ∀ q u, (Pk.cells ⟨(n4 : Int), bs1⟩)[q]? = some u → wQ1.cell? ((⟨wP1.heap.size, 0, none⟩ : Addr).add q) = some u := by
            rw [← hwQ1]
            exact cells_new wP1 _ _ _ rfl
          have HCL := Lib.hid hcl
          have HBS1 := Lib.hid hbs
          have HK := Lib.hid (HK.out.trans kQ1)
          have HR := Lib.hid (PRow.keep HR.out kQ1 (by simp))
          have HBW := Lib.hid ((kQ1.block _ (lt_of_heap HBW.out) (by simp)).trans HBW.out)
          have HIW := Lib.hid (HIW.out.keep kQ1 (by simp))
          have HV := Lib.hid ((kQ1.block _ (lt_of_heap HV.out) (by simp)).trans HV.out)
          have HMS := Lib.hid ((kQ1.block _ (lt_of_heap HMS.out) (by simp)).trans HMS.out)
          have hwsQ := HK.out.size
          clear hkP1 kQ1 hcl hbs
          go_wp2_with (at_builtin; refine wpList_append_pk rfl _ _ rfl (w.heap.size + 1) _ M rfl HR.out ⟨wP1.heap.size, 0, none⟩ 1 rfl ⟨(n4 : Int), bs1⟩ HCL.out (by omega) (by omega) ?_)
          intro v' wR1 hr1 hkR1
          obtain ⟨av1, cv1, rfl, _⟩ := own_shape hr1
          have hob := own_base HR.out
          have hne : ∀ {b : Nat}, b < w.heap.size + 1 → b ∉ (Value.ownBlock _).toList := fun {b} hb hm => by have := hob b (by simpa using hm); omega
          have HK := Lib.hid (HK.out.step hkR1 (fun y hy => .inr (by have := hob y (by simpa using hy); omega)))
          have HBW := Lib.hid ((hkR1.block _ (lt_of_heap HBW.out) (hne (by omega))).trans HBW.out)
          have HIW := Lib.hid (HI.out.keep HK.out (by simp))
          have HV := Lib.hid ((hkR1.block _ (lt_of_heap HV.out) (fun hm => (absurd rfl) (own_ne_obj HR.out HV.out (by decide) _ (by simpa using hm)))).trans HV.out)
          have HMS := Lib.hid ((hkR1.block _ (lt_of_heap HMS.out) (fun hm => (absurd rfl) (own_ne_obj HR.out HMS.out (by decide) _ (by simpa using hm)))).trans HMS.out)
          have HRN := Lib.hid hr1
          obtain ⟨M1, hMM1⟩ : ∃ M', M ++ [⟨(n4 : Int), bs1⟩] = M' := ⟨_, rfl⟩
          rw [hMM1] at hr1 ⊢
          have hMl1 : M1.length ≤ M.length + 1 := by rw [← hMM1]; simp
          have HR := Lib.hid hr1
          have HMM1 := Lib.hid hMM1
          clear hr1 hkR1 hob hne hMM1 HRN
          obtain ⟨y30, y31, y32, y33, y34, y35, y36⟩ := MvFacts HV.out
          have HTK := Lib.hid (show tickOf C ⟨n1, n2, x3, n4⟩ ⟨2, 1⟩ = [⟨(n4 : Int), bs1⟩] from by rw [← HBS1.out]; unfold tickOf; rw [if_neg (by decide), if_pos rfl]; simp [H11.out])
          go_wp2_with (fail)
          go_roundw
          case rel => exact ⟨j + 1, by go_num, by omega, by rw [HN.out, HTK.out]; rw [HMM1.out]; exact HR.out, HK.out⟩
          case measure => go_light; simp [intOf]; omega
        · subst hd2
          have c0 : wD.cell? ⟨wB.heap.size, 0, none⟩ = some (.int .u8 12) := by unfold World.cell?; rw [HMS.out]; rfl
          have fz : ∀ o, wD.frozen? ⟨wB.heap.size, o, none⟩ = false := fun o => by unfold World.frozen?; rw [HMS.out]; simp
          obtain ⟨wE, hwE⟩ : ∃ u, wD.setCell ⟨wB.heap.size, 0, none⟩ (.int .u8 11) = u := ⟨_, rfl⟩
          have kE : Keep [wB.heap.size] wD wE := by rw [← hwE]; exact (Keep.refl _ _).setCell _ _ _ (.inl (by simp))
          have tE : wE.heap[wB.heap.size]? = some (.cells #[.int .u8 11, .int .i64 n1, .int .i64 n2, .int .i64 0, .int .i64 0, .int .i64 0, .int .i64 0, .int .u64 0, .int .i64 0, .int .i64 0, .int .i64 0, .int .i64 0, .int .u8 0, .string ⟨#[]⟩, .int .i64 0, .int .i64 0, .int .i64 0, .int .i64 0, .int .i64 0, (.slice none 0 0), .slice none 0 0, .string ⟨#[]⟩] 47 (0, 0)) := by rw [← hwE]; simp [World.setCell, Array.getElem?_modify, HMS.out]
          have nB : w.heap.size ∉ [wB.heap.size] := by simp; omega
          have nV : wr.heap.size ∉ [wB.heap.size] := by simp; omega
          have hbE := (kE.block _ (lt_of_heap HBW.out) nB).trans HBW.out
          have hvE := (kE.block _ (lt_of_heap HV.out) nV).trans HV.out
          obtain ⟨g0, g1, g2, g3, g4, g5, g6, g7⟩ := DxFacts hbE
          obtain ⟨vE0, vE1, vE2, vE3, vE4, vE5, vE6⟩ := MvFacts hvE
          have c17 : wE.cell? ⟨wB.heap.size, 17, none⟩ = some (.int .i64 0) := by unfold World.cell?; rw [tE]; rfl
          have c18 : wE.cell? ⟨wB.heap.size, 18, none⟩ = some (.int .i64 0) := by unfold World.cell?; rw [tE]; rfl
          have c19 : wE.cell? ⟨wB.heap.size, 19, none⟩ = some (.slice none 0 0) := by unfold World.cell?; rw [tE]; rfl
          have fz2 : ∀ o, wE.frozen? ⟨wB.heap.size, o, none⟩ = false := fun o => by unfold World.frozen?; rw [tE]; simp
          obtain ⟨wF, hwF⟩ : ∃ u, ((wE.setCell ⟨wB.heap.size, 17, none⟩ (.int .i64 ep)).setCell ⟨wB.heap.size, 18, none⟩ (.int .i64 nd)).setCell ⟨wB.heap.size, 19, none⟩ (.slice oa own.length oc) = u := ⟨_, rfl⟩
          have kF : Keep [wB.heap.size] wE wF := by rw [← hwF]; exact (((Keep.refl _ _).setCell _ _ _ (.inl (by simp))).setCell _ _ _ (.inl (by simp))).setCell _ _ _ (.inl (by simp))
          have tF : wF.heap[wB.heap.size]? = some (.cells #[.int .u8 11, .int .i64 n1, .int .i64 n2, .int .i64 0, .int .i64 0, .int .i64 0, .int .i64 0, .int .u64 0, .int .i64 0, .int .i64 0, .int .i64 0, .int .i64 0, .int .u8 0, .string ⟨#[]⟩, .int .i64 0, .int .i64 0, .int .i64 0, .int .i64 ep, .int .i64 nd, (.slice oa own.length oc), .slice none 0 0, .string ⟨#[]⟩] 47 (0, 0)) := by rw [← hwF]; simp [World.setCell, Array.getElem?_modify, tE]
          have kEF := kE.trans kF
          have hbF := (kF.block _ (lt_of_heap hbE) nB).trans hbE
          have hvF := (kF.block _ (lt_of_heap hvE) nV).trans hvE
          obtain ⟨vF0, vF1, vF2, vF3, vF4, vF5, vF6⟩ := MvFacts hvF
          have HIW := Lib.hid (HIW.out.keep kEF (fun hz b off hb => by
            obtain ⟨b', o', e1, e2, _⟩ := HI.out hz
            rw [hb] at e1
            cases e1
            simp
            omega))
          have HR := Lib.hid (PRow.keep HR.out kEF (fun g hg => by have := own_ne_obj HR.out HMS.out (by decide) g hg; simpa using this))
          have HK := Lib.hid (HK.out.step kEF (fun y hy => .inr (by rw [List.mem_singleton.1 hy]; omega)))
          have HBW := Lib.hid hbF
          have HV := Lib.hid hvF
          have HMS : Hid (wF.heap[wB.heap.size]? = some (.cells #[.int .u8 11, .int .i64 n1, .int .i64 n2, .int .i64 0, .int .i64 0, .int .i64 0, .int .i64 0, .int .u64 0, .int .i64 0, .int .i64 0, .int .i64 0, .int .i64 0, .int .u8 0, .string ⟨#[]⟩, .int .i64 0, .int .i64 0, .int .i64 0, .int .i64 ep, .int .i64 nd, (.slice oa own.length oc), .slice none 0 0, .string ⟨#[]⟩] 47 (0, 0))) := Lib.hid tF
          clear kE tE hbE hvE kF tF kEF hbF hvF
          go_wp2_with (first | ((with_reducible refine wpList_store_all ?_ 91 (.tmp 5) (.tmp 20) ?_ wr.heap.size ?_ _ ?_ HST1.out ?_); rfl; rfl; rfl; rfl) | ((with_reducible refine wpList_store_all ?_ 47 (.tmp 6) (.tmp 25) ?_ wB.heap.size ?_ _ ?_ HST2.out ?_); rfl; rfl; rfl; rfl) | ((with_reducible refine wpList_load_row ?_ 47 (.tmp 6) ?_ wB.heap.size ?_ 47 #[.int .u8 11, .int .i64 n1, .int .i64 n2, .int .i64 0, .int .i64 0, .int .i64 0, .int .i64 0, .int .u64 0, .int .i64 0, .int .i64 0, .int .i64 0, .int .i64 0, .int .u8 0, .string ⟨#[]⟩, .int .i64 0, .int .i64 0, .int .i64 0, .int .i64 ep, .int .i64 nd, (.slice oa own.length oc), .slice none 0 0, .string ⟨#[]⟩] (0, 0) _ HMS.out Tryz.underlying47 ?_ ?_ ?_); rfl; rfl; rfl; rfl; kernel_rfl))
          refine (rpacket_any (m := ⟨11, n1, n2, 0, ep, nd, own⟩) (by exact ⟨.inr (.inr (.inl ⟨rfl, rfl⟩)), b1', b2', Nat.zero_le _, hep2, (by show nd ≤ _; omega), hol, HON.out⟩) (a := oa) (c := oc) (fun h => by rcases h with h | h <;> cases h) HIW.out x3).mono ?_
          rintro e wP1 ⟨rfl, hkP1⟩
          have HK := Lib.hid (HK.out.trans hkP1)
          have HR := Lib.hid (PRow.keep HR.out hkP1 (by simp))
          have HBW := Lib.hid ((hkP1.block _ (lt_of_heap HBW.out) (by simp)).trans HBW.out)
          have HIW := Lib.hid (HIW.out.keep hkP1 (by simp))
          have HV := Lib.hid ((hkP1.block _ (lt_of_heap HV.out) (by simp)).trans HV.out)
          have HMS := Lib.hid ((hkP1.block _ (lt_of_heap HMS.out) (by simp)).trans HMS.out)
          obtain ⟨bs1, hbs⟩ : ∃ bs1, frameB (Mg.enc ⟨11, n1, n2, 0, ep, nd, own⟩) = bs1 := ⟨_, rfl⟩
          rw [hbs]
          obtain ⟨wQ1, hwQ1⟩ : ∃ u, wP1.alloc (.cells #[.int .i64 8, .int .i64 x3, .string ⟨bs1.toArray⟩] 94) = u := ⟨_, rfl⟩
          have kQ1 : Keep [] wP1 wQ1 := by rw [← hwQ1]; exact (Keep.refl _ _).alloc _
          have hcl : ∀ q u, (Pk.cells ⟨x3, bs1⟩)[q]? = some u → wQ1.cell? ((⟨wP1.heap.size, 0, none⟩ : Addr).add q) = some u := by
            rw [← hwQ1]
            exact cells_new wP1 _ _ _ rfl
          have HCL := Lib.hid hcl
          have HBS1 := Lib.hid hbs
          have HK := Lib.hid (HK.out.trans kQ1)
          have HR := Lib.hid (PRow.keep HR.out kQ1 (by simp))
          have HBW := Lib.hid ((kQ1.block _ (lt_of_heap HBW.out) (by simp)).trans HBW.out)
          have HIW := Lib.hid (HIW.out.keep kQ1 (by simp))
          have HV := Lib.hid ((kQ1.block _ (lt_of_heap HV.out) (by simp)).trans HV.out)
          have HMS := Lib.hid ((kQ1.block _ (lt_of_heap HMS.out) (by simp)).trans HMS.out)
          have hwsQ := HK.out.size
          clear hkP1 kQ1 hcl hbs
          go_wp2_with (at_builtin; refine wpList_append_pk rfl _ _ rfl (w.heap.size + 1) _ M rfl HR.out ⟨wP1.heap.size, 0, none⟩ 1 rfl ⟨x3, bs1⟩ HCL.out (by omega) (by omega) ?_)
          intro v' wR1 hr1 hkR1
          obtain ⟨av1, cv1, rfl, _⟩ := own_shape hr1
          have hob := own_base HR.out
          have hne : ∀ {b : Nat}, b < w.heap.size + 1 → b ∉ (Value.ownBlock _).toList := fun {b} hb hm => by have := hob b (by simpa using hm); omega
          have HK := Lib.hid (HK.out.step hkR1 (fun y hy => .inr (by have := hob y (by simpa using hy); omega)))
          have HBW := Lib.hid ((hkR1.block _ (lt_of_heap HBW.out) (hne (by omega))).trans HBW.out)
          have HIW := Lib.hid (HI.out.keep HK.out (by simp))
          have HV := Lib.hid ((hkR1.block _ (lt_of_heap HV.out) (fun hm => (absurd rfl) (own_ne_obj HR.out HV.out (by decide) _ (by simpa using hm)))).trans HV.out)
          have HMS := Lib.hid ((hkR1.block _ (lt_of_heap HMS.out) (fun hm => (absurd rfl) (own_ne_obj HR.out HMS.out (by decide) _ (by simpa using hm)))).trans HMS.out)
          have HRN := Lib.hid hr1
          obtain ⟨M1, hMM1⟩ : ∃ M', M ++ [⟨x3, bs1⟩] = M' := ⟨_, rfl⟩
          rw [hMM1] at hr1 ⊢
          have hMl1 : M1.length ≤ M.length + 1 := by rw [← hMM1]; simp
          have HR := Lib.hid hr1
          have HMM1 := Lib.hid hMM1
          clear hr1 hkR1 hob hne hMM1 HRN
          obtain ⟨y30, y31, y32, y33, y34, y35, y36⟩ := MvFacts HV.out
          have HTK := Lib.hid (show tickOf C ⟨n1, n2, x3, n4⟩ ⟨2, 2⟩ = [⟨x3, bs1⟩] from by rw [← HBS1.out]; unfold tickOf; rw [if_neg (by decide), if_pos rfl]; simp [H11.out])
          go_wp2_with (fail)
          go_roundw
          case rel => exact ⟨j + 1, by go_num, by omega, by rw [HN.out, HTK.out]; rw [HMM1.out]; exact HR.out, HK.out⟩
          case measure => go_light; simp [intOf]; omega
      · rcases (show dn = 0 ∨ dn = 1 ∨ dn = 2 by omega) with hd0 | hd1 | hd2
        · subst hd0
          go_wp2_with (first | ((with_reducible refine wpList_store_all ?_ 91 (.tmp 5) (.tmp 20) ?_ wr.heap.size ?_ _ ?_ HST1.out ?_); rfl; rfl; rfl; rfl) | ((with_reducible refine wpList_store_all ?_ 47 (.tmp 6) (.tmp 25) ?_ wB.heap.size ?_ _ ?_ HST2.out ?_); rfl; rfl; rfl; rfl) | ((with_reducible refine wpList_load_row ?_ 47 (.tmp 6) ?_ wB.heap.size ?_ 47 #[.int .u8 12, .int .i64 n1, .int .i64 n2, .int .i64 0, .int .i64 0, .int .i64 0, .int .i64 0, .int .u64 0, .int .i64 0, .int .i64 0, .int .i64 0, .int .i64 0, .int .u8 0, .string ⟨#[]⟩, .int .i64 0, .int .i64 0, .int .i64 0, .int .i64 0, .int .i64 0, (.slice none 0 0), .slice none 0 0, .string ⟨#[]⟩] (0, 0) _ HMS.out Tryz.underlying47 ?_ ?_ ?_); rfl; rfl; rfl; rfl; kernel_rfl))
          refine (rpacket_any (m := ⟨12, n1, n2, 0, 0, 0, []⟩) (by exact ⟨.inr (.inl ⟨rfl, rfl, rfl, rfl, rfl⟩), b1', b2', Nat.zero_le _, Nat.zero_le _, Nat.zero_le _, Nat.zero_le _, fun y hy => by cases hy⟩) (a := none) (c := 0) (fun _ => ⟨rfl, rfl⟩) (fun h => absurd rfl h) x3).mono ?_
          rintro e wP1 ⟨rfl, hkP1⟩
          have HK := Lib.hid (HK.out.trans hkP1)
          have HR := Lib.hid (PRow.keep HR.out hkP1 (by simp))
          have HBW := Lib.hid ((hkP1.block _ (lt_of_heap HBW.out) (by simp)).trans HBW.out)
          have HIW := Lib.hid (HIW.out.keep hkP1 (by simp))
          have HV := Lib.hid ((hkP1.block _ (lt_of_heap HV.out) (by simp)).trans HV.out)
          have HMS := Lib.hid ((hkP1.block _ (lt_of_heap HMS.out) (by simp)).trans HMS.out)
          obtain ⟨bs1, hbs⟩ : ∃ bs1, frameB (Mg.enc ⟨12, n1, n2, 0, 0, 0, []⟩) = bs1 := ⟨_, rfl⟩
          rw [hbs]
          obtain ⟨wQ1, hwQ1⟩ : ∃ u, wP1.alloc (.cells #[.int .i64 8, .int .i64 x3, .string ⟨bs1.toArray⟩] 94) = u := ⟨_, rfl⟩
          have kQ1 : Keep [] wP1 wQ1 := by rw [← hwQ1]; exact (Keep.refl _ _).alloc _
          have hcl : ∀ q u, (Pk.cells ⟨x3, bs1⟩)[q]? = some u → wQ1.cell? ((⟨wP1.heap.size, 0, none⟩ : Addr).add q) = some u := by
            rw [← hwQ1]
            exact cells_new wP1 _ _ _ rfl
          have HCL := Lib.hid hcl
          have HBS1 := Lib.hid hbs
          have HK := Lib.hid (HK.out.trans kQ1)
          have HR := Lib.hid (PRow.keep HR.out kQ1 (by simp))
          have HBW := Lib.hid ((kQ1.block _ (lt_of_heap HBW.out) (by simp)).trans HBW.out)
          have HIW := Lib.hid (HIW.out.keep kQ1 (by simp))
          have HV := Lib.hid ((kQ1.block _ (lt_of_heap HV.out) (by simp)).trans HV.out)
          have HMS := Lib.hid ((kQ1.block _ (lt_of_heap HMS.out) (by simp)).trans HMS.out)
          have hwsQ := HK.out.size
          clear hkP1 kQ1 hcl hbs
          go_wp2_with (at_builtin; refine wpList_append_pk rfl _ _ rfl (w.heap.size + 1) _ M rfl HR.out ⟨wP1.heap.size, 0, none⟩ 1 rfl ⟨x3, bs1⟩ HCL.out (by omega) (by omega) ?_)
          intro v' wR1 hr1 hkR1
          obtain ⟨av1, cv1, rfl, _⟩ := own_shape hr1
          have hob := own_base HR.out
          have hne : ∀ {b : Nat}, b < w.heap.size + 1 → b ∉ (Value.ownBlock _).toList := fun {b} hb hm => by have := hob b (by simpa using hm); omega
          have HK := Lib.hid (HK.out.step hkR1 (fun y hy => .inr (by have := hob y (by simpa using hy); omega)))
          have HBW := Lib.hid ((hkR1.block _ (lt_of_heap HBW.out) (hne (by omega))).trans HBW.out)
          have HIW := Lib.hid (HI.out.keep HK.out (by simp))
          have HV := Lib.hid ((hkR1.block _ (lt_of_heap HV.out) (fun hm => (absurd rfl) (own_ne_obj HR.out HV.out (by decide) _ (by simpa using hm)))).trans HV.out)
          have HMS := Lib.hid ((hkR1.block _ (lt_of_heap HMS.out) (fun hm => (absurd rfl) (own_ne_obj HR.out HMS.out (by decide) _ (by simpa using hm)))).trans HMS.out)
          have HRN := Lib.hid hr1
          obtain ⟨M1, hMM1⟩ : ∃ M', M ++ [⟨x3, bs1⟩] = M' := ⟨_, rfl⟩
          rw [hMM1] at hr1 ⊢
          have hMl1 : M1.length ≤ M.length + 1 := by rw [← hMM1]; simp
          have HR := Lib.hid hr1
          have HMM1 := Lib.hid hMM1
          clear hr1 hkR1 hob hne hMM1 HRN
          obtain ⟨y30, y31, y32, y33, y34, y35, y36⟩ := MvFacts HV.out
          go_wp2_with (((with_reducible refine wpList_load_row ?_ 47 (.tmp 6) ?_ wB.heap.size ?_ 47 #[.int .u8 12, .int .i64 n1, .int .i64 n2, .int .i64 0, .int .i64 0, .int .i64 0, .int .i64 0, .int .u64 0, .int .i64 0, .int .i64 0, .int .i64 0, .int .i64 0, .int .u8 0, .string ⟨#[]⟩, .int .i64 0, .int .i64 0, .int .i64 0, .int .i64 0, .int .i64 0, (.slice none 0 0), .slice none 0 0, .string ⟨#[]⟩] (0, 0) _ HMS.out Tryz.underlying47 ?_ ?_ ?_); rfl; rfl; rfl; rfl; kernel_rfl))
          refine (rpacket_any (m := ⟨12, n1, n2, 0, 0, 0, []⟩) (by exact ⟨.inr (.inl ⟨rfl, rfl, rfl, rfl, rfl⟩), b1', b2', Nat.zero_le _, Nat.zero_le _, Nat.zero_le _, Nat.zero_le _, fun y hy => by cases hy⟩) (a := none) (c := 0) (fun _ => ⟨rfl, rfl⟩) (fun h => absurd rfl h) (n4 : Int)).mono ?_
          rintro e wP2 ⟨rfl, hkP2⟩
          have HK := Lib.hid (HK.out.trans hkP2)
          have HR := Lib.hid (PRow.keep HR.out hkP2 (by simp))
          have HBW := Lib.hid ((hkP2.block _ (lt_of_heap HBW.out) (by simp)).trans HBW.out)
          have HIW := Lib.hid (HIW.out.keep hkP2 (by simp))
          have HV := Lib.hid ((hkP2.block _ (lt_of_heap HV.out) (by simp)).trans HV.out)
          have HMS := Lib.hid ((hkP2.block _ (lt_of_heap HMS.out) (by simp)).trans HMS.out)
          obtain ⟨bs2, hbs⟩ : ∃ bs2, frameB (Mg.enc ⟨12, n1, n2, 0, 0, 0, []⟩) = bs2 := ⟨_, rfl⟩
          rw [hbs]
          obtain ⟨wQ2, hwQ2⟩ : ∃ u, wP2.alloc (.cells #[.int .i64 8, .int .i64 (n4 : Int), .string ⟨bs2.toArray⟩] 94) = u := ⟨_, rfl⟩
          have kQ2 : Keep [] wP2 wQ2 := by rw [← hwQ2]; exact (Keep.refl _ _).alloc _
          have hcl : ∀ q u, (Pk.cells ⟨(n4 : Int), bs2⟩)[q]? = some u → wQ2.cell? ((⟨wP2.heap.size, 0, none⟩ : Addr).add q) = some u := by
            rw [← hwQ2]
            exact cells_new wP2 _ _ _ rfl
          have HCL := Lib.hid hcl
          have HBS2 := Lib.hid hbs
          have HK := Lib.hid (HK.out.trans kQ2)
          have HR := Lib.hid (PRow.keep HR.out kQ2 (by simp))
          have HBW := Lib.hid ((kQ2.block _ (lt_of_heap HBW.out) (by simp)).trans HBW.out)
          have HIW := Lib.hid (HIW.out.keep kQ2 (by simp))
          have HV := Lib.hid ((kQ2.block _ (lt_of_heap HV.out) (by simp)).trans HV.out)
          have HMS := Lib.hid ((kQ2.block _ (lt_of_heap HMS.out) (by simp)).trans HMS.out)
          have hwsQ := HK.out.size
          clear hkP2 kQ2 hcl hbs
          go_wp2_with (at_builtin; refine wpList_append_pk rfl _ _ rfl (w.heap.size + 1) _ M1 rfl HR.out ⟨wP2.heap.size, 0, none⟩ 1 rfl ⟨(n4 : Int), bs2⟩ HCL.out (by omega) (by omega) ?_)
          intro v' wR2 hr2 hkR2
          obtain ⟨av2, cv2, rfl, _⟩ := own_shape hr2
          have hob := own_base HR.out
          have hne : ∀ {b : Nat}, b < w.heap.size + 1 → b ∉ (Value.ownBlock _).toList := fun {b} hb hm => by have := hob b (by simpa using hm); omega
          have HK := Lib.hid (HK.out.step hkR2 (fun y hy => .inr (by have := hob y (by simpa using hy); omega)))
          have HBW := Lib.hid ((hkR2.block _ (lt_of_heap HBW.out) (hne (by omega))).trans HBW.out)
          have HIW := Lib.hid (HI.out.keep HK.out (by simp))
          have HV := Lib.hid ((hkR2.block _ (lt_of_heap HV.out) (fun hm => (absurd rfl) (own_ne_obj HR.out HV.out (by decide) _ (by simpa using hm)))).trans HV.out)
          have HMS := Lib.hid ((hkR2.block _ (lt_of_heap HMS.out) (fun hm => (absurd rfl) (own_ne_obj HR.out HMS.out (by decide) _ (by simpa using hm)))).trans HMS.out)
          have HRN := Lib.hid hr2
          obtain ⟨M2, hMM2⟩ : ∃ M', M1 ++ [⟨(n4 : Int), bs2⟩] = M' := ⟨_, rfl⟩
          rw [hMM2] at hr2 ⊢
          have hMl2 : M2.length ≤ M1.length + 1 := by rw [← hMM2]; simp
          have HR := Lib.hid hr2
          have HMM2 := Lib.hid hMM2
          clear hr2 hkR2 hob hne hMM2 HRN
          obtain ⟨y40, y41, y42, y43, y44, y45, y46⟩ := MvFacts HV.out
          have HTK := Lib.hid (show tickOf C ⟨n1, n2, x3, n4⟩ ⟨3, 0⟩ = [⟨x3, bs1⟩, ⟨(n4 : Int), bs2⟩] from by rw [← HBS1.out, ← HBS2.out]; unfold tickOf m12; rw [if_neg (by decide), if_neg (by decide)]; simp)
          go_wp2_with (fail)
          go_roundw
          case rel => exact ⟨j + 1, by go_num, by omega, by rw [HN.out, HTK.out]; rw [show M ++ [⟨x3, bs1⟩, ⟨(n4 : Int), bs2⟩] = M2 from by rw [← HMM2.out, ← HMM1.out]; simp]; exact HR.out, HK.out⟩
          case measure => go_light; simp [intOf]; omega
        · subst hd1
          go_wp2_with (first | ((with_reducible refine wpList_store_all ?_ 91 (.tmp 5) (.tmp 20) ?_ wr.heap.size ?_ _ ?_ HST1.out ?_); rfl; rfl; rfl; rfl) | ((with_reducible refine wpList_store_all ?_ 47 (.tmp 6) (.tmp 25) ?_ wB.heap.size ?_ _ ?_ HST2.out ?_); rfl; rfl; rfl; rfl) | ((with_reducible refine wpList_load_row ?_ 47 (.tmp 6) ?_ wB.heap.size ?_ 47 #[.int .u8 12, .int .i64 n1, .int .i64 n2, .int .i64 0, .int .i64 0, .int .i64 0, .int .i64 0, .int .u64 0, .int .i64 0, .int .i64 0, .int .i64 0, .int .i64 0, .int .u8 0, .string ⟨#[]⟩, .int .i64 0, .int .i64 0, .int .i64 0, .int .i64 0, .int .i64 0, (.slice none 0 0), .slice none 0 0, .string ⟨#[]⟩] (0, 0) _ HMS.out Tryz.underlying47 ?_ ?_ ?_); rfl; rfl; rfl; rfl; kernel_rfl))
          refine (rpacket_any (m := ⟨12, n1, n2, 0, 0, 0, []⟩) (by exact ⟨.inr (.inl ⟨rfl, rfl, rfl, rfl, rfl⟩), b1', b2', Nat.zero_le _, Nat.zero_le _, Nat.zero_le _, Nat.zero_le _, fun y hy => by cases hy⟩) (a := none) (c := 0) (fun _ => ⟨rfl, rfl⟩) (fun h => absurd rfl h) (n4 : Int)).mono ?_
          rintro e wP1 ⟨rfl, hkP1⟩
          have HK := Lib.hid (HK.out.trans hkP1)
          have HR := Lib.hid (PRow.keep HR.out hkP1 (by simp))
          have HBW := Lib.hid ((hkP1.block _ (lt_of_heap HBW.out) (by simp)).trans HBW.out)
          have HIW := Lib.hid (HIW.out.keep hkP1 (by simp))
          have HV := Lib.hid ((hkP1.block _ (lt_of_heap HV.out) (by simp)).trans HV.out)
          have HMS := Lib.hid ((hkP1.block _ (lt_of_heap HMS.out) (by simp)).trans HMS.out)
          obtain ⟨bs1, hbs⟩ : ∃ bs1, frameB (Mg.enc ⟨12, n1, n2, 0, 0, 0, []⟩) = bs1 := ⟨_, rfl⟩
          rw [hbs]
          obtain ⟨wQ1, hwQ1⟩ : ∃ u, wP1.alloc (.cells #[.int .i64 8, .int .i64 (n4 : Int), .string ⟨bs1.toArray⟩] 94) = u := ⟨_, rfl⟩
          have kQ1 : Keep [] wP1 wQ1 := by rw [← hwQ1]; exact (Keep.refl _ _).alloc _
          have hcl : ∀ q u, (Pk.cells ⟨(n4 : Int), bs1⟩)[q]? = some u → wQ1.cell? ((⟨wP1.heap.size, 0, none⟩ : Addr).add q) = some u := by
            rw [← hwQ1]
            exact cells_new wP1 _ _ _ rfl
          have HCL := Lib.hid hcl
          have HBS1 := Lib.hid hbs
          have HK := Lib.hid (HK.out.trans kQ1)
          have HR := Lib.hid (PRow.keep HR.out kQ1 (by simp))
          have HBW := Lib.hid ((kQ1.block _ (lt_of_heap HBW.out) (by simp)).trans HBW.out)
          have HIW := Lib.hid (HIW.out.keep kQ1 (by simp))
          have HV := Lib.hid ((kQ1.block _ (lt_of_heap HV.out) (by simp)).trans HV.out)
          have HMS := Lib.hid ((kQ1.block _ (lt_of_heap HMS.out) (by simp)).trans HMS.out)
          have hwsQ := HK.out.size
          clear hkP1 kQ1 hcl hbs
          go_wp2_with (at_builtin; refine wpList_append_pk rfl _ _ rfl (w.heap.size + 1) _ M rfl HR.out ⟨wP1.heap.size, 0, none⟩ 1 rfl ⟨(n4 : Int), bs1⟩ HCL.out (by omega) (by omega) ?_)
          intro v' wR1 hr1 hkR1
          obtain ⟨av1, cv1, rfl, _⟩ := own_shape hr1
          have hob := own_base HR.out
          have hne : ∀ {b : Nat}, b < w.heap.size + 1 → b ∉ (Value.ownBlock _).toList := fun {b} hb hm => by have := hob b (by simpa using hm); omega
          have HK := Lib.hid (HK.out.step hkR1 (fun y hy => .inr (by have := hob y (by simpa using hy); omega)))
          have HBW := Lib.hid ((hkR1.block _ (lt_of_heap HBW.out) (hne (by omega))).trans HBW.out)
          have HIW := Lib.hid (HI.out.keep HK.out (by simp))
          have HV := Lib.hid ((hkR1.block _ (lt_of_heap HV.out) (fun hm => (absurd rfl) (own_ne_obj HR.out HV.out (by decide) _ (by simpa using hm)))).trans HV.out)
          have HMS := Lib.hid ((hkR1.block _ (lt_of_heap HMS.out) (fun hm => (absurd rfl) (own_ne_obj HR.out HMS.out (by decide) _ (by simpa using hm)))).trans HMS.out)
          have HRN := Lib.hid hr1
          obtain ⟨M1, hMM1⟩ : ∃ M', M ++ [⟨(n4 : Int), bs1⟩] = M' := ⟨_, rfl⟩
          rw [hMM1] at hr1 ⊢
          have hMl1 : M1.length ≤ M.length + 1 := by rw [← hMM1]; simp
          have HR := Lib.hid hr1
          have HMM1 := Lib.hid hMM1
          clear hr1 hkR1 hob hne hMM1 HRN
          obtain ⟨y30, y31, y32, y33, y34, y35, y36⟩ := MvFacts HV.out
          have HTK := Lib.hid (show tickOf C ⟨n1, n2, x3, n4⟩ ⟨3, 1⟩ = [⟨(n4 : Int), bs1⟩] from by rw [← HBS1.out]; unfold tickOf m12; rw [if_neg (by decide), if_neg (by decide)]; simp)
          go_wp2_with (fail)
          go_roundw
          case rel => exact ⟨j + 1, by go_num, by omega, by rw [HN.out, HTK.out]; rw [HMM1.out]; exact HR.out, HK.out⟩
          case measure => go_light; simp [intOf]; omega
        · subst hd2
          go_wp2_with (first | ((with_reducible refine wpList_store_all ?_ 91 (.tmp 5) (.tmp 20) ?_ wr.heap.size ?_ _ ?_ HST1.out ?_); rfl; rfl; rfl; rfl) | ((with_reducible refine wpList_store_all ?_ 47 (.tmp 6) (.tmp 25) ?_ wB.heap.size ?_ _ ?_ HST2.out ?_); rfl; rfl; rfl; rfl) | ((with_reducible refine wpList_load_row ?_ 47 (.tmp 6) ?_ wB.heap.size ?_ 47 #[.int .u8 12, .int .i64 n1, .int .i64 n2, .int .i64 0, .int .i64 0, .int .i64 0, .int .i64 0, .int .u64 0, .int .i64 0, .int .i64 0, .int .i64 0, .int .i64 0, .int .u8 0, .string ⟨#[]⟩, .int .i64 0, .int .i64 0, .int .i64 0, .int .i64 0, .int .i64 0, (.slice none 0 0), .slice none 0 0, .string ⟨#[]⟩] (0, 0) _ HMS.out Tryz.underlying47 ?_ ?_ ?_); rfl; rfl; rfl; rfl; kernel_rfl))
          refine (rpacket_any (m := ⟨12, n1, n2, 0, 0, 0, []⟩) (by exact ⟨.inr (.inl ⟨rfl, rfl, rfl, rfl, rfl⟩), b1', b2', Nat.zero_le _, Nat.zero_le _, Nat.zero_le _, Nat.zero_le _, fun y hy => by cases hy⟩) (a := none) (c := 0) (fun _ => ⟨rfl, rfl⟩) (fun h => absurd rfl h) x3).mono ?_
          rintro e wP1 ⟨rfl, hkP1⟩
          have HK := Lib.hid (HK.out.trans hkP1)
          have HR := Lib.hid (PRow.keep HR.out hkP1 (by simp))
          have HBW := Lib.hid ((hkP1.block _ (lt_of_heap HBW.out) (by simp)).trans HBW.out)
          have HIW := Lib.hid (HIW.out.keep hkP1 (by simp))
          have HV := Lib.hid ((hkP1.block _ (lt_of_heap HV.out) (by simp)).trans HV.out)
          have HMS := Lib.hid ((hkP1.block _ (lt_of_heap HMS.out) (by simp)).trans HMS.out)
          obtain ⟨bs1, hbs⟩ : ∃ bs1, frameB (Mg.enc ⟨12, n1, n2, 0, 0, 0, []⟩) = bs1 := ⟨_, rfl⟩
          rw [hbs]
          obtain ⟨wQ1, hwQ1⟩ : ∃ u, wP1.alloc (.cells #[.int .i64 8, .int .i64 x3, .string ⟨bs1.toArray⟩] 94) = u := ⟨_, rfl⟩
          have kQ1 : Keep [] wP1 wQ1 := by rw [← hwQ1]; exact (Keep.refl _ _).alloc _
          have hcl : ∀ q u, (Pk.cells ⟨x3, bs1⟩)[q]? = some u → wQ1.cell? ((⟨wP1.heap.size, 0, none⟩ : Addr).add q) = some u := by
            rw [← hwQ1]
            exact cells_new wP1 _ _ _ rfl
          have HCL := Lib.hid hcl
          have HBS1 := Lib.hid hbs
          have HK := Lib.hid (HK.out.trans kQ1)
          have HR := Lib.hid (PRow.keep HR.out kQ1 (by simp))
          have HBW := Lib.hid ((kQ1.block _ (lt_of_heap HBW.out) (by simp)).trans HBW.out)
          have HIW := Lib.hid (HIW.out.keep kQ1 (by simp))
          have HV := Lib.hid ((kQ1.block _ (lt_of_heap HV.out) (by simp)).trans HV.out)
          have HMS := Lib.hid ((kQ1.block _ (lt_of_heap HMS.out) (by simp)).trans HMS.out)
          have hwsQ := HK.out.size
          clear hkP1 kQ1 hcl hbs
          go_wp2_with (at_builtin; refine wpList_append_pk rfl _ _ rfl (w.heap.size + 1) _ M rfl HR.out ⟨wP1.heap.size, 0, none⟩ 1 rfl ⟨x3, bs1⟩ HCL.out (by omega) (by omega) ?_)
          intro v' wR1 hr1 hkR1
          obtain ⟨av1, cv1, rfl, _⟩ := own_shape hr1
          have hob := own_base HR.out
          have hne : ∀ {b : Nat}, b < w.heap.size + 1 → b ∉ (Value.ownBlock _).toList := fun {b} hb hm => by have := hob b (by simpa using hm); omega
          have HK := Lib.hid (HK.out.step hkR1 (fun y hy => .inr (by have := hob y (by simpa using hy); omega)))
          have HBW := Lib.hid ((hkR1.block _ (lt_of_heap HBW.out) (hne (by omega))).trans HBW.out)
          have HIW := Lib.hid (HI.out.keep HK.out (by simp))
          have HV := Lib.hid ((hkR1.block _ (lt_of_heap HV.out) (fun hm => (absurd rfl) (own_ne_obj HR.out HV.out (by decide) _ (by simpa using hm)))).trans HV.out)
          have HMS := Lib.hid ((hkR1.block _ (lt_of_heap HMS.out) (fun hm => (absurd rfl) (own_ne_obj HR.out HMS.out (by decide) _ (by simpa using hm)))).trans HMS.out)
          have HRN := Lib.hid hr1
          obtain ⟨M1, hMM1⟩ : ∃ M', M ++ [⟨x3, bs1⟩] = M' := ⟨_, rfl⟩
          rw [hMM1] at hr1 ⊢
          have hMl1 : M1.length ≤ M.length + 1 := by rw [← hMM1]; simp
          have HR := Lib.hid hr1
          have HMM1 := Lib.hid hMM1
          clear hr1 hkR1 hob hne hMM1 HRN
          obtain ⟨y30, y31, y32, y33, y34, y35, y36⟩ := MvFacts HV.out
          have HTK := Lib.hid (show tickOf C ⟨n1, n2, x3, n4⟩ ⟨3, 2⟩ = [⟨x3, bs1⟩] from by rw [← HBS1.out]; unfold tickOf m12; rw [if_neg (by decide), if_neg (by decide)]; simp)
          go_wp2_with (fail)
          go_roundw
          case rel => exact ⟨j + 1, by go_num, by omega, by rw [HN.out, HTK.out]; rw [HMM1.out]; exact HR.out, HK.out⟩
          case measure => go_light; simp [intOf]; omega
    · obtain rfl : j = L.length := by omega
      have hjn : ¬ (L.length : Int) < (L.length : Int) := by omega
      go_wp2_with (fail)
      clear d0 d1 d2 d3 d4 d5 d6 d7 hjn h0j hlt
      go_loopw [7, 3] (fun i l wr => ∃ j : Nat, i = .int .i64 j ∧ (j ≤ nd) ∧ PRow (w.heap.size + 1) wr l (tkP C L ++ nwP C 0 j) ∧ Keep [] w1 wr) (fun i _ _ => nd - (intOf i).toNat)
      case atStart => exact ⟨0, rfl, by omega, by (rw [show tkP C L ++ nwP C 0 0 = M from by rw [← HM.out, List.take_length]; simp [nwP]]; exact HR.out), HK.out⟩
      case round =>
        obtain ⟨j, rfl, hj, hrow, hk0⟩ := hrel
        obtain ⟨av, cv, rfl, _⟩ := own_shape hrow
        obtain ⟨M, hM⟩ : ∃ M, tkP C L ++ nwP C 0 j = M := ⟨_, rfl⟩
        have hMl : M.length ≤ 900 := by rw [← hM]; have := tkP_len C L; simp only [List.length_append, nwP_len]; omega
        rw [hM] at hrow ⊢
        have HM := Lib.hid hM
        have HR := Lib.hid hrow
        have HK := Lib.hid hk0
        have HBW := Lib.hid ((hk0.block _ (lt_of_heap HB.out) (by simp)).trans HB.out)
        have HIW := Lib.hid (HI.out.keep hk0 (by simp))
        have hws := hk0.size
        obtain ⟨d0, d1, d2, d3, d4, d5, d6, d7⟩ := DxFacts HBW.out
        have h0j : (0 : Int) ≤ (j : Int) := Int.natCast_nonneg j
        clear hrow hk0 hM
        by_cases hlt : j < nd
        · have hjn : (j : Int) < (nd : Int) := by omega
          go_wp2_with (fail)
          refine (rpacket_any (m := ⟨14, 0, 0, 0, ep, nd, own⟩) H14.out (a := oa) (c := oc) (fun h => by rcases h with h | h <;> cases h) HIW.out (j : Int)).mono ?_
          rintro e wP1 ⟨rfl, hkP1⟩
          have HK := Lib.hid (HK.out.trans hkP1)
          have HR := Lib.hid (PRow.keep HR.out hkP1 (by simp))
          have HBW := Lib.hid ((hkP1.block _ (lt_of_heap HBW.out) (by simp)).trans HBW.out)
          have HIW := Lib.hid (HIW.out.keep hkP1 (by simp))
          obtain ⟨bs1, hbs⟩ : ∃ bs1, frameB (Mg.enc ⟨14, 0, 0, 0, ep, nd, own⟩) = bs1 := ⟨_, rfl⟩
          rw [hbs]
          obtain ⟨wQ1, hwQ1⟩ : ∃ u, wP1.alloc (.cells #[.int .i64 8, .int .i64 (j : Int), .string ⟨bs1.toArray⟩] 94) = u := ⟨_, rfl⟩
          have kQ1 : Keep [] wP1 wQ1 := by rw [← hwQ1]; exact (Keep.refl _ _).alloc _
          have hcl : ∀ q u, (Pk.cells ⟨(j : Int), bs1⟩)[q]? = some u → wQ1.cell? ((⟨wP1.heap.size, 0, none⟩ : Addr).add q) = some u := by
            rw [← hwQ1]
            exact cells_new wP1 _ _ _ rfl
          have HCL := Lib.hid hcl
          have HBS1 := Lib.hid hbs
          have HK := Lib.hid (HK.out.trans kQ1)
          have HR := Lib.hid (PRow.keep HR.out kQ1 (by simp))
          have HBW := Lib.hid ((kQ1.block _ (lt_of_heap HBW.out) (by simp)).trans HBW.out)
          have HIW := Lib.hid (HIW.out.keep kQ1 (by simp))
          have hwsQ := HK.out.size
          clear hkP1 kQ1 hcl hbs
          go_wp2_with (at_builtin; refine wpList_append_pk rfl _ _ rfl (w.heap.size + 1) _ M rfl HR.out ⟨wP1.heap.size, 0, none⟩ 1 rfl ⟨(j : Int), bs1⟩ HCL.out (by omega) (by omega) ?_)
          intro v' wR1 hr1 hkR1
          obtain ⟨av1, cv1, rfl, _⟩ := own_shape hr1
          have hob := own_base HR.out
          have hne : ∀ {b : Nat}, b < w.heap.size + 1 → b ∉ (Value.ownBlock _).toList := fun {b} hb hm => by have := hob b (by simpa using hm); omega
          have HK := Lib.hid (HK.out.step hkR1 (fun y hy => .inr (by have := hob y (by simpa using hy); omega)))
          have HBW := Lib.hid ((hkR1.block _ (lt_of_heap HBW.out) (hne (by omega))).trans HBW.out)
          have HIW := Lib.hid (HI.out.keep HK.out (by simp))
          have HRN := Lib.hid hr1
          obtain ⟨M1, hMM1⟩ : ∃ M', M ++ [⟨(j : Int), bs1⟩] = M' := ⟨_, rfl⟩
          rw [hMM1] at hr1 ⊢
          have hMl1 : M1.length ≤ M.length + 1 := by rw [← hMM1]; simp
          have HR := Lib.hid hr1
          have HMM1 := Lib.hid hMM1
          clear hr1 hkR1 hob hne hMM1 HRN
          have HNW := Lib.hid (show newsOf C (j : Int) = ⟨j, bs1⟩ from by rw [HNO.out, HBS1.out])
          go_wp2_with (fail)
          go_roundw
          case rel => exact ⟨j + 1, by go_num, by omega, by (rw [nwP_snoc, Nat.zero_add, HNW.out, ← List.append_assoc, HM.out, HMM1.out]); exact HR.out, HK.out⟩
          case measure => go_light; simp [intOf]; omega
        · obtain rfl : nd = j := by omega
          have hjn : ¬ (nd : Int) < (nd : Int) := by omega
          go_wp2_with (fail)
          clear d0 d1 d2 d3 d4 d5 d6 d7 hjn h0j hlt
          go_loopw [8, 3] (fun i l wr => ∃ j : Nat, i = .int .i64 j ∧ (4 ≤ j ∧ j ≤ 8) ∧ PRow (w.heap.size + 1) wr l (tkP C L ++ nwP C 0 nd ++ nwP C 4 (j - 4)) ∧ Keep [] w1 wr) (fun i _ _ => 8 - (intOf i).toNat)
          case atStart => exact ⟨4, rfl, by omega, by (rw [show tkP C L ++ nwP C 0 nd ++ nwP C 4 (4 - 4) = M from by rw [← HM.out]; simp [nwP]]; exact HR.out), HK.out⟩
          case round =>
            obtain ⟨j, rfl, hj, hrow, hk0⟩ := hrel
            obtain ⟨av, cv, rfl, _⟩ := own_shape hrow
            obtain ⟨M, hM⟩ : ∃ M, tkP C L ++ nwP C 0 nd ++ nwP C 4 (j - 4) = M := ⟨_, rfl⟩
            have hMl : M.length ≤ 900 := by rw [← hM]; have := tkP_len C L; simp only [List.length_append, nwP_len]; omega
            rw [hM] at hrow ⊢
            have HM := Lib.hid hM
            have HR := Lib.hid hrow
            have HK := Lib.hid hk0
            have HBW := Lib.hid ((hk0.block _ (lt_of_heap HB.out) (by simp)).trans HB.out)
            have HIW := Lib.hid (HI.out.keep hk0 (by simp))
            have hws := hk0.size
            obtain ⟨d0, d1, d2, d3, d4, d5, d6, d7⟩ := DxFacts HBW.out
            have HJ := Lib.hid hj
            have h0j : (0 : Int) ≤ (j : Int) := Int.natCast_nonneg j
            clear hrow hk0 hM hj
            by_cases hlt : j < 8
            · have HLT := Lib.hid hlt
              have hjd : decide ((j : Int) < 8) = true := by simp; omega
              clear hlt
              go_wp2_with (fail)
              refine (rpacket_any (m := ⟨14, 0, 0, 0, ep, nd, own⟩) H14.out (a := oa) (c := oc) (fun h => by rcases h with h | h <;> cases h) HIW.out (j : Int)).mono ?_
              rintro e wP1 ⟨rfl, hkP1⟩
              have HK := Lib.hid (HK.out.trans hkP1)
              have HR := Lib.hid (PRow.keep HR.out hkP1 (by simp))
              have HBW := Lib.hid ((hkP1.block _ (lt_of_heap HBW.out) (by simp)).trans HBW.out)
              have HIW := Lib.hid (HIW.out.keep hkP1 (by simp))
              obtain ⟨bs1, hbs⟩ : ∃ bs1, frameB (Mg.enc ⟨14, 0, 0, 0, ep, nd, own⟩) = bs1 := ⟨_, rfl⟩
              rw [hbs]
              obtain ⟨wQ1, hwQ1⟩ : ∃ u, wP1.alloc (.cells #[.int .i64 8, .int .i64 (j : Int), .string ⟨bs1.toArray⟩] 94) = u := ⟨_, rfl⟩
              have kQ1 : Keep [] wP1 wQ1 := by rw [← hwQ1]; exact (Keep.refl _ _).alloc _
              have hcl : ∀ q u, (Pk.cells ⟨(j : Int), bs1⟩)[q]? = some u → wQ1.cell? ((⟨wP1.heap.size, 0, none⟩ : Addr).add q) = some u := by
                rw [← hwQ1]
                exact cells_new wP1 _ _ _ rfl
              have HCL := Lib.hid hcl
              have HBS1 := Lib.hid hbs
              have HK := Lib.hid (HK.out.trans kQ1)
              have HR := Lib.hid (PRow.keep HR.out kQ1 (by simp))
              have HBW := Lib.hid ((kQ1.block _ (lt_of_heap HBW.out) (by simp)).trans HBW.out)
              have HIW := Lib.hid (HIW.out.keep kQ1 (by simp))
              have hwsQ := HK.out.size
              clear hkP1 kQ1 hcl hbs
              go_wp2_with (at_builtin; refine wpList_append_pk rfl _ _ rfl (w.heap.size + 1) _ M rfl HR.out ⟨wP1.heap.size, 0, none⟩ 1 rfl ⟨(j : Int), bs1⟩ HCL.out (by omega) (by omega) ?_)
              intro v' wR1 hr1 hkR1
              obtain ⟨av1, cv1, rfl, _⟩ := own_shape hr1
              have hob := own_base HR.out
              have hne : ∀ {b : Nat}, b < w.heap.size + 1 → b ∉ (Value.ownBlock _).toList := fun {b} hb hm => by have := hob b (by simpa using hm); omega
              have HK := Lib.hid (HK.out.step hkR1 (fun y hy => .inr (by have := hob y (by simpa using hy); omega)))
              have HBW := Lib.hid ((hkR1.block _ (lt_of_heap HBW.out) (hne (by omega))).trans HBW.out)
              have HIW := Lib.hid (HI.out.keep HK.out (by simp))
              have HRN := Lib.hid hr1
              obtain ⟨M1, hMM1⟩ : ∃ M', M ++ [⟨(j : Int), bs1⟩] = M' := ⟨_, rfl⟩
              rw [hMM1] at hr1 ⊢
              have hMl1 : M1.length ≤ M.length + 1 := by rw [← hMM1]; simp
              have HR := Lib.hid hr1
              have HMM1 := Lib.hid hMM1
              clear hr1 hkR1 hob hne hMM1 HRN
              have HNW := Lib.hid (show newsOf C (j : Int) = ⟨j, bs1⟩ from by rw [HNO.out, HBS1.out])
              have hwj : IntKind.i64.wrap ((j : Int) + 1) = (j : Int) + 1 := by rw [IntKind.wrap_i64]; have := HLT.out; omega
              go_wp2_with (fail)
              have hlt := HLT.out
              go_roundw
              case rel => exact ⟨j + 1, by go_num, (by have := HJ.out; have := HLT.out; omega), by (rw [show j + 1 - 4 = (j - 4) + 1 by (have := HJ.out; omega), nwP_snoc, show 4 + (j - 4) = j by (have := HJ.out; omega), HNW.out, ← List.append_assoc, HM.out, HMM1.out]); exact HR.out, HK.out⟩
              case measure => go_light; simp [intOf]; omega
            · obtain rfl : j = 8 := by have := HJ.out; omega
              have HFIN := Lib.hid (show PRow w.heap.size wr (.slice av M.length cv) (tkP C L ++ nwP C 0 nd ++ nwP C 4 4) from by
                rw [HM.out]
                exact own_low HR.out (Nat.le_succ _))
              go_wp2_with (fail)
              go_ret
              exact ⟨_, rfl, HFIN.out, HK1.out.trans HK.out⟩
end Go.Proofs.YteejdfpfdnkiiaaGreat
