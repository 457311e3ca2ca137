/- Are acts too many?; all of a list; acts done to a store. -/
import Derived.Test.YtmhbibcfbencnaaStT
namespace Go.Proofs.Ytmhbibcfbencnaa
open Go.RowKit Go.Lib
open Go.ChangeMaps (setBlock)
set_option linter.unusedSimpArgs false
set_option linter.unusedVariables false
abbrev A9Row := RowAt A9At 14
theorem A9Row.keep {X : List Nat} {W W' : World} {A : Option Addr} {L : List A9} (h : A9Row W A L) (hk : Keep X W W') (hx : L ≠ [] → ∀ b off, A = some ⟨b, off, none⟩ → b ∉ X) : A9Row W' A L :=
  RowAt.keep (fun b o x hl hx hat => hat.keep hk hl hx) h hk hx
theorem A9Row.below {W W' : World} {A : Option Addr} {L : List A9} (h : A9Row W A L) (hb : Below W.heap.size W W') : A9Row W' A L := h.keep (Keep.of_below hb []) (fun _ _ _ _ => by simp)
abbrev IntsRow := RowAt IntAt 1
theorem IntsRow.keep {X : List Nat} {W W' : World} {A : Option Addr} {L : List Int} (h : IntsRow W A L) (hk : Keep X W W') (hx : L ≠ [] → ∀ b off, A = some ⟨b, off, none⟩ → b ∉ X) : IntsRow W' A L :=
  RowAt.keep (fun b o x hl hx hat => hat.keep hk hl hx) h hk hx
def Fine9 (L : List A9) : Prop := L.length ≤ 200 ∧ ∀ x ∈ L, x.key.size ≤ 100 ∧ x.out.key.size ≤ 100
def GreatP {α : Type} (Fine : List α → Prop) (L : List α) (w : World) (e : Ending) (w' : World) : Prop := ∃ g, e = .returned (.bool g) ∧ (g = false → Fine L) ∧ w = w'
set_option maxHeartbeats 2000000 in
theorem great9_any {w : World} {A : Option Addr} {L : List A9} (c : Nat) (hA : A9Row w A L) (hL : L.length ≤ 9223372036854775807) (hw : ∀ y ∈ L, A9.Wf y) :
    Calls Try.prog 16 #[.slice A L.length c] w (GreatP Fine9 L w) := by
  have hz := Int.natCast_nonneg L.length
  have HA := Lib.hid hA
  have HW := Lib.hid hw
  clear hA hw
  by_cases h200 : 200 < L.length
  · go_enter Try.func16, Try.ntmps16
    go_wp2_with (fail)
    go_ret
    exact ⟨true, rfl, fun h => (by cases h), rfl⟩
  · go_enter Try.func16, Try.ntmps16
    go_wp2_with (fail)
    go_loop [3] (fun i => ∃ j : Nat, i = .int .i64 j ∧ j ≤ L.length ∧ ∀ x ∈ L.take j, x.key.size ≤ 100 ∧ x.out.key.size ≤ 100) (fun i => L.length - (intOf i).toNat)
    case atStart => exact ⟨0, rfl, Nat.zero_le _, by simp⟩
    case round =>
      obtain ⟨j, rfl, hj, hf⟩ := hrel
      have HF := Lib.hid hf
      clear hf
      by_cases hlt : j < L.length
      · obtain ⟨x, hx⟩ : ∃ x, L[j]? = some x := ⟨L[j], List.getElem?_eq_getElem hlt⟩
        obtain ⟨b, off, rfl, hbl, hat⟩ := HA.out (by intro e; rw [e] at hlt; simp at hlt)
        have hx0 := hat j x hx
        have ht : L.take (j + 1) = L.take j ++ [x] := by rw [List.take_add_one, hx]; rfl
        have HT := Lib.hid ht
        have hxw := HW.out x (List.mem_of_getElem? hx)
        have k1 := hxw.key
        have k2 := hxw.out.key
        unfold maxLen at k1 k2
        have c1 := hx0.c1
        have c4 := hx0.out.c0
        obtain ⟨dd, k, t, n, ok, os, oa⟩ := x
        simp only at c1 c4 k1 k2
        have z1 := Int.natCast_nonneg k.size
        have z2 := Int.natCast_nonneg ok.size
        clear hat hx hx0 ht hxw
        by_cases g1 : 100 < k.size
        · go_wp2_with (fail)
          go_ret
          exact ⟨true, rfl, fun h => (by cases h), rfl⟩
        · by_cases g2 : 100 < ok.size
          · go_wp2_with (fail)
            go_ret
            exact ⟨true, rfl, fun h => (by cases h), rfl⟩
          · go_wp2_with (fail)
            go_round
            case rel =>
              refine ⟨j + 1, by go_num, by omega, fun y hy => ?_⟩
              rw [HT.out] at hy
              rcases List.mem_append.1 hy with hy | hy
              · exact HF.out y hy
              · simp at hy; subst hy; exact ⟨by simp only; omega, by simp only; omega⟩
            case measure => simp [intOf]; omega
      · obtain rfl : j = L.length := by omega
        go_wp2_with (fail)
        go_ret
        refine ⟨false, rfl, fun _ => ⟨by omega, ?_⟩, rfl⟩
        have := HF.out
        rwa [List.take_length] at this
/-- All of a list. -/
def ofL (l : List Int) : Ag := l.foldl Ag.put Ag.zero
theorem ofL_snoc (l : List Int) (v : Int) : ofL (l ++ [v]) = (ofL l).put v := by unfold ofL; rw [List.foldl_append]; rfl
set_option maxRecDepth 100000 in
set_option maxHeartbeats 2000000 in
theorem aof_any {w : World} {A : Option Addr} {L : List Int} (c : Nat) (hA : IntsRow w A L) (hL : L.length ≤ 9223372036854775807) :
    Calls Try.prog 24 #[.slice A L.length c] w fun e w' => e = .returned (ofL L).val ∧ Below w.heap.size w w' := by
  have hz := Int.natCast_nonneg L.length
  have HA := Lib.hid hA
  clear hA
  obtain ⟨r, hr⟩ : ∃ r, ofL L = r := ⟨_, rfl⟩
  rw [hr]
  have HR := Lib.hid hr
  clear hr
  obtain ⟨W1, hW1⟩ : ∃ W1, (w.alloc (agObj 0 0 0 0 0 0 0 0)).alloc (agObj 0 0 0 0 0 0 0 0) = W1 := ⟨_, rfl⟩
  have hr0 : Bx W1 w.heap.size 0 0 0 0 0 0 0 0 := hW1 ▸ (Bx.new w 0 0 0 0 0 0 0 0).keep ((Keep.refl [] _).alloc _)
  have hr1 : Bx W1 (w.heap.size + 1) 0 0 0 0 0 0 0 0 := by
    have := Bx.new (w.alloc (agObj 0 0 0 0 0 0 0 0)) 0 0 0 0 0 0 0 0
    rw [World.size_alloc] at this
    exact hW1 ▸ this
  have hB : Below w.heap.size w W1 := hW1 ▸ ((Below.refl _ w).alloc (Nat.le_refl _) _).alloc (by simp) _
  go_enter Try.func24, Try.ntmps24
  go_wp2_with (fail)
  clear hW1
  go_loopw [8] (fun i wr => ∃ (j : Nat) (a : Ag), i = .int .i64 j ∧ j ≤ L.length ∧ ofL (L.take j) = a ∧ Bx wr w.heap.size 0 0 0 0 0 0 0 0 ∧ Bx wr (w.heap.size + 1) a.c a.s a.lo a.hi a.b0 a.b1 a.b2 a.b3 ∧ Below w.heap.size w wr) (fun i _ => L.length - (intOf i).toNat)
  case atStart => exact ⟨0, Ag.zero, rfl, Nat.zero_le _, rfl, hr0, hr1, hB⟩
  case round =>
    clear hr0 hr1 hB
    obtain ⟨j, a, rfl, hj, ha, hr0, hr1, hB⟩ := hrel
    obtain ⟨p0, p1, p2, p3, p4, p5, p6, p7, p8, pf⟩ := hr1.facts
    have HR0 := Lib.hid hr0
    have HR1 := Lib.hid hr1
    have HB := Lib.hid hB
    have hwl := hB.size
    by_cases hlt : j < L.length
    · obtain ⟨v, hv⟩ : ∃ v, L[j]? = some v := ⟨L[j], List.getElem?_eq_getElem hlt⟩
      obtain ⟨b, off, rfl, hbl, hat⟩ := HA.out (by intro e; rw [e] at hlt; simp at hlt)
      have c0 : wr.cell? ⟨b, off + j * 1, none⟩ = some (.int .i64 v) := (hB.cell (p := ⟨b, _, none⟩) hbl).trans (hat j v hv)
      rw [Nat.mul_one] at c0
      have ht : ofL (L.take (j + 1)) = a.put v := by rw [← ha, ← ofL_snoc, List.take_add_one, hv]; rfl
      have HT := Lib.hid ht
      have hap := fun w => aput_any a v w
      obtain ⟨⟨r1, r2, r3, r4, r5, r6, r7, r8⟩, hq⟩ : ∃ q, a.put v = q := ⟨_, rfl⟩
      rw [hq] at hap HT
      have HAP := Lib.hid hap
      clear hat hv ht hap hq ha hr0 hr1 hB
      obtain ⟨a1, a2, a3, a4, a5, a6, a7, a8⟩ := a
      simp only [Ag.val] at p0 p1 p2 p3 p4 p5 p6 p7 HAP
      go_wp2_with (fail)
      refine (HAP.out _).mono ?_
      rintro e w2 ⟨rfl, hB2⟩
      clear p0 p1 p2 p3 p4 p5 p6 p7 p8 pf c0
      have HR02 := Lib.hid (HR0.out.below hB2)
      have HR12 := Lib.hid (HR1.out.below hB2)
      have HB2 := Lib.hid (HB.out.trans (hB2.mono HB.out.size))
      clear hB2 HR0 HR1 HB
      obtain ⟨p0, p1, p2, p3, p4, p5, p6, p7, p8, pf⟩ := HR12.out.facts
      go_wp2_with (fail)
      have hk2 := setAg_keep w2 (w.heap.size + 1) ⟨r1, r2, r3, r4, r5, r6, r7, r8⟩
      have hb2 := setAg_bx HR12.out ⟨r1, r2, r3, r4, r5, r6, r7, r8⟩
      have HK2 := Lib.hid hk2
      have HBB := Lib.hid hb2
      clear hk2 hb2 p0 p1 p2 p3 p4 p5 p6 p7 p8 pf
      go_roundw
      case rel => exact ⟨j + 1, ⟨r1, r2, r3, r4, r5, r6, r7, r8⟩, by go_num, by omega, HT.out, HR02.out.keep HK2.out (by simp), HBB.out, HB2.out.trans (HK2.out.below HB2.out.size (by simp))⟩
      case measure => simp [intOf]; omega
    · obtain rfl : j = L.length := by omega
      rw [List.take_length] at ha
      have HA2 := Lib.hid ha
      obtain ⟨q0, q1, q2, q3, q4, q5, q6, q7, q8, qf⟩ := hr0.facts
      clear ha hr0 hr1 hB
      obtain ⟨a1, a2, a3, a4, a5, a6, a7, a8⟩ := a
      simp only at p0 p1 p2 p3 p4 p5 p6 p7
      go_wp2_with (fail)
      clear p0 p1 p2 p3 p4 p5 p6 p7 p8 pf q0 q1 q2 q3 q4 q5 q6 q7 q8 qf
      obtain rfl : r = ⟨a1, a2, a3, a4, a5, a6, a7, a8⟩ := HR.out.symm.trans HA2.out
      exact ret_ag ⟨a1, a2, a3, a4, a5, a6, a7, a8⟩ HR0.out HB.out (Nat.le_refl _) (fun W h => by obtain ⟨z0, z1, z2, z3, z4, z5, z6, z7, z8, zf⟩ := h.facts; simp [results, Try.results24, go_sem, z0, z1, z2, z3, z4, z5, z6, z7, z8, Ag.val])
/-- What an act does to a store. -/
def act9 (L : List Ot) (x : A9) : List Ot :=
  if x.dd = 0 then (putL L x.key x.t x.n).2 else if x.dd = 1 then (setL L x.out).2 else if x.dd = 2 then restL x.t L else L
def playL (L : List Ot) (l : List A9) : List Ot := l.foldl act9 L
theorem set_len (L : List Ot) (o : Ot) (h : L.length ≤ 32) (hu : L.Pairwise ltO) : (setL L o).2.length ≤ 32 := by
  unfold setL
  split
  · exact h
  · split
    · exact h
    · rename_i hn
      split
      · exact h
      · have hl : lkL (wdOf o) L = none := by cases hl : lkL (wdOf o) L with | none => rfl | some a => rw [hl] at hn; exact absurd rfl hn
        have := (insL_perm_new hu hl).length_eq
        simp only
        rw [this]; simp; omega
theorem rest_len (t : Int) (L : List Ot) : (restL t L).length ≤ L.length := List.length_filter_le _ _
theorem putL_up {L : List Ot} (k : ByteArray) (t v : Int) (hu : L.Pairwise ltO) : (putL L k t v).2.Pairwise ltO := by
  unfold putL
  split
  · exact hu
  · split
    · exact hu
    · exact insL_up hu
theorem setL_up {L : List Ot} (o : Ot) (hu : L.Pairwise ltO) : (setL L o).2.Pairwise ltO := by
  unfold setL
  split
  · exact hu
  · split
    · exact hu
    · split
      · exact hu
      · exact insL_up hu
theorem restL_up {L : List Ot} (t : Int) (hu : L.Pairwise ltO) : (restL t L).Pairwise ltO := hu.sublist List.filter_sublist
theorem act9_ok {L : List Ot} (x : A9) (h : L.length ≤ 32) (hu : L.Pairwise ltO) : (act9 L x).length ≤ 32 ∧ (act9 L x).Pairwise ltO := by
  unfold act9
  split
  · exact ⟨put_len L _ _ _ h hu, putL_up _ _ _ hu⟩
  · split
    · exact ⟨set_len L _ h hu, setL_up _ hu⟩
    · split
      · exact ⟨Nat.le_trans (rest_len _ L) h, restL_up _ hu⟩
      · exact ⟨h, hu⟩
theorem playL_ok {L : List Ot} (l : List A9) (h : L.length ≤ 32) (hu : L.Pairwise ltO) : (playL L l).length ≤ 32 ∧ (playL L l).Pairwise ltO := by
  induction l generalizing L with
  | nil => exact ⟨h, hu⟩
  | cons x r ih => exact ih (act9_ok x h hu).1 (act9_ok x h hu).2
theorem playL_snoc (L : List Ot) (l : List A9) (x : A9) : playL L (l ++ [x]) = act9 (playL L l) x := by unfold playL; rw [List.foldl_append]; rfl
set_option maxRecDepth 100000 in
set_option maxHeartbeats 4000000 in
theorem plays9_any {w : World} {p b : Nat} {A : Option Addr} {L : List Ot} {l : List A9} (c : Nat) (hS : SrAt w p b L) (hL : L.length ≤ 32) (hA : A9Row w A l) (hw : ∀ y ∈ l, A9.Wf y) (hl : l.length ≤ 9223372036854775807) (hab : l ≠ [] → ∀ q off, A = some ⟨q, off, none⟩ → q ≠ b) :
    Calls Try.prog 45 #[.pointer (some ⟨p, 0, none⟩), .slice A l.length c] w fun e w' => e = .returned (.tuple #[]) ∧ SrAt w' p b (playL L l) ∧ Keep [b] w w' := by
  obtain ⟨R, hR⟩ : ∃ R, playL L l = R := ⟨_, rfl⟩
  rw [hR]
  have HR := Lib.hid hR
  have hz := Int.natCast_nonneg l.length
  have HA := Lib.hid hA
  have HW := Lib.hid hw
  have HU := Lib.hid hS.up
  have HAB := Lib.hid hab
  clear hA hw hR hab
  go_enter Try.func45, Try.ntmps45
  go_wp2_with (fail)
  go_loopw [4] (fun i wr => ∃ (j : Nat) (M : List Ot), i = .int .i64 j ∧ j ≤ l.length ∧ playL L (l.take j) = M ∧ SrAt wr p b M ∧ Keep [b] w wr) (fun i _ => l.length - (intOf i).toNat)
  case atStart => exact ⟨0, L, rfl, Nat.zero_le _, rfl, hS, Keep.refl _ _⟩
  case round =>
    clear hS
    obtain ⟨j, M, rfl, hj, hM, hS, hK⟩ := hrel
    by_cases hlt : j < l.length
    · obtain ⟨x, hx⟩ : ∃ x, l[j]? = some x := ⟨l[j], List.getElem?_eq_getElem hlt⟩
      obtain ⟨q, off, rfl, hbl0, hat⟩ := HA.out (by intro e; rw [e] at hlt; simp at hlt)
      have hqb := HAB.out (by intro e; rw [e] at hlt; simp at hlt) q off rfl
      have hx0 := (hat j x hx).keep hK hbl0 (by simpa using hqb)
      have hbl : q < wr.heap.size := Nat.lt_of_lt_of_le hbl0 hK.size
      have hxw := HW.out x (List.mem_of_getElem? hx)
      have ht : playL L (l.take (j + 1)) = act9 M x := by rw [← hM, ← playL_snoc, List.take_add_one, hx]; rfl
      have hM32 : M.length ≤ 32 := hM ▸ (playL_ok _ hL HU.out).1
      have HT := Lib.hid ht
      have HX := Lib.hid hx0
      have HXW := Lib.hid hxw
      have HS := Lib.hid hS
      have HK := Lib.hid hK
      have h0j : (0 : Int) ≤ (j : Int) := Int.natCast_nonneg j
      have hjn : (j : Int) < (l.length : Int) := by omega
      have hsl := hS.lt
      obtain ⟨c0, c1, c2, c3, c4⟩ := hx0
      obtain ⟨d0, d1, d2, d3, d4, d5, d6, d7, d8, d9⟩ := c4
      clear hat hx ht hS hK hM hxw
      obtain ⟨dd, k, t, n, ok, os, x1, x2, x3, x4, x5, x6, x7, x8⟩ := x
      simp only at c0 c1 c2 c3 d0 d1 d2 d3 d4 d5 d6 d7 d8 d9 HX
      by_cases g0 : dd = 0
      · subst g0
        clear c1 c2 c3 d0 d1 d2 d3 d4 d5 d6 d7 d8 d9
        go_wp2_with (fail)
        refine wp_region_soup 16 [] (spOf []) (by kernel_rfl) (by kernel_rfl) (spOk_of (by simp)) (pre_of (by simp)) ?_
        simp only [List.take_succ_cons, List.take_zero, List.drop_succ_cons, List.drop_zero]
        iterate 16
          refine soup_q rfl rfl ?_
          apply Exists.intro
          refine ⟨fun W hk _ => ?_, ?_⟩
          · obtain ⟨c0, c1, c2, c3, _⟩ := HX.out.keep hk hbl (by simp)
            simp only at c0 c1 c2 c3
            unfold Oper.same
            go_simp
            first | rfl | exact ⟨rfl, rfl⟩
          apply Exists.intro
          refine ⟨?_, ?_⟩
          · go_simp
            rfl
        refine soup_nil (fun W2 hk hS => ?_)
        have HS2 := Lib.hid (HS.out.keep hk (by simp) (by simp))
        have HK2 := Lib.hid (HK.out.trans (hk.mono (by simp)))
        clear hS hk c0
        refine BigFrame.wpList_want rfl (fun K hK => ?_)
        go_simp
        refine (rput_any HS2.out (by omega) k HXW.out.key t n).mono ?_
        rintro e w4 ⟨rfl, hS4, hK4⟩
        refine hK _ _ ?_
        clear hK K
        have HS4 := Lib.hid hS4
        have HK4 := Lib.hid (HK2.out.trans hK4)
        clear hS4 hK4
        go_wp2_with (fail)
        go_roundw
        case rel => exact ⟨j + 1, _, by go_num, by omega, by rw [HT.out]; simp [act9], HS4.out, HK4.out⟩
        case measure => simp [intOf]; omega
      by_cases g1 : dd = 1
      · subst g1
        go_wp2_with (fail)
        refine (rset_any HS.out (by omega) ⟨ok, os, ⟨x1, x2, x3, x4, x5, x6, x7, x8⟩⟩ HXW.out.out.key).mono ?_
        rintro e w4 ⟨rfl, hS4, hK4⟩
        have HS4 := Lib.hid hS4
        have HK4 := Lib.hid (HK.out.trans hK4)
        clear hS4 hK4 c0 c1 c2 c3 d0 d1 d2 d3 d4 d5 d6 d7 d8 d9
        go_wp2_with (fail)
        go_roundw
        case rel => exact ⟨j + 1, _, by go_num, by omega, by rw [HT.out]; simp [act9], HS4.out, HK4.out⟩
        case measure => simp [intOf]; omega
      by_cases g2 : dd = 2
      · subst g2
        go_wp2_with (fail)
        refine (rtake_any HS.out (by omega) t).mono ?_
        rintro e w4 ⟨A2, c2', rfl, hE, hS4, hK4⟩
        have HS4 := Lib.hid hS4
        have HK4 := Lib.hid (HK.out.trans hK4)
        clear hS4 hK4 hE c0 c1 c2 c3 d0 d1 d2 d3 d4 d5 d6 d7 d8 d9
        go_wp2_with (fail)
        go_roundw
        case rel => exact ⟨j + 1, _, by go_num, by omega, by rw [HT.out]; simp [act9], HS4.out, HK4.out⟩
        case measure => simp [intOf]; omega
      have e0 : (dd == 0) = false := by simp [g0]
      have e1 : (dd == 1) = false := by simp [g1]
      have e2 : (dd == 2) = false := by simp [g2]
      have HT2 : Hid (playL L (l.take (j + 1)) = M) := Lib.hid (by rw [HT.out]; simp [act9, g0, g1, g2])
      clear c1 c2 c3 d0 d1 d2 d3 d4 d5 d6 d7 d8 d9 g0 g1 g2
      go_wp2_with (fail)
      go_roundw
      case rel => exact ⟨j + 1, _, by go_num, by omega, HT2.out, HS.out, HK.out⟩
      case measure => simp [intOf]; omega
    · obtain rfl : j = l.length := by omega
      rw [List.take_length] at hM
      have HM := Lib.hid hM
      have HS := Lib.hid hS
      have HK := Lib.hid hK
      clear hM hS hK
      go_wp2_with (fail)
      go_end0
      exact ⟨rfl, by rw [← HR.out, HM.out]; exact HS.out, HK.out⟩
end Go.Proofs.Ytmhbibcfbencnaa
