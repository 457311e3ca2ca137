/- The same windows?; are acts too many?; all of a list. -/
import Derived.Test.YtmhbibcfbencnaaStS
import Derived.Test.YtmhbibcfbencnaaStO
namespace Go.Proofs.Ytmhbibcfbencnaa
open Go.RowKit Go.Lib
open Go.ChangeMaps (setBlock)
open Go.Sort (HoldsK)
set_option linter.unusedSimpArgs false
set_option linter.unusedVariables false
abbrev OtsRow := RowAt OcAt 10
theorem OtsAt.row {base : Nat} {W : World} {A : Option Addr} {L : List Ot} (h : OtsAt base W A L) : OtsRow W A L := by
  intro hL
  obtain ⟨g, h1, h2, h3, h4⟩ := h hL
  refine ⟨g, 0, h1, h3, fun i x hx => ?_⟩
  obtain ⟨g', e, _, _, c0, c1, c2, c3, c4, c5, c6, c7, c8, c9⟩ := h.cells hx
  rw [h1] at e
  cases e
  rw [Nat.zero_add]
  exact ⟨c0, c1, c2, c3, c4, c5, c6, c7, c8, c9⟩
theorem OtsRow.below {W W' : World} {A : Option Addr} {L : List Ot} (h : OtsRow W A L) (hb : Below W.heap.size W W') : OtsRow W' A L :=
  RowAt.keep (X := []) (fun b o x hl hx hat => hat.keep (Keep.of_below hb []) hl (by simp)) h (Keep.of_below hb []) (fun _ _ _ _ => by simp)
theorem OtsRow.keep {X : List Nat} {W W' : World} {A : Option Addr} {L : List Ot} (h : OtsRow W A L) (hk : Keep X W W') (hx : L ≠ [] → ∀ b off, A = some ⟨b, off, none⟩ → b ∉ X) : OtsRow W' A L :=
  RowAt.keep (fun b o x hl hx hat => hat.keep hk hl hx) h hk hx
theorem take_eq {α : Type} {L M : List α} {j : Nat} {x y : α} (h : L.take j = M.take j) (hx : L[j]? = some x) (hy : M[j]? = some y) : L.take (j + 1) = M.take (j + 1) ↔ x = y := by
  rw [List.take_add_one, List.take_add_one, hx, hy, h]
  simp
set_option maxRecDepth 100000 in
set_option maxHeartbeats 4000000 in
theorem same_any {w : World} {A B : Option Addr} {L M : List Ot} (c d : Nat) (hA : OtsRow w A L) (hB : OtsRow w B M) (hL : L.length ≤ 9223372036854775807) (hM : M.length ≤ 9223372036854775807) :
    Calls Try.prog 36 #[.slice A L.length c, .slice B M.length d] w fun e w' => e = .returned (.bool (decide (L = M))) ∧ Keep [] w w' := by
  obtain ⟨r, hr⟩ : ∃ r, decide (L = M) = r := ⟨_, rfl⟩
  rw [hr]
  have HR := Lib.hid hr
  have HA := Lib.hid hA
  have HB := Lib.hid hB
  have hz1 := Int.natCast_nonneg L.length
  have hz2 := Int.natCast_nonneg M.length
  clear hr hA hB
  by_cases hlen : L.length = M.length
  · have hb : ((L.length : Int) != (M.length : Int)) = false := by rw [hlen]; simp
    have HL := Lib.hid hlen
    obtain ⟨n, hn⟩ : ∃ n, M.length = n := ⟨_, rfl⟩
    have HN0 := Lib.hid hn
    rw [hn] at hlen hb hM hz2
    rw [hlen] at hb hL hz1
    rw [hlen, hn]
    have HLn := Lib.hid hlen
    clear hlen hn
    go_enter Try.func36, Try.ntmps36
    go_wp2_with (fail)
    go_loopw [5] (fun i wr => ∃ j : Nat, i = .int .i64 j ∧ j ≤ n ∧ L.take j = M.take j ∧ Keep [] w wr) (fun i _ => n - (intOf i).toNat)
    case atStart => exact ⟨0, rfl, Nat.zero_le _, rfl, Keep.refl _ _⟩
    case round =>
      obtain ⟨j, rfl, hj, ht, hK⟩ := hrel
      by_cases hlt : j < n
      · obtain ⟨x, hx⟩ : ∃ x, L[j]? = some x := ⟨L[j]'(by rw [HLn.out]; exact hlt), List.getElem?_eq_getElem _⟩
        obtain ⟨y, hy⟩ : ∃ y, M[j]? = some y := ⟨M[j]'(by rw [HN0.out]; exact hlt), List.getElem?_eq_getElem _⟩
        obtain ⟨b, off, rfl, hbl0, hat⟩ := HA.out (by intro e; have := HLn.out; rw [e] at this; simp at this; omega)
        obtain ⟨d', off2, rfl, hdl0, hat2⟩ := HB.out (by intro e; have := HN0.out; rw [e] at this; simp at this; omega)
        have HX := Lib.hid ((hat j x hx).keep hK hbl0 (by simp))
        have HY := Lib.hid ((hat2 j y hy).keep hK hdl0 (by simp))
        have hbl : b < wr.heap.size := Nat.lt_of_lt_of_le hbl0 hK.size
        have hdl : d' < wr.heap.size := Nat.lt_of_lt_of_le hdl0 hK.size
        have hte := take_eq ht hx hy
        have hxy : x ≠ y → L ≠ M := fun h e => by rw [e, hy] at hx; cases hx; exact h rfl
        have hn := neq_ot x y
        have hg := guard_ot .neq
        have HTE := Lib.hid hte
        have HXY := Lib.hid hxy
        have HK := Lib.hid hK
        have h0j : (0 : Int) ≤ (j : Int) := Int.natCast_nonneg j
        have hjn : (j : Int) < (n : Int) := by omega
        clear hat hat2 ht hx hy hte hxy hK
        obtain ⟨xk, xs, x1, x2, x3, x4, x5, x6, x7, x8⟩ := x
        obtain ⟨yk, ys, y1, y2, y3, y4, y5, y6, y7, y8⟩ := y
        obtain ⟨q, hq⟩ : ∃ q, decide ((⟨xk, xs, ⟨x1, x2, x3, x4, x5, x6, x7, x8⟩⟩ : Ot) = ⟨yk, ys, ⟨y1, y2, y3, y4, y5, y6, y7, y8⟩⟩) = q := ⟨_, rfl⟩
        rw [hq] at hn
        simp only [Ot.val] at hn
        have HN := Lib.hid hn
        have HG := Lib.hid hg
        have HQ := Lib.hid hq
        clear hn hg hq
        cases q with
        | true =>
          simp only [Bool.not_true] at HN
          go_wp2_with (fail)
          refine wp_region_soup 9 [] (spOf []) (by kernel_rfl) (by kernel_rfl) (spOk_of (by simp)) (pre_of (by simp)) ?_
          simp only [List.take_succ_cons, List.take_zero, List.drop_succ_cons, List.drop_zero]
          iterate 9
            refine soup_q rfl rfl ?_
            apply Exists.intro
            refine ⟨fun W hk _ => ?_, ?_⟩
            · obtain ⟨c0, c1, c2, c3, c4, c5, c6, c7, c8, c9⟩ := HX.out.keep hk hbl (by simp)
              obtain ⟨d0, d1, d2, d3, d4, d5, d6, d7, d8, d9⟩ := HY.out.keep hk hdl (by simp)
              simp only at c0 c1 c2 c3 c4 c5 c6 c7 c8 c9 d0 d1 d2 d3 d4 d5 d6 d7 d8 d9
              have hn := HN.out
              have hg := HG.out
              unfold Oper.same
              go_simp
              first | rfl | exact ⟨rfl, rfl⟩
            apply Exists.intro
            refine ⟨?_, ?_⟩
            · go_simp
              rfl
          refine soup_nil (fun W2 hk hS => ?_)
          have HK2 := Lib.hid (HK.out.trans hk)
          clear hS hk HX HY
          go_wp2_with (fail)
          go_roundw
          case rel => exact ⟨j + 1, by go_num, by omega, HTE.out.2 (of_decide_eq_true HQ.out), HK2.out⟩
          case measure => simp [intOf]; omega
        | false =>
          simp only [Bool.not_false] at HN
          go_wp2_with (fail)
          refine wp_region_soup 9 [] (spOf []) (by kernel_rfl) (by kernel_rfl) (spOk_of (by simp)) (pre_of (by simp)) ?_
          simp only [List.take_succ_cons, List.take_zero, List.drop_succ_cons, List.drop_zero]
          iterate 9
            refine soup_q rfl rfl ?_
            apply Exists.intro
            refine ⟨fun W hk _ => ?_, ?_⟩
            · obtain ⟨c0, c1, c2, c3, c4, c5, c6, c7, c8, c9⟩ := HX.out.keep hk hbl (by simp)
              obtain ⟨d0, d1, d2, d3, d4, d5, d6, d7, d8, d9⟩ := HY.out.keep hk hdl (by simp)
              simp only at c0 c1 c2 c3 c4 c5 c6 c7 c8 c9 d0 d1 d2 d3 d4 d5 d6 d7 d8 d9
              have hn := HN.out
              have hg := HG.out
              unfold Oper.same
              go_simp
              first | rfl | exact ⟨rfl, rfl⟩
            apply Exists.intro
            refine ⟨?_, ?_⟩
            · go_simp
              rfl
          refine soup_nil (fun W2 hk hS => ?_)
          have HK2 := Lib.hid (HK.out.trans hk)
          clear hS hk HX HY
          go_wp2_with (fail)
          go_ret
          exact ⟨by rw [← HR.out, decide_eq_false (HXY.out (of_decide_eq_false HQ.out))]; rfl, HK2.out⟩
      · obtain rfl : j = n := by omega
        rw [List.take_of_length_le (by rw [HLn.out]; exact Nat.le_refl _), List.take_of_length_le (by rw [HN0.out]; exact Nat.le_refl _)] at ht
        have HT := Lib.hid ht
        have HK := Lib.hid hK
        clear ht hK
        go_wp2_with (fail)
        go_ret
        exact ⟨by rw [← HR.out, decide_eq_true HT.out]; rfl, HK.out⟩
  · have hb : ((L.length : Int) != (M.length : Int)) = true := by simp; omega
    have HL := Lib.hid hlen
    clear hlen
    go_enter Try.func36, Try.ntmps36
    go_wp2_with (fail)
    go_ret
    exact ⟨by rw [← HR.out, decide_eq_false (fun e => HL.out (by rw [e]))]; rfl, Keep.refl _ _⟩
end Go.Proofs.Ytmhbibcfbencnaa
