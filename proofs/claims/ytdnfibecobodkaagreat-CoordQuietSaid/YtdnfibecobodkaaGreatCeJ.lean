/- CoordQuiet. -/
import Derived.Test.YtdnfibecobodkaaGreatCeK
import Derived.Test.YtdnfibecobodkaaGreatCdB
namespace Go.Proofs.YtdnfibecobodkaaGreat
open Go.RowKit Go.Lib
set_option linter.unusedSimpArgs false
set_option linter.unusedVariables false
set_option maxRecDepth 100000 in
set_option maxHeartbeats 16000000 in
theorem law_CoordQuiet (a0 : Int) (w0 : (Lit.int .u8 a0).wf = true) (a1 : Int) (w1 : (Lit.int .u8 a1).wf = true) (b2 : Option Addr) (l2 : List Ac) (e2 : Nat) (W : World) (hA : RowAt AcAt 28 W b2 l2) (hok : ∀ y ∈ l2, y.Ok) : Calls Tryz.prog 4 #[.int .u8 a0, .int .u8 a1, .slice b2 l2.length e2] W fun e w' => e = .returned (.bool true) ∧ Below W.heap.size W w' := by
  obtain ⟨n0, rfl, hn0⟩ : ∃ n : Nat, a0 = n ∧ n < 256 := by
    simp [Lit.wf, IntKind.min, IntKind.max, IntKind.signed, IntKind.bits] at w0
    exact ⟨a0.toNat, by omega, by omega⟩
  obtain ⟨n1, rfl, hn1⟩ : ∃ n : Nat, a1 = n ∧ n < 256 := by
    simp [Lit.wf, IntKind.min, IntKind.max, IntKind.signed, IntKind.bits] at w1
    exact ⟨a1.toNat, by omega, by omega⟩
  clear w0 w1
  have HA := Lib.hid hA
  have HO := Lib.hid hok
  clear hA hok
  go_enter Tryz.func4, Tryz.ntmps4
  go_wp2_with (fail)
  refine (awake_any _).mono ?_
  rintro e W2 ⟨rfl, hB⟩
  have hk2 : Keep [] W W2 := Keep.of_below hB []
  have HA := Lib.hid (RowAt.keep (fun _ _ _ h1 h2 h3 => h3.keep hk2 h1 h2) HA.out hk2 (by simp))
  have HK := Lib.hid hk2
  clear hB hk2
  go_wp2_with (fail)
  refine (great_any e2 HA.out HO.out).mono ?_
  rintro e W3 ⟨b, rfl, hb, hk3⟩
  have HA := Lib.hid (RowAt.keep (fun _ _ _ h1 h2 h3 => h3.keep hk3 h1 h2) HA.out hk3 (by simp))
  have HK := Lib.hid (HK.out.trans hk3)
  clear hk3
  cases b with
  | true =>
    clear hb
    go_wp2_with (fail)
    go_ret
    exact ⟨rfl, HK.out.below (Nat.le_refl _) (by simp)⟩
  | false =>
    have H200 := Lib.hid (hb rfl)
    clear hb
    obtain ⟨n, hn⟩ : ∃ n, 1 + n0 % 4 = n := ⟨_, rfl⟩
    obtain ⟨s, hs⟩ : ∃ s, 1 + n1 % 8 = s := ⟨_, rfl⟩
    have HNB := Lib.hid (show (1 ≤ n ∧ n ≤ 4) ∧ 1 ≤ s ∧ s ≤ 8 from by omega)
    have HE0 := Lib.hid (show 1 + (n0 : Int) % 4 = (n : Int) from by omega)
    have HE1 := Lib.hid (show 1 + (n1 : Int) % 8 = (s : Int) from by omega)
    clear hn hs
    go_wp2_with (fail)
    rw [HE0.out, HE1.out]
    refine (tnew_any W3 HNB.out.1.1 HNB.out.1.2 HNB.out.2.1 HNB.out.2.2).mono ?_
    rintro e W6 ⟨at', ct, rfl, hrt, hk6⟩
    have HA := Lib.hid (RowAt.keep (fun _ _ _ h1 h2 h3 => h3.keep hk6 h1 h2) HA.out hk6 (by simp))
    have HK := Lib.hid (HK.out.trans hk6)
    have HRT := Lib.hid hrt
    clear hk6 hrt
    go_wp2_with (fail)
    obtain ⟨W7, hW7⟩ : ∃ u, W6.alloc (.cells #[.int .i64 1, .int .i64 n, .slice at' s ct] 28) = u := ⟨_, rfl⟩
    have hk7 : Keep [] W6 W7 := by rw [← hW7]; exact (Keep.refl _ _).alloc _
    have HB7 := Lib.hid (show W7.heap[W6.heap.size]? = some (.cells #[.int .i64 1, .int .i64 n, .slice at' s ct] 28 (0, 0)) from by rw [← hW7]; exact World.alloc_heap_new W6 _)
    rw [hW7]
    have HIN := Lib.hid (show IntsAt W7 at' (tnL n s) from IRow.at (base := W3.heap.size) (c := ct) (by rw [tnL_len]; exact HRT.out.keep hk7 (by simp)))
    have HTR := Lib.hid (tn_right HNB.out.1.1 HNB.out.1.2 HNB.out.2.1 HNB.out.2.2 at' ct)
    have HA := Lib.hid (RowAt.keep (fun _ _ _ h1 h2 h3 => h3.keep hk7 h1 h2) HA.out hk7 (by simp))
    have HK := Lib.hid (HK.out.trans hk7)
    have HW7 := Lib.hid HK.out.size
    have HA7 := Lib.hid HA.out
    have HBL7 := Lib.hid (show l2 ≠ [] → ∀ b off, b2 = some ⟨b, off, none⟩ → b < W7.heap.size from fun hne b off e => by
      obtain ⟨b', off', e', h1, _⟩ := HA7.out hne
      rw [e] at e'
      cases e'
      exact h1)
    clear hk7 hW7 HRT HA7
    have hnew := newL (w := W7) ⟨1, n, at', ct, tnL n s⟩ HIN.out HTR.out
    unfold Tb.val at hnew
    simp only [tnL_len] at hnew
    refine hnew.mono ?_
    rintro e W8 ⟨p, rfl, ⟨F0, hc0, hF0, _⟩, hk8⟩
    have hc0' : CoS W8 p F0 (cd0 n s) := hc0
    have HC := Lib.hid hc0'
    have HF := Lib.hid (show ∀ x ∈ F0, W7.heap.size ≤ x from fun x hx => (hF0 x hx).1)
    have HK7 := Lib.hid hk8
    have HA := Lib.hid (RowAt.keep (fun _ _ _ h1 h2 h3 => h3.keep hk8 h1 h2) HA.out hk8 (by simp))
    have HK := Lib.hid (HK.out.trans hk8)
    have HIN := Lib.hid (HIN.out.keep hk8 (by simp))
    obtain ⟨c0, c1, c2, c3⟩ := TbFacts ((hk8.block _ (lt_of_heap HB7.out) (by simp)).trans HB7.out)
    clear hnew hc0 hc0' hF0 hk8
    go_wp2_with (fail)
    clear c0 c1 c2 c3
    have hnew := newL (w := W8) ⟨1, n, at', ct, tnL n s⟩ HIN.out HTR.out
    unfold Tb.val at hnew
    simp only [tnL_len] at hnew
    refine hnew.mono ?_
    rintro e W9 ⟨q, rfl, ⟨G0, hd0, hG0, _⟩, hk9⟩
    have hd0' : CoS W9 q G0 (cd0 n s) := hd0
    have HD := Lib.hid hd0'
    have HG := Lib.hid (show ∀ x ∈ G0, W7.heap.size ≤ x from fun x hx => Nat.le_trans HK7.out.size (hG0 x hx).1)
    have HFG := Lib.hid (show ∀ x ∈ F0, x ∉ G0 from fun x hx hg => by
      have h1 := HC.out.lt x hx
      have h2 := (hG0 x hg).1
      omega)
    have HC := Lib.hid (HC.out.kept hk9)
    have HK7 := Lib.hid (HK7.out.trans hk9)
    have HA := Lib.hid (RowAt.keep (fun _ _ _ h1 h2 h3 => h3.keep hk9 h1 h2) HA.out hk9 (by simp))
    have HK := Lib.hid (HK.out.trans hk9)
    clear hnew hd0 hd0' hG0 hk9 HIN HTR HB7
    go_wp2_with (fail)
    go_loopw [13] (fun i wr => ∃ (j : Nat) (F G : List Nat), i = .int .i64 j ∧ j ≤ l2.length ∧ CoS wr p F (runC (cd0 n s) (l2.take j)) ∧ CoS wr q G (runC (cd0 n s) (l2.take j)) ∧ (∀ x ∈ F, W7.heap.size ≤ x) ∧ (∀ x ∈ G, W7.heap.size ≤ x) ∧ (∀ x ∈ F, x ∉ G) ∧ Keep [] W7 wr ∧ Keep [] W wr ∧ RowAt AcAt 28 wr b2 l2) (fun i _ => l2.length - (intOf i).toNat)
    case atStart => exact ⟨0, F0, G0, rfl, Nat.zero_le _, HC.out, HD.out, HF.out, HG.out, HFG.out, HK7.out, HK.out, HA.out⟩
    case round =>
      obtain ⟨j, F, G, rfl, hj, hc, hd, hF, hG, hFG, hk7, hkw, hA⟩ := hrel
      obtain ⟨Wr, hWr⟩ : ∃ u, u = wr := ⟨_, rfl⟩
      subst hWr
      have h0j : (0 : Int) ≤ (j : Int) := Int.natCast_nonneg j
      have hinv : CdInv n s 200 (runC (cd0 n s) (l2.take j)) := inv_take HNB.out.1.1 H200.out j
      clear HC HD HF HG HFG HK7 HK HA
      have HC := Lib.hid hc
      have HD := Lib.hid hd
      have HF := Lib.hid hF
      have HG := Lib.hid hG
      have HFG := Lib.hid hFG
      have HK7 := Lib.hid hk7
      have HKW := Lib.hid hkw
      have HA := Lib.hid hA
      have HI := Lib.hid hinv
      clear hc hd hF hG hFG hk7 hkw hA hinv
      have h200 : l2.length ≤ 200 := H200.out
      by_cases hlt : j < l2.length
      · have hjn : (j : Int) < (l2.length : Int) := by omega
        have hne : l2 ≠ [] := by intro e; rw [e] at hlt; simp at hlt
        have HFL := Lib.hid (fun b off (e : b2 = some ⟨b, off, none⟩) => HBL7.out hne b off e)
        obtain ⟨x, hxl⟩ : ∃ x, l2[j]? = some x := ⟨l2[j], List.getElem?_eq_getElem hlt⟩
        have HXL := Lib.hid hxl
        have hxo := HO.out x (List.mem_of_getElem? hxl)
        have htk : runC (cd0 n s) (l2.take (j + 1)) = (oneF (runC (cd0 n s) (l2.take j)) x).2 := by
          rw [List.take_add_one, hxl]
          exact runC_snoc _ _ _
        obtain ⟨C, hC⟩ : ∃ C, runC (cd0 n s) (l2.take j) = C := ⟨_, rfl⟩
        rw [hC] at htk HC HD HI
        have HTK := Lib.hid htk
        have HSA := Lib.hid (szAct (Ac.len hxo))
        have HXO := Lib.hid hxo
        have HNE := Lib.hid hne
        have HFI := Lib.hid (HI.out.toFine (by omega) HNB.out.1.2 HNB.out.2.2)
        have HME := Lib.hid (HI.out.toMem (by omega))
        clear hxl hxo htk hC hne
        go_wp2_with (fail)
        refine (tickS HC.out HFI.out HME.out).mono ?_
        rintro e w1 ⟨v1, rfl, hp1, hk1⟩
        obtain ⟨a1, d1, m1, rfl, hm1, hlo⟩ := loose_row Pk.len hp1
        have hm1' : m1 ≤ 1000 := by rw [hm1]; exact tick_len HFI.out
        have HKK := Lib.hid hk1
        have HLO := Lib.hid hlo
        clear hp1 hk1 hlo hm1
        go_wp2_with (fail)
        go_loopw [15] (fun i wr => ∃ k : Nat, i = .int .i64 k ∧ k ≤ m1 ∧ Keep [] Wr wr ∧ LooseRow Wr.heap.size wr a1 m1 3) (fun i _ => m1 - (intOf i).toNat)
        case atStart => exact ⟨0, rfl, Nat.zero_le _, HKK.out, HLO.out⟩
        case round =>
          obtain ⟨k, rfl, hk, hkk, hlo⟩ := hrel
          have h0k : (0 : Int) ≤ (k : Int) := Int.natCast_nonneg k
          clear HKK HLO
          have HKK := Lib.hid hkk
          clear hkk
          by_cases hlk : k < m1
          · have hkn : (k : Int) < (m1 : Int) := by omega
            obtain ⟨g, rfl, hg0, hg1, hL⟩ := hlo.pos (by omega)
            obtain ⟨u, hu⟩ := hL.cell (k * 3 + 1) (by omega)
            have hfz := hL.free (k * 3 + 1)
            have HL := Lib.hid hL
            clear hL hlo
            go_wp2_with (fail)
            go_roundw
            case rel => exact ⟨k + 1, by go_num, by omega, HKK.out.setCell _ _ _ (.inr hg0), .inr ⟨g, rfl, hg0, by simpa [World.setCell] using hg1, HL.out.set _ _⟩⟩
            case measure => go_light; simp [intOf]; omega
          · have hkn : ¬ (k : Int) < (m1 : Int) := by omega
            have HLO := Lib.hid hlo
            clear hlo
            go_wp2_with (fail)
            obtain ⟨w2, hw2⟩ : ∃ u, u = wr := ⟨_, rfl⟩
            subst hw2
            clear HLO
            go_wp2_with (fail)
            refine (movesS (HC.out.kept HKK.out) HFI.out HME.out).mono ?_
            rintro e w3 ⟨v3, rfl, hp3, hk3⟩
            obtain ⟨a3, d3, m3, rfl, hm3, hlo⟩ := loose_row Mo.len hp3
            have hm3' : m3 ≤ 400 := by rw [hm3]; exact moves_len HFI.out
            have HLO := Lib.hid (hlo.mono HKK.out.size)
            have HKK := Lib.hid (HKK.out.trans hk3)
            clear hp3 hk3 hlo hm3
            go_wp2_with (fail)
            go_loopw [17] (fun i wr => ∃ k : Nat, i = .int .i64 k ∧ k ≤ m3 ∧ Keep [] Wr wr ∧ LooseRow Wr.heap.size wr a3 m3 6) (fun i _ => m3 - (intOf i).toNat)
            case atStart => exact ⟨0, rfl, Nat.zero_le _, HKK.out, HLO.out⟩
            case round =>
              obtain ⟨k, rfl, hk, hkk, hlo⟩ := hrel
              have h0k : (0 : Int) ≤ (k : Int) := Int.natCast_nonneg k
              clear HKK HLO
              have HKK := Lib.hid hkk
              clear hkk
              by_cases hlk : k < m3
              · have hkn : (k : Int) < (m3 : Int) := by omega
                obtain ⟨g, rfl, hg0, hg1, hL⟩ := hlo.pos (by omega)
                obtain ⟨u, hu⟩ := hL.cell (k * 6 + 4) (by omega)
                have hfz := hL.free (k * 6 + 4)
                have HL := Lib.hid hL
                clear hL hlo
                go_wp2_with (fail)
                go_roundw
                case rel => exact ⟨k + 1, by go_num, by omega, HKK.out.setCell _ _ _ (.inr hg0), .inr ⟨g, rfl, hg0, by simpa [World.setCell] using hg1, HL.out.set _ _⟩⟩
                case measure => go_light; simp [intOf]; omega
              · have hkn : ¬ (k : Int) < (m3 : Int) := by omega
                have HLO := Lib.hid hlo
                clear hlo
                go_wp2_with (fail)
                obtain ⟨w4, hw4⟩ : ∃ u, u = wr := ⟨_, rfl⟩
                subst hw4
                go_wp2_with (fail)
                refine (tableS (HC.out.kept HKK.out) HFI.out).mono ?_
                rintro e w5 ⟨a5, d5, rfl, hp5, hk5⟩
                obtain ⟨a6, d6, m5, hv5, hm5, hlo⟩ := loose_row (f := fun x => [inV x]) (S := 1) (fun _ => rfl) (by rw [← List.map_eq_flatMap]; exact hp5)
                simp only [Value.slice.injEq] at hv5
                obtain ⟨rfl, hm5', rfl⟩ := hv5
                rw [hm5']
                have hm5b : m5 ≤ 64 := by rw [hm5]; exact HFI.out.len
                have HGL := Lib.hid (show 0 < m5 → ∀ g, a5 = some ⟨g, 0, none⟩ → g < w5.heap.size from fun hm g e => by
                  obtain ⟨g', e', _, h, _⟩ := hlo.pos hm
                  rw [e] at e'
                  cases e'
                  exact h)
                have hlo := hlo.mono HKK.out.size
                have HKK := Lib.hid (HKK.out.trans hk5)
                clear hp5 hk5 hm5 hm5'
                go_wp2_with (fail)
                obtain ⟨w6, hw6⟩ : ∃ u, w5.alloc (.cells #[.int .i64 C.ep, .int .i64 C.nd, .slice a5 m5 d5] 28) = u := ⟨_, rfl⟩
                have hk6 : Keep [] w5 w6 := by rw [← hw6]; exact (Keep.refl _ _).alloc _
                have HBX := Lib.hid (show w6.heap[w5.heap.size]? = some (.cells #[.int .i64 C.ep, .int .i64 C.nd, .slice a5 m5 d5] 28 (0, 0)) from by rw [← hw6]; exact World.alloc_heap_new w5 _)
                rw [hw6]
                have HLO := Lib.hid (hlo.keep hk6)
                have HKK := Lib.hid (HKK.out.trans hk6)
                clear hlo hk6 hw6
                go_loopw [19] (fun i wr => ∃ k : Nat, i = .int .i64 k ∧ k ≤ m5 ∧ Keep [] Wr wr ∧ LooseRow Wr.heap.size wr a5 m5 1 ∧ wr.heap[w5.heap.size]? = some (.cells #[.int .i64 C.ep, .int .i64 C.nd, .slice a5 m5 d5] 28 (0, 0))) (fun i _ => m5 - (intOf i).toNat)
                case atStart => exact ⟨0, rfl, Nat.zero_le _, HKK.out, HLO.out, HBX.out⟩
                case round =>
                  obtain ⟨k, rfl, hk, hkk, hlo, hbx⟩ := hrel
                  have h0k : (0 : Int) ≤ (k : Int) := Int.natCast_nonneg k
                  clear HKK HLO
                  have HKK := Lib.hid hkk
                  clear hkk
                  by_cases hlk : k < m5
                  · have hkn : (k : Int) < (m5 : Int) := by omega
                    obtain ⟨g, rfl, hg0, hg1, hL⟩ := hlo.pos (by omega)
                    obtain ⟨u, hu⟩ := hL.cell (k * 1 + 0) (by omega)
                    have hfz := hL.free (k * 1 + 0)
                    have HL := Lib.hid hL
                    clear hL hlo
                    simp only [Nat.mul_one, Nat.add_zero] at hu hfz
                    have HGB := Lib.hid (HGL.out (by omega) g rfl)
                    have HBX := Lib.hid hbx
                    obtain ⟨z0, z1, z2, z3⟩ := TbFacts hbx
                    clear hbx
                    go_wp2_with (fail)
                    go_roundw
                    case rel => exact ⟨k + 1, by go_num, by omega, HKK.out.setCell _ _ _ (.inr hg0), .inr ⟨g, rfl, hg0, by simpa [World.setCell] using hg1, HL.out.set _ _⟩, ((((Keep.refl [g] _).setCell g _ _ (.inl (by simp))).block _ (lt_of_heap HBX.out) (by simp; have := HGB.out; omega)).trans HBX.out)⟩
                    case measure => go_light; simp [intOf]; omega
                  · have hkn : ¬ (k : Int) < (m5 : Int) := by omega
                    have HLO := Lib.hid hlo
                    clear hlo
                    obtain ⟨z0, z1, z2, z3⟩ := TbFacts hbx
                    clear HLO
                    go_wp2_with (fail)
                    clear z0 z1 z2 z3
                    obtain ⟨w7, hw7⟩ : ∃ u, u = wr := ⟨_, rfl⟩
                    subst hw7
                    clear hbx
                    go_wp2_with (fail)
                    refine (endedS (HC.out.kept HKK.out)).mono ?_
                    rintro e w8 ⟨rfl, hk8⟩
                    have HKK := Lib.hid (HKK.out.trans hk8)
                    have hA8 := RowAt.keep (fun _ _ _ h1 h2 h3 => h3.keep HKK.out h1 h2) HA.out HKK.out (by simp)
                    have HA8 := Lib.hid hA8
                    obtain ⟨b, off, rfl, hbl, hat⟩ := hA8 HNE.out
                    have hx := hat j x HXL.out
                    have HONE := Lib.hid (one_any (HC.out.kept HKK.out) HME.out HFI.out HI.out.last.1 HXO.out)
                    unfold AcAt at hx
                    obtain ⟨cl, hcl⟩ : ∃ cl, x.cells = cl := ⟨_, rfl⟩
                    have HCL := Lib.hid hcl
                    rw [hcl] at HSA HONE hx
                    have HX := Lib.hid hx
                    obtain ⟨⟨⟨r1, r2, r3⟩, C'⟩, hrr⟩ : ∃ r, oneF C x = r := ⟨_, rfl⟩
                    rw [hrr] at HONE HTK
                    have HRR := Lib.hid hrr
                    have HHI := Lib.hid (HFL.out b off rfl)
                    clear hat hx hcl hrr hbl hk8
                    go_wp2_with ((with_reducible refine wpList_load_mid ?_ 60 (.tmp 111) ?_ b (off + j * 28) ?_ cl _ HX.out Tryz.underlying60 ?_ HSA.out ?_); rfl; rfl; rfl; rfl)
                    refine HONE.out.mono ?_
                    rintro e w9 ⟨rfl, F', hc', hk9, hup⟩
                    have HA9 := Lib.hid (show RowAt AcAt 28 w9 (some ⟨b, off, none⟩) l2 from RowAt.keep (fun _ _ _ h1 h2 h3 => h3.keep hk9 h1 h2) HA8.out hk9 (fun hne b' off' e => by
                      cases e
                      intro hm
                      have := HF.out _ hm
                      have := HHI.out
                      omega))
                    have HONE2 := Lib.hid (one_any (CoS.keep (HD.out.kept HKK.out) hk9 (fun y hy hf => HFG.out y hf hy)) HME.out HFI.out HI.out.last.1 HXO.out)
                    obtain ⟨b', off', e', _, hat⟩ := HA9.out HNE.out
                    cases e'
                    have hx := hat j x HXL.out
                    unfold AcAt at hx
                    rw [HCL.out] at hx HONE2
                    rw [HRR.out] at HONE2
                    have HX := Lib.hid hx
                    have HC9 := Lib.hid hc'
                    have HK9 := Lib.hid hk9
                    have HUP := Lib.hid hup
                    clear hat hx hc' hk9 hup
                    go_wp2_with ((with_reducible refine wpList_load_mid ?_ 60 (.tmp 121) ?_ b (off + j * 28) ?_ cl _ HX.out Tryz.underlying60 ?_ HSA.out ?_); rfl; rfl; rfl; rfl)
                    refine HONE2.out.mono ?_
                    rintro e w10 ⟨rfl, G', hd', hk10, hup2⟩
                    have hGlt : ∀ y ∈ G, y < w8.heap.size := fun y hy => Nat.lt_of_lt_of_le (HD.out.lt y hy) HKK.out.size
                    have hFG' : ∀ y ∈ F', y ∉ G := fun y hy hg => by
                      rcases HUP.out y hy with h | h
                      · exact HFG.out y h hg
                      · have := hGlt y hg; omega
                    have hF7 : ∀ y ∈ F', W7.heap.size ≤ y := fun y hy => by
                      rcases HUP.out y hy with h | h
                      · exact HF.out y h
                      · exact Nat.le_trans (Nat.le_trans HK7.out.size HKK.out.size) h
                    have hG7 : ∀ y ∈ G', W7.heap.size ≤ y := fun y hy => by
                      rcases hup2 y hy with h | h
                      · exact HG.out y h
                      · exact Nat.le_trans (Nat.le_trans (Nat.le_trans HK7.out.size HKK.out.size) HK9.out.size) h
                    have hdis : ∀ y ∈ F', y ∉ G' := fun y hy hg => by
                      rcases hup2 y hg with h | h
                      · exact hFG' y hy h
                      · have := HC9.out.lt y hy; omega
                    have HREL := Lib.hid (show CoS w10 p F' C' ∧ CoS w10 q G' C' ∧ (∀ y ∈ F', W7.heap.size ≤ y) ∧ (∀ y ∈ G', W7.heap.size ≤ y) ∧ (∀ y ∈ F', y ∉ G') ∧ Keep [] W7 w10 ∧ Keep [] W w10 ∧ RowAt AcAt 28 w10 (some ⟨b, off, none⟩) l2 from
                      ⟨HC9.out.keep hk10 hFG', hd', hF7, hG7, hdis,
                        ((HK7.out.trans HKK.out).step HK9.out (fun y hy => .inr (HF.out y hy))).step hk10 (fun y hy => .inr (HG.out y hy)),
                        ((HKW.out.trans HKK.out).step HK9.out (fun y hy => .inr (Nat.le_trans HW7.out (HF.out y hy)))).step hk10 (fun y hy => .inr (Nat.le_trans HW7.out (HG.out y hy))),
                        RowAt.keep (fun _ _ _ h1 h2 h3 => h3.keep hk10 h1 h2) HA9.out hk10 (fun hne b' off' e => by
                          cases e
                          intro hm
                          have := HG.out _ hm
                          have := HHI.out
                          omega)⟩)
                    clear hd' hk10 hup2 hGlt hFG' hF7 hG7 hdis
                    go_wp2_with (fail)
                    go_roundw
                    case rel => exact ⟨j + 1, F', G', by go_num, by omega, by rw [HTK.out]; exact HREL.out.1, by rw [HTK.out]; exact HREL.out.2.1, HREL.out.2.2⟩
                    case measure => go_light; simp [intOf]; omega
      · obtain rfl : j = l2.length := by omega
        rw [List.take_length] at HC HD HI
        obtain ⟨C, hC⟩ : ∃ C, runC (cd0 n s) l2 = C := ⟨_, rfl⟩
        rw [hC] at HC HD HI
        have HFI := Lib.hid (HI.out.toFine (by omega) HNB.out.1.2 HNB.out.2.2)
        have HME := Lib.hid (HI.out.toMem (by omega))
        clear hC hj h0j hlt
        have hjn : ¬ (l2.length : Int) < (l2.length : Int) := by omega
        go_wp2_with (fail)
        clear hjn
        refine (endedS HC.out).mono ?_
        rintro e w1 ⟨rfl, hk⟩
        have HKK := Lib.hid hk
        clear hk
        go_wp2_with (fail)
        refine (endedS (HD.out.kept HKK.out)).mono ?_
        rintro e w2 ⟨rfl, hk⟩
        have HKK := Lib.hid (HKK.out.trans hk)
        clear hk
        go_wp2_with (fail)
        refine (tableS (HC.out.kept HKK.out) HFI.out).mono ?_
        rintro e w3 ⟨ua, ud, rfl, hua, hk⟩
        have HKK := Lib.hid (HKK.out.trans hk)
        have HUA := Lib.hid hua
        clear hk hua
        go_wp2_with (fail)
        refine (tableS (HD.out.kept HKK.out) HFI.out).mono ?_
        rintro e w4 ⟨va, vd, rfl, hva, hk⟩
        have HKK := Lib.hid (HKK.out.trans hk)
        have HUA := Lib.hid (HUA.out.keep hk (by simp))
        have HVA := Lib.hid hva
        clear hk hva
        go_wp2_with (fail)
        refine (tsame_true C.ep C.nd ud vd HUA.out.at HVA.out.at (by have := HFI.out.len; omega)).mono ?_
        rintro e w5 ⟨rfl, hk⟩
        have HKK := Lib.hid (HKK.out.trans hk)
        clear hk
        go_wp2_with (fail)
        refine (tickS (HC.out.kept HKK.out) HFI.out HME.out).mono ?_
        rintro e w6 ⟨ta, rfl, hta, hk⟩
        have HKK := Lib.hid (HKK.out.trans hk)
        have HTA := Lib.hid hta
        obtain ⟨ta1, ta2, rfl, _⟩ := own_shape hta
        clear hk hta
        go_wp2_with (fail)
        refine (tickS (HD.out.kept HKK.out) HFI.out HME.out).mono ?_
        rintro e w7 ⟨tb, rfl, htb, hk⟩
        have HKK := Lib.hid (HKK.out.trans hk)
        have HTA := Lib.hid (PRow.keep HTA.out hk (by simp))
        have HTB := Lib.hid htb
        obtain ⟨tb1, tb2, rfl, _⟩ := own_shape htb
        clear hk htb
        go_wp2_with (fail)
        refine (packets_true HTA.out HTB.out (by have := tick_len HFI.out; omega)).mono ?_
        rintro e w8 ⟨rfl, hk⟩
        have HKK := Lib.hid (HKK.out.trans hk)
        clear hk
        go_wp2_with (fail)
        go_ret
        exact ⟨rfl, (HKW.out.trans HKK.out).below (Nat.le_refl _) (by simp)⟩
end Go.Proofs.YtdnfibecobodkaaGreat
