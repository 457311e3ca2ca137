/- MovesNumbers. -/
import Derived.Test.YtbkbekdeplolnaaMvF
import Derived.Deep.RegionHeld3
namespace Go.Proofs.Ytbkbekdeplolnaa
open Go.RowKit
set_option linter.unusedSimpArgs false
set_option linter.unusedVariables false
theorem ordF_cases (t : Tb) (part to : Int) (m : List (Int × En)) (last : Int) :
    (∃ x : En, ordF t part to m last = (last + 1, 0, m ++ [(part, x)], last + 1) ∧ last < 2147483647) ∨ (∃ e, ordF t part to m last = (0, e, m, last) ∧ e ≠ 0) := by
  unfold ordF
  split
  · rename_i h; exact .inr ⟨_, rfl, h⟩
  · split
    · exact .inr ⟨_, rfl, by decide⟩
    · split
      · exact .inr ⟨_, rfl, by decide⟩
      · exact .inl ⟨_, rfl, by omega⟩
theorem IntsAt.ne {W : World} {a : Option Addr} {l : List Int} (h : IntsAt W a l) {p : Nat} (hp : W.heap.size ≤ p) : l ≠ [] → ∀ x, a = some x → x.block ≠ p := by
  intro hl x hx
  obtain ⟨b, off, h1, h2, _⟩ := h hl
  rw [h1] at hx
  cases hx
  simp only []
  omega
theorem Bk.drew {base : Nat} {W : World} {p : Nat} {m : List (Int × En)} {last : Int} (h : Bk base W p m last) : Bk base W.drew p m last :=
  h.below ((Below.refl _ W).drew)
theorem below_of_drew {B : Nat} {w w' : World} (h : Below B w.drew w') : Below B w w' := ⟨h.os, h.tape, h.output, h.size, h.block⟩
set_option maxRecDepth 100000 in
set_option maxHeartbeats 4000000 in
theorem law_MovesNumbers (A : Option Addr) (L : List Ac) (c : Nat) (hl : L.length ≤ 9223372036854775807) (w : World) (hA : ActsAt w A L) :
    Calls Try.prog 10 #[.slice A L.length c] w fun e w' => e = .returned (.bool true) ∧ Below w.heap.size w w' := by
  have HA := Lib.hid hA
  clear hA
  have hz := Int.natCast_nonneg L.length
  go_enter Try.func10, Try.ntmps10
  go_wp2_with (first
    | (go_at_call 28; refine (awake_any _).mono ?_; rintro e w1 ⟨rfl, hB⟩)
    | (go_at_call 29; refine (great_any (HA.out.below hB) hl).mono ?_; rintro e w2 ⟨⟨g, rfl, hg⟩, rfl⟩; have HG := Lib.hid hg; clear hg)
    | (go_at_call 30; refine (newS (base := w.heap.size) _ hB.size).mono ?_; rintro e w2 ⟨p, rfl, hbk, hB2, hpl⟩; replace hB := hB.trans hB2; clear hB2 hpl))
  · go_ret
    exact ⟨rfl, hB⟩
  · go_loopw [4, 5] (fun n i wr => ∃ (k : Nat) (m : List (Int × En)) (last : Int), i = .int .i64 k ∧ n = .int .i64 last ∧ k ≤ L.length ∧ Bk w.heap.size wr p m last ∧ Below w.heap.size w wr) (fun _ i _ => L.length - (intOf i).toNat)
    case atStart => exact ⟨0, [], 0, rfl, rfl, Nat.zero_le _, hbk, hB⟩
    case round =>
      clear hbk hB
      obtain ⟨k, m, last, rfl, rfl, hk, hbk, hB⟩ := hrel
      have hl0 : 0 ≤ last := by obtain ⟨_, _, _, h, _⟩ := hbk; exact h
      have hl1 : last ≤ 2147483647 := by obtain ⟨_, _, _, _, h, _⟩ := hbk; exact h
      by_cases hlt : k < L.length
      · obtain ⟨b, off, rfl, hb, hact⟩ := HA.out (by intro e; rw [e] at hlt; simp at hlt)
        obtain ⟨x, hx⟩ : ∃ x, L[k]? = some x := ⟨L[k], List.getElem?_eq_getElem hlt⟩
        have hx0 := hact k x hx
        obtain ⟨h0, h1, h2, h3, h4, h5, hI⟩ := hx0.below rfl hB hb
        have hsep := hx0.own.ne hbk.le
        have hcs := ordF_cases x.t x.part x.to m last
        obtain ⟨dd, ⟨ep, nodes, oa, oc, own⟩, part, to⟩ := x
        simp only at h0 h1 h2 h3 h4 h5 hI hsep hcs hx0
        have HI := Lib.hid hI
        have HX0 := Lib.hid hx0
        have HSEP := Lib.hid hsep
        clear hact hx hx0 hI hsep
        by_cases hd0 : dd = 0
        · subst hd0
          rcases hcs with ⟨y, hcs, hlast⟩ | ⟨e0, hcs, he0⟩
          · have hord := orderS hbk.drew ⟨ep, nodes, oa, oc, own⟩ (HI.out.below ((Below.refl _ _).drew)) HSEP.out part to
            rw [hcs] at hord
            simp only [Tb.val] at hord
            have HORD := Lib.hid hord
            clear hcs hord
            go_wp2_with (fail)
            go_region_held3 (fun W => W.cell? ⟨b, off + k * 6 + 1, none⟩ = some (.int .i64 ep) ∧ W.cell? ⟨b, off + k * 6 + 2, none⟩ = some (.int .i64 nodes) ∧ W.cell? ⟨b, off + k * 6 + 3, none⟩ = some (.slice oa own.length oc) ∧ W.cell? ⟨b, off + k * 6 + 4, none⟩ = some (.int .i64 part) ∧ W.cell? ⟨b, off + k * 6 + 5, none⟩ = some (.int .i64 to)) (first | exact ⟨h1, h2, h3, h4, h5⟩ | exact ⟨g1, g2, g3, g4, g5⟩)
              (first | (go_at_call 31; refine HORD.out.mono ?_; rintro e w3 ⟨rfl, hbk3, hB3⟩; have hB4 := hB.trans (below_of_drew hB3); obtain ⟨g0, g1, g2, g3, g4, g5, _⟩ := HX0.out.below rfl hB4 hb))
            clear hB3
            have hll : last + 1 ≤ 2147483647 := by omega
            go_wp2_with (first
              | (go_at_call 33; refine (lastS hbk3).mono ?_; rintro e w4 ⟨rfl, rfl⟩))
            go_roundw
            case rel => exact ⟨k + 1, _, _, by go_num, rfl, by omega, hbk3, hB4⟩
            case measure => go_light; simp [intOf]; omega
          · have hord := orderS hbk.drew ⟨ep, nodes, oa, oc, own⟩ (HI.out.below ((Below.refl _ _).drew)) HSEP.out part to
            rw [hcs] at hord
            simp only [Tb.val] at hord
            have HORD := Lib.hid hord
            clear hcs hord
            go_wp2_with (fail)
            go_region_held3 (fun W => W.cell? ⟨b, off + k * 6 + 1, none⟩ = some (.int .i64 ep) ∧ W.cell? ⟨b, off + k * 6 + 2, none⟩ = some (.int .i64 nodes) ∧ W.cell? ⟨b, off + k * 6 + 3, none⟩ = some (.slice oa own.length oc) ∧ W.cell? ⟨b, off + k * 6 + 4, none⟩ = some (.int .i64 part) ∧ W.cell? ⟨b, off + k * 6 + 5, none⟩ = some (.int .i64 to)) (first | exact ⟨h1, h2, h3, h4, h5⟩ | exact ⟨g1, g2, g3, g4, g5⟩)
              (first | (go_at_call 31; refine HORD.out.mono ?_; rintro e w3 ⟨rfl, hbk3, hB3⟩; have hB4 := hB.trans (below_of_drew hB3); obtain ⟨g0, g1, g2, g3, g4, g5, _⟩ := HX0.out.below rfl hB4 hb))
            clear hB3
            have he0' : (e0 == 0) = false := by simpa using he0
            have he0'' : (e0 != 0) = true := by simpa using he0
            go_wp2_with (first
              | (go_at_call 33; refine (lastS hbk3).mono ?_; rintro e w4 ⟨rfl, rfl⟩))
            go_roundw
            case rel => exact ⟨k + 1, _, _, by go_num, rfl, by omega, hbk3, hB4⟩
            case measure => go_light; simp [intOf]; omega
        · by_cases hd1 : dd = 1
          · subst hd1
            clear hcs
            go_wp2_with (first
              | (go_at_call 32; refine (endS hbk part).mono ?_; rintro e w3 ⟨rfl, hbk', hB'⟩; replace hbk := hbk'; replace hB := hB.trans hB'; clear hbk' hB' h0 h1 h2 h3 h4 h5)
              | (go_at_call 33; refine (lastS hbk).mono ?_; rintro e w4 ⟨rfl, rfl⟩))
            go_roundw
            case rel => exact ⟨k + 1, _, _, by go_num, rfl, by omega, hbk, hB⟩
            case measure => go_light; simp [intOf]; omega
          · clear hcs
            go_wp2_with (first
              | (go_at_call 33; refine (lastS hbk).mono ?_; rintro e w4 ⟨rfl, rfl⟩))
            go_roundw
            case rel => exact ⟨k + 1, _, _, by go_num, rfl, by omega, hbk, hB⟩
            case measure => go_light; simp [intOf]; omega
      · obtain rfl : k = L.length := by omega
        go_wp2_with (fail)
        go_ret
        exact ⟨rfl, hB⟩
end Go.Proofs.Ytbkbekdeplolnaa
