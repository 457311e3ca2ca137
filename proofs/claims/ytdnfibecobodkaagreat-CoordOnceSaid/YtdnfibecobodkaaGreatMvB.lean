/- Contract of table.May. -/
import Derived.Test.YtdnfibecobodkaaGreatMvA
namespace Go.Proofs.YtdnfibecobodkaaGreat
open Go.RowKit
set_option linter.unusedSimpArgs false
set_option linter.unusedVariables false
set_option maxHeartbeats 2000000 in
theorem may_any (t : Tb) (part to : Int) (w : World) (hI : IntsAt w t.oa t.owner) :
    Calls Tryz.prog 49 #[t.val, .int .i64 part, .int .i64 to] w fun e w' => e = .returned (.int .i64 (t.may part to)) ∧ Below w.heap.size w w' := by
  have hright : ∀ W, Below w.heap.size w W → W.heap.size = w.heap.size + 1 → Calls Tryz.prog 32 #[t.val] W fun e w' => e = .returned (.bool t.right) ∧ Below w.heap.size w w' ∧ w'.heap[w.heap.size]? = W.heap[w.heap.size]? := by
    intro W hB hs
    refine (tright_any t W (hI.below hB)).mono ?_
    rintro e w' ⟨he, hB'⟩
    exact ⟨he, hB.trans (hB'.mono (by omega)), hB'.block _ (by omega)⟩
  have hlen : 1 ≤ t.owner.length ∨ t.right = false := by
    by_cases h : 1 ≤ t.owner.length
    · exact .inl h
    · right; simp [Tb.right]; omega
  have hlen8 : t.owner.length ≤ 8 ∨ t.right = false := by
    by_cases h : t.owner.length ≤ 8
    · exact .inl h
    · right; simp [Tb.right]; omega
  obtain ⟨m, hm⟩ : ∃ m, t.may part to = m := ⟨_, rfl⟩
  have hm' := hm
  unfold Tb.may at hm'
  obtain ⟨r, hr⟩ : ∃ r, t.right = r := ⟨_, rfl⟩
  rw [hr] at hright hlen hlen8 hm'
  rw [hm]
  obtain ⟨ep, nodes, oa, oc, l⟩ := t
  simp only [Tb.val] at *
  clear hr hm
  have hB1 : Below w.heap.size w (w.alloc (.cells #[.int .i64 ep, .int .i64 nodes, .slice oa l.length oc] 28)) := (Below.refl _ w).alloc (Nat.le_refl _) _
  have hright' := hright _ hB1 (by simp)
  have HR := Lib.hid hright'
  clear hright hright'
  have hcell : ∀ (w' : World), w'.heap[w.heap.size]? = (w.alloc (.cells #[.int .i64 ep, .int .i64 nodes, .slice oa l.length oc] 28)).heap[w.heap.size]? →
      w'.cell? ⟨w.heap.size, 0, none⟩ = some (.int .i64 ep) ∧ w'.cell? ⟨w.heap.size, 1, none⟩ = some (.int .i64 nodes) ∧ w'.cell? ⟨w.heap.size, 2, none⟩ = some (.slice oa l.length oc) := by
    intro w' h
    refine ⟨(World.cell?_of_block (w := w.alloc _) h).trans (by go_simp), (World.cell?_of_block (w := w.alloc _) h).trans (by go_simp), (World.cell?_of_block (w := w.alloc _) h).trans (by go_simp)⟩
  have HC := Lib.hid hcell
  clear hcell hB1
  cases r with
  | false =>
    have HM := Lib.hid hm'
    clear hm' hlen hlen8 hI
    go_enter Tryz.func49, Tryz.ntmps49
    go_wp2_with (go_at_call 32; refine HR.out.mono ?_; rintro e w' ⟨rfl, hB, hk⟩; obtain ⟨k0, k1, k2⟩ := HC.out w' hk)
    go_ret
    exact ⟨by have := HM.out; simp at this; rw [← this]; rfl, hB⟩
  | true =>
    have hl1 : 1 ≤ l.length := by rcases hlen with h | h; exact h; cases h
    have hl8 : (l.length : Int) ≤ 8 := by rcases hlen8 with h | h; omega; cases h
    obtain ⟨b, off, rfl, hbl, hcl⟩ := hI (by intro e; rw [e] at hl1; simp at hl1)
    clear hlen hlen8
    by_cases hep : 2147483647 ≤ ep
    · have HM := Lib.hid hm'
      clear hm' hcl
      go_enter Tryz.func49, Tryz.ntmps49
      go_wp2_with (go_at_call 32; refine HR.out.mono ?_; rintro e w' ⟨rfl, hB, hk⟩; obtain ⟨k0, k1, k2⟩ := HC.out w' hk)
      go_ret
      exact ⟨by have := HM.out; rw [if_pos (.inr hep)] at this; rw [← this]; rfl, hB⟩
    · rw [if_neg (by simp [hep])] at hm'
      by_cases hp : part < 0 ∨ (l.length : Int) ≤ part
      · rw [if_pos hp] at hm'
        have HM := Lib.hid hm'
        clear hm' hcl
        rcases hp with hp | hp
        · go_enter Tryz.func49, Tryz.ntmps49
          go_wp2_with (go_at_call 32; refine HR.out.mono ?_; rintro e w' ⟨rfl, hB, hk⟩; obtain ⟨k0, k1, k2⟩ := HC.out w' hk)
          go_ret
          exact ⟨by rw [← HM.out]; rfl, hB⟩
        · have hp0 : ¬ part < 0 := by omega
          go_enter Tryz.func49, Tryz.ntmps49
          go_wp2_with (go_at_call 32; refine HR.out.mono ?_; rintro e w' ⟨rfl, hB, hk⟩; obtain ⟨k0, k1, k2⟩ := HC.out w' hk)
          go_ret
          exact ⟨by rw [← HM.out]; rfl, hB⟩
      · rw [if_neg hp] at hm'
        have hp0 : ¬ part < 0 := by omega
        have hp1 : ¬ (l.length : Int) ≤ part := by omega
        obtain ⟨k, rfl⟩ := Int.eq_ofNat_of_zero_le (show 0 ≤ part by omega)
        have hkl : k < l.length := by omega
        rw [Int.toNat_natCast] at hm'
        have hck := hcl k hkl
        obtain ⟨x, hx⟩ : ∃ x, l[k]?.getD 0 = x := ⟨_, rfl⟩
        rw [hx] at hck hm'
        clear hcl hx hp
        by_cases ht : to < 0 ∨ nodes ≤ to
        · rw [if_pos ht] at hm'
          have HM := Lib.hid hm'
          clear hm'
          rcases ht with ht | ht
          · go_enter Tryz.func49, Tryz.ntmps49
            go_wp2_with (go_at_call 32; refine HR.out.mono ?_; rintro e w' ⟨rfl, hB, hk⟩; obtain ⟨k0, k1, k2⟩ := HC.out w' hk)
            go_ret
            exact ⟨by rw [← HM.out]; rfl, hB⟩
          · by_cases ht0 : to < 0
            all_goals
              go_enter Tryz.func49, Tryz.ntmps49
              go_wp2_with (go_at_call 32; refine HR.out.mono ?_; rintro e w' ⟨rfl, hB, hk⟩; obtain ⟨k0, k1, k2⟩ := HC.out w' hk)
              go_ret
              exact ⟨by rw [← HM.out]; rfl, hB⟩
        · rw [if_neg ht] at hm'
          have ht0 : ¬ to < 0 := by omega
          have ht1 : ¬ nodes ≤ to := by omega
          clear ht
          by_cases hxt : x = to
          · rw [if_pos hxt] at hm'
            have HM := Lib.hid hm'
            have e1 : (x == to) = true := by simpa using hxt
            clear hm' hxt
            go_enter Tryz.func49, Tryz.ntmps49
            go_wp2_with (go_at_call 32; refine HR.out.mono ?_; rintro e w' ⟨rfl, hB, hk⟩; obtain ⟨k0, k1, k2⟩ := HC.out w' hk; have hck' := (hB.cell (p := ⟨b, off + k, none⟩) hbl).trans hck)
            go_ret
            exact ⟨by rw [← HM.out]; rfl, hB⟩
          · rw [if_neg hxt] at hm'
            have HM := Lib.hid hm'
            have e1 : (x == to) = false := by simpa using hxt
            clear hm' hxt
            go_enter Tryz.func49, Tryz.ntmps49
            go_wp2_with (go_at_call 32; refine HR.out.mono ?_; rintro e w' ⟨rfl, hB, hk⟩; obtain ⟨k0, k1, k2⟩ := HC.out w' hk; have hck' := (hB.cell (p := ⟨b, off + k, none⟩) hbl).trans hck)
            go_ret
            exact ⟨by rw [← HM.out]; rfl, hB⟩
end Go.Proofs.YtdnfibecobodkaaGreat
