/- The book of moves: End, Order. -/
import Derived.Test.YteejdfpfdnkiiaaGreatPa
import Derived.StillTailTactics
import Derived.Carry
namespace Go.Proofs.YteejdfpfdnkiiaaGreat
open Go.RowKit
open Go.ChangeMaps (setBlock)
set_option linter.unusedSimpArgs false
set_option linter.unusedVariables false
/-- A region that draws its order, whose operations only read but for a tail: the world under a name. -/
theorem region_tail {P : Program} {id : Nat} {Q : Exit → Act → World → Prop} {a : Act} {w : World} {l : List Oper} (n : Nat) (hm : P.follows .mixedOrders = true) (hB : Region.lexTailB .any l.toArray n = true)
    (h : ∀ W2, W2 = w.drew → wpStill P l.toArray W2 (fun a' => wpList P l.toArray Q (l.drop n) a' W2) (l.take n) a) : (Code.region id l.toArray true).wp P Q a w :=
  wp_region_still_tail n hm hB (h _ rfl)
theorem two_alloc (X : World) (o o' : Obj) (n : Nat) (hn : X.heap.size + 1 = n) : ((X.alloc o).alloc o').drew.heap[n]? = some o' := by
  subst hn
  have := World.alloc_heap_new (X.alloc o) o'
  rw [World.size_alloc] at this
  exact this
theorem look_some_om {W : World} {om : Option Nat} {m : List (Int × En)} (h : MapO ekI En.val W om m) {k : Int} (hs : (look k m).isSome = true) : ∃ b, om = some b ∧ MapIs ekI En.val W b m := by
  cases om with
  | none =>
    have h' : m = [] := h
    subst h'
    simp [look] at hs
  | some b => exact ⟨b, rfl, h⟩
set_option maxHeartbeats 2000000 in
theorem end_book {w : World} {p : Nat} {om : Option Nat} {m : List (Int × En)} {last : Int} (h : BookAt w p om m last) (hn : (m.map (·.1)).Nodup) (k : Int) :
    Calls Tryz.prog 50 #[.pointer (some ⟨p, 0, none⟩), .int .i64 k] w fun e w' =>
      e = .returned (.bool (look k m).isSome) ∧ BookAt w' p om (del k m) last ∧ Keep (foot p om) w w' := by
  have hof := of_any h k
  have hp := h.ne
  obtain ⟨x, hx⟩ : ∃ x, (look k m).getD En.zero = x := ⟨_, rfl⟩
  cases hb : (look k m).isSome with
  | true =>
    obtain ⟨b, rfl, hm⟩ := look_some_om h.map hb
    rw [hx, hb] at hof
    obtain ⟨x1, x2, x3, x4⟩ := x
    simp only [En.val] at hof
    have H := Lib.hid h
    have HOF := Lib.hid hof
    have HM := Lib.hid hm
    clear h hof hx hb hm
    go_enter Tryz.func50, Tryz.ntmps50
    go_wp2_with (go_at_call 31; refine HOF.out.mono ?_; rintro e w1 ⟨rfl, hB⟩; obtain ⟨h0, h1, h2, h3⟩ := (H.out.below hB).cells; obtain ⟨o, hrun, hmap⟩ := run_delete (W := w1.alloc (.cells #[.int .i64 x1, .int .i64 x2, .int .i64 x3, .int .i64 x4] 78)) Tryz.underlying99 (keyLaw_int Tryz.underlying3) ((HM.out.below hB).alloc _) hn k #[99, 3] rfl 0; have HMP := Lib.hid hmap; clear hmap)
    refine bodyPost_ret (v := .bool true) (by simp [results, go_sem]) rfl ⟨rfl, ⟨?_, HMP.out⟩, ?_⟩
    · rw [setBlock_ne _ _ _ _ (fun e => hp (by rw [e]))]
      exact (Below.heap_alloc w1 _ p h3).trans (H.out.below hB).blk
    · exact ((Keep.of_below hB _).alloc _).setBlock b o (.inl (by simp [foot]))
  | false =>
    have hd : del k m = m := del_none (by cases hl : look k m with | none => rfl | some v => rw [hl] at hb; cases hb)
    rw [hx, hb] at hof
    obtain ⟨x1, x2, x3, x4⟩ := x
    simp only [En.val] at hof
    have H := Lib.hid h
    have HOF := Lib.hid hof
    have HD := Lib.hid hd
    clear h hof hx hb hd
    go_enter Tryz.func50, Tryz.ntmps50
    go_wp2_with (go_at_call 31; refine HOF.out.mono ?_; rintro e w1 ⟨rfl, hB⟩)
    go_ret
    exact ⟨rfl, by rw [HD.out]; exact (H.out.below hB).alloc _, (Keep.of_below hB _).alloc _⟩
theorem mapNil1 (b : Nat) (W : World) : (binOp BinOp.eql 99 (.map (some b)) (.map none)).run Tryz.prog W = .ok (.bool false) W := by kernel_rfl
theorem mapNil2 (W : World) : (binOp BinOp.eql 99 (.map none) (.map none)).run Tryz.prog W = .ok (.bool true) W := by kernel_rfl
/-- What Order comes to: the number, the error, the moves, the last number. -/
def ordF (t : Tb) (part to : Int) (m : List (Int × En)) (last : Int) : Int × Int × List (Int × En) × Int :=
  if t.may part to ≠ 0 then (0, t.may part to, m, last)
  else if (look part m).isSome then (0, 20, m, last)
  else if 2147483647 ≤ last then (0, 6, m, last)
  else (last + 1, 0, m ++ [(part, ⟨last + 1, part, t.owner[part.toNat]?.getD 0, to⟩)], last + 1)
theorem may_zero {t : Tb} {part to : Int} (h : t.may part to = 0) : t.right = true ∧ t.ep < 2147483647 ∧ 0 ≤ part ∧ part < t.owner.length ∧ 0 ≤ to ∧ to < t.nodes ∧ t.owner[part.toNat]?.getD 0 ≠ to := by
  unfold Tb.may at h
  split at h
  · omega
  · rename_i h1
    split at h
    · omega
    · rename_i h2
      split at h
      · omega
      · rename_i h3
        split at h
        · omega
        · rename_i h4
          refine ⟨by cases hr : t.right with | true => rfl | false => exact absurd (.inl hr) h1, by omega, by omega, by omega, by omega, by omega, h4⟩
theorem order_nil (t : Tb) (part to : Int) (w : World) :
    Calls Tryz.prog 30 #[.pointer none, t.val, .int .i64 part, .int .i64 to] w fun e w' => e = .returned (.tuple #[.int .i64 0, .int .i64 2]) ∧ Below w.heap.size w w' := by
  unfold Tb.val
  go_enter Tryz.func30, Tryz.ntmps30
  go_wp2
  go_ret2
  exact ⟨rfl, (Below.refl _ _).alloc (Nat.le_refl _) _⟩
set_option maxRecDepth 100000 in
set_option maxHeartbeats 4000000 in
theorem order_any {w : World} {p : Nat} {om : Option Nat} {m : List (Int × En)} {last : Int} (h : BookAt w p om m last) (hn : (m.map (·.1)).Nodup) (hl0 : 0 ≤ last) (t : Tb) (hI : IntsAt w t.oa t.owner) (hsep : t.owner ≠ [] → ∀ a, t.oa = some a → a.block ≠ p) (part to : Int) :
    Calls Tryz.prog 30 #[.pointer (some ⟨p, 0, none⟩), t.val, .int .i64 part, .int .i64 to] w fun e w' =>
      e = .returned (.tuple #[.int .i64 (ordF t part to m last).1, .int .i64 (ordF t part to m last).2.1]) ∧
      (∃ om', BookAt w' p om' (ordF t part to m last).2.2.1 (ordF t part to m last).2.2.2 ∧ (om' = om ∨ om = none ∧ ∃ b, om' = some b ∧ w.heap.size ≤ b)) ∧ Keep (foot p om) w w' := by
  have hmay := fun W hB => (may_any t part to W (hI.below hB))
  have hp := h.ne
  obtain ⟨c0, c1, c2, c3⟩ := h.cells
  by_cases hz : t.may part to = 0
  · obtain ⟨g1, g2, g3, g4, g5, g6, g7⟩ := may_zero hz
    obtain ⟨x, hx⟩ : ∃ x, (look part m).getD En.zero = x := ⟨_, rfl⟩
    rw [hz] at hmay
    have hlk := fun W (hB : Below w.heap.size w W) => lookEn ((h.below hB).map) part
    rw [hx] at hlk
    have H := Lib.hid h
    have HMY := Lib.hid hmay
    have HLK := Lib.hid hlk
    have HI := Lib.hid hI
    obtain ⟨x1, x2, x3, x4⟩ := x
    have hb1 : ∀ W, Below (w.heap.size + 1) (w.alloc (.cells #[.int .i64 t.ep, .int .i64 t.nodes, .slice t.oa t.owner.length t.oc] 24)) W → Below w.heap.size w W :=
      fun W hB => ((Below.refl _ w).alloc (Nat.le_refl _) _).trans (hB.mono (by omega))
    have HB1 := Lib.hid hb1
    unfold Tb.val at *
    cases hls : (look part m).isSome with
    | true =>
      have hf : ordF t part to m last = (0, 20, m, last) := by unfold ordF; rw [if_neg (by omega), if_pos hls]
      rw [hf]
      rw [hls] at hlk
      have HLK := Lib.hid hlk
      clear h hmay hlk hI hx hf hb1 hls c0 c1 c2 hz
      simp only [En.val] at *
      go_enter Tryz.func30, Tryz.ntmps30
      go_wp2_with (go_at_call 44; refine (HMY.out _ ((Below.refl _ _).alloc (Nat.le_refl _) _)).mono ?_; rintro e w1 ⟨rfl, hB⟩; simp only [World.size_alloc] at hB; have hB1 := HB1.out _ hB; obtain ⟨h0, h1, h2, h3⟩ := (H.out.below hB1).cells; have hl := HLK.out _ hB1)
      go_ret2
      exact ⟨rfl, ⟨om, (H.out.below hB1).alloc _, .inl rfl⟩, (Keep.of_below hB1 _).alloc _⟩
    | false =>
      rw [hls] at hlk
      by_cases hlast : 2147483647 ≤ last
      · have hf : ordF t part to m last = (0, 6, m, last) := by unfold ordF; rw [if_neg (by omega), if_neg (by simp [hls]), if_pos hlast]
        rw [hf]
        have HLK := Lib.hid hlk
        clear h hmay hlk hI hx hf hb1 hls c0 c1 c2 hz
        simp only [En.val] at *
        go_enter Tryz.func30, Tryz.ntmps30
        go_wp2_with (go_at_call 44; refine (HMY.out _ ((Below.refl _ _).alloc (Nat.le_refl _) _)).mono ?_; rintro e w1 ⟨rfl, hB⟩; simp only [World.size_alloc] at hB; have hB1 := HB1.out _ hB; obtain ⟨h0, h1, h2, h3⟩ := (H.out.below hB1).cells; have hl := HLK.out _ hB1)
        go_ret2
        exact ⟨rfl, ⟨om, (H.out.below hB1).alloc _, .inl rfl⟩, (Keep.of_below hB1 _).alloc _⟩
      · have hf : ordF t part to m last = (last + 1, 0, m ++ [(part, ⟨last + 1, part, t.owner[part.toNat]?.getD 0, to⟩)], last + 1) := by unfold ordF; rw [if_neg (by omega), if_neg (by simp [hls]), if_neg hlast]
        rw [hf]
        have hlast' : last < 2147483647 := by omega
        obtain ⟨k, rfl⟩ := Int.eq_ofNat_of_zero_le g3
        have hkl : k < t.owner.length := by omega
        obtain ⟨b, off, hoa, hbl, hcl⟩ := hI (by intro e; rw [e] at hkl; simp at hkl)
        have hbp : b ≠ p := hsep (by intro e; rw [e] at hkl; simp at hkl) _ hoa
        have hck := hcl k hkl
        rw [Int.toNat_natCast] at *
        obtain ⟨ow, how⟩ : ∃ ow, t.owner[k]?.getD 0 = ow := ⟨_, rfl⟩
        rw [how] at hck ⊢
        obtain ⟨ep, nodes, oa, oc, l⟩ := t
        simp only at *
        subst hoa
        have HLK := Lib.hid hlk
        have HX := Lib.hid hls
        clear h hmay hlk hI hx hf hb1 hls c0 c1 c2 hz hcl how g7 hlast
        simp only [En.val] at *
        have hmn1 := mapNil1
        have hmn2 := mapNil2
        cases om with
        | none =>
          have hmm := @run_makeMap Tryz.prog
          go_enter Tryz.func30, Tryz.ntmps30
          go_wp2_with (go_at_call 44; refine (HMY.out _ ((Below.refl _ _).alloc (Nat.le_refl _) _)).mono ?_; rintro e w1 ⟨rfl, hB⟩; simp only [World.size_alloc] at hB; have hB1 := HB1.out _ hB; obtain ⟨h0, h1, h2, h3⟩ := (H.out.below hB1).cells; have hl := HLK.out _ hB1; have hck1 := (hB1.cell (p := ⟨b, off + k, none⟩) hbl).trans hck; have ht2 : w1.cell? ⟨w.heap.size, 2, none⟩ = some (.slice (some ⟨b, off, none⟩) l.length oc) := (hB.cell (p := ⟨w.heap.size, 2, none⟩) (by simp)).trans (by go_simp))
          refine region_tail 17 (by kernel_rfl) (by kernel_rfl) (fun W2 hW2 => ?_)
          obtain ⟨bm, hbm⟩ : ∃ bm, w1.heap.size + 1 = bm := ⟨_, rfl⟩
          have hszs : w.heap.size ≤ w1.heap.size := hB1.size
          have hB2 : Keep [p] w1 W2 := by rw [hW2]; exact (((((Keep.refl _ _).setCell p 0 _ (.inl (by simp))).setCell p 1 _ (.inl (by simp))).alloc _).alloc _).drew
          have hblk : W2.heap[p]? = some (.cells #[.map (some bm), .int .i64 (last + 1)] 101 (0, 0)) := by
            have h5 := (H.out.below hB1).blk
            rw [hW2, ← hbm]
            have h6 : p ≠ w1.heap.size := by omega
            have h7 : p ≠ w1.heap.size + 1 := by omega
            simp [World.drew, World.setCell, World.alloc, Array.getElem?_modify, Array.getElem?_push, h6, h7, h5]
          have q0 : W2.cell? ⟨p, 0, none⟩ = some (.map (some bm)) := by unfold World.cell?; rw [hblk]; rfl
          have q1 : W2.cell? ⟨p, 1, none⟩ = some (.int .i64 (last + 1)) := by unfold World.cell?; rw [hblk]; rfl
          have q2 : W2.cell? ⟨b, off + k, none⟩ = some (.int .i64 ow) := (hB2.cell _ (by omega) (by simpa using hbp)).trans hck1
          have q3 : W2.cell? ⟨w.heap.size, 2, none⟩ = some (.slice (some ⟨b, off, none⟩) l.length oc) := (hB2.cell _ (by have := hB.size; simp at this; omega) (by simp; omega)).trans ht2
          have hm2 : MapIs ekI En.val W2 bm [] := by
            refine ⟨#[], 0, ?_, by simp⟩
            rw [hW2]
            exact two_alloc _ _ _ _ (by simpa [World.setCell] using hbm)
          obtain ⟨o, hrun, hmap⟩ := run_update Tryz.underlying99 (keyLaw_int Tryz.underlying3) hm2 (by simp) (k : Int) (⟨last + 1, k, ow, to⟩ : En)
          have HB2 := Lib.hid hB2
          have HW2 := Lib.hid hW2
          have HMAP := Lib.hid hmap
          have HBLK := Lib.hid hblk
          have HBM := Lib.hid hbm
          have hbp2 : bm ≠ p := by omega
          simp only [En.val] at hrun
          clear hB2 hW2 hmap hm2 hblk hl h0 h1 hck1 ht2 HLK hbm
          simp only [List.take_succ_cons, List.take_zero, List.drop_succ_cons, List.drop_zero]
          iterate 17
            refine wpStill_step (fun K hK => ?_)
            go_simp
            refine hK _ ?_
            clear hK K
          refine wpStill_nil ?_
          have r0 : (setBlock W2 bm o).cell? ⟨p, 1, none⟩ = some (.int .i64 (last + 1)) := (World.cell?_of_block (w := W2) (setBlock_ne W2 bm p o hbp2)).trans q1
          go_wp2
          go_ret2
          go_light
          refine ⟨by first | rfl | trivial, ⟨some bm, ⟨?_, ?_⟩, .inr ⟨by first | rfl | trivial, bm, rfl, ?_⟩⟩, ?_⟩
          · rw [setBlock_ne _ _ _ _ hbp2]
            exact HBLK.out
          · have hm0 : m = [] := H.out.map
            have := HMAP.out
            rw [hm0]
            exact this
          · have := HBM.out; omega
          · have kk := (Keep.of_below hB1 (foot p none)).trans (HB2.out.mono (by intro x hx; simp at hx; subst hx; exact .inl (by simp [foot])))
            exact kk.setBlock bm o (.inr (by have := HBM.out; omega))
        | some bm =>
          go_enter Tryz.func30, Tryz.ntmps30
          go_wp2_with (go_at_call 44; refine (HMY.out _ ((Below.refl _ _).alloc (Nat.le_refl _) _)).mono ?_; rintro e w1 ⟨rfl, hB⟩; simp only [World.size_alloc] at hB; have hB1 := HB1.out _ hB; obtain ⟨h0, h1, h2, h3⟩ := (H.out.below hB1).cells; have hl := HLK.out _ hB1; have hck1 := (hB1.cell (p := ⟨b, off + k, none⟩) hbl).trans hck; have ht2 : w1.cell? ⟨w.heap.size, 2, none⟩ = some (.slice (some ⟨b, off, none⟩) l.length oc) := (hB.cell (p := ⟨w.heap.size, 2, none⟩) (by simp)).trans (by go_simp))
          refine region_tail 17 (by kernel_rfl) (by kernel_rfl) (fun W2 hW2 => ?_)
          have hB2 : Keep [p] w1 W2 := by rw [hW2]; exact (((Keep.refl _ _).setCell p 1 _ (.inl (by simp))).alloc _).drew
          have q0 : W2.cell? ⟨p, 0, none⟩ = some (.map (some bm)) := by rw [hW2]; go_simp
          have q1 : W2.cell? ⟨p, 1, none⟩ = some (.int .i64 (last + 1)) := by rw [hW2]; go_simp
          have q2 : W2.cell? ⟨b, off + k, none⟩ = some (.int .i64 ow) := (hB2.cell _ (by have := hB1.size; omega) (by simpa using hbp)).trans hck1
          have q3 : W2.cell? ⟨w.heap.size, 2, none⟩ = some (.slice (some ⟨b, off, none⟩) l.length oc) := (hB2.cell _ (by have := hB.size; simp at this; omega) (by simp; omega)).trans ht2
          have hm2 : MapIs ekI En.val W2 bm m := MapIs.keep (H.out.below hB1).map hB2 (by simp; intro e; exact hp (by rw [e]))
          obtain ⟨o, hrun, hmap⟩ := run_update Tryz.underlying99 (keyLaw_int Tryz.underlying3) hm2 hn (k : Int) (⟨last + 1, k, ow, to⟩ : En)
          have hblk : W2.heap[p]? = some (.cells #[.map (some bm), .int .i64 (last + 1)] 101 (0, 0)) := by
            have h5 := (H.out.below hB1).blk
            rw [hW2]
            show ((w1.setCell ⟨p, 1, none⟩ (.int .i64 (last + 1))).alloc _).heap[p]? = _
            rw [Below.heap_alloc _ _ _ (by simp [World.setCell]; exact h3)]
            simp [World.setCell, Array.getElem?_modify, h5]
          have HB2 := Lib.hid hB2
          have HW2 := Lib.hid hW2
          have HMAP := Lib.hid hmap
          have HBLK := Lib.hid hblk
          simp only [En.val] at hrun
          clear hB2 hW2 hmap hm2 hblk hl h0 h1 hck1 ht2 HLK
          simp only [List.take_succ_cons, List.take_zero, List.drop_succ_cons, List.drop_zero]
          iterate 17
            refine wpStill_step (fun K hK => ?_)
            go_simp
            refine hK _ ?_
            clear hK K
          refine wpStill_nil ?_
          have r0 : (setBlock W2 bm o).cell? ⟨p, 1, none⟩ = some (.int .i64 (last + 1)) := (World.cell?_of_block (w := W2) (setBlock_ne W2 bm p o (fun e => hp (by rw [e])))).trans q1
          go_wp2
          go_ret2
          refine ⟨rfl, ⟨some bm, ⟨?_, ?_⟩, .inl rfl⟩, ?_⟩
          · rw [setBlock_ne _ _ _ _ (fun e => hp (by rw [e]))]
            exact HBLK.out
          · have hnone : (look (k : Int) m).isSome = false := HX.out
            have := HMAP.out
            rw [put, if_neg (by simp [hnone])] at this
            exact this
          · have kk := (Keep.of_below hB1 (foot p (some bm))).trans (HB2.out.mono (by intro x hx; simp at hx; subst hx; exact .inl (by simp [foot])))
            exact kk.setBlock bm o (.inl (by simp [foot]))
  · have hf : ordF t part to m last = (0, t.may part to, m, last) := by unfold ordF; rw [if_pos hz]
    rw [hf]
    obtain ⟨e0, he⟩ : ∃ e0, t.may part to = e0 := ⟨_, rfl⟩
    rw [he] at hmay hz ⊢
    have hz' : (e0 != 0) = true := by simpa using hz
    have HM := Lib.hid hmay
    have H := Lib.hid h
    unfold Tb.val at *
    clear hmay h hf hz he c0 c1 c2 hI
    go_enter Tryz.func30, Tryz.ntmps30
    go_wp2_with (go_at_call 44; refine (HM.out _ ((Below.refl _ _).alloc (Nat.le_refl _) _)).mono ?_; rintro e w1 ⟨rfl, hB⟩)
    go_ret2
    have hB1 : Below w.heap.size w w1 := ((Below.refl _ w).alloc (Nat.le_refl _) _).trans (hB.mono (by simp))
    exact ⟨rfl, ⟨om, H.out.below hB1, .inl rfl⟩, Keep.of_below hB1 _⟩
end Go.Proofs.YteejdfpfdnkiiaaGreat
