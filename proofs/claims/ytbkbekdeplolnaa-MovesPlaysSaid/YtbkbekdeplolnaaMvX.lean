/- The document's book: End. -/
import Derived.Test.YtbkbekdeplolnaaMvW
namespace Go.Proofs.Ytbkbekdeplolnaa
open Go.RowKit Go.Shelf Go.Lib
open Go.ChangeMaps (setBlock)
open Go.Sort (HoldsK size_flatK get_flatK)
set_option linter.unusedSimpArgs false
set_option linter.unusedVariables false
theorem holdsK_of_own' {w : World} {base g cap : Nat} {e : TypeId} {l : List En} (h : w.ownsRow base e 4 (.slice (some ⟨g, 0, none⟩) l.length cap) l.length (flatEn l)) (hl : l ≠ []) :
    HoldsK En.enc 4 w g 0 l.toArray ∧ base ≤ g ∧ g < w.heap.size := by
  obtain ⟨h1, h2⟩ := h
  rcases h2 with ⟨h3, h4⟩ | ⟨g', cap', cur, hv, hb, hg, hn, hc, hcs, htk⟩
  · exact absurd (List.length_eq_zero_iff.1 h4) hl
  · simp only [Value.slice.injEq, Option.some.injEq, Addr.mk.injEq, and_true, true_and] at hv
    obtain ⟨rfl, rfl⟩ := hv
    refine ⟨?_, hb, lt_of_heap hg⟩
    intro j hj
    rw [size_flatK] at hj
    have hj' : j < l.length * 4 := by simpa using hj
    have hcj : cur[j]? = some ((En.enc (l.toArray[j / 4]!))[j % 4]!) := by
      rw [← flatEn_get l j hj', ← htk, List.getElem?_take_of_lt hj', Array.getElem?_toList]
    refine ⟨?_, ?_⟩
    · rw [get_flatK _ _ _ _ hj]
      unfold World.cell?
      simp only [Nat.zero_add]
      rw [hg]
      exact hcj
    · unfold World.frozen?
      rw [hg]
      simp
theorem own_none {w : World} {base n k size c : Nat} {e : TypeId} {xs : List Value} (h : w.ownsRow base e size (.slice none k c) n xs) : c = 0 := by
  rcases h.2 with ⟨hv, _⟩ | ⟨g, cap, cur, hv, _⟩
  · cases hv; rfl
  · cases hv
theorem ensAt_of_own {w : World} {base : Nat} {e : TypeId} {A : Option Addr} {c : Nat} {l : List En} (h : w.ownsRow base e 4 (.slice A l.length c) l.length (flatEn l)) : EnsAt base w A l := by
  intro hl
  obtain ⟨a, c', hv, ha⟩ := own_shape h
  cases hv
  rcases ha with rfl | ⟨g, rfl⟩
  · rcases h.2 with ⟨_, h0⟩ | ⟨g, cap, cur, hv, _⟩
    · exact absurd (List.length_eq_zero_iff.1 h0) hl
    · cases hv
  · obtain ⟨h1, h2, h3⟩ := holdsK_of_own' h hl
    exact ⟨g, rfl, h2, h3, h1⟩
theorem EnsAt.keep {X : List Nat} {base : Nat} {W W' : World} {A : Option Addr} {L : List En} (h : EnsAt base W A L) (hk : Keep X W W') (hx : ∀ g ∈ X, g < base) : EnsAt base W' A L := by
  intro hL
  obtain ⟨g, h1, h2, h3, h4⟩ := h hL
  have hg : g ∉ X := fun hm => by have := hx g hm; omega
  refine ⟨g, h1, h2, Nat.lt_of_lt_of_le h3 hk.size, fun j hj => ?_⟩
  obtain ⟨h5, h6⟩ := h4 j hj
  exact ⟨(hk.cell _ h3 hg).trans h5, (World.frozen?_of_block (w := W) (hk.block g h3 hg)).trans h6⟩
theorem EnsAt.weaken {base b : Nat} {W : World} {A : Option Addr} {L : List En} (h : EnsAt base W A L) (hb : b ≤ base) : EnsAt b W A L := by
  intro hL
  obtain ⟨g, h1, h2, h3, h4⟩ := h hL
  exact ⟨g, h1, Nat.le_trans hb h2, h3, h4⟩
/-- A box of two fields. -/
def Box2 (W : World) (b : Nat) (x y : Value) (t : TypeId) : Prop := W.heap[b]? = some (.cells #[x, y] t (0, 0))
theorem Box2.facts {W : World} {b : Nat} {x y : Value} {t : TypeId} (h : Box2 W b x y t) : W.cell? ⟨b, 0, none⟩ = some x ∧ W.cell? ⟨b, 1, none⟩ = some y ∧ b < W.heap.size ∧ ∀ o, W.frozen? ⟨b, o, none⟩ = false := by
  refine ⟨?_, ?_, lt_of_heap h, fun o => ?_⟩
  · unfold World.cell?; rw [h]; rfl
  · unfold World.cell?; rw [h]; rfl
  · unfold World.frozen?; rw [h]; simp
theorem Box2.keep {X : List Nat} {W W' : World} {b : Nat} {x y : Value} {t : TypeId} (h : Box2 W b x y t) (hk : Keep X W W') (hx : b ∉ X) : Box2 W' b x y t := (hk.block b (lt_of_heap h) hx).trans h
theorem Box2.below {W W' : World} {b : Nat} {x y : Value} {t : TypeId} (h : Box2 W b x y t) (hk : Below W.heap.size W W') : Box2 W' b x y t := (hk.block b (lt_of_heap h)).trans h
theorem Box2.new (W : World) (x y : Value) (t : TypeId) : Box2 (W.alloc (.cells #[x, y] t)) W.heap.size x y t := World.alloc_heap_new W _
theorem infoRe : (Try.prog.info? 63).map (fun i => (i.zero, i.size, i.bytes)) = some (some En.zero.val, 4, 32) := by kernel_rfl
def endL (k : Int) (L : List En) : List En := L.filter fun x => decide (x.part ≠ k)
theorem endL_take {k : Int} {L : List En} {j : Nat} {x : En} (hx : L[j]? = some x) : endL k (L.take (j + 1)) = endL k (L.take j) ++ (if x.part = k then [] else [x]) := by
  unfold endL
  rw [List.take_add_one, hx, List.filter_append]
  by_cases h : x.part = k <;> simp [h]
theorem endL_len (k : Int) (L : List En) (j : Nat) : (endL k (L.take j)).length ≤ j := by
  unfold endL
  refine Nat.le_trans (List.length_filter_le _ _) ?_
  rw [List.length_take]; omega
def EndP (w : World) (k : Int) (L : List En) (last : Int) (e : Ending) (w' : World) : Prop :=
  ∃ A' c', e = .returned (.tuple #[refB A' (endL k L).length c' last, .bool (decide ((endL k L).length < L.length))]) ∧ EnsAt w.heap.size w' A' (endL k L) ∧ (A' = none → c' = 0) ∧ Below w.heap.size w w'
set_option maxRecDepth 100000 in
set_option maxHeartbeats 4000000 in
theorem refEnd_any {w : World} {A : Option Addr} {c base : Nat} {L : List En} {last : Int} (hE : EnsAt base w A L) (hL : L.length ≤ 1000) (k : Int) :
    Calls Try.prog 39 #[refB A L.length c last, .int .i64 k] w (EndP w k L last) := by
  have h1 : Below w.heap.size w (w.alloc (.cells #[.slice A L.length c, .int .i64 last] 58)) := (Below.refl _ w).alloc (Nat.le_refl _) _
  have h2 := h1.alloc (by simp) (.cells #[.slice none 0 0, .int .i64 0] 58)
  have hb0 := (Box2.new w (.slice A L.length c) (.int .i64 last) 58).below ((Below.refl _ _).alloc (Nat.le_refl _) (.cells #[.slice none 0 0, .int .i64 0] 58))
  have hr0 := Box2.new (w.alloc (.cells #[.slice A L.length c, .int .i64 last] 58)) (.slice none 0 0) (.int .i64 0) 58
  rw [World.size_alloc] at hr0
  have hE2 := hE.below h2
  obtain ⟨w2, hw2⟩ : ∃ w2, (w.alloc (.cells #[.slice A L.length c, .int .i64 last] 58)).alloc (.cells #[.slice none 0 0, .int .i64 0] 58) = w2 := ⟨_, rfl⟩
  rw [hw2] at h2 hb0 hr0 hE2
  have hsz2 : w2.heap.size = w.heap.size + 2 := by rw [← hw2]; simp
  obtain ⟨x0, x1, x3, _⟩ := hb0.facts
  have hgr := hr0.facts.2.2.1
  have HB := Lib.hid h2
  have HE := Lib.hid hE2
  have HR0 := Lib.hid hr0
  have HSZ := Lib.hid hsz2
  clear h1 h2 hb0 hr0 hE hE2 hsz2
  unfold refB
  go_enter Try.func39, Try.ntmps39
  go_wp2_with (fail)
  clear hw2
  go_loopw [6, 7] (fun v i wr => ∃ j : Nat, i = .int .i64 j ∧ j ≤ L.length ∧ Below w2.heap.size w2 wr ∧ wr.ownsRow (w.heap.size + 2) 63 4 v (endL k (L.take j)).length (flatEn (endL k (L.take j)))) (fun v i _ => L.length - (intOf i).toNat)
  case atStart => exact ⟨0, rfl, Nat.zero_le _, Below.refl _ _, World.ownsRow_nil _ _ _ _⟩
  case round =>
    obtain ⟨j, rfl, hj, hBr, hown⟩ := hrel
    obtain ⟨av, cv, rfl, hav⟩ := own_shape hown
    replace x0 := (hBr.cell (p := ⟨w.heap.size, 0, none⟩) x3).trans x0
    replace x1 := (hBr.cell (p := ⟨w.heap.size, 1, none⟩) x3).trans x1
    have hbr := hBr.size
    have hwr1 : w.heap.size < wr.heap.size := by omega
    have HBR := Lib.hid hBr
    have HOX := Lib.hid hown
    obtain ⟨i0, hi, hi0, hi1, hi2⟩ := info_parts infoRe
    by_cases hjl : j < L.length
    · obtain ⟨x, hx⟩ : ∃ x, L[j]? = some x := ⟨L[j], List.getElem?_eq_getElem hjl⟩
      obtain ⟨g, rfl, hg0, hg1, a0, a1, a2, a3⟩ := ensAt_cells (HE.out.below HBR.out) hx
      have htk := endL_take (k := k) hx
      have hln := endL_len k L j
      obtain ⟨acc, hacc⟩ : ∃ acc, endL k (L.take j) = acc := ⟨_, rfl⟩
      rw [hacc] at htk hln hown HOX ⊢
      obtain ⟨e1, e2, e3, e4⟩ := x
      simp only at htk a0 a1 a2 a3
      have HTK := Lib.hid htk
      clear hx hBr hown hav hacc htk
      by_cases hp : e2 = k
      · subst hp
        go_wp2_with (fail)
        go_roundw
        case rel => exact ⟨j + 1, by go_num, by omega, HBR.out, by rw [HTK.out, if_pos rfl, List.append_nil]; exact HOX.out⟩
        case measure => go_light; simp [intOf]; omega
      · have hpb : (e2 == k) = false := by simp [hp]
        have hpn : (e2 != k) = true := by simp [hp]
        have hpd : decide (e2 = k) = false := by simp [hp]
        go_wp2_with (at_builtin; refine wpList_append_own _ rfl _ _ 56 rfl (w.heap.size + 2) 63 i0 En.zero.val 4 32 Try.underlying56 hi hi0 hi1 hi2 rfl (by decide) _ _ _ rfl (HOX.out.alloc _) ⟨wr.heap.size, 0, none⟩ 1 1 [.int .i64 e1, .int .i64 e2, .int .i64 e3, .int .i64 e4] rfl rfl ?c1 ?c2 ?c3 ?c4 ?c5 ?_)
        case c1 => exact cells_new _ _ _ _ (by simp)
        case c2 => simp [Value.oneCell']
        case c3 => unfold maxLen; omega
        case c4 => omega
        case c5 => simp; omega
        intro v' w4 hown' hgrow _
        have hB4 : Below w2.heap.size w2 w4 := (HBR.out.alloc (by have := HBR.out.size; omega) _).grown hgrow (by simp; have := HBR.out.size; omega) (fun g hg => by have := own_base HOX.out g hg; have := HSZ.out; omega)
        have HB4 := Lib.hid hB4
        have HO4 := Lib.hid hown'
        clear hgrow hB4 hown'
        go_wp2
        go_roundw
        case rel =>
          refine ⟨j + 1, by go_num, by omega, HB4.out, ?_⟩
          rw [HTK.out, if_neg hp]
          have e : flatEn (acc ++ [(⟨e1, e2, e3, e4⟩ : En)]) = flatEn acc ++ [.int .i64 e1, .int .i64 e2, .int .i64 e3, .int .i64 e4] := by simp [flatEn, En.enc]
          rw [e, List.length_append]
          exact HO4.out
        case measure => go_light; simp [intOf]; omega
    · obtain rfl : j = L.length := by omega
      have hr1 := HR0.out.below HBR.out
      obtain ⟨z0, z1, z3, zf⟩ := hr1.facts
      rw [List.take_length] at HOX hown ⊢
      obtain ⟨acc, hacc⟩ : ∃ acc, endL k L = acc := ⟨_, rfl⟩
      rw [hacc] at HOX hown ⊢
      have HAC := Lib.hid hacc
      clear hBr hown hav hr1 hacc
      go_wp2_with (fail)
      go_region
      all_goals go_wp2
      all_goals
        unfold EndP
        rw [HAC.out]
        refine bodyPost_ret (v := .tuple #[refB av acc.length cv last, .bool (decide (acc.length < L.length))]) (by simp [results, Try.results39, go_sem, refB, z0, z1, z3]) rfl ?_
        refine ⟨av, cv, rfl, (EnsAt.keep (X := [w.heap.size + 1]) (ensAt_of_own HOX.out) ?_ (by simp)).weaken (by omega), fun h => own_none (h ▸ HOX.out), ?_⟩
        · repeat' (first | exact Keep.refl _ _ | refine Keep.setCell ?_ _ _ _ (.inl (by simp)) | refine Keep.drew ?_)
        · repeat' (first | exact HB.out.trans (HBR.out.mono HB.out.size) | refine Below.setCell ?_ (by simp) _ | refine Below.drew ?_)
end Go.Proofs.Ytbkbekdeplolnaa
