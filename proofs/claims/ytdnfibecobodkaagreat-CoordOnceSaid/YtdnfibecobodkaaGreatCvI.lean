/- The book of moves: By; the laws' own book contracts. -/
import Derived.Test.YtdnfibecobodkaaGreatCvH
namespace Go.Proofs.YtdnfibecobodkaaGreat
open Go.RowKit Go.Shelf Go.Lib
open Go.ChangeMaps (setBlock)
open Go.Sort (HoldsK)
set_option linter.unusedSimpArgs false
set_option linter.unusedVariables false
def findMv (k : Int) (L : List En) : Option En := L.find? fun x => decide (x.mv = k)
theorem ensAt_cells {base : Nat} {W : World} {A : Option Addr} {L : List En} (h : EnsAt base W A L) {k : Nat} {x : En} (hx : L[k]? = some x) :
    ∃ g, A = some ⟨g, 0, none⟩ ∧ base ≤ g ∧ g < W.heap.size ∧ W.cell? ⟨g, k * 4, none⟩ = some (.int .i64 x.mv) ∧ W.cell? ⟨g, k * 4 + 1, none⟩ = some (.int .i64 x.part) ∧ W.cell? ⟨g, k * 4 + 2, none⟩ = some (.int .i64 x.fr) ∧ W.cell? ⟨g, k * 4 + 3, none⟩ = some (.int .i64 x.to) := by
  have hlt := (List.getElem?_eq_some_iff.1 hx).1
  obtain ⟨g, h1, h2, h3, h4⟩ := h (by intro e; rw [e] at hlt; simp at hlt)
  have hk : k < L.toArray.size := by simpa using hlt
  have he : L.toArray[k]! = x := by
    rw [getElem!_pos L.toArray k hk]
    rw [List.getElem?_eq_getElem hlt] at hx
    simpa using hx
  have c0 := (h4.cell hk (c := 0) (by omega)).1
  have c1 := (h4.cell hk (c := 1) (by omega)).1
  have c2 := (h4.cell hk (c := 2) (by omega)).1
  have c3 := (h4.cell hk (c := 3) (by omega)).1
  rw [he] at c0 c1 c2 c3
  simp only [Nat.zero_add, Nat.add_zero] at c0 c1 c2 c3
  exact ⟨g, h1, h2, h3, c0, c1, c2, c3⟩
theorem EnsAt.below {base : Nat} {W W' : World} {A : Option Addr} {L : List En} (h : EnsAt base W A L) (hb : Below W.heap.size W W') : EnsAt base W' A L := by
  intro hL
  obtain ⟨g, h1, h2, h3, h4⟩ := h hL
  refine ⟨g, h1, h2, Nat.lt_of_lt_of_le h3 hb.size, fun j hj => ?_⟩
  obtain ⟨h5, h6⟩ := h4 j hj
  exact ⟨(hb.cell (p := ⟨g, 0 + j, none⟩) h3).trans h5, (World.frozen?_of_block (w := W) (hb.block g h3)).trans h6⟩
def ByP (w : World) (o : Option En) (e : Ending) (w' : World) : Prop := e = .returned (.tuple #[(o.getD En.zero).val, .bool o.isSome]) ∧ Below w.heap.size w w'
set_option maxHeartbeats 4000000 in
theorem by_gen {ptr : Value} {w : World} {L : List En} (hL : L.length ≤ 1000) (k : Int) (hall : ∀ W, Below w.heap.size w W → Calls Tryz.prog 38 #[ptr] W (AllP W L)) :
    Calls Tryz.prog 40 #[ptr, .int .i64 k] w (ByP w (findMv k L)) := by
  have HALL := Lib.hid hall
  clear hall
  go_enter Tryz.func40, Tryz.ntmps40
  go_wp2_with (go_at_call 38; refine (HALL.out _ ((Below.refl _ _).alloc (Nat.le_refl _) _)).mono ?_; rintro e w1 ⟨A, c, rfl, hE, hB⟩)
  have hz : w1.heap[w.heap.size]? = some (.cells #[.int .i64 0, .int .i64 0, .int .i64 0, .int .i64 0] 85 (0, 0)) := (hB.block _ (by simp)).trans (World.alloc_heap_new w _)
  go_loopw [11] (fun i wr => ∃ j : Nat, i = .int .i64 j ∧ j ≤ L.length ∧ findMv k (L.take j) = none ∧ EnsAt (w.heap.size + 1) wr A L ∧ wr.heap[w.heap.size]? = some (.cells #[.int .i64 0, .int .i64 0, .int .i64 0, .int .i64 0] 85 (0, 0)) ∧ Below w.heap.size w wr) (fun i _ => L.length - (intOf i).toNat)
  case atStart => exact ⟨0, rfl, Nat.zero_le _, rfl, by simpa using hE, hz, ((Below.refl _ _).alloc (Nat.le_refl _) _).trans (hB.mono (by simp))⟩
  case round =>
    clear hB hE hz
    obtain ⟨j, rfl, hj, hnone, hE, hz, hB⟩ := hrel
    have hsz := lt_of_heap hz
    have z0 : wr.cell? ⟨w.heap.size, 0, none⟩ = some (.int .i64 0) := by unfold World.cell?; rw [hz]; rfl
    have z1 : wr.cell? ⟨w.heap.size, 1, none⟩ = some (.int .i64 0) := by unfold World.cell?; rw [hz]; rfl
    have z2 : wr.cell? ⟨w.heap.size, 2, none⟩ = some (.int .i64 0) := by unfold World.cell?; rw [hz]; rfl
    have z3 : wr.cell? ⟨w.heap.size, 3, none⟩ = some (.int .i64 0) := by unfold World.cell?; rw [hz]; rfl
    have zf : ∀ o, wr.frozen? ⟨w.heap.size, o, none⟩ = false := fun o => by unfold World.frozen?; rw [hz]; simp
    by_cases hlt : j < L.length
    · obtain ⟨x, hx⟩ : ∃ x, L[j]? = some x := ⟨L[j], List.getElem?_eq_getElem hlt⟩
      obtain ⟨g, rfl, hg0, hg1, h0, h1, h2, h3⟩ := ensAt_cells hE hx
      have ht : L.take (j + 1) = L.take j ++ [x] := by rw [List.take_add_one, hx]; rfl
      have hnx : findMv k (L.take (j + 1)) = if x.mv = k then some x else none := by
        unfold findMv at hnone ⊢
        rw [ht, List.find?_append, hnone]
        by_cases hm : x.mv = k <;> simp [hm]
      have hful : x.mv = k → findMv k L = some x := by
        intro hm
        have e : L = L.take (j + 1) ++ L.drop (j + 1) := (List.take_append_drop _ _).symm
        unfold findMv at hnx ⊢
        rw [e, List.find?_append, hnx, if_pos hm]; rfl
      have HN := Lib.hid hnx
      have HF := Lib.hid hful
      have HE := Lib.hid hE
      have HZ := Lib.hid hz
      obtain ⟨x1, x2, x3, x4⟩ := x
      simp only at h0 h1 h2 h3
      by_cases hm : x1 = k
      · have hfu := hful hm
        have HFU := Lib.hid hfu
        subst hm
        clear hfu HN HF
        clear hnx hful hnone ht hx hE hz
        go_wp2_with (fail)
        refine bodyPost_ret (v := .tuple #[(⟨x1, x2, x3, x4⟩ : En).val, .bool true]) (by simp [results, Tryz.results40, go_sem, En.val, z0, z1, z2, z3, hsz]) rfl ⟨by rw [HFU.out]; rfl, ?_⟩
        repeat' (first | exact hB | refine Below.setCell ?_ (by simp) _ | refine Below.alloc ?_ (by simp; omega) _)
      · clear hnx hful hnone ht hx hE hz
        go_wp2_with (fail)
        go_roundw
        case rel =>
          refine ⟨j + 1, by go_num, by omega, by rw [HN.out, if_neg hm], ?_, ?_, hB.alloc (by omega) _⟩
          · exact HE.out.below ((Below.refl _ _).alloc (Nat.le_refl _) _)
          · exact (Below.heap_alloc _ _ _ hsz).trans HZ.out
        case measure => go_light; simp [intOf]; omega
    · obtain rfl : j = L.length := by omega
      rw [List.take_length] at hnone
      have HN := Lib.hid hnone
      clear hnone hE hz
      go_wp2_with (fail)
      refine bodyPost_ret (v := .tuple #[En.zero.val, .bool false]) (by simp [results, Tryz.results40, go_sem, En.val, En.zero, z0, z1, z2, z3, hsz]) rfl ⟨by rw [HN.out]; rfl, ?_⟩
      repeat' (first | exact hB | refine Below.setCell ?_ (by simp) _ | refine Below.alloc ?_ (by simp; omega) _)
end Go.Proofs.YtdnfibecobodkaaGreat
