/- The sort of windows; rows of windows in memory. -/
import Derived.Test.YtmhbibcfbencnaaStI
import Derived.Carry
namespace Go.Proofs.Ytmhbibcfbencnaa
open Go.RowKit Go.Shelf Go.Lib Go.Sort
set_option linter.unusedSimpArgs false
set_option linter.unusedVariables false
section
variable {α : Type} {enc : α → List Value} {k : Nat}
def flatE (enc : α → List Value) (l : List α) : List Value := l.flatMap enc
theorem flatE_len (hk : ∀ x, (enc x).length = k) (l : List α) : (flatE enc l).length = l.length * k := by
  induction l with
  | nil => simp [flatE]
  | cons x r ih => simp only [flatE, List.flatMap_cons, List.length_append, List.length_cons] at *; rw [ih, hk, Nat.succ_mul, Nat.add_comm]
variable [Inhabited α]
theorem flatE_get (hk0 : 0 < k) (hk : ∀ x, (enc x).length = k) (l : List α) (j : Nat) (h : j < l.length * k) : (flatE enc l)[j]? = some ((enc (l.toArray[j / k]!))[j % k]!) := by
  induction l generalizing j with
  | nil => simp at h
  | cons x r ih =>
    have e : flatE enc (x :: r) = enc x ++ flatE enc r := by simp [flatE]
    rw [e]
    by_cases hj : j < k
    · rw [List.getElem?_append_left (by rw [hk]; exact hj)]
      have h0 : j / k = 0 := Nat.div_eq_of_lt hj
      have h1 : j % k = j := Nat.mod_eq_of_lt hj
      rw [h0, h1, List.getElem?_eq_getElem (by rw [hk]; exact hj)]
      simp only [List.size_toArray, List.length_cons, Nat.zero_lt_succ, getElem!_pos, List.getElem_toArray, List.getElem_cons_zero]
      rw [getElem!_pos (enc x) j (by rw [hk]; exact hj)]
    · rw [List.getElem?_append_right (by rw [hk]; omega), hk]
      have h2 : j - k < r.length * k := by simp only [List.length_cons, Nat.succ_mul] at h; omega
      rw [ih (j - k) h2]
      have h0 : j / k = (j - k) / k + 1 := by rw [Nat.div_eq_sub_div hk0 (by omega)]
      have h1 : j % k = (j - k) % k := by rw [Nat.mod_eq_sub_mod (by omega)]
      rw [h0, h1]
      have hlt : (j - k) / k < r.length := Nat.div_lt_of_lt_mul (by rw [Nat.mul_comm]; exact h2)
      rw [getElem!_pos (x :: r).toArray _ (by simp; omega), getElem!_pos r.toArray _ (by simpa using hlt)]
      simp
/-- A row that was gathered here is held as the sort asks it. -/
theorem holdsE_of_own (hk0 : 0 < k) (hk : ∀ x, (enc x).length = k) {w : World} {T base g cap : Nat} {l : List α} (h : w.ownsRow base T k (.slice (some ⟨g, 0, none⟩) l.length cap) l.length (flatE enc l)) (hl : l ≠ []) :
    HoldsK enc k w g 0 l.toArray ∧ base ≤ g ∧ g < w.heap.size := by
  obtain ⟨h1, h2⟩ := h
  rcases h2 with ⟨h3, h4⟩ | ⟨g', cap', cur, hv, hb, hg, hn, hc, hcs, htk⟩
  · exact absurd (List.length_eq_zero_iff.1 h4) hl
  · simp only [Value.slice.injEq, Option.some.injEq, Addr.mk.injEq, and_true, true_and] at hv
    obtain ⟨rfl, rfl⟩ := hv
    refine ⟨?_, hb, lt_of_heap hg⟩
    intro j hj
    rw [size_flatK] at hj
    have hj' : j < l.length * k := by simpa using hj
    have hcj : cur[j]? = some ((enc (l.toArray[j / k]!))[j % k]!) := by
      rw [← flatE_get hk0 hk l j hj', ← htk, List.getElem?_take_of_lt hj', Array.getElem?_toList]
    refine ⟨?_, ?_⟩
    · rw [get_flatK _ _ _ _ hj]
      unfold World.cell?
      simp only [Nat.zero_add]
      rw [hg]
      exact hcj
    · unfold World.frozen?
      rw [hg]
      simp
theorem keep_putRowE {w : World} {g : Nat} (d : Array α) : Keep [g] w (putRowK enc k w g 0 d) := by
  refine ⟨rfl, rfl, rfl, by simp [putRowK], fun i hi hx => ?_⟩
  have hne : g ≠ i := fun e => hx (by simp [e])
  simp [putRowK, putRow, mapBlock, Array.getElem?_modify, hne]
end
theorem keep_grow {X : List Nat} {w W : World} (h : Keep X w W) (os : Array Obj) : Keep X w (grow W os) :=
  ⟨h.os, h.tape, h.output, Nat.le_trans h.size (by simp), fun k hk hx => (heap_grow_old W os (Nat.lt_of_lt_of_le hk h.size)).trans (h.block k hk hx)⟩
/-- The sort: at whatever length. -/
theorem sortO_any (l : List Ot) (g cap : Nat) (w : World) (hH : HoldsK Ot.enc 10 w g 0 l.toArray) (hg : g < w.heap.size) (hl : l.length ≤ 1000) :
    Calls Try.prog 55 #[.slice (some ⟨g, 0, none⟩) l.length cap, .func (.func 56) #[] #[]] w fun e w' =>
      e = .returned (.tuple #[]) ∧ ∃ l' : List Ot, l'.Perm l ∧ l'.Pairwise (fun x y => ¬ ltO y x) ∧ HoldsK Ot.enc 10 w' g 0 l'.toArray ∧ Keep [g] w w' := by
  have eg : ∀ args w, (callFunc 56 args).run Try.prog w = .ok (.enter 56 args) w := enters_of Try.func56 (by kernel_rfl) rfl
  have hcon := AnyQ.slices_SortFunc sortOt 10 Try.isAgg33 Try.sizeOf33 Ot.enc (fun _ => rfl) (fun x v hv => by simp [Ot.enc] at hv; rcases hv with rfl | rfl | rfl | rfl | rfl | rfl | rfl | rfl | rfl | rfl <;> rfl) cfOt swoOt 56 #[] g 0 cap l.toArray w eg (fun _ _ _ _ x y => lessO_any x y _) hH hg (by simp; omega)
  refine Calls.mono hcon ?_
  rintro e w' ⟨rfl, d', n, os, ⟨hs, _, hp⟩, hsrt, rfl⟩
  have hsz : d'.size = l.length := by simpa using hs
  refine ⟨rfl, d'.toList, ?_, ?_, ?_, ?_⟩
  · simpa [Array.extract_eq_self_of_le, hsz] using hp
  · rw [List.pairwise_iff_getElem]
    intro i j hi hj hij hlt
    have := hsrt i j (Nat.zero_le _) hij (by simpa [hsz] using hj)
    have h2 := (ltOt _ _).2 hlt
    simp only [Array.getElem_toList] at h2
    rw [getElem!_pos d' i (by simpa using hi), getElem!_pos d' j (by simpa using hj)] at this
    rw [h2] at this
    cases this
  · unfold sortWorldK
    exact holdsK_grow _ _ _ _ _ _ _ (by simpa [putRowK, Sort.ahead] using hg) (holdsK_putRowK _ _ _ _ _ l.toArray _ (holdsK_ahead _ _ w n g 0 _ hH) (by simpa using hs))
  · have h0 : Keep [g] w (Sort.ahead w n) := ⟨rfl, rfl, rfl, Nat.le_refl _, fun _ _ _ => rfl⟩
    have h1 := h0.trans (keep_putRowE (enc := Ot.enc) (k := 10) d')
    exact keep_grow h1 os
theorem insO_none (p : Option Addr) (cap : Nat) (fv : Value) (w : World) :
    Calls Try.prog 87 #[.slice p 0 cap, .int .i64 0, .int .i64 0, fv] w fun e w' => e = .returned (.tuple #[]) ∧ w = w' := by
  go_enter Try.func87, Try.ntmps87
  go_wp2
  refine wp_loop_rounds 1 ?_
  rw [rounds_succ]
  go_wp2
  go_end0
  exact ⟨rfl, rfl⟩
theorem pdqO_none (p : Option Addr) (cap : Nat) (lim : Int) (fv : Value) (w : World) :
    Calls Try.prog 76 #[.slice p 0 cap, .int .i64 0, .int .i64 0, .int .i64 lim, fv] w fun e w' => e = .returned (.tuple #[]) ∧ w = w' := by
  go_enter Try.func76, Try.ntmps76
  go_wp2
  refine wp_loop_rounds 1 ?_
  rw [rounds_succ]
  go_wp2_with (go_at_call 87; refine (insO_none _ _ _ _).mono ?_; rintro e w' ⟨rfl, rfl⟩)
  (try simp only [Exit.inBlock, Exit.then]); refine bodyPost_ret (results_none rfl _ _ _) rfl ?_
  exact ⟨rfl, rfl⟩
theorem bitsLen_none (w : World) : Calls Try.prog 77 #[.int .u64 0] w fun e w' => e = .returned (.int .i64 (Lib.bitLen 0 : Nat)) ∧ w' = w :=
  Any.bits_Len (SlLaysF0.n15.bits (P := Try.prog) (ρ := sortOt_ren) { sortOt with }) 0 w (by omega) (by omega)
theorem sortO_none (p : Option Addr) (cap : Nat) (fv : Value) (w : World) :
    Calls Try.prog 55 #[.slice p 0 cap, fv] w fun e w' => e = .returned (.tuple #[]) ∧ w = w' := by
  go_enter Try.func55, Try.ntmps55
  go_wp2_with (first | (go_at_call 77; refine (bitsLen_none _).mono ?_; rintro e w' ⟨rfl, rfl⟩) | (go_at_call 76; refine (pdqO_none _ _ _ _ _).mono ?_; rintro e w' ⟨rfl, rfl⟩))
  go_end0
  exact ⟨rfl, rfl⟩
theorem sortedO_eq : ∀ {l m : List Ot}, l.Perm m → l.Pairwise (fun x y => ¬ ltO y x) → m.Pairwise ltO → l = m
  | [], m, hp, _, _ => (List.nil_perm.1 hp).symm
  | a :: s, [], hp, _, _ => absurd (List.perm_nil.1 hp) (by simp)
  | a :: s, b :: t, hp, hl, hm => by
    have hab : a = b := by
      apply Classical.byContradiction
      intro hne
      have ha : a ∈ b :: t := hp.subset (.head _)
      have hb : b ∈ a :: s := hp.symm.subset (.head _)
      have ha' : a ∈ t := by rcases List.mem_cons.1 ha with e | e; exact absurd e hne; exact e
      have hb' : b ∈ s := by rcases List.mem_cons.1 hb with e | e; exact absurd e.symm hne; exact e
      have h1 := (List.pairwise_cons.1 hl).1 b hb'
      have h2 := (List.pairwise_cons.1 hm).1 a ha'
      exact h1 h2
    subst hab
    rw [sortedO_eq ((List.perm_cons a).1 hp) (List.pairwise_cons.1 hl).2 (List.pairwise_cons.1 hm).2]
end Go.Proofs.Ytmhbibcfbencnaa
