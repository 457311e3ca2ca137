/- The book of moves: All's order (slices.SortFunc by the moves' numbers). -/
import Derived.Test.YtdnfibecobodkaaGreatCvL
import Derived.Test.YtdnfibecobodkaaGreatCvF
import Derived.Shelf.SlSortCmp.WholeK
namespace Go.Proofs.YtdnfibecobodkaaGreat
open Go.RowKit Go.Shelf Go.Lib Go.Sort
set_option linter.unusedSimpArgs false
set_option linter.unusedVariables false
instance : Inhabited En := ⟨En.zero⟩
def En.enc (x : En) : List Value := [.int .i64 x.mv, .int .i64 x.part, .int .i64 x.fr, .int .i64 x.to]
def flatEn (l : List En) : List Value := l.flatMap En.enc
theorem flatEn_len (l : List En) : (flatEn l).length = l.length * 4 := by
  induction l with
  | nil => rfl
  | cons x r ih => simp only [flatEn, List.flatMap_cons, List.length_append, List.length_cons] at *; rw [ih]; simp [En.enc]; omega
theorem flatEn_get (l : List En) (j : Nat) (h : j < l.length * 4) : (flatEn l)[j]? = some ((En.enc (l.toArray[j / 4]!))[j % 4]!) := by
  induction l generalizing j with
  | nil => simp at h
  | cons x r ih =>
    have e : flatEn (x :: r) = En.enc x ++ flatEn r := by simp [flatEn]
    rw [e]
    by_cases hj : j < 4
    · rw [List.getElem?_append_left (by simpa [En.enc] using hj)]
      have h0 : j / 4 = 0 := by omega
      have h1 : j % 4 = j := by omega
      rw [h0, h1, List.getElem?_eq_getElem (by simpa [En.enc] using hj)]
      simp only [List.size_toArray, List.length_cons, Nat.zero_lt_succ, getElem!_pos, List.getElem_toArray, List.getElem_cons_zero]
      rw [getElem!_pos (En.enc x) j (by simpa [En.enc] using hj)]
    · rw [List.getElem?_append_right (by simp [En.enc]; omega)]
      have hl : (En.enc x).length = 4 := rfl
      rw [hl, ih (j - 4) (by simp only [List.length_cons] at h; omega)]
      have h0 : j / 4 = (j - 4) / 4 + 1 := by omega
      have h1 : j % 4 = (j - 4) % 4 := by omega
      rw [h0, h1]
      have hlt : (j - 4) / 4 < r.length := by simp only [List.length_cons] at h; omega
      rw [getElem!_pos (x :: r).toArray _ (by simp; omega), getElem!_pos r.toArray _ (by simpa using hlt)]
      simp
/-- A row that was gathered here is held as the sort asks it. -/
theorem holdsK_of_own {w : World} {base g cap : Nat} {l : List En} (h : w.ownsRow base 85 4 (.slice (some ⟨g, 0, none⟩) l.length cap) l.length (flatEn l)) (hl : l ≠ []) :
    HoldsK En.enc 4 w g 0 l.toArray ∧ base ≤ g ∧ g < w.heap.size := by
  obtain ⟨h1, h2⟩ := h
  rcases h2 with ⟨h3, h4⟩ | ⟨g', cap', cur, hv, hb, hg, hn, hc, hcs, htk⟩
  · exact absurd (List.length_eq_zero_iff.1 h4) hl
  · simp only [Value.slice.injEq, Option.some.injEq, Addr.mk.injEq, and_true, true_and] at hv
    obtain ⟨rfl, rfl⟩ := hv
    refine ⟨?_, hb, lt_of_heap hg⟩
    intro j hj
    rw [size_flatK] at hj
    have hj' : j < l.length * 4 := by simpa using hj
    have hcj : cur[j]? = some ((En.enc (l.toArray[j / 4]!))[j % 4]!) := by
      rw [← flatEn_get l j hj', ← htk, List.getElem?_take_of_lt hj', Array.getElem?_toList]
    refine ⟨?_, ?_⟩
    · rw [get_flatK _ _ _ _ hj]
      unfold World.cell?
      simp only [Nat.zero_add]
      rw [hg]
      exact hcj
    · unfold World.frozen?
      rw [hg]
      simp
def cfEn (x y : En) : Int := Lib.compareInt x.mv y.mv
theorem ltEn (x y : En) : ltOf cfEn x y = decide (x.mv < y.mv) := by
  unfold ltOf cfEn Lib.compareInt
  by_cases h1 : x.mv < y.mv
  · simp [h1]
  · by_cases h2 : y.mv < x.mv <;> simp [h1, h2]
theorem swoEn : SWO (ltOf cfEn) where
  irrefl x := by rw [ltEn]; simp
  trans x y z h1 h2 := by rw [ltEn] at *; simp at *; omega
  ntrans x y z h1 h2 := by rw [ltEn] at *; simp at *; omega
theorem isNaN_any (x : Int) (w : World) : Calls Tryz.prog 65 #[.int .i64 x] w fun e w' => e = .returned (.bool false) ∧ w = w' := by
  go_enter Tryz.func65, Tryz.ntmps65
  go_wp2
  go_ret
  exact ⟨rfl, rfl⟩
theorem compare_any (x y : Int) (w : World) : Calls Tryz.prog 52 #[.int .i64 x, .int .i64 y] w fun e w' => e = .returned (.int .i64 (Lib.compareInt x y)) ∧ w = w' := by
  unfold Lib.compareInt
  by_cases h1 : x < y
  · rw [if_pos h1]
    go_enter Tryz.func52, Tryz.ntmps52
    go_wp2_with (go_at_call 65; refine (isNaN_any _ _).mono ?_; rintro e w' ⟨rfl, rfl⟩)
    go_ret
    exact ⟨rfl, rfl⟩
  · rw [if_neg h1]
    by_cases h2 : x > y
    · rw [if_pos h2]
      go_enter Tryz.func52, Tryz.ntmps52
      go_wp2_with (go_at_call 65; refine (isNaN_any _ _).mono ?_; rintro e w' ⟨rfl, rfl⟩)
      go_ret
      exact ⟨rfl, rfl⟩
    · rw [if_neg h2]
      go_enter Tryz.func52, Tryz.ntmps52
      go_wp2_with (go_at_call 65; refine (isNaN_any _ _).mono ?_; rintro e w' ⟨rfl, rfl⟩)
      go_ret
      exact ⟨rfl, rfl⟩
set_option maxHeartbeats 1000000 in
theorem less_any (x y : En) (W : World) : Calls Tryz.prog 51 #[.agg (En.enc x).toArray, .agg (En.enc y).toArray] W fun e w' => e = .returned (.int .i64 (cfEn x y)) ∧ ∃ q os', w' = grow (W.drewN q) os' := by
  have hcon := fun W' => compare_any x.mv y.mv W'
  unfold cfEn En.enc
  generalize Lib.compareInt x.mv y.mv = r at hcon ⊢
  obtain ⟨x1, x2, x3, x4⟩ := x
  obtain ⟨y1, y2, y3, y4⟩ := y
  simp only at hcon ⊢
  go_enter Tryz.func51, Tryz.ntmps51
  go_wp2_with (go_at_call 52; refine (hcon _).mono ?_; rintro e w' ⟨rfl, rfl⟩)
  go_ret
  exact ⟨rfl, 0, _, by rw [alloc_eq_grow, alloc_eq_grow, grow_grow]; rfl⟩
theorem keep_grow {X : List Nat} {w W : World} (h : Keep X w W) (os : Array Obj) : Keep X w (grow W os) :=
  ⟨h.os, h.tape, h.output, Nat.le_trans h.size (by simp), fun k hk hx => (heap_grow_old W os (Nat.lt_of_lt_of_le hk h.size)).trans (h.block k hk hx)⟩
theorem keep_putRow {w : World} {g : Nat} (d : Array En) : Keep [g] w (putRowK En.enc 4 w g 0 d) := by
  refine ⟨rfl, rfl, rfl, by simp [putRowK], fun k hk hx => ?_⟩
  have hne : g ≠ k := fun e => hx (by simp [e])
  simp [putRowK, putRow, mapBlock, Array.getElem?_modify, hne]
/-- The sort: at whatever length. -/
theorem sort_any (l : List En) (g cap : Nat) (w : World) (hH : HoldsK En.enc 4 w g 0 l.toArray) (hg : g < w.heap.size) (hl : l.length ≤ 1000) :
    Calls Tryz.prog 50 #[.slice (some ⟨g, 0, none⟩) l.length cap, .func (.func 51) #[] #[]] w fun e w' =>
      e = .returned (.tuple #[]) ∧ ∃ l' : List En, l'.Perm l ∧ l'.Pairwise (fun x y => x.mv ≤ y.mv) ∧ HoldsK En.enc 4 w' g 0 l'.toArray ∧ Keep [g] w w' := by
  have eg : ∀ args w, (callFunc 51 args).run Tryz.prog w = .ok (.enter 51 args) w := enters_of Tryz.func51 (by kernel_rfl) rfl
  have hcon := AnyQ.slices_SortFunc sortEn 4 Tryz.isAgg85 Tryz.sizeOf85 En.enc (fun _ => rfl) (fun x v hv => by simp [En.enc] at hv; rcases hv with rfl | rfl | rfl | rfl <;> rfl) cfEn swoEn 51 #[] g 0 cap l.toArray w eg (fun _ _ _ _ x y => less_any x y _) hH hg (by simp; omega)
  refine Calls.mono hcon ?_
  rintro e w' ⟨rfl, d', n, os, ⟨hs, _, hp⟩, hsrt, rfl⟩
  have hsz : d'.size = l.length := by simpa using hs
  refine ⟨rfl, d'.toList, ?_, ?_, ?_, ?_⟩
  · simpa [Array.extract_eq_self_of_le, hsz] using hp
  · rw [List.pairwise_iff_getElem]
    intro i j hi hj hij
    have := hsrt i j (Nat.zero_le _) hij (by simpa [hsz] using hj)
    rw [ltEn] at this
    simpa [getElem!_pos, show i < d'.size from by simpa using hi, show j < d'.size from by simpa using hj] using this
  · unfold sortWorldK
    exact holdsK_grow _ _ _ _ _ _ _ (by simpa [putRowK, Sort.ahead] using hg) (holdsK_putRowK _ _ _ _ _ l.toArray _ (holdsK_ahead _ _ w n g 0 _ hH) (by simpa using hs))
  · have h0 : Keep [g] w (Sort.ahead w n) := ⟨rfl, rfl, rfl, Nat.le_refl _, fun _ _ _ => rfl⟩
    have h1 := h0.trans (keep_putRow d')
    exact keep_grow h1 os
theorem ins_none (p : Option Addr) (cap : Nat) (fv : Value) (w : World) :
    Calls Tryz.prog 76 #[.slice p 0 cap, .int .i64 0, .int .i64 0, fv] w fun e w' => e = .returned (.tuple #[]) ∧ w = w' := by
  go_enter Tryz.func76, Tryz.ntmps76
  go_wp2
  refine wp_loop_rounds 1 ?_
  rw [rounds_succ]
  go_wp2
  go_end0
  exact ⟨rfl, rfl⟩
theorem pdq_none (p : Option Addr) (cap : Nat) (lim : Int) (fv : Value) (w : World) :
    Calls Tryz.prog 63 #[.slice p 0 cap, .int .i64 0, .int .i64 0, .int .i64 lim, fv] w fun e w' => e = .returned (.tuple #[]) ∧ w = w' := by
  go_enter Tryz.func63, Tryz.ntmps63
  go_wp2
  refine wp_loop_rounds 1 ?_
  rw [rounds_succ]
  go_wp2_with (go_at_call 76; refine (ins_none _ _ _ _).mono ?_; rintro e w' ⟨rfl, rfl⟩)
  (try simp only [Exit.inBlock, Exit.then]); refine bodyPost_ret (results_none rfl _ _ _) rfl ?_
  exact ⟨rfl, rfl⟩
theorem bitsLen_none (w : World) : Calls Tryz.prog 64 #[.int .u64 0] w fun e w' => e = .returned (.int .i64 (Lib.bitLen 0 : Nat)) ∧ w' = w :=
  Any.bits_Len (SlLaysF0.n15.bits (P := Tryz.prog) (ρ := sortEn_ren) { sortEn with }) 0 w (by omega) (by omega)
theorem sort_none (p : Option Addr) (cap : Nat) (fv : Value) (w : World) :
    Calls Tryz.prog 50 #[.slice p 0 cap, fv] w fun e w' => e = .returned (.tuple #[]) ∧ w = w' := by
  go_enter Tryz.func50, Tryz.ntmps50
  go_wp2_with (first | (go_at_call 64; refine (bitsLen_none _).mono ?_; rintro e w' ⟨rfl, rfl⟩) | (go_at_call 63; refine (pdq_none _ _ _ _ _).mono ?_; rintro e w' ⟨rfl, rfl⟩))
  go_end0
  exact ⟨rfl, rfl⟩
theorem sorted_eq : ∀ {l m : List En}, l.Perm m → l.Pairwise (fun x y => x.mv ≤ y.mv) → m.Pairwise (fun x y => x.mv < y.mv) → l = m
  | [], m, hp, _, _ => (List.nil_perm.1 hp).symm
  | a :: s, [], hp, _, _ => absurd (List.perm_nil.1 hp) (by simp)
  | a :: s, b :: t, hp, hl, hm => by
    have hab : a = b := by
      apply Classical.byContradiction
      intro hne
      have ha : a ∈ b :: t := hp.subset (.head _)
      have hb : b ∈ a :: s := hp.symm.subset (.head _)
      have ha' : a ∈ t := by rcases List.mem_cons.1 ha with e | e; exact absurd e hne; exact e
      have hb' : b ∈ s := by rcases List.mem_cons.1 hb with e | e; exact absurd e.symm hne; exact e
      have h1 := (List.pairwise_cons.1 hl).1 b hb'
      have h2 := (List.pairwise_cons.1 hm).1 a ha'
      omega
    subst hab
    rw [sorted_eq ((List.perm_cons a).1 hp) (List.pairwise_cons.1 hl).2 (List.pairwise_cons.1 hm).2]
end Go.Proofs.YtdnfibecobodkaaGreat
