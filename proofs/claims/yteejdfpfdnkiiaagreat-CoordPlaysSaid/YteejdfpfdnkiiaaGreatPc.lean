/- The book of moves: All's order (slices.SortFunc by the moves' numbers) · Rows that a call owns: what keeps them · The book of moves: All, By · The book of moves: By; the laws' own book contracts -/
import Derived.Test.YteejdfpfdnkiiaaGreatCvL
import Derived.Test.YteejdfpfdnkiiaaGreatPb
import Derived.Shelf.SlSortCmp.WholeK
import Derived.Test.YteejdfpfdnkiiaaGreatPa
namespace Go.Proofs.YteejdfpfdnkiiaaGreat
section
open Go.RowKit Go.Shelf Go.Lib Go.Sort
set_option linter.unusedSimpArgs false
set_option linter.unusedVariables false
instance : Inhabited En := ⟨En.zero⟩
def En.enc (x : En) : List Value := [.int .i64 x.mv, .int .i64 x.part, .int .i64 x.fr, .int .i64 x.to]
def flatEn (l : List En) : List Value := l.flatMap En.enc
theorem flatEn_len (l : List En) : (flatEn l).length = l.length * 4 := by
  induction l with
  | nil => rfl
  | cons x r ih => simp only [flatEn, List.flatMap_cons, List.length_append, List.length_cons] at *; rw [ih]; simp [En.enc]; omega
theorem flatEn_get (l : List En) (j : Nat) (h : j < l.length * 4) : (flatEn l)[j]? = some ((En.enc (l.toArray[j / 4]!))[j % 4]!) := by
  induction l generalizing j with
  | nil => simp at h
  | cons x r ih =>
    have e : flatEn (x :: r) = En.enc x ++ flatEn r := by simp [flatEn]
    rw [e]
    by_cases hj : j < 4
    · rw [List.getElem?_append_left (by simpa [En.enc] using hj)]
      have h0 : j / 4 = 0 := by omega
      have h1 : j % 4 = j := by omega
      rw [h0, h1, List.getElem?_eq_getElem (by simpa [En.enc] using hj)]
      simp only [List.size_toArray, List.length_cons, Nat.zero_lt_succ, getElem!_pos, List.getElem_toArray, List.getElem_cons_zero]
      rw [getElem!_pos (En.enc x) j (by simpa [En.enc] using hj)]
    · rw [List.getElem?_append_right (by simp [En.enc]; omega)]
      have hl : (En.enc x).length = 4 := rfl
      rw [hl, ih (j - 4) (by simp only [List.length_cons] at h; omega)]
      have h0 : j / 4 = (j - 4) / 4 + 1 := by omega
      have h1 : j % 4 = (j - 4) % 4 := by omega
      rw [h0, h1]
      have hlt : (j - 4) / 4 < r.length := by simp only [List.length_cons] at h; omega
      rw [getElem!_pos (x :: r).toArray _ (by simp; omega), getElem!_pos r.toArray _ (by simpa using hlt)]
      simp
/-- A row that was gathered here is held as the sort asks it. -/
theorem holdsK_of_own {w : World} {base g cap : Nat} {l : List En} (h : w.ownsRow base 78 4 (.slice (some ⟨g, 0, none⟩) l.length cap) l.length (flatEn l)) (hl : l ≠ []) :
    HoldsK En.enc 4 w g 0 l.toArray ∧ base ≤ g ∧ g < w.heap.size := by
  obtain ⟨h1, h2⟩ := h
  rcases h2 with ⟨h3, h4⟩ | ⟨g', cap', cur, hv, hb, hg, hn, hc, hcs, htk⟩
  · exact absurd (List.length_eq_zero_iff.1 h4) hl
  · simp only [Value.slice.injEq, Option.some.injEq, Addr.mk.injEq, and_true, true_and] at hv
    obtain ⟨rfl, rfl⟩ := hv
    refine ⟨?_, hb, lt_of_heap hg⟩
    intro j hj
    rw [size_flatK] at hj
    have hj' : j < l.length * 4 := by simpa using hj
    have hcj : cur[j]? = some ((En.enc (l.toArray[j / 4]!))[j % 4]!) := by
      rw [← flatEn_get l j hj', ← htk, List.getElem?_take_of_lt hj', Array.getElem?_toList]
    refine ⟨?_, ?_⟩
    · rw [get_flatK _ _ _ _ hj]
      unfold World.cell?
      simp only [Nat.zero_add]
      rw [hg]
      exact hcj
    · unfold World.frozen?
      rw [hg]
      simp
def cfEn (x y : En) : Int := Lib.compareInt x.mv y.mv
theorem ltEn (x y : En) : ltOf cfEn x y = decide (x.mv < y.mv) := by
  unfold ltOf cfEn Lib.compareInt
  by_cases h1 : x.mv < y.mv
  · simp [h1]
  · by_cases h2 : y.mv < x.mv <;> simp [h1, h2]
theorem swoEn : SWO (ltOf cfEn) where
  irrefl x := by rw [ltEn]; simp
  trans x y z h1 h2 := by rw [ltEn] at *; simp at *; omega
  ntrans x y z h1 h2 := by rw [ltEn] at *; simp at *; omega
theorem isNaN_any (x : Int) (w : World) : Calls Tryz.prog 56 #[.int .i64 x] w fun e w' => e = .returned (.bool false) ∧ w = w' := by
  go_enter Tryz.func56, Tryz.ntmps56
  go_wp2
  go_ret
  exact ⟨rfl, rfl⟩
theorem compare_any (x y : Int) (w : World) : Calls Tryz.prog 47 #[.int .i64 x, .int .i64 y] w fun e w' => e = .returned (.int .i64 (Lib.compareInt x y)) ∧ w = w' := by
  unfold Lib.compareInt
  by_cases h1 : x < y
  · rw [if_pos h1]
    go_enter Tryz.func47, Tryz.ntmps47
    go_wp2_with (go_at_call 56; refine (isNaN_any _ _).mono ?_; rintro e w' ⟨rfl, rfl⟩)
    go_ret
    exact ⟨rfl, rfl⟩
  · rw [if_neg h1]
    by_cases h2 : x > y
    · rw [if_pos h2]
      go_enter Tryz.func47, Tryz.ntmps47
      go_wp2_with (go_at_call 56; refine (isNaN_any _ _).mono ?_; rintro e w' ⟨rfl, rfl⟩)
      go_ret
      exact ⟨rfl, rfl⟩
    · rw [if_neg h2]
      go_enter Tryz.func47, Tryz.ntmps47
      go_wp2_with (go_at_call 56; refine (isNaN_any _ _).mono ?_; rintro e w' ⟨rfl, rfl⟩)
      go_ret
      exact ⟨rfl, rfl⟩
set_option maxHeartbeats 1000000 in
theorem less_any (x y : En) (W : World) : Calls Tryz.prog 46 #[.agg (En.enc x).toArray, .agg (En.enc y).toArray] W fun e w' => e = .returned (.int .i64 (cfEn x y)) ∧ ∃ q os', w' = grow (W.drewN q) os' := by
  have hcon := fun W' => compare_any x.mv y.mv W'
  unfold cfEn En.enc
  generalize Lib.compareInt x.mv y.mv = r at hcon ⊢
  obtain ⟨x1, x2, x3, x4⟩ := x
  obtain ⟨y1, y2, y3, y4⟩ := y
  simp only at hcon ⊢
  go_enter Tryz.func46, Tryz.ntmps46
  go_wp2_with (go_at_call 47; refine (hcon _).mono ?_; rintro e w' ⟨rfl, rfl⟩)
  go_ret
  exact ⟨rfl, 0, _, by rw [alloc_eq_grow, alloc_eq_grow, grow_grow]; rfl⟩
theorem keep_grow {X : List Nat} {w W : World} (h : Keep X w W) (os : Array Obj) : Keep X w (grow W os) :=
  ⟨h.os, h.tape, h.output, Nat.le_trans h.size (by simp), fun k hk hx => (heap_grow_old W os (Nat.lt_of_lt_of_le hk h.size)).trans (h.block k hk hx)⟩
theorem keep_putRow {w : World} {g : Nat} (d : Array En) : Keep [g] w (putRowK En.enc 4 w g 0 d) := by
  refine ⟨rfl, rfl, rfl, by simp [putRowK], fun k hk hx => ?_⟩
  have hne : g ≠ k := fun e => hx (by simp [e])
  simp [putRowK, putRow, mapBlock, Array.getElem?_modify, hne]
/-- The sort: at whatever length. -/
theorem sort_any (l : List En) (g cap : Nat) (w : World) (hH : HoldsK En.enc 4 w g 0 l.toArray) (hg : g < w.heap.size) (hl : l.length ≤ 1000) :
    Calls Tryz.prog 45 #[.slice (some ⟨g, 0, none⟩) l.length cap, .func (.func 46) #[] #[]] w fun e w' =>
      e = .returned (.tuple #[]) ∧ ∃ l' : List En, l'.Perm l ∧ l'.Pairwise (fun x y => x.mv ≤ y.mv) ∧ HoldsK En.enc 4 w' g 0 l'.toArray ∧ Keep [g] w w' := by
  have eg : ∀ args w, (callFunc 46 args).run Tryz.prog w = .ok (.enter 46 args) w := enters_of Tryz.func46 (by kernel_rfl) rfl
  have hcon := AnyQ.slices_SortFunc sortEn 4 Tryz.isAgg78 Tryz.sizeOf78 En.enc (fun _ => rfl) (fun x v hv => by simp [En.enc] at hv; rcases hv with rfl | rfl | rfl | rfl <;> rfl) cfEn swoEn 46 #[] g 0 cap l.toArray w eg (fun _ _ _ _ x y => less_any x y _) hH hg (by simp; omega)
  refine Calls.mono hcon ?_
  rintro e w' ⟨rfl, d', n, os, ⟨hs, _, hp⟩, hsrt, rfl⟩
  have hsz : d'.size = l.length := by simpa using hs
  refine ⟨rfl, d'.toList, ?_, ?_, ?_, ?_⟩
  · simpa [Array.extract_eq_self_of_le, hsz] using hp
  · rw [List.pairwise_iff_getElem]
    intro i j hi hj hij
    have := hsrt i j (Nat.zero_le _) hij (by simpa [hsz] using hj)
    rw [ltEn] at this
    simpa [getElem!_pos, show i < d'.size from by simpa using hi, show j < d'.size from by simpa using hj] using this
  · unfold sortWorldK
    exact holdsK_grow _ _ _ _ _ _ _ (by simpa [putRowK, Sort.ahead] using hg) (holdsK_putRowK _ _ _ _ _ l.toArray _ (holdsK_ahead _ _ w n g 0 _ hH) (by simpa using hs))
  · have h0 : Keep [g] w (Sort.ahead w n) := ⟨rfl, rfl, rfl, Nat.le_refl _, fun _ _ _ => rfl⟩
    have h1 := h0.trans (keep_putRow d')
    exact keep_grow h1 os
theorem ins_none (p : Option Addr) (cap : Nat) (fv : Value) (w : World) :
    Calls Tryz.prog 68 #[.slice p 0 cap, .int .i64 0, .int .i64 0, fv] w fun e w' => e = .returned (.tuple #[]) ∧ w = w' := by
  go_enter Tryz.func68, Tryz.ntmps68
  go_wp2
  refine wp_loop_rounds 1 ?_
  rw [rounds_succ]
  go_wp2
  go_end0
  exact ⟨rfl, rfl⟩
theorem pdq_none (p : Option Addr) (cap : Nat) (lim : Int) (fv : Value) (w : World) :
    Calls Tryz.prog 54 #[.slice p 0 cap, .int .i64 0, .int .i64 0, .int .i64 lim, fv] w fun e w' => e = .returned (.tuple #[]) ∧ w = w' := by
  go_enter Tryz.func54, Tryz.ntmps54
  go_wp2
  refine wp_loop_rounds 1 ?_
  rw [rounds_succ]
  go_wp2_with (go_at_call 68; refine (ins_none _ _ _ _).mono ?_; rintro e w' ⟨rfl, rfl⟩)
  (try simp only [Exit.inBlock, Exit.then]); refine bodyPost_ret (results_none rfl _ _ _) rfl ?_
  exact ⟨rfl, rfl⟩
theorem bitsLen_none (w : World) : Calls Tryz.prog 55 #[.int .u64 0] w fun e w' => e = .returned (.int .i64 (Lib.bitLen 0 : Nat)) ∧ w' = w :=
  Any.bits_Len (SlLaysF0.n15.bits (P := Tryz.prog) (ρ := sortEn_ren) { sortEn with }) 0 w (by omega) (by omega)
theorem sort_none (p : Option Addr) (cap : Nat) (fv : Value) (w : World) :
    Calls Tryz.prog 45 #[.slice p 0 cap, fv] w fun e w' => e = .returned (.tuple #[]) ∧ w = w' := by
  go_enter Tryz.func45, Tryz.ntmps45
  go_wp2_with (first | (go_at_call 55; refine (bitsLen_none _).mono ?_; rintro e w' ⟨rfl, rfl⟩) | (go_at_call 54; refine (pdq_none _ _ _ _ _).mono ?_; rintro e w' ⟨rfl, rfl⟩))
  go_end0
  exact ⟨rfl, rfl⟩
theorem sorted_eq : ∀ {l m : List En}, l.Perm m → l.Pairwise (fun x y => x.mv ≤ y.mv) → m.Pairwise (fun x y => x.mv < y.mv) → l = m
  | [], m, hp, _, _ => (List.nil_perm.1 hp).symm
  | a :: s, [], hp, _, _ => absurd (List.perm_nil.1 hp) (by simp)
  | a :: s, b :: t, hp, hl, hm => by
    have hab : a = b := by
      apply Classical.byContradiction
      intro hne
      have ha : a ∈ b :: t := hp.subset (.head _)
      have hb : b ∈ a :: s := hp.symm.subset (.head _)
      have ha' : a ∈ t := by rcases List.mem_cons.1 ha with e | e; exact absurd e hne; exact e
      have hb' : b ∈ s := by rcases List.mem_cons.1 hb with e | e; exact absurd e.symm hne; exact e
      have h1 := (List.pairwise_cons.1 hl).1 b hb'
      have h2 := (List.pairwise_cons.1 hm).1 a ha'
      omega
    subst hab
    rw [sorted_eq ((List.perm_cons a).1 hp) (List.pairwise_cons.1 hl).2 (List.pairwise_cons.1 hm).2]
end
section
open Go.RowKit Go.Lib
set_option linter.unusedSimpArgs false
set_option linter.unusedVariables false
theorem own_keep {X : List Nat} {w w' : World} {base n size : Nat} {e : TypeId} {v : Value} {xs : List Value} (h : w.ownsRow base e size v n xs) (hk : Keep X w w') (hx : ∀ g, v.ownBlock = some g → g ∉ X) : w'.ownsRow base e size v n xs := by
  obtain ⟨h1, h2⟩ := h
  refine ⟨h1, ?_⟩
  rcases h2 with h2 | ⟨g, cap, cur, hv, hb, hg, r⟩
  · exact .inl h2
  · refine .inr ⟨g, cap, cur, hv, hb, ?_, r⟩
    rw [hk.block g (lt_of_heap hg) (hx g (by rw [hv]; rfl))]
    exact hg
theorem own_ne_it {w : World} {base n size it : Nat} {e : TypeId} {v : Value} {xs : List Value} (h : w.ownsRow base e size v n xs) {o : Obj} (hi : w.heap[it]? = some o) (ho : ∀ c t f, o ≠ .cells c t f) : ∀ g, v.ownBlock = some g → g ≠ it := by
  rintro g hg rfl
  rcases h.2 with ⟨hv, _⟩ | ⟨g', cap, cur, hv, hb, hg', r⟩
  · rw [hv] at hg; cases hg
  · rw [hv] at hg
    obtain rfl : g' = g := by simpa [Value.ownBlock] using hg
    rw [hg'] at hi
    cases hi
    exact ho _ _ _ rfl
theorem own_shape {w : World} {base n size : Nat} {e : TypeId} {v : Value} {xs : List Value} (h : w.ownsRow base e size v n xs) : ∃ a c, v = .slice a n c ∧ (a = none ∨ ∃ g, a = some ⟨g, 0, none⟩) := by
  rcases h.2 with ⟨hv, h0⟩ | ⟨g, cap, cur, hv, hb, hg, r⟩
  · subst h0; exact ⟨none, 0, hv, .inl rfl⟩
  · exact ⟨_, cap, hv, .inr ⟨g, rfl⟩⟩
theorem own_base {w : World} {base n size : Nat} {e : TypeId} {v : Value} {xs : List Value} (h : w.ownsRow base e size v n xs) : ∀ g, v.ownBlock = some g → base ≤ g := by
  intro g hg
  rcases h.2 with ⟨hv, _⟩ | ⟨g', cap, cur, hv, hb, hg', r⟩
  · rw [hv] at hg; cases hg
  · rw [hv] at hg
    obtain rfl : g' = g := by simpa [Value.ownBlock] using hg
    exact hb
theorem cells_new (W : World) (cs : List Value) (t : TypeId) (n : Nat) (hn : W.heap.size = n) : ∀ j u, cs[j]? = some u → (W.alloc (.cells cs.toArray t)).cell? ((⟨n, 0, none⟩ : Addr).add j) = some u := by
  intro j u hj
  subst hn
  rw [add_at]
  unfold World.cell?
  simp only [Nat.zero_add]
  rw [World.alloc_heap_new]
  simpa using hj
def sliceLen : Value → Nat
  | .slice _ n _ => n
  | _ => 0
end
section
open Go.RowKit Go.Shelf Go.Lib
open Go.ChangeMaps (setBlock)
open Go.Sort (HoldsK)
set_option linter.unusedSimpArgs false
set_option linter.unusedVariables false
theorem rng_next {K V : Type} {P : Program} {ek : K → Value} {ev : V → Value} {W : World} {b it : Nat} {m acc : List (K × V)} (h : Rng ek ev W b it m acc) (ty : TypeId) :
    (acc.Perm m ∧ (Instr.next (.pointer (some ⟨it, 0, none⟩)) false ty).run P W = .ok (.tuple #[.bool false]) W) ∨
    ∃ (p : K × V) (X : World), p ∈ m ∧ acc.length < m.length ∧ Keep [it] W X ∧ W.heap.size ≤ X.heap.size ∧
      (Instr.next (.pointer (some ⟨it, 0, none⟩)) false ty).run P W = .ok (.tuple #[.bool true, ek p.1, ev p.2]) X ∧
      Rng ek ev X b it m (acc ++ [p]) ∧ (Instr.entry (.pointer (some ⟨it, 0, none⟩))).run P X = .ok (.tuple #[ek p.1, ev p.2]) X := by
  rcases h.next (P := P) ty with h1 | ⟨p, W1, o, hp, hl, hW, hr, hR, hen⟩
  · exact .inl h1
  · have hk : Keep [it] W (setBlock W1 it o) := by
      rcases hW with rfl | rfl
      · exact (Keep.refl _ _).setBlock it o (.inl (by simp))
      · exact ((Keep.refl _ _).drew).setBlock it o (.inl (by simp))
    exact .inr ⟨p, _, hp, hl, hk, hk.size, hr, hR, hen⟩
theorem Rng.it_obj {K V : Type} {ek : K → Value} {ev : V → Value} {W : World} {b it : Nat} {m acc : List (K × V)} (h : Rng ek ev W b it m acc) : (∃ o, W.heap[it]? = some o ∧ ∀ c t f, o ≠ .cells c t f) ∧ (∃ o, W.heap[b]? = some o ∧ ∀ c t f, o ≠ .cells c t f) := by
  obtain ⟨es, clock, done, h1, h2, h3, h4, h5, h6, h7⟩ := h
  exact ⟨⟨_, h6, fun _ _ _ e => by cases e⟩, ⟨_, h1, fun _ _ _ e => by cases e⟩⟩
/-- A list of moves of this call's own, in memory. -/
def EnsAt (base : Nat) (W : World) (A : Option Addr) (L : List En) : Prop :=
  L ≠ [] → ∃ g, A = some ⟨g, 0, none⟩ ∧ base ≤ g ∧ g < W.heap.size ∧ HoldsK En.enc 4 W g 0 L.toArray
def AllP (w : World) (L : List En) (e : Ending) (w' : World) : Prop :=
  ∃ A c, e = .returned (.slice A L.length c) ∧ EnsAt w.heap.size w' A L ∧ Below w.heap.size w w'
theorem all_nil (w : World) : Calls Tryz.prog 32 #[.pointer none] w (AllP w []) := by
  go_enter Tryz.func32, Tryz.ntmps32
  go_wp2
  go_ret
  exact ⟨none, 0, rfl, fun h => absurd rfl h, Below.refl _ _⟩
theorem infoEn : (Tryz.prog.info? 78).map (fun i => (i.zero, i.size, i.bytes)) = some (some En.zero.val, 4, 32) := by kernel_rfl
/-- What a sorted list of a book's moves is. -/
theorem ens_of {m acc : List (Int × En)} {l : List En} (hp : acc.Perm m) (hl : l.Perm (acc.map (·.2))) (h1 : l.Pairwise (fun x y => x.mv ≤ y.mv)) (hs : (m.map (·.2)).Pairwise (fun x y => x.mv < y.mv)) : l = m.map (·.2) :=
  sorted_eq (hl.trans (hp.map _)) h1 hs
set_option maxRecDepth 100000 in
set_option maxHeartbeats 4000000 in
theorem all_any {w : World} {p : Nat} {om : Option Nat} {m : List (Int × En)} {last : Int} (h : BookAt w p om m last) (hlen : m.length ≤ 1000) (hs : (m.map (·.2)).Pairwise (fun x y => x.mv < y.mv)) :
    Calls Tryz.prog 32 #[.pointer (some ⟨p, 0, none⟩)] w (AllP w (m.map (·.2))) := by
  obtain ⟨c0, c1, c2, c3⟩ := h.cells
  cases om with
  | none =>
    have hm : m = [] := h.map
    subst hm
    have hrng := fun W => run_range_nil (P := Tryz.prog) Tryz.underlying99 W
    go_enter Tryz.func32, Tryz.ntmps32
    go_wp2_with (fail)
    have hnx := fun ty => run_next_nil (P := Tryz.prog) (World.alloc_heap_new w (.mapIter none 0 #[] 0)) ty
    refine wp_loop_rounds 1 ?_
    rw [rounds_succ]
    go_wp2_with (go_at_call 45; refine (sort_none _ _ _ _).mono ?_; rintro e w' ⟨rfl, rfl⟩)
    go_ret
    exact ⟨none, 0, rfl, fun h => absurd rfl h, (Below.refl _ _).alloc (Nat.le_refl _) _⟩
  | some b =>
    obtain ⟨o, hrun, hrng⟩ := run_range (P := Tryz.prog) Tryz.underlying99 h.map
    have hw1 : Below w.heap.size w (w.alloc o) := (Below.refl _ w).alloc (Nat.le_refl _) o
    have HR := Lib.hid hrng
    have HS := Lib.hid hs
    clear hrng hs h
    go_enter Tryz.func32, Tryz.ntmps32
    go_wp2_with (fail)
    go_loopw [3] (fun v wr => ∃ acc : List (Int × En), acc.length ≤ m.length ∧ Rng ekI En.val wr b w.heap.size m acc ∧ wr.ownsRow w.heap.size 78 4 v acc.length (flatEn (acc.map (·.2))) ∧ Below w.heap.size w wr) (fun v _ => m.length - sliceLen v)
    case atStart => exact ⟨[], Nat.zero_le _, HR.out, World.ownsRow_nil _ _ _ _, hw1⟩
    case round =>
      clear hw1 hrun
      obtain ⟨acc, hal, hrng, hown, hB⟩ := hrel
      have hn0 := HS.out
      obtain ⟨⟨oi, hoi, hoi'⟩, ⟨ob, hob, hob'⟩⟩ := hrng.it_obj
      obtain ⟨av, cv, rfl, hav⟩ := own_shape hown
      have hsz := hB.size
      have hne := own_ne_it hown hoi hoi'
      have hneb := own_ne_it hown hob hob'
      rcases rng_next (P := Tryz.prog) hrng 0 with ⟨hperm, hnx⟩ | ⟨pr, X, hpm, hlt, hKX, hszX, hnx, hrX, hen⟩
      · have hal2 : acc.length = m.length := hperm.length_eq
        have hlm : (m.map (·.2)).length = acc.length := by rw [List.length_map, hal2]
        by_cases hz : acc.length = 0
        · have hm0 : m.map (·.2) = [] := List.length_eq_zero_iff.1 (by rw [hlm, hz])
          have HM := Lib.hid hm0
          obtain ⟨n0, hn0e⟩ : ∃ n0, acc.length = n0 := ⟨_, rfl⟩
          rw [hn0e] at hz
          subst hz
          rw [hn0e]
          have HE := Lib.hid hn0e
          clear hn0e hm0 hlm hal2 hoi hob hav hne hneb hown hrng hal hn0 hperm
          go_wp2_with (go_at_call 45; refine (sort_none _ _ _ _).mono ?_; rintro e w' ⟨rfl, rfl⟩)
          go_ret
          exact ⟨av, cv, by rw [HM.out]; rfl, fun h => absurd HM.out h, hB⟩
        · have hne0 : acc.map (·.2) ≠ [] := fun e => hz (by have := congrArg List.length e; simpa using this)
          have hown' : wr.ownsRow w.heap.size 78 4 (.slice av (acc.map (·.2)).length cv) (acc.map (·.2)).length (flatEn (acc.map (·.2))) := by simpa using hown
          rcases hav with rfl | ⟨g, rfl⟩
          · exact absurd hown'.2 (by rintro (⟨_, h⟩ | ⟨g, cap, cur, hv, _⟩); exact hz (by simpa using h); cases hv)
          · obtain ⟨hH, hbg, hgl⟩ := holdsK_of_own hown' hne0
            have hsort := sort_any (acc.map (·.2)) g cv wr hH hgl (by simp; omega)
            rw [List.length_map] at hsort
            have HSORT := Lib.hid hsort
            have HP := Lib.hid hperm
            have HLM := Lib.hid hlm
            clear hsort hH hown' hne0 hoi hob hne hneb hown hrng hn0 hperm hlm hal2
            go_wp2_with (go_at_call 45; refine HSORT.out.mono ?_; rintro e w' ⟨rfl, l', hl1, hl2, hl3, hk⟩; have HL1 := Lib.hid hl1; have HL2 := Lib.hid hl2; have HL3 := Lib.hid hl3; clear hl1 hl2 hl3)
            go_ret
            have hle := ens_of HP.out HL1.out HL2.out HS.out
            refine ⟨_, cv, by rw [HLM.out]; rfl, fun _ => ⟨g, rfl, hbg, Nat.lt_of_lt_of_le hgl hk.size, hle ▸ HL3.out⟩, hB.trans (hk.below hsz (fun x hx => by simp at hx; omega))⟩
      · obtain ⟨i0, hi, hz0, hz1, hz2⟩ := info_parts infoEn
        obtain ⟨kk, x1, x2, x3, x4⟩ := pr
        simp only [En.val] at hnx hen
        have hownX := own_keep hown hKX (fun g hg => by simpa using hne g hg)
        have hBX : Below w.heap.size w X := hB.trans (hKX.below hsz (fun x hx => by simp at hx; omega))
        have HRX := Lib.hid hrX
        have HOX := Lib.hid hownX
        have hl1000 : acc.length < 1000 := by omega
        clear hrX hownX hoi hob hne hneb hown hrng hn0
        go_wp2_with (at_builtin; refine wpList_append_own _ rfl _ _ 81 rfl w.heap.size 78 i0 En.zero.val 4 32 Tryz.underlying81 hi hz0 hz1 hz2 rfl (by decide) _ _ _ rfl ((HOX.out.alloc _).alloc _) ⟨X.heap.size + 1, 0, none⟩ 1 1 [.int .i64 x1, .int .i64 x2, .int .i64 x3, .int .i64 x4] rfl rfl ?c1 ?c2 ?c3 ?c4 ?c5 ?_)
        case c1 => exact cells_new _ _ _ _ (by simp)
        case c2 => simp [Value.oneCell']
        case c3 => unfold maxLen; omega
        case c4 => omega
        case c5 => simp; omega
        intro v' w1 hown' hgrow _
        go_wp2
        go_roundw
        case rel =>
          refine ⟨acc ++ [(kk, ⟨x1, x2, x3, x4⟩)], by simp; omega, ?_, ?_, ?_⟩
          · obtain ⟨⟨o1, h1, h1'⟩, ⟨o2, h2, h2'⟩⟩ := HRX.out.it_obj
            have kw : Keep (Value.slice av acc.length cv).ownBlock.toList X w1 := (((Keep.refl _ X).alloc _).alloc _).grown hgrow (fun k hk => .inl (by simp [hk]))
            exact HRX.out.keep kw (fun hm => own_ne_it HOX.out h2 h2' _ (by simpa using hm) rfl) (fun hm => own_ne_it HOX.out h1 h1' _ (by simpa using hm) rfl)
          · have e : flatEn ((acc ++ [(kk, (⟨x1, x2, x3, x4⟩ : En))]).map (·.2)) = flatEn (acc.map (·.2)) ++ [.int .i64 x1, .int .i64 x2, .int .i64 x3, .int .i64 x4] := by simp [flatEn, En.enc]
            rw [e, List.length_append]
            exact hown'
          · exact ((hBX.alloc (by omega) _).alloc (by simp; omega) _).grown hgrow (by simp; omega) (fun g hg => own_base HOX.out g hg)
        case measure =>
          obtain ⟨a', c', rfl, _⟩ := own_shape hown'
          simp only [sliceLen]
          omega
end
section
open Go.RowKit Go.Shelf Go.Lib
open Go.ChangeMaps (setBlock)
open Go.Sort (HoldsK)
set_option linter.unusedSimpArgs false
set_option linter.unusedVariables false
def findMv (k : Int) (L : List En) : Option En := L.find? fun x => decide (x.mv = k)
theorem ensAt_cells {base : Nat} {W : World} {A : Option Addr} {L : List En} (h : EnsAt base W A L) {k : Nat} {x : En} (hx : L[k]? = some x) :
    ∃ g, A = some ⟨g, 0, none⟩ ∧ base ≤ g ∧ g < W.heap.size ∧ W.cell? ⟨g, k * 4, none⟩ = some (.int .i64 x.mv) ∧ W.cell? ⟨g, k * 4 + 1, none⟩ = some (.int .i64 x.part) ∧ W.cell? ⟨g, k * 4 + 2, none⟩ = some (.int .i64 x.fr) ∧ W.cell? ⟨g, k * 4 + 3, none⟩ = some (.int .i64 x.to) := by
  have hlt := (List.getElem?_eq_some_iff.1 hx).1
  obtain ⟨g, h1, h2, h3, h4⟩ := h (by intro e; rw [e] at hlt; simp at hlt)
  have hk : k < L.toArray.size := by simpa using hlt
  have he : L.toArray[k]! = x := by
    rw [getElem!_pos L.toArray k hk]
    rw [List.getElem?_eq_getElem hlt] at hx
    simpa using hx
  have c0 := (h4.cell hk (c := 0) (by omega)).1
  have c1 := (h4.cell hk (c := 1) (by omega)).1
  have c2 := (h4.cell hk (c := 2) (by omega)).1
  have c3 := (h4.cell hk (c := 3) (by omega)).1
  rw [he] at c0 c1 c2 c3
  simp only [Nat.zero_add, Nat.add_zero] at c0 c1 c2 c3
  exact ⟨g, h1, h2, h3, c0, c1, c2, c3⟩
theorem EnsAt.below {base : Nat} {W W' : World} {A : Option Addr} {L : List En} (h : EnsAt base W A L) (hb : Below W.heap.size W W') : EnsAt base W' A L := by
  intro hL
  obtain ⟨g, h1, h2, h3, h4⟩ := h hL
  refine ⟨g, h1, h2, Nat.lt_of_lt_of_le h3 hb.size, fun j hj => ?_⟩
  obtain ⟨h5, h6⟩ := h4 j hj
  exact ⟨(hb.cell (p := ⟨g, 0 + j, none⟩) h3).trans h5, (World.frozen?_of_block (w := W) (hb.block g h3)).trans h6⟩
def ByP (w : World) (o : Option En) (e : Ending) (w' : World) : Prop := e = .returned (.tuple #[(o.getD En.zero).val, .bool o.isSome]) ∧ Below w.heap.size w w'
set_option maxHeartbeats 4000000 in
theorem by_gen {ptr : Value} {w : World} {L : List En} (hL : L.length ≤ 1000) (k : Int) (hall : ∀ W, Below w.heap.size w W → Calls Tryz.prog 32 #[ptr] W (AllP W L)) :
    Calls Tryz.prog 34 #[ptr, .int .i64 k] w (ByP w (findMv k L)) := by
  have HALL := Lib.hid hall
  clear hall
  go_enter Tryz.func34, Tryz.ntmps34
  go_wp2_with (go_at_call 32; refine (HALL.out _ ((Below.refl _ _).alloc (Nat.le_refl _) _)).mono ?_; rintro e w1 ⟨A, c, rfl, hE, hB⟩)
  have hz : w1.heap[w.heap.size]? = some (.cells #[.int .i64 0, .int .i64 0, .int .i64 0, .int .i64 0] 78 (0, 0)) := (hB.block _ (by simp)).trans (World.alloc_heap_new w _)
  go_loopw [11] (fun i wr => ∃ j : Nat, i = .int .i64 j ∧ j ≤ L.length ∧ findMv k (L.take j) = none ∧ EnsAt (w.heap.size + 1) wr A L ∧ wr.heap[w.heap.size]? = some (.cells #[.int .i64 0, .int .i64 0, .int .i64 0, .int .i64 0] 78 (0, 0)) ∧ Below w.heap.size w wr) (fun i _ => L.length - (intOf i).toNat)
  case atStart => exact ⟨0, rfl, Nat.zero_le _, rfl, by simpa using hE, hz, ((Below.refl _ _).alloc (Nat.le_refl _) _).trans (hB.mono (by simp))⟩
  case round =>
    clear hB hE hz
    obtain ⟨j, rfl, hj, hnone, hE, hz, hB⟩ := hrel
    have hsz := lt_of_heap hz
    have z0 : wr.cell? ⟨w.heap.size, 0, none⟩ = some (.int .i64 0) := by unfold World.cell?; rw [hz]; rfl
    have z1 : wr.cell? ⟨w.heap.size, 1, none⟩ = some (.int .i64 0) := by unfold World.cell?; rw [hz]; rfl
    have z2 : wr.cell? ⟨w.heap.size, 2, none⟩ = some (.int .i64 0) := by unfold World.cell?; rw [hz]; rfl
    have z3 : wr.cell? ⟨w.heap.size, 3, none⟩ = some (.int .i64 0) := by unfold World.cell?; rw [hz]; rfl
    have zf : ∀ o, wr.frozen? ⟨w.heap.size, o, none⟩ = false := fun o => by unfold World.frozen?; rw [hz]; simp
    by_cases hlt : j < L.length
    · obtain ⟨x, hx⟩ : ∃ x, L[j]? = some x := ⟨L[j], List.getElem?_eq_getElem hlt⟩
      obtain ⟨g, rfl, hg0, hg1, h0, h1, h2, h3⟩ := ensAt_cells hE hx
      have ht : L.take (j + 1) = L.take j ++ [x] := by rw [List.take_add_one, hx]; rfl
      have hnx : findMv k (L.take (j + 1)) = if x.mv = k then some x else none := by
        unfold findMv at hnone ⊢
        rw [ht, List.find?_append, hnone]
        by_cases hm : x.mv = k <;> simp [hm]
      have hful : x.mv = k → findMv k L = some x := by
        intro hm
        have e : L = L.take (j + 1) ++ L.drop (j + 1) := (List.take_append_drop _ _).symm
        unfold findMv at hnx ⊢
        rw [e, List.find?_append, hnx, if_pos hm]; rfl
      have HN := Lib.hid hnx
      have HF := Lib.hid hful
      have HE := Lib.hid hE
      have HZ := Lib.hid hz
      obtain ⟨x1, x2, x3, x4⟩ := x
      simp only at h0 h1 h2 h3
      by_cases hm : x1 = k
      · have hfu := hful hm
        have HFU := Lib.hid hfu
        subst hm
        clear hfu HN HF
        clear hnx hful hnone ht hx hE hz
        go_wp2_with (fail)
        refine bodyPost_ret (v := .tuple #[(⟨x1, x2, x3, x4⟩ : En).val, .bool true]) (by simp [results, Tryz.results34, go_sem, En.val, z0, z1, z2, z3, hsz]) rfl ⟨by rw [HFU.out]; rfl, ?_⟩
        repeat' (first | exact hB | refine Below.setCell ?_ (by simp) _ | refine Below.alloc ?_ (by simp; omega) _)
      · clear hnx hful hnone ht hx hE hz
        go_wp2_with (fail)
        go_roundw
        case rel =>
          refine ⟨j + 1, by go_num, by omega, by rw [HN.out, if_neg hm], ?_, ?_, hB.alloc (by omega) _⟩
          · exact HE.out.below ((Below.refl _ _).alloc (Nat.le_refl _) _)
          · exact (Below.heap_alloc _ _ _ hsz).trans HZ.out
        case measure => go_light; simp [intOf]; omega
    · obtain rfl : j = L.length := by omega
      rw [List.take_length] at hnone
      have HN := Lib.hid hnone
      clear hnone hE hz
      go_wp2_with (fail)
      refine bodyPost_ret (v := .tuple #[En.zero.val, .bool false]) (by simp [results, Tryz.results34, go_sem, En.val, En.zero, z0, z1, z2, z3, hsz]) rfl ⟨by rw [HN.out]; rfl, ?_⟩
      repeat' (first | exact hB | refine Below.setCell ?_ (by simp) _ | refine Below.alloc ?_ (by simp; omega) _)
end
end Go.Proofs.YteejdfpfdnkiiaaGreat
