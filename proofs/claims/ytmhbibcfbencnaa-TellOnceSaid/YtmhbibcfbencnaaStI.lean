/- The order of windows; the comparator of All; the sort. -/
import Derived.Test.YtmhbibcfbencnaaStL
import Derived.Test.YtmhbibcfbencnaaStG
import Derived.Shelf.SlSortCmp.WholeK
import Derived.WalkLawsBesides
namespace Go.Proofs.Ytmhbibcfbencnaa
open Go.RowKit Go.Shelf Go.Lib Go.Sort
set_option linter.unusedSimpArgs false
set_option linter.unusedVariables false
abbrev bl := Op.bytesLess
theorem bl_irrefl : ∀ a : List UInt8, bl a a = false
  | [] => rfl
  | x :: r => by simp [bl, Op.bytesLess]; exact bl_irrefl r
theorem bl_trans : ∀ {a b c : List UInt8}, bl a b = true → bl b c = true → bl a c = true
  | _, [], _, h, _ => by cases ‹List UInt8› <;> simp [bl, Op.bytesLess] at h
  | [], _ :: _, [], _, h => by simp [bl, Op.bytesLess] at h
  | _ :: _, _ :: _, [], _, h => by simp [bl, Op.bytesLess] at h
  | [], _ :: _, _ :: _, _, _ => rfl
  | x :: a, y :: b, z :: c, h1, h2 => by
    simp only [bl, Op.bytesLess, Bool.or_eq_true, decide_eq_true_eq, Bool.and_eq_true, beq_iff_eq] at h1 h2 ⊢
    rcases h1 with h1 | ⟨e1, h1⟩
    · rcases h2 with h2 | ⟨e2, h2⟩
      · exact .inl (UInt8.lt_trans h1 h2)
      · subst e2; exact .inl h1
    · subst e1
      rcases h2 with h2 | ⟨e2, h2⟩
      · exact .inl h2
      · exact .inr ⟨e2, bl_trans h1 h2⟩
theorem bl_total : ∀ {a b : List UInt8}, a ≠ b → bl a b = true ∨ bl b a = true
  | [], [], h => absurd rfl h
  | [], _ :: _, _ => .inl rfl
  | _ :: _, [], _ => .inr rfl
  | x :: a, y :: b, h => by
    simp only [bl, Op.bytesLess, Bool.or_eq_true, decide_eq_true_eq, Bool.and_eq_true, beq_iff_eq]
    by_cases e : x = y
    · subst e
      have : a ≠ b := fun e => h (by rw [e])
      rcases bl_total this with h1 | h1
      · exact .inl (.inr ⟨rfl, h1⟩)
      · exact .inr (.inr ⟨rfl, h1⟩)
    · rcases UInt8.lt_or_lt_of_ne e with h1 | h1
      · exact .inl (.inl h1)
      · exact .inr (.inl h1)
def compareS (a b : ByteArray) : Int := if bl a.toList b.toList then -1 else if a = b then 0 else 1
instance : Inhabited Ot := ⟨⟨ByteArray.empty, 0, Ag.zero⟩⟩
def cfOt (x y : Ot) : Int := if Lib.compareInt x.st y.st ≠ 0 then Lib.compareInt x.st y.st else compareS x.key y.key
/-- A window stands ahead of another one. -/
def ltO (x y : Ot) : Prop := x.st < y.st ∨ (x.st = y.st ∧ bl x.key.toList y.key.toList = true)
theorem ltOt (x y : Ot) : ltOf cfOt x y = true ↔ ltO x y := by
  unfold ltOf cfOt Lib.compareInt ltO compareS
  by_cases h1 : x.st < y.st
  · simp [h1]
  · by_cases h2 : y.st < x.st
    · simp [h1, h2]; omega
    · have e : x.st = y.st := by omega
      simp [h1, h2, e]
      split
      · rename_i h; simp [h]
      · rename_i h
        split <;> simp [h]
theorem ltO_irrefl (x : Ot) : ¬ ltO x x := by
  rintro (h | ⟨_, h⟩)
  · omega
  · rw [bl_irrefl] at h; cases h
theorem ltO_trans {x y z : Ot} (h1 : ltO x y) (h2 : ltO y z) : ltO x z := by
  rcases h1 with h1 | ⟨e1, h1⟩ <;> rcases h2 with h2 | ⟨e2, h2⟩
  · exact .inl (by omega)
  · exact .inl (by omega)
  · exact .inl (by omega)
  · exact .inr ⟨by omega, bl_trans h1 h2⟩
theorem ltO_total {x y : Ot} (h : x.st ≠ y.st ∨ x.key ≠ y.key) : ltO x y ∨ ltO y x := by
  by_cases e : x.st = y.st
  · have hk : x.key.toList ≠ y.key.toList := fun e2 => by rcases h with h | h; exact h e; exact h (bytes_inj e2)
    rcases bl_total hk with h1 | h1
    · exact .inl (.inr ⟨e, h1⟩)
    · exact .inr (.inr ⟨e.symm, h1⟩)
  · by_cases h1 : x.st < y.st
    · exact .inl (.inl h1)
    · exact .inr (.inl (by omega))
theorem swoOt : SWO (ltOf cfOt) where
  irrefl x := by
    cases h : ltOf cfOt x x with
    | false => rfl
    | true => exact absurd ((ltOt x x).1 h) (ltO_irrefl x)
  trans x y z h1 h2 := (ltOt x z).2 (ltO_trans ((ltOt x y).1 h1) ((ltOt y z).1 h2))
  ntrans x y z h1 h2 := by
    cases h : ltOf cfOt x z with
    | false => rfl
    | true =>
      exfalso
      have h3 := (ltOt x z).1 h
      have n1 : ¬ ltO x y := fun h => by rw [(ltOt x y).2 h] at h1; cases h1
      have n2 : ¬ ltO y z := fun h => by rw [(ltOt y z).2 h] at h2; cases h2
      by_cases e1 : y.st ≠ z.st ∨ y.key ≠ z.key
      · rcases ltO_total e1 with h4 | h4
        · exact n2 h4
        · exact n1 (ltO_trans h3 h4)
      · have a1 : y.st = z.st := Classical.byContradiction fun h => e1 (.inl h)
        have a2 : y.key = z.key := Classical.byContradiction fun h => e1 (.inr h)
        apply n1
        unfold ltO at h3 ⊢
        rw [a1, a2]; exact h3
theorem isNaN64_any (x : Int) (w : World) : Calls Try.prog 78 #[.int .i64 x] w fun e w' => e = .returned (.bool false) ∧ w = w' := by
  go_enter Try.func78, Try.ntmps78
  go_wp2
  go_ret
  exact ⟨rfl, rfl⟩
theorem isNaNS_any (x : ByteArray) (w : World) : Calls Try.prog 79 #[.string x] w fun e w' => e = .returned (.bool false) ∧ w = w' := by
  go_enter Try.func79, Try.ntmps79
  go_wp2
  go_ret
  exact ⟨rfl, rfl⟩
theorem compare64_any (x y : Int) (w : World) : Calls Try.prog 58 #[.int .i64 x, .int .i64 y] w fun e w' => e = .returned (.int .i64 (Lib.compareInt x y)) ∧ w = w' := by
  unfold Lib.compareInt
  by_cases h1 : x < y
  · rw [if_pos h1]
    go_enter Try.func58, Try.ntmps58
    go_wp2_with (go_at_call 78; refine (isNaN64_any _ _).mono ?_; rintro e w' ⟨rfl, rfl⟩)
    go_ret
    exact ⟨rfl, rfl⟩
  · rw [if_neg h1]
    by_cases h2 : x > y
    · rw [if_pos h2]
      go_enter Try.func58, Try.ntmps58
      go_wp2_with (go_at_call 78; refine (isNaN64_any _ _).mono ?_; rintro e w' ⟨rfl, rfl⟩)
      go_ret
      exact ⟨rfl, rfl⟩
    · rw [if_neg h2]
      go_enter Try.func58, Try.ntmps58
      go_wp2_with (go_at_call 78; refine (isNaN64_any _ _).mono ?_; rintro e w' ⟨rfl, rfl⟩)
      go_ret
      exact ⟨rfl, rfl⟩
theorem compareS_any (x y : ByteArray) (w : World) : Calls Try.prog 59 #[.string x, .string y] w fun e w' => e = .returned (.int .i64 (compareS x y)) ∧ w = w' := by
  have he := beq_bytes x y
  obtain ⟨r, hr⟩ : ∃ r, compareS x y = r := ⟨_, rfl⟩
  rw [hr]
  unfold compareS at hr
  obtain ⟨p, hp⟩ : ∃ p, Op.bytesLess x.toList y.toList = p := ⟨_, rfl⟩
  change (if Op.bytesLess x.toList y.toList = true then (-1 : Int) else if x = y then 0 else 1) = r at hr
  rw [hp] at hr
  by_cases h1 : x = y
  · rw [decide_eq_true h1] at he
    rw [if_pos h1] at hr
    clear h1
    cases p <;> simp only [Bool.false_eq_true, if_false, if_true] at hr <;> subst hr
    all_goals
      go_enter Try.func59, Try.ntmps59
      go_wp2_with (go_at_call 79; refine (isNaNS_any _ _).mono ?_; rintro e w' ⟨rfl, rfl⟩)
      go_ret
      exact ⟨rfl, rfl⟩
  · rw [decide_eq_false h1] at he
    rw [if_neg h1] at hr
    clear h1
    cases p <;> simp only [Bool.false_eq_true, if_false, if_true] at hr <;> subst hr
    all_goals
      go_enter Try.func59, Try.ntmps59
      go_wp2_with (go_at_call 79; refine (isNaNS_any _ _).mono ?_; rintro e w' ⟨rfl, rfl⟩)
      go_ret
      exact ⟨rfl, rfl⟩
theorem or_any (c1 c2 : Int) (g : Nat) (w : World) (h : w.heap[g]? = some (.cells #[.int .i64 c1, .int .i64 c2] 3 (0, 0))) :
    Calls Try.prog 57 #[.slice (some ⟨g, 0, none⟩) 2 2] w fun e w' => e = .returned (.int .i64 (if c1 ≠ 0 then c1 else c2)) ∧ w = w' := by
  have h0 : w.cell? ⟨g, 0, none⟩ = some (.int .i64 c1) := by unfold World.cell?; rw [h]; rfl
  have h1 : w.cell? ⟨g, 1, none⟩ = some (.int .i64 c2) := by unfold World.cell?; rw [h]; rfl
  clear h
  by_cases hc : c1 = 0
  · rw [if_neg (by simp [hc])]
    have hb : (c1 != 0) = false := by simp [hc]
    clear hc
    by_cases hd : c2 = 0
    · have hb2 : (c2 != 0) = false := by simp [hd]
      have HD := Lib.hid hd
      clear hd
      go_enter Try.func57, Try.ntmps57
      go_wp2_with (fail)
      refine wp_loop_rounds 3 ?_
      rw [rounds_succ]
      go_wp2_with (fail)
      rw [rounds_succ]
      go_wp2_with (fail)
      rw [rounds_succ]
      go_wp2_with (fail)
      go_ret
      exact ⟨by rw [HD.out]; rfl, rfl⟩
    · have hb2 : (c2 != 0) = true := by simp [hd]
      clear hd
      go_enter Try.func57, Try.ntmps57
      go_wp2_with (fail)
      refine wp_loop_rounds 2 ?_
      rw [rounds_succ]
      go_wp2_with (fail)
      rw [rounds_succ]
      go_wp2_with (fail)
      go_ret
      exact ⟨rfl, rfl⟩
  · rw [if_pos hc]
    have hb : (c1 != 0) = true := by simp [hc]
    clear hc
    go_enter Try.func57, Try.ntmps57
    go_wp2_with (fail)
    refine wp_loop_rounds 1 ?_
    rw [rounds_succ]
    go_wp2_with (fail)
    go_ret
    exact ⟨rfl, rfl⟩
/-- A window in a block of its own. -/
def OtAt (W : World) (g : Nat) (x : Ot) : Prop := W.heap[g]? = some (.cells #[.string x.key, .int .i64 x.st, .int .i64 x.ag.c, .int .i64 x.ag.s, .int .i64 x.ag.lo, .int .i64 x.ag.hi, .int .i64 x.ag.b0, .int .i64 x.ag.b1, .int .i64 x.ag.b2, .int .i64 x.ag.b3] 33 (0, 0))
theorem OtAt.cells {W : World} {g : Nat} {x : Ot} (h : OtAt W g x) : W.cell? ⟨g, 0, none⟩ = some (.string x.key) ∧ W.cell? ⟨g, 1, none⟩ = some (.int .i64 x.st) ∧ (∀ o, W.frozen? ⟨g, o, none⟩ = false) := by
  unfold OtAt at h
  refine ⟨?_, ?_, fun o => ?_⟩
  all_goals first | (unfold World.cell?; rw [h]; rfl) | (unfold World.frozen?; rw [h]; simp)
theorem OtAt.keep {X : List Nat} {W W' : World} {g : Nat} {x : Ot} (h : OtAt W g x) (hk : Keep X W W') (hx : g ∉ X := by simp) : OtAt W' g x := (hk.block g (lt_of_heap h) hx).trans h
theorem OtAt.new (W : World) (x : Ot) : OtAt (W.alloc (.cells #[.string x.key, .int .i64 x.st, .int .i64 x.ag.c, .int .i64 x.ag.s, .int .i64 x.ag.lo, .int .i64 x.ag.hi, .int .i64 x.ag.b0, .int .i64 x.ag.b1, .int .i64 x.ag.b2, .int .i64 x.ag.b3] 33)) W.heap.size x := World.alloc_heap_new W _
def Ot.enc (x : Ot) : List Value := [.string x.key, .int .i64 x.st, .int .i64 x.ag.c, .int .i64 x.ag.s, .int .i64 x.ag.lo, .int .i64 x.ag.hi, .int .i64 x.ag.b0, .int .i64 x.ag.b1, .int .i64 x.ag.b2, .int .i64 x.ag.b3]
/-- Draws and new blocks alone. -/
def Grown (w W : World) : Prop := ∃ q os', W = grow (w.drewN q) os'
theorem Grown.refl (w : World) : Grown w w := ⟨0, #[], by simp [World.drewN]⟩
theorem Grown.drew {w W : World} (h : Grown w W) : Grown w W.drew := by
  obtain ⟨q, os, rfl⟩ := h
  exact ⟨q + 1, os, rfl⟩
theorem Grown.alloc {w W : World} (h : Grown w W) (o : Obj) : Grown w (W.alloc o) := by
  obtain ⟨q, os, rfl⟩ := h
  exact ⟨q, os ++ #[o], by rw [alloc_eq_grow, grow_grow]⟩
theorem Grown.trans {a b c : World} (h : Grown a b) (k : Grown b c) : Grown a c := by
  obtain ⟨q, os, rfl⟩ := h
  obtain ⟨q', os', rfl⟩ := k
  exact ⟨q + q', os ++ os', by simp [grow, World.drewN, Nat.add_assoc, Array.append_assoc]⟩
theorem Grown.keep {w W : World} (h : Grown w W) : Keep [] w W := by
  obtain ⟨q, os, rfl⟩ := h
  exact ⟨rfl, rfl, rfl, by simp [grow, World.drewN], fun k hk _ => heap_grow_old (w.drewN q) os hk⟩
/-- A new row of two numbers. -/
def Spec.pair (n : Nat) (c1 c2 : Int) : Spec := { p := fun _ v => ∃ g, v = .slice (some ⟨g, 0, none⟩) 2 2 ∧ n ≤ g, A := fun _ v w => ∃ g, v = .slice (some ⟨g, 0, none⟩) 2 2 ∧ n ≤ g ∧ w.heap[g]? = some (.cells #[.int .i64 c1, .int .i64 c2] 3 (0, 0)) }
theorem Spec.pair_ok (n : Nat) (c1 c2 : Int) : (Spec.pair n c1 c2).ok := ⟨fun _ v w w' ⟨g, h1, h2, h3⟩ hk => ⟨g, h1, h2, (hk.block g (lt_of_heap h3) (by simp)).trans h3⟩, fun _ _ _ h => h, fun _ => trivial, fun _ => ⟨_, n, rfl, Nat.le_refl _⟩⟩
set_option maxRecDepth 100000 in
set_option maxHeartbeats 2000000 in
theorem lessO_any (x y : Ot) (w : World) : Calls Try.prog 56 #[.agg x.enc.toArray, .agg y.enc.toArray] w fun e w' => e = .returned (.int .i64 (cfOt x y)) ∧ ∃ q os', w' = grow (w.drewN q) os' := by
  have hc := fun W => compare64_any x.st y.st W
  have hs := fun W => compareS_any x.key y.key W
  unfold cfOt
  obtain ⟨W1, hW1⟩ : ∃ W1, (w.alloc (.cells x.enc.toArray 33)).alloc (.cells y.enc.toArray 33) = W1 := ⟨_, rfl⟩
  have hx : OtAt W1 w.heap.size x := hW1 ▸ (OtAt.new w x).keep ((Keep.refl [] _).alloc _)
  have hy : OtAt W1 (w.heap.size + 1) y := by
    have := OtAt.new (w.alloc (.cells x.enc.toArray 33)) y
    rw [World.size_alloc] at this
    exact hW1 ▸ this
  have hg : Grown w W1 := hW1 ▸ ((Grown.refl w).alloc _).alloc _
  have hf : ∀ W, Grown W1 W → W.cell? ⟨w.heap.size, 0, none⟩ = some (.string x.key) ∧ W.cell? ⟨w.heap.size, 1, none⟩ = some (.int .i64 x.st) ∧ W.cell? ⟨w.heap.size + 1, 0, none⟩ = some (.string y.key) ∧ W.cell? ⟨w.heap.size + 1, 1, none⟩ = some (.int .i64 y.st) := fun W hW =>
    ⟨(hx.keep hW.keep).cells.1, (hx.keep hW.keep).cells.2.1, (hy.keep hW.keep).cells.1, (hy.keep hW.keep).cells.2.1⟩
  have HF := Lib.hid hf
  have HG := Lib.hid hg
  obtain ⟨c1, hc1⟩ : ∃ c, Lib.compareInt x.st y.st = c := ⟨_, rfl⟩
  obtain ⟨c2, hc2⟩ : ∃ c, compareS x.key y.key = c := ⟨_, rfl⟩
  rw [hc1] at hc ⊢
  rw [hc2] at hs ⊢
  have HC := Lib.hid hc
  have HS := Lib.hid hs
  obtain ⟨r, hr⟩ : ∃ r, (if c1 ≠ 0 then c1 else c2) = r := ⟨_, rfl⟩
  rw [hr]
  have HR := Lib.hid hr
  clear hx hy hg hf hc hs hc1 hc2 hr
  unfold Ot.enc at hW1 ⊢
  obtain ⟨xk, xs, x1, x2, x3, x4, x5, x6, x7, x8⟩ := x
  obtain ⟨yk, ys, y1, y2, y3, y4, y5, y6, y7, y8⟩ := y
  simp only at hW1 HF HC HS ⊢
  go_enter Try.func56, Try.ntmps56
  go_wp2_with (fail)
  clear hW1
  refine wp_region_soupC 11 (Grown W1) (spOf [(4, Spec.is (.int .i64 c1)), (9, Spec.is (.int .i64 c2)), (10, Spec.pair W1.heap.size c1 c2)]) (by kernel_rfl) (by kernel_rfl) (spOk_of (by simp [Spec.is_ok, Spec.pair_ok])) (Grown.refl _).drew (pre_of (by simp [Spec.is_ok, Spec.pair_ok])) ?_
  simp only [List.take_succ_cons, List.take_zero, List.drop_succ_cons, List.drop_zero]
  iterate 4
    refine soup_q rfl rfl ?_
    apply Exists.intro
    refine ⟨fun W hk _ => ?_, ?_⟩
    · obtain ⟨p0, p1, q0, q1⟩ := HF.out W hk
      unfold Oper.same
      go_simp
      first | rfl | exact ⟨rfl, rfl⟩
    apply Exists.intro
    refine ⟨?_, ?_⟩
    · go_simp
      rfl
  refine soup_s rfl rfl rfl (fun W hk _ _ => ?_) ?_
  · unfold Oper.does
    go_simp
    refine (HC.out _).mono ?_
    rintro e w' ⟨rfl, rfl⟩
    exact ⟨_, rfl, Keep.refl _ _, hk, rfl, trivial⟩
  intro v hv
  obtain rfl : v = _ := hv
  apply Exists.intro
  refine ⟨?_, ?_⟩
  · go_simp
    rfl
  iterate 4
    refine soup_q rfl rfl ?_
    apply Exists.intro
    refine ⟨fun W hk _ => ?_, ?_⟩
    · obtain ⟨p0, p1, q0, q1⟩ := HF.out W hk
      unfold Oper.same
      go_simp
      first | rfl | exact ⟨rfl, rfl⟩
    apply Exists.intro
    refine ⟨?_, ?_⟩
    · go_simp
      rfl
  refine soup_s rfl rfl rfl (fun W hk _ _ => ?_) ?_
  · unfold Oper.does
    go_simp
    refine (HS.out _).mono ?_
    rintro e w' ⟨rfl, rfl⟩
    exact ⟨_, rfl, Keep.refl _ _, hk, rfl, trivial⟩
  intro v hv
  obtain rfl : v = _ := hv
  apply Exists.intro
  refine ⟨?_, ?_⟩
  · go_simp
    rfl
  refine soup_s rfl rfl rfl (fun W hk _ _ => ?_) ?_
  · unfold Oper.does
    go_simp
    exact ⟨(Keep.refl _ _).alloc _, hk.alloc _, ⟨_, rfl, hk.keep.size⟩, _, rfl, hk.keep.size, World.alloc_heap_new W _⟩
  rintro v ⟨g, rfl, hg⟩
  apply Exists.intro
  refine ⟨?_, ?_⟩
  · go_simp
    rfl
  refine soup_nil (fun W2 hk hS => ?_)
  obtain ⟨g', hg1, _, hgz⟩ := hS 10
  obtain rfl : g = g' := by simpa using hg1
  have HZ := Lib.hid hgz
  have HG2 := Lib.hid (HG.out.trans hk)
  clear hS hg1 hgz HF HG hg hk
  refine BigFrame.wpList_want rfl (fun K hK => ?_)
  go_simp
  have ho := or_any c1 c2 g _ HZ.out
  rw [HR.out] at ho
  refine ho.mono ?_
  rintro e w3 ⟨rfl, rfl⟩
  refine hK _ _ ?_
  clear hK K
  go_wp2_with (fail)
  go_ret
  exact ⟨rfl, HG2.out⟩
end Go.Proofs.Ytmhbibcfbencnaa
