/- Aggregates: Put. -/
import Derived.Test.YtmhbibcfbencnaaStB
namespace Go.Proofs.Ytmhbibcfbencnaa
open Go.RowKit Go.Lib
set_option linter.unusedSimpArgs false
set_option linter.unusedVariables false
theorem bcell {W W1 : World} (hb : Below W.heap.size W W1) : (∀ b o, b < W.heap.size → W1.cell? ⟨b, o, none⟩ = W.cell? ⟨b, o, none⟩) ∧ (∀ b o, b < W.heap.size → W1.frozen? ⟨b, o, none⟩ = W.frozen? ⟨b, o, none⟩) :=
  ⟨fun b o h => hb.cell (p := ⟨b, o, none⟩) h, fun b o h => hb.frozen (p := ⟨b, o, none⟩) h⟩
def Ag.one (v : Int) : Ag := ⟨1, v, v, v, if bucketI v = 0 then 1 else 0, if bucketI v = 1 then 1 else 0, if bucketI v = 2 then 1 else 0, if bucketI v = 3 then 1 else 0⟩
def Ag.put (a : Ag) (v : Int) : Ag := a.join (Ag.one v)
theorem bucket_cases (v : Int) : bucketI v = 0 ∨ bucketI v = 1 ∨ bucketI v = 2 ∨ bucketI v = 3 := by
  unfold bucketI
  split
  · simp
  · split
    · simp
    · split <;> simp
abbrev agObj (x1 x2 x3 x4 x5 x6 x7 x8 : Int) : Obj := .cells #[.int .i64 x1, .int .i64 x2, .int .i64 x3, .int .i64 x4, .int .i64 x5, .int .i64 x6, .int .i64 x7, .int .i64 x8] 31
theorem bx_zero (w : World) (o1 o3 : Obj) : Bx (((w.alloc o1).alloc (agObj 0 0 0 0 0 0 0 0)).alloc o3) (w.heap.size + 1) 0 0 0 0 0 0 0 0 := by
  have := Bx.new (w.alloc o1) 0 0 0 0 0 0 0 0
  rw [World.size_alloc] at this
  exact this.below ((Below.refl _ _).alloc (Nat.le_refl _) _)
theorem below3 (w : World) (o1 o2 o3 : Obj) : Below w.heap.size w (((w.alloc o1).alloc o2).alloc o3) := (((Below.refl _ w).alloc (Nat.le_refl _) _).alloc (by simp) _).alloc (by simp; omega) _
/-- The eight cells of an aggregate that are stored one behind the other. -/
def setAg (W : World) (b : Nat) (x : Ag) : World :=
  (((((((W.setCell ⟨b, 0, none⟩ (.int .i64 x.c)).setCell ⟨b, 1, none⟩ (.int .i64 x.s)).setCell ⟨b, 2, none⟩ (.int .i64 x.lo)).setCell ⟨b, 3, none⟩ (.int .i64 x.hi)).setCell ⟨b, 4, none⟩ (.int .i64 x.b0)).setCell ⟨b, 5, none⟩ (.int .i64 x.b1)).setCell ⟨b, 6, none⟩ (.int .i64 x.b2)).setCell ⟨b, 7, none⟩ (.int .i64 x.b3)
theorem setAg_bx {W : World} {b : Nat} {x1 x2 x3 x4 x5 x6 x7 x8 : Int} (h : Bx W b x1 x2 x3 x4 x5 x6 x7 x8) (x : Ag) : Bx (setAg W b x) b x.c x.s x.lo x.hi x.b0 x.b1 x.b2 x.b3 :=
  h.set0 x.c |>.set1 x.s |>.set2 x.lo |>.set3 x.hi |>.set4 x.b0 |>.set5 x.b1 |>.set6 x.b2 |>.set7 x.b3
theorem setAg_keep (W : World) (b : Nat) (x : Ag) : Keep [b] W (setAg W b x) :=
  (((((((((Keep.refl [b] W).setCell b 0 (.int .i64 x.c) (.inl (List.mem_singleton.2 rfl))).setCell b 1 (.int .i64 x.s) (.inl (List.mem_singleton.2 rfl))).setCell b 2 (.int .i64 x.lo) (.inl (List.mem_singleton.2 rfl))).setCell b 3 (.int .i64 x.hi) (.inl (List.mem_singleton.2 rfl))).setCell b 4 (.int .i64 x.b0) (.inl (List.mem_singleton.2 rfl))).setCell b 5 (.int .i64 x.b1) (.inl (List.mem_singleton.2 rfl))).setCell b 6 (.int .i64 x.b2) (.inl (List.mem_singleton.2 rfl))).setCell b 7 (.int .i64 x.b3) (.inl (List.mem_singleton.2 rfl)))
/-- The end of a function that hands back an aggregate. -/
theorem ret_ag {f : Func} {a : Act} {w W : World} {b : Nat} {x1 x2 x3 x4 x5 x6 x7 x8 : Int} (x : Ag) (h : Bx W b x1 x2 x3 x4 x5 x6 x7 x8) (hB : Below w.heap.size w W) (hb : w.heap.size ≤ b)
    (hr : ∀ W', Bx W' b x.c x.s x.lo x.hi x.b0 x.b1 x.b2 x.b3 → (results f a.tmps).run Try.prog W' = .ok x.val W') (hd : a.defers = [] := by rfl) {e : Exit} (he : e = .ret ∨ e = .normal := by simp) :
    bodyPost Try.prog f (fun e w' => e = .returned x.val ∧ Below w.heap.size w w') e a (setAg W b x) := by
  have h1 := hr _ (setAg_bx h x)
  have h2 : Below w.heap.size w (setAg W b x) := hB.trans ((setAg_keep W b x).below hB.size (by simpa using hb))
  rcases he with rfl | rfl
  · exact bodyPost_ret h1 hd ⟨rfl, h2⟩
  · exact bodyPost_end h1 hd ⟨rfl, h2⟩
set_option maxRecDepth 100000 in
set_option maxHeartbeats 4000000 in
theorem aput_any (a : Ag) (v : Int) (w : World) : Calls Try.prog 54 #[a.val, .int .i64 v] w fun e w' => e = .returned (a.put v).val ∧ Below w.heap.size w w' := by
  have hb := bucket_any v
  rcases bucket_cases v with h | h | h | h
  all_goals
    rw [h] at hb
    have HJ := Lib.hid (join_any a (Ag.one v))
    unfold Ag.put
    obtain ⟨j, hj⟩ : ∃ j, a.join (Ag.one v) = j := ⟨_, rfl⟩
    rw [hj] at HJ ⊢
    simp only [Ag.one, h] at HJ
    clear hj h
    obtain ⟨a1, a2, a3, a4, a5, a6, a7, a8⟩ := a
    obtain ⟨j1, j2, j3, j4, j5, j6, j7, j8⟩ := j
    simp only [Ag.val] at HJ ⊢
    have HB := Lib.hid hb
    clear hb
    go_enter Try.func54, Try.ntmps54
    go_wp2_with (fail)
    refine (HB.out _).mono ?_
    rintro e w1 ⟨rfl, rfl⟩
    go_wp2_with (fail)
    refine (HJ.out _).mono ?_
    rintro e w1 ⟨rfl, hB⟩
    have hZ := (bx_zero w _ _).below hB
    have hBw := (below3 w _ _ _).trans (hB.mono (by simp; omega))
    clear hB
    have hzl := (hZ.facts).2.2.2.2.2.2.2.2.1
    have HK := Lib.hid hBw
    have HZ := Lib.hid hZ
    clear hBw hZ
    obtain ⟨z0, z1, z2, z3, z4, z5, z6, z7, z8, zf⟩ := HZ.out.facts
    go_wp2_with (fail)
    clear z0 z1 z2 z3 z4 z5 z6 z7 z8 zf
    exact ret_ag ⟨j1, j2, j3, j4, j5, j6, j7, j8⟩ HZ.out HK.out (Nat.le_succ _) (fun W h => by obtain ⟨z0, z1, z2, z3, z4, z5, z6, z7, z8, zf⟩ := h.facts; simp [results, Try.results54, go_sem, z0, z1, z2, z3, z4, z5, z6, z7, z8, Ag.val])
end Go.Proofs.Ytmhbibcfbencnaa
