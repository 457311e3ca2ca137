/- Toward the laws: what a coordinator does not heed; guarded operations; the first table. -/
import Derived.Test.YtdnfibecobodkaaGreatCeF
import Derived.Test.YtdnfibecobodkaaGreatCeG
namespace Go.Proofs.YtdnfibecobodkaaGreat
open Go.RowKit Go.Lib
set_option linter.unusedSimpArgs false
set_option linter.unusedVariables false
theorem findMo_moves (c : Cd) (mv : Int) : findMo mv (movesF c) = (findMv mv (c.m.map (·.2))).map fun x => ⟨x, atOf x.mv c.at_⟩ := by
  unfold findMo movesF findMv
  rw [List.find?_map]
  rfl
/-- Is it what a move's own side says? -/
def ownF (l : List Mo) (k : Nat) (mv pt fr : Int) : Bool :=
  match findMo mv l with
  | none => false
  | some x => decide (x.x.part = pt) && ((decide (k = 10) && decide (x.s.st = 1) && decide (fr = x.x.to)) || (decide (k = 13) && decide (x.s.st ≠ 1) && ((decide (fr = x.x.fr) && decide (x.s.dn ≠ 1)) || (decide (fr = x.x.to) && decide (x.s.dn ≠ 2)))))
theorem dn_cases {d : Nat} (h : d ≤ 2) : d = 0 ∨ d = 1 ∨ d = 2 := by omega
/-- The same state for what is asked of it. -/
structure CdLike (c c' : Cd) : Prop where
  ep : c'.ep = c.ep
  nd : c'.nd = c.nd
  own : c'.own = c.own
  m : c'.m = c.m
  at_ : ∀ j, atOf j c'.at_ = atOf j c.at_
theorem CdLike.refl (c : Cd) : CdLike c c := ⟨rfl, rfl, rfl, rfl, fun _ => rfl⟩
theorem CdLike.moves {c c' : Cd} (h : CdLike c c') : movesF c' = movesF c := by
  unfold movesF
  rw [h.m]
  exact List.map_congr_left fun x _ => by rw [h.at_]
theorem CdLike.tick {c c' : Cd} (h : CdLike c c') : tickF c' = tickF c := by
  have e1 : ∀ x s, tickOf c' x s = tickOf c x s := fun x s => by
    unfold tickOf m11
    rw [h.ep, h.nd, h.own]
  have e2 : ∀ n, newsOf c' n = newsOf c n := fun n => by
    unfold newsOf m14
    rw [h.ep, h.nd, h.own]
  have e3 : (fun x => tickOf c' x (atOf x.mv c'.at_)) = fun x => tickOf c x (atOf x.mv c.at_) := funext fun x => by rw [e1, h.at_]
  unfold tickF
  rw [h.m, h.nd, e3]
  simp only [e2]
theorem deaf_pure {n s k : Nat} {c : Cd} (h : CdInv n s k c) (kd : Nat) (mv pt fr code : Int) : (coHandle c fr kd mv pt code).1 = ownF (movesF c) kd mv pt fr ∧ (ownF (movesF c) kd mv pt fr = false → CdLike c (coHandle c fr kd mv pt code).2) := by
  unfold ownF coHandle
  rw [findMo_moves]
  cases hx : findMv mv (c.m.map (·.2)) with
  | none => exact ⟨rfl, fun _ => CdLike.refl c⟩
  | some x =>
    obtain ⟨q, hq, rfl, _⟩ := findMv_mem hx
    have e := h.mem q hq
    simp only [Option.map_some]
    by_cases hp : q.2.part = pt
    · rw [if_neg (by simp [hp])]
      by_cases h10 : kd = 10
      · subst h10
        by_cases hst : (atOf q.2.mv c.at_).st = 1
        · by_cases hf : fr = q.2.to
          · rw [if_pos ⟨rfl, hst, hf⟩]
            simp [hp, hst, hf]
          · rw [if_neg (by simp [hf]), if_neg (by simp)]
            simp [hf]
            exact CdLike.refl c
        · rw [if_neg (by simp [hst]), if_neg (by simp)]
          simp [hst]
          exact CdLike.refl c
      · rw [if_neg (by simp [h10])]
        by_cases h13 : kd = 13
        · subst h13
          by_cases hst : (atOf q.2.mv c.at_).st = 1
          · rw [if_neg (by simp [hst])]
            simp [hst]
            exact CdLike.refl c
          · rw [if_pos ⟨rfl, hst⟩]
            have hne := e.ne
            have hfin : dnF q.2 fr (atOf q.2.mv c.at_).dn = (atOf q.2.mv c.at_).dn → CdLike c (coDone c q.2 fr).2 := by
              intro hd
              unfold coDone
              rw [hd, if_neg (by have := e.dn; omega)]
              refine ⟨rfl, rfl, rfl, rfl, fun j => ?_⟩
              simp only
              rw [atOf_put]
              split
              · rename_i hj; rw [hj]
              · rfl
            have hd1 : (coDone c q.2 fr).1 = decide (dnF q.2 fr (atOf q.2.mv c.at_).dn ≠ (atOf q.2.mv c.at_).dn) := rfl
            rw [hd1]
            generalize hD : (atOf q.2.mv c.at_).dn = d at *
            have hd2 := e.dn
            rw [hD] at hd2
            unfold dnF at hfin ⊢
            by_cases hf : fr = q.2.fr
            · have hft : ¬ fr = q.2.to := fun e2 => hne (hf.symm.trans e2)
              rw [if_pos hf] at hfin ⊢
              rcases dn_cases hd2 with rfl | rfl | rfl
              · simp [hp, hst, hf]
              · simp [hp, hst, hf, hne]
                exact hf ▸ hfin rfl
              · simp [hp, hst, hf]
            · rw [if_neg hf] at hfin ⊢
              by_cases hft : fr = q.2.to
              · rw [if_pos hft] at hfin ⊢
                rcases dn_cases hd2 with rfl | rfl | rfl
                · simp [hp, hst, hft]
                · simp [hp, hst, hft]
                · simp [hp, hst, hft, Ne.symm hne]
                  exact hft ▸ hfin rfl
              · rw [if_neg hft] at hfin ⊢
                simp [hf, hft]
                exact hfin rfl
        · rw [if_neg (by simp [h13])]
          simp [h10, h13]
          exact CdLike.refl c
    · rw [if_pos hp]
      simp [hp]
      exact CdLike.refl c
/-! Guarded operations. -/
section
variable {P : Program} {ops : Array Oper} {rest : List Oper} {o : Oper} {a : Act} {w : World} {Q : Exit → Act → World → Prop}
theorem wpList_want (hw : Region.wanted o (yielded ops a.tmps) = true) (h : ∀ K : Act → World → Prop, (∀ a w, wpList P ops Q rest a w → K a w) → o.wp P a w K Q) : wpList P ops Q (o :: rest) a w := by
  unfold wpList
  rw [if_pos hw]
  exact .inl (h _ fun _ _ h => h)
theorem wpListG_load_row (hgd : Region.wanted o (yielded ops a.tmps) = true) (ty : TypeId) (x : Operand) (ho : o.op = .load ty x)
    (g : Nat) (hx : a.eval x = .pointer (some ⟨g, 0, none⟩)) (t : TypeId) (cs : Array Value) (fr : Nat × Nat) (d : TypeDesc) (hg : w.heap[g]? = some (.cells cs t fr))
    (hu : P.underlying ty = some d) (hd : (match d with | .struct _ | .array _ _ => true | _ => false) = true) (hi : (P.info? ty).map (·.size) = some cs.size)
    (h : wpList P ops Q rest (a.put o.dst (.agg cs)) w) : wpList P ops Q (o :: rest) a w :=
  wpList_want hgd fun _ hK => wp_load_row ty x ho g hx t cs fr d hg hu hd hi (hK _ _ h)
theorem wpListG_build (hgd : Region.wanted o (yielded ops a.tmps) = true) (ty : TypeId) (x : Operand) (ho : o.op = .build ty #[(4, x)]) (v : Value) (hx : a.eval x = v) (cells : Array Value) (hc : P.built ty [(4, v)] = some cells)
    (h : wpList P ops Q rest (a.put o.dst (.agg cells)) w) : wpList P ops Q (o :: rest) a w :=
  wpList_want hgd fun _ hK => by
    unfold Oper.wp execOp
    subst hx
    simp only [ho, Sem.run_bind, run_build w ty #[(4, a.eval x)] cells hc, Result.andThen_ok, List.map_toArray, List.map_cons, List.map_nil]
    exact hK _ _ h
theorem wpListG_slice (hgd : Region.wanted o (yielded ops a.tmps) = true) (ty : TypeId) (x : Operand) (ho : o.op = .buildSlice ty 1 #[(0, x)]) (v : Value) (hx : a.eval x = v) (u : Value) (w' : World) (hr : (Instr.buildSlice ty 1 #[(0, v)]).run P w = .ok u w')
    (h : wpList P ops Q rest (a.put o.dst u) w') : wpList P ops Q (o :: rest) a w :=
  wpList_want hgd fun _ hK => by
    unfold Oper.wp execOp
    subst hx
    simp only [ho, Sem.run_bind, hr, Result.andThen_ok, List.map_toArray, List.map_cons, List.map_nil]
    exact hK _ _ h
end
def Ac.of (ms : List Value) (k : Nat) (mv pt cd : Int) : Ac := ⟨0, 0, 0, 0, ms, k, mv, pt, cd, 0, 0⟩
theorem built_act0 (v0 v1 v2 v3 v4 v5 v6 v7 v8 v9 v10 v11 v12 v13 v14 v15 v16 v17 v18 v19 v20 v21 : Value) : Tryz.prog.built 60 [(4, .agg #[v0, v1, v2, v3, v4, v5, v6, v7, v8, v9, v10, v11, v12, v13, v14, v15, v16, v17, v18, v19, v20, v21])] = some #[.int .i64 0, .int .i64 0, .int .i64 0, .int .i64 0, v0, v1, v2, v3, v4, v5, v6, v7, v8, v9, v10, v11, v12, v13, v14, v15, v16, v17, v18, v19, v20, v21, .int .i64 0, .int .i64 0] := by kernel_rfl
theorem built_act {ms : List Value} (h : ms.length = 22) (k : Nat) (mv pt cd : Int) : Tryz.prog.built 60 [(4, .agg ms.toArray)] = some (Ac.of ms k mv pt cd).cells.toArray := by
  match ms, h with
  | [v0, v1, v2, v3, v4, v5, v6, v7, v8, v9, v10, v11, v12, v13, v14, v15, v16, v17, v18, v19, v20, v21], _ => exact built_act0 v0 v1 v2 v3 v4 v5 v6 v7 v8 v9 v10 v11 v12 v13 v14 v15 v16 v17 v18 v19 v20 v21
theorem slice_act0 (v0 v1 v2 v3 v4 v5 v6 v7 v8 v9 v10 v11 v12 v13 v14 v15 v16 v17 v18 v19 v20 v21 v22 v23 v24 v25 v26 v27 : Value) (W : World) : (Instr.buildSlice 51 1 #[(0, .agg #[v0, v1, v2, v3, v4, v5, v6, v7, v8, v9, v10, v11, v12, v13, v14, v15, v16, v17, v18, v19, v20, v21, v22, v23, v24, v25, v26, v27])]).run Tryz.prog W = .ok (.slice (some ⟨W.heap.size, 0, none⟩) 1 1) (W.alloc (.cells #[v0, v1, v2, v3, v4, v5, v6, v7, v8, v9, v10, v11, v12, v13, v14, v15, v16, v17, v18, v19, v20, v21, v22, v23, v24, v25, v26, v27] 60)) := by kernel_rfl
theorem slice_act {cs : List Value} (h : cs.length = 28) (W : World) : (Instr.buildSlice 51 1 #[(0, .agg cs.toArray)]).run Tryz.prog W = .ok (.slice (some ⟨W.heap.size, 0, none⟩) 1 1) (W.alloc (.cells cs.toArray 60)) := by
  match cs, h with
  | [v0, v1, v2, v3, v4, v5, v6, v7, v8, v9, v10, v11, v12, v13, v14, v15, v16, v17, v18, v19, v20, v21, v22, v23, v24, v25, v26, v27], _ => exact slice_act0 v0 v1 v2 v3 v4 v5 v6 v7 v8 v9 v10 v11 v12 v13 v14 v15 v16 v17 v18 v19 v20 v21 v22 v23 v24 v25 v26 v27 W
theorem tn_right {n s : Nat} (hn1 : 1 ≤ n) (hn4 : n ≤ 4) (hs1 : 1 ≤ s) (hs8 : s ≤ 8) (a : Option Addr) (c : Nat) : (⟨1, n, a, c, tnL n s⟩ : Tb).right = true := by
  have hl := tnL_len n s
  unfold Tb.right
  simp only [hl, Bool.and_eq_true, decide_eq_true_eq, Bool.not_eq_true', List.any_eq_false]
  refine ⟨⟨⟨⟨⟨by omega, by omega⟩, by omega⟩, hs1⟩, hs8⟩, fun x hx => ?_⟩
  unfold tnL at hx
  obtain ⟨i, _, rfl⟩ := List.mem_map.1 hx
  have := Nat.mod_lt i (show 0 < n by omega)
  unfold outN
  simp
  omega
end Go.Proofs.YtdnfibecobodkaaGreat
