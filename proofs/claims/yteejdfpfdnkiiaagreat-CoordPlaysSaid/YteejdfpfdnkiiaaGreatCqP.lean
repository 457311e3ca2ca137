/- The document's coordinator: Order, Abort. -/
import Derived.Test.YteejdfpfdnkiiaaGreatPj
namespace Go.Proofs.YteejdfpfdnkiiaaGreat
open Go.RowKit Go.Lib
set_option linter.unusedSimpArgs false
set_option linter.unusedVariables false
theorem results_c1 {fn : Func} {p u : Tmp} {ty : TypeId} (h : fn.results = #[.cell p ty, .tmp u]) (tmps : Array Value) (P : Program) (w : World) (g : Nat) (cs : Array Value) (x : Value) (hp : tmps.getD p undef = .pointer (some ⟨g, 0, none⟩)) (hu : tmps.getD u undef = x) (hlv : (loadVar ty ⟨g, 0, none⟩).run P w = .ok (.agg cs) w) : (results fn tmps).run P w = .ok (.tuple #[.agg cs, x]) w := by
  rw [results_cell_tmp h, hp, hu]
  show ((loadVar ty ⟨g, 0, none⟩).run P w).andThen (fun v w₂ => Result.ok (Value.tuple #[v, x]) w₂) = _
  rw [hlv]
  rfl
theorem results_c2 {fn : Func} {p u q : Tmp} {ty : TypeId} (h : fn.results = #[.cell p ty, .tmp u, .tmp q]) (tmps : Array Value) (P : Program) (w : World) (g : Nat) (cs : Array Value) (x y : Value) (hp : tmps.getD p undef = .pointer (some ⟨g, 0, none⟩)) (hu : tmps.getD u undef = x) (hq : tmps.getD q undef = y) (hlv : (loadVar ty ⟨g, 0, none⟩).run P w = .ok (.agg cs) w) : (results fn tmps).run P w = .ok (.tuple #[.agg cs, x, y]) w := by
  have e : (results fn tmps).run P w = ((asAddr (tmps.getD p undef)).run P w).andThen fun a w₁ => ((loadVar ty a).run P w₁).andThen fun v w₂ => .ok (.tuple #[v, tmps.getD u undef, tmps.getD q undef]) w₂ := by
    simp only [results, h]
    simp [Sem.run_bind, Result.andThen]
  rw [e, hp, hu, hq]
  show ((loadVar ty ⟨g, 0, none⟩).run P w).andThen (fun v w₂ => Result.ok (Value.tuple #[v, x, y]) w₂) = _
  rw [hlv]
  rfl
theorem load_dx {W : World} {b : Nat} {v0 v1 v2 v3 v4 v5 v6 : Value} (h : W.heap[b]? = some (.cells #[v0, v1, v2, v3, v4, v5, v6] 54 (0, 0))) : (loadVar 54 ⟨b, 0, none⟩).run Tryz.prog W = .ok (.agg #[v0, v1, v2, v3, v4, v5, v6]) W :=
  run_loadVar_row (P := Tryz.prog) W b 54 54 _ (0, 0) _ h Tryz.underlying54 rfl (by kernel_rfl)
def NewA (w w' : World) (a : Option Addr) : Prop := ∀ b off, a = some ⟨b, off, none⟩ → w.heap.size ≤ b ∧ b < w'.heap.size
/-- A document's coordinator as a value: its rows are old ones, or new. -/
def DxP (w : World) (oa la : Option Addr) (d : Dx) (cs : Array Value) (w' : World) : Prop := ∃ oa' oc' la' lc', cs = d.cells oa' oc' la' lc' ∧ IntsAt w' oa' d.own ∧ FlAt w' la' d.L ∧ d.L.length ≤ lc' ∧ (oa' = oa ∨ NewA w w' oa') ∧ (la' = la ∨ NewA w w' la')
def dxOrd (d : Dx) (part to : Int) : Dx × Int × Int :=
  if (Tb.mk d.ep d.nd none 0 d.own).may part to ≠ 0 then (d, 0, (Tb.mk d.ep d.nd none 0 d.own).may part to)
  else match fnd part d.L with
    | some _ => (d, 0, 20)
    | none => ({ d with L := d.L ++ [⟨⟨d.last + 1, part, d.own[part.toNat]?.getD 0, to⟩, ⟨1, 0⟩⟩], last := d.last + 1 }, d.last + 1, 0)
def OrdP (w : World) (oa la : Option Addr) (r : Dx × Int × Int) (e : Ending) (w' : World) : Prop := (∃ cs, e = .returned (.tuple #[.agg cs, .int .i64 r.2.1, .int .i64 r.2.2]) ∧ DxP w oa la r.1 cs w') ∧ Keep [] w w'
def AboP (w : World) (oa la : Option Addr) (r : Dx × Int) (e : Ending) (w' : World) : Prop := (∃ cs, e = .returned (.tuple #[.agg cs, .int .i64 r.2]) ∧ DxP w oa la r.1 cs w') ∧ Keep [] w w'
theorem DxP.same {w w' : World} {oa la : Option Addr} {d : Dx} {oc lc : Nat} (hI : IntsAt w oa d.own) (hl : FlAt w la d.L) (hc : d.L.length ≤ lc) (hk : Keep [] w w') : DxP w oa la d (d.cells oa oc la lc) w' :=
  ⟨oa, oc, la, lc, rfl, hI.keep hk (by simp), hl.kept hk, hc, .inl rfl, .inl rfl⟩
/-- A row of one move, in new memory. -/
def Spec.mv (n : Nat) (y : Mo) : Spec := { p := fun _ v => ∃ g, v = .slice (some ⟨g, 0, none⟩) 1 1, A := fun _ v w => ∃ g, v = .slice (some ⟨g, 0, none⟩) 1 1 ∧ n ≤ g ∧ w.heap[g]? = some (.cells y.cells.toArray 91 (0, 0)) }
theorem Spec.mv_ok (n : Nat) (y : Mo) : (Spec.mv n y).ok :=
  ⟨fun x v w w' h hk => by obtain ⟨g, h1, h2, h3⟩ := h; exact ⟨g, h1, h2, (hk.block g (lt_of_heap h3) (by simp)).trans h3⟩, fun _ _ _ h => h, fun _ => trivial, fun _ => ⟨_, n, rfl⟩⟩
theorem fl_one {W : World} {g : Nat} {y : Mo} (h : W.heap[g]? = some (.cells y.cells.toArray 91 (0, 0))) : FlAt W (some ⟨g, 0, none⟩) [y] := fun _ => ⟨g, 0, rfl, lt_of_heap h, fun j u hj => by
  rw [List.flatMap_cons, List.flatMap_nil, List.append_nil] at hj
  rw [Nat.zero_add]
  unfold World.cell?
  rw [h]
  simpa using hj⟩
theorem same_load_dx {o : Oper} {a : Act} {W : World} (x : Operand) (ho : o.op = .load 54 x) (b : Nat) (hx : a.eval x = .pointer (some ⟨b, 0, none⟩)) (cs : Array Value) (hc : W.heap[b]? = some (.cells cs 54 (0, 0)))
    (hi : (Tryz.prog.info? 54).map (·.size) = some cs.size) : Oper.same Tryz.prog o a W (.agg cs) := by
  have h := run_loadVar_row (P := Tryz.prog) W b 54 54 cs (0, 0) _ hc Tryz.underlying54 rfl hi
  unfold Oper.same execOp
  simp only [ho, hx, Instr.loadAt, Instr.sureAddr, Sem.run_bind, Sem.run_pure, Result.andThen_ok, h]
  exact ⟨trivial, trivial⟩
/-- A whole value is written. -/
def Spec.put (g : Nat) (z cs : Array Value) (t : TypeId) : Spec := { p := fun _ v => v = undef, A := fun _ _ w => w.heap[g]? = some (.cells cs t (0, 0)), B := fun w => w.heap[g]? = some (.cells z t (0, 0)), G := fun _ => Keep [g] }
set_option maxRecDepth 100000 in
set_option maxHeartbeats 8000000 in
theorem rord_any {w : World} {d : Dx} {oa la : Option Addr} (oc lc : Nat) (hI : IntsAt w oa d.own) (hl : FlAt w la d.L) (hlen : d.L.length ≤ 500) (hcap : d.L.length ≤ lc) (h0 : 0 ≤ d.last) (h1 : d.last ≤ 1000000) (part to : Int) : Calls Tryz.prog 15 #[.agg (d.cells oa oc la lc), .int .i64 part, .int .i64 to] w (OrdP w oa la (dxOrd d part to)) := by
  obtain ⟨ep, nd, own, L, last, com, abo⟩ := d
  simp only [Dx.cells] at *
  obtain ⟨w1, hw1⟩ : ∃ u, w.alloc (.cells #[.int .i64 ep, .int .i64 nd, .slice oa own.length oc, .slice la L.length lc, .int .i64 last, .int .i64 com, .int .i64 abo] 54) = u := ⟨_, rfl⟩
  obtain ⟨w2, hw2⟩ : ∃ u, w1.alloc (.cells #[.int .i64 0, .int .i64 0, .slice none 0 0, .slice none 0 0, .int .i64 0, .int .i64 0, .int .i64 0] 54) = u := ⟨_, rfl⟩
  have s1 : w1.heap.size = w.heap.size + 1 := by rw [← hw1, World.size_alloc]
  have k1 : Keep [] w w1 := by rw [← hw1]; exact (Keep.refl _ _).alloc _
  have k2 : Keep [] w1 w2 := by rw [← hw2]; exact (Keep.refl _ _).alloc _
  have b1 : w1.heap[w.heap.size]? = some (.cells #[.int .i64 ep, .int .i64 nd, .slice oa own.length oc, .slice la L.length lc, .int .i64 last, .int .i64 com, .int .i64 abo] 54 (0, 0)) := by rw [← hw1]; exact World.alloc_heap_new w _
  replace b1 := (k2.block _ (lt_of_heap b1) (by simp)).trans b1
  have b2 : w2.heap[w.heap.size + 1]? = some (.cells #[.int .i64 0, .int .i64 0, .slice none 0 0, .slice none 0 0, .int .i64 0, .int .i64 0, .int .i64 0] 54 (0, 0)) := by rw [← hw2, ← s1]; exact World.alloc_heap_new w1 _
  have k := k1.trans k2
  have HIW := Lib.hid hI
  have HLW := Lib.hid hl
  have HK := Lib.hid k
  have HB := Lib.hid b1
  have HZ := Lib.hid b2
  obtain ⟨d0, d1, d2, d3, d4, d5, d6, d7⟩ := DxFacts b1
  obtain ⟨my, hmy⟩ : ∃ m, (Tb.mk ep nd oa oc own).may part to = m := ⟨_, rfl⟩
  have hmy2 : (Tb.mk ep nd none 0 own).may part to = my := hmy
  have hmv := refMove_any ⟨ep, nd, oa, oc, own⟩ part to w2 (hI.keep k (by simp))
  unfold Tb.val at hmv
  simp only at hmv
  rw [hmy] at hmv
  have HMV := Lib.hid hmv
  have HMY := Lib.hid hmy2
  have HMZ := Lib.hid (fun (h : my = 0) => may_zero (hmy.trans h))
  clear hmv hmy hmy2 k1 k2 k b1 b2 hI hl
  go_enter Tryz.func15, Tryz.ntmps15
  go_wp2_with (fail)
  refine HMV.out.mono ?_
  rintro e w3 ⟨hmm, hk3⟩
  clear hw1 hw2
  clear d0 d1 d2 d3 d4 d5 d6 d7
  have HK := Lib.hid (HK.out.trans hk3)
  have HB := Lib.hid ((hk3.block _ (lt_of_heap HB.out) (by simp)).trans HB.out)
  have HZ := Lib.hid ((hk3.block _ (lt_of_heap HZ.out) (by simp)).trans HZ.out)
  obtain ⟨d0, d1, d2, d3, d4, d5, d6, d7⟩ := DxFacts HB.out
  clear hk3
  have hwb := lt_of_heap HZ.out
  rcases hmm with ⟨hm, rfl⟩ | ⟨hm, a, c, rfl, hr⟩
  · have hm1 : (my == 0) = false := by simpa using hm
    have hm2 : decide (my = 0) = false := by simpa using hm
    have HRES := Lib.hid (show dxOrd ⟨ep, nd, own, L, last, com, abo⟩ part to = (⟨ep, nd, own, L, last, com, abo⟩, 0, my) from by unfold dxOrd; simp only; rw [if_pos (by rw [HMY.out]; exact hm), HMY.out])
    obtain ⟨w4a, hw4a⟩ : ∃ u, w3.alloc (.cells #[.int .i64 0, .int .i64 0, .slice none 0 0] 24) = u := ⟨_, rfl⟩
    have t4 : w4a.heap[w3.heap.size]? = some (.cells #[.int .i64 0, .int .i64 0, .slice none 0 0] 24 (0, 0)) := by rw [← hw4a]; exact World.alloc_heap_new w3 _
    obtain ⟨w4, hw4⟩ : ∃ u, w4a.setRow w3.heap.size #[.int .i64 0, .int .i64 0, .slice none 0 0] = u := ⟨_, rfl⟩
    have hst4 := run_storeVar_row (P := Tryz.prog) w4a w3.heap.size 24 24 _ #[.int .i64 0, .int .i64 0, .slice none 0 0] t4 (by kernel_rfl) rfl (by simp [Value.oneCell'])
    rw [hw4] at hst4
    have HT4 : Hid (w4.heap[w3.heap.size]? = some (.cells #[.int .i64 0, .int .i64 0, .slice none 0 0] 24 (0, 0))) := Lib.hid (by rw [← hw4]; exact setRow_heap w4a _ _ _ _ _ t4)
    have hk4 : Keep [] w3 w4 := by
      have h1 : Keep [] w3 w4a := by rw [← hw4a]; exact (Keep.refl _ _).alloc _
      have h2 : Keep [w3.heap.size] w4a w4 := by rw [← hw4]; exact (Keep.refl _ _).setRow _ _ (.inl (by simp))
      exact h1.step h2 (fun y hy => .inr (by rw [List.mem_singleton.1 hy]; exact Nat.le_refl _))
    have HST4 := Lib.hid hst4
    clear hst4 t4 hw4
    clear d0 d1 d2 d3 d4 d5 d6 d7
    have HK := Lib.hid (HK.out.trans hk4)
    have HB := Lib.hid ((hk4.block _ (lt_of_heap HB.out) (by simp)).trans HB.out)
    have HZ := Lib.hid ((hk4.block _ (lt_of_heap HZ.out) (by simp)).trans HZ.out)
    obtain ⟨d0, d1, d2, d3, d4, d5, d6, d7⟩ := DxFacts HB.out
    obtain ⟨w5, hw5⟩ : ∃ u, w4.setRow (w.heap.size + 1) #[.int .i64 ep, .int .i64 nd, .slice oa own.length oc, .slice la L.length lc, .int .i64 last, .int .i64 com, .int .i64 abo] = u := ⟨_, rfl⟩
    have hst5 := run_storeVar_row (P := Tryz.prog) w4 (w.heap.size + 1) 54 54 _ #[.int .i64 ep, .int .i64 nd, .slice oa own.length oc, .slice la L.length lc, .int .i64 last, .int .i64 com, .int .i64 abo] HZ.out (by kernel_rfl) rfl (by simp [Value.oneCell'])
    rw [hw5] at hst5
    have r5 : w5.heap[w.heap.size + 1]? = some (.cells #[.int .i64 ep, .int .i64 nd, .slice oa own.length oc, .slice la L.length lc, .int .i64 last, .int .i64 com, .int .i64 abo] 54 (0, 0)) := by rw [← hw5]; exact setRow_heap w4 _ _ _ _ _ HZ.out
    have k5 : Keep [w.heap.size + 1] w4 w5 := by rw [← hw5]; exact (Keep.refl _ _).setRow _ _ (.inl (by simp))
    have HST5 := Lib.hid hst5
    have HR5 := Lib.hid r5
    have HK5 := Lib.hid (HK.out.step k5 (fun y hy => .inr (by rw [List.mem_singleton.1 hy]; omega)))
    clear hst5 r5 k5 hw5
    go_wp2_with (first | ((with_reducible refine wpList_store_all ?_ 24 (.tmp 9) (.tmp 18) ?_ w3.heap.size ?_ _ ?_ HST4.out ?_); rfl; rfl; rfl; rfl) | ((with_reducible refine wpList_load_row ?_ 54 (.tmp 3) ?_ (w.heap.size) ?_ 54 #[.int .i64 ep, .int .i64 nd, .slice oa own.length oc, .slice la L.length lc, .int .i64 last, .int .i64 com, .int .i64 abo] (0, 0) _ HB.out Tryz.underlying54 ?_ ?_ ?_); rfl; rfl; rfl; rfl; kernel_rfl) | ((with_reducible refine wpList_store_all ?_ 54 (.tmp 6) (.tmp 22) ?_ (w.heap.size + 1) ?_ _ ?_ HST5.out ?_); rfl; rfl; rfl; rfl))
    refine bodyPost_ret (results_c2 rfl _ _ w5 (w.heap.size + 1) _ (.int .i64 0) (.int .i64 my) rfl rfl rfl (load_dx HR5.out)) rfl ?_
    rw [HRES.out]
    exact ⟨⟨_, rfl, DxP.same (d := ⟨ep, nd, own, L, last, com, abo⟩) HIW.out HLW.out hcap HK5.out⟩, HK5.out⟩
  · subst hm
    obtain ⟨_, _, g3, g4, _⟩ := HMZ.out rfl
    try simp only at g3 g4
    obtain ⟨w4a, hw4a⟩ : ∃ u, w3.alloc (.cells #[.int .i64 0, .int .i64 0, .slice none 0 0] 24) = u := ⟨_, rfl⟩
    have t4 : w4a.heap[w3.heap.size]? = some (.cells #[.int .i64 0, .int .i64 0, .slice none 0 0] 24 (0, 0)) := by rw [← hw4a]; exact World.alloc_heap_new w3 _
    obtain ⟨w4, hw4⟩ : ∃ u, w4a.setRow w3.heap.size #[.int .i64 (ep + 1), .int .i64 nd, .slice a own.length c] = u := ⟨_, rfl⟩
    have hst4 := run_storeVar_row (P := Tryz.prog) w4a w3.heap.size 24 24 _ #[.int .i64 (ep + 1), .int .i64 nd, .slice a own.length c] t4 (by kernel_rfl) rfl (by simp [Value.oneCell'])
    rw [hw4] at hst4
    have HT4 : Hid (w4.heap[w3.heap.size]? = some (.cells #[.int .i64 (ep + 1), .int .i64 nd, .slice a own.length c] 24 (0, 0))) := Lib.hid (by rw [← hw4]; exact setRow_heap w4a _ _ _ _ _ t4)
    have hk4 : Keep [] w3 w4 := by
      have h1 : Keep [] w3 w4a := by rw [← hw4a]; exact (Keep.refl _ _).alloc _
      have h2 : Keep [w3.heap.size] w4a w4 := by rw [← hw4]; exact (Keep.refl _ _).setRow _ _ (.inl (by simp))
      exact h1.step h2 (fun y hy => .inr (by rw [List.mem_singleton.1 hy]; exact Nat.le_refl _))
    have HST4 := Lib.hid hst4
    clear hst4 t4 hw4
    clear d0 d1 d2 d3 d4 d5 d6 d7
    have HK := Lib.hid (HK.out.trans hk4)
    have HB := Lib.hid ((hk4.block _ (lt_of_heap HB.out) (by simp)).trans HB.out)
    have HZ := Lib.hid ((hk4.block _ (lt_of_heap HZ.out) (by simp)).trans HZ.out)
    obtain ⟨d0, d1, d2, d3, d4, d5, d6, d7⟩ := DxFacts HB.out
    clear hk4 hr
    have HFN := Lib.hid (rfind_any (w := w4) (d := ⟨ep, nd, own, L, last, com, abo⟩) (oa := oa) oc lc (HLW.out.kept HK.out) (by simp only; omega) part)
    simp only [Dx.cells] at HFN
    go_wp2_with (first | ((with_reducible refine wpList_store_all ?_ 24 (.tmp 9) (.tmp 18) ?_ w3.heap.size ?_ _ ?_ HST4.out ?_); rfl; rfl; rfl; rfl) | ((with_reducible refine wpList_load_row ?_ 54 (.tmp 3) ?_ (w.heap.size) ?_ 54 #[.int .i64 ep, .int .i64 nd, .slice oa own.length oc, .slice la L.length lc, .int .i64 last, .int .i64 com, .int .i64 abo] (0, 0) _ HB.out Tryz.underlying54 ?_ ?_ ?_); rfl; rfl; rfl; rfl; kernel_rfl))
    refine HFN.out.mono ?_
    rintro e w5 ⟨rfl, hk5⟩
    clear d0 d1 d2 d3 d4 d5 d6 d7
    have HK := Lib.hid (HK.out.trans hk5)
    have HB := Lib.hid ((hk5.block _ (lt_of_heap HB.out) (by simp)).trans HB.out)
    have HZ := Lib.hid ((hk5.block _ (lt_of_heap HZ.out) (by simp)).trans HZ.out)
    obtain ⟨d0, d1, d2, d3, d4, d5, d6, d7⟩ := DxFacts HB.out
    clear hk5
    have hwb5 := lt_of_heap HZ.out
    cases hf : fnd part L with
    | some i =>
      simp only [fI]
      have HF := Lib.hid hf
      clear hf
      have hi0 : (0 : Int) ≤ (i : Int) := Int.natCast_nonneg i
      have HRES := Lib.hid (show dxOrd ⟨ep, nd, own, L, last, com, abo⟩ part to = (⟨ep, nd, own, L, last, com, abo⟩, 0, 20) from by unfold dxOrd; simp only; rw [if_neg (by rw [HMY.out]; simp), HF.out])
      obtain ⟨w6, hw6⟩ : ∃ u, w5.setRow (w.heap.size + 1) #[.int .i64 ep, .int .i64 nd, .slice oa own.length oc, .slice la L.length lc, .int .i64 last, .int .i64 com, .int .i64 abo] = u := ⟨_, rfl⟩
      have hst6 := run_storeVar_row (P := Tryz.prog) w5 (w.heap.size + 1) 54 54 _ #[.int .i64 ep, .int .i64 nd, .slice oa own.length oc, .slice la L.length lc, .int .i64 last, .int .i64 com, .int .i64 abo] HZ.out (by kernel_rfl) rfl (by simp [Value.oneCell'])
      rw [hw6] at hst6
      have r6 : w6.heap[w.heap.size + 1]? = some (.cells #[.int .i64 ep, .int .i64 nd, .slice oa own.length oc, .slice la L.length lc, .int .i64 last, .int .i64 com, .int .i64 abo] 54 (0, 0)) := by rw [← hw6]; exact setRow_heap w5 _ _ _ _ _ HZ.out
      have k6 : Keep [w.heap.size + 1] w5 w6 := by rw [← hw6]; exact (Keep.refl _ _).setRow _ _ (.inl (by simp))
      have HST6 := Lib.hid hst6
      have HR6 := Lib.hid r6
      have HK6 := Lib.hid (HK.out.step k6 (fun y hy => .inr (by rw [List.mem_singleton.1 hy]; omega)))
      clear hst6 r6 k6 hw6
      go_wp2_with (first | ((with_reducible refine wpList_load_row ?_ 54 (.tmp 3) ?_ (w.heap.size) ?_ 54 #[.int .i64 ep, .int .i64 nd, .slice oa own.length oc, .slice la L.length lc, .int .i64 last, .int .i64 com, .int .i64 abo] (0, 0) _ HB.out Tryz.underlying54 ?_ ?_ ?_); rfl; rfl; rfl; rfl; kernel_rfl) | ((with_reducible refine wpList_store_all ?_ 54 (.tmp 6) (.tmp 28) ?_ (w.heap.size + 1) ?_ _ ?_ HST6.out ?_); rfl; rfl; rfl; rfl))
      refine bodyPost_ret (results_c2 rfl _ _ w6 (w.heap.size + 1) _ (.int .i64 0) (.int .i64 20) rfl rfl rfl (load_dx HR6.out)) rfl ?_
      rw [HRES.out]
      exact ⟨⟨_, rfl, DxP.same (d := ⟨ep, nd, own, L, last, com, abo⟩) HIW.out HLW.out hcap HK6.out⟩, HK6.out⟩
    | none =>
      simp only [fI]
      have HF := Lib.hid hf
      clear hf
      obtain ⟨pn, rfl⟩ := Int.eq_ofNat_of_zero_le g3
      have hpl : pn < own.length := by omega
      have hpl2 : (pn : Int) < (own.length : Int) := by omega
      obtain ⟨fr, hfr⟩ : ∃ fr, own[pn]?.getD 0 = fr := ⟨_, rfl⟩
      have HRES := Lib.hid (show dxOrd ⟨ep, nd, own, L, last, com, abo⟩ pn to = (⟨ep, nd, own, L ++ [⟨⟨last + 1, (pn : Int), fr, to⟩, ⟨1, 0⟩⟩], last + 1, com, abo⟩, last + 1, 0) from by unfold dxOrd; simp only; rw [if_neg (by rw [HMY.out]; simp), HF.out, Int.toNat_natCast, hfr])
      have hwl : IntKind.i64.wrap (last + 1) = last + 1 := by rw [IntKind.wrap_i64]; omega
      obtain ⟨w6, hw6⟩ : ∃ u, w5.setCell ⟨w.heap.size, 4, none⟩ (.int .i64 (last + 1)) = u := ⟨_, rfl⟩
      have b6 : w6.heap[w.heap.size]? = some (.cells #[.int .i64 ep, .int .i64 nd, .slice oa own.length oc, .slice la L.length lc, .int .i64 (last + 1), .int .i64 com, .int .i64 abo] 54 (0, 0)) := by rw [← hw6]; simp [World.setCell, Array.getElem?_modify, HB.out]
      have k6 : Keep [w.heap.size] w5 w6 := by rw [← hw6]; exact (Keep.refl _ _).setCell _ _ _ (.inl (by simp))
      have z6 := (k6.block _ (lt_of_heap HZ.out) (by simp)).trans HZ.out
      have HK := Lib.hid (HK.out.step k6 (fun y hy => .inr (by rw [List.mem_singleton.1 hy]; omega)))
      have HB := Lib.hid b6
      have HZ := Lib.hid z6
      have HL6 := Lib.hid (HLW.out.kept HK.out)
      have hwb6 := lt_of_heap HB.out
      obtain ⟨e0, e1, e2, e3, e4, e5, e6, e7⟩ := DxFacts b6
      have hwz6 := lt_of_heap HZ.out
      clear b6 k6 z6
      go_wp2_with (at_builtin; refine wpList_append_dm rfl _ _ rfl w.heap.size (.slice none 0 0) [] L rfl (DmRow.nil _ _) la L.length lc rfl rfl HL6.out (by simp; omega) (by omega) ?_)
      intro v' w7 hrow hk7 hnew
      try simp only [List.nil_append] at hrow
      have hk7 : Keep [] w6 w7 := hk7.mono (by simp [Value.ownBlock])
      clear d0 d1 d2 d3 d4 d5 d6 d7 e0 e1 e2 e3 e4 e5 e6 e7
      have HK := Lib.hid (HK.out.trans hk7)
      have HB := Lib.hid ((hk7.block _ (lt_of_heap HB.out) (by simp)).trans HB.out)
      have HZ := Lib.hid ((hk7.block _ (lt_of_heap HZ.out) (by simp)).trans HZ.out)
      obtain ⟨av, cv, rfl, _⟩ := own_shape hrow
      have HROW := Lib.hid hrow
      have hne1 : ∀ g, (Value.slice av L.length cv).ownBlock = some g → w6.heap.size ≤ g := fun g hg => by
        rcases hnew with h | h
        · rw [h] at hg; cases hg
        · rw [h] at hg; cases hg; exact Nat.le_refl _
      have HNW := Lib.hid hne1
      obtain ⟨ob, oo, rfl, hob, hoc⟩ := (HIW.out.keep HK.out (by simp)) (by intro e; rw [e] at hpl; simp at hpl)
      have x0 := hoc pn hpl
      rw [hfr] at x0
      have HX := Lib.hid x0
      have HOB := Lib.hid hob
      clear hw6 hrow hk7 hnew hne1 hoc x0 hob hfr
      go_wp2_with (fail)
      refine wp_region_soup 13 [] (spOf [(12, Spec.mv w7.heap.size ⟨⟨last + 1, (pn : Int), fr, to⟩, ⟨1, 0⟩⟩)]) (by kernel_rfl) (by kernel_rfl) (spOk_of (by simp [Spec.mv_ok])) (pre_of (by simp [Spec.mv_ok])) ?_
      simp only [List.take_succ_cons, List.take_zero, List.drop_succ_cons, List.drop_zero]
      iterate 2
        with_reducible refine soup_q ?_ ?_ ?_
        · rfl
        · rfl
        with_reducible apply Exists.intro
        with_reducible refine ⟨fun W hk _ => ?_, ?_⟩
        · unfold Oper.same
          go_simp
          first | rfl | exact ⟨rfl, rfl⟩
        with_reducible apply Exists.intro
        with_reducible refine ⟨?_, ?_⟩
        · go_simp
          rfl
      with_reducible refine soup_q ?_ ?_ ?_
      · rfl
      · rfl
      with_reducible apply Exists.intro
      with_reducible refine ⟨fun W hk _ => ?_, ?_⟩
      · have hb := (hk.block _ (lt_of_heap HB.out) (by simp)).trans HB.out
        obtain ⟨d0, d1, d2, d3, d4, d5, d6, d7⟩ := DxFacts hb
        clear hb
        unfold Oper.same
        go_simp
        first | rfl | exact ⟨rfl, rfl⟩
      with_reducible apply Exists.intro
      with_reducible refine ⟨?_, ?_⟩
      · go_simp
        rfl
      iterate 3
        with_reducible refine soup_q ?_ ?_ ?_
        · rfl
        · rfl
        with_reducible apply Exists.intro
        with_reducible refine ⟨fun W hk _ => ?_, ?_⟩
        · unfold Oper.same
          go_simp
          first | rfl | exact ⟨rfl, rfl⟩
        with_reducible apply Exists.intro
        with_reducible refine ⟨?_, ?_⟩
        · go_simp
          rfl
      with_reducible refine soup_q ?_ ?_ ?_
      · rfl
      · rfl
      with_reducible apply Exists.intro
      with_reducible refine ⟨fun W hk _ => ?_, ?_⟩
      · have hb := (hk.block _ (lt_of_heap HB.out) (by simp)).trans HB.out
        obtain ⟨d0, d1, d2, d3, d4, d5, d6, d7⟩ := DxFacts hb
        clear hb
        unfold Oper.same
        go_simp
        first | rfl | exact ⟨rfl, rfl⟩
      with_reducible apply Exists.intro
      with_reducible refine ⟨?_, ?_⟩
      · go_simp
        rfl
      iterate 2
        with_reducible refine soup_q ?_ ?_ ?_
        · rfl
        · rfl
        with_reducible apply Exists.intro
        with_reducible refine ⟨fun W hk _ => ?_, ?_⟩
        · unfold Oper.same
          go_simp
          first | rfl | exact ⟨rfl, rfl⟩
        with_reducible apply Exists.intro
        with_reducible refine ⟨?_, ?_⟩
        · go_simp
          rfl
      with_reducible refine soup_q ?_ ?_ ?_
      · rfl
      · rfl
      with_reducible apply Exists.intro
      with_reducible refine ⟨fun W hk _ => ?_, ?_⟩
      · have q := (hk.cell _ HOB.out (by simp)).trans HX.out
        unfold Oper.same
        go_simp
        first | rfl | exact ⟨rfl, rfl⟩
      with_reducible apply Exists.intro
      with_reducible refine ⟨?_, ?_⟩
      · go_simp
        rfl
      iterate 2
        with_reducible refine soup_q ?_ ?_ ?_
        · rfl
        · rfl
        with_reducible apply Exists.intro
        with_reducible refine ⟨fun W hk _ => ?_, ?_⟩
        · unfold Oper.same
          go_simp
          first | rfl | exact ⟨rfl, rfl⟩
        with_reducible apply Exists.intro
        with_reducible refine ⟨?_, ?_⟩
        · go_simp
          rfl
      refine soup_s rfl rfl rfl (fun W hk _ _ => ?_) ?_
      · unfold Oper.does
        go_simp
        exact ⟨(Keep.refl _ _).alloc _, hk.alloc _, ⟨_, rfl⟩, _, rfl, hk.size, World.alloc_heap_new W _⟩
      rintro v ⟨g, rfl⟩
      with_reducible apply Exists.intro
      with_reducible refine ⟨?_, ?_⟩
      · go_simp
        rfl
      refine soup_nil (fun W hk hS => ?_)
      obtain ⟨g', e, hg, hgb⟩ := hS 12
      cases e
      have HK := Lib.hid (HK.out.trans hk)
      have HB := Lib.hid ((hk.block _ (lt_of_heap HB.out) (by simp)).trans HB.out)
      have HZ := Lib.hid ((hk.block _ (lt_of_heap HZ.out) (by simp)).trans HZ.out)
      have HROW := Lib.hid (DmRow.keep HROW.out hk (by simp))
      have HSZ7 := Lib.hid hk.size
      have hwz := lt_of_heap HZ.out
      have h7w := hk.size
      clear hk hS
      go_wp2_with (at_builtin; refine wpList_append_dm rfl _ _ rfl w.heap.size (.slice av L.length cv) L [⟨⟨last + 1, (pn : Int), fr, to⟩, ⟨1, 0⟩⟩] rfl HROW.out (some ⟨g, 0, none⟩) 1 1 rfl rfl (fl_one hgb) (by simp; omega) (by omega) ?_)
      intro v8 w8 hrow8 hk8 hnew8
      obtain ⟨av8, cv8, rfl, hcap8, hfl8, hbl8⟩ := hrow8.shape
      have hN8 : ∀ b off, av8 = some ⟨b, off, none⟩ → w.heap.size + 1 + 1 ≤ b ∧ b < w8.heap.size := fun b off hb => by
        obtain ⟨_, h2, h3⟩ := hbl8 b off hb
        refine ⟨?_, h2⟩
        rcases hnew8 with h | h
        · rw [h] at h3
          have := HNW.out b h3
          omega
        · rw [h] at h3
          cases h3
          omega
      have n1 : w.heap.size ∉ (Value.slice av L.length cv).ownBlock.toList := fun h => by have := HNW.out _ (by simpa using h); omega
      have n2 : w.heap.size + 1 ∉ (Value.slice av L.length cv).ownBlock.toList := fun h => by have := HNW.out _ (by simpa using h); omega
      have HK := Lib.hid (HK.out.step hk8 (fun y hy => .inr (by have := HNW.out y (by simpa using hy); omega)))
      have hb8 := (hk8.block _ (lt_of_heap HB.out) n1).trans HB.out
      have hz8 := (hk8.block _ (lt_of_heap HZ.out) n2).trans HZ.out
      obtain ⟨w9, hw9⟩ : ∃ u, w8.setCell ⟨w.heap.size, 3, none⟩ (.slice av8 (L.length + 1) cv8) = u := ⟨_, rfl⟩
      have b9 : w9.heap[w.heap.size]? = some (.cells #[.int .i64 ep, .int .i64 nd, .slice (some ⟨ob, oo, none⟩) own.length oc, .slice av8 (L.length + 1) cv8, .int .i64 (last + 1), .int .i64 com, .int .i64 abo] 54 (0, 0)) := by rw [← hw9]; simp [World.setCell, Array.getElem?_modify, hb8]
      have k9 : Keep [w.heap.size] w8 w9 := by rw [← hw9]; exact (Keep.refl _ _).setCell _ _ _ (.inl (by simp))
      have z9 := (k9.block _ (lt_of_heap hz8) (by simp)).trans hz8
      have HF9 := Lib.hid (hfl8.keep k9 (fun _ b off hb => by have := (hN8 b off hb).1; simp; omega))
      have HN9 := Lib.hid (show ∀ b off, av8 = some ⟨b, off, none⟩ → w.heap.size + 1 + 1 ≤ b ∧ b < w9.heap.size from fun b off hb => ⟨(hN8 b off hb).1, Nat.lt_of_lt_of_le (hN8 b off hb).2 k9.size⟩)
      have HK := Lib.hid (HK.out.step k9 (fun y hy => .inr (by rw [List.mem_singleton.1 hy]; omega)))
      have HB := Lib.hid b9
      have HZ := Lib.hid z9
      have HC8 := Lib.hid hcap8
      obtain ⟨d0, d1, d2, d3, d4, d5, d6, d7⟩ := DxFacts hb8
      simp only [List.length_append, List.length_cons, List.length_nil, Nat.zero_add]
      clear hrow8 hk8 hnew8 hfl8 hbl8 hN8 n1 n2 hz8 b9 k9 z9 hcap8 hgb hg hb8
      go_wp2_with (fail)
      clear d0 d1 d2 d3 d4 d5 d6 d7 hw9
      have hwz9 := lt_of_heap HZ.out
      refine wp_region_soup 4 [w.heap.size + 1] (spOf [(3, Spec.put (w.heap.size + 1) #[.int .i64 0, .int .i64 0, .slice none 0 0, .slice none 0 0, .int .i64 0, .int .i64 0, .int .i64 0] #[.int .i64 ep, .int .i64 nd, .slice (some ⟨ob, oo, none⟩) own.length oc, .slice av8 (L.length + 1) cv8, .int .i64 (last + 1), .int .i64 com, .int .i64 abo] 54)]) (by kernel_rfl) (by kernel_rfl) (spOk_one (fun _ => ⟨_, rfl⟩)) (fun i s hs => by have h := spOf_mem hs; simp at h; rcases h with ⟨_, rfl⟩; exact HZ.out) ?_
      simp only [List.take_succ_cons, List.take_zero, List.drop_succ_cons, List.drop_zero]
      with_reducible refine soup_q ?_ ?_ ?_
      · rfl
      · rfl
      with_reducible apply Exists.intro
      with_reducible refine ⟨fun W hk _ => ?_, ?_⟩
      · exact same_load_dx (.tmp 3) rfl w.heap.size rfl _ ((hk.block _ (lt_of_heap HB.out) (by simp)).trans HB.out) (by kernel_rfl)
      with_reducible apply Exists.intro
      with_reducible refine ⟨?_, ?_⟩
      · go_simp
        rfl
      with_reducible refine soup_q ?_ ?_ ?_
      · rfl
      · rfl
      with_reducible apply Exists.intro
      with_reducible refine ⟨fun W hk _ => ?_, ?_⟩
      · unfold Oper.same
        go_simp
        first | rfl | exact ⟨rfl, rfl⟩
      with_reducible apply Exists.intro
      with_reducible refine ⟨?_, ?_⟩
      · go_simp
        rfl
      with_reducible refine soup_q ?_ ?_ ?_
      · rfl
      · rfl
      with_reducible apply Exists.intro
      with_reducible refine ⟨fun W hk _ => ?_, ?_⟩
      · have hb := (hk.block _ (lt_of_heap HB.out) (by simp)).trans HB.out
        obtain ⟨d0, d1, d2, d3, d4, d5, d6, d7⟩ := DxFacts hb
        clear hb
        unfold Oper.same
        go_simp
        first | rfl | exact ⟨rfl, rfl⟩
      with_reducible apply Exists.intro
      with_reducible refine ⟨?_, ?_⟩
      · go_simp
        rfl
      refine soup_s rfl rfl rfl (fun W hk hB _ => ?_) ?_
      · have hst := run_storeVar_row (P := Tryz.prog) W (w.heap.size + 1) 54 54 _ #[.int .i64 ep, .int .i64 nd, .slice (some ⟨ob, oo, none⟩) own.length oc, .slice av8 (L.length + 1) cv8, .int .i64 (last + 1), .int .i64 com, .int .i64 abo] hB (by kernel_rfl) rfl (by simp [Value.oneCell'])
        have hks : Keep [w.heap.size + 1] W (W.setRow (w.heap.size + 1) #[.int .i64 ep, .int .i64 nd, .slice (some ⟨ob, oo, none⟩) own.length oc, .slice av8 (L.length + 1) cv8, .int .i64 (last + 1), .int .i64 com, .int .i64 abo]) := (Keep.refl _ _).setRow _ _ (.inl (by simp))
        exact does_store 54 (.tmp 6) (.tmp 52) rfl rfl rfl hst ⟨hks, hk.trans hks, rfl, setRow_heap W _ _ _ _ _ hB⟩
      rintro v rfl
      with_reducible apply Exists.intro
      with_reducible refine ⟨?_, ?_⟩
      · go_simp
        rfl
      refine soup_nil (fun W9 hk hS => ?_)
      have h9 : W9.heap[w.heap.size + 1]? = some (.cells #[.int .i64 ep, .int .i64 nd, .slice (some ⟨ob, oo, none⟩) own.length oc, .slice av8 (L.length + 1) cv8, .int .i64 (last + 1), .int .i64 com, .int .i64 abo] 54 (0, 0)) := hS 3
      have HR9 := Lib.hid h9
      have HK9 := Lib.hid (HK.out.step hk (fun y hy => .inr (by rw [List.mem_singleton.1 hy]; omega)))
      have HF := Lib.hid (HF9.out.keep hk (fun _ b off hb => by have := (HN9.out b off hb).1; simp; omega))
      have HW9 := Lib.hid hk.size
      clear hk hS h9
      go_wp2_with (fail)
      refine bodyPost_ret (results_c2 rfl _ _ W9 (w.heap.size + 1) _ (.int .i64 (last + 1)) (.int .i64 0) rfl rfl rfl (load_dx HR9.out)) rfl ?_
      rw [HRES.out]
      exact ⟨⟨_, rfl, some ⟨ob, oo, none⟩, oc, av8, cv8, by simp [Dx.cells], HIW.out.keep HK9.out (by simp), HF.out, by simpa using HC8.out, .inl rfl, .inr (fun b off hb => ⟨by have := (HN9.out b off hb).1; omega, Nat.lt_of_lt_of_le (HN9.out b off hb).2 HW9.out⟩)⟩, HK9.out⟩
end Go.Proofs.YteejdfpfdnkiiaaGreat
