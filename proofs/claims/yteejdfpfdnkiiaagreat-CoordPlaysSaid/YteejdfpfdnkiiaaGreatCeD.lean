/- Says: what an act says, of the moves that are under way. -/
import Derived.Test.YteejdfpfdnkiiaaGreatPh
namespace Go.Proofs.YteejdfpfdnkiiaaGreat
open Go.RowKit Go.Lib
set_option linter.unusedSimpArgs false
set_option linter.unusedVariables false
theorem same_load_mid {o : Oper} {a : Act} {W : World} (ty : TypeId) (x : Operand) (ho : o.op = .load ty x) (b off : Nat) (hx : a.eval x = .pointer (some ⟨b, off, none⟩)) (cs : List Value) (d : TypeDesc) (hc : W.rangeAt b off cs)
    (hu : Tryz.prog.underlying ty = some d) (hd : d.isRow = true) (hi : (Tryz.prog.info? ty).map (·.size) = some cs.length) : Oper.same Tryz.prog o a W (.agg cs.toArray) := by
  unfold Oper.same execOp
  simp only [ho, hx, Instr.loadAt, Instr.sureAddr, Sem.run_bind, Sem.run_pure, Result.andThen_ok, run_loadVar_mid W b off ty cs d hc hu hd hi]
  exact ⟨trivial, trivial⟩
theorem results_tmp_cell {fn : Func} {p u : Tmp} {ty : TypeId} (h : fn.results = #[.tmp u, .cell p ty]) (tmps : Array Value) (P : Program) (w : World) :
    (results fn tmps).run P w = ((asAddr (tmps.getD p undef)).run P w).andThen fun a w₁ => ((loadVar ty a).run P w₁).andThen fun v w₂ => .ok (.tuple #[tmps.getD u undef, v]) w₂ := by
  simp only [results, h]
  simp [Sem.run_bind, Result.andThen]
theorem results_ms {fn : Func} {p u : Tmp} {ty : TypeId} (h : fn.results = #[.tmp u, .cell p ty]) (tmps : Array Value) (P : Program) (w : World) (g : Nat) (cs : Array Value) (f : Value) (hp : tmps.getD p undef = .pointer (some ⟨g, 0, none⟩)) (hu : tmps.getD u undef = f) (hlv : (loadVar ty ⟨g, 0, none⟩).run P w = .ok (.agg cs) w) : (results fn tmps).run P w = .ok (.tuple #[f, .agg cs]) w := by
  rw [results_tmp_cell h, hp, hu]
  show ((loadVar ty ⟨g, 0, none⟩).run P w).andThen (fun v w₂ => Result.ok (Value.tuple #[f, v]) w₂) = _
  rw [hlv]
  rfl
/-- Rows of equal parts. -/
theorem flat_get {α : Type} {f : α → List Value} {S : Nat} (hS : ∀ x, (f x).length = S) : ∀ (l : List α) (i j : Nat) (x : α), l[i]? = some x → j < S → (l.flatMap f)[i * S + j]? = (f x)[j]?
  | [], i, j, x, h, _ => by simp at h
  | y :: l, 0, j, x, h, hj => by
    obtain rfl : y = x := by simpa using h
    rw [List.flatMap_cons, Nat.zero_mul, Nat.zero_add, List.getElem?_append_left (by rw [hS]; exact hj)]
  | y :: l, i + 1, j, x, h, hj => by
    have h' : l[i]? = some x := by simpa using h
    rw [List.flatMap_cons, Nat.add_one_mul, List.getElem?_append_right (by rw [hS]; omega), hS]
    rw [show i * S + S + j - S = i * S + j from by omega]
    exact flat_get hS l i j x h' hj
theorem rows_at {α : Type} {f : α → List Value} {S : Nat} (hS : ∀ x, (f x).length = S) {base : Nat} {W : World} {e : TypeId} {v : Value} {l : List α} (h : W.ownsRow base e S v l.length (l.flatMap f)) (hl : l ≠ []) :
    ∃ g c, v = .slice (some ⟨g, 0, none⟩) l.length c ∧ base ≤ g ∧ g < W.heap.size ∧ (∀ o, W.frozen? ⟨g, o, none⟩ = false) ∧ ∀ i j x, l[i]? = some x → j < S → W.cell? ⟨g, i * S + j, none⟩ = (f x)[j]? := by
  rcases h.2 with ⟨hv, h0⟩ | ⟨g, cap, cur, hv, hb, hg, hn, hc, hcs, htk⟩
  · exact absurd (List.length_eq_zero_iff.1 h0) hl
  · refine ⟨g, cap, hv, hb, lt_of_heap hg, fun o => by unfold World.frozen?; rw [hg]; simp, fun i j x hi hj => ?_⟩
    unfold World.cell?
    rw [hg]
    have h2 := flat_get hS l i j x hi hj
    have hil := (List.getElem?_eq_some_iff.1 hi).1
    have hlt : i * S + j < l.length * S := by
      have : (i + 1) * S ≤ l.length * S := Nat.mul_le_mul_right S hil
      rw [Nat.add_one_mul] at this
      omega
    rw [← htk, List.getElem?_take_of_lt hlt, Array.getElem?_toList] at h2
    simpa using h2
theorem Mo.len (m : Mo) : m.cells.length = 6 := rfl
theorem Pk.len (m : Pk) : m.cells.length = 3 := rfl
theorem wrap_q {q : Nat} (h : q ≤ 1000000) : IntKind.i64.wrap (q : Int) = (q : Int) := by rw [IntKind.wrap_i64]; omega
/-- What is odd, as the law asks it. -/
def odd (n : Int) : Bool := bits BinOp.and .i64 n 1 == 1
def Mo.zero : Mo := ⟨En.zero, St.zero⟩
/-- The move that an act speaks of. -/
def whoF (x : Ac) (l : List Mo) : Mo := (l[(x.wh.tmod l.length).natAbs]?).getD Mo.zero
structure Sy where
  fr : Int
  ms : List Value
  k : Nat
  mv : Int
  pt : Int
  cd : Int
def saysF (x : Ac) (l : List Mo) : Sy :=
  if x.dd ≠ 4 ∨ l = [] then ⟨x.fr, x.ms, x.k, x.mv, x.pt, x.cd⟩
  else if odd x.part then ⟨if odd x.to then (whoF x l).x.fr else (whoF x l).x.to, (msR 13 (whoF x l).x.mv (whoF x l).x.part 0).toList, 13, (whoF x l).x.mv, (whoF x l).x.part, 0⟩
  else ⟨if odd x.to then (whoF x l).x.fr else (whoF x l).x.to, (msR 10 (whoF x l).x.mv (whoF x l).x.part x.code).toList, 10, (whoF x l).x.mv, (whoF x l).x.part, x.code⟩
theorem msR_w (k : Nat) (mv pt cd : Int) : MsW (msR k mv pt cd).toList k mv pt cd := by
  refine ⟨rfl, rfl, rfl, rfl, rfl, ⟨_, rfl⟩, ⟨_, _, _, rfl⟩, ⟨_, _, _, rfl⟩, ⟨_, rfl⟩, fun v hv => ?_⟩
  simp only [msR, List.mem_cons, List.not_mem_nil, or_false] at hv
  rcases hv with rfl | rfl | rfl | rfl | rfl | rfl | rfl | rfl | rfl | rfl | rfl | rfl | rfl | rfl | rfl | rfl | rfl | rfl | rfl | rfl | rfl | rfl <;> rfl
theorem saysF_w {x : Ac} (h : x.Ok) (l : List Mo) : MsW (saysF x l).ms (saysF x l).k (saysF x l).mv (saysF x l).pt (saysF x l).cd := by
  unfold saysF
  split
  · exact h.1
  · split
    · exact msR_w _ _ _ _
    · exact msR_w _ _ _ _
theorem box_act (cs : Array Value) (hs : cs.size = 28) (W : World) : (Instr.box 56 (.agg cs)).run Tryz.prog W = .ok (.pointer (some ⟨W.heap.size, 0, none⟩)) (W.alloc (.cells cs 56)) := rfl
def SysP (w : World) (r : Sy) (e : Ending) (w' : World) : Prop := e = .returned (.tuple #[.int .i64 r.fr, .agg r.ms.toArray]) ∧ Keep [] w w'
/-- An act in new memory, behind it room for a message. -/
structure ActAt (W : World) (g : Nat) (x : Ac) (cs : Array Value) : Prop where
  blk : W.heap[g]? = some (.cells cs 56 (0, 0))
  c0 : W.cell? ⟨g, 0, none⟩ = some (.int .i64 x.dd)
  c1 : W.cell? ⟨g, 1, none⟩ = some (.int .i64 x.part)
  c2 : W.cell? ⟨g, 2, none⟩ = some (.int .i64 x.to)
  c3 : W.cell? ⟨g, 3, none⟩ = some (.int .i64 x.fr)
  c5 : W.cell? ⟨g, 26, none⟩ = some (.int .i64 x.wh)
  c6 : W.cell? ⟨g, 27, none⟩ = some (.int .i64 x.code)
  ms : W.rangeAt g 4 x.ms
theorem ActAt.of {W : World} {g : Nat} {x : Ac} (hx : x.Ok) (h : W.heap[g]? = some (.cells x.cells.toArray 56 (0, 0))) : ActAt W g x x.cells.toArray := by
  have hc : ∀ j, W.cell? ⟨g, j, none⟩ = x.cells[j]? := fun j => by unfold World.cell?; rw [h]; simp
  refine ⟨h, hc 0, hc 1, hc 2, hc 3, (hc 26).trans (Ac.end0 hx), (hc 27).trans (Ac.end1 hx), fun j v hj => ?_⟩
  have hj2 : j < 22 := by have := (List.getElem?_eq_some_iff.1 hj).1; rw [hx.1.len] at this; exact this
  exact (hc (4 + j)).trans ((Ac.mid hx hj2).trans hj)
theorem ActAt.keep {X : List Nat} {W W' : World} {g : Nat} {x : Ac} {cs : Array Value} (h : ActAt W g x cs) (hk : Keep X W W') (hx : g ∉ X) : ActAt W' g x cs :=
  have hl := lt_of_heap h.blk
  ⟨(hk.block _ hl hx).trans h.blk, (hk.cell _ hl hx).trans h.c0, (hk.cell _ hl hx).trans h.c1, (hk.cell _ hl hx).trans h.c2, (hk.cell _ hl hx).trans h.c3, (hk.cell _ hl hx).trans h.c5, (hk.cell _ hl hx).trans h.c6, fun j v hj => (hk.cell _ hl hx).trans (h.ms j v hj)⟩
set_option maxRecDepth 100000 in
set_option maxHeartbeats 8000000 in
theorem says_any {base : Nat} {w : World} {x : Ac} (hx : x.Ok) {v : Value} {l : List Mo} (hl : MoRow base w v l) (hlen : l.length ≤ 100000) : Calls Tryz.prog 17 #[.agg x.cells.toArray, v] w (SysP w (saysF x l)) := by
  have hsz : x.cells.toArray.size = 28 := by rw [List.size_toArray]; exact Ac.len hx
  have hbox := box_act x.cells.toArray hsz
  obtain ⟨w1, hw1⟩ : ∃ u, w.alloc (.cells x.cells.toArray 56) = u := ⟨_, rfl⟩
  have k1 : Keep [] w w1 := by rw [← hw1]; exact (Keep.refl _ _).alloc _
  have s1 : w1.heap.size = w.heap.size + 1 := by rw [← hw1, World.size_alloc]
  have a1 : ActAt w1 w.heap.size x x.cells.toArray := ActAt.of hx (by rw [← hw1]; exact World.alloc_heap_new w _)
  obtain ⟨w2, hw2⟩ : ∃ u, w1.alloc (.cells zMsg 47) = u := ⟨_, rfl⟩
  have k2 : Keep [] w1 w2 := by rw [← hw2]; exact (Keep.refl _ _).alloc _
  have a2 := a1.keep k2 (by simp)
  have b2 : w2.heap[w.heap.size + 1]? = some (.cells zMsg 47 (0, 0)) := by rw [← hw2, ← s1]; exact World.alloc_heap_new w1 _
  have hl2 := hl.keep (k1.trans k2) (by simp)
  have hms := hx.1
  obtain ⟨cs, hcs⟩ : ∃ cs, x.cells.toArray = cs := ⟨_, rfl⟩
  rw [hcs] at hbox hw1 a2 ⊢
  have hir := hx.2
  obtain ⟨dd, part, to, fr, ms, k, mv, pt, cd, wh, code⟩ := x
  simp only at hms hir
  have HA := Lib.hid a2
  have HB := Lib.hid b2
  have HK := Lib.hid (k1.trans k2)
  have HM := Lib.hid hms
  have HR := Lib.hid hl2
  unfold zMsg at hw2
  obtain ⟨av, cv, hv, _⟩ := own_shape hl
  have hal := lt_of_heap a2.blk
  have hbl := lt_of_heap b2
  clear hcs hsz hx a1 a2 b2 k1 k2 hl hl2 hms
  by_cases hd : dd = 4
  · subst hd
    by_cases hln : l = []
    · have HRES := Lib.hid (show saysF ⟨4, part, to, fr, ms, k, mv, pt, cd, wh, code⟩ l = ⟨fr, ms, k, mv, pt, cd⟩ from by unfold saysF; rw [if_pos (.inr hln)])
      subst hln
      subst hv
      go_enter Tryz.func17, Tryz.ntmps17
      obtain ⟨a0, a1, a2, a3, a5, a6⟩ : _ ∧ _ ∧ _ ∧ _ ∧ _ ∧ _ := ⟨HA.out.c0, HA.out.c1, HA.out.c2, HA.out.c3, HA.out.c5, HA.out.c6⟩
      go_wp2_with (fail)
      clear a0 a1 a2 a3 a5 a6
      refine wp_region_soup 5 [] (fun _ => none) (by kernel_rfl) (by kernel_rfl) (spOk_of (l := []) (by simp)) (pre_of (l := []) (by simp)) ?_
      simp only [List.take_succ_cons, List.take_zero, List.drop_succ_cons, List.drop_zero]
      with_reducible refine soup_q ?_ ?_ ?_
      · rfl
      · rfl
      with_reducible apply Exists.intro
      with_reducible refine ⟨fun W hk _ => ?_, ?_⟩
      · unfold Oper.same
        go_simp
        first | rfl | exact ⟨rfl, rfl⟩
      with_reducible apply Exists.intro
      with_reducible refine ⟨?_, ?_⟩
      · go_simp
        rfl
      with_reducible refine soup_q ?_ ?_ ?_
      · rfl
      · rfl
      with_reducible apply Exists.intro
      with_reducible refine ⟨fun W hk _ => ?_, ?_⟩
      · have c0 := (HA.out.keep hk (by simp)).c3
        unfold Oper.same
        go_simp
        first | rfl | exact ⟨rfl, rfl⟩
      with_reducible apply Exists.intro
      with_reducible refine ⟨?_, ?_⟩
      · go_simp
        rfl
      with_reducible refine soup_q ?_ ?_ ?_
      · rfl
      · rfl
      with_reducible apply Exists.intro
      with_reducible refine ⟨fun W hk _ => ?_, ?_⟩
      · unfold Oper.same
        go_simp
        first | rfl | exact ⟨rfl, rfl⟩
      with_reducible apply Exists.intro
      with_reducible refine ⟨?_, ?_⟩
      · go_simp
        rfl
      with_reducible refine soup_q ?_ ?_ ?_
      · rfl
      · rfl
      with_reducible apply Exists.intro
      with_reducible refine ⟨fun W hk _ => ?_, ?_⟩
      · exact same_load_mid 47 (.tmp 18) rfl (w.heap.size) 4 rfl ms _ (HA.out.keep hk (by simp)).ms Tryz.underlying47 rfl (szMsg HM.out.len)
      with_reducible apply Exists.intro
      with_reducible refine ⟨?_, ?_⟩
      · go_simp
        rfl
      with_reducible refine soup_q ?_ ?_ ?_
      · rfl
      · rfl
      with_reducible apply Exists.intro
      with_reducible refine ⟨fun W hk _ => ?_, ?_⟩
      · unfold Oper.same
        go_simp
        first | rfl | exact ⟨rfl, rfl⟩
      with_reducible apply Exists.intro
      with_reducible refine ⟨?_, ?_⟩
      · go_simp
        rfl
      refine soup_nil (fun W hk hS => ?_)
      have hb5 := (hk.block _ (lt_of_heap HB.out) (by simp)).trans HB.out
      obtain ⟨W5, hW5⟩ : ∃ u, W.setRow (w.heap.size + 1) ms.toArray = u := ⟨_, rfl⟩
      have hst := run_storeVar_row (P := Tryz.prog) W (w.heap.size + 1) 47 47 _ ms.toArray hb5 (szMsgA HM.out.len) (Eq.trans (show zMsg.size = 22 from rfl) (by rw [List.size_toArray, HM.out.len])) (by simpa using HM.out.one)
      rw [hW5] at hst
      have HST := Lib.hid hst
      have HSY : Hid ((Tryz.prog.info? 47).map (·.size) = some (ms.toArray : Array Value).size) := Lib.hid (szMsgA HM.out.len)
      have HF : Hid (W5.heap[w.heap.size + 1]? = some (.cells ms.toArray 47 (0, 0))) := Lib.hid (by rw [← hW5]; exact setRow_heap W (w.heap.size + 1) _ _ _ _ hb5)
      have HK5 := Lib.hid (show Keep [] w W5 from by rw [← hW5]; exact (HK.out.trans hk).setRow _ _ (.inr (by omega)))
      clear hk hS hb5 hst hW5
      go_wp2_with ((with_reducible refine wpList_store_all ?_ 47 (.tmp 5) (.tmp 19) ?_ (w.heap.size + 1) ?_ ms.toArray ?_ HST.out ?_); rfl; rfl; rfl; rfl)
      have hlv := run_loadVar_row (P := Tryz.prog) W5 (w.heap.size + 1) 47 47 _ (0, 0) _ HF.out Tryz.underlying47 rfl HSY.out
      refine bodyPost_ret (results_ms rfl _ _ W5 (w.heap.size + 1) ms.toArray (.int .i64 fr) rfl rfl hlv) rfl ?_
      rw [HRES.out]
      exact ⟨rfl, HK5.out⟩
    · have hlp : 0 < l.length := List.length_pos_iff.2 hln
      obtain ⟨g, cv', hv', hg0, hg1, _, hcell⟩ := rows_at Mo.len HR.out hln
      rw [hv'] at hv
      simp only [Value.slice.injEq, true_and] at hv
      obtain ⟨rfl, rfl⟩ := hv
      have hv := hv'
      clear hv'
      obtain ⟨kk, hkk⟩ : ∃ z, wh.tmod (l.length : Int) = z := ⟨_, rfl⟩
      have hkb : kk.natAbs < l.length := by
        rw [← hkk, Int.natAbs_tmod]
        exact Nat.mod_lt _ (by simpa using hlp)
      obtain ⟨m, hm⟩ : ∃ m, l[kk.natAbs]? = some m := ⟨l[kk.natAbs], List.getElem?_eq_getElem hkb⟩
      have hwho : whoF ⟨4, part, to, fr, ms, k, mv, pt, cd, wh, code⟩ l = m := by unfold whoF; simp only; rw [hkk, hm]; rfl
      have hsays : saysF ⟨4, part, to, fr, ms, k, mv, pt, cd, wh, code⟩ l = (if odd part then ⟨if odd to then m.x.fr else m.x.to, (msR 13 m.x.mv m.x.part 0).toList, 13, m.x.mv, m.x.part, 0⟩ else ⟨if odd to then m.x.fr else m.x.to, (msR 10 m.x.mv m.x.part code).toList, 10, m.x.mv, m.x.part, code⟩) := by
        unfold saysF
        rw [if_neg (by simp [hln]), hwho]
      obtain ⟨⟨x1, x2, x3, x4⟩, st⟩ := m
      simp only at hsays
      obtain ⟨q, hq⟩ : ∃ q, kk.natAbs = q := ⟨_, rfl⟩
      rw [hq] at hm hkb
      have HX0 := Lib.hid (hcell q 0 _ hm (by omega))
      have HX1 := Lib.hid (hcell q 1 _ hm (by omega))
      have HX2 := Lib.hid (hcell q 2 _ hm (by omega))
      have HX3 := Lib.hid (hcell q 3 _ hm (by omega))
      simp only [Mo.cells, List.getElem?_cons_zero, List.getElem?_cons_succ, Nat.add_zero] at HX0 HX1 HX2 HX3
      have HS := Lib.hid hsays
      have hl0 : ((l.length : Int) == 0) = false := by simp; omega
      have hlz : ¬ (l.length = 0) := by omega
      obtain ⟨nl, hnl⟩ : ∃ nl, l.length = nl := ⟨_, rfl⟩
      have hqn : q < nl := by omega
      rw [hnl] at hv hl0 hkk hlz hlen
      subst hv
      clear hcell hm hwho hsays hlp hln hkb
      by_cases ho1 : odd to = true
      · have hb1 : (bits BinOp.and .i64 to 1 == 1) = true := ho1
        rw [ho1] at HS
        simp only [if_true] at HS
        by_cases ho2 : odd part = true
        · have hb2 : (bits BinOp.and .i64 part 1 == 1) = true := ho2
          have HRES := Lib.hid (HS.out.trans (if_pos ho2))
          clear HS
          have HGL := Lib.hid (show g < w2.heap.size from Nat.lt_of_lt_of_le hg1 (Nat.le_refl _))
          by_cases hkneg : kk < 0
          · obtain ⟨a0, a1, a2, a3, a5, a6⟩ : _ ∧ _ ∧ _ ∧ _ ∧ _ ∧ _ := ⟨HA.out.c0, HA.out.c1, HA.out.c2, HA.out.c3, HA.out.c5, HA.out.c6⟩
            obtain ⟨x0', x1', x2', x3'⟩ : _ ∧ _ ∧ _ ∧ _ := ⟨HX0.out, HX1.out, HX2.out, HX3.out⟩
            have hkn : kk < 0 := hkneg
            have hwr : IntKind.i64.wrap (-kk) = (q : Int) := by rw [show -kk = (q : Int) from by omega]; exact wrap_q (by omega)
            go_enter Tryz.func17, Tryz.ntmps17
            go_wp2_with (fail)
            clear a0 a1 a2 a3 a5 a6 x0' x1' x2' x3'
            refine wp_region_soup 12 [] (spOf [(11, Spec.is (.agg (msR 13 x1 x2 0)))]) (by kernel_rfl) (by kernel_rfl) (spOk_of (by simp [Spec.is_ok])) (pre_of (by simp [Spec.is_ok])) ?_
            simp only [List.take_succ_cons, List.take_zero, List.drop_succ_cons, List.drop_zero]
            iterate 5
              with_reducible refine soup_q ?_ ?_ ?_
              · rfl
              · rfl
              with_reducible apply Exists.intro
              with_reducible refine ⟨fun W hk _ => ?_, ?_⟩
              · unfold Oper.same
                go_simp
                first | rfl | exact ⟨rfl, rfl⟩
              with_reducible apply Exists.intro
              with_reducible refine ⟨?_, ?_⟩
              · go_simp
                rfl
            with_reducible refine soup_q ?_ ?_ ?_
            · rfl
            · rfl
            with_reducible apply Exists.intro
            with_reducible refine ⟨fun W hk _ => ?_, ?_⟩
            · have c0 := (hk.cell _ HGL.out (by simp)).trans HX0.out
              unfold Oper.same
              go_simp
              first | rfl | exact ⟨rfl, rfl⟩
            with_reducible apply Exists.intro
            with_reducible refine ⟨?_, ?_⟩
            · go_simp
              rfl
            iterate 4
              with_reducible refine soup_q ?_ ?_ ?_
              · rfl
              · rfl
              with_reducible apply Exists.intro
              with_reducible refine ⟨fun W hk _ => ?_, ?_⟩
              · unfold Oper.same
                go_simp
                first | rfl | exact ⟨rfl, rfl⟩
              with_reducible apply Exists.intro
              with_reducible refine ⟨?_, ?_⟩
              · go_simp
                rfl
            with_reducible refine soup_q ?_ ?_ ?_
            · rfl
            · rfl
            with_reducible apply Exists.intro
            with_reducible refine ⟨fun W hk _ => ?_, ?_⟩
            · have c0 := (hk.cell _ HGL.out (by simp)).trans HX1.out
              unfold Oper.same
              go_simp
              first | rfl | exact ⟨rfl, rfl⟩
            with_reducible apply Exists.intro
            with_reducible refine ⟨?_, ?_⟩
            · go_simp
              rfl
            refine soup_s rfl rfl rfl (fun W hk _ _ => ?_) ?_
            · unfold Oper.does
              go_simp
              refine (saysD W x1 x2).mono ?_
              rintro e w' ⟨rfl, hk'⟩
              exact ⟨_, rfl, hk', hk.trans hk', rfl, trivial⟩
            intro v hv
            obtain rfl : v = _ := hv
            with_reducible apply Exists.intro
            with_reducible refine ⟨?_, ?_⟩
            · go_simp
              rfl
            refine soup_nil (fun W hk hS => ?_)
            have hb5 := (hk.block _ (lt_of_heap HB.out) (by simp)).trans HB.out
            obtain ⟨W5, hW5⟩ : ∃ u, W.setRow (w.heap.size + 1) (msR 13 x1 x2 0) = u := ⟨_, rfl⟩
            have hst := run_storeVar_row (P := Tryz.prog) W (w.heap.size + 1) 47 47 _ (msR 13 x1 x2 0) hb5 (by kernel_rfl) (Eq.trans (show zMsg.size = 22 from rfl) (rfl)) (by simp [msR, Value.oneCell'])
            rw [hW5] at hst
            have HST := Lib.hid hst
            have HSY : Hid ((Tryz.prog.info? 47).map (·.size) = some ((msR 13 x1 x2 0) : Array Value).size) := Lib.hid (by kernel_rfl)
            have HF : Hid (W5.heap[w.heap.size + 1]? = some (.cells (msR 13 x1 x2 0) 47 (0, 0))) := Lib.hid (by rw [← hW5]; exact setRow_heap W (w.heap.size + 1) _ _ _ _ hb5)
            have HK5 := Lib.hid (show Keep [] w W5 from by rw [← hW5]; exact (HK.out.trans hk).setRow _ _ (.inr (by omega)))
            clear hk hS hb5 hst hW5
            go_wp2_with ((with_reducible refine wpList_store_all ?_ 47 (.tmp 5) (.tmp 58) ?_ (w.heap.size + 1) ?_ (msR 13 x1 x2 0) ?_ HST.out ?_); rfl; rfl; rfl; rfl)
            have hlv := run_loadVar_row (P := Tryz.prog) W5 (w.heap.size + 1) 47 47 _ (0, 0) _ HF.out Tryz.underlying47 rfl HSY.out
            refine bodyPost_ret (results_ms rfl _ _ W5 (w.heap.size + 1) (msR 13 x1 x2 0) (.int .i64 x3) rfl rfl hlv) rfl ?_
            rw [HRES.out]
            exact ⟨rfl, HK5.out⟩
          · obtain ⟨a0, a1, a2, a3, a5, a6⟩ : _ ∧ _ ∧ _ ∧ _ ∧ _ ∧ _ := ⟨HA.out.c0, HA.out.c1, HA.out.c2, HA.out.c3, HA.out.c5, HA.out.c6⟩
            obtain ⟨x0', x1', x2', x3'⟩ : _ ∧ _ ∧ _ ∧ _ := ⟨HX0.out, HX1.out, HX2.out, HX3.out⟩
            obtain rfl : kk = (q : Int) := by omega
            have hkn : ¬ ((q : Int) < 0) := by omega
            go_enter Tryz.func17, Tryz.ntmps17
            go_wp2_with (fail)
            clear a0 a1 a2 a3 a5 a6 x0' x1' x2' x3'
            refine wp_region_soup 12 [] (spOf [(11, Spec.is (.agg (msR 13 x1 x2 0)))]) (by kernel_rfl) (by kernel_rfl) (spOk_of (by simp [Spec.is_ok])) (pre_of (by simp [Spec.is_ok])) ?_
            simp only [List.take_succ_cons, List.take_zero, List.drop_succ_cons, List.drop_zero]
            iterate 5
              with_reducible refine soup_q ?_ ?_ ?_
              · rfl
              · rfl
              with_reducible apply Exists.intro
              with_reducible refine ⟨fun W hk _ => ?_, ?_⟩
              · unfold Oper.same
                go_simp
                first | rfl | exact ⟨rfl, rfl⟩
              with_reducible apply Exists.intro
              with_reducible refine ⟨?_, ?_⟩
              · go_simp
                rfl
            with_reducible refine soup_q ?_ ?_ ?_
            · rfl
            · rfl
            with_reducible apply Exists.intro
            with_reducible refine ⟨fun W hk _ => ?_, ?_⟩
            · have c0 := (hk.cell _ HGL.out (by simp)).trans HX0.out
              unfold Oper.same
              go_simp
              first | rfl | exact ⟨rfl, rfl⟩
            with_reducible apply Exists.intro
            with_reducible refine ⟨?_, ?_⟩
            · go_simp
              rfl
            iterate 4
              with_reducible refine soup_q ?_ ?_ ?_
              · rfl
              · rfl
              with_reducible apply Exists.intro
              with_reducible refine ⟨fun W hk _ => ?_, ?_⟩
              · unfold Oper.same
                go_simp
                first | rfl | exact ⟨rfl, rfl⟩
              with_reducible apply Exists.intro
              with_reducible refine ⟨?_, ?_⟩
              · go_simp
                rfl
            with_reducible refine soup_q ?_ ?_ ?_
            · rfl
            · rfl
            with_reducible apply Exists.intro
            with_reducible refine ⟨fun W hk _ => ?_, ?_⟩
            · have c0 := (hk.cell _ HGL.out (by simp)).trans HX1.out
              unfold Oper.same
              go_simp
              first | rfl | exact ⟨rfl, rfl⟩
            with_reducible apply Exists.intro
            with_reducible refine ⟨?_, ?_⟩
            · go_simp
              rfl
            refine soup_s rfl rfl rfl (fun W hk _ _ => ?_) ?_
            · unfold Oper.does
              go_simp
              refine (saysD W x1 x2).mono ?_
              rintro e w' ⟨rfl, hk'⟩
              exact ⟨_, rfl, hk', hk.trans hk', rfl, trivial⟩
            intro v hv
            obtain rfl : v = _ := hv
            with_reducible apply Exists.intro
            with_reducible refine ⟨?_, ?_⟩
            · go_simp
              rfl
            refine soup_nil (fun W hk hS => ?_)
            have hb5 := (hk.block _ (lt_of_heap HB.out) (by simp)).trans HB.out
            obtain ⟨W5, hW5⟩ : ∃ u, W.setRow (w.heap.size + 1) (msR 13 x1 x2 0) = u := ⟨_, rfl⟩
            have hst := run_storeVar_row (P := Tryz.prog) W (w.heap.size + 1) 47 47 _ (msR 13 x1 x2 0) hb5 (by kernel_rfl) (Eq.trans (show zMsg.size = 22 from rfl) (rfl)) (by simp [msR, Value.oneCell'])
            rw [hW5] at hst
            have HST := Lib.hid hst
            have HSY : Hid ((Tryz.prog.info? 47).map (·.size) = some ((msR 13 x1 x2 0) : Array Value).size) := Lib.hid (by kernel_rfl)
            have HF : Hid (W5.heap[w.heap.size + 1]? = some (.cells (msR 13 x1 x2 0) 47 (0, 0))) := Lib.hid (by rw [← hW5]; exact setRow_heap W (w.heap.size + 1) _ _ _ _ hb5)
            have HK5 := Lib.hid (show Keep [] w W5 from by rw [← hW5]; exact (HK.out.trans hk).setRow _ _ (.inr (by omega)))
            clear hk hS hb5 hst hW5
            go_wp2_with ((with_reducible refine wpList_store_all ?_ 47 (.tmp 5) (.tmp 58) ?_ (w.heap.size + 1) ?_ (msR 13 x1 x2 0) ?_ HST.out ?_); rfl; rfl; rfl; rfl)
            have hlv := run_loadVar_row (P := Tryz.prog) W5 (w.heap.size + 1) 47 47 _ (0, 0) _ HF.out Tryz.underlying47 rfl HSY.out
            refine bodyPost_ret (results_ms rfl _ _ W5 (w.heap.size + 1) (msR 13 x1 x2 0) (.int .i64 x3) rfl rfl hlv) rfl ?_
            rw [HRES.out]
            exact ⟨rfl, HK5.out⟩
        · have hb2 : (bits BinOp.and .i64 part 1 == 1) = false := by simpa [odd] using ho2
          have HRES := Lib.hid (HS.out.trans (if_neg ho2))
          clear HS
          have HGL := Lib.hid (show g < w2.heap.size from Nat.lt_of_lt_of_le hg1 (Nat.le_refl _))
          by_cases hkneg : kk < 0
          · obtain ⟨a0, a1, a2, a3, a5, a6⟩ : _ ∧ _ ∧ _ ∧ _ ∧ _ ∧ _ := ⟨HA.out.c0, HA.out.c1, HA.out.c2, HA.out.c3, HA.out.c5, HA.out.c6⟩
            obtain ⟨x0', x1', x2', x3'⟩ : _ ∧ _ ∧ _ ∧ _ := ⟨HX0.out, HX1.out, HX2.out, HX3.out⟩
            have hkn : kk < 0 := hkneg
            have hwr : IntKind.i64.wrap (-kk) = (q : Int) := by rw [show -kk = (q : Int) from by omega]; exact wrap_q (by omega)
            go_enter Tryz.func17, Tryz.ntmps17
            go_wp2_with (fail)
            clear a0 a1 a2 a3 a5 a6 x0' x1' x2' x3'
            refine wp_region_soup 14 [] (spOf [(13, Spec.is (.agg (msR 10 x1 x2 code)))]) (by kernel_rfl) (by kernel_rfl) (spOk_of (by simp [Spec.is_ok])) (pre_of (by simp [Spec.is_ok])) ?_
            simp only [List.take_succ_cons, List.take_zero, List.drop_succ_cons, List.drop_zero]
            iterate 5
              with_reducible refine soup_q ?_ ?_ ?_
              · rfl
              · rfl
              with_reducible apply Exists.intro
              with_reducible refine ⟨fun W hk _ => ?_, ?_⟩
              · unfold Oper.same
                go_simp
                first | rfl | exact ⟨rfl, rfl⟩
              with_reducible apply Exists.intro
              with_reducible refine ⟨?_, ?_⟩
              · go_simp
                rfl
            with_reducible refine soup_q ?_ ?_ ?_
            · rfl
            · rfl
            with_reducible apply Exists.intro
            with_reducible refine ⟨fun W hk _ => ?_, ?_⟩
            · have c0 := (hk.cell _ HGL.out (by simp)).trans HX0.out
              unfold Oper.same
              go_simp
              first | rfl | exact ⟨rfl, rfl⟩
            with_reducible apply Exists.intro
            with_reducible refine ⟨?_, ?_⟩
            · go_simp
              rfl
            iterate 4
              with_reducible refine soup_q ?_ ?_ ?_
              · rfl
              · rfl
              with_reducible apply Exists.intro
              with_reducible refine ⟨fun W hk _ => ?_, ?_⟩
              · unfold Oper.same
                go_simp
                first | rfl | exact ⟨rfl, rfl⟩
              with_reducible apply Exists.intro
              with_reducible refine ⟨?_, ?_⟩
              · go_simp
                rfl
            with_reducible refine soup_q ?_ ?_ ?_
            · rfl
            · rfl
            with_reducible apply Exists.intro
            with_reducible refine ⟨fun W hk _ => ?_, ?_⟩
            · have c0 := (hk.cell _ HGL.out (by simp)).trans HX1.out
              unfold Oper.same
              go_simp
              first | rfl | exact ⟨rfl, rfl⟩
            with_reducible apply Exists.intro
            with_reducible refine ⟨?_, ?_⟩
            · go_simp
              rfl
            with_reducible refine soup_q ?_ ?_ ?_
            · rfl
            · rfl
            with_reducible apply Exists.intro
            with_reducible refine ⟨fun W hk _ => ?_, ?_⟩
            · unfold Oper.same
              go_simp
              first | rfl | exact ⟨rfl, rfl⟩
            with_reducible apply Exists.intro
            with_reducible refine ⟨?_, ?_⟩
            · go_simp
              rfl
            with_reducible refine soup_q ?_ ?_ ?_
            · rfl
            · rfl
            with_reducible apply Exists.intro
            with_reducible refine ⟨fun W hk _ => ?_, ?_⟩
            · have c0 := (HA.out.keep hk (by simp)).c6
              unfold Oper.same
              go_simp
              first | rfl | exact ⟨rfl, rfl⟩
            with_reducible apply Exists.intro
            with_reducible refine ⟨?_, ?_⟩
            · go_simp
              rfl
            refine soup_s rfl rfl rfl (fun W hk _ _ => ?_) ?_
            · unfold Oper.does
              go_simp
              refine (saysR W x1 x2 code).mono ?_
              rintro e w' ⟨rfl, hk'⟩
              exact ⟨_, rfl, hk', hk.trans hk', rfl, trivial⟩
            intro v hv
            obtain rfl : v = _ := hv
            with_reducible apply Exists.intro
            with_reducible refine ⟨?_, ?_⟩
            · go_simp
              rfl
            refine soup_nil (fun W hk hS => ?_)
            have hb5 := (hk.block _ (lt_of_heap HB.out) (by simp)).trans HB.out
            obtain ⟨W5, hW5⟩ : ∃ u, W.setRow (w.heap.size + 1) (msR 10 x1 x2 code) = u := ⟨_, rfl⟩
            have hst := run_storeVar_row (P := Tryz.prog) W (w.heap.size + 1) 47 47 _ (msR 10 x1 x2 code) hb5 (by kernel_rfl) (Eq.trans (show zMsg.size = 22 from rfl) (rfl)) (by simp [msR, Value.oneCell'])
            rw [hW5] at hst
            have HST := Lib.hid hst
            have HSY : Hid ((Tryz.prog.info? 47).map (·.size) = some ((msR 10 x1 x2 code) : Array Value).size) := Lib.hid (by kernel_rfl)
            have HF : Hid (W5.heap[w.heap.size + 1]? = some (.cells (msR 10 x1 x2 code) 47 (0, 0))) := Lib.hid (by rw [← hW5]; exact setRow_heap W (w.heap.size + 1) _ _ _ _ hb5)
            have HK5 := Lib.hid (show Keep [] w W5 from by rw [← hW5]; exact (HK.out.trans hk).setRow _ _ (.inr (by omega)))
            clear hk hS hb5 hst hW5
            go_wp2_with ((with_reducible refine wpList_store_all ?_ 47 (.tmp 5) (.tmp 72) ?_ (w.heap.size + 1) ?_ (msR 10 x1 x2 code) ?_ HST.out ?_); rfl; rfl; rfl; rfl)
            have hlv := run_loadVar_row (P := Tryz.prog) W5 (w.heap.size + 1) 47 47 _ (0, 0) _ HF.out Tryz.underlying47 rfl HSY.out
            refine bodyPost_ret (results_ms rfl _ _ W5 (w.heap.size + 1) (msR 10 x1 x2 code) (.int .i64 x3) rfl rfl hlv) rfl ?_
            rw [HRES.out]
            exact ⟨rfl, HK5.out⟩
          · obtain ⟨a0, a1, a2, a3, a5, a6⟩ : _ ∧ _ ∧ _ ∧ _ ∧ _ ∧ _ := ⟨HA.out.c0, HA.out.c1, HA.out.c2, HA.out.c3, HA.out.c5, HA.out.c6⟩
            obtain ⟨x0', x1', x2', x3'⟩ : _ ∧ _ ∧ _ ∧ _ := ⟨HX0.out, HX1.out, HX2.out, HX3.out⟩
            obtain rfl : kk = (q : Int) := by omega
            have hkn : ¬ ((q : Int) < 0) := by omega
            go_enter Tryz.func17, Tryz.ntmps17
            go_wp2_with (fail)
            clear a0 a1 a2 a3 a5 a6 x0' x1' x2' x3'
            refine wp_region_soup 14 [] (spOf [(13, Spec.is (.agg (msR 10 x1 x2 code)))]) (by kernel_rfl) (by kernel_rfl) (spOk_of (by simp [Spec.is_ok])) (pre_of (by simp [Spec.is_ok])) ?_
            simp only [List.take_succ_cons, List.take_zero, List.drop_succ_cons, List.drop_zero]
            iterate 5
              with_reducible refine soup_q ?_ ?_ ?_
              · rfl
              · rfl
              with_reducible apply Exists.intro
              with_reducible refine ⟨fun W hk _ => ?_, ?_⟩
              · unfold Oper.same
                go_simp
                first | rfl | exact ⟨rfl, rfl⟩
              with_reducible apply Exists.intro
              with_reducible refine ⟨?_, ?_⟩
              · go_simp
                rfl
            with_reducible refine soup_q ?_ ?_ ?_
            · rfl
            · rfl
            with_reducible apply Exists.intro
            with_reducible refine ⟨fun W hk _ => ?_, ?_⟩
            · have c0 := (hk.cell _ HGL.out (by simp)).trans HX0.out
              unfold Oper.same
              go_simp
              first | rfl | exact ⟨rfl, rfl⟩
            with_reducible apply Exists.intro
            with_reducible refine ⟨?_, ?_⟩
            · go_simp
              rfl
            iterate 4
              with_reducible refine soup_q ?_ ?_ ?_
              · rfl
              · rfl
              with_reducible apply Exists.intro
              with_reducible refine ⟨fun W hk _ => ?_, ?_⟩
              · unfold Oper.same
                go_simp
                first | rfl | exact ⟨rfl, rfl⟩
              with_reducible apply Exists.intro
              with_reducible refine ⟨?_, ?_⟩
              · go_simp
                rfl
            with_reducible refine soup_q ?_ ?_ ?_
            · rfl
            · rfl
            with_reducible apply Exists.intro
            with_reducible refine ⟨fun W hk _ => ?_, ?_⟩
            · have c0 := (hk.cell _ HGL.out (by simp)).trans HX1.out
              unfold Oper.same
              go_simp
              first | rfl | exact ⟨rfl, rfl⟩
            with_reducible apply Exists.intro
            with_reducible refine ⟨?_, ?_⟩
            · go_simp
              rfl
            with_reducible refine soup_q ?_ ?_ ?_
            · rfl
            · rfl
            with_reducible apply Exists.intro
            with_reducible refine ⟨fun W hk _ => ?_, ?_⟩
            · unfold Oper.same
              go_simp
              first | rfl | exact ⟨rfl, rfl⟩
            with_reducible apply Exists.intro
            with_reducible refine ⟨?_, ?_⟩
            · go_simp
              rfl
            with_reducible refine soup_q ?_ ?_ ?_
            · rfl
            · rfl
            with_reducible apply Exists.intro
            with_reducible refine ⟨fun W hk _ => ?_, ?_⟩
            · have c0 := (HA.out.keep hk (by simp)).c6
              unfold Oper.same
              go_simp
              first | rfl | exact ⟨rfl, rfl⟩
            with_reducible apply Exists.intro
            with_reducible refine ⟨?_, ?_⟩
            · go_simp
              rfl
            refine soup_s rfl rfl rfl (fun W hk _ _ => ?_) ?_
            · unfold Oper.does
              go_simp
              refine (saysR W x1 x2 code).mono ?_
              rintro e w' ⟨rfl, hk'⟩
              exact ⟨_, rfl, hk', hk.trans hk', rfl, trivial⟩
            intro v hv
            obtain rfl : v = _ := hv
            with_reducible apply Exists.intro
            with_reducible refine ⟨?_, ?_⟩
            · go_simp
              rfl
            refine soup_nil (fun W hk hS => ?_)
            have hb5 := (hk.block _ (lt_of_heap HB.out) (by simp)).trans HB.out
            obtain ⟨W5, hW5⟩ : ∃ u, W.setRow (w.heap.size + 1) (msR 10 x1 x2 code) = u := ⟨_, rfl⟩
            have hst := run_storeVar_row (P := Tryz.prog) W (w.heap.size + 1) 47 47 _ (msR 10 x1 x2 code) hb5 (by kernel_rfl) (Eq.trans (show zMsg.size = 22 from rfl) (rfl)) (by simp [msR, Value.oneCell'])
            rw [hW5] at hst
            have HST := Lib.hid hst
            have HSY : Hid ((Tryz.prog.info? 47).map (·.size) = some ((msR 10 x1 x2 code) : Array Value).size) := Lib.hid (by kernel_rfl)
            have HF : Hid (W5.heap[w.heap.size + 1]? = some (.cells (msR 10 x1 x2 code) 47 (0, 0))) := Lib.hid (by rw [← hW5]; exact setRow_heap W (w.heap.size + 1) _ _ _ _ hb5)
            have HK5 := Lib.hid (show Keep [] w W5 from by rw [← hW5]; exact (HK.out.trans hk).setRow _ _ (.inr (by omega)))
            clear hk hS hb5 hst hW5
            go_wp2_with ((with_reducible refine wpList_store_all ?_ 47 (.tmp 5) (.tmp 72) ?_ (w.heap.size + 1) ?_ (msR 10 x1 x2 code) ?_ HST.out ?_); rfl; rfl; rfl; rfl)
            have hlv := run_loadVar_row (P := Tryz.prog) W5 (w.heap.size + 1) 47 47 _ (0, 0) _ HF.out Tryz.underlying47 rfl HSY.out
            refine bodyPost_ret (results_ms rfl _ _ W5 (w.heap.size + 1) (msR 10 x1 x2 code) (.int .i64 x3) rfl rfl hlv) rfl ?_
            rw [HRES.out]
            exact ⟨rfl, HK5.out⟩
      · have hb1 : (bits BinOp.and .i64 to 1 == 1) = false := by simpa [odd] using ho1
        rw [if_neg ho1] at HS
        by_cases ho2 : odd part = true
        · have hb2 : (bits BinOp.and .i64 part 1 == 1) = true := ho2
          have HRES := Lib.hid (HS.out.trans (if_pos ho2))
          clear HS
          have HGL := Lib.hid (show g < w2.heap.size from Nat.lt_of_lt_of_le hg1 (Nat.le_refl _))
          by_cases hkneg : kk < 0
          · obtain ⟨a0, a1, a2, a3, a5, a6⟩ : _ ∧ _ ∧ _ ∧ _ ∧ _ ∧ _ := ⟨HA.out.c0, HA.out.c1, HA.out.c2, HA.out.c3, HA.out.c5, HA.out.c6⟩
            obtain ⟨x0', x1', x2', x3'⟩ : _ ∧ _ ∧ _ ∧ _ := ⟨HX0.out, HX1.out, HX2.out, HX3.out⟩
            have hkn : kk < 0 := hkneg
            have hwr : IntKind.i64.wrap (-kk) = (q : Int) := by rw [show -kk = (q : Int) from by omega]; exact wrap_q (by omega)
            go_enter Tryz.func17, Tryz.ntmps17
            go_wp2_with (fail)
            clear a0 a1 a2 a3 a5 a6 x0' x1' x2' x3'
            refine wp_region_soup 12 [] (spOf [(11, Spec.is (.agg (msR 13 x1 x2 0)))]) (by kernel_rfl) (by kernel_rfl) (spOk_of (by simp [Spec.is_ok])) (pre_of (by simp [Spec.is_ok])) ?_
            simp only [List.take_succ_cons, List.take_zero, List.drop_succ_cons, List.drop_zero]
            iterate 5
              with_reducible refine soup_q ?_ ?_ ?_
              · rfl
              · rfl
              with_reducible apply Exists.intro
              with_reducible refine ⟨fun W hk _ => ?_, ?_⟩
              · unfold Oper.same
                go_simp
                first | rfl | exact ⟨rfl, rfl⟩
              with_reducible apply Exists.intro
              with_reducible refine ⟨?_, ?_⟩
              · go_simp
                rfl
            with_reducible refine soup_q ?_ ?_ ?_
            · rfl
            · rfl
            with_reducible apply Exists.intro
            with_reducible refine ⟨fun W hk _ => ?_, ?_⟩
            · have c0 := (hk.cell _ HGL.out (by simp)).trans HX0.out
              unfold Oper.same
              go_simp
              first | rfl | exact ⟨rfl, rfl⟩
            with_reducible apply Exists.intro
            with_reducible refine ⟨?_, ?_⟩
            · go_simp
              rfl
            iterate 4
              with_reducible refine soup_q ?_ ?_ ?_
              · rfl
              · rfl
              with_reducible apply Exists.intro
              with_reducible refine ⟨fun W hk _ => ?_, ?_⟩
              · unfold Oper.same
                go_simp
                first | rfl | exact ⟨rfl, rfl⟩
              with_reducible apply Exists.intro
              with_reducible refine ⟨?_, ?_⟩
              · go_simp
                rfl
            with_reducible refine soup_q ?_ ?_ ?_
            · rfl
            · rfl
            with_reducible apply Exists.intro
            with_reducible refine ⟨fun W hk _ => ?_, ?_⟩
            · have c0 := (hk.cell _ HGL.out (by simp)).trans HX1.out
              unfold Oper.same
              go_simp
              first | rfl | exact ⟨rfl, rfl⟩
            with_reducible apply Exists.intro
            with_reducible refine ⟨?_, ?_⟩
            · go_simp
              rfl
            refine soup_s rfl rfl rfl (fun W hk _ _ => ?_) ?_
            · unfold Oper.does
              go_simp
              refine (saysD W x1 x2).mono ?_
              rintro e w' ⟨rfl, hk'⟩
              exact ⟨_, rfl, hk', hk.trans hk', rfl, trivial⟩
            intro v hv
            obtain rfl : v = _ := hv
            with_reducible apply Exists.intro
            with_reducible refine ⟨?_, ?_⟩
            · go_simp
              rfl
            refine soup_nil (fun W hk hS => ?_)
            have hb5 := (hk.block _ (lt_of_heap HB.out) (by simp)).trans HB.out
            obtain ⟨W5, hW5⟩ : ∃ u, W.setRow (w.heap.size + 1) (msR 13 x1 x2 0) = u := ⟨_, rfl⟩
            have hst := run_storeVar_row (P := Tryz.prog) W (w.heap.size + 1) 47 47 _ (msR 13 x1 x2 0) hb5 (by kernel_rfl) (Eq.trans (show zMsg.size = 22 from rfl) (rfl)) (by simp [msR, Value.oneCell'])
            rw [hW5] at hst
            have HST := Lib.hid hst
            have HSY : Hid ((Tryz.prog.info? 47).map (·.size) = some ((msR 13 x1 x2 0) : Array Value).size) := Lib.hid (by kernel_rfl)
            have HF : Hid (W5.heap[w.heap.size + 1]? = some (.cells (msR 13 x1 x2 0) 47 (0, 0))) := Lib.hid (by rw [← hW5]; exact setRow_heap W (w.heap.size + 1) _ _ _ _ hb5)
            have HK5 := Lib.hid (show Keep [] w W5 from by rw [← hW5]; exact (HK.out.trans hk).setRow _ _ (.inr (by omega)))
            clear hk hS hb5 hst hW5
            go_wp2_with ((with_reducible refine wpList_store_all ?_ 47 (.tmp 5) (.tmp 58) ?_ (w.heap.size + 1) ?_ (msR 13 x1 x2 0) ?_ HST.out ?_); rfl; rfl; rfl; rfl)
            have hlv := run_loadVar_row (P := Tryz.prog) W5 (w.heap.size + 1) 47 47 _ (0, 0) _ HF.out Tryz.underlying47 rfl HSY.out
            refine bodyPost_ret (results_ms rfl _ _ W5 (w.heap.size + 1) (msR 13 x1 x2 0) (.int .i64 x4) rfl rfl hlv) rfl ?_
            rw [HRES.out]
            exact ⟨rfl, HK5.out⟩
          · obtain ⟨a0, a1, a2, a3, a5, a6⟩ : _ ∧ _ ∧ _ ∧ _ ∧ _ ∧ _ := ⟨HA.out.c0, HA.out.c1, HA.out.c2, HA.out.c3, HA.out.c5, HA.out.c6⟩
            obtain ⟨x0', x1', x2', x3'⟩ : _ ∧ _ ∧ _ ∧ _ := ⟨HX0.out, HX1.out, HX2.out, HX3.out⟩
            obtain rfl : kk = (q : Int) := by omega
            have hkn : ¬ ((q : Int) < 0) := by omega
            go_enter Tryz.func17, Tryz.ntmps17
            go_wp2_with (fail)
            clear a0 a1 a2 a3 a5 a6 x0' x1' x2' x3'
            refine wp_region_soup 12 [] (spOf [(11, Spec.is (.agg (msR 13 x1 x2 0)))]) (by kernel_rfl) (by kernel_rfl) (spOk_of (by simp [Spec.is_ok])) (pre_of (by simp [Spec.is_ok])) ?_
            simp only [List.take_succ_cons, List.take_zero, List.drop_succ_cons, List.drop_zero]
            iterate 5
              with_reducible refine soup_q ?_ ?_ ?_
              · rfl
              · rfl
              with_reducible apply Exists.intro
              with_reducible refine ⟨fun W hk _ => ?_, ?_⟩
              · unfold Oper.same
                go_simp
                first | rfl | exact ⟨rfl, rfl⟩
              with_reducible apply Exists.intro
              with_reducible refine ⟨?_, ?_⟩
              · go_simp
                rfl
            with_reducible refine soup_q ?_ ?_ ?_
            · rfl
            · rfl
            with_reducible apply Exists.intro
            with_reducible refine ⟨fun W hk _ => ?_, ?_⟩
            · have c0 := (hk.cell _ HGL.out (by simp)).trans HX0.out
              unfold Oper.same
              go_simp
              first | rfl | exact ⟨rfl, rfl⟩
            with_reducible apply Exists.intro
            with_reducible refine ⟨?_, ?_⟩
            · go_simp
              rfl
            iterate 4
              with_reducible refine soup_q ?_ ?_ ?_
              · rfl
              · rfl
              with_reducible apply Exists.intro
              with_reducible refine ⟨fun W hk _ => ?_, ?_⟩
              · unfold Oper.same
                go_simp
                first | rfl | exact ⟨rfl, rfl⟩
              with_reducible apply Exists.intro
              with_reducible refine ⟨?_, ?_⟩
              · go_simp
                rfl
            with_reducible refine soup_q ?_ ?_ ?_
            · rfl
            · rfl
            with_reducible apply Exists.intro
            with_reducible refine ⟨fun W hk _ => ?_, ?_⟩
            · have c0 := (hk.cell _ HGL.out (by simp)).trans HX1.out
              unfold Oper.same
              go_simp
              first | rfl | exact ⟨rfl, rfl⟩
            with_reducible apply Exists.intro
            with_reducible refine ⟨?_, ?_⟩
            · go_simp
              rfl
            refine soup_s rfl rfl rfl (fun W hk _ _ => ?_) ?_
            · unfold Oper.does
              go_simp
              refine (saysD W x1 x2).mono ?_
              rintro e w' ⟨rfl, hk'⟩
              exact ⟨_, rfl, hk', hk.trans hk', rfl, trivial⟩
            intro v hv
            obtain rfl : v = _ := hv
            with_reducible apply Exists.intro
            with_reducible refine ⟨?_, ?_⟩
            · go_simp
              rfl
            refine soup_nil (fun W hk hS => ?_)
            have hb5 := (hk.block _ (lt_of_heap HB.out) (by simp)).trans HB.out
            obtain ⟨W5, hW5⟩ : ∃ u, W.setRow (w.heap.size + 1) (msR 13 x1 x2 0) = u := ⟨_, rfl⟩
            have hst := run_storeVar_row (P := Tryz.prog) W (w.heap.size + 1) 47 47 _ (msR 13 x1 x2 0) hb5 (by kernel_rfl) (Eq.trans (show zMsg.size = 22 from rfl) (rfl)) (by simp [msR, Value.oneCell'])
            rw [hW5] at hst
            have HST := Lib.hid hst
            have HSY : Hid ((Tryz.prog.info? 47).map (·.size) = some ((msR 13 x1 x2 0) : Array Value).size) := Lib.hid (by kernel_rfl)
            have HF : Hid (W5.heap[w.heap.size + 1]? = some (.cells (msR 13 x1 x2 0) 47 (0, 0))) := Lib.hid (by rw [← hW5]; exact setRow_heap W (w.heap.size + 1) _ _ _ _ hb5)
            have HK5 := Lib.hid (show Keep [] w W5 from by rw [← hW5]; exact (HK.out.trans hk).setRow _ _ (.inr (by omega)))
            clear hk hS hb5 hst hW5
            go_wp2_with ((with_reducible refine wpList_store_all ?_ 47 (.tmp 5) (.tmp 58) ?_ (w.heap.size + 1) ?_ (msR 13 x1 x2 0) ?_ HST.out ?_); rfl; rfl; rfl; rfl)
            have hlv := run_loadVar_row (P := Tryz.prog) W5 (w.heap.size + 1) 47 47 _ (0, 0) _ HF.out Tryz.underlying47 rfl HSY.out
            refine bodyPost_ret (results_ms rfl _ _ W5 (w.heap.size + 1) (msR 13 x1 x2 0) (.int .i64 x4) rfl rfl hlv) rfl ?_
            rw [HRES.out]
            exact ⟨rfl, HK5.out⟩
        · have hb2 : (bits BinOp.and .i64 part 1 == 1) = false := by simpa [odd] using ho2
          have HRES := Lib.hid (HS.out.trans (if_neg ho2))
          clear HS
          have HGL := Lib.hid (show g < w2.heap.size from Nat.lt_of_lt_of_le hg1 (Nat.le_refl _))
          by_cases hkneg : kk < 0
          · obtain ⟨a0, a1, a2, a3, a5, a6⟩ : _ ∧ _ ∧ _ ∧ _ ∧ _ ∧ _ := ⟨HA.out.c0, HA.out.c1, HA.out.c2, HA.out.c3, HA.out.c5, HA.out.c6⟩
            obtain ⟨x0', x1', x2', x3'⟩ : _ ∧ _ ∧ _ ∧ _ := ⟨HX0.out, HX1.out, HX2.out, HX3.out⟩
            have hkn : kk < 0 := hkneg
            have hwr : IntKind.i64.wrap (-kk) = (q : Int) := by rw [show -kk = (q : Int) from by omega]; exact wrap_q (by omega)
            go_enter Tryz.func17, Tryz.ntmps17
            go_wp2_with (fail)
            clear a0 a1 a2 a3 a5 a6 x0' x1' x2' x3'
            refine wp_region_soup 14 [] (spOf [(13, Spec.is (.agg (msR 10 x1 x2 code)))]) (by kernel_rfl) (by kernel_rfl) (spOk_of (by simp [Spec.is_ok])) (pre_of (by simp [Spec.is_ok])) ?_
            simp only [List.take_succ_cons, List.take_zero, List.drop_succ_cons, List.drop_zero]
            iterate 5
              with_reducible refine soup_q ?_ ?_ ?_
              · rfl
              · rfl
              with_reducible apply Exists.intro
              with_reducible refine ⟨fun W hk _ => ?_, ?_⟩
              · unfold Oper.same
                go_simp
                first | rfl | exact ⟨rfl, rfl⟩
              with_reducible apply Exists.intro
              with_reducible refine ⟨?_, ?_⟩
              · go_simp
                rfl
            with_reducible refine soup_q ?_ ?_ ?_
            · rfl
            · rfl
            with_reducible apply Exists.intro
            with_reducible refine ⟨fun W hk _ => ?_, ?_⟩
            · have c0 := (hk.cell _ HGL.out (by simp)).trans HX0.out
              unfold Oper.same
              go_simp
              first | rfl | exact ⟨rfl, rfl⟩
            with_reducible apply Exists.intro
            with_reducible refine ⟨?_, ?_⟩
            · go_simp
              rfl
            iterate 4
              with_reducible refine soup_q ?_ ?_ ?_
              · rfl
              · rfl
              with_reducible apply Exists.intro
              with_reducible refine ⟨fun W hk _ => ?_, ?_⟩
              · unfold Oper.same
                go_simp
                first | rfl | exact ⟨rfl, rfl⟩
              with_reducible apply Exists.intro
              with_reducible refine ⟨?_, ?_⟩
              · go_simp
                rfl
            with_reducible refine soup_q ?_ ?_ ?_
            · rfl
            · rfl
            with_reducible apply Exists.intro
            with_reducible refine ⟨fun W hk _ => ?_, ?_⟩
            · have c0 := (hk.cell _ HGL.out (by simp)).trans HX1.out
              unfold Oper.same
              go_simp
              first | rfl | exact ⟨rfl, rfl⟩
            with_reducible apply Exists.intro
            with_reducible refine ⟨?_, ?_⟩
            · go_simp
              rfl
            with_reducible refine soup_q ?_ ?_ ?_
            · rfl
            · rfl
            with_reducible apply Exists.intro
            with_reducible refine ⟨fun W hk _ => ?_, ?_⟩
            · unfold Oper.same
              go_simp
              first | rfl | exact ⟨rfl, rfl⟩
            with_reducible apply Exists.intro
            with_reducible refine ⟨?_, ?_⟩
            · go_simp
              rfl
            with_reducible refine soup_q ?_ ?_ ?_
            · rfl
            · rfl
            with_reducible apply Exists.intro
            with_reducible refine ⟨fun W hk _ => ?_, ?_⟩
            · have c0 := (HA.out.keep hk (by simp)).c6
              unfold Oper.same
              go_simp
              first | rfl | exact ⟨rfl, rfl⟩
            with_reducible apply Exists.intro
            with_reducible refine ⟨?_, ?_⟩
            · go_simp
              rfl
            refine soup_s rfl rfl rfl (fun W hk _ _ => ?_) ?_
            · unfold Oper.does
              go_simp
              refine (saysR W x1 x2 code).mono ?_
              rintro e w' ⟨rfl, hk'⟩
              exact ⟨_, rfl, hk', hk.trans hk', rfl, trivial⟩
            intro v hv
            obtain rfl : v = _ := hv
            with_reducible apply Exists.intro
            with_reducible refine ⟨?_, ?_⟩
            · go_simp
              rfl
            refine soup_nil (fun W hk hS => ?_)
            have hb5 := (hk.block _ (lt_of_heap HB.out) (by simp)).trans HB.out
            obtain ⟨W5, hW5⟩ : ∃ u, W.setRow (w.heap.size + 1) (msR 10 x1 x2 code) = u := ⟨_, rfl⟩
            have hst := run_storeVar_row (P := Tryz.prog) W (w.heap.size + 1) 47 47 _ (msR 10 x1 x2 code) hb5 (by kernel_rfl) (Eq.trans (show zMsg.size = 22 from rfl) (rfl)) (by simp [msR, Value.oneCell'])
            rw [hW5] at hst
            have HST := Lib.hid hst
            have HSY : Hid ((Tryz.prog.info? 47).map (·.size) = some ((msR 10 x1 x2 code) : Array Value).size) := Lib.hid (by kernel_rfl)
            have HF : Hid (W5.heap[w.heap.size + 1]? = some (.cells (msR 10 x1 x2 code) 47 (0, 0))) := Lib.hid (by rw [← hW5]; exact setRow_heap W (w.heap.size + 1) _ _ _ _ hb5)
            have HK5 := Lib.hid (show Keep [] w W5 from by rw [← hW5]; exact (HK.out.trans hk).setRow _ _ (.inr (by omega)))
            clear hk hS hb5 hst hW5
            go_wp2_with ((with_reducible refine wpList_store_all ?_ 47 (.tmp 5) (.tmp 72) ?_ (w.heap.size + 1) ?_ (msR 10 x1 x2 code) ?_ HST.out ?_); rfl; rfl; rfl; rfl)
            have hlv := run_loadVar_row (P := Tryz.prog) W5 (w.heap.size + 1) 47 47 _ (0, 0) _ HF.out Tryz.underlying47 rfl HSY.out
            refine bodyPost_ret (results_ms rfl _ _ W5 (w.heap.size + 1) (msR 10 x1 x2 code) (.int .i64 x4) rfl rfl hlv) rfl ?_
            rw [HRES.out]
            exact ⟨rfl, HK5.out⟩
          · obtain ⟨a0, a1, a2, a3, a5, a6⟩ : _ ∧ _ ∧ _ ∧ _ ∧ _ ∧ _ := ⟨HA.out.c0, HA.out.c1, HA.out.c2, HA.out.c3, HA.out.c5, HA.out.c6⟩
            obtain ⟨x0', x1', x2', x3'⟩ : _ ∧ _ ∧ _ ∧ _ := ⟨HX0.out, HX1.out, HX2.out, HX3.out⟩
            obtain rfl : kk = (q : Int) := by omega
            have hkn : ¬ ((q : Int) < 0) := by omega
            go_enter Tryz.func17, Tryz.ntmps17
            go_wp2_with (fail)
            clear a0 a1 a2 a3 a5 a6 x0' x1' x2' x3'
            refine wp_region_soup 14 [] (spOf [(13, Spec.is (.agg (msR 10 x1 x2 code)))]) (by kernel_rfl) (by kernel_rfl) (spOk_of (by simp [Spec.is_ok])) (pre_of (by simp [Spec.is_ok])) ?_
            simp only [List.take_succ_cons, List.take_zero, List.drop_succ_cons, List.drop_zero]
            iterate 5
              with_reducible refine soup_q ?_ ?_ ?_
              · rfl
              · rfl
              with_reducible apply Exists.intro
              with_reducible refine ⟨fun W hk _ => ?_, ?_⟩
              · unfold Oper.same
                go_simp
                first | rfl | exact ⟨rfl, rfl⟩
              with_reducible apply Exists.intro
              with_reducible refine ⟨?_, ?_⟩
              · go_simp
                rfl
            with_reducible refine soup_q ?_ ?_ ?_
            · rfl
            · rfl
            with_reducible apply Exists.intro
            with_reducible refine ⟨fun W hk _ => ?_, ?_⟩
            · have c0 := (hk.cell _ HGL.out (by simp)).trans HX0.out
              unfold Oper.same
              go_simp
              first | rfl | exact ⟨rfl, rfl⟩
            with_reducible apply Exists.intro
            with_reducible refine ⟨?_, ?_⟩
            · go_simp
              rfl
            iterate 4
              with_reducible refine soup_q ?_ ?_ ?_
              · rfl
              · rfl
              with_reducible apply Exists.intro
              with_reducible refine ⟨fun W hk _ => ?_, ?_⟩
              · unfold Oper.same
                go_simp
                first | rfl | exact ⟨rfl, rfl⟩
              with_reducible apply Exists.intro
              with_reducible refine ⟨?_, ?_⟩
              · go_simp
                rfl
            with_reducible refine soup_q ?_ ?_ ?_
            · rfl
            · rfl
            with_reducible apply Exists.intro
            with_reducible refine ⟨fun W hk _ => ?_, ?_⟩
            · have c0 := (hk.cell _ HGL.out (by simp)).trans HX1.out
              unfold Oper.same
              go_simp
              first | rfl | exact ⟨rfl, rfl⟩
            with_reducible apply Exists.intro
            with_reducible refine ⟨?_, ?_⟩
            · go_simp
              rfl
            with_reducible refine soup_q ?_ ?_ ?_
            · rfl
            · rfl
            with_reducible apply Exists.intro
            with_reducible refine ⟨fun W hk _ => ?_, ?_⟩
            · unfold Oper.same
              go_simp
              first | rfl | exact ⟨rfl, rfl⟩
            with_reducible apply Exists.intro
            with_reducible refine ⟨?_, ?_⟩
            · go_simp
              rfl
            with_reducible refine soup_q ?_ ?_ ?_
            · rfl
            · rfl
            with_reducible apply Exists.intro
            with_reducible refine ⟨fun W hk _ => ?_, ?_⟩
            · have c0 := (HA.out.keep hk (by simp)).c6
              unfold Oper.same
              go_simp
              first | rfl | exact ⟨rfl, rfl⟩
            with_reducible apply Exists.intro
            with_reducible refine ⟨?_, ?_⟩
            · go_simp
              rfl
            refine soup_s rfl rfl rfl (fun W hk _ _ => ?_) ?_
            · unfold Oper.does
              go_simp
              refine (saysR W x1 x2 code).mono ?_
              rintro e w' ⟨rfl, hk'⟩
              exact ⟨_, rfl, hk', hk.trans hk', rfl, trivial⟩
            intro v hv
            obtain rfl : v = _ := hv
            with_reducible apply Exists.intro
            with_reducible refine ⟨?_, ?_⟩
            · go_simp
              rfl
            refine soup_nil (fun W hk hS => ?_)
            have hb5 := (hk.block _ (lt_of_heap HB.out) (by simp)).trans HB.out
            obtain ⟨W5, hW5⟩ : ∃ u, W.setRow (w.heap.size + 1) (msR 10 x1 x2 code) = u := ⟨_, rfl⟩
            have hst := run_storeVar_row (P := Tryz.prog) W (w.heap.size + 1) 47 47 _ (msR 10 x1 x2 code) hb5 (by kernel_rfl) (Eq.trans (show zMsg.size = 22 from rfl) (rfl)) (by simp [msR, Value.oneCell'])
            rw [hW5] at hst
            have HST := Lib.hid hst
            have HSY : Hid ((Tryz.prog.info? 47).map (·.size) = some ((msR 10 x1 x2 code) : Array Value).size) := Lib.hid (by kernel_rfl)
            have HF : Hid (W5.heap[w.heap.size + 1]? = some (.cells (msR 10 x1 x2 code) 47 (0, 0))) := Lib.hid (by rw [← hW5]; exact setRow_heap W (w.heap.size + 1) _ _ _ _ hb5)
            have HK5 := Lib.hid (show Keep [] w W5 from by rw [← hW5]; exact (HK.out.trans hk).setRow _ _ (.inr (by omega)))
            clear hk hS hb5 hst hW5
            go_wp2_with ((with_reducible refine wpList_store_all ?_ 47 (.tmp 5) (.tmp 72) ?_ (w.heap.size + 1) ?_ (msR 10 x1 x2 code) ?_ HST.out ?_); rfl; rfl; rfl; rfl)
            have hlv := run_loadVar_row (P := Tryz.prog) W5 (w.heap.size + 1) 47 47 _ (0, 0) _ HF.out Tryz.underlying47 rfl HSY.out
            refine bodyPost_ret (results_ms rfl _ _ W5 (w.heap.size + 1) (msR 10 x1 x2 code) (.int .i64 x4) rfl rfl hlv) rfl ?_
            rw [HRES.out]
            exact ⟨rfl, HK5.out⟩
  · have hdg : ((dd : Int) == 4) = false := by simpa using hd
    have HRES := Lib.hid (show saysF ⟨dd, part, to, fr, ms, k, mv, pt, cd, wh, code⟩ l = ⟨fr, ms, k, mv, pt, cd⟩ from by unfold saysF; rw [if_pos (.inl hd)])
    clear hir
    subst hv
    go_enter Tryz.func17, Tryz.ntmps17
    obtain ⟨a0, a1, a2, a3, a5, a6⟩ : _ ∧ _ ∧ _ ∧ _ ∧ _ ∧ _ := ⟨HA.out.c0, HA.out.c1, HA.out.c2, HA.out.c3, HA.out.c5, HA.out.c6⟩
    go_wp2_with (fail)
    clear a0 a1 a2 a3 a5 a6
    refine wp_region_soup 5 [] (fun _ => none) (by kernel_rfl) (by kernel_rfl) (spOk_of (l := []) (by simp)) (pre_of (l := []) (by simp)) ?_
    simp only [List.take_succ_cons, List.take_zero, List.drop_succ_cons, List.drop_zero]
    with_reducible refine soup_q ?_ ?_ ?_
    · rfl
    · rfl
    with_reducible apply Exists.intro
    with_reducible refine ⟨fun W hk _ => ?_, ?_⟩
    · unfold Oper.same
      go_simp
      first | rfl | exact ⟨rfl, rfl⟩
    with_reducible apply Exists.intro
    with_reducible refine ⟨?_, ?_⟩
    · go_simp
      rfl
    with_reducible refine soup_q ?_ ?_ ?_
    · rfl
    · rfl
    with_reducible apply Exists.intro
    with_reducible refine ⟨fun W hk _ => ?_, ?_⟩
    · have c0 := (HA.out.keep hk (by simp)).c3
      unfold Oper.same
      go_simp
      first | rfl | exact ⟨rfl, rfl⟩
    with_reducible apply Exists.intro
    with_reducible refine ⟨?_, ?_⟩
    · go_simp
      rfl
    with_reducible refine soup_q ?_ ?_ ?_
    · rfl
    · rfl
    with_reducible apply Exists.intro
    with_reducible refine ⟨fun W hk _ => ?_, ?_⟩
    · unfold Oper.same
      go_simp
      first | rfl | exact ⟨rfl, rfl⟩
    with_reducible apply Exists.intro
    with_reducible refine ⟨?_, ?_⟩
    · go_simp
      rfl
    with_reducible refine soup_q ?_ ?_ ?_
    · rfl
    · rfl
    with_reducible apply Exists.intro
    with_reducible refine ⟨fun W hk _ => ?_, ?_⟩
    · exact same_load_mid 47 (.tmp 18) rfl (w.heap.size) 4 rfl ms _ (HA.out.keep hk (by simp)).ms Tryz.underlying47 rfl (szMsg HM.out.len)
    with_reducible apply Exists.intro
    with_reducible refine ⟨?_, ?_⟩
    · go_simp
      rfl
    with_reducible refine soup_q ?_ ?_ ?_
    · rfl
    · rfl
    with_reducible apply Exists.intro
    with_reducible refine ⟨fun W hk _ => ?_, ?_⟩
    · unfold Oper.same
      go_simp
      first | rfl | exact ⟨rfl, rfl⟩
    with_reducible apply Exists.intro
    with_reducible refine ⟨?_, ?_⟩
    · go_simp
      rfl
    refine soup_nil (fun W hk hS => ?_)
    have hb5 := (hk.block _ (lt_of_heap HB.out) (by simp)).trans HB.out
    obtain ⟨W5, hW5⟩ : ∃ u, W.setRow (w.heap.size + 1) ms.toArray = u := ⟨_, rfl⟩
    have hst := run_storeVar_row (P := Tryz.prog) W (w.heap.size + 1) 47 47 _ ms.toArray hb5 (szMsgA HM.out.len) (Eq.trans (show zMsg.size = 22 from rfl) (by rw [List.size_toArray, HM.out.len])) (by simpa using HM.out.one)
    rw [hW5] at hst
    have HST := Lib.hid hst
    have HSY : Hid ((Tryz.prog.info? 47).map (·.size) = some (ms.toArray : Array Value).size) := Lib.hid (szMsgA HM.out.len)
    have HF : Hid (W5.heap[w.heap.size + 1]? = some (.cells ms.toArray 47 (0, 0))) := Lib.hid (by rw [← hW5]; exact setRow_heap W (w.heap.size + 1) _ _ _ _ hb5)
    have HK5 := Lib.hid (show Keep [] w W5 from by rw [← hW5]; exact (HK.out.trans hk).setRow _ _ (.inr (by omega)))
    clear hk hS hb5 hst hW5
    go_wp2_with ((with_reducible refine wpList_store_all ?_ 47 (.tmp 5) (.tmp 19) ?_ (w.heap.size + 1) ?_ ms.toArray ?_ HST.out ?_); rfl; rfl; rfl; rfl)
    have hlv := run_loadVar_row (P := Tryz.prog) W5 (w.heap.size + 1) 47 47 _ (0, 0) _ HF.out Tryz.underlying47 rfl HSY.out
    refine bodyPost_ret (results_ms rfl _ _ W5 (w.heap.size + 1) ms.toArray (.int .i64 fr) rfl rfl hlv) rfl ?_
    rw [HRES.out]
    exact ⟨rfl, HK5.out⟩
end Go.Proofs.YteejdfpfdnkiiaaGreat
