/- The coordinator: ready. -/
import Derived.Test.YtdnfibecobodkaaGreatCcD
import Derived.Test.YtdnfibecobodkaaGreatCcE
namespace Go.Proofs.YtdnfibecobodkaaGreat
open Go.RowKit Go.Lib
open Go.ChangeMaps (setBlock)
set_option linter.unusedSimpArgs false
set_option linter.unusedVariables false
/-- A new block of k cells, whatever they hold. -/
def Spec.cellN (n : Nat) (t : TypeId) (k : Nat) : Spec := { p := fun _ v => ∃ g, v = .pointer (some ⟨g, 0, none⟩) ∧ n ≤ g, A := fun _ v w => ∃ g cs, v = .pointer (some ⟨g, 0, none⟩) ∧ n ≤ g ∧ cs.size = k ∧ w.heap[g]? = some (.cells cs t (0, 0)) }
/-- All of it is written. -/
def Spec.wrN (n : Nat) (t : TypeId) (k : Nat) : Spec := { p := fun _ v => v = undef, A := fun x _ w => ∀ g cs, x = [.pointer (some ⟨g, 0, none⟩), .agg cs] → w.heap[g]? = some (.cells cs t (0, 0)), G := fun _ W W' => ∃ g cs cs', n ≤ g ∧ W.heap[g]? = some (.cells cs t (0, 0)) ∧ cs'.size = k ∧ W' = W.setRow g cs' }
theorem setRow_ne (W : World) (g b : Nat) (cs : Array Value) (h : g ≠ b) : (W.setRow g cs).heap[b]? = W.heap[b]? := by
  unfold World.setRow
  simp only [Array.getElem?_modify]
  rw [if_neg h]
theorem spOk_call_new {i j l n k : Nat} {t : TypeId} {s : Spec} (hij : i ≠ j) (hil : i ≠ l) (hjl : j ≠ l) (hs : s.ok) (hw : ∀ x v W g cs cs', s.A x v W → W.heap[g]? = some (.cells cs t (0, 0)) → s.A x v (W.setRow g cs')) : SpOk (spOf [(i, s), (j, Spec.cellN n t k), (l, Spec.wrN n t k)]) where
  A a b u v ha hb hab := by
    have h1 := spOf_mem ha; have h2 := spOf_mem hb; simp at h1 h2
    rcases h1 with ⟨e1, rfl⟩ | ⟨e1, rfl⟩ | ⟨e1, rfl⟩ <;> rcases h2 with ⟨e2, rfl⟩ | ⟨e2, rfl⟩ | ⟨e2, rfl⟩
    · omega
    · rintro x y v w w' ⟨g, cs, h1, h2, h3, h4⟩ hk
      exact ⟨g, cs, h1, h2, h3, ((hs.none x w w' hk).block g (lt_of_heap h4) (by simp)).trans h4⟩
    · intro x y v w w' hA hk g cs hy
      have h4 := hA g cs hy
      exact ((hs.none x w w' hk).block g (lt_of_heap h4) (by simp)).trans h4
    · intro x y v w w' hA hk
      exact hs.stay y v w w' hA hk
    · omega
    · intro x y v w w' hA (hk : Keep [] w w') g cs hy
      have h4 := hA g cs hy
      exact (hk.block g (lt_of_heap h4) (by simp)).trans h4
    · rintro x y v w w' hA ⟨g, cs, cs', h1, h2, h3, rfl⟩
      exact hw y v w g cs cs' hA h2
    · rintro x y v w w' ⟨g', cs0, q1, q2, q3, q4⟩ ⟨g, cs, cs', h1, h2, h3, rfl⟩
      by_cases e : g = g'
      · subst e
        exact ⟨g, cs', q1, q2, h3, setRow_heap w g _ _ _ _ h2⟩
      · exact ⟨g', cs0, q1, q2, q3, (setRow_ne w g g' cs' e).trans q4⟩
    · omega
  B a b u v ha hb hab := by
    have h2 := spOf_mem hb; simp at h2
    rcases h2 with ⟨e2, rfl⟩ | ⟨e2, rfl⟩ | ⟨e2, rfl⟩
    · intro x w w' _ _; exact hs.pre w'
    · intro x w w' _ _; trivial
    · intro x w w' _ _; trivial
  some a u x ha := by
    have h1 := spOf_mem ha; simp at h1
    rcases h1 with ⟨_, rfl⟩ | ⟨_, rfl⟩ | ⟨_, rfl⟩
    · exact hs.some x
    · exact ⟨_, n, rfl, Nat.le_refl _⟩
    · exact ⟨_, rfl⟩
theorem pre_call_new {i j l n k : Nat} {t : TypeId} {s : Spec} {w : World} (hs : s.ok) : ∀ a u, spOf [(i, s), (j, Spec.cellN n t k), (l, Spec.wrN n t k)] a = some u → u.B w := by
  intro a u ha
  have h1 := spOf_mem ha; simp at h1
  rcases h1 with ⟨_, rfl⟩ | ⟨_, rfl⟩ | ⟨_, rfl⟩
  · exact hs.pre w
  · trivial
  · trivial
theorem does_store {o : Oper} {a : Act} {W W' : World} {post : Value → World → Prop} (ty : TypeId) (x y : Operand) (ho : o.op = .store ty x y) {g : Nat} (hx : a.eval x = .pointer (some ⟨g, 0, none⟩)) {cs : Array Value} (hy : a.eval y = .agg cs) (hs : (storeVar ty ⟨g, 0, none⟩ (.agg cs)).run Tryz.prog W = .ok () W') (h : post undef W') : Oper.does Tryz.prog o a W post := by
  unfold Oper.does execOp
  simp only [ho, hx, hy, Instr.storeAt, Instr.sureAddr, Sem.run_bind, Sem.run_pure, Result.andThen_ok, hs]
  exact h
/-- A table that a call hands back, and its error. -/
def Spec.tab (n : Nat) (ep nd : Int) (own : List Int) (e : Int) : Spec := { p := fun _ v => ∃ a c, v = .tuple #[.agg #[.int .i64 ep, .int .i64 nd, .slice a own.length c], .int .i64 e], A := fun _ v w => ∃ a c, v = .tuple #[.agg #[.int .i64 ep, .int .i64 nd, .slice a own.length c], .int .i64 e] ∧ IRow n w (.slice a own.length c) own }
theorem Spec.tab_ok (n : Nat) (ep nd : Int) (own : List Int) (e : Int) : (Spec.tab n ep nd own e).ok :=
  ⟨fun x v w w' ⟨a, c, h1, h2⟩ hk => ⟨a, c, h1, h2.keep hk (by simp)⟩, fun _ _ _ h => h, fun _ => trivial, fun _ => ⟨_, none, 0, rfl⟩⟩
theorem IRow.row {base : Nat} {W : World} {v : Value} {l : List Int} {g : Nat} {cs cs' : Array Value} {t : TypeId} (h : IRow base W v l) (hg : W.heap[g]? = some (.cells cs t (0, 0))) (ht : 3 ≠ t) : IRow base (W.setRow g cs') v l :=
  h.keep ((Keep.refl [g] W).setRow g cs' (.inl (by simp))) (fun b hb => by have := own_ne_obj h hg ht b hb; simpa using this)
/-- A coordinator and its blocks. -/
def CoS (W : World) (p : Nat) (F : List Nat) (c : Cd) : Prop := ∃ oa oc bp om ab, CoAt W p oa oc bp om ab c ∧ F = cfoot p oa oc c.own.length bp om ab
/-- What a call leaves: the coordinator, its old blocks and new ones. -/
def CoN (w : World) (p : Nat) (F : List Nat) (w' : World) (c : Cd) : Prop := ∃ F', CoS w' p F' c ∧ Keep F w w' ∧ CoUp w F F'
theorem CoN.of {w w' : World} {p : Nat} {oa oa' : Option Addr} {oc oc' bp : Nat} {om om' : Option Nat} {ab n : Nat} {c : Cd} (h : CoAt w' p oa' oc' bp om' ab c) (hk : Keep (cfoot p oa oc n bp om ab) w w') (ha : ∀ b, oa' = some b → oa = some b ∨ w.heap.size ≤ b.block) (hm : ∀ b, om' = some b → om = some b ∨ w.heap.size ≤ b) : CoN w p (cfoot p oa oc n bp om ab) w' c := by
  refine ⟨_, ⟨_, _, _, _, _, h, rfl⟩, hk, fun x hx => ?_⟩
  simp only [cfoot, List.mem_cons, List.mem_append] at hx ⊢
  rcases hx with e | e | e | e | e
  · exact .inl (.inl e)
  · exact .inl (.inr (.inl e))
  · exact .inl (.inr (.inr (.inl e)))
  · rcases hm x (by simpa using e) with e2 | e2
    · exact .inl (.inr (.inr (.inr (.inl (by simp [e2])))))
    · exact .inr e2
  · cases oa' with
    | none => simp [Value.ownBlock] at e
    | some b =>
      have hb : x = b.block := by simpa [Value.ownBlock] using e
      rcases ha b rfl with e2 | e2
      · exact .inl (.inr (.inr (.inr (.inr (by rw [e2]; simp [Value.ownBlock, hb])))))
      · exact .inr (by rw [hb]; exact e2)
/-- What ready makes of a coordinator. -/
def coReady (c : Cd) (x : En) (code : Int) : Cd :=
  if code = 1 ∧ (mvF (c.tb none 0) x.part x.to).2.2.2 = 0 then { c with ep := (mvF (c.tb none 0) x.part x.to).1, nd := (mvF (c.tb none 0) x.part x.to).2.1, own := (mvF (c.tb none 0) x.part x.to).2.2.1, at_ := put x.mv ⟨2, 0⟩ c.at_ }
  else { c with at_ := put x.mv ⟨3, 0⟩ c.at_ }
set_option maxRecDepth 100000 in
set_option maxHeartbeats 4000000 in
theorem cready_any {w : World} {p : Nat} {oa : Option Addr} {oc bp : Nat} {om : Option Nat} {ab : Nat} {c : Cd} (h : CoAt w p oa oc bp om ab c) (hn2 : (c.at_.map (·.1)).Nodup) (x : En) (code : Int) : Calls Tryz.prog 41 #[.pointer (some ⟨p, 0, none⟩), x.val, .int .i64 code] w fun e w' => e = .returned (.tuple #[]) ∧ CoN w p (cfoot p oa oc c.own.length bp om ab) w' (coReady c x code) := by
  obtain ⟨x1, x2, x3, x4⟩ := x
  unfold En.val
  obtain ⟨w1, hw1⟩ : ∃ u, w.alloc (.cells #[.int .i64 x1, .int .i64 x2, .int .i64 x3, .int .i64 x4] 85) = u := ⟨_, rfl⟩
  have k1 : Keep [] w w1 := by rw [← hw1]; exact (Keep.refl _ _).alloc _
  have he : EnAt w1 w.heap.size ⟨x1, x2, x3, x4⟩ := by rw [← hw1]; exact World.alloc_heap_new w _
  have hc1 := h.kept k1
  have HE := Lib.hid he
  have HC := Lib.hid hc1
  have HK1 := Lib.hid k1
  have hpl := lt_of_heap hc1.blk
  have hp0 := lt_of_heap h.blk
  have hel := lt_of_heap he
  obtain ⟨ep', nd', own', e0, hm⟩ : ∃ ep' nd' own' e0, mvF (c.tb none 0) x2 x4 = (ep', nd', own', e0) := ⟨_, _, _, _, rfl⟩
  have hco : coReady c ⟨x1, x2, x3, x4⟩ code = if code = 1 ∧ e0 = 0 then { c with ep := ep', nd := nd', own := own', at_ := put x1 ⟨2, 0⟩ c.at_ } else { c with at_ := put x1 ⟨3, 0⟩ c.at_ } := by unfold coReady; rw [hm]
  have hmv := fun (W : World) (hi : IntsAt W oa c.own) => tmove_any (w := W) (c.tb oa oc) hi x2 x4
  rw [show mvF (c.tb oa oc) x2 x4 = mvF (c.tb none 0) x2 x4 from rfl, hm] at hmv
  unfold Cd.tb Tb.val at hmv
  simp only at hmv
  have HMV := Lib.hid hmv
  have HCO := Lib.hid hco
  clear h k1 he hc1 hm hco hmv
  by_cases h1 : code = 1
  · subst h1
    go_enter Tryz.func41, Tryz.ntmps41
    go_wp2_with (fail)
    refine wp_region_soup 14 [] (spOf [(8, Spec.tab w1.heap.size ep' nd' own' e0), (12, Spec.cellN w1.heap.size 28 3), (13, Spec.wrN w1.heap.size 28 3)]) (by kernel_rfl) (by kernel_rfl) (spOk_call_new (by decide) (by decide) (by decide) (Spec.tab_ok _ _ _ _ _) (fun x v W g cs cs' ⟨a, d, q1, q2⟩ hg => ⟨a, d, q1, q2.row hg (by decide)⟩)) (pre_call_new (Spec.tab_ok _ _ _ _ _)) ?_
    simp only [List.take_succ_cons, List.take_zero, List.drop_succ_cons, List.drop_zero]
    with_reducible refine soup_q ?_ ?_ ?_
    · rfl
    · rfl
    with_reducible apply Exists.intro
    with_reducible refine ⟨fun W hk _ => ?_, ?_⟩
    · unfold Oper.same
      go_simp
      first | rfl | exact ⟨rfl, rfl⟩
    with_reducible apply Exists.intro
    with_reducible refine ⟨?_, ?_⟩
    · go_simp
      rfl
    with_reducible refine soup_q ?_ ?_ ?_
    · rfl
    · rfl
    with_reducible apply Exists.intro
    with_reducible refine ⟨fun W hk _ => ?_, ?_⟩
    · unfold Oper.same
      go_simp
      first | rfl | exact ⟨rfl, rfl⟩
    with_reducible apply Exists.intro
    with_reducible refine ⟨?_, ?_⟩
    · go_simp
      rfl
    with_reducible refine soup_q ?_ ?_ ?_
    · rfl
    · rfl
    with_reducible apply Exists.intro
    with_reducible refine ⟨fun W hk _ => ?_, ?_⟩
    · unfold Oper.same
      go_simp
      first | rfl | exact ⟨rfl, rfl⟩
    with_reducible apply Exists.intro
    with_reducible refine ⟨?_, ?_⟩
    · go_simp
      rfl
    with_reducible refine soup_q ?_ ?_ ?_
    · rfl
    · rfl
    with_reducible apply Exists.intro
    with_reducible refine ⟨fun W hk _ => ?_, ?_⟩
    · have c0 := (HC.out.kept hk).facts.1
      have c1 := (HC.out.kept hk).facts.2.1
      have c2 := (HC.out.kept hk).facts.2.2.1
      unfold Oper.same
      go_simp
      first | rfl | exact ⟨rfl, rfl⟩
    with_reducible apply Exists.intro
    with_reducible refine ⟨?_, ?_⟩
    · go_simp
      rfl
    with_reducible refine soup_q ?_ ?_ ?_
    · rfl
    · rfl
    with_reducible apply Exists.intro
    with_reducible refine ⟨fun W hk _ => ?_, ?_⟩
    · unfold Oper.same
      go_simp
      first | rfl | exact ⟨rfl, rfl⟩
    with_reducible apply Exists.intro
    with_reducible refine ⟨?_, ?_⟩
    · go_simp
      rfl
    with_reducible refine soup_q ?_ ?_ ?_
    · rfl
    · rfl
    with_reducible apply Exists.intro
    with_reducible refine ⟨fun W hk _ => ?_, ?_⟩
    · have c0 := (HE.out.keep hk (by simp)).facts.2.1
      unfold Oper.same
      go_simp
      first | rfl | exact ⟨rfl, rfl⟩
    with_reducible apply Exists.intro
    with_reducible refine ⟨?_, ?_⟩
    · go_simp
      rfl
    with_reducible refine soup_q ?_ ?_ ?_
    · rfl
    · rfl
    with_reducible apply Exists.intro
    with_reducible refine ⟨fun W hk _ => ?_, ?_⟩
    · unfold Oper.same
      go_simp
      first | rfl | exact ⟨rfl, rfl⟩
    with_reducible apply Exists.intro
    with_reducible refine ⟨?_, ?_⟩
    · go_simp
      rfl
    with_reducible refine soup_q ?_ ?_ ?_
    · rfl
    · rfl
    with_reducible apply Exists.intro
    with_reducible refine ⟨fun W hk _ => ?_, ?_⟩
    · have c0 := (HE.out.keep hk (by simp)).facts.2.2.2.1
      unfold Oper.same
      go_simp
      first | rfl | exact ⟨rfl, rfl⟩
    with_reducible apply Exists.intro
    with_reducible refine ⟨?_, ?_⟩
    · go_simp
      rfl
    refine soup_s rfl rfl rfl (fun W hk hB _ => ?_) ?_
    · unfold Oper.does
      go_simp
      refine (HMV.out W (HC.out.kept hk).ints).mono ?_
      rintro e w' ⟨a, d, rfl, h1, h2⟩
      exact ⟨_, rfl, h2, hk.trans h2, ⟨a, d, rfl⟩, a, d, rfl, own_low h1 hk.size⟩
    rintro v ⟨a, d, rfl⟩
    with_reducible apply Exists.intro
    with_reducible refine ⟨?_, ?_⟩
    · go_simp
      rfl
    with_reducible refine soup_q ?_ ?_ ?_
    · rfl
    · rfl
    with_reducible apply Exists.intro
    with_reducible refine ⟨fun W hk _ => ?_, ?_⟩
    · unfold Oper.same
      go_simp
      first | rfl | exact ⟨rfl, rfl⟩
    with_reducible apply Exists.intro
    with_reducible refine ⟨?_, ?_⟩
    · go_simp
      rfl
    with_reducible refine soup_q ?_ ?_ ?_
    · rfl
    · rfl
    with_reducible apply Exists.intro
    with_reducible refine ⟨fun W hk _ => ?_, ?_⟩
    · unfold Oper.same
      go_simp
      first | rfl | exact ⟨rfl, rfl⟩
    with_reducible apply Exists.intro
    with_reducible refine ⟨?_, ?_⟩
    · go_simp
      rfl
    with_reducible refine soup_q ?_ ?_ ?_
    · rfl
    · rfl
    with_reducible apply Exists.intro
    with_reducible refine ⟨fun W hk _ => ?_, ?_⟩
    · unfold Oper.same
      go_simp
      first | rfl | exact ⟨rfl, rfl⟩
    with_reducible apply Exists.intro
    with_reducible refine ⟨?_, ?_⟩
    · go_simp
      rfl
    refine soup_s rfl rfl rfl (fun W hk _ _ => ?_) ?_
    · unfold Oper.does
      go_simp
      exact ⟨(Keep.refl _ _).alloc _, hk.alloc _, ⟨_, rfl, hk.size⟩, _, _, rfl, hk.size, rfl, World.alloc_heap_new W _⟩
    rintro v ⟨g, rfl, hg⟩
    with_reducible apply Exists.intro
    with_reducible refine ⟨?_, ?_⟩
    · go_simp
      rfl
    refine soup_s rfl rfl rfl (fun W hk _ hd => ?_) ?_
    · obtain ⟨g', cs0, e1, e2, e3, e4⟩ := hd 12 (Dep.of 3 (by kernel_rfl))
      obtain rfl : g = g' := by simpa using e1
      have hst := run_storeVar_row (P := Tryz.prog) W g 28 28 cs0 #[.int .i64 ep', .int .i64 nd', .slice a own'.length d] e4 (by kernel_rfl) e3 (by simp [Value.oneCell'])
      refine does_store _ (.tmp 7) (.tmp 21) rfl rfl rfl hst ⟨⟨g, cs0, _, e2, e4, rfl, rfl⟩, hk.setRow _ _ (.inr e2), rfl, fun g' cs' e => ?_⟩
      have e5 : [Value.pointer (some ⟨g, 0, none⟩), Value.agg #[.int .i64 ep', .int .i64 nd', .slice a own'.length d]] = [Value.pointer (some ⟨g', 0, none⟩), Value.agg cs'] := e
      simp only [List.cons.injEq, Value.pointer.injEq, Option.some.injEq, Addr.mk.injEq, Value.agg.injEq, and_true] at e5
      obtain ⟨rfl, rfl⟩ := e5
      exact setRow_heap W g _ _ _ _ e4
    rintro v rfl
    with_reducible apply Exists.intro
    with_reducible refine ⟨?_, ?_⟩
    · go_simp
      rfl
    refine soup_nil (fun W hk hS => ?_)
    have ht := hS 13 g _ rfl
    obtain ⟨a2, d2, q1, hrow⟩ := hS 8
    simp only [Value.tuple.injEq, Array.mk.injEq, List.cons.injEq, Value.agg.injEq, Value.slice.injEq, true_and, and_true] at q1
    obtain ⟨rfl, rfl⟩ := q1
    have hc2 := HC.out.kept hk
    have he2 := HE.out.keep hk (by simp)
    obtain ⟨c0, c1, c2, c3, c4, c5, c6, c7⟩ := hc2.facts
    obtain ⟨t0, t1, t2, t3⟩ := TbFacts ht
    have HC := Lib.hid hc2
    have HE := Lib.hid he2
    have HK2 := Lib.hid (HK1.out.trans hk)
    have HROW := Lib.hid hrow
    have hgp : p < W.heap.size := lt_of_heap hc2.blk
    have hgl := HK1.out.size
    clear hk hS hc2 he2 hrow ht
    by_cases he0 : e0 = 0
    · have hres : coReady c ⟨x1, x2, x3, x4⟩ 1 = { c with ep := ep', nd := nd', own := own', at_ := put x1 ⟨2, 0⟩ c.at_ } := by rw [HCO.out, if_pos (by simp [he0])]
      have HRES := Lib.hid hres
      subst he0
      clear hres
      go_wp2_with (fail)
      obtain ⟨W2, hW2⟩ : ∃ u, ((W.setCell ⟨p, 0, none⟩ (.int .i64 ep')).setCell ⟨p, 1, none⟩ (.int .i64 nd')).setCell ⟨p, 2, none⟩ (.slice a own'.length d) = u := ⟨_, rfl⟩
      have hks : Keep [p] W W2 := by rw [← hW2]; exact (((Keep.refl _ _).setCell _ _ _ (.inl (by simp))).setCell _ _ _ (.inl (by simp))).setCell _ _ _ (.inl (by simp))
      have hap := HC.out.ap
      have hrl := own_base HROW.out
      have hco2 : CoAt W2 p a d bp om ab { c with ep := ep', nd := nd', own := own' } := by
        refine ⟨?_, IRow.keep (own_low HROW.out (Nat.zero_le _)) hks (fun b hb => by have := hrl b hb; have := hpl; simp; omega), HC.out.book.keep hks (fun b hb => ?_), HC.out.map.keep hks (by have := hap.p_ab.symm; simpa using this), HC.out.ne⟩
        · have h := HC.out.blk
          rw [← hW2]
          simp [World.setCell, Array.getElem?_modify, h]
        · simp only [foot, List.mem_cons] at hb
          rcases hb with rfl | hb
          · have := hap.p_bp.symm; simpa using this
          · have := (hap.p_om b (by simpa using hb)).symm; simpa using this
      rw [hW2]
      have he3 := HE.out.keep hks (by simp; omega)
      have hoa : ∀ b, a = some b → oa = some b ∨ w.heap.size ≤ b.block := fun b hb => .inr (by have := hrl b.block (by rw [hb]; rfl); omega)
      have HC := Lib.hid hco2
      have HE := Lib.hid he3
      have HK3 := Lib.hid ((HK2.out.mono (Y := [p]) (by simp)).trans hks)
      have hpl2 := lt_of_heap hco2.blk
      have HOA := Lib.hid hoa
      have hel2 := lt_of_heap he3
      clear hco2 he3 hks hW2 c0 c1 c2 c3 c4 c5 c6 c7 t0 t1 t2 t3
      go_wp2_with (fail)
      refine wp_region_soup 8 [] (fun _ => none) (by kernel_rfl) (by kernel_rfl) (spOk_of (l := []) (by simp)) (pre_of (l := []) (by simp)) ?_
      simp only [List.take_succ_cons, List.take_zero, List.drop_succ_cons, List.drop_zero]
      with_reducible refine soup_q ?_ ?_ ?_
      · rfl
      · rfl
      with_reducible apply Exists.intro
      with_reducible refine ⟨fun W hk _ => ?_, ?_⟩
      · unfold Oper.same
        go_simp
        first | rfl | exact ⟨rfl, rfl⟩
      with_reducible apply Exists.intro
      with_reducible refine ⟨?_, ?_⟩
      · go_simp
        rfl
      with_reducible refine soup_q ?_ ?_ ?_
      · rfl
      · rfl
      with_reducible apply Exists.intro
      with_reducible refine ⟨fun W hk _ => ?_, ?_⟩
      · unfold Oper.same
        go_simp
        first | rfl | exact ⟨rfl, rfl⟩
      with_reducible apply Exists.intro
      with_reducible refine ⟨?_, ?_⟩
      · go_simp
        rfl
      with_reducible refine soup_q ?_ ?_ ?_
      · rfl
      · rfl
      with_reducible apply Exists.intro
      with_reducible refine ⟨fun W hk _ => ?_, ?_⟩
      · unfold Oper.same
        go_simp
        first | rfl | exact ⟨rfl, rfl⟩
      with_reducible apply Exists.intro
      with_reducible refine ⟨?_, ?_⟩
      · go_simp
        rfl
      with_reducible refine soup_q ?_ ?_ ?_
      · rfl
      · rfl
      with_reducible apply Exists.intro
      with_reducible refine ⟨fun W hk _ => ?_, ?_⟩
      · have c0 := (HC.out.kept hk).facts.2.2.2.2.1
        unfold Oper.same
        go_simp
        first | rfl | exact ⟨rfl, rfl⟩
      with_reducible apply Exists.intro
      with_reducible refine ⟨?_, ?_⟩
      · go_simp
        rfl
      with_reducible refine soup_q ?_ ?_ ?_
      · rfl
      · rfl
      with_reducible apply Exists.intro
      with_reducible refine ⟨fun W hk _ => ?_, ?_⟩
      · unfold Oper.same
        go_simp
        first | rfl | exact ⟨rfl, rfl⟩
      with_reducible apply Exists.intro
      with_reducible refine ⟨?_, ?_⟩
      · go_simp
        rfl
      with_reducible refine soup_q ?_ ?_ ?_
      · rfl
      · rfl
      with_reducible apply Exists.intro
      with_reducible refine ⟨fun W hk _ => ?_, ?_⟩
      · have c0 := (HE.out.keep hk (by simp)).facts.1
        unfold Oper.same
        go_simp
        first | rfl | exact ⟨rfl, rfl⟩
      with_reducible apply Exists.intro
      with_reducible refine ⟨?_, ?_⟩
      · go_simp
        rfl
      with_reducible refine soup_q ?_ ?_ ?_
      · rfl
      · rfl
      with_reducible apply Exists.intro
      with_reducible refine ⟨fun W hk _ => ?_, ?_⟩
      · unfold Oper.same
        go_simp
        first | rfl | exact ⟨rfl, rfl⟩
      with_reducible apply Exists.intro
      with_reducible refine ⟨?_, ?_⟩
      · go_simp
        rfl
      with_reducible refine soup_q ?_ ?_ ?_
      · rfl
      · rfl
      with_reducible apply Exists.intro
      with_reducible refine ⟨fun W hk _ => ?_, ?_⟩
      · unfold Oper.same
        go_simp
        first | rfl | exact ⟨rfl, rfl⟩
      with_reducible apply Exists.intro
      with_reducible refine ⟨?_, ?_⟩
      · go_simp
        rfl
      refine soup_nil (fun W hk hS => ?_)
      obtain ⟨o, hup, hmp2⟩ := upSt (HC.out.map.keep hk (by simp)) hn2 x1 2 0 0 rfl
      have HMP := Lib.hid hmp2
      have HC4 := Lib.hid (HC.out.kept hk)
      have HK4 := Lib.hid ((HK3.out.step hk (by simp)))
      clear hk hS hmp2
      go_wp2_with (fail)
      go_end0
      have hat := HC4.out.setAt (W' := setBlock W ab o) ((Keep.refl _ _).setBlock _ _ (.inl (by simp))) HMP.out
      refine ⟨rfl, CoN.of (by rw [HRES.out]; exact hat) ((HK4.out.mono (fun y hy => .inl (by have h : y = p := (by simpa using hy); simp [cfoot, h]))).setBlock _ _ (.inl (by simp [cfoot]))) HOA.out (fun b hb => .inl hb)⟩
    · have hres : coReady c ⟨x1, x2, x3, x4⟩ 1 = { c with at_ := put x1 ⟨3, 0⟩ c.at_ } := by rw [HCO.out, if_neg (by simp [he0])]
      have HRES := Lib.hid hres
      have hne : ((e0 : Int) == 0) = false := by simpa using he0
      have hpl2 := lt_of_heap HC.out.blk
      have hel2 := lt_of_heap HE.out
      clear hres he0 c0 c1 c2 c3 c4 c5 c6 c7 t0 t1 t2 t3
      go_wp2_with (fail)
      refine wp_region_soup 8 [] (fun _ => none) (by kernel_rfl) (by kernel_rfl) (spOk_of (l := []) (by simp)) (pre_of (l := []) (by simp)) ?_
      simp only [List.take_succ_cons, List.take_zero, List.drop_succ_cons, List.drop_zero]
      with_reducible refine soup_q ?_ ?_ ?_
      · rfl
      · rfl
      with_reducible apply Exists.intro
      with_reducible refine ⟨fun W hk _ => ?_, ?_⟩
      · unfold Oper.same
        go_simp
        first | rfl | exact ⟨rfl, rfl⟩
      with_reducible apply Exists.intro
      with_reducible refine ⟨?_, ?_⟩
      · go_simp
        rfl
      with_reducible refine soup_q ?_ ?_ ?_
      · rfl
      · rfl
      with_reducible apply Exists.intro
      with_reducible refine ⟨fun W hk _ => ?_, ?_⟩
      · unfold Oper.same
        go_simp
        first | rfl | exact ⟨rfl, rfl⟩
      with_reducible apply Exists.intro
      with_reducible refine ⟨?_, ?_⟩
      · go_simp
        rfl
      with_reducible refine soup_q ?_ ?_ ?_
      · rfl
      · rfl
      with_reducible apply Exists.intro
      with_reducible refine ⟨fun W hk _ => ?_, ?_⟩
      · unfold Oper.same
        go_simp
        first | rfl | exact ⟨rfl, rfl⟩
      with_reducible apply Exists.intro
      with_reducible refine ⟨?_, ?_⟩
      · go_simp
        rfl
      with_reducible refine soup_q ?_ ?_ ?_
      · rfl
      · rfl
      with_reducible apply Exists.intro
      with_reducible refine ⟨fun W hk _ => ?_, ?_⟩
      · have c0 := (HC.out.kept hk).facts.2.2.2.2.1
        unfold Oper.same
        go_simp
        first | rfl | exact ⟨rfl, rfl⟩
      with_reducible apply Exists.intro
      with_reducible refine ⟨?_, ?_⟩
      · go_simp
        rfl
      with_reducible refine soup_q ?_ ?_ ?_
      · rfl
      · rfl
      with_reducible apply Exists.intro
      with_reducible refine ⟨fun W hk _ => ?_, ?_⟩
      · unfold Oper.same
        go_simp
        first | rfl | exact ⟨rfl, rfl⟩
      with_reducible apply Exists.intro
      with_reducible refine ⟨?_, ?_⟩
      · go_simp
        rfl
      with_reducible refine soup_q ?_ ?_ ?_
      · rfl
      · rfl
      with_reducible apply Exists.intro
      with_reducible refine ⟨fun W hk _ => ?_, ?_⟩
      · have c0 := (HE.out.keep hk (by simp)).facts.1
        unfold Oper.same
        go_simp
        first | rfl | exact ⟨rfl, rfl⟩
      with_reducible apply Exists.intro
      with_reducible refine ⟨?_, ?_⟩
      · go_simp
        rfl
      with_reducible refine soup_q ?_ ?_ ?_
      · rfl
      · rfl
      with_reducible apply Exists.intro
      with_reducible refine ⟨fun W hk _ => ?_, ?_⟩
      · unfold Oper.same
        go_simp
        first | rfl | exact ⟨rfl, rfl⟩
      with_reducible apply Exists.intro
      with_reducible refine ⟨?_, ?_⟩
      · go_simp
        rfl
      with_reducible refine soup_q ?_ ?_ ?_
      · rfl
      · rfl
      with_reducible apply Exists.intro
      with_reducible refine ⟨fun W hk _ => ?_, ?_⟩
      · unfold Oper.same
        go_simp
        first | rfl | exact ⟨rfl, rfl⟩
      with_reducible apply Exists.intro
      with_reducible refine ⟨?_, ?_⟩
      · go_simp
        rfl
      refine soup_nil (fun W hk hS => ?_)
      obtain ⟨o, hup, hmp2⟩ := upSt (HC.out.map.keep hk (by simp)) hn2 x1 3 0 0 rfl
      have HMP := Lib.hid hmp2
      have HC4 := Lib.hid (HC.out.kept hk)
      have HK4 := Lib.hid ((HK2.out.trans hk))
      clear hk hS hmp2
      go_wp2_with (fail)
      go_end0
      have hat := HC4.out.setAt (W' := setBlock W ab o) ((Keep.refl _ _).setBlock _ _ (.inl (by simp))) HMP.out
      refine ⟨rfl, CoN.of (by rw [HRES.out]; exact hat) ((HK4.out.mono (by simp)).setBlock _ _ (.inl (by simp [cfoot]))) (fun b hb => .inl hb) (fun b hb => .inl hb)⟩
  · have hres : coReady c ⟨x1, x2, x3, x4⟩ code = { c with at_ := put x1 ⟨3, 0⟩ c.at_ } := by rw [HCO.out, if_neg (by simp [h1])]
    have HRES := Lib.hid hres
    have hne : ((code : Int) == 1) = false := by simpa using h1
    have hpl2 := hpl
    have hel2 := hel
    clear hres h1
    go_enter Tryz.func41, Tryz.ntmps41
    go_wp2_with (fail)
    refine wp_region_soup 8 [] (fun _ => none) (by kernel_rfl) (by kernel_rfl) (spOk_of (l := []) (by simp)) (pre_of (l := []) (by simp)) ?_
    simp only [List.take_succ_cons, List.take_zero, List.drop_succ_cons, List.drop_zero]
    with_reducible refine soup_q ?_ ?_ ?_
    · rfl
    · rfl
    with_reducible apply Exists.intro
    with_reducible refine ⟨fun W hk _ => ?_, ?_⟩
    · unfold Oper.same
      go_simp
      first | rfl | exact ⟨rfl, rfl⟩
    with_reducible apply Exists.intro
    with_reducible refine ⟨?_, ?_⟩
    · go_simp
      rfl
    with_reducible refine soup_q ?_ ?_ ?_
    · rfl
    · rfl
    with_reducible apply Exists.intro
    with_reducible refine ⟨fun W hk _ => ?_, ?_⟩
    · unfold Oper.same
      go_simp
      first | rfl | exact ⟨rfl, rfl⟩
    with_reducible apply Exists.intro
    with_reducible refine ⟨?_, ?_⟩
    · go_simp
      rfl
    with_reducible refine soup_q ?_ ?_ ?_
    · rfl
    · rfl
    with_reducible apply Exists.intro
    with_reducible refine ⟨fun W hk _ => ?_, ?_⟩
    · unfold Oper.same
      go_simp
      first | rfl | exact ⟨rfl, rfl⟩
    with_reducible apply Exists.intro
    with_reducible refine ⟨?_, ?_⟩
    · go_simp
      rfl
    with_reducible refine soup_q ?_ ?_ ?_
    · rfl
    · rfl
    with_reducible apply Exists.intro
    with_reducible refine ⟨fun W hk _ => ?_, ?_⟩
    · have c0 := (HC.out.kept hk).facts.2.2.2.2.1
      unfold Oper.same
      go_simp
      first | rfl | exact ⟨rfl, rfl⟩
    with_reducible apply Exists.intro
    with_reducible refine ⟨?_, ?_⟩
    · go_simp
      rfl
    with_reducible refine soup_q ?_ ?_ ?_
    · rfl
    · rfl
    with_reducible apply Exists.intro
    with_reducible refine ⟨fun W hk _ => ?_, ?_⟩
    · unfold Oper.same
      go_simp
      first | rfl | exact ⟨rfl, rfl⟩
    with_reducible apply Exists.intro
    with_reducible refine ⟨?_, ?_⟩
    · go_simp
      rfl
    with_reducible refine soup_q ?_ ?_ ?_
    · rfl
    · rfl
    with_reducible apply Exists.intro
    with_reducible refine ⟨fun W hk _ => ?_, ?_⟩
    · have c0 := (HE.out.keep hk (by simp)).facts.1
      unfold Oper.same
      go_simp
      first | rfl | exact ⟨rfl, rfl⟩
    with_reducible apply Exists.intro
    with_reducible refine ⟨?_, ?_⟩
    · go_simp
      rfl
    with_reducible refine soup_q ?_ ?_ ?_
    · rfl
    · rfl
    with_reducible apply Exists.intro
    with_reducible refine ⟨fun W hk _ => ?_, ?_⟩
    · unfold Oper.same
      go_simp
      first | rfl | exact ⟨rfl, rfl⟩
    with_reducible apply Exists.intro
    with_reducible refine ⟨?_, ?_⟩
    · go_simp
      rfl
    with_reducible refine soup_q ?_ ?_ ?_
    · rfl
    · rfl
    with_reducible apply Exists.intro
    with_reducible refine ⟨fun W hk _ => ?_, ?_⟩
    · unfold Oper.same
      go_simp
      first | rfl | exact ⟨rfl, rfl⟩
    with_reducible apply Exists.intro
    with_reducible refine ⟨?_, ?_⟩
    · go_simp
      rfl
    refine soup_nil (fun W hk hS => ?_)
    obtain ⟨o, hup, hmp2⟩ := upSt (HC.out.map.keep hk (by simp)) hn2 x1 3 0 0 rfl
    have HMP := Lib.hid hmp2
    have HC4 := Lib.hid (HC.out.kept hk)
    have HK4 := Lib.hid ((HK1.out.trans hk))
    clear hk hS hmp2
    go_wp2_with (fail)
    go_end0
    have hat := HC4.out.setAt (W' := setBlock W ab o) ((Keep.refl _ _).setBlock _ _ (.inl (by simp))) HMP.out
    refine ⟨rfl, CoN.of (by rw [HRES.out]; exact hat) ((HK4.out.mono (by simp)).setBlock _ _ (.inl (by simp [cfoot]))) (fun b hb => .inl hb) (fun b hb => .inl hb)⟩
end Go.Proofs.YtdnfibecobodkaaGreat
