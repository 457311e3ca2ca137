/- The coordinator: Order. -/
import Derived.Test.YtdnfibecobodkaaGreatCcB
namespace Go.Proofs.YtdnfibecobodkaaGreat
open Go.RowKit Go.Lib
open Go.ChangeMaps (setBlock)
set_option linter.unusedSimpArgs false
set_option linter.unusedVariables false
/-- What Order comes to. -/
def coOrd (c : Cd) (part to : Int) : Int × Int × Cd :=
  let r := ordF (c.tb none 0) part to c.m c.last
  (r.1, r.2.1, { c with m := r.2.2.1, last := r.2.2.2, at_ := if r.2.1 = 0 then put r.1 ⟨1, 0⟩ c.at_ else c.at_ })
def Spec.ord (bp : Nat) (om : Option Nat) (m : List (Int × En)) (last : Int) (n e : Int) (m' : List (Int × En)) (last' : Int) (w0 : World) : Spec :=
  { p := fun _ v => v = .tuple #[.int .i64 n, .int .i64 e], A := fun _ _ w => ∃ om', BookAt w bp om' m' last' ∧ (om' = om ∨ om = none ∧ ∃ b, om' = some b ∧ w0.heap.size ≤ b), B := fun w => BookAt w bp om m last ∧ w0.heap.size ≤ w.heap.size, G := fun _ => Keep (foot bp om) }
theorem CoAt.off {X : List Nat} {W W' : World} {p : Nat} {oa : Option Addr} {oc bp : Nat} {om : Option Nat} {ab : Nat} {c : Cd} (h : CoAt W p oa oc bp om ab c) (hk : Keep X W W') (hx : p ∉ X) :
    W'.cell? ⟨p, 0, none⟩ = some (.int .i64 c.ep) ∧ W'.cell? ⟨p, 1, none⟩ = some (.int .i64 c.nd) ∧ W'.cell? ⟨p, 2, none⟩ = some (.slice oa c.own.length oc) ∧ W'.cell? ⟨p, 3, none⟩ = some (.pointer (some ⟨bp, 0, none⟩)) ∧ W'.cell? ⟨p, 4, none⟩ = some (.map (some ab)) ∧ W'.cell? ⟨p, 5, none⟩ = some (.int .i64 c.com) ∧ W'.cell? ⟨p, 6, none⟩ = some (.int .i64 c.abo) ∧ (∀ o, W'.frozen? ⟨p, o, none⟩ = false) := by
  have hb := (hk.block p (lt_of_heap h.blk) hx).trans h.blk
  refine ⟨?_, ?_, ?_, ?_, ?_, ?_, ?_, fun o => ?_⟩
  all_goals first | (unfold World.cell?; rw [hb]; rfl) | (unfold World.frozen?; rw [hb]; simp)
theorem obj_map_ne {W : World} {g b : Nat} {t : TypeId} {cs : Array Value} {f : Nat × Nat} {es : Array MapEntry} {ck : Nat} (h : W.heap[g]? = some (.cells cs t f)) (hm : W.heap[b]? = some (.map es ck)) : g ≠ b := by
  rintro rfl
  rw [h] at hm
  cases hm
theorem own_map_ne {W : World} {b base n size : Nat} {e : TypeId} {v : Value} {xs : List Value} {es : Array MapEntry} {ck : Nat} (h : W.ownsRow base e size v n xs) (hm : W.heap[b]? = some (.map es ck)) : ∀ g, v.ownBlock = some g → g ≠ b := by
  rintro g hg rfl
  rcases h.2 with ⟨hv, _⟩ | ⟨g', cap, cur, hv, hb', hg', r⟩
  · rw [hv] at hg; cases hg
  · rw [hv] at hg
    obtain rfl : g' = g := by simpa [Value.ownBlock] using hg
    rw [hg'] at hm
    cases hm
/-- How a coordinator's blocks lie apart. -/
structure CoAp (p bp ab : Nat) (om : Option Nat) (rb : Option Nat) : Prop where
  p_bp : p ≠ bp
  p_ab : p ≠ ab
  p_om : ∀ b, om = some b → p ≠ b
  bp_ab : bp ≠ ab
  bp_om : ∀ b, om = some b → bp ≠ b
  ab_om : ∀ b, om = some b → ab ≠ b
  r_p : ∀ g, rb = some g → g ≠ p
  r_bp : ∀ g, rb = some g → g ≠ bp
  r_ab : ∀ g, rb = some g → g ≠ ab
  r_om : ∀ g b, rb = some g → om = some b → g ≠ b
theorem CoAt.ap {W : World} {p : Nat} {oa : Option Addr} {oc bp : Nat} {om : Option Nat} {ab : Nat} {c : Cd} (h : CoAt W p oa oc bp om ab c) : CoAp p bp ab om (Value.slice oa c.own.length oc).ownBlock := by
  have ho : ∀ b, om = some b → ∃ es ck, W.heap[b]? = some (.map es ck) := by
    rintro b rfl
    obtain ⟨es, ck, h1, _⟩ := h.book.map
    exact ⟨es, ck, h1⟩
  obtain ⟨es, ck, ha, _⟩ := h.map
  refine ⟨obj_ne h.blk h.book.blk (by decide), obj_map_ne h.blk ha, fun b e => ?_, obj_map_ne h.book.blk ha, fun b e => ?_, fun b e => ?_, own_ne_obj h.row h.blk (by decide), own_ne_obj h.row h.book.blk (by decide), own_map_ne h.row ha, fun g b hg e => ?_⟩
  · obtain ⟨es, ck, h1⟩ := ho b e
    exact obj_map_ne h.blk h1
  · obtain ⟨es, ck, h1⟩ := ho b e
    exact obj_map_ne h.book.blk h1
  · rintro rfl
    exact h.ne e
  · obtain ⟨es, ck, h1⟩ := ho b e
    exact own_map_ne h.row h1 g hg
theorem CoAt.bookOff {W : World} {p : Nat} {oa : Option Addr} {oc bp : Nat} {om : Option Nat} {ab : Nat} {c : Cd} (h : CoAt W p oa oc bp om ab c) : p ∉ foot bp om ∧ ab ∉ foot bp om ∧ (∀ g, (Value.slice oa c.own.length oc).ownBlock = some g → g ∉ foot bp om) ∧ (∀ x ∈ foot bp om, x ∈ cfoot p oa oc c.own.length bp om ab) := by
  have hap := h.ap
  refine ⟨?_, ?_, fun g hg => ?_, fun x hx => ?_⟩
  · simp only [foot, List.mem_cons, not_or]
    exact ⟨hap.p_bp, fun hm => hap.p_om p (by simpa using hm) rfl⟩
  · simp only [foot, List.mem_cons, not_or]
    exact ⟨hap.bp_ab.symm, fun hm => hap.ab_om ab (by simpa using hm) rfl⟩
  · simp only [foot, List.mem_cons, not_or]
    exact ⟨hap.r_bp g hg, fun hm => hap.r_om g g hg (by simpa using hm) rfl⟩
  · simp only [foot, List.mem_cons] at hx
    simp only [cfoot, List.mem_cons, List.mem_append]
    rcases hx with e | e
    · exact .inr (.inl e)
    · exact .inr (.inr (.inr (.inl e)))
theorem upSt {W : World} {b : Nat} {m : List (Int × St)} (h : MapIs ekI St.val W b m) (hn : (m.map (·.1)).Nodup) (k st : Int) (dn : Nat) (d : Int) (hd : d = dn) : ∃ o, (Instr.mapUpdate 78 (.map (some b)) (.int .i64 k) (.agg #[.int .i64 st, .int .i64 d])).run Tryz.prog W = .ok () (setBlock W b o) ∧ MapIs ekI St.val (setBlock W b o) b (put k ⟨st, dn⟩ m) := by
  subst hd
  exact run_update (W := W) Tryz.underlying78 (keyLaw_int Tryz.underlying3) h hn k ⟨st, dn⟩
/-- A coordinator whose states have changed. -/
theorem CoAt.setAt {W W' : World} {p : Nat} {oa : Option Addr} {oc bp : Nat} {om : Option Nat} {ab : Nat} {c : Cd} (h : CoAt W p oa oc bp om ab c) {at2 : List (Int × St)} (hk : Keep [ab] W W') (hm : MapIs ekI St.val W' ab at2) : CoAt W' p oa oc bp om ab { c with at_ := at2 } := by
  have hap := h.ap
  refine ⟨(hk.block p (lt_of_heap h.blk) (by simpa using hap.p_ab)).trans h.blk, h.row.keep hk (fun g hg => by have := hap.r_ab g hg; simpa using this), h.book.keep hk (fun b hb => ?_), hm, h.ne⟩
  simp only [foot, List.mem_cons] at hb
  rcases hb with rfl | hb
  · simpa using hap.bp_ab
  · have := hap.ab_om b (by simpa using hb)
    simpa using this.symm
set_option maxRecDepth 100000 in
set_option maxHeartbeats 4000000 in
theorem cord_any {w : World} {p : Nat} {oa : Option Addr} {oc bp : Nat} {om : Option Nat} {ab : Nat} {c : Cd} (h : CoAt w p oa oc bp om ab c) (hn : (c.m.map (·.1)).Nodup) (hn2 : (c.at_.map (·.1)).Nodup) (hl0 : 0 ≤ c.last) (part to : Int) : Calls Tryz.prog 10 #[.pointer (some ⟨p, 0, none⟩), .int .i64 part, .int .i64 to] w fun e w' => e = .returned (.tuple #[.int .i64 (coOrd c part to).1, .int .i64 (coOrd c part to).2.1]) ∧ ∃ om', CoAt w' p oa oc bp om' ab (coOrd c part to).2.2 ∧ (om' = om ∨ ∃ b, om' = some b ∧ w.heap.size ≤ b) ∧ Keep (cfoot p oa oc c.own.length bp om ab) w w' := by
  obtain ⟨hpx, hax, hrx, hfx⟩ := h.bookOff
  obtain ⟨n, e0, m', l', hr⟩ : ∃ n e0 m' l', ordF (c.tb none 0) part to c.m c.last = (n, e0, m', l') := ⟨_, _, _, _, rfl⟩
  have hco : coOrd c part to = (n, e0, { c with m := m', last := l', at_ := if e0 = 0 then put n ⟨1, 0⟩ c.at_ else c.at_ }) := by unfold coOrd; rw [hr]
  have hord := fun (W : World) (hb : BookAt W bp om c.m c.last) (hi : IntsAt W oa c.own) => order_any hb hn hl0 (c.tb oa oc) hi h.sep part to
  rw [show ordF (c.tb oa oc) part to c.m c.last = ordF (c.tb none 0) part to c.m c.last from rfl, hr] at hord
  unfold Cd.tb Tb.val at hord
  simp only at hord
  rw [hco]
  have HC := Lib.hid h
  have HPX := Lib.hid hpx
  have HAX := Lib.hid hax
  have HRX := Lib.hid hrx
  have HFX := Lib.hid hfx
  have HORD := Lib.hid hord
  have hpl := lt_of_heap h.blk
  clear h hpx hax hrx hfx hord hr hco
  go_enter Tryz.func10, Tryz.ntmps10
  go_wp2_with (fail)
  refine (none_any HC.out).mono ?_
  rintro e w0 ⟨rfl, hw0⟩
  rw [hw0]
  clear hw0
  go_wp2_with (fail)
  refine wp_region_soup 15 (foot bp om) (spOf [(10, Spec.ord bp om c.m c.last n e0 m' l' w)]) (by kernel_rfl) (by kernel_rfl) (spOk_one (fun _ => ⟨_, rfl⟩)) (fun i s hs => by have h := spOf_mem hs; simp at h; rcases h with ⟨_, rfl⟩; exact ⟨HC.out.book.keep (Keep.refl [] _).drew (by simp), Nat.le_refl _⟩) ?_
  simp only [List.take_succ_cons, List.take_zero, List.drop_succ_cons, List.drop_zero]
  with_reducible refine soup_q ?_ ?_ ?_
  · rfl
  · rfl
  with_reducible apply Exists.intro
  with_reducible refine ⟨fun W hk _ => ?_, ?_⟩
  · unfold Oper.same
    go_simp
    first | rfl | exact ⟨rfl, rfl⟩
  with_reducible apply Exists.intro
  with_reducible refine ⟨?_, ?_⟩
  · go_simp
    rfl
  with_reducible refine soup_q ?_ ?_ ?_
  · rfl
  · rfl
  with_reducible apply Exists.intro
  with_reducible refine ⟨fun W hk _ => ?_, ?_⟩
  · unfold Oper.same
    go_simp
    first | rfl | exact ⟨rfl, rfl⟩
  with_reducible apply Exists.intro
  with_reducible refine ⟨?_, ?_⟩
  · go_simp
    rfl
  with_reducible refine soup_q ?_ ?_ ?_
  · rfl
  · rfl
  with_reducible apply Exists.intro
  with_reducible refine ⟨fun W hk _ => ?_, ?_⟩
  · unfold Oper.same
    go_simp
    first | rfl | exact ⟨rfl, rfl⟩
  with_reducible apply Exists.intro
  with_reducible refine ⟨?_, ?_⟩
  · go_simp
    rfl
  with_reducible refine soup_q ?_ ?_ ?_
  · rfl
  · rfl
  with_reducible apply Exists.intro
  with_reducible refine ⟨fun W hk _ => ?_, ?_⟩
  · have c0 := (HC.out.off hk HPX.out).2.2.2.1
    unfold Oper.same
    go_simp
    first | rfl | exact ⟨rfl, rfl⟩
  with_reducible apply Exists.intro
  with_reducible refine ⟨?_, ?_⟩
  · go_simp
    rfl
  with_reducible refine soup_q ?_ ?_ ?_
  · rfl
  · rfl
  with_reducible apply Exists.intro
  with_reducible refine ⟨fun W hk _ => ?_, ?_⟩
  · unfold Oper.same
    go_simp
    first | rfl | exact ⟨rfl, rfl⟩
  with_reducible apply Exists.intro
  with_reducible refine ⟨?_, ?_⟩
  · go_simp
    rfl
  with_reducible refine soup_q ?_ ?_ ?_
  · rfl
  · rfl
  with_reducible apply Exists.intro
  with_reducible refine ⟨fun W hk _ => ?_, ?_⟩
  · unfold Oper.same
    go_simp
    first | rfl | exact ⟨rfl, rfl⟩
  with_reducible apply Exists.intro
  with_reducible refine ⟨?_, ?_⟩
  · go_simp
    rfl
  with_reducible refine soup_q ?_ ?_ ?_
  · rfl
  · rfl
  with_reducible apply Exists.intro
  with_reducible refine ⟨fun W hk _ => ?_, ?_⟩
  · unfold Oper.same
    go_simp
    first | rfl | exact ⟨rfl, rfl⟩
  with_reducible apply Exists.intro
  with_reducible refine ⟨?_, ?_⟩
  · go_simp
    rfl
  with_reducible refine soup_q ?_ ?_ ?_
  · rfl
  · rfl
  with_reducible apply Exists.intro
  with_reducible refine ⟨fun W hk _ => ?_, ?_⟩
  · have c0 := (HC.out.off hk HPX.out).1
    have c1 := (HC.out.off hk HPX.out).2.1
    have c2 := (HC.out.off hk HPX.out).2.2.1
    unfold Oper.same
    go_simp
    first | rfl | exact ⟨rfl, rfl⟩
  with_reducible apply Exists.intro
  with_reducible refine ⟨?_, ?_⟩
  · go_simp
    rfl
  with_reducible refine soup_q ?_ ?_ ?_
  · rfl
  · rfl
  with_reducible apply Exists.intro
  with_reducible refine ⟨fun W hk _ => ?_, ?_⟩
  · unfold Oper.same
    go_simp
    first | rfl | exact ⟨rfl, rfl⟩
  with_reducible apply Exists.intro
  with_reducible refine ⟨?_, ?_⟩
  · go_simp
    rfl
  with_reducible refine soup_q ?_ ?_ ?_
  · rfl
  · rfl
  with_reducible apply Exists.intro
  with_reducible refine ⟨fun W hk _ => ?_, ?_⟩
  · unfold Oper.same
    go_simp
    first | rfl | exact ⟨rfl, rfl⟩
  with_reducible apply Exists.intro
  with_reducible refine ⟨?_, ?_⟩
  · go_simp
    rfl
  refine soup_s rfl rfl rfl (fun W hk hB _ => ?_) ?_
  · unfold Oper.does
    go_simp
    refine (HORD.out W hB.1 (HC.out.row.keep hk HRX.out).at).mono ?_
    rintro e w' ⟨rfl, ⟨om', h1, h2⟩, h3⟩
    refine ⟨_, rfl, h3, hk.trans h3, rfl, om', h1, ?_⟩
    rcases h2 with h2 | ⟨h2, b, h4, h5⟩
    · exact .inl h2
    · exact .inr ⟨h2, b, h4, Nat.le_trans hB.2 h5⟩
  intro v hv
  obtain rfl : v = _ := hv
  with_reducible apply Exists.intro
  with_reducible refine ⟨?_, ?_⟩
  · go_simp
    rfl
  with_reducible refine soup_q ?_ ?_ ?_
  · rfl
  · rfl
  with_reducible apply Exists.intro
  with_reducible refine ⟨fun W hk _ => ?_, ?_⟩
  · unfold Oper.same
    go_simp
    first | rfl | exact ⟨rfl, rfl⟩
  with_reducible apply Exists.intro
  with_reducible refine ⟨?_, ?_⟩
  · go_simp
    rfl
  with_reducible refine soup_q ?_ ?_ ?_
  · rfl
  · rfl
  with_reducible apply Exists.intro
  with_reducible refine ⟨fun W hk _ => ?_, ?_⟩
  · unfold Oper.same
    go_simp
    first | rfl | exact ⟨rfl, rfl⟩
  with_reducible apply Exists.intro
  with_reducible refine ⟨?_, ?_⟩
  · go_simp
    rfl
  with_reducible refine soup_q ?_ ?_ ?_
  · rfl
  · rfl
  with_reducible apply Exists.intro
  with_reducible refine ⟨fun W hk _ => ?_, ?_⟩
  · unfold Oper.same
    go_simp
    first | rfl | exact ⟨rfl, rfl⟩
  with_reducible apply Exists.intro
  with_reducible refine ⟨?_, ?_⟩
  · go_simp
    rfl
  with_reducible refine soup_q ?_ ?_ ?_
  · rfl
  · rfl
  with_reducible apply Exists.intro
  with_reducible refine ⟨fun W hk _ => ?_, ?_⟩
  · unfold Oper.same
    go_simp
    first | rfl | exact ⟨rfl, rfl⟩
  with_reducible apply Exists.intro
  with_reducible refine ⟨?_, ?_⟩
  · go_simp
    rfl
  refine soup_nil (fun W hk hS => ?_)
  obtain ⟨om', hbk, hom⟩ := hS 10
  have hne' : om' ≠ some ab := by
    rcases hom with e | ⟨e, b, e2, e3⟩
    · rw [e]; exact HC.out.ne
    · rw [e2]
      intro e4
      obtain rfl : b = ab := by simpa using e4
      have := HC.out.map.lt
      omega
  have hom' : om' = om ∨ ∃ b, om' = some b ∧ w.heap.size ≤ b := hom.imp id (fun h => h.2)
  have hmp := HC.out.map.keep hk HAX.out
  have hco : CoAt W p oa oc bp om' ab { c with m := m', last := l' } := ⟨(hk.block p hpl HPX.out).trans HC.out.blk, HC.out.row.keep hk HRX.out, hbk, hmp, hne'⟩
  have hkk : Keep (cfoot p oa oc c.own.length bp om ab) w W := hk.mono (fun x hx => .inl (HFX.out x hx))
  obtain ⟨c0, c1, c2, c3, c4, c5, c6, c7⟩ := HC.out.off hk HPX.out
  have HCO := Lib.hid hco
  have HKK := Lib.hid hkk
  have HOM := Lib.hid hom'
  by_cases he : e0 = 0
  · subst he
    obtain ⟨o, hup, hmp2⟩ := upSt hmp hn2 n 1 0 0 rfl
    have HMP := Lib.hid hmp2
    clear hmp2 hmp hk hS hbk hkk hne' hom hom' hco
    go_wp2_with (fail)
    go_ret2
    have hks : Keep [ab] W (setBlock W ab o) := (Keep.refl _ _).setBlock _ _ (.inl (by simp))
    exact ⟨rfl, om', HCO.out.setAt hks HMP.out, HOM.out, HKK.out.setBlock _ _ (.inl (by simp [cfoot]))⟩
  · have hne : ((e0 : Int) == 0) = false := by simpa using he
    have HE := Lib.hid he
    clear he
    clear hmp hk hS hbk hkk hne' hom hom' hco
    go_wp2_with (fail)
    go_ret2
    exact ⟨rfl, om', HCO.out, HOM.out, HKK.out⟩
end Go.Proofs.YtdnfibecobodkaaGreat
