/- The document's book: Order. -/
import Derived.Test.YtbkbekdeplolnaaMvX
import Derived.Laws.OwnMore
namespace Go.Proofs.Ytbkbekdeplolnaa
open Go.RowKit Go.Shelf Go.Lib
open Go.ChangeMaps (setBlock)
open Go.Sort (HoldsK size_flatK get_flatK)
set_option linter.unusedSimpArgs false
set_option linter.unusedVariables false
theorem wpList_append_run {P : Program} {w : World} {ops : Array Oper} {rest : List Oper} {o : Oper} {a : Act} {Q : Exit → Act → World → Prop} (hgd : o.guard = none) (s x : Operand) (t : TypeId)
    (ho : o.op = .call { callee := .builtin .append, args := #[s, x], argTypes := #[t, t] }) (vs vx : Value) (hs : a.eval s = vs) (hx : a.eval x = vx) (v' : Value) (w' : World)
    (hr : (Builtin.append_ #[t, t] o.type #[vs, vx]).run P w = .ok v' w') (h : wpList P ops Q rest (a.put o.dst v') w') : wpList P ops Q (o :: rest) a w :=
  wpList_plain hgd fun _ hK => by
    unfold Oper.wp execOp
    simp only [ho, resolve, invoke, builtin, Sem.run_bind, Sem.run_pure, Result.andThen_ok, List.map_toArray, List.map_cons, List.map_nil, hs, hx, hr]
    exact hK _ _ h
theorem flatEn_one : ∀ (L : List En), ∀ u ∈ flatEn L, u.oneCell' = true := by
  intro L u hu
  obtain ⟨x, _, h⟩ := List.mem_flatMap.1 hu
  simp [En.enc] at h
  rcases h with rfl | rfl | rfl | rfl <;> simp [Value.oneCell']
theorem run_copy {W : World} {base c : Nat} {A : Option Addr} {L : List En} (hE : EnsAt base W A L) (hA : A = none → c = 0) (hL : L.length ≤ 1000) :
    ∃ v' w', (Builtin.append_ #[56, 56] 56 #[.slice none 0 0, .slice A L.length c]).run Try.prog W = .ok v' w' ∧ w'.ownsRow W.heap.size 63 4 v' L.length (flatEn L) ∧ W.grownBy w' none := by
  obtain ⟨i0, hi, hi0, hi1, hi2⟩ := info_parts infoRe
  cases A with
  | none =>
    have hL0 : L = [] := by
      by_cases h : L = []
      · exact h
      · obtain ⟨g, h1, _⟩ := hE h; cases h1
    subst hL0
    rw [hA rfl]
    exact ⟨.slice none 0 0, W, run_append_owned_none W W.heap.size _ _ 63 i0 4 Try.underlying56 hi _ 0 [] (World.ownsRow_nil _ _ _ _), World.ownsRow_nil _ _ _ _, rfl, rfl, rfl, Nat.le_refl _, fun _ _ _ => rfl⟩
  | some a =>
    obtain ⟨v', w', h1, h2, h3, _⟩ := run_append_own (P := Try.prog) W W.heap.size 56 56 63 i0 En.zero.val 4 32 Try.underlying56 hi hi0 hi1 hi2 rfl (by decide) (.slice none 0 0) 0 [] (World.ownsRow_nil _ _ _ _)
      a L.length c (flatEn L) (flatEn_len L) (by
        intro j u hj
        have hjl : j < L.length * 4 := by rw [← flatEn_len]; exact (List.getElem?_eq_some_iff.1 hj).1
        obtain ⟨g, e, _, _, hH⟩ := hE (by intro e; rw [e] at hjl; simp at hjl)
        cases e
        have h5 := (hH j (by rw [size_flatK]; simpa using hjl)).1
        have hjs : j < L.toArray.size * 4 := by simpa using hjl
        rw [get_flatK _ _ _ _ (by simpa using hjs)] at h5
        rw [add_at, Nat.zero_add]
        rw [Nat.zero_add] at h5
        rw [h5, ← hj, flatEn_get L j hjl]; rfl)
      (flatEn_one L) (by unfold maxLen; omega) (by omega) (Nat.le_refl _)
    simp only [Nat.zero_add, List.nil_append] at h2
    exact ⟨v', w', h1, h2, h3⟩
theorem findPt_look {m : List (Int × En)} (pk : ∀ q ∈ m, q.2.part = q.1) (k : Int) : findPt k (m.map (·.2)) = look k m := by
  induction m with
  | nil => rfl
  | cons q r ih =>
    have h1 := pk q (.head _)
    have h2 := ih (fun x hx => pk x (.tail _ hx))
    unfold findPt at h2 ⊢
    simp only [List.map_cons, List.find?_cons, look]
    rw [h1]
    by_cases h : q.1 = k
    · simp [h]
    · rw [if_neg (fun e => h e.symm)]
      simp [h, h2]
def OrdP (w : World) (base : Nat) (A : Option Addr) (m : List (Int × En)) (r : Int × Int × List (Int × En) × Int) (e : Ending) (w' : World) : Prop :=
  ∃ A' c', e = .returned (.tuple #[refB A' r.2.2.1.length c' r.2.2.2, .int .i64 r.1, .int .i64 r.2.1]) ∧ EnsAt base w' A' (r.2.2.1.map (·.2)) ∧ (A' = none → c' = 0) ∧ ((A' = A ∧ r.2.2.1 = m) ∨ EnsAt w.heap.size w' A' (r.2.2.1.map (·.2))) ∧ Below w.heap.size w w'
set_option maxRecDepth 100000 in
set_option maxHeartbeats 4000000 in
theorem refOrd_any {w : World} {A : Option Addr} {c base : Nat} {m : List (Int × En)} {last : Int} (hE : EnsAt base w A (m.map (·.2))) (hA : A = none → c = 0) (hb : base ≤ w.heap.size) (hL : m.length < 1000) (pk : ∀ q ∈ m, q.2.part = q.1) (hl0 : 0 ≤ last) (hl1 : last < 2147483647)
    (t : Tb) (hI : IntsAt w t.oa t.owner) (part to : Int) :
    Calls Try.prog 38 #[refB A m.length c last, t.val, .int .i64 part, .int .i64 to] w (OrdP w base A m (ordF t part to m last)) := by
  have hlm : (m.map (·.2)).length = m.length := by simp
  have hof := fun W (hB : Below w.heap.size w W) => refOf_any (last := last) (c := c) (hE.below hB) (by rw [hlm]; omega) part
  rw [hlm, findPt_look pk] at hof
  have hmv := fun W (hB : Below w.heap.size w W) => refMove_any t part to W (hI.below hB)
  have hmz := @may_zero t part to
  obtain ⟨ep, nodes, oa, oc, own⟩ := t
  obtain ⟨r, hr⟩ : ∃ r, ordF ⟨ep, nodes, oa, oc, own⟩ part to m last = r := ⟨_, rfl⟩
  rw [hr]
  unfold ordF at hr
  obtain ⟨my, hmy⟩ : ∃ my, Tb.may ⟨ep, nodes, oa, oc, own⟩ part to = my := ⟨_, rfl⟩
  simp only [hmy, Tb.val] at hr hmv hmz ⊢
  simp only at hI
  have h1 : Below w.heap.size w (w.alloc (.cells #[.slice A m.length c, .int .i64 last] 58)) := (Below.refl _ w).alloc (Nat.le_refl _) _
  have h2 := h1.alloc (by simp) (.cells #[.int .i64 ep, .int .i64 nodes, .slice oa own.length oc] 41)
  have h3 := h2.alloc (by simp; omega) (.cells #[.slice none 0 0, .int .i64 0] 58)
  have hb0 := ((Box2.new w (.slice A m.length c) (.int .i64 last) 58).below ((Below.refl _ _).alloc (Nat.le_refl _) (.cells #[.int .i64 ep, .int .i64 nodes, .slice oa own.length oc] 41))).below ((Below.refl _ _).alloc (Nat.le_refl _) (.cells #[.slice none 0 0, .int .i64 0] 58))
  have ht0 := (Box3.new (w.alloc (.cells #[.slice A m.length c, .int .i64 last] 58)) (.int .i64 ep) (.int .i64 nodes) (.slice oa own.length oc) 41).below ((Below.refl _ _).alloc (Nat.le_refl _) (.cells #[.slice none 0 0, .int .i64 0] 58))
  have hr0 := Box2.new ((w.alloc (.cells #[.slice A m.length c, .int .i64 last] 58)).alloc (.cells #[.int .i64 ep, .int .i64 nodes, .slice oa own.length oc] 41)) (.slice none 0 0) (.int .i64 0) 58
  simp only [World.size_alloc] at hr0 ht0
  obtain ⟨w3, hw3⟩ : ∃ w3, ((w.alloc (.cells #[.slice A m.length c, .int .i64 last] 58)).alloc (.cells #[.int .i64 ep, .int .i64 nodes, .slice oa own.length oc] 41)).alloc (.cells #[.slice none 0 0, .int .i64 0] 58) = w3 := ⟨_, rfl⟩
  rw [hw3] at h3 hb0 ht0 hr0
  have hm3 := hmv w3 h3
  obtain ⟨x0, x1, x3, _⟩ := hb0.facts
  obtain ⟨y0, y1, y2, y3, _⟩ := ht0.facts
  have HB := Lib.hid h3
  have HI := Lib.hid hI
  have HOF := Lib.hid hof
  have HR := Lib.hid hr
  have HMZ := Lib.hid hmz
  have HR0 := Lib.hid hr0
  have HB0 := Lib.hid hb0
  have HT0 := Lib.hid ht0
  have HM := Lib.hid hm3
  have HE := Lib.hid hE
  clear hE hof hmv hmz hr hI h1 h2 h3 hb0 ht0 hr0 hm3 hmy hlm
  unfold refB
  go_enter Try.func38, Try.ntmps38
  go_wp2_with (fail)
  refine HM.out.mono ?_
  rintro e w4 ⟨⟨v1, v2, v3, v4, v5, rfl⟩, hB4⟩
  clear hw3 x0 x1 x3 y0 y1 y2 y3
  have HB4 := Lib.hid (HB.out.trans (hB4.mono HB.out.size))
  have hb4 := HB0.out.below hB4
  have ht4 := HT0.out.below hB4
  have hr4 := HR0.out.below hB4
  obtain ⟨x0, x1, x3, _⟩ := hb4.facts
  obtain ⟨y0, y1, y2, y3, _⟩ := ht4.facts
  obtain ⟨z0, z1, z3, zf⟩ := hr4.facts
  have HBX := Lib.hid hb4
  have HTX := Lib.hid ht4
  have HRX := Lib.hid hr4
  clear hB4 hb4 ht4 hr4 HM HB0 HT0 HR0
  by_cases c1 : my = 0
  · subst c1
    have hr := HR.out
    rw [if_neg (by omega)] at hr
    obtain ⟨g1, g2, g3, g4, g5, g6, g7⟩ := HMZ.out rfl
    obtain ⟨pn, rfl⟩ := Int.eq_ofNat_of_zero_le g3
    try simp only at g4
    have hpl : pn < own.length := by omega
    have hpl2 : (pn : Int) < (own.length : Int) := by omega
    rw [Int.toNat_natCast] at hr
    obtain ⟨fr, hfr⟩ : ∃ fr, own[pn]?.getD 0 = fr := ⟨_, rfl⟩
    rw [hfr] at hr
    obtain ⟨⟨o1, o2, o3, o4⟩, ho⟩ : ∃ o, (look (pn : Int) m).getD En.zero = o := ⟨_, rfl⟩
    obtain ⟨is, his⟩ : ∃ is, (look (pn : Int) m).isSome = is := ⟨_, rfl⟩
    rw [his] at hr
    have HR2 := Lib.hid hr
    have HFR := Lib.hid hfr
    clear hr hfr g1 g2 g5 g6 g7 HR HMZ
    go_wp2_with (fail)
    have hof := HOF.out (w4.alloc (.cells #[.int .i64 v1, .int .i64 v2, .slice v3 v4 v5] 41)) (HB4.out.alloc (by omega) _)
    unfold refB ByP at hof
    rw [ho, his] at hof
    simp only [En.val] at hof
    refine hof.mono ?_
    rintro e w5 ⟨rfl, hB5⟩
    have hB45 : Below w4.heap.size w4 w5 := ((Below.refl _ w4).alloc (Nat.le_refl _) _).trans (hB5.mono (by simp))
    have HB5 := Lib.hid (HB4.out.trans (hB45.mono HB4.out.size))
    have hbx := HBX.out.below hB45
    have htx := HTX.out.below hB45
    have hrx := HRX.out.below hB45
    clear x0 x1 x3 y0 y1 y2 y3 z0 z1 z3 zf hof
    obtain ⟨x0, x1, x3, _⟩ := hbx.facts
    obtain ⟨y0, y1, y2, y3, _⟩ := htx.facts
    obtain ⟨z0, z1, z3, zf⟩ := hrx.facts
    have HBY := Lib.hid hbx
    have HTY := Lib.hid htx
    have HRY := Lib.hid hrx
    clear hbx htx hrx HBX HTX HRX hB5 hB45 ho his HOF
    cases is with
    | true =>
      have hr := HR2.out
      rw [if_pos rfl] at hr
      subst hr
      go_wp2_with (fail)
      refine bodyPost_ret (v := .tuple #[refB A m.length c last, .int .i64 0, .int .i64 20]) (by simp [results, Try.results38, go_sem, refB, z0, z1, z3]) rfl ?_
      refine ⟨A, c, rfl, HE.out.below ?_, hA, .inl ⟨rfl, rfl⟩, ?_⟩
      all_goals repeat' (first | exact HB5.out | refine Below.setCell ?_ (by first | (simp; done) | (simp; omega)) _ | refine Below.alloc ?_ (by first | (simp; done) | (simp; omega)) _)
    | false =>
      have hr := HR2.out
      rw [if_neg (by simp), if_neg (by omega)] at hr
      subst hr
      have hwl : IntKind.i64.wrap (last + 1) = last + 1 := IntWalk.i64_in _ (by omega)
      have hB6 := HB5.out.alloc HB5.out.size (.cells #[.int .i64 o1, .int .i64 o2, .int .i64 o3, .int .i64 o4] 63)
      obtain ⟨v', w6, hcp, hown, hgr⟩ := run_copy (HE.out.below hB6) hA (by simp; omega)
      rw [List.length_map] at hcp hown
      obtain ⟨av, cv, rfl, hav⟩ := own_shape hown
      have hk6 : Keep [] w5 w6 := ((Keep.refl _ w5).alloc _).grown hgr (fun k hk => by cases hk)
      have hB56 : Below w5.heap.size w5 w6 := hk6.below (Nat.le_refl _) (by simp)
      rw [World.size_alloc] at hown
      have HB6 := Lib.hid (HB5.out.trans (hB56.mono HB5.out.size))
      obtain ⟨p0, p1, p3, _⟩ := (HBY.out.below hB56).facts
      obtain ⟨q0, q1, q2, q3, _⟩ := (HTY.out.below hB56).facts
      obtain ⟨r0, r1, r3, rf⟩ := (HRY.out.below hB56).facts
      have HRZ := Lib.hid (HRY.out.below hB56)
      obtain ⟨b1, off1, ea, gb, hcl⟩ := (HI.out.below HB6.out) (by intro hh; rw [hh] at hpl; simp at hpl)
      have q4 := hcl pn hpl
      rw [HFR.out] at q4
      subst ea
      obtain ⟨i0, hi, hi0, hi1, hi2⟩ := info_parts infoRe
      have hs6 : w5.heap.size + 1 ≤ w6.heap.size := by have := hgr.size; simpa using this
      have HOWN := Lib.hid hown
      have HCP := Lib.hid hcp
      clear hown hcp hgr hcl hk6 hB56
      go_wp2_with (first
        | (at_builtin; refine wpList_append_run rfl _ _ _ rfl _ _ rfl rfl _ _ HCP.out ?_)
        | (at_builtin; refine wpList_append_own _ rfl _ _ 56 rfl (w5.heap.size + 1) 63 i0 En.zero.val 4 32 Try.underlying56 hi hi0 hi1 hi2 rfl (by decide) _ _ _ rfl (HOWN.out.alloc _) ⟨w6.heap.size, 0, none⟩ 1 1 [.int .i64 (last + 1), .int .i64 pn, .int .i64 fr, .int .i64 to] rfl rfl ?c1 ?c2 ?c3 ?c4 ?c5 ?_))
      case c1 => exact cells_new _ _ _ _ (by simp)
      case c2 => simp [Value.oneCell']
      case c3 => unfold maxLen; omega
      case c4 => omega
      case c5 => simp; omega
      intro v' w7 hown' hgrow _
      have hB67 : Below (w5.heap.size + 1) w6 w7 := ((Below.refl _ w6).alloc hs6 _).grown hgrow (by simp; omega) (fun g hg => own_base HOWN.out g hg)
      obtain ⟨u0, u1, u3, uf⟩ := (Box2.keep (X := []) (HRY.out) (((Keep.refl [] w5))) (by simp)).facts
      have hrz7 := HRZ.out.keep (X := (Value.slice av m.length cv).ownBlock.toList) (((Keep.refl _ w6).alloc _).grown hgrow (fun k hk => .inl (by simp [hk]))) (fun hm => by have := own_base HOWN.out _ (by simpa using hm); omega)
      obtain ⟨s0, s1, s3, sf⟩ := hrz7.facts
      have hBw7 : Below w.heap.size w w7 := (HB6.out.alloc HB6.out.size _).grown hgrow (by have := HB6.out.size; simp; omega) (fun g hg => by have := own_base HOWN.out g hg; have := HB5.out.size; omega)
      obtain ⟨a7, c7, rfl, ha7⟩ := own_shape hown'
      have HO7 := Lib.hid hown'
      have HB7 := Lib.hid hBw7
      clear hown' hgrow hB67 u0 u1 u3 uf hrz7 hBw7 x0 x1 y0 y1 y2 z0 z1 zf p0 p1 q0 q1 q2 q4 r0 r1 rf
      go_wp2
      refine bodyPost_ret (v := .tuple #[refB a7 (m.length + 1) c7 (last + 1), .int .i64 (last + 1), .int .i64 0]) (by simp [results, Try.results38, go_sem, refB, s0, s1, s3]) rfl ?_
      have hfl : flatEn ((m ++ [((pn : Int), (⟨last + 1, (pn : Int), fr, to⟩ : En))]).map (·.2)) = flatEn (m.map (·.2)) ++ [.int .i64 (last + 1), .int .i64 pn, .int .i64 fr, .int .i64 to] := by simp [flatEn, En.enc]
      have hE7 : EnsAt (w5.heap.size + 1) w7 a7 ((m ++ [((pn : Int), (⟨last + 1, (pn : Int), fr, to⟩ : En))]).map (·.2)) := ensAt_of_own (c := c7) (by rw [hfl]; simpa using HO7.out)
      refine (fun hK7 => ⟨a7, c7, by simp, (EnsAt.keep (X := [w.heap.size + 1 + 1]) hE7 hK7 (by simp; omega)).weaken (by have := HB5.out.size; omega), fun h => own_none (h ▸ HO7.out), .inr ((EnsAt.keep (X := [w.heap.size + 1 + 1]) hE7 hK7 (by simp; omega)).weaken (by have := HB5.out.size; omega)), ?_⟩) ?_
      · repeat' (first | exact Keep.refl _ _ | refine Keep.setCell ?_ _ _ _ (.inl (by simp)) | refine Keep.drew ?_)
      · repeat' (first | exact HB7.out | refine Below.setCell ?_ (by first | (simp; done) | (simp; omega)) _ | refine Below.drew ?_)
  · have hr := HR.out
    rw [if_pos c1] at hr
    subst hr
    have c1b : (my == 0) = false := by simp [c1]
    have c1d : decide (my = 0) = false := by simp [c1]
    go_wp2_with (fail)
    refine bodyPost_ret (v := .tuple #[refB A m.length c last, .int .i64 0, .int .i64 my]) (by simp [results, Try.results38, go_sem, refB, z0, z1, z3]) rfl ?_
    refine ⟨A, c, rfl, HE.out.below ?_, hA, .inl ⟨rfl, rfl⟩, ?_⟩
    all_goals repeat' (first | exact HB4.out | refine Below.setCell ?_ (by first | (simp; done) | (simp; omega)) _ | refine Below.alloc ?_ (by first | (simp; done) | (simp; omega)) _)
end Go.Proofs.Ytbkbekdeplolnaa
