/- The document's line: Of; are windows too many? -/
import Derived.Test.YtmhbibcfbencnaaRgA
import Derived.Test.YtmhbibcfbencnaaSo2
namespace Go.Proofs.Ytmhbibcfbencnaa
open Go.RowKit Go.Lib
set_option linter.unusedSimpArgs false
set_option linter.unusedVariables false
theorem okW_set2 {L : List Ot} (h : ∀ x ∈ L, OkW x) {o : Ot} (ho : o.Wf) : ∀ x ∈ (setL L o).2, OkW x := by
  unfold setL
  split
  · exact h
  · rename_i h1
    split
    · exact h
    · split
      · exact h
      · exact okW_ins ⟨by simpa using h1, ho.ag⟩ h
def OfD (w : World) (mk : Int) (r : Int × List Ot) (e : Ending) (w' : World) : Prop :=
  (r.1 = 0 → ∃ v', e = .returned (.tuple #[.agg #[.int .i64 mk, v'], .int .i64 0]) ∧ DocRow w.heap.size w' v' r.2) ∧ (r.1 ≠ 0 → e = .returned (.tuple #[.agg #[.int .i64 0, .slice none 0 0], .int .i64 r.1])) ∧ Below w.heap.size w w'
def FineO (L : List Ot) : Prop := L.length ≤ 60 ∧ ∀ x ∈ L, x.key.size ≤ 100
set_option maxHeartbeats 2000000 in
theorem greatO_any {w : World} {A : Option Addr} {L : List Ot} (c : Nat) (hA : OtsRow w A L) (hL : L.length ≤ 9223372036854775807) (hw : ∀ y ∈ L, Ot.Wf y) :
    Calls Try.prog 48 #[.slice A L.length c] w (GreatP FineO L w) := by
  have hz := Int.natCast_nonneg L.length
  have HA := Lib.hid hA
  have HW := Lib.hid hw
  clear hA hw
  by_cases h60 : 60 < L.length
  · go_enter Try.func48, Try.ntmps48
    go_wp2_with (fail)
    go_ret
    exact ⟨true, rfl, fun h => (by cases h), rfl⟩
  · go_enter Try.func48, Try.ntmps48
    go_wp2_with (fail)
    go_loop [3] (fun i => ∃ j : Nat, i = .int .i64 j ∧ j ≤ L.length ∧ ∀ x ∈ L.take j, x.key.size ≤ 100) (fun i => L.length - (intOf i).toNat)
    case atStart => exact ⟨0, rfl, Nat.zero_le _, by simp⟩
    case round =>
      obtain ⟨j, rfl, hj, hf⟩ := hrel
      have HF := Lib.hid hf
      clear hf
      by_cases hlt : j < L.length
      · obtain ⟨x, hx⟩ : ∃ x, L[j]? = some x := ⟨L[j], List.getElem?_eq_getElem hlt⟩
        obtain ⟨b, off, rfl, hbl, hat⟩ := HA.out (by intro e; rw [e] at hlt; simp at hlt)
        have hx0 := hat j x hx
        have ht : L.take (j + 1) = L.take j ++ [x] := by rw [List.take_add_one, hx]; rfl
        have HT := Lib.hid ht
        have k1 := (HW.out x (List.mem_of_getElem? hx)).key
        unfold maxLen at k1
        have c1 := hx0.c0
        obtain ⟨k, s, a⟩ := x
        simp only at c1 k1
        have z1 := Int.natCast_nonneg k.size
        clear hat hx hx0 ht
        by_cases g1 : 100 < k.size
        · go_wp2_with (fail)
          go_ret
          exact ⟨true, rfl, fun h => (by cases h), rfl⟩
        · go_wp2_with (fail)
          go_round
          case rel =>
            refine ⟨j + 1, by go_num, by omega, fun y hy => ?_⟩
            rw [HT.out] at hy
            rcases List.mem_append.1 hy with hy | hy
            · exact HF.out y hy
            · simp at hy; subst hy; simp only; omega
          case measure => simp [intOf]; omega
      · obtain rfl : j = L.length := by omega
        go_wp2_with (fail)
        go_ret
        refine ⟨false, rfl, fun _ => ⟨by omega, ?_⟩, rfl⟩
        have := HF.out
        rwa [List.take_length] at this
/-- The load of a box that a later operation writes. -/
def ldS (g : Nat) (mk : Int) (v : Value) : S2.Spec := { p := fun _ u => u = .agg #[v], A := fun _ _ _ => True, B := fun w => LxAt w g mk v }
/-- The answer of Set, in a drawn region. -/
def docS (base : Nat) (c : Int) (L : List Ot) : S2.Spec := { p := fun _ v => ∃ a n, v = .tuple #[.agg #[.slice a L.length n], .int .i64 c], A := fun _ v w => ∃ a n, v = .tuple #[.agg #[.slice a L.length n], .int .i64 c] ∧ DocRow base w (.slice a L.length n) L }
/-- The store into the box. -/
def stS (g : Nat) (mk : Int) (L : List Ot) : S2.Spec := { p := fun _ v => v = undef, A := fun x _ w => ∀ a n, x[1]? = some (.agg #[.slice a L.length n]) → LxAt w g mk (.slice a L.length n), B := fun w => ∃ u, LxAt w g mk u, G := fun _ W W' => ∃ u, W' = W.setCell ⟨g, 1, none⟩ u }
theorem spOk_set {ops : Array Oper} {g base : Nat} {mk c : Int} {v : Value} {L : List Ot} (hb : g < base) (hd : S2.Dep ops 11 1) : S2.SpOk ops (S2.spOf [(1, ldS g mk v), (6, docS base c L), (11, stS g mk L)]) where
  A i j s t hs ht hij := by
    have h1 := S2.spOf_mem hs; have h2 := S2.spOf_mem ht; simp at h1 h2
    rcases h1 with ⟨e1, rfl⟩ | ⟨e1, rfl⟩ | ⟨e1, rfl⟩ <;> rcases h2 with ⟨e2, rfl⟩ | ⟨e2, rfl⟩ | ⟨e2, rfl⟩
    all_goals first
      | omega
      | (intro _ _ _ _ _ _ _; trivial)
      | (rintro x y v w w' ⟨a, n, h1, h2⟩ hk; exact ⟨a, n, h1, DocRow.keep h2 hk (by simp)⟩)
      | (rintro x y v w w' ⟨a, n, h1, h2⟩ ⟨u, rfl⟩; exact ⟨a, n, h1, own_keep h2 ((Keep.refl [g] w).setCell _ _ _ (.inl (by simp))) (fun g' hg' => by have := own_base h2 g' hg'; simp; omega)⟩)
      | (intro x y v w w' hA hk a n e; exact (hA a n e).keep hk)
  B i j s t hs ht hij hnd := by
    have h1 := S2.spOf_mem hs; have h2 := S2.spOf_mem ht; simp at h1 h2
    rcases h1 with ⟨e1, rfl⟩ | ⟨e1, rfl⟩ | ⟨e1, rfl⟩ <;> rcases h2 with ⟨e2, rfl⟩ | ⟨e2, rfl⟩ | ⟨e2, rfl⟩
    all_goals first
      | omega
      | (intro _ _ _ _ _; trivial)
      | (subst e1 e2; exact absurd hd hnd)
      | (intro x w w' hB hk; exact LxAt.keep hB hk)
      | (rintro x w w' ⟨u, hB⟩ hk; exact ⟨u, hB.keep hk⟩)
  some i s x hs := by
    have h1 := S2.spOf_mem hs; simp at h1
    rcases h1 with ⟨_, rfl⟩ | ⟨_, rfl⟩ | ⟨_, rfl⟩
    · exact ⟨_, rfl⟩
    · exact ⟨_, none, 0, rfl⟩
    · exact ⟨_, rfl⟩
set_option maxRecDepth 100000 in
set_option maxHeartbeats 8000000 in
theorem rlof_any {w : World} {A : Option Addr} {M : List Ot} (c : Nat) (hA : OtsRow w A M) (hM : M.length ≤ 9223372036854775807) (hw : ∀ y ∈ M, Ot.Wf y) (mk : Int) :
    Calls Try.prog 49 #[.int .i64 mk, .slice A M.length c] w (OfD w mk (ofF mk M)) := by
  obtain ⟨⟨r1, r2⟩, hr⟩ : ∃ r, ofF mk M = r := ⟨_, rfl⟩
  rw [hr]
  unfold ofF at hr
  have hrt := fun W => rright_any mk W
  have hz := Int.natCast_nonneg M.length
  have HA := Lib.hid hA
  have HW := Lib.hid hw
  obtain ⟨rb, hrb⟩ : ∃ x, rightB mk = x := ⟨_, rfl⟩
  rw [hrb] at hrt hr
  have HT := Lib.hid hrt
  obtain ⟨W1, hW1⟩ : ∃ W1, w.alloc (.cells #[.int .i64 0, .slice none 0 0] 82) = W1 := ⟨_, rfl⟩
  have hx : LxAt W1 w.heap.size 0 (.slice none 0 0) := hW1 ▸ LxAt.new w 0 _
  have hB : Below w.heap.size w W1 := hW1 ▸ (Below.refl _ w).alloc (Nat.le_refl _) _
  have HX := Lib.hid hx
  have HB := Lib.hid hB
  have HSZ := Lib.hid (show w.heap.size + 1 = W1.heap.size from by rw [← hW1]; simp)
  obtain ⟨x0, x1, xf⟩ := hx.cells
  clear hrt hrb hA hw hx hB
  cases rb with
  | false =>
    obtain ⟨rfl, rfl⟩ : 1 = r1 ∧ [] = r2 := by rw [if_pos rfl] at hr; cases hr; exact ⟨rfl, rfl⟩
    go_enter Try.func49, Try.ntmps49
    go_wp2_with (fail)
    refine ((HT.out _)).mono ?_
    rintro e w2 ⟨rfl, rfl⟩
    go_wp2_with (fail)
    have zq := setLx_at HX.out 0 (.slice none 0 0)
    have kf := setLx_keep W1 (w.heap.size) 0 (.slice none 0 0)
    obtain ⟨z0, z1, _⟩ := zq.cells
    unfold setLx at z0 z1 kf
    refine bodyPost_ret (v := .tuple #[.agg #[.int .i64 0, (.slice none 0 0)], .int .i64 1]) (by simp [results, Try.results49, go_sem, z0, z1]) rfl ?_
    exact ⟨fun h => (by cases h), fun _ => rfl, HB.out.trans (kf.below HB.out.size (by simp))⟩
  | true =>
  rw [if_neg (by decide)] at hr
  have HR := Lib.hid hr
  have hka : Keep [] W1 (W1.alloc (.cells #[.int .i64 mk, .slice none 0 0] 82)) := (Keep.refl _ _).alloc _
  have hg2 : LxAt (W1.alloc (.cells #[.int .i64 mk, .slice none 0 0] 82)) W1.heap.size mk (.slice none 0 0) := LxAt.new W1 mk _
  have x2 : ∀ o, (W1.alloc o).cell? ⟨w.heap.size, 0, none⟩ = some (.int .i64 0) := fun o => (HX.out.keep ((Keep.refl [] _).alloc _)).cells.1
  have HX2 := Lib.hid (HX.out.keep hka)
  have HB2 := Lib.hid (HB.out.trans (hka.below HB.out.size (by simp)))
  rw [← HSZ.out] at hg2
  have HG2 := Lib.hid hg2
  clear hr hka hg2
  go_enter Try.func49, Try.ntmps49
  go_wp2_with (fail)
  refine ((HT.out _)).mono ?_
  rintro e w2 ⟨rfl, rfl⟩
  go_wp2_with (fail)
  rw [← HSZ.out]
  clear hW1 x0 x1 xf x2
  go_loopw [7] (fun i wr => ∃ (j : Nat) (L : List Ot) (v : Value), i = .int .i64 j ∧ j ≤ M.length ∧ toF mk L (M.drop j) = (r1, r2) ∧ LxAt wr w.heap.size 0 (.slice none 0 0) ∧ LxAt wr (w.heap.size + 1) mk v ∧ DocRow (w.heap.size + 2) wr v L ∧ L.length ≤ 32 ∧ L.Pairwise ltO ∧ (∀ y ∈ L, OkW y) ∧ Below w.heap.size w wr ∧ w.heap.size + 2 ≤ wr.heap.size) (fun i _ => M.length - (intOf i).toNat)
  case atStart => exact ⟨0, [], _, rfl, Nat.zero_le _, HR.out, HX2.out, HG2.out, World.ownsRow_nil _ _ _ _, by simp, List.Pairwise.nil, by simp, HB2.out, by have := HSZ.out; simp; omega⟩
  case round =>
    clear HR HX2 HG2 HB2 HX HB
    obtain ⟨j, L, v, rfl, hj, hto, hX, hG, hD, h32, hu, hok, hB, hsz⟩ := hrel
    obtain ⟨av, cv, rfl, _⟩ := own_shape hD
    have h0j : (0 : Int) ≤ (j : Int) := Int.natCast_nonneg j
    have HX := Lib.hid hX
    have HG := Lib.hid hG
    have HD := Lib.hid hD
    have HB := Lib.hid hB
    have HZ := Lib.hid hsz
    obtain ⟨bx0, bx1, bxf⟩ := hX.cells
    obtain ⟨l0, l1, lf⟩ := hG.cells
    by_cases hlt : j < M.length
    · have hjn : (j : Int) < (M.length : Int) := by omega
      obtain ⟨x, hx⟩ : ∃ x, M[j]? = some x := ⟨M[j], List.getElem?_eq_getElem hlt⟩
      obtain ⟨g, off, rfl, hqw, hat⟩ := HA.out (by intro e; rw [e] at hlt; simp at hlt)
      have hx0 := (hat j x hx).keep (Keep.of_below hB []) hqw (by simp)
      have hq : g < wr.heap.size := Nat.lt_of_lt_of_le hqw hB.size
      have hd : M.drop j = x :: M.drop (j + 1) := by
        obtain ⟨h1, h2⟩ := List.getElem?_eq_some_iff.1 hx
        rw [List.drop_eq_getElem_cons h1, h2]
      rw [hd] at hto
      simp only [toF] at hto
      have hxw := HW.out x (List.mem_of_getElem? hx)
      have hov := fun W => rover_any x.st mk W
      obtain ⟨ob, hob⟩ : ∃ b, overB x.st mk = b := ⟨_, rfl⟩
      rw [hob] at hov hto
      have hset := fun (W : World) (hD : DocRow (w.heap.size + 2) W (.slice av L.length cv) L) (hn : w.heap.size + 2 ≤ W.heap.size) => rdset_any hD hn h32 hu hok x hxw
      have hne := setL_ne L x
      have h32b := set_len L x h32 hu
      have hub := setL_up x hu
      have hokb := okW_set2 hok hxw
      obtain ⟨⟨e1, L1⟩, hs1⟩ : ∃ r, setL L x = r := ⟨_, rfl⟩
      rw [hs1] at hset hto hne h32b hub hokb
      simp only at hto hne h32b hub hokb
      have HOV := Lib.hid hov
      have HX0 := Lib.hid hx0
      obtain ⟨xk, xs, ⟨x1, x2, x3, x4, x5, x6, x7, x8⟩⟩ := x
      simp only [Ot.enc] at hset
      simp only at HOV
      have HSET := Lib.hid hset
      have HTO := Lib.hid hto
      have HNE := Lib.hid hne
      have H32 := Lib.hid h32b
      have HUB := Lib.hid hub
      have HOK := Lib.hid hokb
      obtain ⟨d0, d1, d2, d3, d4, d5, d6, d7, d8, d9⟩ := hx0
      simp only at d0 d1 d2 d3 d4 d5 d6 d7 d8 d9
      clear hat hx hd hto hxw hov hset hne h32b hub hokb hs1 hX hG hD hB hob h32 hu hok hsz
      cases ob with
      | true =>
        go_wp2_with (fail)
        refine ((HOV.out _)).mono ?_
        rintro e w3 ⟨rfl, rfl⟩
        obtain ⟨rfl, rfl⟩ : 12 = r1 ∧ L = r2 := by have h := HTO.out; simp only [if_true] at h; cases h; exact ⟨rfl, rfl⟩
        go_wp2_with (fail)
        have zq := setLx_at HX.out 0 (.slice none 0 0)
        have kf := setLx_keep wr (w.heap.size) 0 (.slice none 0 0)
        obtain ⟨z0, z1, _⟩ := zq.cells
        unfold setLx at z0 z1 kf
        refine bodyPost_ret (v := .tuple #[.agg #[.int .i64 0, (.slice none 0 0)], .int .i64 12]) (by simp [results, Try.results49, go_sem, z0, z1]) rfl ?_
        exact ⟨fun h => (by cases h), fun _ => rfl, HB.out.trans (kf.below HB.out.size (by simp))⟩
      | false =>
        go_wp2_with (fail)
        refine ((HOV.out _)).mono ?_
        rintro e w3 ⟨rfl, rfl⟩
        go_wp2_with (fail)
        clear d0 d1 d2 d3 d4 d5 d6 d7 d8 d9 bx0 bx1 bxf l0 l1 lf
        refine S2.wp_region_soup 12 [w.heap.size + 1] (S2.spOf [(1, ldS (w.heap.size + 1) mk (.slice av L.length cv)), (6, docS (w.heap.size + 2) e1 L1), (11, stS (w.heap.size + 1) mk L1)]) (by kernel_rfl) (by kernel_rfl) (spOk_set (by omega) (S2.Dep.of 8 (by kernel_rfl))) (fun i s hs => by have h := S2.spOf_mem hs; simp at h; rcases h with ⟨_, rfl⟩ | ⟨_, rfl⟩ | ⟨_, rfl⟩; exact HG.out.keep ((Keep.refl [] _).drew); exact trivial; exact ⟨_, HG.out.keep ((Keep.refl [] _).drew)⟩) ?_
        simp only [List.take_succ_cons, List.take_zero, List.drop_succ_cons, List.drop_zero]
        iterate 1
          with_reducible refine S2.soup_q ?_ ?_ ?_
          · rfl
          · rfl
          with_reducible apply Exists.intro
          with_reducible refine ⟨fun W hk _ => ?_, ?_⟩
          · obtain ⟨d0, d1, d2, d3, d4, d5, d6, d7, d8, d9⟩ := HX0.out.keep hk hq (by simp; omega)
            simp only at d0 d1 d2 d3 d4 d5 d6 d7 d8 d9
            unfold S2.Oper.same
            go_simp
            first | rfl | exact ⟨rfl, rfl⟩
          with_reducible apply Exists.intro
          with_reducible refine ⟨?_, ?_⟩
          · go_simp
            rfl
        refine S2.soup_s rfl rfl rfl (fun W hk hB _ => ?_) ?_
        · obtain ⟨l0, l1, lf⟩ := LxAt.cells hB
          unfold S2.Oper.does
          go_simp
          first | exact ⟨Keep.refl _ _, hk, rfl, trivial⟩ | exact ⟨Keep.refl _ _, rfl, trivial⟩ | exact ⟨hk, rfl, trivial⟩ | exact ⟨hk, rfl⟩ | exact ⟨Keep.refl _ _, rfl⟩ | exact ⟨Keep.refl _ _, hk, rfl⟩
        intro v hv
        obtain rfl : v = _ := hv
        with_reducible apply Exists.intro
        with_reducible refine ⟨?_, ?_⟩
        · go_simp
          rfl
        iterate 4
          with_reducible refine S2.soup_q ?_ ?_ ?_
          · rfl
          · rfl
          with_reducible apply Exists.intro
          with_reducible refine ⟨fun W hk _ => ?_, ?_⟩
          · obtain ⟨d0, d1, d2, d3, d4, d5, d6, d7, d8, d9⟩ := HX0.out.keep hk hq (by simp; omega)
            simp only at d0 d1 d2 d3 d4 d5 d6 d7 d8 d9
            unfold S2.Oper.same
            go_simp
            first | rfl | exact ⟨rfl, rfl⟩
          with_reducible apply Exists.intro
          with_reducible refine ⟨?_, ?_⟩
          · go_simp
            rfl
        refine S2.soup_s rfl rfl rfl (fun W hk _ _ => ?_) ?_
        · unfold S2.Oper.does
          go_simp
          refine (HSET.out _ (own_keep HD.out hk (fun g' hg' => by have := own_base HD.out g' hg'; simp; omega)) (Nat.le_trans HZ.out hk.size)).mono ?_
          rintro e w' ⟨v', rfl, hD', hb⟩
          simp only at hD'
          obtain ⟨a', n', rfl, _⟩ := own_shape hD'
          exact ⟨_, rfl, Keep.of_below hb _, hk.then_below hb, ⟨_, _, rfl⟩, _, _, rfl, hD'⟩
        rintro v ⟨av', cv', rfl⟩
        with_reducible apply Exists.intro
        with_reducible refine ⟨?_, ?_⟩
        · go_simp
          rfl
        iterate 4
          with_reducible refine S2.soup_q ?_ ?_ ?_
          · rfl
          · rfl
          with_reducible apply Exists.intro
          with_reducible refine ⟨fun W hk _ => ?_, ?_⟩
          · obtain ⟨d0, d1, d2, d3, d4, d5, d6, d7, d8, d9⟩ := HX0.out.keep hk hq (by simp; omega)
            simp only at d0 d1 d2 d3 d4 d5 d6 d7 d8 d9
            unfold S2.Oper.same
            go_simp
            first | rfl | exact ⟨rfl, rfl⟩
          with_reducible apply Exists.intro
          with_reducible refine ⟨?_, ?_⟩
          · go_simp
            rfl
        refine S2.soup_s rfl rfl rfl (fun W hk hB _ => ?_) ?_
        · obtain ⟨u, hu⟩ := hB
          obtain ⟨l0, l1, lf⟩ := LxAt.cells hu
          unfold S2.Oper.does
          go_simp
          refine ⟨⟨_, rfl⟩, hk.setCell _ _ _ (.inl (by simp)), rfl, fun a n e => ?_⟩
          have e2 : some (Value.agg #[Value.slice av' L1.length cv']) = some (Value.agg #[Value.slice a L1.length n]) := e
          simp only [Option.some.injEq, Value.agg.injEq, Array.mk.injEq, List.cons.injEq, Value.slice.injEq, true_and, and_true] at e2
          obtain ⟨rfl, rfl⟩ := e2
          exact hu.set1 _
        intro v hv
        obtain rfl : v = _ := hv
        with_reducible apply Exists.intro
        with_reducible refine ⟨?_, ?_⟩
        · go_simp
          rfl
        refine S2.soup_nil (fun W4 hk hS => ?_)
        have hD3 : DocRow (w.heap.size + 2) W4 (.slice av' L1.length cv') L1 := by
          obtain ⟨a2, n2, e2, h2⟩ := hS 6
          simp only [Value.tuple.injEq, Array.mk.injEq, List.cons.injEq, Value.agg.injEq, Value.slice.injEq, true_and, and_true] at e2
          obtain ⟨rfl, rfl⟩ := e2
          exact h2
        have hg4 : LxAt W4 (w.heap.size + 1) mk (.slice av' L1.length cv') := hS 11 av' cv' rfl
        have HG4 := Lib.hid hg4
        have HX4 := Lib.hid (HX.out.keep hk (by simp))
        have HB4 := Lib.hid (HB.out.trans (hk.below HB.out.size (by simp)))
        have HZ4 := Lib.hid (Nat.le_trans HZ.out hk.size)
        have HD4 := Lib.hid hD3
        obtain ⟨bx0, bx1, bxf⟩ := HX4.out.cells
        clear hk hS HSET hD3 hg4 HX HG HD HB HZ
        by_cases he : e1 = 0
        · have heb : (e1 != 0) = false := by simp [he]
          have HTO2 : Hid (toF mk L1 (M.drop (j + 1)) = (r1, r2)) := Lib.hid (by have h := HTO.out; simp only [Bool.false_eq_true, if_false] at h; rw [if_pos he] at h; exact h)
          clear he HTO HNE
          go_wp2_with (fail)
          go_roundw
          case rel => exact ⟨j + 1, L1, _, by go_num, by omega, HTO2.out, HX4.out, HG4.out, HD4.out, H32.out, HUB.out, HOK.out, HB4.out, HZ4.out⟩
          case measure => simp [intOf]; omega
        · have heb : (e1 != 0) = true := by simp [he]
          obtain ⟨rfl, rfl⟩ : e1 = r1 ∧ L = r2 := by have h := HTO.out; simp only [Bool.false_eq_true, if_false] at h; rw [if_neg he] at h; cases h; exact ⟨rfl, rfl⟩
          go_wp2_with (fail)
          have zq := setLx_at HX4.out 0 (.slice none 0 0)
          have kf := setLx_keep W4 (w.heap.size) 0 (.slice none 0 0)
          obtain ⟨z0, z1, _⟩ := zq.cells
          unfold setLx at z0 z1 kf
          refine bodyPost_ret (v := .tuple #[.agg #[.int .i64 0, (.slice none 0 0)], .int .i64 e1]) (by simp [results, Try.results49, go_sem, z0, z1]) rfl ?_
          exact ⟨fun h => absurd h he, fun _ => rfl, HB4.out.trans (kf.below HB4.out.size (by simp))⟩
    · obtain rfl : j = M.length := by omega
      rw [List.drop_length] at hto
      obtain ⟨rfl, rfl⟩ : 0 = r1 ∧ L = r2 := by simp only [toF] at hto; cases hto; exact ⟨rfl, rfl⟩
      clear hX hG hD hB hto hlt hj
      go_wp2_with (fail)
      have zq := setLx_at HX.out mk (.slice av L.length cv)
      have kf := setLx_keep wr (w.heap.size) mk (.slice av L.length cv)
      obtain ⟨z0, z1, _⟩ := zq.cells
      unfold setLx at z0 z1 kf
      refine bodyPost_ret (v := .tuple #[.agg #[.int .i64 mk, (.slice av L.length cv)], .int .i64 0]) (by simp [results, Try.results49, go_sem, z0, z1]) rfl ?_
      exact ⟨fun _ => ⟨_, rfl, own_mono (own_keep HD.out kf (fun g hg => by have := own_base HD.out g hg; simp; omega)) (by omega)⟩, fun h => absurd rfl h, HB.out.trans (kf.below HB.out.size (by simp))⟩
end Go.Proofs.Ytmhbibcfbencnaa
