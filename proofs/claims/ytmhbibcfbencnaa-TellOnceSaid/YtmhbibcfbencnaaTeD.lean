/- tell: are acts too many?; acts done to a line. -/
import Derived.Test.YtmhbibcfbencnaaTeB
import Derived.Test.YtmhbibcfbencnaaRfC
import Derived.Test.YtmhbibcfbencnaaStU
import Derived.Maps.AppendAt
namespace Go.Proofs.Ytmhbibcfbencnaa
open Go.RowKit Go.Lib
set_option linter.unusedSimpArgs false
set_option linter.unusedVariables false
abbrev A4Row := RowAt A4At 4
theorem A4Row.keep {X : List Nat} {W W' : World} {A : Option Addr} {L : List A4} (h : A4Row W A L) (hk : Keep X W W') (hx : L ≠ [] → ∀ b off, A = some ⟨b, off, none⟩ → b ∉ X) : A4Row W' A L :=
  RowAt.keep (fun b o x hl hx hat => hat.keep hk hl hx) h hk hx
theorem A4Row.below {W W' : World} {A : Option Addr} {L : List A4} (h : A4Row W A L) (hb : Below W.heap.size W W') : A4Row W' A L := h.keep (Keep.of_below hb []) (fun _ _ _ _ => by simp)
def Fine4 (L : List A4) : Prop := L.length ≤ 200 ∧ ∀ x ∈ L, x.key.size ≤ 100
set_option maxHeartbeats 2000000 in
theorem great10_any {w : World} {A : Option Addr} {L : List A4} (c : Nat) (hA : A4Row w A L) (hL : L.length ≤ 9223372036854775807) (hw : ∀ y ∈ L, A4.Wf y) :
    Calls Try.prog 26 #[.slice A L.length c] w (GreatP Fine4 L w) := by
  have hz := Int.natCast_nonneg L.length
  have HA := Lib.hid hA
  have HW := Lib.hid hw
  clear hA hw
  by_cases h200 : 200 < L.length
  · go_enter Try.func26, Try.ntmps26
    go_wp2_with (fail)
    go_ret
    exact ⟨true, rfl, fun h => (by cases h), rfl⟩
  · go_enter Try.func26, Try.ntmps26
    go_wp2_with (fail)
    go_loop [3] (fun i => ∃ j : Nat, i = .int .i64 j ∧ j ≤ L.length ∧ ∀ x ∈ L.take j, x.key.size ≤ 100) (fun i => L.length - (intOf i).toNat)
    case atStart => exact ⟨0, rfl, Nat.zero_le _, by simp⟩
    case round =>
      obtain ⟨j, rfl, hj, hf⟩ := hrel
      have HF := Lib.hid hf
      clear hf
      by_cases hlt : j < L.length
      · obtain ⟨x, hx⟩ : ∃ x, L[j]? = some x := ⟨L[j], List.getElem?_eq_getElem hlt⟩
        obtain ⟨b, off, rfl, hbl, hat⟩ := HA.out (by intro e; rw [e] at hlt; simp at hlt)
        have hx0 := hat j x hx
        have ht : L.take (j + 1) = L.take j ++ [x] := by rw [List.take_add_one, hx]; rfl
        have HT := Lib.hid ht
        have k1 := (HW.out x (List.mem_of_getElem? hx)).key
        unfold maxLen at k1
        have c1 := hx0.c1
        obtain ⟨dd, k, t, n⟩ := x
        simp only at c1 k1
        have z1 := Int.natCast_nonneg k.size
        clear hat hx hx0 ht
        by_cases g1 : 100 < k.size
        · go_wp2_with (fail)
          go_ret
          exact ⟨true, rfl, fun h => (by cases h), rfl⟩
        · go_wp2_with (fail)
          go_round
          case rel =>
            refine ⟨j + 1, by go_num, by omega, fun y hy => ?_⟩
            rw [HT.out] at hy
            rcases List.mem_append.1 hy with hy | hy
            · exact HF.out y hy
            · simp at hy; subst hy; simp only; omega
          case measure => simp [intOf]; omega
      · obtain rfl : j = L.length := by omega
        go_wp2_with (fail)
        go_ret
        refine ⟨false, rfl, fun _ => ⟨by omega, ?_⟩, rfl⟩
        have := HF.out
        rwa [List.take_length] at this
/-- Nothing is appended. -/
theorem run_append_empty {P : Program} {w : World} (base : Nat) (t ty e : TypeId) (i : TypeInfo) (size : Nat) (ht : P.underlying t = some (.slice e)) (hi : P.info? e = some i)
    (v : Value) (n : Nat) (xs : List Value) (hown : w.ownsRow base e size v n xs) (A : Option Addr) (c : Nat) : (Builtin.append_ #[t, t] ty #[v, .slice A 0 c]).run P w = .ok v w := by
  rcases hown.2 with ⟨rfl, rfl⟩ | ⟨g, cap, cur, rfl, _, _, hnc, _⟩
  · cases A <;> simp [Builtin.append_, run_underlying ht, sizeOf, typeInfo, hi, Builtin.lenOf, Builtin.firstCells, loadCells, loadCellsFrom]
  · cases A <;> simp [Builtin.append_, run_underlying ht, sizeOf, typeInfo, hi, Builtin.lenOf, Builtin.firstCells, hnc, storeCells, loadCells, loadCellsFrom]
theorem wpList_append_empty {P : Program} {w : World} {ops : Array Oper} {rest : List Oper} {o : Oper} {a : Act} {Q : Exit → Act → World → Prop} (hgd : o.guard = none) (s x : Operand) (t : TypeId)
    (ho : o.op = .call { callee := .builtin .append, args := #[s, x], argTypes := #[t, t] }) (base : Nat) (e : TypeId) (i : TypeInfo) (size : Nat) (ht : P.underlying t = some (.slice e)) (hi : P.info? e = some i)
    (v : Value) (n : Nat) (xs : List Value) (hs : a.eval s = v) (hown : w.ownsRow base e size v n xs) (A : Option Addr) (c : Nat) (hx : a.eval x = .slice A 0 c) (h : wpList P ops Q rest (a.put o.dst v) w) : wpList P ops Q (o :: rest) a w := by
  refine wpList_plain hgd fun K hK => ?_
  have hr := run_append_empty (P := P) (w := w) base t o.type e i size ht hi v n xs hown A c
  unfold Oper.wp execOp
  simp only [ho, resolve, invoke, builtin, Sem.run_bind, Sem.run_pure, Result.andThen_ok, List.map_toArray, List.map_cons, List.map_nil, hs, hx, hr]
  exact hK _ _ h
theorem flatE_cons (x : Ot) (r : List Ot) : flatE Ot.enc (x :: r) = Ot.enc x ++ flatE Ot.enc r := by simp [flatE]
theorem ots_news {W : World} {g off : Nat} {L : List Ot} (h : OtsRow W (some ⟨g, off, none⟩) L) (hL : L ≠ []) : ∀ j u, (flatE Ot.enc L)[j]? = some u → W.cell? ((⟨g, off, none⟩ : Addr).add j) = some u := by
  intro j u hj
  obtain ⟨g', off', e, hg, hat⟩ := h hL
  cases e
  rw [add_at]
  have hjl := (List.getElem?_eq_some_iff.1 hj).1
  rw [flatE_len otlen] at hjl
  obtain ⟨i, f, rfl, hf⟩ : ∃ i f, j = i * 10 + f ∧ f < 10 := ⟨j / 10, j % 10, by omega, by omega⟩
  have hil : i < L.length := by omega
  have hx := hat i L[i] (List.getElem?_eq_getElem hil)
  obtain ⟨c0, c1, c2, c3, c4, c5, c6, c7, c8, c9⟩ := hx
  have he : (flatE Ot.enc L)[i * 10 + f]? = (Ot.enc L[i])[f]? := by
    have e : L.drop i = L[i] :: L.drop (i + 1) := List.drop_eq_getElem_cons hil
    rw [← List.getElem?_drop, ← flatE_drop, e, flatE_cons]
    rw [List.getElem?_append_left (by rw [otlen]; exact hf)]
  rw [he] at hj
  rw [← Nat.add_assoc]
  rcases f with _ | _ | _ | _ | _ | _ | _ | _ | _ | _ | f
  all_goals first
    | omega
    | (simp only [Ot.enc, List.getElem?_cons_zero, List.getElem?_cons_succ, Option.some.injEq] at hj; subst hj; first | exact c0 | exact c1 | exact c2 | exact c3 | exact c4 | exact c5 | exact c6 | exact c7 | exact c8 | exact c9)
/-- What acts do: mark, windows, what was told. -/
def acT (s : Int × List Ot × List Ot) (x : A4) : Int × List Ot × List Ot :=
  if x.dd = 0 then (s.1, (tpF s.1 s.2.1 x.key x.t x.n).2, s.2.2) else if x.dd = 1 then ((tmF s.1 s.2.1 x.t).2.2.1, (tmF s.1 s.2.1 x.t).2.2.2, s.2.2 ++ (tmF s.1 s.2.1 x.t).2.1) else s
def plT (s : Int × List Ot × List Ot) (l : List A4) : Int × List Ot × List Ot := l.foldl acT s
theorem plT_snoc (s : Int × List Ot × List Ot) (l : List A4) (x : A4) : plT s (l ++ [x]) = acT (plT s l) x := by unfold plT; rw [List.foldl_append]; rfl
theorem tpF_up {mk : Int} {L : List Ot} (k : ByteArray) (t v : Int) (h : L.length ≤ 32) (hu : L.Pairwise ltO) : (tpF mk L k t v).2.length ≤ 32 ∧ (tpF mk L k t v).2.Pairwise ltO := by
  unfold tpF
  split
  · exact ⟨h, hu⟩
  · split
    · exact ⟨h, hu⟩
    · split
      · exact ⟨put_len L k t v h hu, putL_up k t v hu⟩
      · exact ⟨h, hu⟩
theorem tmF_up {mk : Int} {L : List Ot} (t : Int) (h : L.length ≤ 32) (hu : L.Pairwise ltO) : (tmF mk L t).2.2.2.length ≤ 32 ∧ (tmF mk L t).2.2.2.Pairwise ltO ∧ (tmF mk L t).2.1.length ≤ 32 := by
  unfold tmF
  split
  · exact ⟨h, hu, by simp⟩
  · split
    · exact ⟨h, hu, by simp⟩
    · exact ⟨Nat.le_trans (rest_len t L) h, hu.filter _, Nat.le_trans (List.length_filter_le _ _) h⟩
def PlP (w : World) (q p b : Nat) (s : Int × List Ot × List Ot) (e : Ending) (w' : World) : Prop := ∃ v, e = .returned v ∧ DocRow w.heap.size w' v s.2.2 ∧ LnAt w' q p b s.1 s.2.1 ∧ Keep [q, b] w w'
set_option maxRecDepth 100000 in
set_option maxHeartbeats 4000000 in
theorem plays10_any {w : World} {q p b : Nat} {mk0 : Int} {L0 : List Ot} {A : Option Addr} {l : List A4} (c : Nat) (hL : LnAt w q p b mk0 L0) (h32 : L0.length ≤ 32) (hA : A4Row w A l) (hw : ∀ y ∈ l, A4.Wf y) (h200 : l.length ≤ 200) (hab : l ≠ [] → ∀ g off, A = some ⟨g, off, none⟩ → g ≠ q ∧ g ≠ b) :
    Calls Try.prog 34 #[.pointer (some ⟨q, 0, none⟩), .slice A l.length c] w (PlP w q p b (plT (mk0, L0, []) l)) := by
  obtain ⟨R, hR⟩ : ∃ R, plT (mk0, L0, []) l = R := ⟨_, rfl⟩
  rw [hR]
  have HR := Lib.hid hR
  have hz := Int.natCast_nonneg l.length
  have hz200 : (l.length : Int) ≤ 200 := by omega
  have HA := Lib.hid hA
  have HW := Lib.hid hw
  have HAB := Lib.hid hab
  have HL0 := Lib.hid hL
  have hlt0 := hL.lt
  have HLT := Lib.hid hlt0
  clear hR hA hw hab hL hlt0
  go_enter Try.func34, Try.ntmps34
  go_wp2_with (fail)
  go_loopw [5, 6] (fun v5 i wr => ∃ (j : Nat) (mk : Int) (L told : List Ot) (vt : Value), vt = v5 ∧ i = .int .i64 j ∧ j ≤ l.length ∧ plT (mk0, L0, []) (l.take j) = (mk, L, told) ∧ LnAt wr q p b mk L ∧ L.length ≤ 32 ∧ told.length ≤ 32 * j ∧ DocRow w.heap.size wr vt told ∧ Keep [q, b] w wr) (fun _ i _ => l.length - (intOf i).toNat)
  case atStart => exact ⟨0, mk0, L0, [], _, rfl, rfl, Nat.zero_le _, rfl, HL0.out, h32, by simp, World.ownsRow_nil _ _ _ _, Keep.refl _ _⟩
  case round =>
    clear HL0
    obtain ⟨j, mk, L, told, vt, rfl, rfl, hj, hpl, hln, hl32, htl, hdr, hk0⟩ := hrel
    have HLN := Lib.hid hln
    have HDR := Lib.hid hdr
    have HK := Lib.hid hk0
    obtain ⟨at_, ct, rfl, _⟩ := own_shape hdr
    have h0j : (0 : Int) ≤ (j : Int) := Int.natCast_nonneg j
    have hup := hln.st.up
    have HUP := Lib.hid hup
    by_cases hlt : j < l.length
    · have hjn : (j : Int) < (l.length : Int) := by omega
      obtain ⟨x, hx⟩ : ∃ x, l[j]? = some x := ⟨l[j], List.getElem?_eq_getElem hlt⟩
      obtain ⟨g0, off, rfl, hg0, hat⟩ := (A4Row.keep HA.out hk0 (fun hl g off hq => by have := HAB.out hl g off hq; simp; omega)) (by intro e; rw [e] at hlt; simp at hlt)
      have hx0 := hat j x hx
      have HXW := Lib.hid (HW.out x (List.mem_of_getElem? hx))
      have ht : l.take (j + 1) = l.take j ++ [x] := by rw [List.take_add_one, hx]; rfl
      have hpn : plT (mk0, L0, []) (l.take (j + 1)) = acT (mk, L, told) x := by rw [ht, plT_snoc, hpl]
      have HPN := Lib.hid hpn
      have HX := Lib.hid hx0
      obtain ⟨c0, c1, c2, c3⟩ := hx0
      obtain ⟨dd, xk, xt, xn⟩ := x
      simp only at c0 c1 c2 c3
      clear hat hx ht hpn hpl hln hdr hk0 hup
      by_cases t0 : dd = 0
      · subst t0
        have hput := tput_any HLN.out (by omega) xk HXW.out.key xt xn
        obtain ⟨⟨e1, L1⟩, hr⟩ : ∃ r, tpF mk L xk xt xn = r := ⟨_, rfl⟩
        have h2 := tpF_up (mk := mk) xk xt xn hl32 HUP.out
        rw [hr] at h2
        have HN2 : Hid (plT (mk0, L0, []) (l.take (j + 1)) = (mk, L1, told)) := Lib.hid (by rw [HPN.out]; simp only [acT, if_true]; rw [hr])
        have hputw := fun (W : World) (h : LnAt W q p b mk L) => tput_any h (by omega) xk HXW.out.key xt xn
        rw [hr] at hputw
        simp only at hputw h2
        have HPU := Lib.hid hputw
        clear hput hr hputw HPN
        go_wp2_with (fail)
        clear c0 c1 c2 c3
        refine wp_region_soup 16 [] (spOf []) (by kernel_rfl) (by kernel_rfl) (spOk_of (by simp [Spec.is_ok])) (pre_of (by simp [Spec.is_ok])) ?_
        simp only [List.take_succ_cons, List.take_zero, List.drop_succ_cons, List.drop_zero]
        iterate 16
          with_reducible refine soup_q ?_ ?_ ?_
          · rfl
          · rfl
          with_reducible apply Exists.intro
          with_reducible refine ⟨fun W hk _ => ?_, ?_⟩
          · obtain ⟨c0, c1, c2, c3⟩ := HX.out.keep hk hg0 (by simp)
            simp only at c0 c1 c2 c3
            unfold Oper.same
            go_simp
            first | rfl | exact ⟨rfl, rfl⟩
          with_reducible apply Exists.intro
          with_reducible refine ⟨?_, ?_⟩
          · go_simp
            rfl
        refine soup_nil (fun W3 hk hS => ?_)
        have HL3 := Lib.hid (HLN.out.keep hk)
        have HD3 := Lib.hid (own_keep HDR.out hk (fun _ _ => by simp))
        have HK3 := Lib.hid (HK.out.step hk (fun y hy => by simp at hy))
        clear hk hS HX HLN HDR HK
        go_wp2_with (fail)
        refine (HPU.out _ HL3.out).mono ?_
        rintro e w4 ⟨rfl, hL4, hk4⟩
        have HL4 := Lib.hid hL4
        have HD4 := Lib.hid (own_keep HD3.out hk4 (fun g hg => by have := own_base HD3.out g hg; have := HLT.out; simp; omega))
        have HK4 := Lib.hid (HK3.out.step hk4 (fun y hy => .inl (by simp at hy; simp [hy])))
        clear hL4 hk4 HPU HL3 HD3 HK3
        go_wp2_with (fail)
        go_roundw
        case rel => exact ⟨j + 1, mk, L1, told, _, rfl, by go_num, by omega, HN2.out, HL4.out, h2.1, by omega, HD4.out, HK4.out⟩
        case measure => simp [intOf]; omega
      by_cases t1 : dd = 1
      · subst t1
        have hm := tmark_any HLN.out (by omega) xt
        have h2 := tmF_up (mk := mk) xt hl32 HUP.out
        obtain ⟨⟨e1, outs, mk1, L1⟩, hr⟩ : ∃ r, tmF mk L xt = r := ⟨_, rfl⟩
        have HN2 : Hid (plT (mk0, L0, []) (l.take (j + 1)) = (mk1, L1, told ++ outs)) := Lib.hid (by rw [HPN.out]; simp only [acT]; rw [if_neg (by decide), if_pos trivial, hr])
        rw [hr] at hm h2
        unfold MarkP at hm
        simp only at hm h2
        obtain ⟨no, hno⟩ : ∃ n, outs.length = n := ⟨_, rfl⟩
        rw [hno] at hm h2
        have HM := Lib.hid hm
        have HNO := Lib.hid hno
        clear hm hr HPN hno
        go_wp2_with (fail)
        refine HM.out.mono ?_
        rintro e w4 ⟨A4, c4, rfl, hE, hL4, hk4⟩
        have HL4 := Lib.hid hL4
        have HV4 := Lib.hid (own_keep HDR.out hk4 (fun g hg => by have := own_base HDR.out g hg; have := HLT.out; simp; omega))
        have HK4 := Lib.hid (HK.out.trans hk4)
        have HE4 := Lib.hid hE
        clear hL4 hk4 hE HM HLN HDR HK c0 c1 c2 c3
        obtain ⟨i0, hi0, hz0, hz1, hz2⟩ := info_parts infoOt
        by_cases hne : outs = []
        · subst hne
          obtain rfl : 0 = no := HNO.out
          go_wp2_with (at_builtin; refine wpList_append_empty rfl _ _ 38 rfl w.heap.size 33 i0 10 Try.underlying38 hi0 _ _ _ rfl HV4.out A4 c4 rfl ?_)
          rw [List.append_nil] at HN2
          go_roundw
          case rel => exact ⟨j + 1, mk1, L1, told, _, rfl, by go_num, by omega, HN2.out, HL4.out, h2.1, by omega, HV4.out, HK4.out⟩
          case measure => simp [intOf]; omega
        · obtain ⟨g4, rfl, hg4, _, _⟩ := HE4.out hne
          have HRW := Lib.hid (HE4.out.row)
          have hno := HNO.out
          go_wp2_with (at_builtin; refine wpList_append_own_at _ rfl _ _ 38 rfl w.heap.size 33 i0 (Ot.val ⟨ByteArray.empty, 0, Ag.zero⟩) 10 88 Try.underlying38 hi0 hz0 hz1 hz2 rfl (by decide) _ _ _ rfl HV4.out ⟨g4, 0, none⟩ no c4 (flatE Ot.enc outs) rfl (by rw [flatE_len otlen, hno]) ?c1 ?c2 ?c3 ?c4 ?c5 ?_)
          case c1 => exact ots_news HRW.out hne
          case c2 => exact flatE_one _
          case c3 => unfold maxLen; omega
          case c4 => omega
          case c5 => exact HK4.out.size
          clear hno
          intro v' w5 hown' hgrow _ _
          have kw : Keep (Value.slice at_ told.length ct).ownBlock.toList w4 w5 := (Keep.refl _ w4).grown hgrow (fun k hk => .inl (by simp [hk]))
          have hob : ∀ y, y < w.heap.size → y ∉ (Value.slice at_ told.length ct).ownBlock.toList := fun y hy hm => by have := own_base HV4.out y (by simpa using hm); omega
          have HL5 := Lib.hid (HL4.out.keep kw (hob _ HLT.out.1) (hob _ HLT.out.2.1) (hob _ HLT.out.2.2))
          have HK5 := Lib.hid (HK4.out.step kw (fun y hy => .inr (by have := own_base HV4.out y (by simpa using hy); omega)))
          have HD5 : Hid (DocRow w.heap.size w5 v' (told ++ outs)) := Lib.hid (by unfold DocRow; rw [List.length_append, flatE_app, HNO.out]; exact hown')
          have htl2 : (told ++ outs).length ≤ 32 * (j + 1) := by rw [List.length_append, HNO.out]; omega
          clear hown' hgrow kw hob HV4 HL4 HK4
          go_wp2_with (fail)
          go_roundw
          case rel => exact ⟨j + 1, mk1, L1, told ++ outs, _, rfl, by go_num, by omega, HN2.out, HL5.out, h2.1, htl2, HD5.out, HK5.out⟩
          case measure => simp [intOf]; omega
      have b0 : (dd == 0) = false := by simp [t0]
      have b1 : (dd == 1) = false := by simp [t1]
      have HN2 : Hid (plT (mk0, L0, []) (l.take (j + 1)) = (mk, L, told)) := Lib.hid (by rw [HPN.out]; simp only [acT]; rw [if_neg t0, if_neg t1])
      clear t0 t1 HPN
      go_wp2_with (fail)
      go_roundw
      case rel => exact ⟨j + 1, mk, L, told, _, rfl, by go_num, by omega, HN2.out, HLN.out, hl32, by omega, HDR.out, HK.out⟩
      case measure => simp [intOf]; omega
    · obtain rfl : j = l.length := by omega
      rw [List.take_length] at hpl
      have HPE : Hid ((mk, L, told) = R) := Lib.hid (by rw [← hpl]; exact HR.out)
      clear hpl hln hdr hk0 hlt hj hup htl
      go_wp2_with (fail)
      go_ret
      obtain rfl := HPE.out
      exact ⟨_, rfl, HDR.out, HLN.out, HK.out⟩
end Go.Proofs.Ytmhbibcfbencnaa
