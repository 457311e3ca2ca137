/- tell: a line as it is (Of). -/
import Derived.Test.YtmhbibcfbencnaaTeA
import Derived.Test.YtmhbibcfbencnaaRfB
namespace Go.Proofs.Ytmhbibcfbencnaa
open Go.RowKit Go.Lib
set_option linter.unusedSimpArgs false
set_option linter.unusedVariables false
def toF (mk : Int) : List Ot → List Ot → Int × List Ot
  | L, [] => (0, L)
  | L, o :: r => if overB o.st mk then (12, L) else if (setL L o).1 = 0 then toF mk (setL L o).2 r else ((setL L o).1, L)
/-- What Of answers. -/
def ofF (mk : Int) (M : List Ot) : Int × List Ot := if rightB mk = false then (1, []) else toF mk [] M
def OfP (w : World) (mk : Int) (r : Int × List Ot) (e : Ending) (w' : World) : Prop :=
  (r.1 = 0 → ∃ q p b, e = .returned (.tuple #[.pointer (some ⟨q, 0, none⟩), .int .i64 0]) ∧ LnAt w' q p b mk r.2 ∧ w.heap.size ≤ q ∧ w.heap.size ≤ p ∧ w.heap.size ≤ b) ∧
  (r.1 ≠ 0 → e = .returned (.tuple #[.pointer none, .int .i64 r.1])) ∧ Below w.heap.size w w'
/-- Set, in a drawn region. -/
def Spec.setS (p b : Nat) (L L' : List Ot) (c : Int) : Spec := { p := fun _ v => v = .int .i64 c, A := fun _ _ w => SrAt w p b L', B := fun w => SrAt w p b L, G := fun _ W W' => Keep [b] W W' }
theorem setL_ne (L : List Ot) (o : Ot) (h : (setL L o).1 ≠ 0) : (setL L o).2 = L := by
  unfold setL at *
  split
  · rfl
  · split
    · rfl
    · split
      · rfl
      · rename_i h1 h2 h3
        rw [if_neg h1, if_neg h2, if_neg h3] at h
        exact absurd rfl h
set_option maxRecDepth 100000 in
set_option maxHeartbeats 4000000 in
theorem tof_any {w : World} {A : Option Addr} {M : List Ot} (c : Nat) (hA : OtsRow w A M) (hM : M.length ≤ 9223372036854775807) (hw : ∀ y ∈ M, y.key.size ≤ maxLen) (mk : Int) :
    Calls Try.prog 47 #[.int .i64 mk, .slice A M.length c] w (OfP w mk (ofF mk M)) := by
  obtain ⟨⟨r1, r2⟩, hr⟩ : ∃ r, ofF mk M = r := ⟨_, rfl⟩
  rw [hr]
  unfold ofF at hr
  have hrt := fun W => right_any mk W
  have hz := Int.natCast_nonneg M.length
  have HA := Lib.hid hA
  have HW := Lib.hid hw
  obtain ⟨rb, hrb⟩ : ∃ x, rightB mk = x := ⟨_, rfl⟩
  rw [hrb] at hrt hr
  have HT := Lib.hid hrt
  clear hrt hrb hA hw
  cases rb with
  | false =>
    obtain ⟨rfl, rfl⟩ : 1 = r1 ∧ [] = r2 := by rw [if_pos rfl] at hr; cases hr; exact ⟨rfl, rfl⟩
    go_enter Try.func47, Try.ntmps47
    go_wp2_with (fail)
    refine ((HT.out _)).mono ?_
    rintro e w2 ⟨rfl, rfl⟩
    go_wp2_with (fail)
    (try simp only [Exit.inBlock, Exit.then])
    refine bodyPost_ret (v := .tuple #[.pointer none, .int .i64 1]) (by simp [results, Try.results47, go_sem]) rfl ?_
    exact ⟨fun h => (by cases h), fun _ => rfl, Below.refl _ _⟩
  | true =>
  rw [if_neg (by decide)] at hr
  have HR := Lib.hid hr
  clear hr
  go_enter Try.func47, Try.ntmps47
  go_wp2_with (fail)
  refine ((HT.out _)).mono ?_
  rintro e w2 ⟨rfl, rfl⟩
  go_wp2_with (fail)
  refine (rnew_any _).mono ?_
  rintro e w1 ⟨p, b, rfl, hS, hp, hb, hB⟩
  obtain ⟨q, hq⟩ : ∃ n, w1.heap.size = n := ⟨_, rfl⟩
  have hk0 : Keep [] w1 (w1.alloc (.cells #[.pointer (some ⟨p, 0, none⟩), .int .i64 mk] 105)) := (Keep.refl _ _).alloc _
  have hl := hS.lt
  have HS0 := Lib.hid (hS.keep hk0 (by simp) (by simp))
  have HL0 : Hid (LnB (w1.alloc (.cells #[.pointer (some ⟨p, 0, none⟩), .int .i64 mk] 105)) q p mk) := Lib.hid (hq ▸ LnB.new w1 p mk)
  have HB0 := Lib.hid (hB.trans (hk0.below hB.size (by simp)))
  have HQ := Lib.hid (show p < q ∧ b < q ∧ w.heap.size ≤ p ∧ w.heap.size ≤ b ∧ w.heap.size ≤ q from ⟨by omega, by omega, hp, hb, by have := hB.size; omega⟩)
  have HQN := Lib.hid (show q < (w1.alloc (.cells #[.pointer (some ⟨p, 0, none⟩), .int .i64 mk] 105)).heap.size from by simp; omega)
  clear hS hp hb hB hk0 hl
  go_wp2_with (fail)
  clear hq
  go_loopw [19] (fun i wr => ∃ (j : Nat) (L : List Ot), i = .int .i64 j ∧ j ≤ M.length ∧ toF mk L (M.drop j) = (r1, r2) ∧ SrAt wr p b L ∧ L.length ≤ 32 ∧ L.Pairwise ltO ∧ LnB wr q p mk ∧ Below w.heap.size w wr) (fun i _ => M.length - (intOf i).toNat)
  case atStart => exact ⟨0, [], rfl, Nat.zero_le _, HR.out, HS0.out, by simp, List.Pairwise.nil, HL0.out, HB0.out⟩
  case round =>
    clear HR HS0 HL0 HB0 HQN
    obtain ⟨j, L, rfl, hj, hto, hS, h32, hu, hln, hB⟩ := hrel
    have h0j : (0 : Int) ≤ (j : Int) := Int.natCast_nonneg j
    by_cases hlt : j < M.length
    · have hjn : (j : Int) < (M.length : Int) := by omega
      obtain ⟨x, hx⟩ : ∃ x, M[j]? = some x := ⟨M[j], List.getElem?_eq_getElem hlt⟩
      obtain ⟨g, off, rfl, hg, hat⟩ := (HA.out.below hB) (by intro e; rw [e] at hlt; simp at hlt)
      have hx0 := hat j x hx
      have hd : M.drop j = x :: M.drop (j + 1) := by
        obtain ⟨h1, h2⟩ := List.getElem?_eq_some_iff.1 hx
        rw [List.drop_eq_getElem_cons h1, h2]
      rw [hd] at hto
      simp only [toF] at hto
      have hxk := HW.out x (List.mem_of_getElem? hx)
      have hov := fun W => over_any x.st mk W
      obtain ⟨ob, hob⟩ : ∃ b, overB x.st mk = b := ⟨_, rfl⟩
      rw [hob] at hov hto
      have hset := fun (W : World) (h : SrAt W p b L) => rset_any h (by omega) x hxk
      have hne := setL_ne L x
      have h32b := set_len L x h32 hu
      have hub := setL_up x hu
      obtain ⟨⟨e1, L1⟩, hs1⟩ : ∃ r, setL L x = r := ⟨_, rfl⟩
      rw [hs1] at hset hto hne h32b hub
      simp only at hto hne h32b hub
      have HOV := Lib.hid hov
      obtain ⟨xk, xs, ⟨x1, x2, x3, x4, x5, x6, x7, x8⟩⟩ := x
      simp only [Ot.enc] at hset
      simp only at HOV
      have HSET := Lib.hid hset
      have HTO := Lib.hid hto
      have HNE := Lib.hid hne
      have H32 := Lib.hid h32b
      have HUB := Lib.hid hub
      obtain ⟨d0, d1, d2, d3, d4, d5, d6, d7, d8, d9⟩ := hx0
      simp only at d0 d1 d2 d3 d4 d5 d6 d7 d8 d9
      have hka : Keep [] wr (wr.alloc (.cells #[.string xk, .int .i64 xs, .int .i64 x1, .int .i64 x2, .int .i64 x3, .int .i64 x4, .int .i64 x5, .int .i64 x6, .int .i64 x7, .int .i64 x8] 33)) := (Keep.refl _ _).alloc _
      have hog : OtAt (wr.alloc (.cells #[.string xk, .int .i64 xs, .int .i64 x1, .int .i64 x2, .int .i64 x3, .int .i64 x4, .int .i64 x5, .int .i64 x6, .int .i64 x7, .int .i64 x8] 33)) wr.heap.size ⟨xk, xs, ⟨x1, x2, x3, x4, x5, x6, x7, x8⟩⟩ := OtAt.new wr ⟨xk, xs, ⟨x1, x2, x3, x4, x5, x6, x7, x8⟩⟩
      obtain ⟨W1, hW1⟩ : ∃ W, wr.alloc (.cells #[.string xk, .int .i64 xs, .int .i64 x1, .int .i64 x2, .int .i64 x3, .int .i64 x4, .int .i64 x5, .int .i64 x6, .int .i64 x7, .int .i64 x8] 33) = W := ⟨_, rfl⟩
      rw [hW1] at hka hog
      have HO := Lib.hid hog
      have HSR := Lib.hid (hS.keep hka (by simp) (by simp))
      have HLB := Lib.hid (hln.keep hka)
      have HQN := Lib.hid (show q < wr.heap.size ∧ b < wr.heap.size from ⟨lt_of_heap hln, hS.lt.2.1⟩)
      have HBB := Lib.hid (hB.trans (hka.below hB.size (by simp)))
      obtain ⟨a0, a1, a2, a3, a4, a5, a6, a7, a8, a9, af⟩ := hog.all
      simp only at a0 a1 a2 a3 a4 a5 a6 a7 a8 a9
      clear hat hx hd hto hxk hov hset hne h32b hub hs1 hka hog hS hln hB hob h32 hu
      cases ob with
      | true =>
        go_wp2_with (fail)
        refine ((HOV.out _)).mono ?_
        rintro e w3 ⟨rfl, rfl⟩
        obtain ⟨rfl, rfl⟩ : 12 = r1 ∧ L = r2 := by have h := HTO.out; simp only [if_true] at h; cases h; exact ⟨rfl, rfl⟩
        go_wp2_with (fail)
        (try simp only [Exit.inBlock, Exit.then])
        refine bodyPost_ret (v := .tuple #[.pointer none, .int .i64 12]) (by simp [results, Try.results47, go_sem]) rfl ?_
        exact ⟨fun h => (by cases h), fun _ => rfl, HBB.out⟩
      | false =>
        go_wp2_with (fail)
        refine ((HOV.out _)).mono ?_
        rintro e w3 ⟨rfl, rfl⟩
        go_wp2_with (fail)
        clear a0 a1 a2 a3 a4 a5 a6 a7 a8 a9 af hW1 d0 d1 d2 d3 d4 d5 d6 d7 d8 d9
        refine wp_region_soup 6 [b] (spOf [(5, Spec.setS p b L L1 e1)]) (by kernel_rfl) (by kernel_rfl) (spOk_one (fun _ => ⟨_, rfl⟩)) (fun i s hs => by have h := spOf_mem hs; simp at h; obtain ⟨_, rfl⟩ := h; exact HSR.out.keep ((Keep.refl [] _).drew) (by simp) (by simp)) ?_
        simp only [List.take_succ_cons, List.take_zero, List.drop_succ_cons, List.drop_zero]
        iterate 5
          with_reducible refine soup_q ?_ ?_ ?_
          · rfl
          · rfl
          with_reducible apply Exists.intro
          with_reducible refine ⟨fun W hk _ => ?_, ?_⟩
          · obtain ⟨l0, l1, lf⟩ := (HLB.out.keep hk (by have := HQ.out; have := HQN.out; simp; omega)).cells
            obtain ⟨a0, a1, a2, a3, a4, a5, a6, a7, a8, a9, af⟩ := (HO.out.keep hk (by have := HQ.out; have := HQN.out; simp; omega)).all
            simp only at a0 a1 a2 a3 a4 a5 a6 a7 a8 a9
            unfold Oper.same
            go_simp
            first | rfl | exact ⟨rfl, rfl⟩
          with_reducible apply Exists.intro
          with_reducible refine ⟨?_, ?_⟩
          · go_simp
            rfl
        refine soup_s rfl rfl rfl (fun W hk hB _ => ?_) ?_
        · unfold Oper.does
          go_simp
          refine (HSET.out _ hB).mono ?_
          rintro e w' ⟨rfl, hS', hk'⟩
          exact ⟨_, rfl, hk', hk.trans hk', rfl, hS'⟩
        intro v hv
        obtain rfl : v = _ := hv
        with_reducible apply Exists.intro
        with_reducible refine ⟨?_, ?_⟩
        · go_simp
          rfl
        refine soup_nil (fun W3 hk hS => ?_)
        have HS3 : Hid (SrAt W3 p b L1) := Lib.hid (hS 5)
        have HL3 := Lib.hid (HLB.out.keep hk (by have := HQ.out; simp; omega))
        have HB3 := Lib.hid (HBB.out.trans (hk.below HBB.out.size (by have := HQ.out; simp; omega)))
        clear hk hS HO HSR HLB HBB HSET
        by_cases he : e1 = 0
        · have heb : (e1 != 0) = false := by simp [he]
          have HTO2 : Hid (toF mk L1 (M.drop (j + 1)) = (r1, r2)) := Lib.hid (by have h := HTO.out; simp only [Bool.false_eq_true, if_false] at h; rw [if_pos he] at h; exact h)
          clear he HTO HNE
          go_wp2_with (fail)
          go_roundw
          case rel => exact ⟨j + 1, L1, by go_num, by omega, HTO2.out, HS3.out, H32.out, HUB.out, HL3.out, HB3.out⟩
          case measure => simp [intOf]; omega
        · have heb : (e1 != 0) = true := by simp [he]
          obtain ⟨rfl, rfl⟩ : e1 = r1 ∧ L = r2 := by have h := HTO.out; simp only [Bool.false_eq_true, if_false] at h; rw [if_neg he] at h; cases h; exact ⟨rfl, rfl⟩
          go_wp2_with (fail)
          (try simp only [Exit.inBlock, Exit.then])
          refine bodyPost_ret (v := .tuple #[.pointer none, .int .i64 e1]) (by simp [results, Try.results47, go_sem]) rfl ?_
          exact ⟨fun h => absurd h he, fun _ => rfl, HB3.out⟩
    · obtain rfl : j = M.length := by omega
      rw [List.drop_length] at hto
      obtain ⟨rfl, rfl⟩ : 0 = r1 ∧ L = r2 := by simp only [toF] at hto; cases hto; exact ⟨rfl, rfl⟩
      have HSE := Lib.hid hS
      have HLE := Lib.hid hln
      have HBE := Lib.hid hB
      clear hS hln hB hto hlt hj
      go_wp2_with (fail)
      (try simp only [Exit.inBlock, Exit.then])
      refine bodyPost_ret (v := .tuple #[.pointer (some ⟨q, 0, none⟩), .int .i64 0]) (by simp [results, Try.results47, go_sem]) rfl ?_
      exact ⟨fun _ => ⟨q, p, b, rfl, ⟨HLE.out, HSE.out, by have := HQ.out; omega, by have := HQ.out; omega⟩, HQ.out.2.2.2.2, HQ.out.2.2.1, HQ.out.2.2.2.1⟩, fun h => absurd rfl h, HBE.out⟩
end Go.Proofs.Ytmhbibcfbencnaa
