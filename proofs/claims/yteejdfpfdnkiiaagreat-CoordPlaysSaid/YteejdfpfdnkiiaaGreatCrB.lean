/- Numbers as bytes: the reader. -/
import Derived.Test.YteejdfpfdnkiiaaGreatPd
namespace Go.Proofs.YteejdfpfdnkiiaaGreat
open Go.RowKit Go.Lib
set_option linter.unusedSimpArgs false
set_option linter.unusedVariables false
/-- A text that is read, and where its reader stands. -/
def InAt (W : World) (x : Nat) (s : ByteArray) (p : Nat) : Prop := W.heap[x]? = some (.cells #[.string s, .int .i64 p, .int .i64 0] 194 (0, 0))
theorem InAt.keep {X : List Nat} {W W' : World} {x : Nat} {s : ByteArray} {p : Nat} (h : InAt W x s p) (hk : Keep X W W') (hx : x ∉ X) : InAt W' x s p := (hk.block x (lt_of_heap h) hx).trans h
theorem InAt.facts {W : World} {x : Nat} {s : ByteArray} {p : Nat} (h : InAt W x s p) : W.cell? ⟨x, 0, none⟩ = some (.string s) ∧ W.cell? ⟨x, 1, none⟩ = some (.int .i64 p) ∧ W.cell? ⟨x, 2, none⟩ = some (.int .i64 0) ∧ (∀ o, W.frozen? ⟨x, o, none⟩ = false) := by
  unfold InAt at h
  refine ⟨?_, ?_, ?_, fun o => ?_⟩
  · unfold World.cell?; rw [h]; rfl
  · unfold World.cell?; rw [h]; rfl
  · unfold World.cell?; rw [h]; rfl
  · unfold World.frozen?; rw [h]; simp
theorem InAt.set {W : World} {x : Nat} {s : ByteArray} {p : Nat} (h : InAt W x s p) (q : Nat) (v : Value) (hv : v = .int .i64 q) : InAt (W.setCell ⟨x, 1, none⟩ v) x s q := by
  subst hv
  unfold InAt at *
  simp [World.setCell, Array.getElem?_modify, h]
/-- A block of one cell. -/
def OneAt (W : World) (b : Nat) (v : Value) (t : TypeId) : Prop := W.heap[b]? = some (.cells #[v] t (0, 0))
theorem OneAt.keep {X : List Nat} {W W' : World} {b : Nat} {v : Value} {t : TypeId} (h : OneAt W b v t) (hk : Keep X W W') (hx : b ∉ X) : OneAt W' b v t := (hk.block b (lt_of_heap h) hx).trans h
theorem OneAt.facts {W : World} {b : Nat} {v : Value} {t : TypeId} (h : OneAt W b v t) : W.cell? ⟨b, 0, none⟩ = some v ∧ (∀ o, W.frozen? ⟨b, o, none⟩ = false) := by
  unfold OneAt at h
  refine ⟨?_, fun o => ?_⟩
  · unfold World.cell?; rw [h]; rfl
  · unfold World.frozen?; rw [h]; simp
theorem OneAt.set {W : World} {b : Nat} {v : Value} {t : TypeId} (h : OneAt W b v t) (u : Value) : OneAt (W.setCell ⟨b, 0, none⟩ u) b u t := by
  unfold OneAt at *
  simp [World.setCell, Array.getElem?_modify, h]
theorem OneAt.new (W : World) (v : Value) (t : TypeId) : OneAt (W.alloc (.cells #[v] t)) W.heap.size v t := World.alloc_heap_new W _
theorem OneAt.ne {W : World} {b b' : Nat} {v v' : Value} {t t' : TypeId} (h : OneAt W b v t) (h' : OneAt W b' v' t') (ht : t ≠ t') : b ≠ b' := by
  rintro rfl
  unfold OneAt at h h'
  rw [h] at h'
  simp only [Option.some.injEq, Obj.cells.injEq] at h'
  exact ht h'.2.1
theorem OneAt.ne_in {W : World} {b x : Nat} {v : Value} {t : TypeId} {s : ByteArray} {p : Nat} (h : OneAt W b v t) (h' : InAt W x s p) : b ≠ x := by
  rintro rfl
  unfold OneAt at h
  unfold InAt at h'
  rw [h] at h'
  simp at h'
theorem varB_last (n : Nat) (h : 1 < (varB n).length) : ∃ b : UInt8, (varB n)[(varB n).length - 1]? = some b ∧ b.toNat ≠ 0 := by
  have key : ∀ (d n : Nat), (varB n).length ≤ d → 0 < n → ∃ b : UInt8, (varB n)[(varB n).length - 1]? = some b ∧ b.toNat ≠ 0 := by
    intro d
    induction d with
    | zero => intro n h; have := varB_pos n; omega
    | succ d ih =>
      intro n h hn
      by_cases h1 : n < 128
      · have e : varB n = [UInt8.ofNat n] := by rw [varB, if_pos h1]
        rw [e]
        exact ⟨_, rfl, by rw [UInt8.toNat_ofNat']; omega⟩
      · have e : varB n = UInt8.ofNat (n % 128 + 128) :: varB (n / 128) := by rw [varB, if_neg h1]
        rw [e, List.length_cons] at h
        obtain ⟨b, hb1, hb2⟩ := ih (n / 128) (by omega) (by omega)
        refine ⟨b, ?_, hb2⟩
        rw [e, List.length_cons]
        have hp := varB_pos (n / 128)
        have : (varB (n / 128)).length + 1 - 1 = ((varB (n / 128)).length - 1) + 1 := by omega
        rw [this, List.getElem?_cons_succ]
        exact hb1
  refine key _ n (Nat.le_refl _) ?_
  by_cases h0 : n = 0
  · subst h0
    rw [varB, if_pos (by omega)] at h
    simp at h
  · omega
theorem strGet (s : ByteArray) (i : Nat) (b : UInt8) (h : s.data.toList[i]? = some b) (hi : i < s.size) : s[i]'hi = b := by
  have h2 := (List.getElem?_eq_some_iff.1 h).2
  rw [← h2]
  cases s
  rfl
theorem strFrom (s : ByteArray) (p : Nat) (hp : p ≤ s.size) : ∃ s2 : ByteArray, s2.data.toList = s.data.toList.drop p ∧ ∀ W, (Instr.slice 9 (.string s) (some (.int .i64 p)) none none).run Tryz.prog W = .ok (.string s2) W := by
  refine ⟨s.extract p s.size, ?_, fun W => ?_⟩
  · have := str_size s
    cases s
    simp only [ByteArray.data_extract] at *
    simp [ByteArray.size, List.take_of_length_le]
  · have h := run_slice_string_l (P := Tryz.prog) (w := W) (t := 9) (s := s) Tryz.underlying9 .i64 (p : Int) (by omega) (by omega)
    simpa using h
set_option maxRecDepth 100000 in
set_option maxHeartbeats 4000000 in
theorem number_any {w : World} {x : Nat} {s : ByteArray} {p : Nat} (h : InAt w x s p) (n : Nat) (rest : List UInt8) (hs : s.data.toList.drop p = varB n ++ rest) (hn : n ≤ 2147483647) (hz : s.size ≤ 100000) : Calls Tryz.prog 157 #[.pointer (some ⟨x, 0, none⟩)] w fun e w' => e = .returned (.tuple #[.int .u64 n, .int .i64 0]) ∧ InAt w' x s (p + (varB n).length) ∧ Keep [x] w w' := by
  have hlen : s.size - p = (varB n).length + rest.length := by
    rw [← str_size, ← List.length_drop, hs, List.length_append]
  have hpk : p + (varB n).length ≤ 100000 := by have := varB_pos n; omega
  have hpos := varB_pos n
  obtain ⟨s2, hs2, hsl⟩ := strFrom s p (by omega)
  rw [hs] at hs2
  obtain ⟨k, hk⟩ : ∃ k, (varB n).length = k := ⟨_, rfl⟩
  have hgv := fun W => getVar_any (w := W) s2 n rest hs2 hn
  have hlast := varB_last n
  have hget : ∀ i b, (varB n)[i]? = some b → s.data.toList[p + i]? = some b := by
    intro i b hi
    rw [← List.getElem?_drop, hs, List.getElem?_append_left (List.getElem?_eq_some_iff.1 hi).1]
    exact hi
  have hplt := lt_of_heap h
  rw [hk] at hlen hpos hgv hlast hpk ⊢
  have HI := Lib.hid h
  have HL := Lib.hid hlast
  have HG := Lib.hid hget
  have HGV := Lib.hid hgv
  have HLEN := Lib.hid hlen
  clear h hlast hget hgv hk hlen hs hs2
  go_enter Tryz.func157, Tryz.ntmps157
  go_wp2_with (fail)
  refine wp_region_soup 14 [] (spOf [(9, Spec.is (.tuple #[.int .u64 n, .int .i64 k]))]) (by kernel_rfl) (by kernel_rfl) (spOk_of (by simp [Spec.is_ok])) (pre_of (by simp [Spec.is_ok])) ?_
  simp only [List.take_succ_cons, List.take_zero, List.drop_succ_cons, List.drop_zero]
  iterate 3
    with_reducible refine soup_q ?_ ?_ ?_
    · rfl
    · rfl
    with_reducible apply Exists.intro
    with_reducible refine ⟨fun W hk _ => ?_, ?_⟩
    · unfold Oper.same
      go_simp
      first | rfl | exact ⟨rfl, rfl⟩
    with_reducible apply Exists.intro
    with_reducible refine ⟨?_, ?_⟩
    · go_simp
      rfl
  with_reducible refine soup_q ?_ ?_ ?_
  · rfl
  · rfl
  with_reducible apply Exists.intro
  with_reducible refine ⟨fun W hk _ => ?_, ?_⟩
  · have c0 := (HI.out.keep hk (by simp)).facts.1
    unfold Oper.same
    go_simp
    first | rfl | exact ⟨rfl, rfl⟩
  with_reducible apply Exists.intro
  with_reducible refine ⟨?_, ?_⟩
  · go_simp
    rfl
  iterate 3
    with_reducible refine soup_q ?_ ?_ ?_
    · rfl
    · rfl
    with_reducible apply Exists.intro
    with_reducible refine ⟨fun W hk _ => ?_, ?_⟩
    · unfold Oper.same
      go_simp
      first | rfl | exact ⟨rfl, rfl⟩
    with_reducible apply Exists.intro
    with_reducible refine ⟨?_, ?_⟩
    · go_simp
      rfl
  with_reducible refine soup_q ?_ ?_ ?_
  · rfl
  · rfl
  with_reducible apply Exists.intro
  with_reducible refine ⟨fun W hk _ => ?_, ?_⟩
  · have c0 := (HI.out.keep hk (by simp)).facts.2.1
    unfold Oper.same
    go_simp
    first | rfl | exact ⟨rfl, rfl⟩
  with_reducible apply Exists.intro
  with_reducible refine ⟨?_, ?_⟩
  · go_simp
    rfl
  with_reducible refine soup_q ?_ ?_ ?_
  · rfl
  · rfl
  with_reducible apply Exists.intro
  with_reducible refine ⟨fun W hk _ => ?_, ?_⟩
  · unfold Oper.same
    go_simp
    first | rfl | exact ⟨rfl, rfl⟩
  with_reducible apply Exists.intro
  with_reducible refine ⟨?_, ?_⟩
  · go_simp
    rfl
  refine soup_s rfl rfl rfl (fun W hk _ _ => ?_) ?_
  · unfold Oper.does
    go_simp
    refine (HGV.out _).mono ?_
    rintro e w' ⟨rfl, rfl⟩
    exact ⟨_, rfl, Keep.refl _ _, hk, rfl, trivial⟩
  intro v hv
  obtain rfl : v = _ := hv
  with_reducible apply Exists.intro
  with_reducible refine ⟨?_, ?_⟩
  · go_simp
    rfl
  iterate 4
    with_reducible refine soup_q ?_ ?_ ?_
    · rfl
    · rfl
    with_reducible apply Exists.intro
    with_reducible refine ⟨fun W hk _ => ?_, ?_⟩
    · unfold Oper.same
      go_simp
      first | rfl | exact ⟨rfl, rfl⟩
    with_reducible apply Exists.intro
    with_reducible refine ⟨?_, ?_⟩
    · go_simp
      rfl
  refine soup_nil (fun W hk hS => ?_)
  have HK := Lib.hid hk
  clear hk hS
  have HI := Lib.hid (HI.out.keep HK.out (by simp))
  have hk0 : ((k : Int) == 0) = false := by simp; omega
  go_wp2_with (fail)
  refine wp_region_soup 12 [] (fun _ => none) (by kernel_rfl) (by kernel_rfl) (spOk_of (l := []) (by simp)) (pre_of (l := []) (by simp)) ?_
  simp only [List.take_succ_cons, List.take_zero, List.drop_succ_cons, List.drop_zero]
  iterate 3
    with_reducible refine soup_q ?_ ?_ ?_
    · rfl
    · rfl
    with_reducible apply Exists.intro
    with_reducible refine ⟨fun W hk _ => ?_, ?_⟩
    · unfold Oper.same
      go_simp
      first | rfl | exact ⟨rfl, rfl⟩
    with_reducible apply Exists.intro
    with_reducible refine ⟨?_, ?_⟩
    · go_simp
      rfl
  iterate 9
    with_reducible refine soup_no ?_ ?_
    · rfl
    with_reducible apply Exists.intro
    with_reducible refine ⟨?_, ?_⟩
    · go_simp
      rfl
  refine soup_nil (fun W2 hk hS => ?_)
  have HK := Lib.hid (HK.out.trans hk)
  have HI := Lib.hid (HI.out.keep hk (by simp))
  clear hk hS
  go_wp2_with (fail)
  have h6 : ¬ (k : Int) < 0 := by omega
  by_cases h1 : (1 : Int) < k
  · obtain ⟨bb, hb1, hb2⟩ := HL.out (by omega)
    have hg := HG.out _ _ hb1
    rw [show p + (k - 1) = p + k - 1 from by omega] at hg
    have hsz := (List.getElem?_eq_some_iff.1 hg).1
    rw [str_size] at hsz
    have HBV : Hid (∀ h, s[p + k - 1]'h = bb) := Lib.hid (strGet s _ bb hg)
    have HB0 := Lib.hid hb2
    clear hb1 hb2 hg
    refine wp_region_soup 17 [] (fun _ => none) (by kernel_rfl) (by kernel_rfl) (spOk_of (l := []) (by simp)) (pre_of (l := []) (by simp)) ?_
    simp only [List.take_succ_cons, List.take_zero, List.drop_succ_cons, List.drop_zero]
    iterate 9
      with_reducible refine soup_q ?_ ?_ ?_
      · rfl
      · rfl
      with_reducible apply Exists.intro
      with_reducible refine ⟨fun W hk _ => ?_, ?_⟩
      · unfold Oper.same
        go_simp
        first | rfl | exact ⟨rfl, rfl⟩
      with_reducible apply Exists.intro
      with_reducible refine ⟨?_, ?_⟩
      · go_simp
        rfl
    with_reducible refine soup_q ?_ ?_ ?_
    · rfl
    · rfl
    with_reducible apply Exists.intro
    with_reducible refine ⟨fun W hk _ => ?_, ?_⟩
    · have c0 := (HI.out.keep hk (by simp)).facts.1
      unfold Oper.same
      go_simp
      first | rfl | exact ⟨rfl, rfl⟩
    with_reducible apply Exists.intro
    with_reducible refine ⟨?_, ?_⟩
    · go_simp
      rfl
    iterate 3
      with_reducible refine soup_q ?_ ?_ ?_
      · rfl
      · rfl
      with_reducible apply Exists.intro
      with_reducible refine ⟨fun W hk _ => ?_, ?_⟩
      · unfold Oper.same
        go_simp
        first | rfl | exact ⟨rfl, rfl⟩
      with_reducible apply Exists.intro
      with_reducible refine ⟨?_, ?_⟩
      · go_simp
        rfl
    with_reducible refine soup_q ?_ ?_ ?_
    · rfl
    · rfl
    with_reducible apply Exists.intro
    with_reducible refine ⟨fun W hk _ => ?_, ?_⟩
    · have c0 := (HI.out.keep hk (by simp)).facts.2.1
      unfold Oper.same
      go_simp
      first | rfl | exact ⟨rfl, rfl⟩
    with_reducible apply Exists.intro
    with_reducible refine ⟨?_, ?_⟩
    · go_simp
      rfl
    iterate 3
      with_reducible refine soup_q ?_ ?_ ?_
      · rfl
      · rfl
      with_reducible apply Exists.intro
      with_reducible refine ⟨fun W hk _ => ?_, ?_⟩
      · unfold Oper.same
        go_simp
        first | rfl | exact ⟨rfl, rfl⟩
      with_reducible apply Exists.intro
      with_reducible refine ⟨?_, ?_⟩
      · go_simp
        rfl
    refine soup_nil (fun W3 hk hS => ?_)
    have HK := Lib.hid (HK.out.trans hk)
    have HI := Lib.hid (HI.out.keep hk (by simp))
    clear hk hS
    obtain ⟨c0, c1, c2, c3⟩ := HI.out.facts
    go_wp2_with (fail)
    · rename_i hA hB
      rw [HBV.out] at hB
      exact absurd hB (by have := HB0.out; simpa using this)
    · rename_i hA hB
      go_ret2
      refine ⟨rfl, HI.out.set (p + k) _ (by push_cast; rfl), ?_⟩
      exact (HK.out.mono (by simp)).setCell _ _ _ (.inl (by simp))
  · refine wp_region_soup 17 [] (fun _ => none) (by kernel_rfl) (by kernel_rfl) (spOk_of (l := []) (by simp)) (pre_of (l := []) (by simp)) ?_
    simp only [List.take_succ_cons, List.take_zero, List.drop_succ_cons, List.drop_zero]
    iterate 6
      with_reducible refine soup_q ?_ ?_ ?_
      · rfl
      · rfl
      with_reducible apply Exists.intro
      with_reducible refine ⟨fun W hk _ => ?_, ?_⟩
      · unfold Oper.same
        go_simp
        first | rfl | exact ⟨rfl, rfl⟩
      with_reducible apply Exists.intro
      with_reducible refine ⟨?_, ?_⟩
      · go_simp
        rfl
    iterate 11
      with_reducible refine soup_no ?_ ?_
      · rfl
      with_reducible apply Exists.intro
      with_reducible refine ⟨?_, ?_⟩
      · go_simp
        rfl
    refine soup_nil (fun W3 hk hS => ?_)
    have HK := Lib.hid (HK.out.trans hk)
    have HI := Lib.hid (HI.out.keep hk (by simp))
    clear hk hS
    obtain ⟨c0, c1, c2, c3⟩ := HI.out.facts
    go_wp2_with (fail)
    go_ret2
    refine ⟨rfl, HI.out.set (p + k) _ (by push_cast; rfl), ?_⟩
    exact (HK.out.mono (by simp)).setCell _ _ _ (.inl (by simp))
set_option maxRecDepth 100000 in
theorem most_any {w : World} {x : Nat} {s : ByteArray} {p : Nat} (h : InAt w x s p) (n : Nat) (rest : List UInt8) (hs : s.data.toList.drop p = varB n ++ rest) (m : Int) (hn : (n : Int) ≤ m) (hm : m ≤ 2147483647) (hz : s.size ≤ 100000) : Calls Tryz.prog 154 #[.pointer (some ⟨x, 0, none⟩), .int .i64 m] w fun e w' => e = .returned (.tuple #[.int .i64 n, .int .i64 0]) ∧ InAt w' x s (p + (varB n).length) ∧ Keep [x] w w' := by
  have HC := Lib.hid (number_any h n rest hs (by omega) hz)
  clear h hs
  go_enter Tryz.func154, Tryz.ntmps154
  go_wp2_with (fail)
  refine HC.out.mono ?_
  rintro e w1 ⟨rfl, h1, h2⟩
  have H1 := Lib.hid h1
  have H2 := Lib.hid h2
  clear h1 h2
  have k1 : ¬ m < (n : Int) := by omega
  have k2 : ¬ m < 0 := by omega
  go_wp2_with (fail)
  all_goals try omega
  go_ret2
  exact ⟨rfl, H1.out, H2.out⟩
set_option maxRecDepth 100000 in
theorem most1_any {w : World} {x b2 b3 b4 : Nat} {s : ByteArray} {p : Nat} {v : Value} (h : InAt w x s p) (n : Nat) (rest : List UInt8) (hs : s.data.toList.drop p = varB n ++ rest) (m : Int) (hn : (n : Int) ≤ m) (hm : m ≤ 2147483647) (hz : s.size ≤ 100000) (h2 : OneAt w b2 (.pointer (some ⟨x, 0, none⟩)) 184) (h3 : OneAt w b3 (.int .i64 m) 3) (h4 : OneAt w b4 v 3) : Calls Tryz.prog 153 #[.pointer (some ⟨b2, 0, none⟩), .pointer (some ⟨b3, 0, none⟩), .pointer (some ⟨b4, 0, none⟩)] w fun e w' => e = .returned (.int .i64 0) ∧ InAt w' x s (p + (varB n).length) ∧ OneAt w' b4 (.int .i64 n) 3 ∧ Keep [x, b4] w w' := by
  have HC := Lib.hid (most_any h n rest hs m hn hm hz)
  obtain ⟨c2, _⟩ := h2.facts
  obtain ⟨c3, _⟩ := h3.facts
  have H4 := Lib.hid h4
  have HX := Lib.hid h
  clear h hs h2 h3 h4
  go_enter Tryz.func153, Tryz.ntmps153
  go_wp2_with (fail)
  refine HC.out.mono ?_
  rintro e w1 ⟨rfl, h1, hk⟩
  have h41 := H4.out.keep hk (by have := H4.out.ne_in HX.out; simpa using this)
  obtain ⟨c4, f4⟩ := h41.facts
  have H1 := Lib.hid h1
  have H2 := Lib.hid hk
  have H41 := Lib.hid h41
  clear h1 hk h41
  go_wp2_with (fail)
  go_ret
  have hks : Keep [b4] w1 (w1.setCell ⟨b4, 0, none⟩ (.int .i64 n)) := (Keep.refl _ _).setCell _ _ _ (.inl (by simp))
  refine ⟨rfl, H1.out.keep hks (by have := (H41.out.ne_in H1.out).symm; simpa using this), H41.out.set _, ?_⟩
  exact (H2.out.mono (by simp)).trans (hks.mono (by simp))
set_option maxRecDepth 100000 in
theorem tryM_any {w : World} {x b2 b3 b4 : Nat} {s : ByteArray} {p : Nat} {v : Value} (h : InAt w x s p) (n : Nat) (rest : List UInt8) (hs : s.data.toList.drop p = varB n ++ rest) (m : Int) (hn : (n : Int) ≤ m) (hm : m ≤ 2147483647) (hz : s.size ≤ 100000) (h2 : OneAt w b2 (.pointer (some ⟨x, 0, none⟩)) 184) (h3 : OneAt w b3 (.int .i64 m) 3) (h4 : OneAt w b4 v 3) : Calls Tryz.prog 151 #[.pointer (some ⟨x, 0, none⟩), .func (.func 153) #[] #[.pointer (some ⟨b2, 0, none⟩), .pointer (some ⟨b3, 0, none⟩), .pointer (some ⟨b4, 0, none⟩)]] w fun e w' => e = .returned (.tuple #[]) ∧ InAt w' x s (p + (varB n).length) ∧ OneAt w' b4 (.int .i64 n) 3 ∧ Keep [x, b4] w w' := by
  have HC := Lib.hid (most1_any h n rest hs m hn hm hz h2 h3 h4)
  obtain ⟨c0, c1, c2, c3⟩ := h.facts
  clear h hs h2 h3 h4
  go_enter Tryz.func151, Tryz.ntmps151
  go_wp2_with (fail)
  refine HC.out.mono ?_
  rintro e w1 ⟨rfl, h1, h2, hk⟩
  have H1 := Lib.hid h1
  have H2 := Lib.hid h2
  have HK := Lib.hid hk
  clear h1 h2 hk c0 c1 c2 c3
  go_wp2_with (fail)
  first | go_end0 | refine bodyPost_ret (results_none rfl _ _ _) rfl ?_
  exact ⟨rfl, H1.out, H2.out, HK.out⟩
set_option maxRecDepth 100000 in
theorem Most_any {w : World} {x : Nat} {s : ByteArray} {p : Nat} (h : InAt w x s p) (n : Nat) (rest : List UInt8) (hs : s.data.toList.drop p = varB n ++ rest) (m : Int) (hn : (n : Int) ≤ m) (hm : m ≤ 2147483647) (hz : s.size ≤ 100000) : Calls Tryz.prog 147 #[.pointer (some ⟨x, 0, none⟩), .int .i64 m] w fun e w' => e = .returned (.int .i64 n) ∧ InAt w' x s (p + (varB n).length) ∧ Keep [x] w w' := by
  have H := Lib.hid h
  have HS := Lib.hid hs
  have hmf : ∀ (fn : Fn) (first cap : Array Value) (w : World), (Instr.makeFunc fn first cap).run Tryz.prog w = .ok (.func fn first cap) w := fun _ _ _ _ => rfl
  clear h hs
  obtain ⟨w1, hw1⟩ : ∃ u, w.alloc (.cells #[.pointer (some ⟨x, 0, none⟩)] 184) = u := ⟨_, rfl⟩
  obtain ⟨w2, hw2⟩ : ∃ u, w1.alloc (.cells #[.int .i64 m] 3) = u := ⟨_, rfl⟩
  obtain ⟨w3, hw3⟩ : ∃ u, w2.alloc (.cells #[.int .i64 0] 3) = u := ⟨_, rfl⟩
  have s1 : w1.heap.size = w.heap.size + 1 := by rw [← hw1, World.size_alloc]
  have s2 : w2.heap.size = w.heap.size + 2 := by rw [← hw2, World.size_alloc, s1]
  have k1 : Keep [] w w1 := by rw [← hw1]; exact (Keep.refl _ _).alloc _
  have k2 : Keep [] w1 w2 := by rw [← hw2]; exact (Keep.refl _ _).alloc _
  have k3 : Keep [] w2 w3 := by rw [← hw3]; exact (Keep.refl _ _).alloc _
  have o1 : OneAt w1 w.heap.size (.pointer (some ⟨x, 0, none⟩)) 184 := by rw [← hw1]; exact OneAt.new _ _ _
  have o2 : OneAt w2 (w.heap.size + 1) (.int .i64 m) 3 := by rw [← hw2, ← s1]; exact OneAt.new _ _ _
  have o3 : OneAt w3 (w.heap.size + 2) (.int .i64 0) 3 := by rw [← hw3, ← s2]; exact OneAt.new _ _ _
  have o1' := (o1.keep k2 (by simp)).keep k3 (by simp)
  have o2' := o2.keep k3 (by simp)
  have hi3 := ((H.out.keep k1 (by simp)).keep k2 (by simp)).keep k3 (by simp)
  have hk03 := (k1.trans k2).trans k3
  have hxl := lt_of_heap H.out
  have HC := Lib.hid (tryM_any hi3 n rest HS.out m hn hm hz o1' o2' o3)
  have HK := Lib.hid hk03
  have c0 := o1'.facts.1
  go_enter Tryz.func147, Tryz.ntmps147
  go_wp2_with (fail)
  refine HC.out.mono ?_
  rintro e w4 ⟨rfl, h1, h2, hk⟩
  obtain ⟨d0, d1⟩ := h2.facts
  have H1 := Lib.hid h1
  have H2 := Lib.hid h2
  have H3 := Lib.hid hk
  have S2 := Lib.hid s2
  clear h1 h2 hk hw1 hw2 hw3 c0
  go_wp2_with (fail)
  have hcell := (H2.out.set (.int .i64 n)).facts.1
  refine bodyPost_ret (v := .int .i64 n) (by simp [results, Tryz.results147, go_sem, hcell]) rfl ?_
  have hks : Keep [w.heap.size + 2] w4 (w4.setCell ⟨w.heap.size + 2, 0, none⟩ (.int .i64 n)) := (Keep.refl _ _).setCell _ _ _ (.inl (by simp))
  refine ⟨rfl, H1.out.keep hks (by simp; omega), ?_⟩
  refine ((HK.out.mono (by simp)).step H3.out ?_).step hks ?_
  · intro y hy
    simp only [List.mem_cons, List.not_mem_nil, or_false] at hy
    rcases hy with rfl | rfl
    · exact .inl (by simp)
    · exact .inr (by omega)
  · intro y hy
    simp only [List.mem_cons, List.not_mem_nil, or_false] at hy
    subst hy
    exact .inr (by omega)
end Go.Proofs.YteejdfpfdnkiiaaGreat
