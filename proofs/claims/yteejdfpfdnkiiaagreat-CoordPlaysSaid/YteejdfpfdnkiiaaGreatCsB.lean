/- What was written, as a text; a text that is at its end; messages that are the same. -/
import Derived.Test.YteejdfpfdnkiiaaGreatPe
import Derived.Test.YteejdfpfdnkiiaaGreatCmE
import Derived.Laws.BytesString
import Derived.Laws.Rows
namespace Go.Proofs.YteejdfpfdnkiiaaGreat
open Go.RowKit Go.Lib
set_option linter.unusedSimpArgs false
set_option linter.unusedVariables false
theorem str_fold (l : List UInt8) (s : ByteArray) : (l.map fun b => (b.toNat : Int)).foldl (fun r n => r.push (UInt8.ofNat n.toNat)) s = ⟨s.data ++ l.toArray⟩ := by
  induction l generalizing s with
  | nil => cases s; simp
  | cons b r ih =>
    rw [List.map_cons, List.foldl_cons, ih]
    cases s
    simp [ByteArray.push]
theorem row_cells {base : Nat} {W : World} {v : Value} {l : List UInt8} (h : BRow base W v l) (hl : l ≠ []) : ∃ a c, v = .slice (some a) l.length c ∧ ∀ j u, (l.map byV)[j]? = some u → W.cell? (a.add j) = some u := by
  rcases h.2 with ⟨hv, h0⟩ | ⟨g, cap, cur, hv, hb, hg, hn, hc, hcs, htk⟩
  · exact absurd (List.length_eq_zero_iff.1 h0) hl
  · refine ⟨⟨g, 0, none⟩, cap, hv, fun j u hj => ?_⟩
    rw [add_at]
    unfold World.cell?
    rw [hg]
    have hjl : j < (l.map byV).length := (List.getElem?_eq_some_iff.1 hj).1
    have h1 : (cur.toList.take (l.length * 1))[j]? = some u := by rw [htk]; exact hj
    rw [List.getElem?_take_of_lt (by simpa using hjl), Array.getElem?_toList] at h1
    simpa using h1
theorem row_string {base : Nat} {W : World} {v : Value} {l : List UInt8} (h : BRow base W v l) (hl : l ≠ []) : (convert 119 9 v).run Tryz.prog W = .ok (.string ⟨l.toArray⟩) W := by
  obtain ⟨a, c, rfl, hc⟩ := row_cells h hl
  rw [run_convert_bytes_string W 119 9 5 _ _ _ Tryz.underlying119 Tryz.underlying5 Tryz.underlying9]
  rw [run_bytesToString W a l.length c (l.map fun b => (b.toNat : Int)) ?_]
  · rw [str_fold]
    simp
  · have := run_loadCells_list (P := Tryz.prog) W a (l.map byV) hc
    rw [List.length_map] at this
    rw [this]
    congr 2
    rw [List.map_map]
    rfl
theorem ostring_any {base g : Nat} {w : World} {v : Value} {l : List UInt8} (h : WrAt base w g v l) (hl : l ≠ []) : Calls Tryz.prog 81 #[.pointer (some ⟨g, 0, none⟩)] w fun e w' => e = .returned (.string ⟨l.toArray⟩) ∧ w' = w := by
  have hs := row_string h.r hl
  obtain ⟨av, cv, rfl, _⟩ := own_shape h.r
  obtain ⟨c0, c1⟩ := h.facts
  clear h
  go_enter Tryz.func81, Tryz.ntmps81
  go_wp2_with (fail)
  go_ret
  exact ⟨rfl, rfl⟩
set_option maxRecDepth 100000 in
theorem of_any_in (w : World) (s : ByteArray) : Calls Tryz.prog 101 #[.string s] w fun e w' => e = .returned (.pointer (some ⟨w.heap.size, 0, none⟩)) ∧ w' = w.alloc (.cells #[.string s, .int .i64 0, .int .i64 0] 194) := by
  go_enter Tryz.func101, Tryz.ntmps101
  go_wp2_with (fail)
  go_ret
  exact ⟨rfl, rfl⟩
set_option maxRecDepth 100000 in
theorem left_any {w : World} {x : Nat} {s : ByteArray} {p : Nat} (h : InAt w x s p) (hp : p ≤ s.size) (hz : s.size ≤ 100000) : Calls Tryz.prog 109 #[.pointer (some ⟨x, 0, none⟩)] w fun e w' => e = .returned (.int .i64 ((s.size : Int) - p)) ∧ Keep [] w w' := by
  have HI := Lib.hid h
  have hpl := lt_of_heap h
  clear h
  go_enter Tryz.func109, Tryz.ntmps109
  go_wp2_with (fail)
  refine wp_region_soup 9 [] (fun _ => none) (by kernel_rfl) (by kernel_rfl) (spOk_of (l := []) (by simp)) (pre_of (l := []) (by simp)) ?_
  simp only [List.take_succ_cons, List.take_zero, List.drop_succ_cons, List.drop_zero]
  iterate 3
    with_reducible refine soup_q ?_ ?_ ?_
    · rfl
    · rfl
    with_reducible apply Exists.intro
    with_reducible refine ⟨fun W hk _ => ?_, ?_⟩
    · unfold Oper.same
      go_simp
      first | rfl | exact ⟨rfl, rfl⟩
    with_reducible apply Exists.intro
    with_reducible refine ⟨?_, ?_⟩
    · go_simp
      rfl
  with_reducible refine soup_q ?_ ?_ ?_
  · rfl
  · rfl
  with_reducible apply Exists.intro
  with_reducible refine ⟨fun W hk _ => ?_, ?_⟩
  · have c0 := (HI.out.keep hk (by simp)).facts.1
    unfold Oper.same
    go_simp
    first | rfl | exact ⟨rfl, rfl⟩
  with_reducible apply Exists.intro
  with_reducible refine ⟨?_, ?_⟩
  · go_simp
    rfl
  iterate 4
    with_reducible refine soup_q ?_ ?_ ?_
    · rfl
    · rfl
    with_reducible apply Exists.intro
    with_reducible refine ⟨fun W hk _ => ?_, ?_⟩
    · unfold Oper.same
      go_simp
      first | rfl | exact ⟨rfl, rfl⟩
    with_reducible apply Exists.intro
    with_reducible refine ⟨?_, ?_⟩
    · go_simp
      rfl
  with_reducible refine soup_q ?_ ?_ ?_
  · rfl
  · rfl
  with_reducible apply Exists.intro
  with_reducible refine ⟨fun W hk _ => ?_, ?_⟩
  · have c0 := (HI.out.keep hk (by simp)).facts.2.1
    unfold Oper.same
    go_simp
    first | rfl | exact ⟨rfl, rfl⟩
  with_reducible apply Exists.intro
  with_reducible refine ⟨?_, ?_⟩
  · go_simp
    rfl
  refine soup_nil (fun W hk hS => ?_)
  have HK := Lib.hid hk
  clear hk hS
  go_wp2_with (fail)
  go_ret
  exact ⟨rfl, HK.out⟩
set_option maxRecDepth 100000 in
theorem endin_any {w : World} {x : Nat} {s : ByteArray} (h : InAt w x s s.size) (hz : s.size ≤ 100000) : Calls Tryz.prog 103 #[.pointer (some ⟨x, 0, none⟩)] w fun e w' => e = .returned (.int .i64 0) ∧ Keep [] w w' := by
  have HF := Lib.hid (fault_any h)
  have HL := Lib.hid (left_any h (Nat.le_refl _) hz)
  clear h
  go_enter Tryz.func103, Tryz.ntmps103
  go_wp2_with (fail)
  refine HF.out.mono ?_
  rintro e w1 ⟨rfl, rfl⟩
  go_wp2_with (fail)
  refine HL.out.mono ?_
  rintro e w2 ⟨rfl, hk⟩
  have HK := Lib.hid hk
  clear hk
  rw [Int.sub_self]
  go_wp2_with (fail)
  go_ret
  exact ⟨rfl, HK.out⟩
set_option maxRecDepth 100000 in
set_option maxHeartbeats 2000000 in
theorem equalI_any {w : World} {a b : Option Addr} {l m : List Int} (c d : Nat) (ha : IntsAt w a l) (hb : IntsAt w b m) (hl : l.length ≤ 100000) (hm : m.length ≤ 100000) : Calls Tryz.prog 104 #[.slice a l.length c, .slice b m.length d] w fun e w' => e = .returned (.bool (decide (l = m))) ∧ Keep [] w w' := by
  have HA := Lib.hid ha
  have HB := Lib.hid hb
  clear ha hb
  by_cases hlm : l.length = m.length
  · obtain ⟨n, hn⟩ : ∃ n, l.length = n := ⟨_, rfl⟩
    have hmn : m.length = n := by omega
    have HLN := Lib.hid hn
    have HMN := Lib.hid hmn
    have hn1 : n ≤ 100000 := by omega
    rw [hn, hmn]
    clear hlm hn hmn hl hm
    go_enter Tryz.func104, Tryz.ntmps104
    go_wp2_with (fail)
    go_loopw [13] (fun i wr => ∃ j : Nat, i = .int .i64 j ∧ j ≤ n ∧ Keep [] w wr ∧ ∀ k, k < j → l[k]? = m[k]?) (fun i _ => n - (intOf i).toNat)
    case atStart => exact ⟨0, rfl, Nat.zero_le _, Keep.refl _ _, fun k hk => absurd hk (Nat.not_lt_zero _)⟩
    case round =>
      obtain ⟨j, rfl, hj, hk0, heq⟩ := hrel
      have HK := Lib.hid hk0
      have HE := Lib.hid heq
      clear hk0 heq
      have h0j : (0 : Int) ≤ (j : Int) := Int.natCast_nonneg j
      by_cases hlt : j < n
      · have hjn : (j : Int) < (n : Int) := by omega
        have hjl : j < l.length := by have := HLN.out; omega
        have hjm : j < m.length := by have := HMN.out; omega
        obtain ⟨ba, oa, rfl, hba, hca⟩ := HA.out (by intro e; rw [e] at hjl; simp at hjl)
        obtain ⟨bb, ob, rfl, hbb, hcb⟩ := HB.out (by intro e; rw [e] at hjm; simp at hjm)
        have hx := hca j hjl
        have hy := hcb j hjm
        obtain ⟨x, hxl⟩ : ∃ x, l[j]? = some x := ⟨l[j], List.getElem?_eq_getElem hjl⟩
        obtain ⟨y, hyl⟩ : ∃ y, m[j]? = some y := ⟨m[j], List.getElem?_eq_getElem hjm⟩
        rw [hxl, Option.getD_some] at hx
        rw [hyl, Option.getD_some] at hy
        have HCA := Lib.hid ((HK.out.cell _ hba (by simp)).trans hx)
        have HCB := Lib.hid ((HK.out.cell _ hbb (by simp)).trans hy)
        have HLA := Lib.hid (Nat.lt_of_lt_of_le hba HK.out.size)
        have HLB := Lib.hid (Nat.lt_of_lt_of_le hbb HK.out.size)
        have HX := Lib.hid hxl
        have HY := Lib.hid hyl
        clear hca hcb hx hy hxl hyl hjl hjm
        go_wp2_with (fail)
        refine wp_region_soup 8 [] (fun _ => none) (by kernel_rfl) (by kernel_rfl) (spOk_of (l := []) (by simp)) (pre_of (l := []) (by simp)) ?_
        simp only [List.take_succ_cons, List.take_zero, List.drop_succ_cons, List.drop_zero]
        iterate 3
          with_reducible refine soup_q ?_ ?_ ?_
          · rfl
          · rfl
          with_reducible apply Exists.intro
          with_reducible refine ⟨fun W hk _ => ?_, ?_⟩
          · unfold Oper.same
            go_simp
            first | rfl | exact ⟨rfl, rfl⟩
          with_reducible apply Exists.intro
          with_reducible refine ⟨?_, ?_⟩
          · go_simp
            rfl
        with_reducible refine soup_q ?_ ?_ ?_
        · rfl
        · rfl
        with_reducible apply Exists.intro
        with_reducible refine ⟨fun W hk _ => ?_, ?_⟩
        · have c0 := (hk.cell _ (HLA.out) (by simp)).trans HCA.out
          unfold Oper.same
          go_simp
          first | rfl | exact ⟨rfl, rfl⟩
        with_reducible apply Exists.intro
        with_reducible refine ⟨?_, ?_⟩
        · go_simp
          rfl
        iterate 3
          with_reducible refine soup_q ?_ ?_ ?_
          · rfl
          · rfl
          with_reducible apply Exists.intro
          with_reducible refine ⟨fun W hk _ => ?_, ?_⟩
          · unfold Oper.same
            go_simp
            first | rfl | exact ⟨rfl, rfl⟩
          with_reducible apply Exists.intro
          with_reducible refine ⟨?_, ?_⟩
          · go_simp
            rfl
        with_reducible refine soup_q ?_ ?_ ?_
        · rfl
        · rfl
        with_reducible apply Exists.intro
        with_reducible refine ⟨fun W hk _ => ?_, ?_⟩
        · have c0 := (hk.cell _ (HLB.out) (by simp)).trans HCB.out
          unfold Oper.same
          go_simp
          first | rfl | exact ⟨rfl, rfl⟩
        with_reducible apply Exists.intro
        with_reducible refine ⟨?_, ?_⟩
        · go_simp
          rfl
        refine soup_nil (fun W hk hS => ?_)
        have HK2 := Lib.hid (HK.out.trans hk)
        clear hk hS
        by_cases hxy : x = y
        · subst hxy
          go_wp2_with (fail)
          go_roundw
          case rel => exact ⟨j + 1, by go_num, by omega, HK2.out, fun k hk => by
            by_cases e : k = j
            · subst e; rw [HX.out, HY.out]
            · exact HE.out k (by omega)⟩
          case measure => simp [intOf]; omega
        · have hne : (x == y) = false := by simpa using hxy
          go_wp2_with (fail)
          go_ret
          refine ⟨?_, HK2.out⟩
          have : l ≠ m := by
            rintro rfl
            have := HX.out.symm.trans HY.out
            simp at this
            exact hxy this
          simp [this]
      · obtain rfl : j = n := by omega
        go_wp2_with (fail)
        go_ret
        refine ⟨?_, HK.out⟩
        have : l = m := List.ext_getElem? (fun i => by
          by_cases hi : i < j
          · exact HE.out i hi
          · rw [List.getElem?_eq_none (by have := HLN.out; omega), List.getElem?_eq_none (by have := HMN.out; omega)])
        simp [this]
  · have hne : ((l.length : Int) == (m.length : Int)) = false := by simp; omega
    go_enter Tryz.func104, Tryz.ntmps104
    go_wp2_with (fail)
    go_ret
    refine ⟨?_, Keep.refl _ _⟩
    have : l ≠ m := by rintro rfl; exact hlm rfl
    simp [this]
end Go.Proofs.YteejdfpfdnkiiaaGreat
