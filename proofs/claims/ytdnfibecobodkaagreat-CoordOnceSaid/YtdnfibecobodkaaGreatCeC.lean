/- table.New. -/
import Derived.Test.YtdnfibecobodkaaGreatCeA
import Derived.Test.YtdnfibecobodkaaGreatCcE
import Derived.WalkSpells
namespace Go.Proofs.YtdnfibecobodkaaGreat
open Go.RowKit Go.Lib
set_option linter.unusedSimpArgs false
set_option linter.unusedVariables false
def tnL (n s : Nat) : List Int := (List.range s).map fun i => ((i % n : Nat) : Int)
theorem tnL_len (n s : Nat) : (tnL n s).length = s := by simp [tnL]
theorem tnL_snoc (n j : Nat) : tnL n (j + 1) = tnL n j ++ [((j % n : Nat) : Int)] := by unfold tnL; rw [List.range_succ, List.map_append]; rfl
set_option maxRecDepth 100000 in
set_option maxHeartbeats 4000000 in
theorem tnew_any (w : World) {n s : Nat} (hn1 : 1 ≤ n) (hn4 : n ≤ 4) (hs1 : 1 ≤ s) (hs8 : s ≤ 8) : Calls Tryz.prog 22 #[.int .i64 n, .int .i64 s] w fun e w' => ∃ a c, e = .returned (.tuple #[.agg #[.int .i64 1, .int .i64 n, .slice a s c], .int .i64 0]) ∧ IRow w.heap.size w' (.slice a s c) (tnL n s) ∧ Keep [] w w' := by
  obtain ⟨w1, hw1⟩ : ∃ u, w.alloc (.cells #[.int .i64 0, .int .i64 0, .slice none 0 0] 28) = u := ⟨_, rfl⟩
  obtain ⟨w2, hw2⟩ : ∃ u, w1.alloc (.cells #[.int .i64 0, .int .i64 0, .slice none 0 0] 28) = u := ⟨_, rfl⟩
  have s1 : w1.heap.size = w.heap.size + 1 := by rw [← hw1, World.size_alloc]
  have s2 : w2.heap.size = w.heap.size + 2 := by rw [← hw2, World.size_alloc, s1]
  have k1 : Keep [] w w1 := by rw [← hw1]; exact (Keep.refl _ _).alloc _
  have k2 : Keep [] w1 w2 := by rw [← hw2]; exact (Keep.refl _ _).alloc _
  have b1 : w2.heap[w.heap.size]? = some (.cells #[.int .i64 0, .int .i64 0, .slice none 0 0] 28 (0, 0)) := (k2.block _ (by rw [s1]; omega) (by simp)).trans (by rw [← hw1]; exact World.alloc_heap_new w _)
  have b2 : w2.heap[w.heap.size + 1]? = some (.cells #[.int .i64 0, .int .i64 0, .slice none 0 0] 28 (0, 0)) := by rw [← hw2, ← s1]; exact World.alloc_heap_new w1 _
  obtain ⟨d0, d1, d2, d3⟩ := TbFacts b1
  obtain ⟨e0, e1, e2, e3⟩ := TbFacts b2
  have g1 : ¬ (n : Int) < 1 := by omega
  have g2 : ¬ (4 : Int) < (n : Int) := by omega
  have g3 : ¬ (s : Int) < 1 := by omega
  have g4 : ¬ (8 : Int) < (s : Int) := by omega
  have HB1 := Lib.hid b1
  have HB2 := Lib.hid b2
  have HK2 := Lib.hid (k1.trans k2)
  have HS2 := Lib.hid s2
  clear b1 b2 k1 k2
  go_enter Tryz.func22, Tryz.ntmps22
  go_wp2_with (fail)
  clear hw1 hw2 s1 s2 d0 d1 d2 d3 e0 e1 e2 e3 g1 g2 g3 g4
  go_loopw [26] (fun i wr => ∃ (j : Nat) (a : Option Addr) (c : Nat) (l : List Int), i = .int .i64 j ∧ j ≤ s ∧ l = tnL n j ∧ l.length = j ∧ wr.heap[w.heap.size + 1]? = some (.cells #[.int .i64 1, .int .i64 n, .slice a j c] 28 (0, 0)) ∧ wr.heap[w.heap.size]? = some (.cells #[.int .i64 0, .int .i64 0, .slice none 0 0] 28 (0, 0)) ∧ IRow (w.heap.size + 2) wr (.slice a j c) l ∧ Keep [] w wr ∧ w.heap.size + 2 ≤ wr.heap.size) (fun i _ => s - (intOf i).toNat)
  case atStart =>
    have hb2 := HB2.out
    have hb1 := HB1.out
    have hs2 := HS2.out
    refine ⟨0, none, 0, [], rfl, Nat.zero_le _, rfl, rfl, ?_, ?_, ?_, ?_, ?_⟩
    · simp [World.setCell, Array.getElem?_modify, hb2]
    · simp [World.setCell, Array.getElem?_modify, hb1]
    · exact World.ownsRow_nil _ _ _ _
    · exact HK2.out.step ((((Keep.refl [w.heap.size + 1] _).setCell _ _ _ (.inl (by simp))).setCell _ _ _ (.inl (by simp))).setCell _ _ _ (.inl (by simp))) (by simp)
    · simp [World.setCell, hs2]
  case round =>
    obtain ⟨j, a, c, l, rfl, hj, hl, hll, h1, h2, hr, hk0, hz⟩ := hrel
    have H1 := Lib.hid h1
    have H2 := Lib.hid h2
    have HR := Lib.hid hr
    have HK := Lib.hid hk0
    have HZ := Lib.hid hz
    have HL := Lib.hid hll
    have HE := Lib.hid hl
    have h0j : (0 : Int) ≤ (j : Int) := Int.natCast_nonneg j
    clear hl hll hz
    by_cases hlt : j < s
    · have hjn : (j : Int) < (s : Int) := by omega
      obtain ⟨c0, c1, c2, c3⟩ := TbFacts h1
      obtain ⟨xj, hxj⟩ : ∃ x : Int, ((j % n : Nat) : Int) = x := ⟨_, rfl⟩
      have HXJ := Lib.hid hxj
      have HTM := Lib.hid (show (j : Int).tmod (n : Int) = xj from hxj)
      have HN0 := Lib.hid (show ¬ n = 0 from by omega)
      clear hxj h1 h2 hr hk0
      go_wp2_with (fail)
      clear c0 c1 c2 c3
      refine wp_region_soup 7 (Value.slice a j c).ownBlock.toList (spOf [(5, Spec.oneI wr.heap.size xj), (6, Spec.appI (w.heap.size + 2) (.slice a j c) l xj wr)]) (by kernel_rfl) (by kernel_rfl) (spOk_appI HR.out) (fun i s hs => by have h := spOf_mem hs; simp at h; rcases h with ⟨_, rfl⟩ | ⟨_, rfl⟩; exact trivial; exact HR.out.keep (Keep.refl [] _).drew (by simp)) ?_
      simp only [List.take_succ_cons, List.take_zero, List.drop_succ_cons, List.drop_zero]
      with_reducible refine soup_q ?_ ?_ ?_
      · rfl
      · rfl
      with_reducible apply Exists.intro
      with_reducible refine ⟨fun W hk _ => ?_, ?_⟩
      · unfold Oper.same
        go_simp
        first | rfl | exact ⟨rfl, rfl⟩
      with_reducible apply Exists.intro
      with_reducible refine ⟨?_, ?_⟩
      · go_simp
        rfl
      with_reducible refine soup_q ?_ ?_ ?_
      · rfl
      · rfl
      with_reducible apply Exists.intro
      with_reducible refine ⟨fun W hk _ => ?_, ?_⟩
      · have c0 := (TbFacts ((hk.block _ (lt_of_heap H1.out) (fun hm => by have := own_base HR.out _ (by simpa using hm); omega)).trans H1.out)).2.2.1
        unfold Oper.same
        go_simp
        first | rfl | exact ⟨rfl, rfl⟩
      with_reducible apply Exists.intro
      with_reducible refine ⟨?_, ?_⟩
      · go_simp
        rfl
      with_reducible refine soup_q ?_ ?_ ?_
      · rfl
      · rfl
      with_reducible apply Exists.intro
      with_reducible refine ⟨fun W hk _ => ?_, ?_⟩
      · unfold Oper.same
        go_simp
        first | rfl | exact ⟨rfl, rfl⟩
      with_reducible apply Exists.intro
      with_reducible refine ⟨?_, ?_⟩
      · go_simp
        rfl
      with_reducible refine soup_q ?_ ?_ ?_
      · rfl
      · rfl
      with_reducible apply Exists.intro
      with_reducible refine ⟨fun W hk _ => ?_, ?_⟩
      · unfold Oper.same
        go_simp
        first | rfl | exact ⟨rfl, rfl⟩
      with_reducible apply Exists.intro
      with_reducible refine ⟨?_, ?_⟩
      · go_simp
        rfl
      with_reducible refine soup_q ?_ ?_ ?_
      · rfl
      · rfl
      with_reducible apply Exists.intro
      with_reducible refine ⟨fun W hk _ => ?_, ?_⟩
      · have htm := HTM.out
        have hn0 := HN0.out
        unfold Oper.same
        go_simp
        first | rfl | exact ⟨rfl, rfl⟩
      with_reducible apply Exists.intro
      with_reducible refine ⟨?_, ?_⟩
      · go_simp
        rfl
      refine soup_s rfl rfl rfl (fun W hk _ _ => ?_) ?_
      · unfold Oper.does
        go_simp
        refine ⟨(Keep.refl _ _).alloc _, hk.alloc _, ⟨_, rfl, hk.size⟩, _, rfl, hk.size, ?_⟩
        exact World.alloc_heap_new W _
      rintro v ⟨gx, rfl, hgx⟩
      with_reducible apply Exists.intro
      with_reducible refine ⟨?_, ?_⟩
      · go_simp
        rfl
      refine soup_s rfl rfl rfl (fun W hk hB hd => ?_) ?_
      · obtain ⟨g', e1, _, e3⟩ := hd 5 (Dep.of 3 (by kernel_rfl))
        obtain rfl : gx = g' := by simpa using e1
        refine does_append_int _ _ rfl (w.heap.size + 2) _ l rfl hB ⟨gx, 0, none⟩ 1 rfl xj (by unfold World.cell?; rw [e3]; rfl) (by rw [HL.out]; omega) (Nat.le_trans HZ.out hk.size) ?_
        intro v' w' h1 h2 h3
        refine ⟨h2, hk.trans h2, ?_, h1, ?_⟩
        · obtain ⟨a', c', rfl, _⟩ := own_shape h1
          exact ⟨a', c', by rw [List.length_append, HL.out]; rfl⟩
        · exact h3.imp id (fun e => ⟨_, e, hk.size⟩)
      rintro v ⟨ay, cy, rfl⟩
      rw [HL.out]
      with_reducible apply Exists.intro
      with_reducible refine ⟨?_, ?_⟩
      · go_simp
        rfl
      refine soup_nil (fun W4 hk hS => ?_)
      obtain ⟨hu, ho⟩ := hS 6
      have h1' := (hk.block _ (lt_of_heap H1.out) (fun hm => by have := own_base HR.out _ (by simpa using hm); omega)).trans H1.out
      have h2' := (hk.block _ (lt_of_heap H2.out) (fun hm => by have := own_base HR.out _ (by simpa using hm); omega)).trans H2.out
      obtain ⟨c0, c1, c2, c3⟩ := TbFacts h1'
      have H1 := Lib.hid h1'
      have H2 := Lib.hid h2'
      have HU := Lib.hid hu
      have HK4 := Lib.hid (HK.out.step hk (fun y hy => .inr (by have := own_base HR.out y (by simpa using hy); omega)))
      have HZ4 := Lib.hid (Nat.le_trans HZ.out hk.size)
      clear hk hS hu ho h1' h2'
      go_wp2_with (fail)
      go_roundw
      case rel =>
        have hks : Keep [w.heap.size + 1] W4 (W4.setCell ⟨w.heap.size + 1, 2, none⟩ (.slice ay (j + 1) cy)) := (Keep.refl _ _).setCell _ _ _ (.inl (by simp))
        refine ⟨j + 1, ay, cy, tnL n (j + 1), by go_num, by omega, rfl, tnL_len _ _, ?_, ?_, ?_, ?_, ?_⟩
        · have h := H1.out
          simp [World.setCell, Array.getElem?_modify, h]
        · exact (hks.block _ (lt_of_heap H2.out) (by simp)).trans H2.out
        · rw [tnL_snoc, ← HE.out, HXJ.out]
          exact HU.out.keep hks (fun b hb => by have := own_base HU.out b hb; simp; omega)
        · exact HK4.out.step hks (by simp)
        · exact Nat.le_trans HZ4.out hks.size
      case measure => simp [intOf]; omega
    · obtain rfl : j = s := by omega
      obtain ⟨c0, c1, c2, c3⟩ := TbFacts h1
      obtain ⟨d0, d1, d2, d3⟩ := TbFacts h2
      clear h1 h2 hr hk0
      go_wp2_with (fail)
      obtain ⟨W3, hW3⟩ : ∃ u, (((wr.setCell ⟨w.heap.size, 0, none⟩ (.int .i64 1)).setCell ⟨w.heap.size, 1, none⟩ (.int .i64 n)).setCell ⟨w.heap.size, 2, none⟩ (.slice a j c)) = u := ⟨_, rfl⟩
      have hks : Keep [w.heap.size] wr W3 := by
        rw [← hW3]
        exact (((Keep.refl _ _).setCell _ _ _ (.inl (by simp))).setCell _ _ _ (.inl (by simp))).setCell _ _ _ (.inl (by simp))
      have hfin : W3.heap[w.heap.size]? = some (.cells #[.int .i64 1, .int .i64 n, .slice a j c] 28 (0, 0)) := by
        have h := H2.out
        rw [← hW3]
        simp [World.setCell, Array.getElem?_modify, h]
      rw [hW3]
      have hlv := run_loadVar_row (P := Tryz.prog) W3 w.heap.size 28 28 _ (0, 0) _ hfin Tryz.underlying28 rfl (by kernel_rfl)
      refine bodyPost_ret (v := .tuple #[.agg #[.int .i64 1, .int .i64 n, .slice a j c], .int .i64 0]) (by rw [results_cell_tmp rfl]; show ((loadVar 28 ⟨w.heap.size, 0, none⟩).run Tryz.prog W3).andThen (fun v w₂ => Result.ok (Value.tuple #[v, .int .i64 0]) w₂) = _; rw [hlv]; rfl) rfl ?_
      refine ⟨a, c, rfl, ?_, HK.out.step hks (by simp)⟩
      rw [← HE.out]
      exact own_low (HR.out.keep hks (fun b hb => by have := own_base HR.out b hb; simp; omega)) (by omega)
end Go.Proofs.YtdnfibecobodkaaGreat
