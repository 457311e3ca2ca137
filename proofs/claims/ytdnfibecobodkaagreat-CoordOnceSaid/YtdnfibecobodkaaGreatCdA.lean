/- The coordinator's calls, over a bound; the law's examples. -/
import Derived.Test.YtdnfibecobodkaaGreatCcH
import Derived.Test.YtdnfibecobodkaaGreatCcK
import Derived.Deep.WholeRow
namespace Go.Proofs.YtdnfibecobodkaaGreat
open Go.RowKit Go.Lib
open Go.ChangeMaps (setBlock)
set_option linter.unusedSimpArgs false
set_option linter.unusedVariables false
theorem CoS.kept {W W' : World} {p : Nat} {F : List Nat} {c : Cd} (h : CoS W p F c) (hk : Keep [] W W') : CoS W' p F c := by
  obtain ⟨oa, oc, bp, om, ab, h1, h2⟩ := h
  exact ⟨oa, oc, bp, om, ab, h1.kept hk, h2⟩
theorem CoS.lt {W : World} {p : Nat} {F : List Nat} {c : Cd} (h : CoS W p F c) : ∀ x ∈ F, x < W.heap.size := by
  obtain ⟨oa, oc, bp, om, ab, h1, rfl⟩ := h
  exact h1.lt
theorem CoS.keep {X : List Nat} {W W' : World} {p : Nat} {F : List Nat} {c : Cd} (h : CoS W p F c) (hk : Keep X W W') (hx : ∀ b ∈ F, b ∉ X) : CoS W' p F c := by
  obtain ⟨oa, oc, bp, om, ab, h1, rfl⟩ := h
  exact ⟨oa, oc, bp, om, ab, h1.keep hk hx, rfl⟩
theorem ordS {w : World} {p : Nat} {F : List Nat} {c : Cd} (h : CoS w p F c) (hm : CdMem c) (hl : 0 ≤ c.last) (part to : Int) : Calls Tryz.prog 10 #[.pointer (some ⟨p, 0, none⟩), .int .i64 part, .int .i64 to] w fun e w' => e = .returned (.tuple #[.int .i64 (coOrd c part to).1, .int .i64 (coOrd c part to).2.1]) ∧ CoN w p F w' (coOrd c part to).2.2 := by
  obtain ⟨oa, oc, bp, om, ab, h1, rfl⟩ := h
  refine (cord_any h1 hm.keys hm.ats hl part to).mono ?_
  rintro e w' ⟨rfl, om', h2, h3, h4⟩
  exact ⟨rfl, CoN.of h2 h4 (fun b hb => .inl hb) (fun b hb => by
    rcases h3 with h3 | ⟨b', h3, h5⟩
    · exact .inl (h3 ▸ hb)
    · rw [h3] at hb
      obtain rfl : b' = b := by simpa using hb
      exact .inr h5)⟩
theorem abortS {w : World} {p : Nat} {F : List Nat} {c : Cd} (h : CoS w p F c) (hm : CdMem c) (part : Int) : Calls Tryz.prog 11 #[.pointer (some ⟨p, 0, none⟩), .int .i64 part] w fun e w' => e = .returned (.int .i64 (coAbort c part).1) ∧ CoN w p F w' (coAbort c part).2 := by
  obtain ⟨oa, oc, bp, om, ab, h1, rfl⟩ := h
  refine (cabort_any h1 hm.ats part).mono ?_
  rintro e w' ⟨rfl, h2, h3⟩
  exact ⟨rfl, CoN.of h2 h3 (fun b hb => .inl hb) (fun b hb => .inl hb)⟩
theorem handleS {w : World} {p : Nat} {F : List Nat} {c : Cd} (h : CoS w p F c) (hm : CdMem c) (cs : Array Value) (hcs : cs.size = 22) (fr : Int) (k : Nat) (mv pt code : Int) (h0 : cs[0]? = some (.int .u8 k)) (h1 : cs[1]? = some (.int .i64 mv)) (h2 : cs[2]? = some (.int .i64 pt)) (h6 : cs[6]? = some (.int .i64 code)) : Calls Tryz.prog 13 #[.pointer (some ⟨p, 0, none⟩), .int .i64 fr, .agg cs] w fun e w' => e = .returned (.bool (coHandle c fr k mv pt code).1) ∧ CoN w p F w' (coHandle c fr k mv pt code).2 := by
  obtain ⟨oa, oc, bp, om, ab, h3, rfl⟩ := h
  exact chandle_any h3 hm cs hcs fr k mv pt code h0 h1 h2 h6
theorem tickS {w : World} {p : Nat} {F : List Nat} {c : Cd} (h : CoS w p F c) (hf : CdFine c) (hm : CdMem c) : Calls Tryz.prog 12 #[.pointer (some ⟨p, 0, none⟩)] w fun e w' => ∃ v, e = .returned v ∧ PRow w.heap.size w' v (tickF c) ∧ Keep [] w w' := by
  obtain ⟨oa, oc, bp, om, ab, h3, rfl⟩ := h
  exact ctick_any h3 hf hm.ord
theorem movesS {w : World} {p : Nat} {F : List Nat} {c : Cd} (h : CoS w p F c) (hf : CdFine c) (hm : CdMem c) : Calls Tryz.prog 20 #[.pointer (some ⟨p, 0, none⟩)] w fun e w' => ∃ v, e = .returned v ∧ MoRow w.heap.size w' v (movesF c) ∧ Keep [] w w' := by
  obtain ⟨oa, oc, bp, om, ab, h3, rfl⟩ := h
  exact cmoves_any h3 (by have := hf.num; omega) hm.ord
theorem tableS {w : World} {p : Nat} {F : List Nat} {c : Cd} (h : CoS w p F c) (hf : CdFine c) : Calls Tryz.prog 15 #[.pointer (some ⟨p, 0, none⟩)] w fun e w' => ∃ a d, e = .returned (.agg #[.int .i64 c.ep, .int .i64 c.nd, .slice a c.own.length d]) ∧ IRow w.heap.size w' (.slice a c.own.length d) c.own ∧ Keep [] w w' := by
  obtain ⟨oa, oc, bp, om, ab, h3, rfl⟩ := h
  exact ctable_any h3 (by have := hf.len; omega)
theorem endedS {w : World} {p : Nat} {F : List Nat} {c : Cd} (h : CoS w p F c) : Calls Tryz.prog 18 #[.pointer (some ⟨p, 0, none⟩)] w fun e w' => e = .returned (.tuple #[.int .i64 c.com, .int .i64 c.abo]) ∧ Keep [] w w' := by
  obtain ⟨oa, oc, bp, om, ab, h3, rfl⟩ := h
  exact ended_any h3
/-- A coordinator whose blocks lie above a bound, and apart from some. -/
def CoP (base : Nat) (K : List Nat) (W : World) (p : Nat) (c : Cd) : Prop := ∃ F, CoS W p F c ∧ (∀ x ∈ F, base ≤ x ∧ x ∉ K) ∧ ∀ k ∈ K, k < W.heap.size
/-- What stays: all below the bound, and those. -/
def KP (base : Nat) (K : List Nat) (w w' : World) : Prop := ∃ X, Keep X w w' ∧ ∀ x ∈ X, base ≤ x ∧ x ∉ K
theorem KP.of {base : Nat} {K : List Nat} {w w' : World} (h : Keep [] w w') : KP base K w w' := ⟨[], h, by simp⟩
theorem KP.below {base : Nat} {K : List Nat} {w w' : World} (h : KP base K w w') (hb : base ≤ w.heap.size) : Below base w w' := by
  obtain ⟨X, h1, h2⟩ := h
  exact h1.below hb (fun x hx => (h2 x hx).1)
theorem KP.size {base : Nat} {K : List Nat} {w w' : World} (h : KP base K w w') : w.heap.size ≤ w'.heap.size := by
  obtain ⟨X, h1, h2⟩ := h
  exact h1.size
theorem KP.block {base : Nat} {K : List Nat} {w w' : World} (h : KP base K w w') {k : Nat} (hk : k ∈ K) (hl : k < w.heap.size) : w'.heap[k]? = w.heap[k]? := by
  obtain ⟨X, h1, h2⟩ := h
  exact h1.block k hl (fun hx => (h2 k hx).2 hk)
theorem KP.row {base b0 n size : Nat} {K : List Nat} {w w' : World} {e : TypeId} {v : Value} {xs : List Value} (h : KP base K w w') (hr : w.ownsRow b0 e size v n xs) (hk : ∀ g, v.ownBlock = some g → g ∈ K) : w'.ownsRow b0 e size v n xs := by
  obtain ⟨X, h1, h2⟩ := h
  exact own_keep hr h1 (fun g hg hx => (h2 g hx).2 (hk g hg))
theorem CoP.kept {base : Nat} {K : List Nat} {W W' : World} {p : Nat} {c : Cd} (h : CoP base K W p c) (hk : Keep [] W W') : CoP base K W' p c := by
  obtain ⟨F, h1, h2, h3⟩ := h
  exact ⟨F, h1.kept hk, h2, fun k hx => Nat.lt_of_lt_of_le (h3 k hx) hk.size⟩
theorem CoP.add {base : Nat} {K : List Nat} {w W : World} {p : Nat} {c : Cd} (h : CoP base K w p c) (hk : Keep [] w W) (k : List Nat) (hn : ∀ x ∈ k, w.heap.size ≤ x ∧ x < W.heap.size) : CoP base (k ++ K) W p c := by
  obtain ⟨F, h1, h2, h3⟩ := h
  refine ⟨F, h1.kept hk, fun x hx => ⟨(h2 x hx).1, fun hm => ?_⟩, fun x hx => ?_⟩
  · rcases List.mem_append.1 hm with e | e
    · have := hn x e
      have := h1.lt x hx
      omega
    · exact (h2 x hx).2 e
  · rcases List.mem_append.1 hx with e | e
    · exact (hn x e).2
    · exact Nat.lt_of_lt_of_le (h3 x e) hk.size
theorem CoN.low {base : Nat} {K : List Nat} {w w' : World} {p : Nat} {F : List Nat} {c : Cd} (h : CoN w p F w' c) (hF : ∀ x ∈ F, base ≤ x ∧ x ∉ K) (hK : ∀ k ∈ K, k < w.heap.size) (hb : base ≤ w.heap.size) : CoP base K w' p c ∧ KP base K w w' := by
  obtain ⟨F', h1, h2, h3⟩ := h
  refine ⟨⟨F', h1, fun x hx => ?_, fun k hk => Nat.lt_of_lt_of_le (hK k hk) h2.size⟩, ⟨F, h2, hF⟩⟩
  rcases h3 x hx with e | e
  · exact hF x e
  · exact ⟨Nat.le_trans hb e, fun hm => by have := hK x hm; omega⟩
section
variable {base : Nat} {K : List Nat} {w : World} {p : Nat} {c : Cd}
theorem ordL (h : CoP base K w p c) (hb : base ≤ w.heap.size) (hm : CdMem c) (hl : 0 ≤ c.last) (part to : Int) : Calls Tryz.prog 10 #[.pointer (some ⟨p, 0, none⟩), .int .i64 part, .int .i64 to] w fun e w' => e = .returned (.tuple #[.int .i64 (coOrd c part to).1, .int .i64 (coOrd c part to).2.1]) ∧ CoP base K w' p (coOrd c part to).2.2 ∧ KP base K w w' := by
  obtain ⟨F, h1, h2, h3⟩ := h
  exact (ordS h1 hm hl part to).mono fun e w' ⟨he, hn⟩ => ⟨he, hn.low h2 h3 hb⟩
theorem abortL (h : CoP base K w p c) (hb : base ≤ w.heap.size) (hm : CdMem c) (part : Int) : Calls Tryz.prog 11 #[.pointer (some ⟨p, 0, none⟩), .int .i64 part] w fun e w' => e = .returned (.int .i64 (coAbort c part).1) ∧ CoP base K w' p (coAbort c part).2 ∧ KP base K w w' := by
  obtain ⟨F, h1, h2, h3⟩ := h
  exact (abortS h1 hm part).mono fun e w' ⟨he, hn⟩ => ⟨he, hn.low h2 h3 hb⟩
theorem handleL (h : CoP base K w p c) (hb : base ≤ w.heap.size) (hm : CdMem c) (cs : Array Value) (hcs : cs.size = 22) (fr : Int) (k : Nat) (mv pt code : Int) (h0 : cs[0]? = some (.int .u8 k)) (h1 : cs[1]? = some (.int .i64 mv)) (h2 : cs[2]? = some (.int .i64 pt)) (h6 : cs[6]? = some (.int .i64 code)) : Calls Tryz.prog 13 #[.pointer (some ⟨p, 0, none⟩), .int .i64 fr, .agg cs] w fun e w' => e = .returned (.bool (coHandle c fr k mv pt code).1) ∧ CoP base K w' p (coHandle c fr k mv pt code).2 ∧ KP base K w w' := by
  obtain ⟨F, h3, h4, h5⟩ := h
  exact (handleS h3 hm cs hcs fr k mv pt code h0 h1 h2 h6).mono fun e w' ⟨he, hn⟩ => ⟨he, hn.low h4 h5 hb⟩
theorem tickL (h : CoP base K w p c) (hf : CdFine c) (hm : CdMem c) : Calls Tryz.prog 12 #[.pointer (some ⟨p, 0, none⟩)] w fun e w' => ∃ v, e = .returned v ∧ PRow w.heap.size w' v (tickF c) ∧ Keep [] w w' := by
  obtain ⟨F, h3, h4⟩ := h
  exact tickS h3 hf hm
theorem movesL (h : CoP base K w p c) (hf : CdFine c) (hm : CdMem c) : Calls Tryz.prog 20 #[.pointer (some ⟨p, 0, none⟩)] w fun e w' => ∃ v, e = .returned v ∧ MoRow w.heap.size w' v (movesF c) ∧ Keep [] w w' := by
  obtain ⟨F, h3, h4⟩ := h
  exact movesS h3 hf hm
theorem tableL (h : CoP base K w p c) (hf : CdFine c) : Calls Tryz.prog 15 #[.pointer (some ⟨p, 0, none⟩)] w fun e w' => ∃ a d, e = .returned (.agg #[.int .i64 c.ep, .int .i64 c.nd, .slice a c.own.length d]) ∧ IRow w.heap.size w' (.slice a c.own.length d) c.own ∧ Keep [] w w' := by
  obtain ⟨F, h3, h4⟩ := h
  exact tableS h3 hf
theorem endedL (h : CoP base K w p c) : Calls Tryz.prog 18 #[.pointer (some ⟨p, 0, none⟩)] w fun e w' => e = .returned (.tuple #[.int .i64 c.com, .int .i64 c.abo]) ∧ Keep [] w w' := by
  obtain ⟨F, h3, h4⟩ := h
  exact endedS h3
end
theorem newL {w : World} (t : Tb) (hI : IntsAt w t.oa t.owner) (hr : t.right = true) : Calls Tryz.prog 8 #[t.val] w fun e w' => ∃ p, e = .returned (.tuple #[.pointer (some ⟨p, 0, none⟩), .int .i64 0]) ∧ CoP w.heap.size [] w' p ⟨t.ep, t.nodes, t.owner, [], 0, [], 0, 0⟩ ∧ Keep [] w w' := by
  refine (cnew_any t hI hr).mono ?_
  rintro e w' ⟨p, oa, oc, bp, ab, rfl, h1, h2, h3⟩
  exact ⟨p, rfl, ⟨_, ⟨oa, oc, bp, none, ab, h1, rfl⟩, fun x hx => ⟨h3 x hx, by simp⟩, by simp⟩, h2⟩
/-- What a side says. -/
def msR (k : Nat) (mv pt code : Int) : Array Value := #[.int .u8 k, .int .i64 mv, .int .i64 pt, .int .i64 0, .int .i64 0, .int .i64 0, .int .i64 code, .int .u64 0, .int .i64 0, .int .i64 0, .int .i64 0, .int .i64 0, .int .u8 0, .string ⟨#[]⟩, .int .i64 0, .int .i64 0, .int .i64 0, .int .i64 0, .int .i64 0, .slice none 0 0, .slice none 0 0, .string ⟨#[]⟩]
set_option maxRecDepth 100000 in
theorem saysR (w : World) (mv pt code : Int) : Calls Tryz.prog 14 #[.int .i64 mv, .int .i64 pt, .int .i64 code] w fun e w' => e = .returned (.agg (msR 10 mv pt code)) ∧ Keep [] w w' := by
  obtain ⟨w1, hw1⟩ : ∃ u, w.alloc (.cells #[.int .u8 0, .int .i64 0, .int .i64 0, .int .i64 0, .int .i64 0, .int .i64 0, .int .i64 0, .int .u64 0, .int .i64 0, .int .i64 0, .int .i64 0, .int .i64 0, .int .u8 0, .string ⟨#[]⟩, .int .i64 0, .int .i64 0, .int .i64 0, .int .i64 0, .int .i64 0, .slice none 0 0, .slice none 0 0, .string ⟨#[]⟩] 40) = u := ⟨_, rfl⟩
  have k1 : Keep [] w w1 := by rw [← hw1]; exact (Keep.refl _ _).alloc _
  have z1 : MsAt w1 w.heap.size (msC 0 0 0 0 0 0 (.slice none 0 0)) := by rw [← hw1]; exact World.alloc_heap_new w _
  obtain ⟨w2, hw2⟩ : ∃ u, w1.setRow w.heap.size (msR 10 mv pt code) = u := ⟨_, rfl⟩
  have hst := run_storeVar_row (P := Tryz.prog) w1 w.heap.size 40 40 _ (msR 10 mv pt code) z1 (by kernel_rfl) rfl (by simp [msR, Value.oneCell'])
  rw [hw2] at hst
  have z2 : w2.heap[w.heap.size]? = some (.cells (msR 10 mv pt code) 40 (0, 0)) := by rw [← hw2]; exact setRow_heap w1 w.heap.size _ _ _ _ z1
  have k2 : Keep [] w w2 := by rw [← hw2]; exact k1.setRow _ _ (.inr (Nat.le_refl _))
  have HST := Lib.hid hst
  have HZ := Lib.hid z2
  have HK := Lib.hid k2
  clear hst z1 z2 k1 k2 hw2
  go_enter Tryz.func14, Tryz.ntmps14
  go_wp2_with ((with_reducible refine wpList_store_all ?_ 40 (.tmp 6) (.tmp 10) ?_ (w.heap.size) ?_ (msR 10 mv pt code) ?_ HST.out ?_); rfl; rfl; rfl; rfl)
  refine bodyPost_ret (results_cell_row rfl _ w2 w.heap.size 40 (msR 10 mv pt code) (0, 0) _ rfl HZ.out Tryz.underlying40 rfl (by kernel_rfl)) rfl ?_
  exact ⟨rfl, HK.out⟩
set_option maxRecDepth 100000 in
theorem saysD (w : World) (mv pt : Int) : Calls Tryz.prog 17 #[.int .i64 mv, .int .i64 pt] w fun e w' => e = .returned (.agg (msR 13 mv pt 0)) ∧ Keep [] w w' := by
  obtain ⟨w1, hw1⟩ : ∃ u, w.alloc (.cells #[.int .u8 0, .int .i64 0, .int .i64 0, .int .i64 0, .int .i64 0, .int .i64 0, .int .i64 0, .int .u64 0, .int .i64 0, .int .i64 0, .int .i64 0, .int .i64 0, .int .u8 0, .string ⟨#[]⟩, .int .i64 0, .int .i64 0, .int .i64 0, .int .i64 0, .int .i64 0, .slice none 0 0, .slice none 0 0, .string ⟨#[]⟩] 40) = u := ⟨_, rfl⟩
  have k1 : Keep [] w w1 := by rw [← hw1]; exact (Keep.refl _ _).alloc _
  have z1 : MsAt w1 w.heap.size (msC 0 0 0 0 0 0 (.slice none 0 0)) := by rw [← hw1]; exact World.alloc_heap_new w _
  obtain ⟨w2, hw2⟩ : ∃ u, w1.setRow w.heap.size (msR 13 mv pt 0) = u := ⟨_, rfl⟩
  have hst := run_storeVar_row (P := Tryz.prog) w1 w.heap.size 40 40 _ (msR 13 mv pt 0) z1 (by kernel_rfl) rfl (by simp [msR, Value.oneCell'])
  rw [hw2] at hst
  have z2 : w2.heap[w.heap.size]? = some (.cells (msR 13 mv pt 0) 40 (0, 0)) := by rw [← hw2]; exact setRow_heap w1 w.heap.size _ _ _ _ z1
  have k2 : Keep [] w w2 := by rw [← hw2]; exact k1.setRow _ _ (.inr (Nat.le_refl _))
  have HST := Lib.hid hst
  have HZ := Lib.hid z2
  have HK := Lib.hid k2
  clear hst z1 z2 k1 k2 hw2
  go_enter Tryz.func17, Tryz.ntmps17
  go_wp2_with ((with_reducible refine wpList_store_all ?_ 40 (.tmp 4) (.tmp 7) ?_ (w.heap.size) ?_ (msR 13 mv pt 0) ?_ HST.out ?_); rfl; rfl; rfl; rfl)
  refine bodyPost_ret (results_cell_row rfl _ w2 w.heap.size 40 (msR 13 mv pt 0) (0, 0) _ rfl HZ.out Tryz.underlying40 rfl (by kernel_rfl)) rfl ?_
  exact ⟨rfl, HK.out⟩
set_option maxRecDepth 100000 in
theorem first_any (w : World) : Calls Tryz.prog 9 #[] w fun e w' => ∃ g, e = .returned (Tb.val ⟨1, 2, some ⟨g, 0, none⟩, 2, [0, 1]⟩) ∧ IntsAt w' (some ⟨g, 0, none⟩) [0, 1] ∧ Keep [] w w' := by
  go_enter Tryz.func9, Tryz.ntmps9
  go_wp2_with (fail)
  obtain ⟨w1, hw1⟩ : ∃ u, w.alloc (.cells #[.int .i64 1, .int .i64 2, .slice (some ⟨w.heap.size + 1, 0, none⟩) 2 2] 28) = u := ⟨_, rfl⟩
  have s1 : w1.heap.size = w.heap.size + 1 := by rw [← hw1, World.size_alloc]
  obtain ⟨w2, hw2⟩ : ∃ u, w1.alloc (.cells #[.int .i64 0, .int .i64 1] 3) = u := ⟨_, rfl⟩
  have k1 : Keep [] w w1 := by rw [← hw1]; exact (Keep.refl _ _).alloc _
  have k2 : Keep [] w1 w2 := by rw [← hw2]; exact (Keep.refl _ _).alloc _
  have b1 : w2.heap[w.heap.size]? = some (.cells #[.int .i64 1, .int .i64 2, .slice (some ⟨w.heap.size + 1, 0, none⟩) 2 2] 28 (0, 0)) := (k2.block _ (by rw [s1]; omega) (by simp)).trans (by rw [← hw1]; exact World.alloc_heap_new w _)
  have b2 : w2.heap[w.heap.size + 1]? = some (.cells #[.int .i64 0, .int .i64 1] 3 (0, 0)) := by rw [← hw2, ← s1]; exact World.alloc_heap_new w1 _
  rw [hw1, hw2]
  refine bodyPost_ret (results_cell_row rfl _ w2 w.heap.size 28 _ (0, 0) _ rfl b1 Tryz.underlying28 rfl (by kernel_rfl)) rfl ?_
  refine ⟨w.heap.size + 1, rfl, fun _ => ⟨w.heap.size + 1, 0, rfl, lt_of_heap b2, fun j hj => ?_⟩, k1.trans k2⟩
  have hj2 : j = 0 ∨ j = 1 := by simp at hj; omega
  unfold World.cell?
  rw [Nat.zero_add]
  rcases hj2 with rfl | rfl <;> (rw [b2]; rfl)
theorem atOf_le {m : List (Int × St)} (h : ∀ q ∈ m, q.2.dn ≤ 3) (k : Int) : (atOf k m).dn ≤ 3 := by
  unfold atOf
  cases hl : look k m with
  | none => decide
  | some v => exact h _ (look_mem hl)
def k0 : Cd := ⟨1, 2, [0, 1], [], 0, [], 0, 0⟩
def k1 : Cd := ⟨1, 2, [0, 1], [(0, ⟨1, 0, 0, 1⟩)], 1, [(1, ⟨1, 0⟩)], 0, 0⟩
def k2 : Cd := ⟨2, 2, [1, 1], [(0, ⟨1, 0, 0, 1⟩)], 1, [(1, ⟨2, 0⟩)], 0, 0⟩
def k3 : Cd := ⟨2, 2, [1, 1], [(0, ⟨1, 0, 0, 1⟩)], 1, [(1, ⟨2, 2⟩)], 0, 0⟩
def k4 : Cd := ⟨2, 2, [1, 1], [], 1, [], 1, 0⟩
theorem k0_mem : CdMem k0 := ⟨by decide, by decide, by decide, by decide, by decide, atOf_le (by decide)⟩
theorem k0_fine : CdFine k0 := ⟨by decide, by decide, by decide, by decide, by decide, by decide, atOf_le (by decide)⟩
theorem k1_mem : CdMem k1 := ⟨by decide, by decide, by decide, by decide, by decide, atOf_le (by decide)⟩
theorem k1_fine : CdFine k1 := ⟨by decide, by decide, by decide, by decide, by decide, by decide, atOf_le (by decide)⟩
theorem k2_mem : CdMem k2 := ⟨by decide, by decide, by decide, by decide, by decide, atOf_le (by decide)⟩
theorem k2_fine : CdFine k2 := ⟨by decide, by decide, by decide, by decide, by decide, by decide, atOf_le (by decide)⟩
theorem k3_mem : CdMem k3 := ⟨by decide, by decide, by decide, by decide, by decide, atOf_le (by decide)⟩
theorem k3_fine : CdFine k3 := ⟨by decide, by decide, by decide, by decide, by decide, by decide, atOf_le (by decide)⟩
theorem k4_mem : CdMem k4 := ⟨by decide, by decide, by decide, by decide, by decide, atOf_le (by decide)⟩
theorem k4_fine : CdFine k4 := ⟨by decide, by decide, by decide, by decide, by decide, by decide, atOf_le (by decide)⟩
theorem go_ord : coOrd k0 0 1 = (1, 0, k1) := by kernel_rfl
theorem go_ord2 : coOrd k1 0 1 = (0, 20, k1) := by kernel_rfl
theorem go_ab : coAbort k1 1 = (4, k1) := by kernel_rfl
theorem go_no : coHandle k1 0 10 1 0 1 = (false, k1) := by kernel_rfl
theorem go_rdy : coHandle k1 1 10 1 0 1 = (true, k2) := by kernel_rfl
theorem go_ab2 : coAbort k2 0 = (11, k2) := by kernel_rfl
theorem go_d1 : coHandle k2 1 13 1 0 0 = (true, k3) := by kernel_rfl
theorem go_d2 : coHandle k3 1 13 1 0 0 = (false, k3) := by kernel_rfl
theorem go_d3 : coHandle k3 0 13 1 0 0 = (true, k4) := by kernel_rfl
theorem go_t1 : (tickF k1).length = 7 ∧ ((tickF k1)[0]?.map (·.to)) = some 0 := ⟨by kernel_rfl, by kernel_rfl⟩
theorem go_t2 : (tickF k2).length = 7 ∧ ((tickF k2)[0]?.map (·.to)) = some 1 := ⟨by kernel_rfl, by kernel_rfl⟩
end Go.Proofs.YtdnfibecobodkaaGreat
