/- The coordinator's calls, over a bound; the law's examples · The law's awake · No coordinator (toward CoordPlays) · Great: are there more acts or longer messages than a statement speaks of? -/
import Derived.Test.YteejdfpfdnkiiaaGreatCcH
import Derived.Test.YteejdfpfdnkiiaaGreatCcK
import Derived.Deep.WholeRow
import Derived.Test.YteejdfpfdnkiiaaGreatPb
import Derived.Test.YteejdfpfdnkiiaaGreatPf
namespace Go.Proofs.YteejdfpfdnkiiaaGreat
section
open Go.RowKit Go.Lib
open Go.ChangeMaps (setBlock)
set_option linter.unusedSimpArgs false
set_option linter.unusedVariables false
theorem CoS.kept {W W' : World} {p : Nat} {F : List Nat} {c : Cd} (h : CoS W p F c) (hk : Keep [] W W') : CoS W' p F c := by
  obtain ⟨oa, oc, bp, om, ab, h1, h2⟩ := h
  exact ⟨oa, oc, bp, om, ab, h1.kept hk, h2⟩
theorem CoS.lt {W : World} {p : Nat} {F : List Nat} {c : Cd} (h : CoS W p F c) : ∀ x ∈ F, x < W.heap.size := by
  obtain ⟨oa, oc, bp, om, ab, h1, rfl⟩ := h
  exact h1.lt
theorem CoS.keep {X : List Nat} {W W' : World} {p : Nat} {F : List Nat} {c : Cd} (h : CoS W p F c) (hk : Keep X W W') (hx : ∀ b ∈ F, b ∉ X) : CoS W' p F c := by
  obtain ⟨oa, oc, bp, om, ab, h1, rfl⟩ := h
  exact ⟨oa, oc, bp, om, ab, h1.keep hk hx, rfl⟩
theorem ordS {w : World} {p : Nat} {F : List Nat} {c : Cd} (h : CoS w p F c) (hm : CdMem c) (hl : 0 ≤ c.last) (part to : Int) : Calls Tryz.prog 8 #[.pointer (some ⟨p, 0, none⟩), .int .i64 part, .int .i64 to] w fun e w' => e = .returned (.tuple #[.int .i64 (coOrd c part to).1, .int .i64 (coOrd c part to).2.1]) ∧ CoN w p F w' (coOrd c part to).2.2 := by
  obtain ⟨oa, oc, bp, om, ab, h1, rfl⟩ := h
  refine (cord_any h1 hm.keys hm.ats hl part to).mono ?_
  rintro e w' ⟨rfl, om', h2, h3, h4⟩
  exact ⟨rfl, CoN.of h2 h4 (fun b hb => .inl hb) (fun b hb => by
    rcases h3 with h3 | ⟨b', h3, h5⟩
    · exact .inl (h3 ▸ hb)
    · rw [h3] at hb
      obtain rfl : b' = b := by simpa using hb
      exact .inr h5)⟩
theorem abortS {w : World} {p : Nat} {F : List Nat} {c : Cd} (h : CoS w p F c) (hm : CdMem c) (part : Int) : Calls Tryz.prog 9 #[.pointer (some ⟨p, 0, none⟩), .int .i64 part] w fun e w' => e = .returned (.int .i64 (coAbort c part).1) ∧ CoN w p F w' (coAbort c part).2 := by
  obtain ⟨oa, oc, bp, om, ab, h1, rfl⟩ := h
  refine (cabort_any h1 hm.ats part).mono ?_
  rintro e w' ⟨rfl, h2, h3⟩
  exact ⟨rfl, CoN.of h2 h3 (fun b hb => .inl hb) (fun b hb => .inl hb)⟩
theorem handleS {w : World} {p : Nat} {F : List Nat} {c : Cd} (h : CoS w p F c) (hm : CdMem c) (cs : Array Value) (hcs : cs.size = 22) (fr : Int) (k : Nat) (mv pt code : Int) (h0 : cs[0]? = some (.int .u8 k)) (h1 : cs[1]? = some (.int .i64 mv)) (h2 : cs[2]? = some (.int .i64 pt)) (h6 : cs[6]? = some (.int .i64 code)) : Calls Tryz.prog 11 #[.pointer (some ⟨p, 0, none⟩), .int .i64 fr, .agg cs] w fun e w' => e = .returned (.bool (coHandle c fr k mv pt code).1) ∧ CoN w p F w' (coHandle c fr k mv pt code).2 := by
  obtain ⟨oa, oc, bp, om, ab, h3, rfl⟩ := h
  exact chandle_any h3 hm cs hcs fr k mv pt code h0 h1 h2 h6
theorem tickS {w : World} {p : Nat} {F : List Nat} {c : Cd} (h : CoS w p F c) (hf : CdFine c) (hm : CdMem c) : Calls Tryz.prog 10 #[.pointer (some ⟨p, 0, none⟩)] w fun e w' => ∃ v, e = .returned v ∧ PRow w.heap.size w' v (tickF c) ∧ Keep [] w w' := by
  obtain ⟨oa, oc, bp, om, ab, h3, rfl⟩ := h
  exact ctick_any h3 hf hm.ord
theorem movesS {w : World} {p : Nat} {F : List Nat} {c : Cd} (h : CoS w p F c) (hf : CdFine c) (hm : CdMem c) : Calls Tryz.prog 14 #[.pointer (some ⟨p, 0, none⟩)] w fun e w' => ∃ v, e = .returned v ∧ MoRow w.heap.size w' v (movesF c) ∧ Keep [] w w' := by
  obtain ⟨oa, oc, bp, om, ab, h3, rfl⟩ := h
  exact cmoves_any h3 (by have := hf.num; omega) hm.ord
theorem tableS {w : World} {p : Nat} {F : List Nat} {c : Cd} (h : CoS w p F c) (hf : CdFine c) : Calls Tryz.prog 13 #[.pointer (some ⟨p, 0, none⟩)] w fun e w' => ∃ a d, e = .returned (.agg #[.int .i64 c.ep, .int .i64 c.nd, .slice a c.own.length d]) ∧ IRow w.heap.size w' (.slice a c.own.length d) c.own ∧ Keep [] w w' := by
  obtain ⟨oa, oc, bp, om, ab, h3, rfl⟩ := h
  exact ctable_any h3 (by have := hf.len; omega)
theorem endedS {w : World} {p : Nat} {F : List Nat} {c : Cd} (h : CoS w p F c) : Calls Tryz.prog 21 #[.pointer (some ⟨p, 0, none⟩)] w fun e w' => e = .returned (.tuple #[.int .i64 c.com, .int .i64 c.abo]) ∧ Keep [] w w' := by
  obtain ⟨oa, oc, bp, om, ab, h3, rfl⟩ := h
  exact ended_any h3
/-- A coordinator whose blocks lie above a bound, and apart from some. -/
def CoP (base : Nat) (K : List Nat) (W : World) (p : Nat) (c : Cd) : Prop := ∃ F, CoS W p F c ∧ (∀ x ∈ F, base ≤ x ∧ x ∉ K) ∧ ∀ k ∈ K, k < W.heap.size
/-- What stays: all below the bound, and those. -/
def KP (base : Nat) (K : List Nat) (w w' : World) : Prop := ∃ X, Keep X w w' ∧ ∀ x ∈ X, base ≤ x ∧ x ∉ K
theorem KP.of {base : Nat} {K : List Nat} {w w' : World} (h : Keep [] w w') : KP base K w w' := ⟨[], h, by simp⟩
theorem KP.below {base : Nat} {K : List Nat} {w w' : World} (h : KP base K w w') (hb : base ≤ w.heap.size) : Below base w w' := by
  obtain ⟨X, h1, h2⟩ := h
  exact h1.below hb (fun x hx => (h2 x hx).1)
theorem KP.size {base : Nat} {K : List Nat} {w w' : World} (h : KP base K w w') : w.heap.size ≤ w'.heap.size := by
  obtain ⟨X, h1, h2⟩ := h
  exact h1.size
theorem KP.block {base : Nat} {K : List Nat} {w w' : World} (h : KP base K w w') {k : Nat} (hk : k ∈ K) (hl : k < w.heap.size) : w'.heap[k]? = w.heap[k]? := by
  obtain ⟨X, h1, h2⟩ := h
  exact h1.block k hl (fun hx => (h2 k hx).2 hk)
theorem KP.row {base b0 n size : Nat} {K : List Nat} {w w' : World} {e : TypeId} {v : Value} {xs : List Value} (h : KP base K w w') (hr : w.ownsRow b0 e size v n xs) (hk : ∀ g, v.ownBlock = some g → g ∈ K) : w'.ownsRow b0 e size v n xs := by
  obtain ⟨X, h1, h2⟩ := h
  exact own_keep hr h1 (fun g hg hx => (h2 g hx).2 (hk g hg))
theorem CoP.kept {base : Nat} {K : List Nat} {W W' : World} {p : Nat} {c : Cd} (h : CoP base K W p c) (hk : Keep [] W W') : CoP base K W' p c := by
  obtain ⟨F, h1, h2, h3⟩ := h
  exact ⟨F, h1.kept hk, h2, fun k hx => Nat.lt_of_lt_of_le (h3 k hx) hk.size⟩
theorem CoP.add {base : Nat} {K : List Nat} {w W : World} {p : Nat} {c : Cd} (h : CoP base K w p c) (hk : Keep [] w W) (k : List Nat) (hn : ∀ x ∈ k, w.heap.size ≤ x ∧ x < W.heap.size) : CoP base (k ++ K) W p c := by
  obtain ⟨F, h1, h2, h3⟩ := h
  refine ⟨F, h1.kept hk, fun x hx => ⟨(h2 x hx).1, fun hm => ?_⟩, fun x hx => ?_⟩
  · rcases List.mem_append.1 hm with e | e
    · have := hn x e
      have := h1.lt x hx
      omega
    · exact (h2 x hx).2 e
  · rcases List.mem_append.1 hx with e | e
    · exact (hn x e).2
    · exact Nat.lt_of_lt_of_le (h3 x e) hk.size
theorem CoN.low {base : Nat} {K : List Nat} {w w' : World} {p : Nat} {F : List Nat} {c : Cd} (h : CoN w p F w' c) (hF : ∀ x ∈ F, base ≤ x ∧ x ∉ K) (hK : ∀ k ∈ K, k < w.heap.size) (hb : base ≤ w.heap.size) : CoP base K w' p c ∧ KP base K w w' := by
  obtain ⟨F', h1, h2, h3⟩ := h
  refine ⟨⟨F', h1, fun x hx => ?_, fun k hk => Nat.lt_of_lt_of_le (hK k hk) h2.size⟩, ⟨F, h2, hF⟩⟩
  rcases h3 x hx with e | e
  · exact hF x e
  · exact ⟨Nat.le_trans hb e, fun hm => by have := hK x hm; omega⟩
section
variable {base : Nat} {K : List Nat} {w : World} {p : Nat} {c : Cd}
theorem ordL (h : CoP base K w p c) (hb : base ≤ w.heap.size) (hm : CdMem c) (hl : 0 ≤ c.last) (part to : Int) : Calls Tryz.prog 8 #[.pointer (some ⟨p, 0, none⟩), .int .i64 part, .int .i64 to] w fun e w' => e = .returned (.tuple #[.int .i64 (coOrd c part to).1, .int .i64 (coOrd c part to).2.1]) ∧ CoP base K w' p (coOrd c part to).2.2 ∧ KP base K w w' := by
  obtain ⟨F, h1, h2, h3⟩ := h
  exact (ordS h1 hm hl part to).mono fun e w' ⟨he, hn⟩ => ⟨he, hn.low h2 h3 hb⟩
theorem abortL (h : CoP base K w p c) (hb : base ≤ w.heap.size) (hm : CdMem c) (part : Int) : Calls Tryz.prog 9 #[.pointer (some ⟨p, 0, none⟩), .int .i64 part] w fun e w' => e = .returned (.int .i64 (coAbort c part).1) ∧ CoP base K w' p (coAbort c part).2 ∧ KP base K w w' := by
  obtain ⟨F, h1, h2, h3⟩ := h
  exact (abortS h1 hm part).mono fun e w' ⟨he, hn⟩ => ⟨he, hn.low h2 h3 hb⟩
theorem handleL (h : CoP base K w p c) (hb : base ≤ w.heap.size) (hm : CdMem c) (cs : Array Value) (hcs : cs.size = 22) (fr : Int) (k : Nat) (mv pt code : Int) (h0 : cs[0]? = some (.int .u8 k)) (h1 : cs[1]? = some (.int .i64 mv)) (h2 : cs[2]? = some (.int .i64 pt)) (h6 : cs[6]? = some (.int .i64 code)) : Calls Tryz.prog 11 #[.pointer (some ⟨p, 0, none⟩), .int .i64 fr, .agg cs] w fun e w' => e = .returned (.bool (coHandle c fr k mv pt code).1) ∧ CoP base K w' p (coHandle c fr k mv pt code).2 ∧ KP base K w w' := by
  obtain ⟨F, h3, h4, h5⟩ := h
  exact (handleS h3 hm cs hcs fr k mv pt code h0 h1 h2 h6).mono fun e w' ⟨he, hn⟩ => ⟨he, hn.low h4 h5 hb⟩
theorem tickL (h : CoP base K w p c) (hf : CdFine c) (hm : CdMem c) : Calls Tryz.prog 10 #[.pointer (some ⟨p, 0, none⟩)] w fun e w' => ∃ v, e = .returned v ∧ PRow w.heap.size w' v (tickF c) ∧ Keep [] w w' := by
  obtain ⟨F, h3, h4⟩ := h
  exact tickS h3 hf hm
theorem movesL (h : CoP base K w p c) (hf : CdFine c) (hm : CdMem c) : Calls Tryz.prog 14 #[.pointer (some ⟨p, 0, none⟩)] w fun e w' => ∃ v, e = .returned v ∧ MoRow w.heap.size w' v (movesF c) ∧ Keep [] w w' := by
  obtain ⟨F, h3, h4⟩ := h
  exact movesS h3 hf hm
theorem tableL (h : CoP base K w p c) (hf : CdFine c) : Calls Tryz.prog 13 #[.pointer (some ⟨p, 0, none⟩)] w fun e w' => ∃ a d, e = .returned (.agg #[.int .i64 c.ep, .int .i64 c.nd, .slice a c.own.length d]) ∧ IRow w.heap.size w' (.slice a c.own.length d) c.own ∧ Keep [] w w' := by
  obtain ⟨F, h3, h4⟩ := h
  exact tableS h3 hf
theorem endedL (h : CoP base K w p c) : Calls Tryz.prog 21 #[.pointer (some ⟨p, 0, none⟩)] w fun e w' => e = .returned (.tuple #[.int .i64 c.com, .int .i64 c.abo]) ∧ Keep [] w w' := by
  obtain ⟨F, h3, h4⟩ := h
  exact endedS h3
end
theorem newL {w : World} (t : Tb) (hI : IntsAt w t.oa t.owner) (hr : t.right = true) : Calls Tryz.prog 6 #[t.val] w fun e w' => ∃ p, e = .returned (.tuple #[.pointer (some ⟨p, 0, none⟩), .int .i64 0]) ∧ CoP w.heap.size [] w' p ⟨t.ep, t.nodes, t.owner, [], 0, [], 0, 0⟩ ∧ Keep [] w w' := by
  refine (cnew_any t hI hr).mono ?_
  rintro e w' ⟨p, oa, oc, bp, ab, rfl, h1, h2, h3⟩
  exact ⟨p, rfl, ⟨_, ⟨oa, oc, bp, none, ab, h1, rfl⟩, fun x hx => ⟨h3 x hx, by simp⟩, by simp⟩, h2⟩
/-- What a side says. -/
def msR (k : Nat) (mv pt code : Int) : Array Value := #[.int .u8 k, .int .i64 mv, .int .i64 pt, .int .i64 0, .int .i64 0, .int .i64 0, .int .i64 code, .int .u64 0, .int .i64 0, .int .i64 0, .int .i64 0, .int .i64 0, .int .u8 0, .string ⟨#[]⟩, .int .i64 0, .int .i64 0, .int .i64 0, .int .i64 0, .int .i64 0, .slice none 0 0, .slice none 0 0, .string ⟨#[]⟩]
set_option maxRecDepth 100000 in
theorem saysR (w : World) (mv pt code : Int) : Calls Tryz.prog 12 #[.int .i64 mv, .int .i64 pt, .int .i64 code] w fun e w' => e = .returned (.agg (msR 10 mv pt code)) ∧ Keep [] w w' := by
  obtain ⟨w1, hw1⟩ : ∃ u, w.alloc (.cells #[.int .u8 0, .int .i64 0, .int .i64 0, .int .i64 0, .int .i64 0, .int .i64 0, .int .i64 0, .int .u64 0, .int .i64 0, .int .i64 0, .int .i64 0, .int .i64 0, .int .u8 0, .string ⟨#[]⟩, .int .i64 0, .int .i64 0, .int .i64 0, .int .i64 0, .int .i64 0, .slice none 0 0, .slice none 0 0, .string ⟨#[]⟩] 47) = u := ⟨_, rfl⟩
  have k1 : Keep [] w w1 := by rw [← hw1]; exact (Keep.refl _ _).alloc _
  have z1 : MsAt w1 w.heap.size (msC 0 0 0 0 0 0 (.slice none 0 0)) := by rw [← hw1]; exact World.alloc_heap_new w _
  obtain ⟨w2, hw2⟩ : ∃ u, w1.setRow w.heap.size (msR 10 mv pt code) = u := ⟨_, rfl⟩
  have hst := run_storeVar_row (P := Tryz.prog) w1 w.heap.size 47 47 _ (msR 10 mv pt code) z1 (by kernel_rfl) rfl (by simp [msR, Value.oneCell'])
  rw [hw2] at hst
  have z2 : w2.heap[w.heap.size]? = some (.cells (msR 10 mv pt code) 47 (0, 0)) := by rw [← hw2]; exact setRow_heap w1 w.heap.size _ _ _ _ z1
  have k2 : Keep [] w w2 := by rw [← hw2]; exact k1.setRow _ _ (.inr (Nat.le_refl _))
  have HST := Lib.hid hst
  have HZ := Lib.hid z2
  have HK := Lib.hid k2
  clear hst z1 z2 k1 k2 hw2
  go_enter Tryz.func12, Tryz.ntmps12
  go_wp2_with ((with_reducible refine wpList_store_all ?_ 47 (.tmp 6) (.tmp 10) ?_ (w.heap.size) ?_ (msR 10 mv pt code) ?_ HST.out ?_); rfl; rfl; rfl; rfl)
  refine bodyPost_ret (results_cell_row rfl _ w2 w.heap.size 47 (msR 10 mv pt code) (0, 0) _ rfl HZ.out Tryz.underlying47 rfl (by kernel_rfl)) rfl ?_
  exact ⟨rfl, HK.out⟩
set_option maxRecDepth 100000 in
theorem saysD (w : World) (mv pt : Int) : Calls Tryz.prog 25 #[.int .i64 mv, .int .i64 pt] w fun e w' => e = .returned (.agg (msR 13 mv pt 0)) ∧ Keep [] w w' := by
  obtain ⟨w1, hw1⟩ : ∃ u, w.alloc (.cells #[.int .u8 0, .int .i64 0, .int .i64 0, .int .i64 0, .int .i64 0, .int .i64 0, .int .i64 0, .int .u64 0, .int .i64 0, .int .i64 0, .int .i64 0, .int .i64 0, .int .u8 0, .string ⟨#[]⟩, .int .i64 0, .int .i64 0, .int .i64 0, .int .i64 0, .int .i64 0, .slice none 0 0, .slice none 0 0, .string ⟨#[]⟩] 47) = u := ⟨_, rfl⟩
  have k1 : Keep [] w w1 := by rw [← hw1]; exact (Keep.refl _ _).alloc _
  have z1 : MsAt w1 w.heap.size (msC 0 0 0 0 0 0 (.slice none 0 0)) := by rw [← hw1]; exact World.alloc_heap_new w _
  obtain ⟨w2, hw2⟩ : ∃ u, w1.setRow w.heap.size (msR 13 mv pt 0) = u := ⟨_, rfl⟩
  have hst := run_storeVar_row (P := Tryz.prog) w1 w.heap.size 47 47 _ (msR 13 mv pt 0) z1 (by kernel_rfl) rfl (by simp [msR, Value.oneCell'])
  rw [hw2] at hst
  have z2 : w2.heap[w.heap.size]? = some (.cells (msR 13 mv pt 0) 47 (0, 0)) := by rw [← hw2]; exact setRow_heap w1 w.heap.size _ _ _ _ z1
  have k2 : Keep [] w w2 := by rw [← hw2]; exact k1.setRow _ _ (.inr (Nat.le_refl _))
  have HST := Lib.hid hst
  have HZ := Lib.hid z2
  have HK := Lib.hid k2
  clear hst z1 z2 k1 k2 hw2
  go_enter Tryz.func25, Tryz.ntmps25
  go_wp2_with ((with_reducible refine wpList_store_all ?_ 47 (.tmp 4) (.tmp 7) ?_ (w.heap.size) ?_ (msR 13 mv pt 0) ?_ HST.out ?_); rfl; rfl; rfl; rfl)
  refine bodyPost_ret (results_cell_row rfl _ w2 w.heap.size 47 (msR 13 mv pt 0) (0, 0) _ rfl HZ.out Tryz.underlying47 rfl (by kernel_rfl)) rfl ?_
  exact ⟨rfl, HK.out⟩
set_option maxRecDepth 100000 in
theorem first_any (w : World) : Calls Tryz.prog 24 #[] w fun e w' => ∃ g, e = .returned (Tb.val ⟨1, 2, some ⟨g, 0, none⟩, 2, [0, 1]⟩) ∧ IntsAt w' (some ⟨g, 0, none⟩) [0, 1] ∧ Keep [] w w' := by
  go_enter Tryz.func24, Tryz.ntmps24
  go_wp2_with (fail)
  obtain ⟨w1, hw1⟩ : ∃ u, w.alloc (.cells #[.int .i64 1, .int .i64 2, .slice (some ⟨w.heap.size + 1, 0, none⟩) 2 2] 24) = u := ⟨_, rfl⟩
  have s1 : w1.heap.size = w.heap.size + 1 := by rw [← hw1, World.size_alloc]
  obtain ⟨w2, hw2⟩ : ∃ u, w1.alloc (.cells #[.int .i64 0, .int .i64 1] 3) = u := ⟨_, rfl⟩
  have k1 : Keep [] w w1 := by rw [← hw1]; exact (Keep.refl _ _).alloc _
  have k2 : Keep [] w1 w2 := by rw [← hw2]; exact (Keep.refl _ _).alloc _
  have b1 : w2.heap[w.heap.size]? = some (.cells #[.int .i64 1, .int .i64 2, .slice (some ⟨w.heap.size + 1, 0, none⟩) 2 2] 24 (0, 0)) := (k2.block _ (by rw [s1]; omega) (by simp)).trans (by rw [← hw1]; exact World.alloc_heap_new w _)
  have b2 : w2.heap[w.heap.size + 1]? = some (.cells #[.int .i64 0, .int .i64 1] 3 (0, 0)) := by rw [← hw2, ← s1]; exact World.alloc_heap_new w1 _
  rw [hw1, hw2]
  refine bodyPost_ret (results_cell_row rfl _ w2 w.heap.size 24 _ (0, 0) _ rfl b1 Tryz.underlying24 rfl (by kernel_rfl)) rfl ?_
  refine ⟨w.heap.size + 1, rfl, fun _ => ⟨w.heap.size + 1, 0, rfl, lt_of_heap b2, fun j hj => ?_⟩, k1.trans k2⟩
  have hj2 : j = 0 ∨ j = 1 := by simp at hj; omega
  unfold World.cell?
  rw [Nat.zero_add]
  rcases hj2 with rfl | rfl <;> (rw [b2]; rfl)
theorem atOf_le {m : List (Int × St)} (h : ∀ q ∈ m, q.2.dn ≤ 3) (k : Int) : (atOf k m).dn ≤ 3 := by
  unfold atOf
  cases hl : look k m with
  | none => decide
  | some v => exact h _ (look_mem hl)
def k0 : Cd := ⟨1, 2, [0, 1], [], 0, [], 0, 0⟩
def k1 : Cd := ⟨1, 2, [0, 1], [(0, ⟨1, 0, 0, 1⟩)], 1, [(1, ⟨1, 0⟩)], 0, 0⟩
def k2 : Cd := ⟨2, 2, [1, 1], [(0, ⟨1, 0, 0, 1⟩)], 1, [(1, ⟨2, 0⟩)], 0, 0⟩
def k3 : Cd := ⟨2, 2, [1, 1], [(0, ⟨1, 0, 0, 1⟩)], 1, [(1, ⟨2, 2⟩)], 0, 0⟩
def k4 : Cd := ⟨2, 2, [1, 1], [], 1, [], 1, 0⟩
theorem k0_mem : CdMem k0 := ⟨by decide, by decide, by decide, by decide, by decide, atOf_le (by decide)⟩
theorem k0_fine : CdFine k0 := ⟨by decide, by decide, by decide, by decide, by decide, by decide, atOf_le (by decide)⟩
theorem k1_mem : CdMem k1 := ⟨by decide, by decide, by decide, by decide, by decide, atOf_le (by decide)⟩
theorem k1_fine : CdFine k1 := ⟨by decide, by decide, by decide, by decide, by decide, by decide, atOf_le (by decide)⟩
theorem k2_mem : CdMem k2 := ⟨by decide, by decide, by decide, by decide, by decide, atOf_le (by decide)⟩
theorem k2_fine : CdFine k2 := ⟨by decide, by decide, by decide, by decide, by decide, by decide, atOf_le (by decide)⟩
theorem k3_mem : CdMem k3 := ⟨by decide, by decide, by decide, by decide, by decide, atOf_le (by decide)⟩
theorem k3_fine : CdFine k3 := ⟨by decide, by decide, by decide, by decide, by decide, by decide, atOf_le (by decide)⟩
theorem k4_mem : CdMem k4 := ⟨by decide, by decide, by decide, by decide, by decide, atOf_le (by decide)⟩
theorem k4_fine : CdFine k4 := ⟨by decide, by decide, by decide, by decide, by decide, by decide, atOf_le (by decide)⟩
theorem go_ord : coOrd k0 0 1 = (1, 0, k1) := by kernel_rfl
theorem go_ord2 : coOrd k1 0 1 = (0, 20, k1) := by kernel_rfl
theorem go_ab : coAbort k1 1 = (4, k1) := by kernel_rfl
theorem go_no : coHandle k1 0 10 1 0 1 = (false, k1) := by kernel_rfl
theorem go_rdy : coHandle k1 1 10 1 0 1 = (true, k2) := by kernel_rfl
theorem go_ab2 : coAbort k2 0 = (11, k2) := by kernel_rfl
theorem go_d1 : coHandle k2 1 13 1 0 0 = (true, k3) := by kernel_rfl
theorem go_d2 : coHandle k3 1 13 1 0 0 = (false, k3) := by kernel_rfl
theorem go_d3 : coHandle k3 0 13 1 0 0 = (true, k4) := by kernel_rfl
theorem go_t1 : (tickF k1).length = 7 ∧ ((tickF k1)[0]?.map (·.to)) = some 0 := ⟨by kernel_rfl, by kernel_rfl⟩
theorem go_t2 : (tickF k2).length = 7 ∧ ((tickF k2)[0]?.map (·.to)) = some 1 := ⟨by kernel_rfl, by kernel_rfl⟩
end
section
open Go.RowKit Go.Lib
set_option linter.unusedSimpArgs false
set_option linter.unusedVariables false
theorem row_one {base : Nat} {W : World} {a : Option Addr} {d : Nat} {l : List Int} (h : IRow base W (.slice a l.length d) l) (hl : l ≠ []) : ∃ g, a = some ⟨g, 0, none⟩ ∧ base ≤ g ∧ g < W.heap.size ∧ ∀ j, j < l.length → W.cell? ⟨g, j, none⟩ = some (.int .i64 (l[j]?.getD 0)) := by
  rcases h.2 with ⟨hv, h0⟩ | ⟨g, cap, cur, hv, hb, hg, r⟩
  · exact absurd (List.length_eq_zero_iff.1 h0) hl
  · simp only [Value.slice.injEq, true_and] at hv
    obtain ⟨rfl, rfl⟩ := hv
    obtain ⟨b', o', e, h2, h3⟩ := h.at hl
    cases e
    exact ⟨g, rfl, hb, h2, fun j hj => by simpa using h3 j hj⟩
set_option maxRecDepth 100000 in
set_option maxHeartbeats 4000000 in
theorem awake_any (w : World) : Calls Tryz.prog 4 #[] w fun e w' => e = .returned (.bool true) ∧ Below w.heap.size w w' := by
  go_enter Tryz.func4, Tryz.ntmps4
  go_wp2_with (fail)
  refine (first_any _).mono ?_
  rintro e w1 ⟨gf, rfl, hI, hk⟩
  have HI := Lib.hid hI
  have HB := Lib.hid (hk.below (B := w.heap.size) (Nat.le_refl _) (by simp))
  have HB0 := Lib.hid (show w.heap.size ≤ w1.heap.size from hk.size)
  unfold Tb.val
  simp only [List.length_cons, List.length_nil]
  clear hI hk
  go_wp2_with (fail)
  have hnew := newL (w := w1) ⟨1, 2, some ⟨gf, 0, none⟩, 2, [0, 1]⟩ HI.out (by kernel_rfl)
  unfold Tb.val at hnew
  refine hnew.mono ?_
  rintro e w2 ⟨p, rfl, hc, hk⟩
  have HC : Hid (CoP w1.heap.size [] w2 p k0) := Lib.hid hc
  have HS := Lib.hid hk.size
  have HB := Lib.hid (HB.out.trans (hk.below HB.out.size (by simp)))
  clear hnew hc hk
  have HB1 : Hid (w.heap.size ≤ w1.heap.size) := Lib.hid (by have h := HB0.out; exact h)
  go_wp2_with (fail)
  refine (ordL HC.out HS.out k0_mem (by decide) 0 1).mono ?_
  rw [go_ord]
  rintro e w3 ⟨rfl, hc, hkp⟩
  have HB := Lib.hid (HB.out.trans ((hkp.below HS.out).mono HB1.out))
  have HS := Lib.hid (Nat.le_trans HS.out hkp.size)
  have HC := Lib.hid hc
  clear hc hkp
  go_wp2_with (fail)
  refine (saysR _ 1 0 1).mono ?_
  rintro e w4 ⟨rfl, hk⟩
  have HC := Lib.hid (HC.out.kept hk)
  have HB := Lib.hid (HB.out.trans (hk.below (Nat.le_trans HB1.out HS.out) (by simp)))
  have HS := Lib.hid (Nat.le_trans HS.out hk.size)
  clear hk
  go_wp2_with (fail)
  refine (handleL HC.out HS.out k1_mem _ rfl 1 10 1 0 1 rfl rfl rfl rfl).mono ?_
  rw [go_rdy]
  rintro e w5 ⟨rfl, hc, hkp⟩
  have HB := Lib.hid (HB.out.trans ((hkp.below HS.out).mono HB1.out))
  have HS := Lib.hid (Nat.le_trans HS.out hkp.size)
  have HC := Lib.hid hc
  clear hc hkp
  go_wp2_with (fail)
  refine (tableL HC.out k2_fine).mono ?_
  rintro e w6 ⟨a, d, rfl, hr, hk⟩
  have hr2 : IRow w5.heap.size w6 (.slice a [(1 : Int), 1].length d) [1, 1] := hr
  obtain ⟨g, rfl, hg1, hg2, hgc⟩ := row_one hr2 (by simp)
  obtain ⟨w7, hw7⟩ : ∃ u, w6.alloc (.cells #[.int .i64 2, .int .i64 2, .slice (some ⟨g, 0, none⟩) 2 d] 24) = u := ⟨_, rfl⟩
  have k7 : Keep [] w6 w7 := by rw [← hw7]; exact (Keep.refl _ _).alloc _
  have b7 : w7.heap[w6.heap.size]? = some (.cells #[.int .i64 2, .int .i64 2, .slice (some ⟨g, 0, none⟩) 2 d] 24 (0, 0)) := by rw [← hw7]; exact World.alloc_heap_new w6 _
  have hk57 := hk.trans k7
  have HC := Lib.hid (HC.out.add hk57 [w6.heap.size, g] (by intro x hx; have h1 := hk.size; have h2 := lt_of_heap b7; simp only [List.mem_cons, List.not_mem_nil, or_false] at hx; rcases hx with rfl | rfl <;> omega))
  have HB := Lib.hid (HB.out.trans (hk57.below (Nat.le_trans HB1.out HS.out) (by simp)))
  have HS := Lib.hid (Nat.le_trans HS.out hk57.size)
  have HT := Lib.hid b7
  have HG := Lib.hid ((k7.cell 0 hg2 (by simp)).trans (hgc 0 (by simp)))
  have HGL := Lib.hid (Nat.lt_of_lt_of_le hg2 k7.size)
  rw [show (k2.ep : Int) = 2 from rfl, show (k2.nd : Int) = 2 from rfl, show k2.own.length = 2 from rfl]
  clear hr hr2 hk k7 b7 hk57 hg1 hg2 hgc
  go_wp2_with (fail)
  refine (saysD _ 1 0).mono ?_
  rintro e w8 ⟨rfl, hk⟩
  have HC := Lib.hid (HC.out.kept hk)
  have HB := Lib.hid (HB.out.trans (hk.below (Nat.le_trans HB1.out HS.out) (by simp)))
  have HS := Lib.hid (Nat.le_trans HS.out hk.size)
  have HT := Lib.hid ((hk.block _ (lt_of_heap HT.out) (by simp)).trans HT.out)
  have HG := Lib.hid ((hk.cell 0 HGL.out (by simp)).trans HG.out)
  have HGL := Lib.hid (Nat.lt_of_lt_of_le HGL.out hk.size)
  clear hk
  go_wp2_with (fail)
  refine (handleL HC.out HS.out k2_mem _ rfl 1 13 1 0 0 rfl rfl rfl rfl).mono ?_
  rw [go_d1]
  rintro e w9 ⟨rfl, hc, hkp⟩
  have HB := Lib.hid (HB.out.trans ((hkp.below HS.out).mono HB1.out))
  have HS := Lib.hid (Nat.le_trans HS.out hkp.size)
  have HC := Lib.hid hc
  have HT := Lib.hid ((hkp.block (by simp) (lt_of_heap HT.out)).trans HT.out)
  have HG := Lib.hid ((World.cell?_of_block (hkp.block (k := g) (by simp) HGL.out)).trans HG.out)
  have HGL := Lib.hid (Nat.lt_of_lt_of_le HGL.out hkp.size)
  clear hc hkp
  go_wp2_with (fail)
  refine (saysD _ 1 0).mono ?_
  rintro e w10 ⟨rfl, hk⟩
  have HC := Lib.hid (HC.out.kept hk)
  have HB := Lib.hid (HB.out.trans (hk.below (Nat.le_trans HB1.out HS.out) (by simp)))
  have HS := Lib.hid (Nat.le_trans HS.out hk.size)
  have HT := Lib.hid ((hk.block _ (lt_of_heap HT.out) (by simp)).trans HT.out)
  have HG := Lib.hid ((hk.cell 0 HGL.out (by simp)).trans HG.out)
  have HGL := Lib.hid (Nat.lt_of_lt_of_le HGL.out hk.size)
  clear hk
  go_wp2_with (fail)
  refine (handleL HC.out HS.out k3_mem _ rfl 0 13 1 0 0 rfl rfl rfl rfl).mono ?_
  rw [go_d3]
  rintro e w11 ⟨rfl, hc, hkp⟩
  have HB := Lib.hid (HB.out.trans ((hkp.below HS.out).mono HB1.out))
  have HS := Lib.hid (Nat.le_trans HS.out hkp.size)
  have HC := Lib.hid hc
  have HT := Lib.hid ((hkp.block (by simp) (lt_of_heap HT.out)).trans HT.out)
  have HG := Lib.hid ((World.cell?_of_block (hkp.block (k := g) (by simp) HGL.out)).trans HG.out)
  have HGL := Lib.hid (Nat.lt_of_lt_of_le HGL.out hkp.size)
  clear hc hkp
  go_wp2_with (fail)
  refine (endedL HC.out).mono ?_
  rintro e w12 ⟨rfl, hk⟩
  have HC := Lib.hid (HC.out.kept hk)
  have HB := Lib.hid (HB.out.trans (hk.below (Nat.le_trans HB1.out HS.out) (by simp)))
  have HS := Lib.hid (Nat.le_trans HS.out hk.size)
  have HT := Lib.hid ((hk.block _ (lt_of_heap HT.out) (by simp)).trans HT.out)
  have HG := Lib.hid ((hk.cell 0 HGL.out (by simp)).trans HG.out)
  have HGL := Lib.hid (Nat.lt_of_lt_of_le HGL.out hk.size)
  clear hk
  obtain ⟨t0, t1, t2, t3⟩ := TbFacts HT.out
  have g0 : w12.cell? ⟨g, 0, none⟩ = some (.int .i64 1) := HG.out
  rw [show (k4.com : Int) = 1 from rfl, show (k4.abo : Int) = 0 from rfl]
  go_wp2_with (fail)
  refine (movesL HC.out k4_fine k4_mem).mono ?_
  rintro e w13 ⟨v, rfl, hr, hk⟩
  have hr2 : MoRow w12.heap.size w13 v [] := hr
  have hvs : ∃ a c, v = .slice a 0 c := by obtain ⟨a, c, h, _⟩ := own_shape hr2; exact ⟨a, c, h⟩
  obtain ⟨a, c, rfl⟩ := hvs
  have HB := Lib.hid (HB.out.trans (hk.below (Nat.le_trans HB1.out HS.out) (by simp)))
  clear hr hr2 hk
  go_wp2_with (fail)
  go_ret
  exact ⟨rfl, HB.out⟩
end
section
open Go.RowKit Go.Lib
set_option linter.unusedSimpArgs false
set_option linter.unusedVariables false
theorem none_nil (w : World) : Calls Tryz.prog 29 #[.pointer none] w fun e w' => e = .returned (.bool true) ∧ w' = w := by
  go_enter Tryz.func29, Tryz.ntmps29
  go_wp2_with (fail)
  go_ret
  exact ⟨rfl, rfl⟩
theorem none_zero {w : World} {g : Nat} (h : w.heap[g]? = some (.cells #[.int .i64 0, .int .i64 0, .slice none 0 0, .pointer none, .map none, .int .i64 0, .int .i64 0] 38 (0, 0))) : Calls Tryz.prog 29 #[.pointer (some ⟨g, 0, none⟩)] w fun e w' => e = .returned (.bool true) ∧ w' = w := by
  have c3 : w.cell? ⟨g, 3, none⟩ = some (.pointer none) := by unfold World.cell?; rw [h]; rfl
  clear h
  go_enter Tryz.func29, Tryz.ntmps29
  go_wp2_with (fail)
  go_ret
  exact ⟨rfl, rfl⟩
theorem ord_no_one {ptr : Option Addr} {w : World} (h : Calls Tryz.prog 29 #[.pointer ptr] w fun e w' => e = .returned (.bool true) ∧ w' = w) (part to : Int) : Calls Tryz.prog 8 #[.pointer ptr, .int .i64 part, .int .i64 to] w fun e w' => e = .returned (.tuple #[.int .i64 0, .int .i64 2]) ∧ w' = w := by
  have H := Lib.hid h
  clear h
  go_enter Tryz.func8, Tryz.ntmps8
  go_wp2_with (fail)
  refine H.out.mono ?_
  rintro e w1 ⟨rfl, rfl⟩
  go_wp2_with (fail)
  go_ret2
  exact ⟨rfl, rfl⟩
theorem abort_nil (w : World) (part : Int) : Calls Tryz.prog 9 #[.pointer none, .int .i64 part] w fun e w' => e = .returned (.int .i64 2) ∧ Keep [] w w' := by
  go_enter Tryz.func9, Tryz.ntmps9
  go_wp2_with (fail)
  refine (none_nil _).mono ?_
  rintro e w1 ⟨rfl, rfl⟩
  go_wp2_with (fail)
  go_ret
  exact ⟨rfl, Keep.refl _ _⟩
theorem tick_nil (w : World) : Calls Tryz.prog 10 #[.pointer none] w fun e w' => e = .returned (.slice none 0 0) ∧ Keep [] w w' := by
  go_enter Tryz.func10, Tryz.ntmps10
  go_wp2_with (fail)
  refine (none_nil _).mono ?_
  rintro e w1 ⟨rfl, rfl⟩
  go_wp2_with (fail)
  go_ret
  exact ⟨rfl, Keep.refl _ _⟩
theorem moves_nil (w : World) : Calls Tryz.prog 14 #[.pointer none] w fun e w' => e = .returned (.slice none 0 0) ∧ Keep [] w w' := by
  go_enter Tryz.func14, Tryz.ntmps14
  go_wp2_with (fail)
  refine (none_nil _).mono ?_
  rintro e w1 ⟨rfl, rfl⟩
  go_wp2_with (fail)
  go_ret
  exact ⟨rfl, Keep.refl _ _⟩
theorem table_nil (w : World) : Calls Tryz.prog 13 #[.pointer none] w fun e w' => e = .returned (.agg #[.int .i64 0, .int .i64 0, .slice none 0 0]) ∧ Keep [] w w' := by
  obtain ⟨w1, hw1⟩ : ∃ u, w.alloc (.cells #[.int .i64 0, .int .i64 0, .slice none 0 0] 24) = u := ⟨_, rfl⟩
  have k1 : Keep [] w w1 := by rw [← hw1]; exact (Keep.refl _ _).alloc _
  have b1 : w1.heap[w.heap.size]? = some (.cells #[.int .i64 0, .int .i64 0, .slice none 0 0] 24 (0, 0)) := by rw [← hw1]; exact World.alloc_heap_new w _
  obtain ⟨w2, hw2⟩ : ∃ u, w1.setRow w.heap.size #[.int .i64 0, .int .i64 0, .slice none 0 0] = u := ⟨_, rfl⟩
  have hst := run_storeVar_row (P := Tryz.prog) w1 w.heap.size 24 24 _ #[.int .i64 0, .int .i64 0, .slice none 0 0] b1 (by kernel_rfl) rfl (by simp [Value.oneCell'])
  rw [hw2] at hst
  have HR : Hid (w2.heap[w.heap.size]? = some (.cells #[.int .i64 0, .int .i64 0, .slice none 0 0] 24 (0, 0))) := Lib.hid (by rw [← hw2]; exact setRow_heap w1 _ _ _ _ _ b1)
  have HK := Lib.hid (k1.step (show Keep [w.heap.size] w1 w2 from by rw [← hw2]; exact (Keep.refl _ _).setRow _ _ (.inl (by simp))) (fun y hy => .inr (by rw [List.mem_singleton.1 hy]; exact Nat.le_refl _)))
  have HST := Lib.hid hst
  clear hst k1 b1 hw2
  go_enter Tryz.func13, Tryz.ntmps13
  go_wp2_with (fail)
  refine (none_nil _).mono ?_
  rintro e w3 ⟨rfl, rfl⟩
  go_wp2_with ((with_reducible refine wpList_store_all ?_ 24 (.tmp 2) (.tmp 5) ?_ w.heap.size ?_ _ ?_ HST.out ?_); rfl; rfl; rfl; rfl)
  refine bodyPost_ret (results_cell_row rfl _ w2 w.heap.size 24 _ (0, 0) _ rfl HR.out Tryz.underlying24 rfl (by kernel_rfl)) rfl ?_
  exact ⟨rfl, HK.out⟩
theorem handle_nil (w : World) (fr : Int) (cs : Array Value) (hcs : cs.size = 22) : Calls Tryz.prog 11 #[.pointer none, .int .i64 fr, .agg cs] w fun e w' => e = .returned (.bool false) ∧ Keep [] w w' := by
  have hbox := box_msg cs hcs
  obtain ⟨w1, hw1⟩ : ∃ u, w.alloc (.cells cs 47) = u := ⟨_, rfl⟩
  have HK := Lib.hid (show Keep [] w w1 from by rw [← hw1]; exact (Keep.refl _ _).alloc _)
  go_enter Tryz.func11, Tryz.ntmps11
  go_wp2_with (fail)
  refine (none_nil _).mono ?_
  rintro e w3 ⟨rfl, rfl⟩
  go_wp2_with (fail)
  go_ret
  exact ⟨rfl, HK.out⟩
/-- A table that is not right makes none. -/
theorem cnew_bad {w : World} (t : Tb) (hI : IntsAt w t.oa t.owner) (hr : t.right = false) : Calls Tryz.prog 6 #[t.val] w fun e w' => e = .returned (.tuple #[.pointer none, .int .i64 1]) ∧ Keep [] w w' := by
  have hright := fun W (hB : Keep [] w W) => tright_any t W (hI.keep hB (by simp))
  rw [hr] at hright
  obtain ⟨ep, nd, oa, oc, own⟩ := t
  simp only [Tb.val] at hright ⊢
  obtain ⟨w1, hw1⟩ : ∃ u, w.alloc (.cells #[.int .i64 ep, .int .i64 nd, .slice oa own.length oc] 24) = u := ⟨_, rfl⟩
  have k1 : Keep [] w w1 := by rw [← hw1]; exact (Keep.refl _ _).alloc _
  have b1 : w1.heap[w.heap.size]? = some (.cells #[.int .i64 ep, .int .i64 nd, .slice oa own.length oc] 24 (0, 0)) := by rw [← hw1]; exact World.alloc_heap_new w _
  obtain ⟨c0, c1, c2, c3⟩ := TbFacts b1
  have HR := Lib.hid (hright w1 k1)
  have HK := Lib.hid k1
  clear hright k1 b1 hI hr
  go_enter Tryz.func6, Tryz.ntmps6
  go_wp2_with (fail)
  refine HR.out.mono ?_
  rintro e w2 ⟨rfl, hB⟩
  have HK2 := Lib.hid (HK.out.trans (Keep.of_below hB []))
  clear hB
  go_wp2_with (fail)
  go_ret2
  exact ⟨rfl, HK2.out⟩
end
section
open Go.RowKit Go.Lib
set_option linter.unusedSimpArgs false
set_option linter.unusedVariables false
theorem szMsg {ms : List Value} (h : ms.length = 22) : (Tryz.prog.info? 47).map (·.size) = some ms.length := by
  rw [h]
  kernel_rfl
theorem szMsgA {ms : List Value} (h : ms.length = 22) : (Tryz.prog.info? 47).map (·.size) = some ms.toArray.size := by
  rw [List.size_toArray]
  exact szMsg h
def zMsg : Array Value := #[.int .u8 0, .int .i64 0, .int .i64 0, .int .i64 0, .int .i64 0, .int .i64 0, .int .i64 0, .int .u64 0, .int .i64 0, .int .i64 0, .int .i64 0, .int .i64 0, .int .u8 0, .string ⟨#[]⟩, .int .i64 0, .int .i64 0, .int .i64 0, .int .i64 0, .int .i64 0, .slice none 0 0, .slice none 0 0, .string ⟨#[]⟩]
/-- A message goes into new memory. -/
theorem store_msg {w : World} {ms : List Value} {k : Nat} {mv pt cd : Int} (h : MsW ms k mv pt cd) : ∃ w', (storeVar 47 ⟨w.heap.size, 0, none⟩ (.agg ms.toArray)).run Tryz.prog (w.alloc (.cells zMsg 47)) = .ok () w' ∧ Keep [] w w' ∧ w'.heap[w.heap.size]? = some (.cells ms.toArray 47 (0, 0)) ∧ w'.heap.size = w.heap.size + 1 := by
  have hz : (w.alloc (.cells zMsg 47)).heap[w.heap.size]? = some (.cells zMsg 47 (0, 0)) := World.alloc_heap_new w _
  refine ⟨_, run_storeVar_row (P := Tryz.prog) _ w.heap.size 47 47 _ ms.toArray hz (szMsgA h.len) (Eq.trans (show zMsg.toList.length = 22 from rfl) (by rw [List.size_toArray, h.len])) (by simpa using h.one), ?_, ?_, ?_⟩
  · exact ((Keep.refl _ _).alloc _).setRow _ _ (.inr (Nat.le_refl _))
  · exact setRow_heap _ w.heap.size _ _ _ _ hz
  · simp [World.setRow]
def GrP (w : World) (n : Nat) (e : Ending) (w' : World) : Prop := ∃ b, e = .returned (.bool b) ∧ (b = false → n ≤ 200) ∧ Keep [] w w'
set_option maxRecDepth 100000 in
set_option maxHeartbeats 4000000 in
theorem great_any {w : World} {A : Option Addr} {L : List Ac} (c : Nat) (hA : RowAt AcAt 28 w A L) (hok : ∀ y ∈ L, y.Ok) : Calls Tryz.prog 5 #[.slice A L.length c] w (GrP w L.length) := by
  have HA := Lib.hid hA
  have HO := Lib.hid hok
  clear hA hok
  go_enter Tryz.func5, Tryz.ntmps5
  go_wp2_with (fail)
  go_loopw [3] (fun i wr => ∃ j : Nat, i = .int .i64 j ∧ j ≤ L.length ∧ j ≤ 201 ∧ Keep [] w wr) (fun i _ => 201 - (intOf i).toNat)
  case atStart => exact ⟨0, rfl, Nat.zero_le _, Nat.zero_le _, Keep.refl _ _⟩
  case round =>
    obtain ⟨j, rfl, hj, hj2, hk0⟩ := hrel
    have HKR := Lib.hid hk0
    have h0j : (0 : Int) ≤ (j : Int) := Int.natCast_nonneg j
    by_cases hlt : j < L.length
    · have hjn : (j : Int) < (L.length : Int) := by omega
      by_cases h200 : j ≤ 200
      · have hj200 : (j : Int) ≤ 200 := by omega
        have hne : L ≠ [] := by intro e; rw [e] at hlt; simp at hlt
        obtain ⟨b, off, rfl, hbl, hat⟩ := (HA.out.keep (X := []) (fun _ _ _ h1 h2 h3 => h3.keep hk0 h1 h2) hk0 (by simp)) hne
        obtain ⟨x, hxl⟩ : ∃ x, L[j]? = some x := ⟨L[j], List.getElem?_eq_getElem hlt⟩
        have hx := hat j x hxl
        have hxo := HO.out x (List.mem_of_getElem? hxl)
        have hmid := hx.mid hxo
        obtain ⟨hms, _⟩ := hxo
        obtain ⟨dd, part, to, fr, ms, k, mv, pt, cd, wh, code⟩ := x
        simp only at hmid hms
        obtain ⟨w5, hst, hk5, hb5, hs5⟩ := store_msg (w := wr) hms
        obtain ⟨s13, e13⟩ := hms.c13
        obtain ⟨a19, n19, c19, e19⟩ := hms.c19
        obtain ⟨a20, n20, c20, e20⟩ := hms.c20
        obtain ⟨s21, e21⟩ := hms.c21
        have q13 : w5.cell? ⟨wr.heap.size, 13, none⟩ = some (.string s13) := by unfold World.cell?; rw [hb5]; simpa using e13
        have q19 : w5.cell? ⟨wr.heap.size, 19, none⟩ = some (.slice a19 n19 c19) := by unfold World.cell?; rw [hb5]; simpa using e19
        have q20 : w5.cell? ⟨wr.heap.size, 20, none⟩ = some (.slice a20 n20 c20) := by unfold World.cell?; rw [hb5]; simpa using e20
        have q21 : w5.cell? ⟨wr.heap.size, 21, none⟩ = some (.string s21) := by unfold World.cell?; rw [hb5]; simpa using e21
        have HM := Lib.hid hmid
        have HSZ := Lib.hid (szMsg hms.len)
        have HST := Lib.hid hst
        have HK5 := Lib.hid (HKR.out.trans hk5)
        unfold zMsg at HST
        clear hk0 hat hx hmid hms hst hk5 hb5 hs5 e13 e19 e20 e21 hxl hne
        by_cases h1 : (300 : Int) < (n20 : Int)
        · go_wp2_with (first | ((with_reducible refine wpList_load_mid ?_ 47 (.tmp 18) ?_ b (off + j * 28 + 4) ?_ ms _ HM.out Tryz.underlying47 ?_ HSZ.out ?_); rfl; rfl; rfl; rfl) | ((with_reducible refine wpList_store_all ?_ 47 (.tmp 4) (.tmp 19) ?_ (wr.heap.size) ?_ ms.toArray ?_ HST.out ?_); rfl; rfl; rfl; rfl))
          go_ret
          exact ⟨true, rfl, (fun h => by cases h), HK5.out⟩
        by_cases h2 : (300 : Int) < (n19 : Int)
        · go_wp2_with (first | ((with_reducible refine wpList_load_mid ?_ 47 (.tmp 18) ?_ b (off + j * 28 + 4) ?_ ms _ HM.out Tryz.underlying47 ?_ HSZ.out ?_); rfl; rfl; rfl; rfl) | ((with_reducible refine wpList_store_all ?_ 47 (.tmp 4) (.tmp 19) ?_ (wr.heap.size) ?_ ms.toArray ?_ HST.out ?_); rfl; rfl; rfl; rfl))
          go_ret
          exact ⟨true, rfl, (fun h => by cases h), HK5.out⟩
        by_cases h3 : (3000 : Int) < (s21.size : Int)
        · go_wp2_with (first | ((with_reducible refine wpList_load_mid ?_ 47 (.tmp 18) ?_ b (off + j * 28 + 4) ?_ ms _ HM.out Tryz.underlying47 ?_ HSZ.out ?_); rfl; rfl; rfl; rfl) | ((with_reducible refine wpList_store_all ?_ 47 (.tmp 4) (.tmp 19) ?_ (wr.heap.size) ?_ ms.toArray ?_ HST.out ?_); rfl; rfl; rfl; rfl))
          go_ret
          exact ⟨true, rfl, (fun h => by cases h), HK5.out⟩
        by_cases h4 : (3000 : Int) < (s13.size : Int)
        · go_wp2_with (first | ((with_reducible refine wpList_load_mid ?_ 47 (.tmp 18) ?_ b (off + j * 28 + 4) ?_ ms _ HM.out Tryz.underlying47 ?_ HSZ.out ?_); rfl; rfl; rfl; rfl) | ((with_reducible refine wpList_store_all ?_ 47 (.tmp 4) (.tmp 19) ?_ (wr.heap.size) ?_ ms.toArray ?_ HST.out ?_); rfl; rfl; rfl; rfl))
          go_ret
          exact ⟨true, rfl, (fun h => by cases h), HK5.out⟩
        go_wp2_with (first | ((with_reducible refine wpList_load_mid ?_ 47 (.tmp 18) ?_ b (off + j * 28 + 4) ?_ ms _ HM.out Tryz.underlying47 ?_ HSZ.out ?_); rfl; rfl; rfl; rfl) | ((with_reducible refine wpList_store_all ?_ 47 (.tmp 4) (.tmp 19) ?_ (wr.heap.size) ?_ ms.toArray ?_ HST.out ?_); rfl; rfl; rfl; rfl))
        go_roundw
        case rel => exact ⟨j + 1, by go_num, by omega, by omega, HK5.out⟩
        case measure => go_light; simp [intOf]; omega
      · have hj201 : ((j : Int) ≤ 200) = False := by simp; omega
        go_wp2_with (fail)
        go_ret
        refine ⟨_, rfl, fun h => ?_, HKR.out⟩
        simp at h
        omega
    · have hjn : ¬ (j : Int) < (L.length : Int) := by omega
      go_wp2_with (fail)
      go_ret
      refine ⟨_, rfl, fun h => ?_, HKR.out⟩
      simp at h
      omega
end
end Go.Proofs.YteejdfpfdnkiiaaGreat
