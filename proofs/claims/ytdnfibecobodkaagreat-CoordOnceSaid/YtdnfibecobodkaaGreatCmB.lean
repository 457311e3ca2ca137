/- Numbers as bytes: the writer. -/
import Derived.Test.YtdnfibecobodkaaGreatCmA
namespace Go.Proofs.YtdnfibecobodkaaGreat
open Go.RowKit Go.Lib
set_option linter.unusedSimpArgs false
set_option linter.unusedVariables false
/-- A writer in memory, and what it has written. -/
structure WrAt (base : Nat) (W : World) (g : Nat) (v : Value) (l : List UInt8) : Prop where
  o : W.heap[g]? = some (.cells #[v] 164 (0, 0))
  r : BRow base W v l
  z : base ≤ W.heap.size
theorem WrAt.ne {base : Nat} {W : World} {g : Nat} {v : Value} {l : List UInt8} (h : WrAt base W g v l) : ∀ b, v.ownBlock = some b → b ≠ g := by
  rintro b hb rfl
  rcases h.r.2 with ⟨hv, _⟩ | ⟨g', cap, cur, hv, hb', hg', r⟩
  · rw [hv] at hb; cases hb
  · rw [hv] at hb
    obtain rfl : g' = b := by simpa [Value.ownBlock] using hb
    have := h.o
    rw [hg'] at this
    simp at this
theorem WrAt.keep {X : List Nat} {base : Nat} {W W' : World} {g : Nat} {v : Value} {l : List UInt8} (h : WrAt base W g v l) (hk : Keep X W W') (hg : g ∉ X) (hx : ∀ b, v.ownBlock = some b → b ∉ X) : WrAt base W' g v l :=
  ⟨(hk.block g (lt_of_heap h.o) hg).trans h.o, h.r.keep hk hx, Nat.le_trans h.z hk.size⟩
theorem WrAt.facts {base : Nat} {W : World} {g : Nat} {v : Value} {l : List UInt8} (h : WrAt base W g v l) : W.cell? ⟨g, 0, none⟩ = some v ∧ (∀ o, W.frozen? ⟨g, o, none⟩ = false) := by
  have ho := h.o
  refine ⟨?_, fun o => ?_⟩
  · unfold World.cell?; rw [ho]; rfl
  · unfold World.frozen?; rw [ho]; simp
theorem WrAt.set {base : Nat} {W : World} {g : Nat} {v v' : Value} {l' : List UInt8} (h : W.heap[g]? = some (.cells #[v] 164 (0, 0))) (hr : BRow base W v' l') (hz : base ≤ W.heap.size) (hn : ∀ b, v'.ownBlock = some b → b ≠ g) : WrAt base (W.setCell ⟨g, 0, none⟩ v') g v' l' := by
  have hk : Keep [g] W (W.setCell ⟨g, 0, none⟩ v') := (Keep.refl _ _).setCell _ _ _ (.inl (by simp))
  refine ⟨?_, hr.keep hk (fun b hb => by have := hn b hb; simpa using this), Nat.le_trans hz hk.size⟩
  simp [World.setCell, Array.getElem?_modify, h]
theorem row_ne_obj {base : Nat} {W : World} {g : Nat} {v u : Value} {l : List UInt8} (h : W.heap[g]? = some (.cells #[u] 164 (0, 0))) (hr : BRow base W v l) : ∀ b, v.ownBlock = some b → b ≠ g := by
  rintro b hb rfl
  rcases hr.2 with ⟨hv, _⟩ | ⟨g', cap, cur, hv, hb', hg', r⟩
  · rw [hv] at hb; cases hb
  · rw [hv] at hb
    obtain rfl : g' = b := by simpa [Value.ownBlock] using hb
    rw [hg'] at h
    simp at h
/-- Bytes are written. -/
structure WrR (base g : Nat) (X : List Nat) (v v' : Value) (l : List UInt8) (w w' : World) : Prop where
  at_ : WrAt base w' g v' l
  keep : Keep (g :: (X ++ v.ownBlock.toList)) w w'
  up : OwnUp w v v'
def WrP (base g : Nat) (v : Value) (l : List UInt8) (w w' : World) : Prop := ∃ v', WrR base g [] v v' l w w'
theorem WrR.mono {base g : Nat} {X Y : List Nat} {v v' : Value} {l : List UInt8} {w w' : World} (h : WrR base g X v v' l w w') (hx : ∀ y ∈ X, y ∈ Y ∨ w.heap.size ≤ y) : WrR base g Y v v' l w w' := by
  refine ⟨h.at_, h.keep.mono (fun y hy => ?_), h.up⟩
  simp only [List.mem_cons, List.mem_append] at hy
  rcases hy with rfl | hy | hy
  · exact .inl (by simp)
  · rcases hx y hy with h | h
    · exact .inl (by simp [h])
    · exact .inr h
  · exact .inl (by simp only [List.mem_cons, List.mem_append]; exact .inr (.inr hy))
theorem WrR.trans {base g : Nat} {X : List Nat} {v v1 v2 : Value} {l l2 : List UInt8} {w w1 w2 : World} (h : WrR base g X v v1 l w w1) (k : WrR base g X v1 v2 l2 w1 w2) : WrR base g X v v2 l2 w w2 := by
  refine ⟨k.at_, h.keep.step k.keep (fun y hy => ?_), h.up.trans h.keep.size k.up⟩
  simp only [List.mem_cons, List.mem_append] at hy
  rcases hy with rfl | hy | hy
  · exact .inl (by simp)
  · exact .inl (by simp [hy])
  · rcases h.up with e | ⟨m, e, hm⟩
    · rw [e] at hy
      exact .inl (by simp only [List.mem_cons, List.mem_append]; exact .inr (.inr hy))
    · rw [e] at hy
      obtain rfl : y = m := by simpa using hy
      exact .inr hm
set_option maxRecDepth 100000 in
theorem onum_any {base g : Nat} {w : World} {v : Value} {l : List UInt8} (h : WrAt base w g v l) (hl : l.length ≤ 90000) (x : Nat) (hx : x < 18446744073709551616) : Calls Tryz.prog 143 #[.pointer (some ⟨g, 0, none⟩), .int .u64 x] w fun e w' => e = .returned (.tuple #[]) ∧ WrP base g v (l ++ varB x) w w' := by
  obtain ⟨av, cv, rfl, _⟩ := own_shape h.r
  have H := Lib.hid h
  obtain ⟨c0, c1⟩ := h.facts
  clear h
  go_enter Tryz.func143, Tryz.ntmps143
  go_wp2_with (fail)
  refine (putVar_any H.out.r H.out.z hl x hx).mono ?_
  rintro e w1 ⟨v', rfl, hr', hk', hu'⟩
  obtain ⟨l2, hl2⟩ : ∃ l2, l ++ varB x = l2 := ⟨_, rfl⟩
  rw [hl2] at hr'
  obtain ⟨av', cv', rfl, _⟩ := own_shape hr'
  have HL2 := Lib.hid hl2
  clear hl2
  have hg1 : w1.heap[g]? = some (.cells #[.slice av l.length cv] 164 (0, 0)) := (hk'.block g (lt_of_heap H.out.o) (fun hm => H.out.ne g (by simpa using hm) rfl)).trans H.out.o
  have f1 : ∀ o, w1.frozen? ⟨g, o, none⟩ = false := fun o => by unfold World.frozen?; rw [hg1]; simp
  have f0 : w1.cell? ⟨g, 0, none⟩ = some (.slice av l.length cv) := by unfold World.cell?; rw [hg1]; rfl
  have HG := Lib.hid hg1
  have HR := Lib.hid hr'
  have HK := Lib.hid hk'
  have HU := Lib.hid hu'
  clear hg1 hr' hk' hu'
  go_wp2_with (fail)
  go_end0
  rw [HL2.out]
  refine ⟨rfl, _, WrAt.set HG.out HR.out (Nat.le_trans H.out.z HK.out.size) (row_ne_obj HG.out HR.out), ?_, HU.out⟩
  exact (HK.out.mono (fun y hy => .inl (List.mem_cons_of_mem _ hy))).setCell _ _ _ (.inl (by simp))
set_option maxRecDepth 100000 in
theorem obyte_any {base g : Nat} {w : World} {v : Value} {l : List UInt8} (h : WrAt base w g v l) (hl : l.length ≤ 90000) (x : UInt8) : Calls Tryz.prog 142 #[.pointer (some ⟨g, 0, none⟩), byV x] w fun e w' => e = .returned (.tuple #[]) ∧ WrP base g v (l ++ [x]) w w' := by
  obtain ⟨av, cv, rfl, _⟩ := own_shape h.r
  have H := Lib.hid h
  obtain ⟨c0, c1⟩ := h.facts
  have ka : Keep [] w (w.alloc (.cells #[byV x] 5)) := (Keep.refl _ _).alloc _
  have hr := h.r.keep ka (by simp)
  have hg1 : (w.alloc (.cells #[byV x] 5)).heap[g]? = some (.cells #[.slice av l.length cv] 164 (0, 0)) := (ka.block g (lt_of_heap h.o) (by simp)).trans h.o
  have hne := h.ne
  have hz := h.z
  have hcl : (w.alloc (.cells #[byV x] 5)).cell? ⟨w.heap.size, 0, none⟩ = some (byV x) := by
    have := cells_new w [byV x] 5 _ rfl 0 (byV x) rfl
    simp [Addr.add]
  obtain ⟨bx, hbx⟩ : ∃ n : Nat, x.toNat = n := ⟨_, rfl⟩
  have HCL := Lib.hid hcl
  have HR := Lib.hid hr
  have HG := Lib.hid hg1
  have HKA := Lib.hid ka
  have HNE := Lib.hid hne
  have HBX : Hid (byV x = .int .u8 bx) := Lib.hid (by unfold byV; rw [hbx])
  rw [HBX.out] at HCL HR HG HKA
  rw [HBX.out]
  clear h ka hr hg1 hne hcl hbx
  go_enter Tryz.func142, Tryz.ntmps142
  go_wp2_with (at_builtin; refine wpList_append_byte rfl _ _ rfl base _ l rfl HR.out ⟨w.heap.size, 0, none⟩ 1 rfl x (by rw [HBX.out]; exact HCL.out) (by omega) (Nat.le_trans hz HKA.out.size) ?_)
  intro v' w1 hr' hk' hu0
  have hu' : OwnUp w (.slice av l.length cv) v' := hu0.imp id (fun e => ⟨_, e, by omega⟩)
  clear hu0
  obtain ⟨l2, hl2⟩ : ∃ l2, l ++ [x] = l2 := ⟨_, rfl⟩
  rw [hl2] at hr'
  obtain ⟨av', cv', rfl, _⟩ := own_shape hr'
  have HL2 := Lib.hid hl2
  clear hl2
  have hg2 : w1.heap[g]? = some (.cells #[.slice av l.length cv] 164 (0, 0)) := (hk'.block g (lt_of_heap HG.out) (fun hm => HNE.out g (by simpa using hm) rfl)).trans HG.out
  have f1 : ∀ o, w1.frozen? ⟨g, o, none⟩ = false := fun o => by unfold World.frozen?; rw [hg2]; simp
  have f0 : w1.cell? ⟨g, 0, none⟩ = some (.slice av l.length cv) := by unfold World.cell?; rw [hg2]; rfl
  have HG2 := Lib.hid hg2
  have HR2 := Lib.hid hr'
  have HK := Lib.hid hk'
  have HU := Lib.hid hu'
  clear hg2 hr' hk' hu'
  go_wp2_with (fail)
  go_end0
  rw [HL2.out]
  refine ⟨rfl, _, WrAt.set HG2.out HR2.out (Nat.le_trans hz (Nat.le_trans HKA.out.size HK.out.size)) (row_ne_obj HG2.out HR2.out), ?_, HU.out⟩
  exact ((HKA.out.mono (fun y hy => by simp at hy)).trans (HK.out.mono (fun y hy => .inl (List.mem_cons_of_mem _ hy)))).setCell _ _ _ (.inl (by simp))
theorem held_any (n most : Int) (h0 : 0 ≤ n) (h1 : n ≤ most) (h2 : n < 9223372036854775808) (w : World) : Calls Tryz.prog 144 #[.int .i64 n, .int .i64 most] w fun e w' => e = .returned (.int .u64 n) ∧ w = w' := by
  have k0 : ¬ n < 0 := by omega
  have k1 : ¬ most < n := by omega
  go_enter Tryz.func144, Tryz.ntmps144
  go_wp2_with (fail)
  go_ret
  exact ⟨rfl, rfl⟩
end Go.Proofs.YtdnfibecobodkaaGreat
