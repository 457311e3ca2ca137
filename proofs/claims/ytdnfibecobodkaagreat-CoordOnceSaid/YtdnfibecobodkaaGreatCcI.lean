/- The coordinator: post. -/
import Derived.Test.YtdnfibecobodkaaGreatCcC
namespace Go.Proofs.YtdnfibecobodkaaGreat
open Go.RowKit Go.Lib
open Go.ChangeMaps (setBlock)
set_option linter.unusedSimpArgs false
set_option linter.unusedVariables false
/-- A packet of the coordinator's: to whom, and what. -/
structure Pk where
  to : Int
  data : List UInt8
def Pk.cells (x : Pk) : List Value := [.int .i64 8, .int .i64 x.to, .string ⟨x.data.toArray⟩]
def PRow (base : Nat) (W : World) (v : Value) (l : List Pk) : Prop := W.ownsRow base 43 3 v l.length (l.flatMap Pk.cells)
theorem PRow.keep {X : List Nat} {base : Nat} {W W' : World} {v : Value} {l : List Pk} (h : PRow base W v l) (hk : Keep X W W') (hx : ∀ g, v.ownBlock = some g → g ∉ X) : PRow base W' v l := own_keep h hk hx
theorem infoPk : (Tryz.prog.info? 43).map (fun i => (i.zero, i.size, i.bytes)) = some (some (.agg #[.int .i64 0, .int .i64 0, .string ⟨#[]⟩]), 3, 32) := by kernel_rfl
/-- A packet goes behind others. -/
theorem wpList_append_pk {w : World} {ops : Array Oper} {rest : List Oper} {o : Oper} {a : Act} {Q : Exit → Act → World → Prop} (hgd : o.guard = none) (s x : Operand)
    (ho : o.op = .call { callee := .builtin .append, args := #[s, x], argTypes := #[33, 33] }) (base : Nat) (v : Value) (M : List Pk) (hs : a.eval s = v) (hown : PRow base w v M)
    (ad : Addr) (c : Nat) (hx : a.eval x = .slice (some ad) 1 c) (b : Pk) (hb : ∀ j u, (Pk.cells b)[j]? = some u → w.cell? (ad.add j) = some u) (hm : M.length ≤ 1000) (hbase : base ≤ w.heap.size)
    (h : ∀ v' w', PRow base w' v' (M ++ [b]) → Keep v.ownBlock.toList w w' → wpList Tryz.prog ops Q rest (a.put o.dst v') w') :
    wpList Tryz.prog ops Q (o :: rest) a w := by
  obtain ⟨i0, hi0, hz0, hz1, hz2⟩ := info_parts infoPk
  refine wpList_append_own_at _ hgd s x 33 ho base 43 i0 (.agg #[.int .i64 0, .int .i64 0, .string ⟨#[]⟩]) 3 32 Tryz.underlying33 hi0 hz0 hz1 hz2 rfl (by decide) v M.length (M.flatMap Pk.cells) hs hown ad 1 c (Pk.cells b) hx rfl hb ?_ (by unfold maxLen; omega) (by omega) hbase ?_
  · intro u hu
    simp only [Pk.cells, List.mem_cons, List.not_mem_nil, or_false] at hu
    rcases hu with rfl | rfl | rfl <;> rfl
  · intro v' w' hown' hgrow _ hat'
    refine h v' w' ?_ ((Keep.refl _ w).grown hgrow (fun k hk => .inl (by simp [hk])))
    unfold PRow
    rw [List.length_append, List.flatMap_append]
    simpa using hown'
set_option maxRecDepth 100000 in
set_option maxHeartbeats 2000000 in
theorem post_any {base : Nat} {w : World} {v : Value} {l : List Pk} (h : PRow base w v l) (hb : base ≤ w.heap.size) (hl : l.length ≤ 900) (to : Int) {m : Mg} {a : Option Addr} {c : Nat} (ho : m.Ok) (hc : m.k = 4 ∨ m.k = 12 → a = none ∧ c = 0) (hI : IntsAt w a m.own) : Calls Tryz.prog 39 #[v, .int .i64 to, .agg (m.cells (.slice a m.own.length c))] w fun e w' => ∃ v', e = .returned v' ∧ PRow base w' v' (l ++ [⟨to, frameB m.enc⟩]) ∧ Keep v.ownBlock.toList w w' := by
  obtain ⟨av, cv0, rfl, _⟩ := own_shape h
  obtain ⟨cv, hcv⟩ : ∃ cv, m.cells (.slice a m.own.length c) = cv := ⟨_, rfl⟩
  have hsz : cv.size = 22 := by rw [← hcv]; rfl
  have hbox : ∀ W : World, (Instr.box 40 (.agg cv)).run Tryz.prog W = .ok (.pointer (some ⟨W.heap.size, 0, none⟩)) (W.alloc (.cells cv 40)) := by
    intro W
    rw [← hcv]
    rfl
  obtain ⟨w1, hw1⟩ : ∃ u, w.alloc (.cells cv 40) = u := ⟨_, rfl⟩
  have k1 : Keep [] w w1 := by rw [← hw1]; exact (Keep.refl _ _).alloc _
  have hm1 : MsAt w1 w.heap.size cv := by rw [← hw1]; exact World.alloc_heap_new w _
  have hd := data_any (w := w1) (c := c) ho hc (hI.keep k1 (by simp))
  rw [hcv] at hd ⊢
  obtain ⟨bs, hbs⟩ : ∃ bs, frameB m.enc = bs := ⟨_, rfl⟩
  rw [hbs] at hd ⊢
  have HD := Lib.hid hd
  have HM1 : Hid (w1.heap[w.heap.size]? = some (.cells cv 40 (0, 0))) := Lib.hid hm1
  have HSZ := Lib.hid (show (Tryz.prog.info? 40).map (·.size) = some cv.size by rw [hsz]; exact msg_size)
  have HK1 := Lib.hid k1
  have HP := Lib.hid h
  clear hd hm1 k1 h hI hcv hsz hbs
  go_enter Tryz.func39, Tryz.ntmps39
  go_wp2_with ((with_reducible refine wpList_load_row ?_ 40 (.tmp 5) ?_ (w.heap.size) ?_ 40 cv (0, 0) _ HM1.out Tryz.underlying40 ?_ HSZ.out ?_); rfl; rfl; rfl; rfl)
  refine HD.out.mono ?_
  rintro e w2 ⟨rfl, hk2⟩
  have hkk := HK1.out.trans hk2
  obtain ⟨w3, hw3⟩ : ∃ u, w2.alloc (.cells #[.int .i64 8, .int .i64 to, .string ⟨bs.toArray⟩] 43) = u := ⟨_, rfl⟩
  have k3 : Keep [] w2 w3 := by rw [← hw3]; exact (Keep.refl _ _).alloc _
  have hcl : ∀ j u, (Pk.cells ⟨to, bs⟩)[j]? = some u → w3.cell? ((⟨w2.heap.size, 0, none⟩ : Addr).add j) = some u := by
    rw [← hw3]
    exact cells_new w2 _ _ _ rfl
  have HP3 := Lib.hid (HP.out.keep (hkk.trans k3) (by simp))
  have HK3 := Lib.hid (hkk.trans k3)
  have HCL := Lib.hid hcl
  clear hk2 hkk k3 hcl
  go_wp2_with (at_builtin; refine wpList_append_pk rfl _ _ rfl base _ l rfl HP3.out ⟨w2.heap.size, 0, none⟩ 1 rfl ⟨to, bs⟩ HCL.out (by omega) (Nat.le_trans hb HK3.out.size) ?_)
  intro v' w4 hp4 hk4
  obtain ⟨a4, c4, rfl, _⟩ := own_shape hp4
  have HP4 := Lib.hid hp4
  have HK4 := Lib.hid ((HK3.out.mono (by simp)).trans hk4)
  clear hp4 hk4
  go_wp2_with (fail)
  go_ret
  exact ⟨_, rfl, HP4.out, HK4.out⟩
end Go.Proofs.YtdnfibecobodkaaGreat
