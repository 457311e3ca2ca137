/- msg.Read and msg.Bytes. -/
import Derived.Test.YtdnfibecobodkaaGreatCsD
import Derived.Test.YtdnfibecobodkaaGreatCsF
import Derived.Laws.ResultCell
import Derived.Deep.WholeRow
namespace Go.Proofs.YtdnfibecobodkaaGreat
open Go.RowKit Go.Lib
set_option linter.unusedSimpArgs false
set_option linter.unusedVariables false
theorem msg_size : (Tryz.prog.info? 40).map (·.size) = some 22 := by kernel_rfl
theorem store_ms {W : World} {b : Nat} {old cs : Array Value} (h : MsAt W b old) (ho : old.size = 22) (hc : cs.size = 22) (h1 : cs.all (·.oneCell') = true) : (storeCells ⟨b, 0, none⟩ cs.toList 0).run Tryz.prog W = .ok () (W.setRow b cs) := by
  have := run_storeVar_row (P := Tryz.prog) W b 40 40 old cs h (by rw [hc]; exact msg_size) (by omega) h1
  have hi := msg_size
  cases hq : Tryz.prog.info? 40 with
  | none => simp [hq] at hi
  | some i =>
    have hs : cs.size = i.size := by simp [hq] at hi; omega
    simpa [storeVar, sizeOf, typeInfo, hq, Value.cells, hs] using this
theorem load_ms {W : World} {b : Nat} {cs : Array Value} (h : MsAt W b cs) (hc : cs.size = 22) : (loadCellsFrom ⟨b, 0, none⟩ 0 22 #[]).run Tryz.prog W = .ok cs W := by
  have := run_loadCells_list (P := Tryz.prog) W ⟨b, 0, none⟩ cs.toList (fun j v hv => by
    rw [add_at, Nat.zero_add, h.cell j]
    simpa using hv)
  simpa [loadCells, hc] using this
theorem loadVar_ms {W : World} {b : Nat} {cs : Array Value} (h : MsAt W b cs) (hc : cs.size = 22) : (loadVar 40 ⟨b, 0, none⟩).run Tryz.prog W = .ok (.agg cs) W :=
  run_loadVar_row W b 40 40 cs (0, 0) _ h Tryz.underlying40 rfl (by rw [hc]; exact msg_size)
theorem Mg.one (m : Mg) (a : Option Addr) (n c : Nat) : (m.cells (.slice a n c)).all (·.oneCell') = true := by
  simp [Mg.cells, msC, Value.oneCell']
theorem MsAt.row {W : World} {b : Nat} {old cs : Array Value} (h : MsAt W b old) : MsAt (W.setRow b cs) b cs := setRow_heap W b old cs _ _ h
set_option maxRecDepth 100000 in
set_option maxHeartbeats 4000000 in
theorem read_any {w : World} {s : ByteArray} {m : Mg} (ho : m.Ok) (hs : s.data.toList = m.enc) : Calls Tryz.prog 45 #[.string s] w fun e w' => ∃ vp, e = .returned (.tuple #[.agg (m.cells vp), .int .i64 0]) ∧ IRow w.heap.size w' vp m.own ∧ Keep [] w w' := by
  have hmf : ∀ (fn : Fn) (first cap : Array Value) (w : World), (Instr.makeFunc fn first cap).run Tryz.prog w = .ok (.func fn first cap) w := fun _ _ _ _ => rfl
  obtain ⟨w1, hw1⟩ : ∃ u, w.alloc (.cells #[.int .u8 0, .int .i64 0, .int .i64 0, .int .i64 0, .int .i64 0, .int .i64 0, .int .i64 0, .int .u64 0, .int .i64 0, .int .i64 0, .int .i64 0, .int .i64 0, .int .u8 0, .string ⟨#[]⟩, .int .i64 0, .int .i64 0, .int .i64 0, .int .i64 0, .int .i64 0, .slice none 0 0, .slice none 0 0, .string ⟨#[]⟩] 40) = u := ⟨_, rfl⟩
  obtain ⟨w2, hw2⟩ : ∃ u, w1.alloc (.cells #[.int .u8 0, .int .i64 0, .int .i64 0, .int .i64 0, .int .i64 0, .int .i64 0, .int .i64 0, .int .u64 0, .int .i64 0, .int .i64 0, .int .i64 0, .int .i64 0, .int .u8 0, .string ⟨#[]⟩, .int .i64 0, .int .i64 0, .int .i64 0, .int .i64 0, .int .i64 0, .slice none 0 0, .slice none 0 0, .string ⟨#[]⟩] 40) = u := ⟨_, rfl⟩
  obtain ⟨w3, hw3⟩ : ∃ u, w2.alloc (.cells #[.string s, .int .i64 0, .int .i64 0] 127) = u := ⟨_, rfl⟩
  obtain ⟨w4, hw4⟩ : ∃ u, w3.alloc (.cells #[.pointer (some ⟨w.heap.size + 2, 0, none⟩)] 114) = u := ⟨_, rfl⟩
  obtain ⟨w5, hw5⟩ : ∃ u, w4.alloc (.cells #[.pointer (some ⟨w.heap.size + 3, 0, none⟩)] 110) = u := ⟨_, rfl⟩
  have s1 : w1.heap.size = w.heap.size + 1 := by rw [← hw1, World.size_alloc]
  have s2 : w2.heap.size = w.heap.size + 2 := by rw [← hw2, World.size_alloc, s1]
  have s3 : w3.heap.size = w.heap.size + 3 := by rw [← hw3, World.size_alloc, s2]
  have s4 : w4.heap.size = w.heap.size + 4 := by rw [← hw4, World.size_alloc, s3]
  have s5 : w5.heap.size = w.heap.size + 5 := by rw [← hw5, World.size_alloc, s4]
  have k1 : Keep [] w w1 := by rw [← hw1]; exact (Keep.refl _ _).alloc _
  have k2 : Keep [] w1 w2 := by rw [← hw2]; exact (Keep.refl _ _).alloc _
  have k3 : Keep [] w2 w3 := by rw [← hw3]; exact (Keep.refl _ _).alloc _
  have k4 : Keep [] w3 w4 := by rw [← hw4]; exact (Keep.refl _ _).alloc _
  have k5 : Keep [] w4 w5 := by rw [← hw5]; exact (Keep.refl _ _).alloc _
  have m1 : MsAt w5 w.heap.size (msC 0 0 0 0 0 0 (.slice none 0 0)) := MsAt.keep (X := []) (W := w1) (by rw [← hw1]; exact World.alloc_heap_new w _) (((k2.trans k3).trans k4).trans k5) (by simp)
  have m2 : MsAt w5 (w.heap.size + 1) (msC 0 0 0 0 0 0 (.slice none 0 0)) := MsAt.keep (X := []) (W := w2) (by rw [← hw2, ← s1]; exact World.alloc_heap_new w1 _) ((k3.trans k4).trans k5) (by simp)
  have i3 : InAt w5 (w.heap.size + 2) s 0 := InAt.keep (X := []) (W := w3) (by rw [← hw3, ← s2]; exact World.alloc_heap_new w2 _) (k4.trans k5) (by simp)
  have r4 : OneAt w5 (w.heap.size + 3) (.pointer (some ⟨w.heap.size + 2, 0, none⟩)) 114 := OneAt.keep (X := []) (W := w4) (by rw [← hw4, ← s3]; exact OneAt.new _ _ _) k5 (by simp)
  have c5 : OneAt w5 (w.heap.size + 4) (.pointer (some ⟨w.heap.size + 3, 0, none⟩)) 110 := by rw [← hw5, ← s4]; exact OneAt.new _ _ _
  have hk5 := (((k1.trans k2).trans k3).trans k4).trans k5
  have hsf := safeR_any (w := w5) (w.heap.size + 4) (w.heap.size + 1) (fun W w' => ∃ vp, StR (w.heap.size + 3) (w.heap.size + 2) (w.heap.size + 1) s s.size (m.cells vp) W w' ∧ IRow W.heap.size w' vp m.own) (fun W w' ⟨vp, h1, _⟩ => ⟨_, h1.K, by simp [s5]⟩) (fun W hk => read1_any ho (c5.keep hk (by simp)) (StR.mk (i3.keep hk (by simp)) (r4.keep hk (by simp)) (m2.keep hk (by simp)) (Keep.refl _ _) rfl) hs)
  have hz : s.size ≤ 100000 := by rw [← str_size, hs]; have := Mg.enc_len ho; omega
  have HSF := Lib.hid hsf
  have HK := Lib.hid hk5
  have M1 := Lib.hid m1
  have C5 := Lib.hid c5
  have S5 := Lib.hid s5
  clear hsf hk5 m1 m2 i3 r4 c5 k1 k2 k3 k4 k5 s5 hs
  go_enter Tryz.func45, Tryz.ntmps45
  go_wp2_with (fail)
  refine (of_any_in _ s).mono ?_
  rintro e w3' ⟨rfl, rfl⟩
  rw [hw3, s2]
  go_wp2_with (fail)
  refine HSF.out.mono ?_
  rintro e w6 ⟨rfl, W, w7, ka, hlt, ⟨vp, hst, hrow⟩, kb⟩
  have hkc : Keep [w.heap.size + 2, w.heap.size + 1] w5 w7 := (ka.mono (by simp)).trans hst.K
  have hi6 := hst.I.keep kb (by rw [S5.out]; simp)
  have hm6 := hst.M.keep kb (by rw [S5.out]; simp)
  have hr6 := hst.R.keep kb (by rw [S5.out]; simp)
  have hc6 := (C5.out.keep hkc (by simp)).keep kb (by rw [S5.out]; simp)
  have h16 := (M1.out.keep hkc (by simp)).keep kb (by rw [S5.out]; simp)
  have hp6 : IRow w.heap.size w6 vp m.own := own_low (hrow.keep kb (fun b hb => by have h1 := own_base hrow b hb; simp; omega)) (by have := HK.out.size; have := ka.size; omega)
  have HKC : Hid (Keep [] w w6) := Lib.hid ((HK.out.step hkc (by simp)).step kb (by have := HK.out.size; simp; omega))
  obtain ⟨a, c, rfl, _⟩ := own_shape hp6
  have HI := Lib.hid hi6
  have HM := Lib.hid hm6
  have HR := Lib.hid hr6
  have H1 := Lib.hid h16
  have HP := Lib.hid hp6
  have HE := Lib.hid (endin_any hi6 hz)
  have d0 := hc6.facts.1
  have d1 := hr6.facts.1
  clear ka hlt hst hrow kb hkc hi6 hm6 hr6 hc6 h16 hp6 HSF M1 C5
  go_wp2_with (fail)
  refine HE.out.mono ?_
  rintro e w8 ⟨rfl, hk8⟩
  have HKC : Hid (Keep [] w w8) := Lib.hid (HKC.out.trans hk8)
  have HM : Hid (MsAt w8 (w.heap.size + 1) (msC m.k m.mv m.pt m.to m.ep m.nd (.slice a m.own.length c))) := Lib.hid (HM.out.keep hk8 (by simp))
  have H1 := Lib.hid (H1.out.keep hk8 (by simp))
  have HP := Lib.hid (HP.out.keep hk8 (by simp))
  clear hk8
  obtain ⟨cv, hcv⟩ : ∃ cv, m.cells (.slice a m.own.length c) = cv := ⟨_, rfl⟩
  have hone : cv.all (·.oneCell') = true := by rw [← hcv]; exact Mg.one m a _ c
  have hsz : cv.size = 22 := by rw [← hcv]; rfl
  obtain ⟨w9, hw9⟩ : ∃ u, w8.setRow w.heap.size cv = u := ⟨_, rfl⟩
  have hst := run_storeVar_row (P := Tryz.prog) w8 w.heap.size 40 40 _ cv H1.out (by rw [hsz]; exact msg_size) (by rw [hsz]; rfl) hone
  rw [hw9] at hst
  have HST := Lib.hid hst
  have HM8 : Hid (w8.heap[w.heap.size + 1]? = some (.cells cv 40 (0, 0))) := Lib.hid (hcv ▸ HM.out)
  have HSZ := Lib.hid (show (Tryz.prog.info? 40).map (·.size) = some cv.size by rw [hsz]; exact msg_size)
  have hk9 : Keep [w.heap.size] w8 w9 := by rw [← hw9]; exact (Keep.refl _ _).setRow _ _ (.inl (by simp))
  have HM9 : Hid (MsAt w9 w.heap.size cv) := Lib.hid (by rw [← hw9]; exact H1.out.row)
  have HK9 : Hid (Keep [] w w9) := Lib.hid (HKC.out.step hk9 (by simp))
  have HP9 : Hid (IRow w.heap.size w9 (.slice a m.own.length c) m.own) := Lib.hid (HP.out.keep hk9 (fun b hb => by have := own_ne_obj HP.out H1.out (by decide) b hb; simpa using this))
  have HLV := Lib.hid (loadVar_ms HM9.out hsz)
  have HCV := Lib.hid hcv
  clear hcv hone hk9 hw9 H1 HM hst
  go_wp2_with (first | ((with_reducible refine wpList_load_row ?_ 40 (.tmp 4) ?_ (w.heap.size + 1) ?_ 40 cv (0, 0) _ HM8.out Tryz.underlying40 ?_ HSZ.out ?_); rfl; rfl; rfl; rfl) | ((with_reducible refine wpList_store_all ?_ 40 (.tmp 2) (.tmp 27) ?_ w.heap.size ?_ cv ?_ HST.out ?_); rfl; rfl; rfl; rfl))
  refine bodyPost_ret (v := .tuple #[.agg cv, .int .i64 0]) (by rw [results_cell_tmp rfl]; show ((loadVar 40 ⟨w.heap.size, 0, none⟩).run Tryz.prog w9).andThen (fun v w₂ => Result.ok (Value.tuple #[v, .int .i64 0]) w₂) = _; rw [HLV.out]; rfl) rfl ?_
  exact ⟨_, by rw [HCV.out], HP9.out, HK9.out⟩
set_option maxRecDepth 100000 in
set_option maxHeartbeats 4000000 in
theorem bytes_any {w : World} {m : Mg} {a : Option Addr} {c : Nat} (ho : m.Ok) (hc : m.k = 4 ∨ m.k = 12 → a = none ∧ c = 0) (hI : IntsAt w a m.own) : Calls Tryz.prog 66 #[.agg (m.cells (.slice a m.own.length c))] w fun e w' => e = .returned (.tuple #[.string ⟨m.enc.toArray⟩, .int .i64 0]) ∧ Keep [] w w' := by
  have hmf : ∀ (fn : Fn) (first cap : Array Value) (w : World), (Instr.makeFunc fn first cap).run Tryz.prog w = .ok (.func fn first cap) w := fun _ _ _ _ => rfl
  obtain ⟨cv, hcv⟩ : ∃ cv, m.cells (.slice a m.own.length c) = cv := ⟨_, rfl⟩
  have hone : cv.all (·.oneCell') = true := by rw [← hcv]; exact Mg.one m a _ c
  have hsz : cv.size = 22 := by rw [← hcv]; rfl
  have hbox : ∀ W : World, (Instr.box 40 (.agg cv)).run Tryz.prog W = .ok (.pointer (some ⟨W.heap.size, 0, none⟩)) (W.alloc (.cells cv 40)) := by
    intro W
    rw [← hcv]
    rfl
  obtain ⟨w1, hw1⟩ : ∃ u, w.alloc (.cells cv 40) = u := ⟨_, rfl⟩
  obtain ⟨w2, hw2⟩ : ∃ u, w1.alloc (.cells #[.slice none 0 0] 164) = u := ⟨_, rfl⟩
  obtain ⟨w3, hw3⟩ : ∃ u, w2.alloc (.cells #[.int .u8 0, .int .i64 0, .int .i64 0, .int .i64 0, .int .i64 0, .int .i64 0, .int .i64 0, .int .u64 0, .int .i64 0, .int .i64 0, .int .i64 0, .int .i64 0, .int .u8 0, .string ⟨#[]⟩, .int .i64 0, .int .i64 0, .int .i64 0, .int .i64 0, .int .i64 0, .slice none 0 0, .slice none 0 0, .string ⟨#[]⟩] 40) = u := ⟨_, rfl⟩
  obtain ⟨w4, hw4⟩ : ∃ u, w3.setRow (w.heap.size + 2) cv = u := ⟨_, rfl⟩
  have s1 : w1.heap.size = w.heap.size + 1 := by rw [← hw1, World.size_alloc]
  have s2 : w2.heap.size = w.heap.size + 2 := by rw [← hw2, World.size_alloc, s1]
  have s3 : w3.heap.size = w.heap.size + 3 := by rw [← hw3, World.size_alloc, s2]
  have s4 : w4.heap.size = w.heap.size + 3 := by rw [← hw4]; simpa using s3
  have k1 : Keep [] w w1 := by rw [← hw1]; exact (Keep.refl _ _).alloc _
  have k2 : Keep [] w1 w2 := by rw [← hw2]; exact (Keep.refl _ _).alloc _
  have k3 : Keep [] w2 w3 := by rw [← hw3]; exact (Keep.refl _ _).alloc _
  have k4 : Keep [w.heap.size + 2] w3 w4 := by rw [← hw4]; exact (Keep.refl _ _).setRow _ _ (.inl (by simp))
  have m1 : MsAt w1 w.heap.size cv := by rw [← hw1]; exact World.alloc_heap_new w _
  have m2 : MsAt w2 w.heap.size cv := m1.keep k2 (by simp)
  have m4 : MsAt w4 w.heap.size cv := (m2.keep k3 (by simp)).keep k4 (by simp)
  have z3 : MsAt w3 (w.heap.size + 2) (msC 0 0 0 0 0 0 (.slice none 0 0)) := by rw [← hw3, ← s2]; exact World.alloc_heap_new w2 _
  have o4 : MsAt w4 (w.heap.size + 2) cv := by rw [← hw4]; exact z3.row
  have wr2 : OneAt w2 (w.heap.size + 1) (.slice none 0 0) 164 := by rw [← hw2, ← s1]; exact OneAt.new _ _ _
  have wr4 := (wr2.keep k3 (by simp)).keep k4 (by simp)
  have hk4 : Keep [] w w4 := ((k1.trans k2).trans k3).step k4 (by simp)
  have hI4 := hI.keep hk4 (by simp)
  have hab : m.own ≠ [] → ∀ b o, a = some ⟨b, o, none⟩ → b < w.heap.size := fun hne b o e => by
    obtain ⟨b', o', e', h2, _⟩ := hI hne
    rw [e] at e'
    cases e'
    exact h2
  have hst := run_storeVar_row (P := Tryz.prog) w3 (w.heap.size + 2) 40 40 _ cv z3 (by rw [hsz]; exact msg_size) (by rw [hsz]; rfl) hone
  rw [hw4] at hst
  have hsf := safeW_any (w := w4) (w.heap.size + 1) (w.heap.size + 2) (fun W w' => WrD w.heap.size (w.heap.size + 1) (w.heap.size + 2) (.slice none 0 0) m.enc W w') (fun W w' ⟨v1, cs, h1, _⟩ => ⟨_, h1.keep, by simp [s4, Value.ownBlock]⟩) (fun W hk => bytes1_any (v := .slice none 0 0) ho hc ⟨.slice none 0 0, ⟨⟨wr4.keep hk (by simp), World.ownsRow_nil _ _ _ _, Nat.le_trans hk4.size hk.size⟩, Keep.refl _ _, .inl rfl⟩, hcv ▸ o4.keep hk (by simp), hI4.keep hk (by simp), ⟨by omega, by omega⟩, hab⟩)
  have HST := Lib.hid hst
  have HM2 : Hid (w2.heap[w.heap.size]? = some (.cells cv 40 (0, 0))) := Lib.hid m2
  have HSZ := Lib.hid (show (Tryz.prog.info? 40).map (·.size) = some cv.size by rw [hsz]; exact msg_size)
  have HM4 := Lib.hid m4
  have HSF := Lib.hid hsf
  have HK4 := Lib.hid hk4
  have HI4 := Lib.hid hI4
  have HCV := Lib.hid hcv
  have S4 := Lib.hid s4
  have HONE := Lib.hid hone
  have HSIZE := Lib.hid hsz
  rw [hcv]
  have hI0 := Lib.hid hab
  clear hst hsf hk4 hI4 hab m1 m2 m4 z3 o4 wr2 wr4 k1 k2 k3 k4 s3 s4 hcv hone hsz hI hw4
  go_enter Tryz.func66, Tryz.ntmps66
  go_wp2_with (first | ((with_reducible refine wpList_load_row ?_ 40 (.tmp 1) ?_ (w.heap.size) ?_ 40 cv (0, 0) _ HM2.out Tryz.underlying40 ?_ HSZ.out ?_); rfl; rfl; rfl; rfl) | ((with_reducible refine wpList_store_all ?_ 40 (.tmp 5) (.tmp 10) ?_ (w.heap.size + 2) ?_ cv ?_ HST.out ?_); rfl; rfl; rfl; rfl))
  refine HSF.out.mono ?_
  rintro e w7 ⟨rfl, W, w6, ka, hlt, ⟨v1, cs1, hwr, _⟩, kb⟩
  rw [S4.out] at kb hlt
  have hk6 : Keep [w.heap.size + 1, w.heap.size + 2] w4 w6 := (ka.mono (by simp)).trans (hwr.keep.mono (by simp [Value.ownBlock]))
  have hwa : WrAt w.heap.size w7 (w.heap.size + 1) v1 m.enc := hwr.at_.keep kb (by simp) (fun b hb => by
    rcases hwr.up with e | ⟨g, e, hg⟩
    · rw [e] at hb; cases hb
    · rw [e] at hb; obtain rfl : g = b := by simpa using hb
      simp; omega)
  have hm7 := (HM4.out.keep hk6 (by simp)).keep kb (by simp)
  have hkk : Keep [] w w7 := (HK4.out.step hk6 (by simp)).step kb (by simp)
  have hI7 := (HI4.out.keep hk6 (fun hne b o e => by have := hI0.out hne b o e; simp; omega)).keep kb (fun hne b o e => by have := hI0.out hne b o e; simp; omega)
  have HK7 := Lib.hid hkk
  have HI7 := Lib.hid hI7
  have HM7 := Lib.hid hm7
  have HWA := Lib.hid hwa
  clear hk6 hwa hm7 hkk hI7 ka hlt hwr kb HSF HM4 HK4 HI4
  go_wp2_with (fail)
  refine (ostring_any HWA.out (Mg.enc_ne m)).mono ?_
  rintro e w7' ⟨rfl, hw7⟩
  rw [hw7]
  clear hw7
  go_wp2_with (fail)
  refine (read_any (w := w7) (s := ⟨m.enc.toArray⟩) ho rfl).mono ?_
  rintro e w8 ⟨vp, rfl, hvp, hk8⟩
  obtain ⟨a2, c2, rfl, _⟩ := own_shape hvp
  obtain ⟨cw, hcw⟩ : ∃ cw, m.cells (.slice a2 m.own.length c2) = cw := ⟨_, rfl⟩
  have hone : cw.all (·.oneCell') = true := by rw [← hcw]; exact Mg.one m a2 _ c2
  have hsz : cw.size = 22 := by rw [← hcw]; rfl
  rw [hcw]
  obtain ⟨w9, hw9⟩ : ∃ u, w8.alloc (.cells #[.int .u8 0, .int .i64 0, .int .i64 0, .int .i64 0, .int .i64 0, .int .i64 0, .int .i64 0, .int .u64 0, .int .i64 0, .int .i64 0, .int .i64 0, .int .i64 0, .int .u8 0, .string ⟨#[]⟩, .int .i64 0, .int .i64 0, .int .i64 0, .int .i64 0, .int .i64 0, .slice none 0 0, .slice none 0 0, .string ⟨#[]⟩] 40) = u := ⟨_, rfl⟩
  obtain ⟨w10, hw10⟩ : ∃ u, w9.setRow w8.heap.size cw = u := ⟨_, rfl⟩
  have k9 : Keep [] w8 w9 := by rw [← hw9]; exact (Keep.refl _ _).alloc _
  have k10 : Keep [w8.heap.size] w9 w10 := by rw [← hw10]; exact (Keep.refl _ _).setRow _ _ (.inl (by simp))
  have z9 : MsAt w9 w8.heap.size (msC 0 0 0 0 0 0 (.slice none 0 0)) := by rw [← hw9]; exact World.alloc_heap_new w8 _
  have z10 : MsAt w10 w8.heap.size cw := by rw [← hw10]; exact z9.row
  have hst := run_storeVar_row (P := Tryz.prog) w9 w8.heap.size 40 40 _ cw z9 (by rw [hsz]; exact msg_size) (by rw [hsz]; rfl) hone
  rw [hw10] at hst
  have hm8 := HM7.out.keep hk8 (by simp)
  have hl8 := lt_of_heap hm8
  have hm10 : MsAt w10 w.heap.size cv := (hm8.keep k9 (by simp)).keep k10 (by simp; omega)
  have hI10 := ((HI7.out.keep hk8 (by simp)).keep k9 (by simp)).keep k10 (fun hne b o e => by have := hI0.out hne b o e; simp; omega)
  have hr10 := ((hvp.keep k9 (by simp)).keep k10 (fun b hb => by have := own_lt hvp b hb; simp; omega)).at
  have hk10 : Keep [] w w10 := ((HK7.out.trans hk8).trans k9).step k10 (by have := HK7.out.size; have := hk8.size; simp; omega)
  have hsame := same_ms (w := w10) m.k m.mv m.pt m.to m.ep m.nd c2 c hr10 hI10 ho.len
  rw [show msC m.k m.mv m.pt m.to m.ep m.nd (.slice a2 m.own.length c2) = cw from hcw, show msC m.k m.mv m.pt m.to m.ep m.nd (.slice a m.own.length c) = cv from HCV.out] at hsame
  have HSM := Lib.hid hsame
  have HST2 := Lib.hid hst
  have HZ10 : Hid (w10.heap[w8.heap.size]? = some (.cells cw 40 (0, 0))) := Lib.hid z10
  have HM10 : Hid (w10.heap[w.heap.size]? = some (.cells cv 40 (0, 0))) := Lib.hid hm10
  have HSZ2 := Lib.hid (show (Tryz.prog.info? 40).map (·.size) = some cw.size by rw [hsz]; exact msg_size)
  have HK10 := Lib.hid hk10
  clear hvp hk8 hcw hone hsz k9 k10 z9 z10 hst hm8 hl8 hm10 hI10 hr10 hk10 hsame hw10 HM7 HI7 HWA
  go_wp2_with (first | ((with_reducible refine wpList_load_row ?_ 40 (.tmp 8) ?_ (w8.heap.size) ?_ 40 cw (0, 0) _ HZ10.out Tryz.underlying40 ?_ HSZ2.out ?_); rfl; rfl; rfl; rfl) | ((with_reducible refine wpList_load_row ?_ 40 (.tmp 1) ?_ (w.heap.size) ?_ 40 cv (0, 0) _ HM10.out Tryz.underlying40 ?_ HSZ.out ?_); rfl; rfl; rfl; rfl) | ((with_reducible refine wpList_store_all ?_ 40 (.tmp 8) (.tmp 21) ?_ (w8.heap.size) ?_ cw ?_ HST2.out ?_); rfl; rfl; rfl; rfl))
  refine HSM.out.mono ?_
  rintro e w11 ⟨rfl, hk11⟩
  have HK11 := Lib.hid (HK10.out.trans hk11)
  clear hk11
  go_wp2_with (fail)
  go_ret2
  exact ⟨rfl, HK11.out⟩
end Go.Proofs.YtdnfibecobodkaaGreat
