/- The document's packet (toward CoordPlays). -/
import Derived.Test.YteejdfpfdnkiiaaGreatCqK
namespace Go.Proofs.YteejdfpfdnkiiaaGreat
open Go.RowKit Go.Lib
set_option linter.unusedSimpArgs false
set_option linter.unusedVariables false
set_option maxRecDepth 100000 in
set_option maxHeartbeats 4000000 in
theorem rpacket_any {w : World} {m : Mg} (ho : m.Ok) {a : Option Addr} {c : Nat} (hc : m.k = 4 ∨ m.k = 12 → a = none ∧ c = 0) (hI : IntsAt w a m.own) (to : Int) : Calls Tryz.prog 40 #[.int .i64 to, .agg (m.cells (.slice a m.own.length c))] w fun e w' => e = .returned (.agg #[.int .i64 8, .int .i64 to, .string ⟨(frameB m.enc).toArray⟩]) ∧ Keep [] w w' := by
  have hsz : (m.cells (.slice a m.own.length c)).size = 22 := rfl
  have hby := fun (W : World) (hk : Keep [] w W) => rbytes_any (w := W) (c := c) ho hc (hI.keep hk (by simp))
  obtain ⟨cv, hcv⟩ : ∃ x, m.cells (.slice a m.own.length c) = x := ⟨_, rfl⟩
  rw [hcv] at hby hsz ⊢
  obtain ⟨w1, hw1⟩ : ∃ u, w.alloc (.cells cv 47) = u := ⟨_, rfl⟩
  obtain ⟨w2, hw2⟩ : ∃ u, w1.alloc (.cells #[.int .i64 0, .int .i64 0, .string ⟨#[]⟩] 94) = u := ⟨_, rfl⟩
  have s1 : w1.heap.size = w.heap.size + 1 := by rw [← hw1, World.size_alloc]
  have k1 : Keep [] w w1 := by rw [← hw1]; exact (Keep.refl _ _).alloc _
  have k2 : Keep [] w1 w2 := by rw [← hw2]; exact (Keep.refl _ _).alloc _
  have m1 : MsAt w1 w.heap.size cv := by rw [← hw1]; exact World.alloc_heap_new w _
  have HM : Hid (w2.heap[w.heap.size]? = some (.cells cv 47 (0, 0))) := Lib.hid (m1.keep k2 (by simp))
  have b2 : w2.heap[w.heap.size + 1]? = some (.cells #[.int .i64 0, .int .i64 0, .string ⟨#[]⟩] 94 (0, 0)) := by rw [← hw2, ← s1]; exact World.alloc_heap_new w1 _
  have HB2 := Lib.hid b2
  have HSZ := Lib.hid (show (Tryz.prog.info? 47).map (·.size) = some cv.size by rw [hsz]; exact msg_size)
  have HK := Lib.hid (k1.trans k2)
  have HBY := Lib.hid hby
  have HPT := Lib.hid (fun (W : World) => rput_any W m.enc (by have := Mg.enc_len ho; omega))
  obtain ⟨ds, hds⟩ : ∃ ds : ByteArray, ⟨m.enc.toArray⟩ = ds := ⟨_, rfl⟩
  obtain ⟨fs, hfs⟩ : ∃ fs : ByteArray, ⟨(frameB m.enc).toArray⟩ = fs := ⟨_, rfl⟩
  rw [hds] at HBY
  rw [hds, hfs] at HPT
  rw [hfs]
  clear hby m1 b2 k1 k2 hsz hcv hI hds hfs
  go_enter Tryz.func40, Tryz.ntmps40
  go_wp2_with ((with_reducible refine wpList_load_row ?_ 47 (.tmp 3) ?_ (w.heap.size) ?_ 47 cv (0, 0) _ HM.out Tryz.underlying47 ?_ HSZ.out ?_); rfl; rfl; rfl; rfl)
  refine (HBY.out _ HK.out).mono ?_
  rintro e w3 ⟨rfl, hk⟩
  have HK := Lib.hid (HK.out.trans hk)
  have hb := (hk.block _ (lt_of_heap HB2.out) (by simp)).trans HB2.out
  have HB2 := Lib.hid hb
  clear hk hb
  go_wp2_with (fail)
  refine (HPT.out _).mono ?_
  rintro e w4 ⟨rfl, hk⟩
  have HK := Lib.hid (HK.out.trans hk)
  have hb := (hk.block _ (lt_of_heap HB2.out) (by simp)).trans HB2.out
  obtain ⟨w5, hw5⟩ : ∃ u, w4.setRow (w.heap.size + 1) #[.int .i64 8, .int .i64 to, .string fs] = u := ⟨_, rfl⟩
  have hst := run_storeVar_row (P := Tryz.prog) w4 (w.heap.size + 1) 94 94 _ #[.int .i64 8, .int .i64 to, .string fs] hb (by kernel_rfl) rfl (by simp [Value.oneCell'])
  rw [hw5] at hst
  have HST := Lib.hid hst
  have HB5 : Hid (w5.heap[w.heap.size + 1]? = some (.cells #[.int .i64 8, .int .i64 to, .string fs] 94 (0, 0))) := Lib.hid (by rw [← hw5]; exact setRow_heap w4 _ _ _ _ _ hb)
  have HK5 := Lib.hid (HK.out.step (show Keep [w.heap.size + 1] w4 w5 from by rw [← hw5]; exact (Keep.refl _ _).setRow _ _ (.inl (by simp))) (by intro y hy; simp only [List.mem_singleton] at hy; exact .inr (by omega)))
  clear hk hb hst hw5
  go_wp2_with ((with_reducible refine wpList_store_all ?_ 94 (.tmp 4) (.tmp 21) ?_ (w.heap.size + 1) ?_ _ ?_ HST.out ?_); rfl; rfl; rfl; rfl)
  refine bodyPost_ret (results_cell_row rfl _ w5 (w.heap.size + 1) 94 _ (0, 0) _ rfl HB5.out Tryz.underlying94 rfl (by kernel_rfl)) rfl ?_
  exact ⟨rfl, HK5.out⟩
end Go.Proofs.YteejdfpfdnkiiaaGreat
