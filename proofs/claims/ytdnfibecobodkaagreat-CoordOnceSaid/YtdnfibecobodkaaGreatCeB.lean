/- Great: are there more acts or longer messages than a statement speaks of? -/
import Derived.Test.YtdnfibecobodkaaGreatCeA
import Derived.Test.YtdnfibecobodkaaGreatCsF
namespace Go.Proofs.YtdnfibecobodkaaGreat
open Go.RowKit Go.Lib
set_option linter.unusedSimpArgs false
set_option linter.unusedVariables false
theorem szMsg {ms : List Value} (h : ms.length = 22) : (Tryz.prog.info? 40).map (·.size) = some ms.length := by
  rw [h]
  kernel_rfl
theorem szMsgA {ms : List Value} (h : ms.length = 22) : (Tryz.prog.info? 40).map (·.size) = some ms.toArray.size := by
  rw [List.size_toArray]
  exact szMsg h
def zMsg : Array Value := #[.int .u8 0, .int .i64 0, .int .i64 0, .int .i64 0, .int .i64 0, .int .i64 0, .int .i64 0, .int .u64 0, .int .i64 0, .int .i64 0, .int .i64 0, .int .i64 0, .int .u8 0, .string ⟨#[]⟩, .int .i64 0, .int .i64 0, .int .i64 0, .int .i64 0, .int .i64 0, .slice none 0 0, .slice none 0 0, .string ⟨#[]⟩]
/-- A message goes into new memory. -/
theorem store_msg {w : World} {ms : List Value} {k : Nat} {mv pt cd : Int} (h : MsW ms k mv pt cd) : ∃ w', (storeVar 40 ⟨w.heap.size, 0, none⟩ (.agg ms.toArray)).run Tryz.prog (w.alloc (.cells zMsg 40)) = .ok () w' ∧ Keep [] w w' ∧ w'.heap[w.heap.size]? = some (.cells ms.toArray 40 (0, 0)) ∧ w'.heap.size = w.heap.size + 1 := by
  have hz : (w.alloc (.cells zMsg 40)).heap[w.heap.size]? = some (.cells zMsg 40 (0, 0)) := World.alloc_heap_new w _
  refine ⟨_, run_storeVar_row (P := Tryz.prog) _ w.heap.size 40 40 _ ms.toArray hz (szMsgA h.len) (Eq.trans (show zMsg.toList.length = 22 from rfl) (by rw [List.size_toArray, h.len])) (by simpa using h.one), ?_, ?_, ?_⟩
  · exact ((Keep.refl _ _).alloc _).setRow _ _ (.inr (Nat.le_refl _))
  · exact setRow_heap _ w.heap.size _ _ _ _ hz
  · simp [World.setRow]
def GrP (w : World) (n : Nat) (e : Ending) (w' : World) : Prop := ∃ b, e = .returned (.bool b) ∧ (b = false → n ≤ 200) ∧ Keep [] w w'
set_option maxRecDepth 100000 in
set_option maxHeartbeats 4000000 in
theorem great_any {w : World} {A : Option Addr} {L : List Ac} (c : Nat) (hA : RowAt AcAt 28 w A L) (hok : ∀ y ∈ L, y.Ok) : Calls Tryz.prog 21 #[.slice A L.length c] w (GrP w L.length) := by
  have HA := Lib.hid hA
  have HO := Lib.hid hok
  clear hA hok
  go_enter Tryz.func21, Tryz.ntmps21
  go_wp2_with (fail)
  go_loopw [3] (fun i wr => ∃ j : Nat, i = .int .i64 j ∧ j ≤ L.length ∧ j ≤ 201 ∧ Keep [] w wr) (fun i _ => 201 - (intOf i).toNat)
  case atStart => exact ⟨0, rfl, Nat.zero_le _, Nat.zero_le _, Keep.refl _ _⟩
  case round =>
    obtain ⟨j, rfl, hj, hj2, hk0⟩ := hrel
    have HKR := Lib.hid hk0
    have h0j : (0 : Int) ≤ (j : Int) := Int.natCast_nonneg j
    by_cases hlt : j < L.length
    · have hjn : (j : Int) < (L.length : Int) := by omega
      by_cases h200 : j ≤ 200
      · have hj200 : (j : Int) ≤ 200 := by omega
        have hne : L ≠ [] := by intro e; rw [e] at hlt; simp at hlt
        obtain ⟨b, off, rfl, hbl, hat⟩ := (HA.out.keep (X := []) (fun _ _ _ h1 h2 h3 => h3.keep hk0 h1 h2) hk0 (by simp)) hne
        obtain ⟨x, hxl⟩ : ∃ x, L[j]? = some x := ⟨L[j], List.getElem?_eq_getElem hlt⟩
        have hx := hat j x hxl
        have hxo := HO.out x (List.mem_of_getElem? hxl)
        have hmid := hx.mid hxo
        obtain ⟨hms, _⟩ := hxo
        obtain ⟨dd, part, to, fr, ms, k, mv, pt, cd, wh, code⟩ := x
        simp only at hmid hms
        obtain ⟨w5, hst, hk5, hb5, hs5⟩ := store_msg (w := wr) hms
        obtain ⟨s13, e13⟩ := hms.c13
        obtain ⟨a19, n19, c19, e19⟩ := hms.c19
        obtain ⟨a20, n20, c20, e20⟩ := hms.c20
        obtain ⟨s21, e21⟩ := hms.c21
        have q13 : w5.cell? ⟨wr.heap.size, 13, none⟩ = some (.string s13) := by unfold World.cell?; rw [hb5]; simpa using e13
        have q19 : w5.cell? ⟨wr.heap.size, 19, none⟩ = some (.slice a19 n19 c19) := by unfold World.cell?; rw [hb5]; simpa using e19
        have q20 : w5.cell? ⟨wr.heap.size, 20, none⟩ = some (.slice a20 n20 c20) := by unfold World.cell?; rw [hb5]; simpa using e20
        have q21 : w5.cell? ⟨wr.heap.size, 21, none⟩ = some (.string s21) := by unfold World.cell?; rw [hb5]; simpa using e21
        have HM := Lib.hid hmid
        have HSZ := Lib.hid (szMsg hms.len)
        have HST := Lib.hid hst
        have HK5 := Lib.hid (HKR.out.trans hk5)
        unfold zMsg at HST
        clear hk0 hat hx hmid hms hst hk5 hb5 hs5 e13 e19 e20 e21 hxl hne
        by_cases h1 : (300 : Int) < (n20 : Int)
        · go_wp2_with (first | ((with_reducible refine wpList_load_mid ?_ 40 (.tmp 18) ?_ b (off + j * 28 + 4) ?_ ms _ HM.out Tryz.underlying40 ?_ HSZ.out ?_); rfl; rfl; rfl; rfl) | ((with_reducible refine wpList_store_all ?_ 40 (.tmp 4) (.tmp 19) ?_ (wr.heap.size) ?_ ms.toArray ?_ HST.out ?_); rfl; rfl; rfl; rfl))
          go_ret
          exact ⟨true, rfl, (fun h => by cases h), HK5.out⟩
        by_cases h2 : (300 : Int) < (n19 : Int)
        · go_wp2_with (first | ((with_reducible refine wpList_load_mid ?_ 40 (.tmp 18) ?_ b (off + j * 28 + 4) ?_ ms _ HM.out Tryz.underlying40 ?_ HSZ.out ?_); rfl; rfl; rfl; rfl) | ((with_reducible refine wpList_store_all ?_ 40 (.tmp 4) (.tmp 19) ?_ (wr.heap.size) ?_ ms.toArray ?_ HST.out ?_); rfl; rfl; rfl; rfl))
          go_ret
          exact ⟨true, rfl, (fun h => by cases h), HK5.out⟩
        by_cases h3 : (3000 : Int) < (s21.size : Int)
        · go_wp2_with (first | ((with_reducible refine wpList_load_mid ?_ 40 (.tmp 18) ?_ b (off + j * 28 + 4) ?_ ms _ HM.out Tryz.underlying40 ?_ HSZ.out ?_); rfl; rfl; rfl; rfl) | ((with_reducible refine wpList_store_all ?_ 40 (.tmp 4) (.tmp 19) ?_ (wr.heap.size) ?_ ms.toArray ?_ HST.out ?_); rfl; rfl; rfl; rfl))
          go_ret
          exact ⟨true, rfl, (fun h => by cases h), HK5.out⟩
        by_cases h4 : (3000 : Int) < (s13.size : Int)
        · go_wp2_with (first | ((with_reducible refine wpList_load_mid ?_ 40 (.tmp 18) ?_ b (off + j * 28 + 4) ?_ ms _ HM.out Tryz.underlying40 ?_ HSZ.out ?_); rfl; rfl; rfl; rfl) | ((with_reducible refine wpList_store_all ?_ 40 (.tmp 4) (.tmp 19) ?_ (wr.heap.size) ?_ ms.toArray ?_ HST.out ?_); rfl; rfl; rfl; rfl))
          go_ret
          exact ⟨true, rfl, (fun h => by cases h), HK5.out⟩
        go_wp2_with (first | ((with_reducible refine wpList_load_mid ?_ 40 (.tmp 18) ?_ b (off + j * 28 + 4) ?_ ms _ HM.out Tryz.underlying40 ?_ HSZ.out ?_); rfl; rfl; rfl; rfl) | ((with_reducible refine wpList_store_all ?_ 40 (.tmp 4) (.tmp 19) ?_ (wr.heap.size) ?_ ms.toArray ?_ HST.out ?_); rfl; rfl; rfl; rfl))
        go_roundw
        case rel => exact ⟨j + 1, by go_num, by omega, by omega, HK5.out⟩
        case measure => go_light; simp [intOf]; omega
      · have hj201 : ((j : Int) ≤ 200) = False := by simp; omega
        go_wp2_with (fail)
        go_ret
        refine ⟨_, rfl, fun h => ?_, HKR.out⟩
        simp at h
        omega
    · have hjn : ¬ (j : Int) < (L.length : Int) := by omega
      go_wp2_with (fail)
      go_ret
      refine ⟨_, rfl, fun h => ?_, HKR.out⟩
      simp at h
      omega
end Go.Proofs.YtdnfibecobodkaaGreat
