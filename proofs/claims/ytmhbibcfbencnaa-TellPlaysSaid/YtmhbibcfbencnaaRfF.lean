/- The document's store: Put, Set, Get. -/
import Derived.Test.YtmhbibcfbencnaaRfC
import Derived.Test.YtmhbibcfbencnaaRfD
import Derived.Test.YtmhbibcfbencnaaRfE
namespace Go.Proofs.Ytmhbibcfbencnaa
open Go.RowKit Go.Lib
set_option linter.unusedSimpArgs false
set_option linter.unusedVariables false
/-- The aggregate of a window, stored anew. -/
def setOg (W : World) (b : Nat) (x : Ag) : World :=
  (((((((W.setCell ⟨b, 2, none⟩ (.int .i64 x.c)).setCell ⟨b, 3, none⟩ (.int .i64 x.s)).setCell ⟨b, 4, none⟩ (.int .i64 x.lo)).setCell ⟨b, 5, none⟩ (.int .i64 x.hi)).setCell ⟨b, 6, none⟩ (.int .i64 x.b0)).setCell ⟨b, 7, none⟩ (.int .i64 x.b1)).setCell ⟨b, 8, none⟩ (.int .i64 x.b2)).setCell ⟨b, 9, none⟩ (.int .i64 x.b3)
theorem OtAt.set2 {W : World} {b : Nat} {k : ByteArray} {s x1 x2 x3 x4 x5 x6 x7 x8 : Int} (h : OtAt W b ⟨k, s, ⟨x1, x2, x3, x4, x5, x6, x7, x8⟩⟩) (v : Int) : OtAt (W.setCell ⟨b, 2, none⟩ (.int .i64 v)) b ⟨k, s, ⟨v, x2, x3, x4, x5, x6, x7, x8⟩⟩ := by
  unfold OtAt at *
  simp [World.setCell, Array.getElem?_modify, h]
theorem OtAt.set3 {W : World} {b : Nat} {k : ByteArray} {s x1 x2 x3 x4 x5 x6 x7 x8 : Int} (h : OtAt W b ⟨k, s, ⟨x1, x2, x3, x4, x5, x6, x7, x8⟩⟩) (v : Int) : OtAt (W.setCell ⟨b, 3, none⟩ (.int .i64 v)) b ⟨k, s, ⟨x1, v, x3, x4, x5, x6, x7, x8⟩⟩ := by
  unfold OtAt at *
  simp [World.setCell, Array.getElem?_modify, h]
theorem OtAt.set4 {W : World} {b : Nat} {k : ByteArray} {s x1 x2 x3 x4 x5 x6 x7 x8 : Int} (h : OtAt W b ⟨k, s, ⟨x1, x2, x3, x4, x5, x6, x7, x8⟩⟩) (v : Int) : OtAt (W.setCell ⟨b, 4, none⟩ (.int .i64 v)) b ⟨k, s, ⟨x1, x2, v, x4, x5, x6, x7, x8⟩⟩ := by
  unfold OtAt at *
  simp [World.setCell, Array.getElem?_modify, h]
theorem OtAt.set5 {W : World} {b : Nat} {k : ByteArray} {s x1 x2 x3 x4 x5 x6 x7 x8 : Int} (h : OtAt W b ⟨k, s, ⟨x1, x2, x3, x4, x5, x6, x7, x8⟩⟩) (v : Int) : OtAt (W.setCell ⟨b, 5, none⟩ (.int .i64 v)) b ⟨k, s, ⟨x1, x2, x3, v, x5, x6, x7, x8⟩⟩ := by
  unfold OtAt at *
  simp [World.setCell, Array.getElem?_modify, h]
theorem OtAt.set6 {W : World} {b : Nat} {k : ByteArray} {s x1 x2 x3 x4 x5 x6 x7 x8 : Int} (h : OtAt W b ⟨k, s, ⟨x1, x2, x3, x4, x5, x6, x7, x8⟩⟩) (v : Int) : OtAt (W.setCell ⟨b, 6, none⟩ (.int .i64 v)) b ⟨k, s, ⟨x1, x2, x3, x4, v, x6, x7, x8⟩⟩ := by
  unfold OtAt at *
  simp [World.setCell, Array.getElem?_modify, h]
theorem OtAt.set7 {W : World} {b : Nat} {k : ByteArray} {s x1 x2 x3 x4 x5 x6 x7 x8 : Int} (h : OtAt W b ⟨k, s, ⟨x1, x2, x3, x4, x5, x6, x7, x8⟩⟩) (v : Int) : OtAt (W.setCell ⟨b, 7, none⟩ (.int .i64 v)) b ⟨k, s, ⟨x1, x2, x3, x4, x5, v, x7, x8⟩⟩ := by
  unfold OtAt at *
  simp [World.setCell, Array.getElem?_modify, h]
theorem OtAt.set8 {W : World} {b : Nat} {k : ByteArray} {s x1 x2 x3 x4 x5 x6 x7 x8 : Int} (h : OtAt W b ⟨k, s, ⟨x1, x2, x3, x4, x5, x6, x7, x8⟩⟩) (v : Int) : OtAt (W.setCell ⟨b, 8, none⟩ (.int .i64 v)) b ⟨k, s, ⟨x1, x2, x3, x4, x5, x6, v, x8⟩⟩ := by
  unfold OtAt at *
  simp [World.setCell, Array.getElem?_modify, h]
theorem OtAt.set9 {W : World} {b : Nat} {k : ByteArray} {s x1 x2 x3 x4 x5 x6 x7 x8 : Int} (h : OtAt W b ⟨k, s, ⟨x1, x2, x3, x4, x5, x6, x7, x8⟩⟩) (v : Int) : OtAt (W.setCell ⟨b, 9, none⟩ (.int .i64 v)) b ⟨k, s, ⟨x1, x2, x3, x4, x5, x6, x7, v⟩⟩ := by
  unfold OtAt at *
  simp [World.setCell, Array.getElem?_modify, h]
theorem setOg_at {W : World} {b : Nat} {y : Ot} (h : OtAt W b y) (x : Ag) : OtAt (setOg W b x) b ⟨y.key, y.st, x⟩ := by
  obtain ⟨k, s, ⟨y1, y2, y3, y4, y5, y6, y7, y8⟩⟩ := y
  obtain ⟨x1, x2, x3, x4, x5, x6, x7, x8⟩ := x
  have h1 := h.set2 x1
  have h2 := h1.set3 x2
  have h3 := h2.set4 x3
  have h4 := h3.set5 x4
  have h5 := h4.set6 x5
  have h6 := h5.set7 x6
  have h7 := h6.set8 x7
  have h8 := h7.set9 x8
  unfold setOg
  with_reducible exact h8
theorem setOg_keep (W : World) (b : Nat) (x : Ag) : Keep [b] W (setOg W b x) :=
  (((((((((Keep.refl [b] W).setCell b 2 (.int .i64 x.c) (.inl (List.mem_singleton.2 rfl))).setCell b 3 (.int .i64 x.s) (.inl (List.mem_singleton.2 rfl))).setCell b 4 (.int .i64 x.lo) (.inl (List.mem_singleton.2 rfl))).setCell b 5 (.int .i64 x.hi) (.inl (List.mem_singleton.2 rfl))).setCell b 6 (.int .i64 x.b0) (.inl (List.mem_singleton.2 rfl))).setCell b 7 (.int .i64 x.b1) (.inl (List.mem_singleton.2 rfl))).setCell b 8 (.int .i64 x.b2) (.inl (List.mem_singleton.2 rfl))).setCell b 9 (.int .i64 x.b3) (.inl (List.mem_singleton.2 rfl)))
theorem DocRow.keep {X : List Nat} {W W' : World} {base : Nat} {v : Value} {M : List Ot} (h : DocRow base W v M) (hk : Keep X W W') (hx : ∀ y ∈ X, W.heap.size ≤ y) : DocRow base W' v M :=
  own_keep h hk (fun g hg hm => by have := own_lt h g hg; have := hx g hm; omega)
theorem DocRow.row {W : World} {base : Nat} {a : Option Addr} {c : Nat} {M : List Ot} (h : DocRow base W (.slice a M.length c) M) : OtsRow W a M := (otsAt_of_own h).row
/-- What Put and Set answer. -/
def Doc2 (base : Nat) (w : World) (r : Int × List Ot) (e : Ending) (w' : World) : Prop := ∃ v', e = .returned (.tuple #[.agg #[v'], .int .i64 r.1]) ∧ DocRow base w' v' r.2 ∧ Below w.heap.size w w'
theorem okW_key {o : Ot} (h : OkW o) : o.key.size ≤ maxLen := by
  have hkk := ((okO_iff o).1 h.1).1
  unfold keyB at hkk
  rw [decide_eq_true_eq] at hkk
  unfold maxLen
  omega
theorem insL_with {o : Ot} {L : List Ot} (hu : L.Pairwise ltO) : withL L o (idxL o L) (openL o L) = insL o L := (find_lk hu).2.2.symm
theorem idx_open {o : Ot} {L : List Ot} (h : openL o L = true) : idxL o L < L.length := by
  unfold openL at h
  cases hg : L[idxL o L]? with
  | none => rw [hg] at h; cases h
  | some y => exact (List.getElem?_eq_some_iff.1 hg).1
theorem idxL_wd {o o' : Ot} {L : List Ot} (h : wdOf o = wdOf o') : idxL o L = idxL o' L ∧ openL o L = openL o' L := by
  have h1 : ∀ y, ltB y o = ltB y o' := fun y => by rw [Bool.eq_iff_iff, ltB_iff, ltB_iff]; exact ltO_wd rfl h
  have h2 : ∀ y, ltB o y = ltB o' y := fun y => by rw [Bool.eq_iff_iff, ltB_iff, ltB_iff]; exact ltO_wd h rfl
  have e : idxL o L = idxL o' L := by unfold idxL; congr 2; funext y; exact h1 y
  refine ⟨e, ?_⟩
  unfold openL
  rw [e]
  cases L[idxL o' L]? with
  | none => rfl
  | some y => simp only [h2]
set_option maxRecDepth 100000 in
set_option maxHeartbeats 8000000 in
theorem rdput_any {w : World} {base : Nat} {v : Value} {L : List Ot} (h : DocRow base w v L) (hb : base ≤ w.heap.size) (hL : L.length ≤ 32) (hu : L.Pairwise ltO) (hok : ∀ y ∈ L, OkW y) (k : ByteArray) (hk : k.size ≤ maxLen) (t n : Int) (hn : InR n) :
    Calls Try.prog 37 #[.agg #[v], .string k, .int .i64 t, .int .i64 n] w (Doc2 base w (putL L k t n)) := by
  obtain ⟨⟨r1, r2⟩, hr⟩ : ∃ r, putL L k t n = r := ⟨_, rfl⟩
  rw [hr]
  have HRR := Lib.hid hr
  unfold putL at hr
  have hkey := fun W => rkey_any k W hk
  have hrt := fun W => rright_any t W
  obtain ⟨kb, hkb⟩ : ∃ x, keyB k = x := ⟨_, rfl⟩
  obtain ⟨rb, hrb⟩ : ∃ x, rightB t = x := ⟨_, rfl⟩
  rw [hkb] at hkey hr
  rw [hrb] at hrt hr
  have HK := Lib.hid hkey
  have HT := Lib.hid hrt
  clear hkey hrt
  obtain ⟨av, cv, rfl, _⟩ := own_shape h
  have hz := Int.natCast_nonneg L.length
  have hz32 : (L.length : Int) ≤ 32 := by omega
  obtain ⟨W1, hW1⟩ : ∃ W1, (w.alloc (.cells #[.slice av L.length cv] 64)).alloc (.cells #[.slice none 0 0] 64) = W1 := ⟨_, rfl⟩
  have hB : Below w.heap.size w W1 := hW1 ▸ ((Below.refl _ w).alloc (Nat.le_refl _) _).alloc (by simp) _
  have hs : SxAt W1 w.heap.size (.slice av L.length cv) := hW1 ▸ ((SxAt.new w _).keep ((Keep.refl [] _).alloc _))
  have hx : SxAt W1 (w.heap.size + 1) (.slice none 0 0) := by
    have := SxAt.new (w.alloc (.cells #[.slice av L.length cv] 64)) (.slice none 0 0)
    rw [World.size_alloc] at this
    exact hW1 ▸ this
  have HS := Lib.hid hs
  have HX := Lib.hid hx
  have HB := Lib.hid hB
  have HD0 := Lib.hid h
  have HD := Lib.hid (DocRow.keep h (Keep.of_below hB []) (by simp))
  have HSZ := Lib.hid (show w.heap.size + 2 ≤ W1.heap.size from by rw [← hW1]; simp)
  have HU := Lib.hid hu
  have HOK := Lib.hid hok
  have HN := Lib.hid hn
  have HKS := Lib.hid hk
  obtain ⟨s0, sf⟩ := hs.cells
  obtain ⟨x0, xf⟩ := hx.cells
  clear hs hx hB h hu hok hn hk
  cases kb with
  | false =>
    obtain ⟨rfl, rfl⟩ : r1 = 1 ∧ L = r2 := by rw [if_pos (.inl rfl)] at hr; cases hr; exact ⟨rfl, rfl⟩
    go_enter Try.func37, Try.ntmps37
    go_wp2_with (fail)
    refine ((HK.out _)).mono ?_
    rintro e w3 ⟨rfl, rfl⟩
    go_wp2_with (fail)
    have zc : ∀ u, (W1.setCell ⟨w.heap.size + 1, 0, none⟩ u).cell? ⟨w.heap.size + 1, 0, none⟩ = some u := fun u => (HX.out.set u).cells.1
    have kf : ∀ u, Keep [w.heap.size + 1] W1 (W1.setCell ⟨w.heap.size + 1, 0, none⟩ u) := fun u => (Keep.refl _ W1).setCell _ _ _ (.inl (by simp))
    exact bodyPost_ret (v := .tuple #[.agg #[.slice av L.length cv], .int .i64 1]) (by simp [results, Try.results37, go_sem, zc]) rfl ⟨_, rfl, own_keep HD.out (kf _) (fun g hg => by have := own_lt HD0.out g hg; simp; omega), HB.out.trans ((kf _).below HB.out.size (by simp))⟩
  | true =>
    cases rb with
    | false =>
      obtain ⟨rfl, rfl⟩ : r1 = 1 ∧ L = r2 := by rw [if_pos (.inr rfl)] at hr; cases hr; exact ⟨rfl, rfl⟩
      go_enter Try.func37, Try.ntmps37
      go_wp2_with (fail)
      refine ((HK.out _)).mono ?_
      rintro e w3 ⟨rfl, rfl⟩
      go_wp2_with (fail)
      refine ((HT.out _)).mono ?_
      rintro e w3 ⟨rfl, rfl⟩
      go_wp2_with (fail)
      have zc : ∀ u, (W1.setCell ⟨w.heap.size + 1, 0, none⟩ u).cell? ⟨w.heap.size + 1, 0, none⟩ = some u := fun u => (HX.out.set u).cells.1
      have kf : ∀ u, Keep [w.heap.size + 1] W1 (W1.setCell ⟨w.heap.size + 1, 0, none⟩ u) := fun u => (Keep.refl _ W1).setCell _ _ _ (.inl (by simp))
      exact bodyPost_ret (v := .tuple #[.agg #[.slice av L.length cv], .int .i64 1]) (by simp [results, Try.results37, go_sem, zc]) rfl ⟨_, rfl, own_keep HD.out (kf _) (fun g hg => by have := own_lt HD0.out g hg; simp; omega), HB.out.trans ((kf _).below HB.out.size (by simp))⟩
    | true =>
      rw [if_neg (by simp)] at hr
      have hst := fun W => rstart_any t W
      obtain ⟨s, hs⟩ : ∃ s, startI t = s := ⟨_, rfl⟩
      rw [hs] at hst hr
      have HST := Lib.hid hst
      have hk2 : Keep [] W1 (W1.alloc (.cells #[.string k, .int .i64 s, .int .i64 0, .int .i64 0, .int .i64 0, .int .i64 0, .int .i64 0, .int .i64 0, .int .i64 0, .int .i64 0] 33)) := (Keep.refl _ _).alloc _
      have hs2 := HS.out.keep hk2
      have HS2 := Lib.hid hs2
      have HX2 := Lib.hid (HX.out.keep hk2)
      have HD2 := Lib.hid (DocRow.keep HD.out hk2 (by simp))
      have HB2 := Lib.hid (HB.out.trans (hk2.below HB.out.size (by simp)))
      have HO2 : Hid (OtAt (W1.alloc (.cells #[.string k, .int .i64 s, .int .i64 0, .int .i64 0, .int .i64 0, .int .i64 0, .int .i64 0, .int .i64 0, .int .i64 0, .int .i64 0] 33)) W1.heap.size ⟨k, s, Ag.zero⟩) := Lib.hid (OtAt.new W1 ⟨k, s, Ag.zero⟩)
      have s2 : ∀ o, (W1.alloc o).cell? ⟨w.heap.size, 0, none⟩ = some (.slice av L.length cv) := fun o => (HS.out.keep ((Keep.refl [] _).alloc _)).cells.1
      clear hk2 hs2
      go_enter Try.func37, Try.ntmps37
      go_wp2_with (fail)
      refine ((HK.out _)).mono ?_
      rintro e w3 ⟨rfl, rfl⟩
      go_wp2_with (fail)
      refine ((HT.out _)).mono ?_
      rintro e w3 ⟨rfl, rfl⟩
      go_wp2_with (fail)
      refine ((HST.out _)).mono ?_
      rintro e w3 ⟨rfl, rfl⟩
      go_wp2_with (fail)
      have hfi := fun (W : World) (hW : OtsRow W av L) => find_any cv hW (by omega) (fun y hy => okW_key (HOK.out y hy)) ⟨k, s, Ag.zero⟩ HKS.out
      have hlk := find_lk (o := ⟨k, s, Ag.zero⟩) HU.out
      have hio := fun h => idx_open (o := ⟨k, s, Ag.zero⟩) (L := L) h
      have hle := idx_le ⟨k, s, Ag.zero⟩ L
      have hwd : ∀ a : Ag, idxL ⟨k, s, a⟩ L = idxL ⟨k, s, Ag.zero⟩ L ∧ openL ⟨k, s, a⟩ L = openL ⟨k, s, Ag.zero⟩ L := fun a => idxL_wd rfl
      have hins : ∀ a : Ag, withL L ⟨k, s, a⟩ (idxL ⟨k, s, a⟩ L) (openL ⟨k, s, a⟩ L) = insL ⟨k, s, a⟩ L := fun a => insL_with HU.out
      obtain ⟨ix, hix⟩ : ∃ n, idxL ⟨k, s, Ag.zero⟩ L = n := ⟨_, rfl⟩
      obtain ⟨op, hop⟩ : ∃ n, openL ⟨k, s, Ag.zero⟩ L = n := ⟨_, rfl⟩
      have hins2 : ∀ a : Ag, withL L ⟨k, s, a⟩ ix op = insL ⟨k, s, a⟩ L := fun a => by have := hins a; rwa [(hwd a).1, (hwd a).2, hix, hop] at this
      rw [hix, hop] at hfi hlk
      rw [hop] at hio
      rw [hix] at hle hio
      simp only [Ot.enc, Ag.zero] at hfi
      have HFI := Lib.hid hfi
      have HLK := Lib.hid hlk
      have HIO := Lib.hid hio
      have HIN := Lib.hid hins2
      have HZ2 := Lib.hid (show w.heap.size + 2 ≤ (W1.alloc (.cells #[.string k, .int .i64 s, .int .i64 0, .int .i64 0, .int .i64 0, .int .i64 0, .int .i64 0, .int .i64 0, .int .i64 0, .int .i64 0] 33)).heap.size from by have := HSZ.out; simp; omega)
      have hri : (lkL ⟨s, k⟩ L).isSome = op := HLK.out.1.symm
      rw [hri] at hr
      clear hfi hlk hio hins hins2 hwd hri hix hop s2 s0 sf x0 xf hW1 HS HX HB HD
      refine (HFI.out _ HD2.out.row).mono ?_
      rintro e w4 ⟨rfl, hB4⟩
      have HS4 := Lib.hid (HS2.out.keep (Keep.of_below hB4 []))
      have HX4 := Lib.hid (HX2.out.keep (Keep.of_below hB4 []))
      have HO4 := Lib.hid (HO2.out.keep (Keep.of_below hB4 []))
      have HD4 := Lib.hid (DocRow.keep HD2.out (Keep.of_below hB4 []) (by simp))
      have HB4 := Lib.hid (HB2.out.trans (hB4.mono HB2.out.size))
      have HZ4 := Lib.hid (Nat.le_trans HZ2.out hB4.size)
      clear hB4 HS2 HX2 HO2 HD2 HB2 HZ2
      obtain ⟨s0, sf⟩ := HS4.out.cells
      obtain ⟨x0, xf⟩ := HX4.out.cells
      cases op with
      | false =>
        by_cases h32 : 32 ≤ L.length
        · obtain ⟨rfl, rfl⟩ : r1 = 6 ∧ L = r2 := by rw [if_pos ⟨rfl, h32⟩] at hr; cases hr; exact ⟨rfl, rfl⟩
          have h32' : (32 : Int) ≤ (L.length : Int) := by omega
          go_wp2_with (fail)
          have zc : ∀ u, (w4.setCell ⟨w.heap.size + 1, 0, none⟩ u).cell? ⟨w.heap.size + 1, 0, none⟩ = some u := fun u => (HX4.out.set u).cells.1
          have kf : ∀ u, Keep [w.heap.size + 1] w4 (w4.setCell ⟨w.heap.size + 1, 0, none⟩ u) := fun u => (Keep.refl _ w4).setCell _ _ _ (.inl (by simp))
          exact bodyPost_ret (v := .tuple #[.agg #[.slice av L.length cv], .int .i64 6]) (by simp [results, Try.results37, go_sem, zc]) rfl ⟨_, rfl, own_keep HD4.out (kf _) (fun g hg => by have := own_lt HD0.out g hg; simp; omega), HB4.out.trans ((kf _).below HB4.out.size (by simp))⟩
        · have h32' : ¬ (32 : Int) ≤ (L.length : Int) := by omega
          have HR2 : Hid ((0, insL ⟨k, s, Ag.zero.put n⟩ L) = (r1, r2)) := Lib.hid (by rw [if_neg (fun h => h32 h.2)] at hr; have hn2 : lkL ⟨s, k⟩ L = none := by { have := HLK.out.1; cases hl : lkL ⟨s, k⟩ L with | none => rfl | some a => (have h3 : false = (lkL ⟨s, k⟩ L).isSome := this); rw [hl] at h3; cases h3 }; rw [hn2] at hr; exact hr)
          clear hr h32
          have hput := fun W => rfput_any Ag.zero n Ag.zero_wf HN.out W
          obtain ⟨⟨m1, m2, m3, m4, m5, m6, m7, m8⟩, hm⟩ : ∃ m, Ag.put Ag.zero n = m := ⟨_, rfl⟩
          rw [hm] at hput HR2
          simp only [Ag.val, Ag.zero] at hput
          have HPUT := Lib.hid hput
          clear hput hm
          obtain ⟨a0, a1, a2, a3, a4, a5, a6, a7, a8, a9, af⟩ := HO4.out.all
          simp only [Ag.zero] at a0 a1 a2 a3 a4 a5 a6 a7 a8 a9
          go_wp2_with (fail)
          refine (HPUT.out _).mono ?_
          rintro e w6 ⟨rfl, hB6⟩
          clear a0 a1 a2 a3 a4 a5 a6 a7 a8 a9 af s0 sf x0 xf
          have HS6 := Lib.hid (HS4.out.keep (Keep.of_below hB6 []))
          have HX6 := Lib.hid (HX4.out.keep (Keep.of_below hB6 []))
          have HO6 := Lib.hid (HO4.out.keep (Keep.of_below hB6 []))
          have HD6 := Lib.hid (DocRow.keep HD4.out (Keep.of_below hB6 []) (by simp))
          have HB6 := Lib.hid (HB4.out.trans (hB6.mono HB4.out.size))
          have HZ6 := Lib.hid (Nat.le_trans HZ4.out hB6.size)
          clear hB6 HS4 HX4 HO4 HD4 HB4 HZ4
          obtain ⟨W7, hW7⟩ : ∃ W, setOg w6 W1.heap.size ⟨m1, m2, m3, m4, m5, m6, m7, m8⟩ = W := ⟨_, rfl⟩
          have kg : Keep [W1.heap.size] w6 W7 := hW7 ▸ setOg_keep _ _ _
          have HO7 : Hid (OtAt W7 W1.heap.size ⟨k, s, ⟨m1, m2, m3, m4, m5, m6, m7, m8⟩⟩) := Lib.hid (hW7 ▸ setOg_at HO6.out _)
          have HS7 := Lib.hid (HS6.out.keep kg (by have := HSZ.out; simp; omega))
          have HX7 := Lib.hid (HX6.out.keep kg (by have := HSZ.out; simp; omega))
          have HD7 := Lib.hid (own_keep HD6.out kg (fun g hg => by have := own_lt HD0.out g hg; have := HSZ.out; simp; omega))
          have HB7 := Lib.hid (HB6.out.trans (kg.below HB6.out.size (by have := HSZ.out; simp; omega)))
          have HZ7 := Lib.hid (Nat.le_trans HZ6.out kg.size)
          obtain ⟨a0, a1, a2, a3, a4, a5, a6, a7, a8, a9, af⟩ := HO6.out.all
          obtain ⟨b0, b1, b2, b3, b4, b5, b6, b7, b8, b9, bf⟩ := HO7.out.all
          obtain ⟨s0, sf⟩ := HS7.out.cells
          obtain ⟨t0, tf⟩ := HS6.out.cells
          simp only at a0 a1 a2 a3 a4 a5 a6 a7 a8 a9
          simp only at b0 b1 b2 b3 b4 b5 b6 b7 b8 b9
          simp only [setOg] at hW7
          clear kg
          go_wp2_with (fail)
          clear hW7 a0 a1 a2 a3 a4 a5 a6 a7 a8 a9 af s0 sf b0 b1 b2 b3 b4 b5 b6 b7 b8 b9 bf t0 tf
          have hwith := with_any HD7.out (by have := HZ7.out; omega) (by omega) ⟨k, s, ⟨m1, m2, m3, m4, m5, m6, m7, m8⟩⟩ ix false hle (fun h => by cases h)
          rw [HIN.out] at hwith
          simp only [Ot.enc] at hwith
          refine hwith.mono ?_
          rintro e w8 ⟨v', rfl, hrow, hB8⟩
          clear hwith
          obtain ⟨av', cv', rfl, _⟩ := own_shape hrow
          have HX8 := Lib.hid (HX7.out.keep (Keep.of_below hB8 []))
          have HRW := Lib.hid (own_mono (base' := base) hrow (by have := HZ7.out; omega))
          have HRL := Lib.hid (own_base hrow)
          have HB8 := Lib.hid (HB7.out.trans (hB8.mono HB7.out.size))
          clear hrow hB8 HS7 HX7 HO7 HD7 HB7
          obtain ⟨x0, xf⟩ := HX8.out.cells
          obtain ⟨nl, hnl⟩ : ∃ n, (insL ⟨k, s, ⟨m1, m2, m3, m4, m5, m6, m7, m8⟩⟩ L).length = n := ⟨_, rfl⟩
          rw [hnl] at HRW HRL ⊢
          have HNL := Lib.hid hnl
          clear hnl
          go_wp2_with (fail)
          have zc : ∀ u, (w8.setCell ⟨w.heap.size + 1, 0, none⟩ u).cell? ⟨w.heap.size + 1, 0, none⟩ = some u := fun u => (HX8.out.set u).cells.1
          have kf : ∀ u, Keep [w.heap.size + 1] w8 (w8.setCell ⟨w.heap.size + 1, 0, none⟩ u) := fun u => (Keep.refl _ w8).setCell _ _ _ (.inl (by simp))
          obtain ⟨rfl, rfl⟩ : (0 : Int) = r1 ∧ insL ⟨k, s, ⟨m1, m2, m3, m4, m5, m6, m7, m8⟩⟩ L = r2 := by have h3 := HR2.out; simp only [Prod.mk.injEq] at h3; exact h3
          exact bodyPost_ret (v := .tuple #[.agg #[.slice av' nl cv'], .int .i64 0]) (by simp [results, Try.results37, go_sem, zc]) rfl ⟨_, rfl, by unfold DocRow; rw [HNL.out]; exact own_keep HRW.out (kf _) (fun g hg => by have := HRL.out g hg; have := HZ7.out; have := HSZ.out; simp; omega), HB8.out.trans ((kf _).below HB8.out.size (by simp))⟩
      | true =>
        have hixl := HIO.out rfl
        obtain ⟨y, hy⟩ : ∃ y, L[ix]? = some y := ⟨L[ix], List.getElem?_eq_getElem hixl⟩
        have hyw := (HOK.out y (List.mem_of_getElem? hy)).2
        have hya := HLK.out.2.1 y rfl hy
        have HR2 : Hid ((0, insL ⟨k, s, y.ag.put n⟩ L) = (r1, r2)) := Lib.hid (by rw [if_neg (fun h => by cases h.1)] at hr; have h3 : lkL ⟨s, k⟩ L = some y.ag := hya; rw [h3] at hr; exact hr)
        obtain ⟨q, off, rfl, hq, hat⟩ := HD4.out.row (by intro e; rw [e] at hixl; simp at hixl)
        have hx0 := hat ix y hy
        obtain ⟨yk, ys, ⟨y1, y2, y3, y4, y5, y6, y7, y8⟩⟩ := y
        simp only at hyw HR2
        obtain ⟨d0, d1, d2, d3, d4, d5, d6, d7, d8, d9⟩ := hx0
        simp only at d0 d1 d2 d3 d4 d5 d6 d7 d8 d9
        have h0i : (0 : Int) ≤ (ix : Int) := Int.natCast_nonneg ix
        have hin : (ix : Int) < (L.length : Int) := by omega
        clear hat hy hya hr
        obtain ⟨W5, hW5⟩ : ∃ W, setOg w4 W1.heap.size ⟨y1, y2, y3, y4, y5, y6, y7, y8⟩ = W := ⟨_, rfl⟩
        have kg : Keep [W1.heap.size] w4 W5 := hW5 ▸ setOg_keep _ _ _
        have HO5 : Hid (OtAt W5 W1.heap.size ⟨k, s, ⟨y1, y2, y3, y4, y5, y6, y7, y8⟩⟩) := Lib.hid (hW5 ▸ setOg_at HO4.out _)
        have HS5 := Lib.hid (HS4.out.keep kg (by have := HSZ.out; simp; omega))
        have HX5 := Lib.hid (HX4.out.keep kg (by have := HSZ.out; simp; omega))
        have HD5 := Lib.hid (own_keep HD4.out kg (fun g hg => by have := own_lt HD0.out g hg; have := HSZ.out; simp; omega))
        have HB5 := Lib.hid (HB4.out.trans (kg.below HB4.out.size (by have := HSZ.out; simp; omega)))
        have HZ5 := Lib.hid (Nat.le_trans HZ4.out kg.size)
        obtain ⟨a0, a1, a2, a3, a4, a5, a6, a7, a8, a9, af⟩ := HO4.out.all
        obtain ⟨b0, b1, b2, b3, b4, b5, b6, b7, b8, b9, bf⟩ := HO5.out.all
        obtain ⟨s0, sf⟩ := HS5.out.cells
        obtain ⟨t0, tf⟩ := HS4.out.cells
        simp only at a0 a1 a2 a3 a4 a5 a6 a7 a8 a9
        simp only at b0 b1 b2 b3 b4 b5 b6 b7 b8 b9
        simp only [setOg] at hW5
        clear kg
        have hput := fun W => rfput_any ⟨y1, y2, y3, y4, y5, y6, y7, y8⟩ n hyw HN.out W
        obtain ⟨⟨m1, m2, m3, m4, m5, m6, m7, m8⟩, hm⟩ : ∃ m, Ag.put ⟨y1, y2, y3, y4, y5, y6, y7, y8⟩ n = m := ⟨_, rfl⟩
        rw [hm] at hput HR2
        simp only [Ag.val] at hput
        have HPUT := Lib.hid hput
        clear hput hm
        go_wp2_with (fail)
        clear hW5
        refine (HPUT.out _).mono ?_
        rintro e w6 ⟨rfl, hB6⟩
        clear a0 a1 a2 a3 a4 a5 a6 a7 a8 a9 af s0 sf x0 xf b0 b1 b2 b3 b4 b5 b6 b7 b8 b9 bf t0 tf d0 d1 d2 d3 d4 d5 d6 d7 d8 d9
        have HS6 := Lib.hid (HS5.out.keep (Keep.of_below hB6 []))
        have HX6 := Lib.hid (HX5.out.keep (Keep.of_below hB6 []))
        have HO6 := Lib.hid (HO5.out.keep (Keep.of_below hB6 []))
        have HD6 := Lib.hid (DocRow.keep HD5.out (Keep.of_below hB6 []) (by simp))
        have HB6 := Lib.hid (HB5.out.trans (hB6.mono HB5.out.size))
        have HZ6 := Lib.hid (Nat.le_trans HZ5.out hB6.size)
        clear hB6 HS5 HX5 HO5 HD5 HB5 HZ5
        obtain ⟨W7, hW7⟩ : ∃ W, setOg w6 W1.heap.size ⟨m1, m2, m3, m4, m5, m6, m7, m8⟩ = W := ⟨_, rfl⟩
        have kg : Keep [W1.heap.size] w6 W7 := hW7 ▸ setOg_keep _ _ _
        have HO7 : Hid (OtAt W7 W1.heap.size ⟨k, s, ⟨m1, m2, m3, m4, m5, m6, m7, m8⟩⟩) := Lib.hid (hW7 ▸ setOg_at HO6.out _)
        have HS7 := Lib.hid (HS6.out.keep kg (by have := HSZ.out; simp; omega))
        have HX7 := Lib.hid (HX6.out.keep kg (by have := HSZ.out; simp; omega))
        have HD7 := Lib.hid (own_keep HD6.out kg (fun g hg => by have := own_lt HD0.out g hg; have := HSZ.out; simp; omega))
        have HB7 := Lib.hid (HB6.out.trans (kg.below HB6.out.size (by have := HSZ.out; simp; omega)))
        have HZ7 := Lib.hid (Nat.le_trans HZ6.out kg.size)
        obtain ⟨a0, a1, a2, a3, a4, a5, a6, a7, a8, a9, af⟩ := HO6.out.all
        obtain ⟨b0, b1, b2, b3, b4, b5, b6, b7, b8, b9, bf⟩ := HO7.out.all
        obtain ⟨s0, sf⟩ := HS7.out.cells
        obtain ⟨t0, tf⟩ := HS6.out.cells
        simp only at a0 a1 a2 a3 a4 a5 a6 a7 a8 a9
        simp only at b0 b1 b2 b3 b4 b5 b6 b7 b8 b9
        simp only [setOg] at hW7
        clear kg
        go_wp2_with (fail)
        clear hW7 a0 a1 a2 a3 a4 a5 a6 a7 a8 a9 af s0 sf b0 b1 b2 b3 b4 b5 b6 b7 b8 b9 bf t0 tf
        have hwith := with_any HD7.out (by have := HZ7.out; omega) (by omega) ⟨k, s, ⟨m1, m2, m3, m4, m5, m6, m7, m8⟩⟩ ix true hle (fun h => (HIO.out (by trivial)))
        rw [HIN.out] at hwith
        simp only [Ot.enc] at hwith
        refine hwith.mono ?_
        rintro e w8 ⟨v', rfl, hrow, hB8⟩
        clear hwith
        obtain ⟨av', cv', rfl, _⟩ := own_shape hrow
        have HX8 := Lib.hid (HX7.out.keep (Keep.of_below hB8 []))
        have HRW := Lib.hid (own_mono (base' := base) hrow (by have := HZ7.out; omega))
        have HRL := Lib.hid (own_base hrow)
        have HB8 := Lib.hid (HB7.out.trans (hB8.mono HB7.out.size))
        clear hrow hB8 HS7 HX7 HO7 HD7 HB7
        obtain ⟨x0, xf⟩ := HX8.out.cells
        obtain ⟨nl, hnl⟩ : ∃ n, (insL ⟨k, s, ⟨m1, m2, m3, m4, m5, m6, m7, m8⟩⟩ L).length = n := ⟨_, rfl⟩
        rw [hnl] at HRW HRL ⊢
        have HNL := Lib.hid hnl
        clear hnl
        go_wp2_with (fail)
        have zc : ∀ u, (w8.setCell ⟨w.heap.size + 1, 0, none⟩ u).cell? ⟨w.heap.size + 1, 0, none⟩ = some u := fun u => (HX8.out.set u).cells.1
        have kf : ∀ u, Keep [w.heap.size + 1] w8 (w8.setCell ⟨w.heap.size + 1, 0, none⟩ u) := fun u => (Keep.refl _ w8).setCell _ _ _ (.inl (by simp))
        obtain ⟨rfl, rfl⟩ : (0 : Int) = r1 ∧ insL ⟨k, s, ⟨m1, m2, m3, m4, m5, m6, m7, m8⟩⟩ L = r2 := by have h3 := HR2.out; simp only [Prod.mk.injEq] at h3; exact h3
        exact bodyPost_ret (v := .tuple #[.agg #[.slice av' nl cv'], .int .i64 0]) (by simp [results, Try.results37, go_sem, zc]) rfl ⟨_, rfl, by unfold DocRow; rw [HNL.out]; exact own_keep HRW.out (kf _) (fun g hg => by have := HRL.out g hg; have := HZ7.out; have := HSZ.out; simp; omega), HB8.out.trans ((kf _).below HB8.out.size (by simp))⟩
end Go.Proofs.Ytmhbibcfbencnaa
