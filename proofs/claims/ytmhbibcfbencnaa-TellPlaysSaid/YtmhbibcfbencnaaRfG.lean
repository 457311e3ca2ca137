/- The document's store: Set, Get. -/
import Derived.Test.YtmhbibcfbencnaaRfF
namespace Go.Proofs.Ytmhbibcfbencnaa
open Go.RowKit Go.Lib
set_option linter.unusedSimpArgs false
set_option linter.unusedVariables false
set_option maxRecDepth 100000 in
set_option maxHeartbeats 8000000 in
theorem rdset_any {w : World} {base : Nat} {v : Value} {L : List Ot} (h : DocRow base w v L) (hb : base ≤ w.heap.size) (hL : L.length ≤ 32) (hu : L.Pairwise ltO) (hok : ∀ y ∈ L, OkW y) (o : Ot) (ho : o.Wf) :
    Calls Try.prog 39 #[.agg #[v], .agg o.enc.toArray] w (Doc2 base w (setL L o)) := by
  obtain ⟨⟨r1, r2⟩, hr⟩ : ∃ r, setL L o = r := ⟨_, rfl⟩
  rw [hr]
  unfold setL at hr
  have hkey := fun W => rkey_any o.key W ho.key
  have hend := fun W => rend_any o.st W
  have hrgt := fun W => rfright_any o.ag ho.ag W
  have hfi := fun (W : World) (av : Option Addr) (cv : Nat) (hW : OtsRow W av L) => find_any cv hW (by omega) (fun y hy => okW_key (hok y hy)) o ho.key
  have hlk := find_lk (o := o) hu
  have hle := idx_le o L
  have hwith := fun (W : World) (base : Nat) (v : Value) (h : DocRow base W v L) (hb : base ≤ W.heap.size) => with_any h hb (by omega) o (idxL o L) false hle (fun h => by cases h)
  have hin := insL_with (o := o) hu
  obtain ⟨kb, hkb⟩ : ∃ x, keyB o.key = x := ⟨_, rfl⟩
  obtain ⟨eb, heb⟩ : ∃ x, endI o.st = x := ⟨_, rfl⟩
  obtain ⟨rb, hrb⟩ : ∃ x, rightA o.ag = x := ⟨_, rfl⟩
  obtain ⟨ix, hix⟩ : ∃ n, idxL o L = n := ⟨_, rfl⟩
  obtain ⟨op, hop⟩ : ∃ n, openL o L = n := ⟨_, rfl⟩
  unfold okO at hr
  rw [hkb, heb, hrb] at hr
  rw [hix, hop] at hfi hlk hin
  rw [hix] at hle hwith
  rw [← hlk.1] at hr
  rw [hkb] at hkey
  rw [heb] at hend
  rw [hrb] at hrgt
  obtain ⟨ok, os, ⟨o1, o2, o3, o4, o5, o6, o7, o8⟩⟩ := o
  simp only [Ot.enc, Ag.val] at hkey hend hrgt hfi hr hwith ⊢
  have HK := Lib.hid hkey
  have HE := Lib.hid hend
  have HG := Lib.hid hrgt
  have HFI := Lib.hid hfi
  have HWI := Lib.hid hwith
  have HIN := Lib.hid hin
  clear hkey hend hrgt hfi hlk hkb heb hrb hix hop hwith hin
  obtain ⟨av, cv, rfl, _⟩ := own_shape h
  have hz := Int.natCast_nonneg L.length
  have hz32 : (L.length : Int) ≤ 32 := by omega
  obtain ⟨W1, hW1⟩ : ∃ W1, ((w.alloc (.cells #[.slice av L.length cv] 64)).alloc (.cells #[.string ok, .int .i64 os, .int .i64 o1, .int .i64 o2, .int .i64 o3, .int .i64 o4, .int .i64 o5, .int .i64 o6, .int .i64 o7, .int .i64 o8] 33)).alloc (.cells #[.slice none 0 0] 64) = W1 := ⟨_, rfl⟩
  have hB : Below w.heap.size w W1 := hW1 ▸ (((Below.refl _ w).alloc (Nat.le_refl _) _).alloc (by simp) _).alloc (by simp; omega) _
  have hs : SxAt W1 w.heap.size (.slice av L.length cv) := hW1 ▸ (((SxAt.new w _).keep ((Keep.refl [] _).alloc _)).keep ((Keep.refl [] _).alloc _))
  have hxo : OtAt W1 (w.heap.size + 1) ⟨ok, os, ⟨o1, o2, o3, o4, o5, o6, o7, o8⟩⟩ := by
    have := OtAt.new (w.alloc (.cells #[.slice av L.length cv] 64)) ⟨ok, os, ⟨o1, o2, o3, o4, o5, o6, o7, o8⟩⟩
    rw [World.size_alloc] at this
    exact hW1 ▸ (this.keep ((Keep.refl [] _).alloc _))
  have hx : SxAt W1 (w.heap.size + 1 + 1) (.slice none 0 0) := by
    have := SxAt.new ((w.alloc (.cells #[.slice av L.length cv] 64)).alloc (.cells #[.string ok, .int .i64 os, .int .i64 o1, .int .i64 o2, .int .i64 o3, .int .i64 o4, .int .i64 o5, .int .i64 o6, .int .i64 o7, .int .i64 o8] 33)) (.slice none 0 0)
    rw [World.size_alloc, World.size_alloc] at this
    exact hW1 ▸ this
  have HS := Lib.hid hs
  have HX := Lib.hid hx
  have HO := Lib.hid hxo
  have HB := Lib.hid hB
  have HD0 := Lib.hid h
  have HD := Lib.hid (DocRow.keep h (Keep.of_below hB []) (by simp))
  have HSZ := Lib.hid (show w.heap.size + 3 ≤ W1.heap.size from by rw [← hW1]; simp)
  obtain ⟨s0, sf⟩ := hs.cells
  obtain ⟨x0, xf⟩ := hx.cells
  obtain ⟨a0, a1, a2, a3, a4, a5, a6, a7, a8, a9, af⟩ := hxo.all
  simp only at a0 a1 a2 a3 a4 a5 a6 a7 a8 a9
  clear hs hx hxo hB h hu hok ho
  cases kb with
  | false =>
    obtain ⟨rfl, rfl⟩ : r1 = 1 ∧ L = r2 := by rw [if_pos (by simp)] at hr; cases hr; exact ⟨rfl, rfl⟩
    go_enter Try.func39, Try.ntmps39
    go_wp2_with (fail)
    refine ((HK.out _)).mono ?_
    rintro e w3 ⟨rfl, rfl⟩
    go_wp2_with (fail)
    have zc : ∀ u, (W1.setCell ⟨w.heap.size + 1 + 1, 0, none⟩ u).cell? ⟨w.heap.size + 1 + 1, 0, none⟩ = some u := fun u => (HX.out.set u).cells.1
    have kf : ∀ u, Keep [w.heap.size + 1 + 1] W1 (W1.setCell ⟨w.heap.size + 1 + 1, 0, none⟩ u) := fun u => (Keep.refl _ W1).setCell _ _ _ (.inl (by simp))
    exact bodyPost_ret (v := .tuple #[.agg #[.slice av L.length cv], .int .i64 1]) (by simp [results, Try.results39, go_sem, zc]) rfl ⟨_, rfl, own_keep HD.out (kf _) (fun g hg => by have := own_lt HD0.out g hg; simp; omega), HB.out.trans ((kf _).below HB.out.size (by simp; omega))⟩
  | true =>
  by_cases hen : eb < 0
  · obtain ⟨rfl, rfl⟩ : r1 = 1 ∧ L = r2 := by rw [if_pos (by simp; intro; omega)] at hr; cases hr; exact ⟨rfl, rfl⟩
    go_enter Try.func39, Try.ntmps39
    go_wp2_with (fail)
    refine ((HK.out _)).mono ?_
    rintro e w3 ⟨rfl, rfl⟩
    go_wp2_with (fail)
    refine ((HE.out _)).mono ?_
    rintro e w3 ⟨rfl, rfl⟩
    go_wp2_with (fail)
    have zc : ∀ u, (W1.setCell ⟨w.heap.size + 1 + 1, 0, none⟩ u).cell? ⟨w.heap.size + 1 + 1, 0, none⟩ = some u := fun u => (HX.out.set u).cells.1
    have kf : ∀ u, Keep [w.heap.size + 1 + 1] W1 (W1.setCell ⟨w.heap.size + 1 + 1, 0, none⟩ u) := fun u => (Keep.refl _ W1).setCell _ _ _ (.inl (by simp))
    exact bodyPost_ret (v := .tuple #[.agg #[.slice av L.length cv], .int .i64 1]) (by simp [results, Try.results39, go_sem, zc]) rfl ⟨_, rfl, own_keep HD.out (kf _) (fun g hg => by have := own_lt HD0.out g hg; simp; omega), HB.out.trans ((kf _).below HB.out.size (by simp; omega))⟩
  cases rb with
  | false =>
    obtain ⟨rfl, rfl⟩ : r1 = 1 ∧ L = r2 := by rw [if_pos (by simp)] at hr; cases hr; exact ⟨rfl, rfl⟩
    go_enter Try.func39, Try.ntmps39
    go_wp2_with (fail)
    refine ((HK.out _)).mono ?_
    rintro e w3 ⟨rfl, rfl⟩
    go_wp2_with (fail)
    refine ((HE.out _)).mono ?_
    rintro e w3 ⟨rfl, rfl⟩
    go_wp2_with (fail)
    refine ((HG.out _)).mono ?_
    rintro e w3 ⟨rfl, hB3⟩
    have HX3 := Lib.hid (HX.out.keep (Keep.of_below hB3 []))
    have HS3 := Lib.hid (HS.out.keep (Keep.of_below hB3 []))
    have HO3 := Lib.hid (HO.out.keep (Keep.of_below hB3 []))
    have HD3 := Lib.hid (DocRow.keep HD.out (Keep.of_below hB3 []) (by simp))
    have HB3 := Lib.hid (HB.out.trans (hB3.mono HB.out.size))
    have hz13 := hB3.size
    clear hB3 s0 sf x0 xf a0 a1 a2 a3 a4 a5 a6 a7 a8 a9 af hW1
    obtain ⟨s0, sf⟩ := HS3.out.cells
    obtain ⟨x0, xf⟩ := HX3.out.cells
    obtain ⟨a0, a1, a2, a3, a4, a5, a6, a7, a8, a9, af⟩ := HO3.out.all
    simp only at a0 a1 a2 a3 a4 a5 a6 a7 a8 a9
    go_wp2_with (fail)
    have zc : ∀ u, (w3.setCell ⟨w.heap.size + 1 + 1, 0, none⟩ u).cell? ⟨w.heap.size + 1 + 1, 0, none⟩ = some u := fun u => (HX3.out.set u).cells.1
    have kf : ∀ u, Keep [w.heap.size + 1 + 1] w3 (w3.setCell ⟨w.heap.size + 1 + 1, 0, none⟩ u) := fun u => (Keep.refl _ w3).setCell _ _ _ (.inl (by simp))
    exact bodyPost_ret (v := .tuple #[.agg #[.slice av L.length cv], .int .i64 1]) (by simp [results, Try.results39, go_sem, zc]) rfl ⟨_, rfl, own_keep HD3.out (kf _) (fun g hg => by have := own_lt HD0.out g hg; simp; omega), HB3.out.trans ((kf _).below HB3.out.size (by simp; omega))⟩
  | true =>
  by_cases hc : o1 = 0
  · have hcb : (o1 == 0) = true := by simp [hc]
    obtain ⟨rfl, rfl⟩ : r1 = 1 ∧ L = r2 := by rw [if_pos (by simp [hc])] at hr; cases hr; exact ⟨rfl, rfl⟩
    clear hc
    go_enter Try.func39, Try.ntmps39
    go_wp2_with (fail)
    refine ((HK.out _)).mono ?_
    rintro e w3 ⟨rfl, rfl⟩
    go_wp2_with (fail)
    refine ((HE.out _)).mono ?_
    rintro e w3 ⟨rfl, rfl⟩
    go_wp2_with (fail)
    refine ((HG.out _)).mono ?_
    rintro e w3 ⟨rfl, hB3⟩
    have HX3 := Lib.hid (HX.out.keep (Keep.of_below hB3 []))
    have HS3 := Lib.hid (HS.out.keep (Keep.of_below hB3 []))
    have HO3 := Lib.hid (HO.out.keep (Keep.of_below hB3 []))
    have HD3 := Lib.hid (DocRow.keep HD.out (Keep.of_below hB3 []) (by simp))
    have HB3 := Lib.hid (HB.out.trans (hB3.mono HB.out.size))
    have hz13 := hB3.size
    clear hB3 s0 sf x0 xf a0 a1 a2 a3 a4 a5 a6 a7 a8 a9 af hW1
    obtain ⟨s0, sf⟩ := HS3.out.cells
    obtain ⟨x0, xf⟩ := HX3.out.cells
    obtain ⟨a0, a1, a2, a3, a4, a5, a6, a7, a8, a9, af⟩ := HO3.out.all
    simp only at a0 a1 a2 a3 a4 a5 a6 a7 a8 a9
    go_wp2_with (fail)
    have zc : ∀ u, (w3.setCell ⟨w.heap.size + 1 + 1, 0, none⟩ u).cell? ⟨w.heap.size + 1 + 1, 0, none⟩ = some u := fun u => (HX3.out.set u).cells.1
    have kf : ∀ u, Keep [w.heap.size + 1 + 1] w3 (w3.setCell ⟨w.heap.size + 1 + 1, 0, none⟩ u) := fun u => (Keep.refl _ w3).setCell _ _ _ (.inl (by simp))
    exact bodyPost_ret (v := .tuple #[.agg #[.slice av L.length cv], .int .i64 1]) (by simp [results, Try.results39, go_sem, zc]) rfl ⟨_, rfl, own_keep HD3.out (kf _) (fun g hg => by have := own_lt HD0.out g hg; simp; omega), HB3.out.trans ((kf _).below HB3.out.size (by simp; omega))⟩
  have hcb : (o1 == 0) = false := by simp [hc]
  rw [if_neg (by simp [hc]; omega)] at hr
  clear hc
  go_enter Try.func39, Try.ntmps39
  go_wp2_with (fail)
  refine ((HK.out _)).mono ?_
  rintro e w3 ⟨rfl, rfl⟩
  go_wp2_with (fail)
  refine ((HE.out _)).mono ?_
  rintro e w3 ⟨rfl, rfl⟩
  go_wp2_with (fail)
  refine ((HG.out _)).mono ?_
  rintro e w3 ⟨rfl, hB3⟩
  have HX3 := Lib.hid (HX.out.keep (Keep.of_below hB3 []))
  have HS3 := Lib.hid (HS.out.keep (Keep.of_below hB3 []))
  have HO3 := Lib.hid (HO.out.keep (Keep.of_below hB3 []))
  have HD3 := Lib.hid (DocRow.keep HD.out (Keep.of_below hB3 []) (by simp))
  have HB3 := Lib.hid (HB.out.trans (hB3.mono HB.out.size))
  have hz13 := hB3.size
  clear hB3 s0 sf x0 xf a0 a1 a2 a3 a4 a5 a6 a7 a8 a9 af hW1
  obtain ⟨s0, sf⟩ := HS3.out.cells
  obtain ⟨x0, xf⟩ := HX3.out.cells
  obtain ⟨a0, a1, a2, a3, a4, a5, a6, a7, a8, a9, af⟩ := HO3.out.all
  simp only at a0 a1 a2 a3 a4 a5 a6 a7 a8 a9
  go_wp2_with (fail)
  refine (HFI.out _ _ cv HD3.out.row).mono ?_
  rintro e w4 ⟨rfl, hB4⟩
  have HX4 := Lib.hid (HX3.out.keep (Keep.of_below hB4 []))
  have HS4 := Lib.hid (HS3.out.keep (Keep.of_below hB4 []))
  have HO4 := Lib.hid (HO3.out.keep (Keep.of_below hB4 []))
  have HD4 := Lib.hid (DocRow.keep HD3.out (Keep.of_below hB4 []) (by simp))
  have HB4 := Lib.hid (HB3.out.trans (hB4.mono HB3.out.size))
  have hz14 := Nat.le_trans hz13 hB4.size
  clear hB4 s0 sf x0 xf a0 a1 a2 a3 a4 a5 a6 a7 a8 a9 af
  obtain ⟨s0, sf⟩ := HS4.out.cells
  obtain ⟨x0, xf⟩ := HX4.out.cells
  obtain ⟨a0, a1, a2, a3, a4, a5, a6, a7, a8, a9, af⟩ := HO4.out.all
  simp only at a0 a1 a2 a3 a4 a5 a6 a7 a8 a9
  cases op with
  | true =>
    obtain ⟨rfl, rfl⟩ : r1 = 5 ∧ L = r2 := by rw [if_pos rfl] at hr; cases hr; exact ⟨rfl, rfl⟩
    go_wp2_with (fail)
    have zc : ∀ u, (w4.setCell ⟨w.heap.size + 1 + 1, 0, none⟩ u).cell? ⟨w.heap.size + 1 + 1, 0, none⟩ = some u := fun u => (HX4.out.set u).cells.1
    have kf : ∀ u, Keep [w.heap.size + 1 + 1] w4 (w4.setCell ⟨w.heap.size + 1 + 1, 0, none⟩ u) := fun u => (Keep.refl _ w4).setCell _ _ _ (.inl (by simp))
    exact bodyPost_ret (v := .tuple #[.agg #[.slice av L.length cv], .int .i64 5]) (by simp [results, Try.results39, go_sem, zc]) rfl ⟨_, rfl, own_keep HD4.out (kf _) (fun g hg => by have := own_lt HD0.out g hg; simp; omega), HB4.out.trans ((kf _).below HB4.out.size (by simp; omega))⟩
  | false =>
    rw [if_neg (by decide)] at hr
    by_cases h32 : 32 ≤ L.length
    · obtain ⟨rfl, rfl⟩ : r1 = 6 ∧ L = r2 := by rw [if_pos h32] at hr; cases hr; exact ⟨rfl, rfl⟩
      have h32' : (32 : Int) ≤ (L.length : Int) := by omega
      go_wp2_with (fail)
      have zc : ∀ u, (w4.setCell ⟨w.heap.size + 1 + 1, 0, none⟩ u).cell? ⟨w.heap.size + 1 + 1, 0, none⟩ = some u := fun u => (HX4.out.set u).cells.1
      have kf : ∀ u, Keep [w.heap.size + 1 + 1] w4 (w4.setCell ⟨w.heap.size + 1 + 1, 0, none⟩ u) := fun u => (Keep.refl _ w4).setCell _ _ _ (.inl (by simp))
      exact bodyPost_ret (v := .tuple #[.agg #[.slice av L.length cv], .int .i64 6]) (by simp [results, Try.results39, go_sem, zc]) rfl ⟨_, rfl, own_keep HD4.out (kf _) (fun g hg => by have := own_lt HD0.out g hg; simp; omega), HB4.out.trans ((kf _).below HB4.out.size (by simp; omega))⟩
    · have h32' : ¬ (32 : Int) ≤ (L.length : Int) := by omega
      rw [if_neg h32] at hr
      have HR2 := Lib.hid hr
      clear hr h32
      go_wp2_with (fail)
      have hw2 := HWI.out _ _ _ HD4.out (Nat.le_trans hb HB4.out.size)
      rw [HIN.out] at hw2
      refine hw2.mono ?_
      rintro e w8 ⟨v', rfl, hrow, hB8⟩
      clear hw2
      obtain ⟨av', cv', rfl, _⟩ := own_shape hrow
      have HX8 := Lib.hid (HX4.out.keep (Keep.of_below hB8 []))
      have HRW := Lib.hid (own_mono (base' := base) hrow (Nat.le_trans hb HB4.out.size))
      have HRL := Lib.hid (own_base hrow)
      have HZ4 := Lib.hid (show w.heap.size + 3 ≤ w4.heap.size from Nat.le_trans HSZ.out hz14)
      have HB8 := Lib.hid (HB4.out.trans (hB8.mono HB4.out.size))
      clear hrow hB8 s0 sf x0 xf a0 a1 a2 a3 a4 a5 a6 a7 a8 a9 af
      obtain ⟨x0, xf⟩ := HX8.out.cells
      obtain ⟨nl, hnl⟩ : ∃ n, (insL ⟨ok, os, ⟨o1, o2, o3, o4, o5, o6, o7, o8⟩⟩ L).length = n := ⟨_, rfl⟩
      rw [hnl] at HRW HRL ⊢
      have HNL := Lib.hid hnl
      clear hnl
      go_wp2_with (fail)
      have zc : ∀ u, (w8.setCell ⟨w.heap.size + 1 + 1, 0, none⟩ u).cell? ⟨w.heap.size + 1 + 1, 0, none⟩ = some u := fun u => (HX8.out.set u).cells.1
      have kf : ∀ u, Keep [w.heap.size + 1 + 1] w8 (w8.setCell ⟨w.heap.size + 1 + 1, 0, none⟩ u) := fun u => (Keep.refl _ w8).setCell _ _ _ (.inl (by simp))
      obtain ⟨rfl, rfl⟩ : (0 : Int) = r1 ∧ insL ⟨ok, os, ⟨o1, o2, o3, o4, o5, o6, o7, o8⟩⟩ L = r2 := by have h3 := HR2.out; simp only [Prod.mk.injEq] at h3; exact h3
      exact bodyPost_ret (v := .tuple #[.agg #[.slice av' nl cv'], .int .i64 0]) (by simp [results, Try.results39, go_sem, zc]) rfl ⟨_, rfl, by unfold DocRow; rw [HNL.out]; exact own_keep HRW.out (kf _) (fun g hg => by have := HRL.out g hg; have := HZ4.out; simp; omega), HB8.out.trans ((kf _).below HB8.out.size (by simp; omega))⟩
set_option maxRecDepth 100000 in
set_option maxHeartbeats 8000000 in
theorem rdget_any {w : World} {base : Nat} {v : Value} {L : List Ot} (h : DocRow base w v L) (hL : L.length ≤ 32) (hu : L.Pairwise ltO) (hok : ∀ y ∈ L, OkW y) (k : ByteArray) (hk : k.size ≤ maxLen) (s : Int) :
    Calls Try.prog 41 #[.agg #[v], .string k, .int .i64 s] w fun e w' => e = .returned (.tuple #[((lkL ⟨s, k⟩ L).getD Ag.zero).val, .bool (lkL ⟨s, k⟩ L).isSome]) ∧ Below w.heap.size w w' := by
  have hfi := fun (W : World) (av : Option Addr) (cv : Nat) (hW : OtsRow W av L) => find_any cv hW (by omega) (fun y hy => okW_key (hok y hy)) ⟨k, s, Ag.zero⟩ hk
  have hlk := find_lk (o := ⟨k, s, Ag.zero⟩) hu
  have hio := fun h => idx_open (o := ⟨k, s, Ag.zero⟩) (L := L) h
  obtain ⟨ix, hix⟩ : ∃ n, idxL ⟨k, s, Ag.zero⟩ L = n := ⟨_, rfl⟩
  obtain ⟨op, hop⟩ : ∃ n, openL ⟨k, s, Ag.zero⟩ L = n := ⟨_, rfl⟩
  rw [hix, hop] at hfi hlk
  rw [hop, hix] at hio
  simp only [Ot.enc, Ag.zero] at hfi
  change op = (lkL ⟨s, k⟩ L).isSome ∧ (∀ y, op = true → L[ix]? = some y → lkL ⟨s, k⟩ L = some y.ag) ∧ _ at hlk
  have HFI := Lib.hid hfi
  have HL2 := Lib.hid hlk.2.1
  obtain ⟨lk, hll⟩ : ∃ x, lkL ⟨s, k⟩ L = x := ⟨_, rfl⟩
  have hls := hlk.1
  rw [hll] at HL2 hls ⊢
  clear hfi hlk hix hop hll
  obtain ⟨av, cv, rfl, _⟩ := own_shape h
  have hz := Int.natCast_nonneg L.length
  have hz32 : (L.length : Int) ≤ 32 := by omega
  obtain ⟨W1, hW1⟩ : ∃ W1, (w.alloc (.cells #[.slice av L.length cv] 64)).alloc (.cells #[.int .i64 0, .int .i64 0, .int .i64 0, .int .i64 0, .int .i64 0, .int .i64 0, .int .i64 0, .int .i64 0] 31) = W1 := ⟨_, rfl⟩
  have hB : Below w.heap.size w W1 := hW1 ▸ ((Below.refl _ w).alloc (Nat.le_refl _) _).alloc (by simp) _
  have hs : SxAt W1 w.heap.size (.slice av L.length cv) := hW1 ▸ ((SxAt.new w _).keep ((Keep.refl [] _).alloc _))
  have hx : Bx W1 (w.heap.size + 1) 0 0 0 0 0 0 0 0 := by
    have := Bx.new (w.alloc (.cells #[.slice av L.length cv] 64)) 0 0 0 0 0 0 0 0
    rw [World.size_alloc] at this
    exact hW1 ▸ this
  have HS := Lib.hid hs
  have HX := Lib.hid hx
  have HB := Lib.hid hB
  have HD := Lib.hid (DocRow.keep h (Keep.of_below hB []) (by simp))
  obtain ⟨s0, sf⟩ := hs.cells
  clear hs hx hB h hu hok hk
  cases op with
  | false =>
    cases lk with
    | some a => cases hls
    | none =>
      clear hls hio HL2
      go_enter Try.func41, Try.ntmps41
      go_wp2_with (fail)
      refine (HFI.out _ _ cv HD.out.row).mono ?_
      rintro e w4 ⟨rfl, hB4⟩
      have HX4 := Lib.hid (HX.out.keep (Keep.of_below hB4 []))
      have HS4 := Lib.hid (HS.out.keep (Keep.of_below hB4 []))
      have HD4 := Lib.hid (DocRow.keep HD.out (Keep.of_below hB4 []) (by simp))
      have HB4 := Lib.hid (HB.out.trans (hB4.mono HB.out.size))
      clear hB4 s0 sf hW1 HX HS HD HB HFI
      obtain ⟨s0, sf⟩ := HS4.out.cells
      obtain ⟨p0, p1, p2, p3, p4, p5, p6, p7, p8, pf⟩ := HX4.out.facts
      go_wp2_with (fail)
      have hq := setAg_bx HX4.out Ag.zero
      obtain ⟨q0, q1, q2, q3, q4, q5, q6, q7, q8, qf⟩ := hq.facts
      unfold setAg at q0 q1 q2 q3 q4 q5 q6 q7
      have hkg := setAg_keep w4 (w.heap.size + 1) Ag.zero
      unfold setAg at hkg
      have hbl := HB4.out.trans (hkg.below HB4.out.size (by simp))
      simp only [Ag.zero] at q0 q1 q2 q3 q4 q5 q6 q7 hbl
      clear hkg hq
      exact bodyPost_ret (v := .tuple #[Ag.val Ag.zero, .bool false]) (by simp [results, Try.results41, go_sem, q0, q1, q2, q3, q4, q5, q6, q7, Ag.val, Ag.zero]) rfl ⟨rfl, hbl⟩
  | true =>
    have hixl := hio rfl
    obtain ⟨y, hy⟩ : ∃ y, L[ix]? = some y := ⟨L[ix], List.getElem?_eq_getElem hixl⟩
    obtain rfl := HL2.out y rfl hy
    obtain ⟨yk, ys, ⟨y1, y2, y3, y4, y5, y6, y7, y8⟩⟩ := y
    have HYY := Lib.hid hy
    have h0i : (0 : Int) ≤ (ix : Int) := Int.natCast_nonneg ix
    have hin : (ix : Int) < (L.length : Int) := by omega
    clear hy hls hio HL2
    go_enter Try.func41, Try.ntmps41
    go_wp2_with (fail)
    refine (HFI.out _ _ cv HD.out.row).mono ?_
    rintro e w4 ⟨rfl, hB4⟩
    have HX4 := Lib.hid (HX.out.keep (Keep.of_below hB4 []))
    have HS4 := Lib.hid (HS.out.keep (Keep.of_below hB4 []))
    have HD4 := Lib.hid (DocRow.keep HD.out (Keep.of_below hB4 []) (by simp))
    have HB4 := Lib.hid (HB.out.trans (hB4.mono HB.out.size))
    clear hB4 s0 sf hW1 HX HS HD HB HFI
    obtain ⟨s0, sf⟩ := HS4.out.cells
    obtain ⟨p0, p1, p2, p3, p4, p5, p6, p7, p8, pf⟩ := HX4.out.facts
    obtain ⟨q, off, rfl, hq, hat⟩ := HD4.out.row (by intro e; rw [e] at hixl; simp at hixl)
    have hx0 := hat ix _ HYY.out
    obtain ⟨d0, d1, d2, d3, d4, d5, d6, d7, d8, d9⟩ := hx0
    simp only at d0 d1 d2 d3 d4 d5 d6 d7 d8 d9
    clear hat
    go_wp2_with (fail)
    have hq := setAg_bx HX4.out ⟨y1, y2, y3, y4, y5, y6, y7, y8⟩
    obtain ⟨q0, q1, q2, q3, q4, q5, q6, q7, q8, qf⟩ := hq.facts
    unfold setAg at q0 q1 q2 q3 q4 q5 q6 q7
    have hkg := setAg_keep w4 (w.heap.size + 1) ⟨y1, y2, y3, y4, y5, y6, y7, y8⟩
    unfold setAg at hkg
    have hbl := HB4.out.trans (hkg.below HB4.out.size (by simp))
    simp only at q0 q1 q2 q3 q4 q5 q6 q7 hbl
    clear hkg hq
    exact bodyPost_ret (v := .tuple #[Ag.val ⟨y1, y2, y3, y4, y5, y6, y7, y8⟩, .bool true]) (by simp [results, Try.results41, go_sem, q0, q1, q2, q3, q4, q5, q6, q7, Ag.val]) rfl ⟨rfl, hbl⟩
end Go.Proofs.Ytmhbibcfbencnaa
