/- The document's line: Put, Mark. -/
import Derived.Test.YtmhbibcfbencnaaRfG
import Derived.Test.YtmhbibcfbencnaaRfH
import Derived.Test.YtmhbibcfbencnaaTeE
namespace Go.Proofs.Ytmhbibcfbencnaa
open Go.RowKit Go.Lib
set_option linter.unusedSimpArgs false
set_option linter.unusedVariables false
/-- A block that holds a line of the document's. -/
def LxAt (W : World) (g : Nat) (mk : Int) (v : Value) : Prop := W.heap[g]? = some (.cells #[.int .i64 mk, v] 82 (0, 0))
theorem LxAt.cells {W : World} {g : Nat} {mk : Int} {v : Value} (h : LxAt W g mk v) : W.cell? ⟨g, 0, none⟩ = some (.int .i64 mk) ∧ W.cell? ⟨g, 1, none⟩ = some v ∧ (∀ o, W.frozen? ⟨g, o, none⟩ = false) := by
  unfold LxAt at h
  refine ⟨?_, ?_, fun o => ?_⟩
  all_goals first | (unfold World.cell?; rw [h]; rfl) | (unfold World.frozen?; rw [h]; simp)
theorem LxAt.keep {X : List Nat} {W W' : World} {g : Nat} {mk : Int} {v : Value} (h : LxAt W g mk v) (hk : Keep X W W') (hx : g ∉ X := by simp) : LxAt W' g mk v := (hk.block g (lt_of_heap h) hx).trans h
theorem LxAt.new (W : World) (mk : Int) (v : Value) : LxAt (W.alloc (.cells #[.int .i64 mk, v] 82)) W.heap.size mk v := World.alloc_heap_new W _
theorem LxAt.lt {W : World} {g : Nat} {mk : Int} {v : Value} (h : LxAt W g mk v) : g < W.heap.size := lt_of_heap h
theorem LxAt.set0 {W : World} {g : Nat} {mk : Int} {v : Value} (h : LxAt W g mk v) (m : Int) : LxAt (W.setCell ⟨g, 0, none⟩ (.int .i64 m)) g m v := by
  unfold LxAt at *
  simp [World.setCell, Array.getElem?_modify, h]
theorem LxAt.set1 {W : World} {g : Nat} {mk : Int} {v : Value} (h : LxAt W g mk v) (u : Value) : LxAt (W.setCell ⟨g, 1, none⟩ u) g mk u := by
  unfold LxAt at *
  simp [World.setCell, Array.getElem?_modify, h]
def setLx (W : World) (g : Nat) (m : Int) (u : Value) : World := (W.setCell ⟨g, 0, none⟩ (.int .i64 m)).setCell ⟨g, 1, none⟩ u
theorem setLx_at {W : World} {g : Nat} {mk : Int} {v : Value} (h : LxAt W g mk v) (m : Int) (u : Value) : LxAt (setLx W g m u) g m u := (h.set0 m).set1 u
theorem setLx_keep (W : World) (g : Nat) (m : Int) (u : Value) : Keep [g] W (setLx W g m u) := ((Keep.refl _ W).setCell _ _ _ (.inl (List.mem_singleton.2 rfl))).setCell _ _ _ (.inl (List.mem_singleton.2 rfl))
/-- What Put answers. -/
def Ln2 (base : Nat) (w : World) (mk : Int) (r : Int × List Ot) (e : Ending) (w' : World) : Prop := ∃ v', e = .returned (.tuple #[.agg #[.int .i64 mk, v'], .int .i64 r.1]) ∧ DocRow base w' v' r.2 ∧ Below w.heap.size w w'
/-- What Mark answers. -/
def Ln3 (base : Nat) (w : World) (r : Int × List Ot × Int × List Ot) (e : Ending) (w' : World) : Prop := ∃ v' vo, e = .returned (.tuple #[.agg #[.int .i64 r.2.2.1, v'], .int .i64 r.1, vo]) ∧ DocRow base w' v' r.2.2.2 ∧ DocRow w.heap.size w' vo r.2.1 ∧ Below w.heap.size w w'
theorem own_ne {W : World} {base g0 : Nat} {mk : Int} {v u : Value} {M : List Ot} (h : DocRow base W v M) (hl : LxAt W g0 mk u) : ∀ g, v.ownBlock = some g → g ≠ g0 := by
  rintro g hg rfl
  rcases h.2 with ⟨hv, _⟩ | ⟨g', cap, cur, hv, hb, hg', r⟩
  · rw [hv] at hg; cases hg
  · rw [hv] at hg
    obtain rfl : g' = g := by simpa [Value.ownBlock] using hg
    unfold LxAt at hl
    rw [hg'] at hl
    simp at hl
theorem own_ne2 {W : World} {base g0 : Nat} {mk : Int} {v u : Value} {M : List Ot} (h : DocRow base W v M) (hl : LxAt W g0 mk u) : ∀ g, v.ownBlock = some g → g ≠ g0 := own_ne h hl
set_option maxRecDepth 100000 in
set_option maxHeartbeats 8000000 in
theorem rlput_any {w : World} {base : Nat} {v : Value} {L : List Ot} {mk : Int} (h : DocRow base w v L) (hb : base ≤ w.heap.size) (hL : L.length ≤ 32) (hu : L.Pairwise ltO) (hok : ∀ y ∈ L, OkW y) (k : ByteArray) (hk : k.size ≤ maxLen) (t n : Int) (hn : InR n) :
    Calls Try.prog 50 #[.agg #[.int .i64 mk, v], .string k, .int .i64 t, .int .i64 n] w (Ln2 base w mk (tpF mk L k t n)) := by
  obtain ⟨⟨r1, r2⟩, hr⟩ : ∃ r, tpF mk L k t n = r := ⟨_, rfl⟩
  rw [hr]
  unfold tpF at hr
  have hkey := fun W => rkey_any k W hk
  have hrt := fun W => rright_any t W
  have hlt := fun W => rlate_any t mk W
  have hput := fun (W : World) (v : Value) (hD : DocRow base W v L) (hle : base ≤ W.heap.size) => rdput_any hD hle hL hu hok k hk t n hn
  have hne := putL_ne (L := L) k t n
  obtain ⟨kb, hkb⟩ : ∃ x, keyB k = x := ⟨_, rfl⟩
  obtain ⟨rb, hrb⟩ : ∃ x, rightB t = x := ⟨_, rfl⟩
  obtain ⟨lb, hlb⟩ : ∃ x, lateB t mk = x := ⟨_, rfl⟩
  obtain ⟨⟨e1, L1⟩, hp1⟩ : ∃ x, putL L k t n = x := ⟨_, rfl⟩
  rw [hkb, hrb, hlb, hp1] at hr
  rw [hkb] at hkey
  rw [hrb] at hrt
  rw [hlb] at hlt
  rw [hp1] at hput hne
  have HK := Lib.hid hkey
  have HT := Lib.hid hrt
  have HE := Lib.hid hlt
  have HP := Lib.hid hput
  have HN := Lib.hid hne
  clear hkey hrt hlt hput hkb hrb hlb hp1 hu hok hk hn hne
  obtain ⟨av, cv, rfl, _⟩ := own_shape h
  have hz := Int.natCast_nonneg L.length
  have hz32 : (L.length : Int) ≤ 32 := by omega
  obtain ⟨W1, hW1⟩ : ∃ W1, (w.alloc (.cells #[.int .i64 mk, (Value.slice av L.length cv)] 82)).alloc (.cells #[.int .i64 0, .slice none 0 0] 82) = W1 := ⟨_, rfl⟩
  have hB : Below w.heap.size w W1 := hW1 ▸ ((Below.refl _ w).alloc (Nat.le_refl _) _).alloc (by simp) _
  have hs : LxAt W1 w.heap.size mk (Value.slice av L.length cv) := hW1 ▸ ((LxAt.new w mk _).keep ((Keep.refl [] _).alloc _))
  have hx : LxAt W1 (w.heap.size + 1) 0 (.slice none 0 0) := by
    have := LxAt.new (w.alloc (.cells #[.int .i64 mk, (Value.slice av L.length cv)] 82)) 0 (.slice none 0 0)
    rw [World.size_alloc] at this
    exact hW1 ▸ this
  have HS := Lib.hid hs
  have HX := Lib.hid hx
  have HB := Lib.hid hB
  have HD0 := Lib.hid h
  have HD := Lib.hid (DocRow.keep h (Keep.of_below hB []) (by simp))
  have HSZ := Lib.hid (show w.heap.size + 2 ≤ W1.heap.size from by rw [← hW1]; simp)
  obtain ⟨s0, s1, sf⟩ := hs.cells
  obtain ⟨x0, x1, xf⟩ := hx.cells
  clear hs hx hB h
  cases kb with
  | false =>
    obtain ⟨rfl, rfl⟩ : r1 = 4 ∧ L = r2 := by rw [if_pos (.inl rfl)] at hr; cases hr; exact ⟨rfl, rfl⟩
    go_enter Try.func50, Try.ntmps50
    go_wp2_with (fail)
    refine ((HK.out _)).mono ?_
    rintro e w2 ⟨rfl, rfl⟩
    go_wp2_with (fail)
    have zq := setLx_at HX.out mk (Value.slice av L.length cv)
    have kf := setLx_keep W1 (w.heap.size + 1) mk (Value.slice av L.length cv)
    obtain ⟨z0, z1, _⟩ := zq.cells
    unfold setLx at z0 z1 kf
    exact bodyPost_ret (v := .tuple #[.agg #[.int .i64 mk, (Value.slice av L.length cv)], .int .i64 4]) (by simp [results, Try.results50, go_sem, z0, z1]) rfl ⟨_, rfl, own_keep HD.out kf (fun g hg => by have := own_lt HD0.out g hg; simp; omega), HB.out.trans (kf.below HB.out.size (by simp))⟩
  | true =>
  cases rb with
  | false =>
    obtain ⟨rfl, rfl⟩ : r1 = 4 ∧ L = r2 := by rw [if_pos (.inr rfl)] at hr; cases hr; exact ⟨rfl, rfl⟩
    go_enter Try.func50, Try.ntmps50
    go_wp2_with (fail)
    refine ((HK.out _)).mono ?_
    rintro e w2 ⟨rfl, rfl⟩
    go_wp2_with (fail)
    refine ((HT.out _)).mono ?_
    rintro e w2 ⟨rfl, rfl⟩
    go_wp2_with (fail)
    have zq := setLx_at HX.out mk (Value.slice av L.length cv)
    have kf := setLx_keep W1 (w.heap.size + 1) mk (Value.slice av L.length cv)
    obtain ⟨z0, z1, _⟩ := zq.cells
    unfold setLx at z0 z1 kf
    exact bodyPost_ret (v := .tuple #[.agg #[.int .i64 mk, (Value.slice av L.length cv)], .int .i64 4]) (by simp [results, Try.results50, go_sem, z0, z1]) rfl ⟨_, rfl, own_keep HD.out kf (fun g hg => by have := own_lt HD0.out g hg; simp; omega), HB.out.trans (kf.below HB.out.size (by simp))⟩
  | true =>
  rw [if_neg (by simp)] at hr
  cases lb with
  | true =>
    obtain ⟨rfl, rfl⟩ : r1 = 2 ∧ L = r2 := by rw [if_pos rfl] at hr; cases hr; exact ⟨rfl, rfl⟩
    go_enter Try.func50, Try.ntmps50
    go_wp2_with (fail)
    refine ((HK.out _)).mono ?_
    rintro e w2 ⟨rfl, rfl⟩
    go_wp2_with (fail)
    refine ((HT.out _)).mono ?_
    rintro e w2 ⟨rfl, rfl⟩
    go_wp2_with (fail)
    refine ((HE.out _)).mono ?_
    rintro e w2 ⟨rfl, rfl⟩
    go_wp2_with (fail)
    have zq := setLx_at HX.out mk (Value.slice av L.length cv)
    have kf := setLx_keep W1 (w.heap.size + 1) mk (Value.slice av L.length cv)
    obtain ⟨z0, z1, _⟩ := zq.cells
    unfold setLx at z0 z1 kf
    exact bodyPost_ret (v := .tuple #[.agg #[.int .i64 mk, (Value.slice av L.length cv)], .int .i64 2]) (by simp [results, Try.results50, go_sem, z0, z1]) rfl ⟨_, rfl, own_keep HD.out kf (fun g hg => by have := own_lt HD0.out g hg; simp; omega), HB.out.trans (kf.below HB.out.size (by simp))⟩
  | false =>
  rw [if_neg (by decide)] at hr
  by_cases he : e1 = 0
  · have heb : (e1 != 0) = false := by simp [he]
    obtain ⟨rfl, rfl⟩ : r1 = 1 ∧ L1 = r2 := by rw [if_pos he] at hr; cases hr; exact ⟨rfl, rfl⟩
    clear he
    go_enter Try.func50, Try.ntmps50
    go_wp2_with (fail)
    refine ((HK.out _)).mono ?_
    rintro e w2 ⟨rfl, rfl⟩
    go_wp2_with (fail)
    refine ((HT.out _)).mono ?_
    rintro e w2 ⟨rfl, rfl⟩
    go_wp2_with (fail)
    refine ((HE.out _)).mono ?_
    rintro e w2 ⟨rfl, rfl⟩
    go_wp2_with (fail)
    refine (HP.out _ _ HD.out (Nat.le_trans hb (by have := HSZ.out; omega))).mono ?_
    rintro e w3 ⟨v', rfl, hD3, hB3⟩
    simp only at hD3
    clear HP
    obtain ⟨av', cv', rfl, _⟩ := own_shape hD3
    have hka : Keep [] w3 (w3.alloc (.cells #[.slice av' L1.length cv'] 64)) := (Keep.refl _ _).alloc _
    have hk3 := (Keep.of_below hB3 []).trans hka
    have HS4 := Lib.hid (HS.out.keep hk3)
    have HX4 := Lib.hid (HX.out.keep hk3)
    have HN4 := Lib.hid (SxAt.new w3 (.slice av' L1.length cv'))
    have HD4 := Lib.hid (DocRow.keep hD3 hka (by simp))
    have HDL := Lib.hid (own_base hD3)
    have HDO := Lib.hid (DocRow.keep HD.out hk3 (by simp))
    have HB4 := Lib.hid (HB.out.trans (hk3.below HB.out.size (by simp)))
    have HZ4 := Lib.hid (show w.heap.size + 2 ≤ w3.heap.size from Nat.le_trans HSZ.out hB3.size)
    obtain ⟨W4, hW4⟩ : ∃ W, w3.alloc (.cells #[.slice av' L1.length cv'] 64) = W := ⟨_, rfl⟩
    rw [hW4] at HS4 HX4 HN4 HD4 HDO HB4
    clear s0 s1 sf x0 x1 xf hka hk3 hB3 HS HX HD HB hW1
    obtain ⟨s0, s1, sf⟩ := HS4.out.cells
    obtain ⟨x0, x1, xf⟩ := HX4.out.cells
    obtain ⟨y0, yf⟩ := HN4.out.cells
    clear hD3
    have HS5 := Lib.hid (HS4.out.set1 (.slice av' L1.length cv'))
    have ks : Keep [w.heap.size] W4 (W4.setCell ⟨w.heap.size, 1, none⟩ (.slice av' L1.length cv')) := (Keep.refl _ W4).setCell _ _ _ (.inl (by simp))
    obtain ⟨W5, hW5⟩ : ∃ W, W4.setCell ⟨w.heap.size, 1, none⟩ (.slice av' L1.length cv') = W := ⟨_, rfl⟩
    rw [hW5] at HS5 ks
    have HX5 := Lib.hid (HX4.out.keep ks (by simp))
    have HB5 := Lib.hid (HB4.out.trans (ks.below HB4.out.size (by simp)))
    have HD5 : Hid (DocRow base W5 (.slice av' L1.length cv') L1) := Lib.hid (own_keep HD4.out ks (fun g hg => by have := own_ne HD4.out HS4.out g hg; simpa using this))
    obtain ⟨t0, t1, tf⟩ := HS5.out.cells
    obtain ⟨u0, u1, uf⟩ := HX5.out.cells
    clear ks HX4 HD4 HB4
    go_wp2_with (fail)
    clear hW5
    have zq := setLx_at HX5.out mk (Value.slice av' L1.length cv')
    have kf := setLx_keep W5 (w.heap.size + 1) mk (Value.slice av' L1.length cv')
    obtain ⟨z0, z1, _⟩ := zq.cells
    unfold setLx at z0 z1 kf
    exact bodyPost_ret (v := .tuple #[.agg #[.int .i64 mk, (Value.slice av' L1.length cv')], .int .i64 1]) (by simp [results, Try.results50, go_sem, z0, z1]) rfl ⟨_, rfl, own_keep HD5.out kf (fun g hg => by have := own_ne HD5.out HX5.out g hg; simpa using this), HB5.out.trans (kf.below HB5.out.size (by simp))⟩
  · have heb : (e1 != 0) = true := by simp [he]
    obtain rfl := HN.out he
    obtain ⟨rfl, rfl⟩ : r1 = 3 ∧ L1 = r2 := by rw [if_neg he] at hr; cases hr; exact ⟨rfl, rfl⟩
    clear he
    go_enter Try.func50, Try.ntmps50
    go_wp2_with (fail)
    refine ((HK.out _)).mono ?_
    rintro e w2 ⟨rfl, rfl⟩
    go_wp2_with (fail)
    refine ((HT.out _)).mono ?_
    rintro e w2 ⟨rfl, rfl⟩
    go_wp2_with (fail)
    refine ((HE.out _)).mono ?_
    rintro e w2 ⟨rfl, rfl⟩
    go_wp2_with (fail)
    refine (HP.out _ _ HD.out (Nat.le_trans hb (by have := HSZ.out; omega))).mono ?_
    rintro e w3 ⟨v', rfl, hD3, hB3⟩
    simp only at hD3
    clear HP
    obtain ⟨av', cv', rfl, _⟩ := own_shape hD3
    have hka : Keep [] w3 (w3.alloc (.cells #[.slice av' L1.length cv'] 64)) := (Keep.refl _ _).alloc _
    have hk3 := (Keep.of_below hB3 []).trans hka
    have HS4 := Lib.hid (HS.out.keep hk3)
    have HX4 := Lib.hid (HX.out.keep hk3)
    have HN4 := Lib.hid (SxAt.new w3 (.slice av' L1.length cv'))
    have HD4 := Lib.hid (DocRow.keep hD3 hka (by simp))
    have HDL := Lib.hid (own_base hD3)
    have HDO := Lib.hid (DocRow.keep HD.out hk3 (by simp))
    have HB4 := Lib.hid (HB.out.trans (hk3.below HB.out.size (by simp)))
    have HZ4 := Lib.hid (show w.heap.size + 2 ≤ w3.heap.size from Nat.le_trans HSZ.out hB3.size)
    obtain ⟨W4, hW4⟩ : ∃ W, w3.alloc (.cells #[.slice av' L1.length cv'] 64) = W := ⟨_, rfl⟩
    rw [hW4] at HS4 HX4 HN4 HD4 HDO HB4
    clear s0 s1 sf x0 x1 xf hka hk3 hB3 HS HX HD HB hW1
    obtain ⟨s0, s1, sf⟩ := HS4.out.cells
    obtain ⟨x0, x1, xf⟩ := HX4.out.cells
    obtain ⟨y0, yf⟩ := HN4.out.cells
    clear hD3
    go_wp2_with (fail)
    clear hW4
    have zq := setLx_at HX4.out mk (Value.slice av L1.length cv)
    have kf := setLx_keep W4 (w.heap.size + 1) mk (Value.slice av L1.length cv)
    obtain ⟨z0, z1, _⟩ := zq.cells
    unfold setLx at z0 z1 kf
    exact bodyPost_ret (v := .tuple #[.agg #[.int .i64 mk, (Value.slice av L1.length cv)], .int .i64 3]) (by simp [results, Try.results50, go_sem, z0, z1]) rfl ⟨_, rfl, own_keep HDO.out kf (fun g hg => by have := own_lt HD0.out g hg; simp; omega), HB4.out.trans (kf.below HB4.out.size (by simp))⟩
set_option maxRecDepth 100000 in
set_option maxHeartbeats 8000000 in
theorem rlmark_any {w : World} {base : Nat} {v : Value} {L : List Ot} {mk : Int} (h : DocRow base w v L) (hb : base ≤ w.heap.size) (hL : L.length ≤ 32) (t : Int) :
    Calls Try.prog 51 #[.agg #[.int .i64 mk, v], .int .i64 t] w (Ln3 base w (tmF mk L t)) := by
  obtain ⟨⟨r1, r2, r3, r4⟩, hr⟩ : ∃ r, tmF mk L t = r := ⟨_, rfl⟩
  rw [hr]
  unfold tmF at hr
  have hrt := fun W => rright_any t W
  obtain ⟨rb, hrb⟩ : ∃ x, rightB t = x := ⟨_, rfl⟩
  rw [hrb] at hr hrt
  have HT := Lib.hid hrt
  have htk := fun (W : World) (v : Value) (hD : DocRow base W v L) => rdtake_any hD (by omega) t
  obtain ⟨Lo, hlo⟩ : ∃ x, overL t L = x := ⟨_, rfl⟩
  obtain ⟨Lr, hlr⟩ : ∃ x, restL t L = x := ⟨_, rfl⟩
  unfold TakeDoc at htk
  rw [hlo, hlr] at htk hr
  have HTK := Lib.hid htk
  clear hrt hrb htk hlo hlr
  obtain ⟨av, cv, rfl, _⟩ := own_shape h
  have hz := Int.natCast_nonneg L.length
  have hz32 : (L.length : Int) ≤ 32 := by omega
  obtain ⟨W1, hW1⟩ : ∃ W1, (w.alloc (.cells #[.int .i64 mk, (Value.slice av L.length cv)] 82)).alloc (.cells #[.int .i64 0, .slice none 0 0] 82) = W1 := ⟨_, rfl⟩
  have hB : Below w.heap.size w W1 := hW1 ▸ ((Below.refl _ w).alloc (Nat.le_refl _) _).alloc (by simp) _
  have hs : LxAt W1 w.heap.size mk (Value.slice av L.length cv) := hW1 ▸ ((LxAt.new w mk _).keep ((Keep.refl [] _).alloc _))
  have hx : LxAt W1 (w.heap.size + 1) 0 (.slice none 0 0) := by
    have := LxAt.new (w.alloc (.cells #[.int .i64 mk, (Value.slice av L.length cv)] 82)) 0 (.slice none 0 0)
    rw [World.size_alloc] at this
    exact hW1 ▸ this
  have HS := Lib.hid hs
  have HX := Lib.hid hx
  have HB := Lib.hid hB
  have HD0 := Lib.hid h
  have HD := Lib.hid (DocRow.keep h (Keep.of_below hB []) (by simp))
  have HSZ := Lib.hid (show w.heap.size + 2 ≤ W1.heap.size from by rw [← hW1]; simp)
  obtain ⟨s0, s1, sf⟩ := hs.cells
  obtain ⟨x0, x1, xf⟩ := hx.cells
  clear hs hx hB h
  cases rb with
  | false =>
    obtain ⟨rfl, rfl, rfl, rfl⟩ : r1 = 4 ∧ r2 = [] ∧ mk = r3 ∧ L = r4 := by rw [if_pos rfl] at hr; cases hr; exact ⟨rfl, rfl, rfl, rfl⟩
    go_enter Try.func51, Try.ntmps51
    go_wp2_with (fail)
    refine ((HT.out _)).mono ?_
    rintro e w2 ⟨rfl, rfl⟩
    go_wp2_with (fail)
    have zq := setLx_at HX.out mk (Value.slice av L.length cv)
    have kf := setLx_keep W1 (w.heap.size + 1) mk (Value.slice av L.length cv)
    obtain ⟨z0, z1, _⟩ := zq.cells
    unfold setLx at z0 z1 kf
    exact bodyPost_ret (v := .tuple #[.agg #[.int .i64 mk, (Value.slice av L.length cv)], .int .i64 4, .slice none 0 0]) (by simp [results, Try.results51, go_sem, z0, z1]) rfl ⟨_, _, rfl, own_keep HD.out kf (fun g hg => by have := own_lt HD0.out g hg; simp; omega), World.ownsRow_nil _ _ _ _, HB.out.trans (kf.below HB.out.size (by simp))⟩
  | true =>
  rw [if_neg (by decide)] at hr
  by_cases hle : t ≤ mk
  · obtain ⟨rfl, rfl, rfl, rfl⟩ : r1 = 1 ∧ r2 = [] ∧ mk = r3 ∧ L = r4 := by rw [if_pos hle] at hr; cases hr; exact ⟨rfl, rfl, rfl, rfl⟩
    go_enter Try.func51, Try.ntmps51
    go_wp2_with (fail)
    refine ((HT.out _)).mono ?_
    rintro e w2 ⟨rfl, rfl⟩
    go_wp2_with (fail)
    have zq := setLx_at HX.out mk (Value.slice av L.length cv)
    have kf := setLx_keep W1 (w.heap.size + 1) mk (Value.slice av L.length cv)
    obtain ⟨z0, z1, _⟩ := zq.cells
    unfold setLx at z0 z1 kf
    exact bodyPost_ret (v := .tuple #[.agg #[.int .i64 mk, (Value.slice av L.length cv)], .int .i64 1, .slice none 0 0]) (by simp [results, Try.results51, go_sem, z0, z1]) rfl ⟨_, _, rfl, own_keep HD.out kf (fun g hg => by have := own_lt HD0.out g hg; simp; omega), World.ownsRow_nil _ _ _ _, HB.out.trans (kf.below HB.out.size (by simp))⟩
  · obtain ⟨rfl, rfl, rfl, rfl⟩ : r1 = 1 ∧ Lo = r2 ∧ t = r3 ∧ Lr = r4 := by rw [if_neg hle] at hr; cases hr; exact ⟨rfl, rfl, rfl, rfl⟩
    have ks0 : Keep [w.heap.size] W1 (W1.setCell ⟨w.heap.size, 0, none⟩ (.int .i64 t)) := (Keep.refl _ W1).setCell _ _ _ (.inl (by simp))
    have HS2 := Lib.hid (HS.out.set0 t)
    obtain ⟨W2, hW2⟩ : ∃ W, W1.setCell ⟨w.heap.size, 0, none⟩ (.int .i64 t) = W := ⟨_, rfl⟩
    rw [hW2] at ks0 HS2
    have HX2 := Lib.hid (HX.out.keep ks0 (by simp))
    have HD2 := Lib.hid (own_keep HD.out ks0 (fun g hg => by have := own_lt HD0.out g hg; simp; omega))
    have HB2 := Lib.hid (HB.out.trans (ks0.below HB.out.size (by simp)))
    have HZ2 := Lib.hid (show w.heap.size + 2 ≤ W2.heap.size from Nat.le_trans HSZ.out ks0.size)
    obtain ⟨t0, t1, tf⟩ := HS2.out.cells
    obtain ⟨u0, u1, uf⟩ := HX2.out.cells
    clear ks0
    go_enter Try.func51, Try.ntmps51
    go_wp2_with (fail)
    refine ((HT.out _)).mono ?_
    rintro e w2 ⟨rfl, rfl⟩
    go_wp2_with (fail)
    clear hW1 hW2 s0 s1 sf x0 x1 xf t0 t1 tf u0 u1 uf
    refine (HTK.out _ _ HD2.out).mono ?_
    rintro e w3 ⟨v1, v2, rfl, hD3, hO3, hB3⟩
    clear HTK
    obtain ⟨av', cv', rfl, _⟩ := own_shape hD3
    obtain ⟨ao, co, rfl, _⟩ := own_shape hO3
    have hka : Keep [] w3 (w3.alloc (.cells #[.slice av' Lr.length cv'] 64)) := (Keep.refl _ _).alloc _
    have hk3 := (Keep.of_below hB3 []).trans hka
    have HS4 := Lib.hid (HS2.out.keep hk3)
    have HX4 := Lib.hid (HX2.out.keep hk3)
    have HN4 := Lib.hid (SxAt.new w3 (.slice av' Lr.length cv'))
    have HD4 := Lib.hid (own_mono (base' := base) (DocRow.keep hD3 hka (by simp)) (by have := HZ2.out; omega))
    have HO4 := Lib.hid (own_mono (base' := w.heap.size) (DocRow.keep hO3 hka (by simp)) (by have := HZ2.out; omega))
    have HB4 := Lib.hid (HB2.out.trans (hk3.below HB2.out.size (by simp)))
    obtain ⟨W4, hW4⟩ : ∃ W, w3.alloc (.cells #[.slice av' Lr.length cv'] 64) = W := ⟨_, rfl⟩
    rw [hW4] at HS4 HX4 HN4 HD4 HO4 HB4
    clear hka hk3 hB3 hD3 hO3 HS2 HX2 HD2 HB2 HS HX HD HB
    obtain ⟨s0, s1, sf⟩ := HS4.out.cells
    obtain ⟨y0, yf⟩ := HN4.out.cells
    have ks : Keep [w.heap.size] W4 (W4.setCell ⟨w.heap.size, 1, none⟩ (.slice av' Lr.length cv')) := (Keep.refl _ W4).setCell _ _ _ (.inl (by simp))
    have HS5 := Lib.hid (HS4.out.set1 (.slice av' Lr.length cv'))
    obtain ⟨W5, hW5⟩ : ∃ W, W4.setCell ⟨w.heap.size, 1, none⟩ (.slice av' Lr.length cv') = W := ⟨_, rfl⟩
    rw [hW5] at HS5 ks
    have HX5 := Lib.hid (HX4.out.keep ks (by simp))
    have HB5 := Lib.hid (HB4.out.trans (ks.below HB4.out.size (by simp)))
    have HD5 : Hid (DocRow base W5 (.slice av' Lr.length cv') Lr) := Lib.hid (own_keep HD4.out ks (fun g hg => by have := own_ne HD4.out HS4.out g hg; simpa using this))
    have HO5 : Hid (DocRow w.heap.size W5 (.slice ao Lo.length co) Lo) := Lib.hid (own_keep HO4.out ks (fun g hg => by have := own_ne HO4.out HS4.out g hg; simpa using this))
    obtain ⟨t0, t1, tf⟩ := HS5.out.cells
    obtain ⟨u0, u1, uf⟩ := HX5.out.cells
    clear ks HX4 HD4 HO4 HB4
    go_wp2_with (fail)
    clear hW4 hW5
    have zq := setLx_at HX5.out t (Value.slice av' Lr.length cv')
    have kf := setLx_keep W5 (w.heap.size + 1) t (Value.slice av' Lr.length cv')
    obtain ⟨z0, z1, _⟩ := zq.cells
    unfold setLx at z0 z1 kf
    exact bodyPost_ret (v := .tuple #[.agg #[.int .i64 t, (Value.slice av' Lr.length cv')], .int .i64 1, .slice ao Lo.length co]) (by simp [results, Try.results51, go_sem, z0, z1]) rfl ⟨_, _, rfl, own_keep HD5.out kf (fun g hg => by have := own_ne HD5.out HX5.out g hg; simpa using this), own_keep HO5.out kf (fun g hg => by have := own_ne HO5.out HX5.out g hg; simpa using this), HB5.out.trans (kf.below HB5.out.size (by simp))⟩
end Go.Proofs.Ytmhbibcfbencnaa
