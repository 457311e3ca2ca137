/- tell: a line of windows under a mark. -/
import Derived.Test.YtmhbibcfbencnaaStZ
namespace Go.Proofs.Ytmhbibcfbencnaa
open Go.RowKit Go.Lib
set_option linter.unusedSimpArgs false
set_option linter.unusedVariables false
def LnB (W : World) (q p : Nat) (mk : Int) : Prop := W.heap[q]? = some (.cells #[.pointer (some ⟨p, 0, none⟩), .int .i64 mk] 105 (0, 0))
theorem LnB.cells {W : World} {q p : Nat} {mk : Int} (h : LnB W q p mk) : W.cell? ⟨q, 0, none⟩ = some (.pointer (some ⟨p, 0, none⟩)) ∧ W.cell? ⟨q, 1, none⟩ = some (.int .i64 mk) ∧ (∀ o, W.frozen? ⟨q, o, none⟩ = false) := by
  unfold LnB at h
  refine ⟨?_, ?_, fun o => ?_⟩
  all_goals first | (unfold World.cell?; rw [h]; rfl) | (unfold World.frozen?; rw [h]; simp)
theorem LnB.keep {X : List Nat} {W W' : World} {q p : Nat} {mk : Int} (h : LnB W q p mk) (hk : Keep X W W') (hx : q ∉ X := by simp) : LnB W' q p mk := (hk.block q (lt_of_heap h) hx).trans h
theorem LnB.new (W : World) (p : Nat) (mk : Int) : LnB (W.alloc (.cells #[.pointer (some ⟨p, 0, none⟩), .int .i64 mk] 105)) W.heap.size p mk := World.alloc_heap_new W _
theorem LnB.set {W : World} {q p : Nat} {mk : Int} (h : LnB W q p mk) (m : Int) : LnB (W.setCell ⟨q, 1, none⟩ (.int .i64 m)) q p m := by
  unfold LnB at *
  simp [World.setCell, Array.getElem?_modify, h]
/-- A line: its block q, its store p with the map b, its mark, its windows. -/
structure LnAt (W : World) (q p b : Nat) (mk : Int) (L : List Ot) : Prop where
  ln : LnB W q p mk
  st : SrAt W p b L
  qp : q ≠ p
  qb : q ≠ b
theorem LnAt.lt {W : World} {q p b : Nat} {mk : Int} {L : List Ot} (h : LnAt W q p b mk L) : q < W.heap.size ∧ p < W.heap.size ∧ b < W.heap.size := ⟨lt_of_heap h.ln, h.st.lt.1, h.st.lt.2.1⟩
theorem LnAt.keep {X : List Nat} {W W' : World} {q p b : Nat} {mk : Int} {L : List Ot} (h : LnAt W q p b mk L) (hk : Keep X W W') (hq : q ∉ X := by simp) (hp : p ∉ X := by simp) (hb : b ∉ X := by simp) : LnAt W' q p b mk L :=
  ⟨h.ln.keep hk hq, h.st.keep hk hp hb, h.qp, h.qb⟩
theorem LnAt.below {W W' : World} {q p b : Nat} {mk : Int} {L : List Ot} (h : LnAt W q p b mk L) (hb : Below W.heap.size W W') : LnAt W' q p b mk L := h.keep (Keep.of_below hb [])
/-- What Put does: its code, the windows then. -/
def tpF (mk : Int) (L : List Ot) (k : ByteArray) (t v : Int) : Int × List Ot :=
  if keyB k = false ∨ rightB t = false then (4, L) else if lateB t mk = true then (2, L) else if (putL L k t v).1 = 0 then (1, (putL L k t v).2) else (3, L)
/-- What Mark does: its code, what is told, the mark and the windows then. -/
def tmF (mk : Int) (L : List Ot) (t : Int) : Int × List Ot × Int × List Ot :=
  if rightB t = false then (4, [], mk, L) else if t ≤ mk then (1, [], mk, L) else (1, overL t L, t, restL t L)
def MarkP (w : World) (q p b : Nat) (r : Int × List Ot × Int × List Ot) (e : Ending) (w' : World) : Prop :=
  ∃ A c, e = .returned (.tuple #[.int .i64 r.1, .slice A r.2.1.length c]) ∧ OtsAt w.heap.size w' A r.2.1 ∧ LnAt w' q p b r.2.2.1 r.2.2.2 ∧ Keep [q, b] w w'
def NewLn (w : World) (mk : Int) (L : List Ot) (e : Ending) (w' : World) : Prop :=
  ∃ q p b, e = .returned (.pointer (some ⟨q, 0, none⟩)) ∧ LnAt w' q p b mk L ∧ w.heap.size ≤ q ∧ w.heap.size ≤ p ∧ w.heap.size ≤ b ∧ Below w.heap.size w w'
theorem tnone_nil (w : World) : Calls Try.prog 61 #[.pointer none] w fun e w' => e = .returned (.bool true) ∧ w = w' := by
  go_enter Try.func61, Try.ntmps61
  go_wp2_with (fail)
  go_ret
  exact ⟨rfl, rfl⟩
theorem tnone_any {w : World} {q p : Nat} {mk : Int} (h : LnB w q p mk) : Calls Try.prog 61 #[.pointer (some ⟨q, 0, none⟩)] w fun e w' => e = .returned (.bool false) ∧ w = w' := by
  obtain ⟨c0, c1, cf⟩ := h.cells
  go_enter Try.func61, Try.ntmps61
  go_wp2_with (fail)
  go_ret
  exact ⟨rfl, rfl⟩
theorem tput_nil (k : ByteArray) (t v : Int) (w : World) : Calls Try.prog 29 #[.pointer none, .string k, .int .i64 t, .int .i64 v] w fun e w' => e = .returned (.int .i64 4) ∧ w = w' := by
  go_enter Try.func29, Try.ntmps29
  go_wp2_with (fail)
  refine (tnone_nil _).mono ?_
  rintro e w2 ⟨rfl, rfl⟩
  go_wp2_with (fail)
  go_ret
  exact ⟨rfl, rfl⟩
theorem tmark_nil (t : Int) (w : World) : Calls Try.prog 30 #[.pointer none, .int .i64 t] w fun e w' => e = .returned (.tuple #[.int .i64 4, .slice none 0 0]) ∧ w = w' := by
  go_enter Try.func30, Try.ntmps30
  go_wp2_with (fail)
  refine (tnone_nil _).mono ?_
  rintro e w2 ⟨rfl, rfl⟩
  go_wp2_with (fail)
  (try simp only [Exit.inBlock, Exit.then])
  exact bodyPost_ret (v := .tuple #[.int .i64 4, .slice none 0 0]) (by simp [results, Try.results30, go_sem]) rfl ⟨rfl, rfl⟩
theorem tat_nil (w : World) : Calls Try.prog 32 #[.pointer none] w fun e w' => e = .returned (.int .i64 0) ∧ w = w' := by
  go_enter Try.func32, Try.ntmps32
  go_wp2_with (fail)
  refine (tnone_nil _).mono ?_
  rintro e w2 ⟨rfl, rfl⟩
  go_wp2_with (fail)
  go_ret
  exact ⟨rfl, rfl⟩
theorem topen_nil (w : World) : Calls Try.prog 31 #[.pointer none] w fun e w' => e = .returned (.slice none 0 0) ∧ w = w' := by
  go_enter Try.func31, Try.ntmps31
  go_wp2_with (fail)
  refine (tnone_nil _).mono ?_
  rintro e w2 ⟨rfl, rfl⟩
  go_wp2_with (fail)
  go_ret
  exact ⟨rfl, rfl⟩
theorem ttwin_nil (w : World) : Calls Try.prog 33 #[.pointer none] w fun e w' => e = .returned (.pointer none) ∧ w = w' := by
  go_enter Try.func33, Try.ntmps33
  go_wp2_with (fail)
  refine (tnone_nil _).mono ?_
  rintro e w2 ⟨rfl, rfl⟩
  go_wp2_with (fail)
  go_ret
  exact ⟨rfl, rfl⟩
set_option maxRecDepth 100000 in
set_option maxHeartbeats 2000000 in
theorem tput_any {w : World} {q p b : Nat} {mk : Int} {L : List Ot} (h : LnAt w q p b mk L) (hm : L.length ≤ 1000) (k : ByteArray) (hk : k.size ≤ maxLen) (t v : Int) :
    Calls Try.prog 29 #[.pointer (some ⟨q, 0, none⟩), .string k, .int .i64 t, .int .i64 v] w fun e w' => e = .returned (.int .i64 (tpF mk L k t v).1) ∧ LnAt w' q p b mk (tpF mk L k t v).2 ∧ Keep [b] w w' := by
  obtain ⟨⟨r1, r2⟩, hr⟩ : ∃ r, tpF mk L k t v = r := ⟨_, rfl⟩
  rw [hr]
  unfold tpF at hr
  have hkey := fun W => key_any k W hk
  have hrt := fun W => right_any t W
  have hlt := fun W => late_any t mk W
  have hput := rput_any h.st hm k hk t v
  obtain ⟨kb, hkb⟩ : ∃ x, keyB k = x := ⟨_, rfl⟩
  obtain ⟨rb, hrb⟩ : ∃ x, rightB t = x := ⟨_, rfl⟩
  obtain ⟨lb, hlb⟩ : ∃ x, lateB t mk = x := ⟨_, rfl⟩
  obtain ⟨⟨e1, L1⟩, hp1⟩ : ∃ x, putL L k t v = x := ⟨_, rfl⟩
  rw [hkb, hrb, hlb, hp1] at hr
  rw [hkb] at hkey
  rw [hrb] at hrt
  rw [hlb] at hlt
  rw [hp1] at hput
  simp only at hput
  have HK := Lib.hid hkey
  have HT := Lib.hid hrt
  have HE := Lib.hid hlt
  have HP := Lib.hid hput
  have HL := Lib.hid h
  have HN : Hid (e1 ≠ 0 → L1 = L) := Lib.hid (fun he => by have := putL_ne (L := L) k t v (by rw [hp1]; exact he); rw [hp1] at this; exact this)
  obtain ⟨c0, c1, cf⟩ := h.ln.cells
  clear hkey hrt hlt hput hkb hrb hlb hp1 h
  simp only
  cases kb with
  | false =>
    obtain ⟨rfl, rfl⟩ : r1 = 4 ∧ L = r2 := by rw [if_pos (.inl rfl)] at hr; cases hr; exact ⟨rfl, rfl⟩
    go_enter Try.func29, Try.ntmps29
    go_wp2_with (fail)
    refine (tnone_any HL.out.ln).mono ?_
    rintro e w2 ⟨rfl, rfl⟩
    go_wp2_with (fail)
    refine ((HK.out _)).mono ?_
    rintro e w2 ⟨rfl, rfl⟩
    go_wp2_with (fail)
    go_ret
    exact ⟨rfl, HL.out, Keep.refl _ _⟩
  | true =>
  cases rb with
  | false =>
    obtain ⟨rfl, rfl⟩ : r1 = 4 ∧ L = r2 := by rw [if_pos (.inr rfl)] at hr; cases hr; exact ⟨rfl, rfl⟩
    go_enter Try.func29, Try.ntmps29
    go_wp2_with (fail)
    refine (tnone_any HL.out.ln).mono ?_
    rintro e w2 ⟨rfl, rfl⟩
    go_wp2_with (fail)
    refine ((HK.out _)).mono ?_
    rintro e w2 ⟨rfl, rfl⟩
    go_wp2_with (fail)
    refine ((HT.out _)).mono ?_
    rintro e w2 ⟨rfl, rfl⟩
    go_wp2_with (fail)
    go_ret
    exact ⟨rfl, HL.out, Keep.refl _ _⟩
  | true =>
  rw [if_neg (by simp)] at hr
  cases lb with
  | true =>
    obtain ⟨rfl, rfl⟩ : r1 = 2 ∧ L = r2 := by rw [if_pos rfl] at hr; cases hr; exact ⟨rfl, rfl⟩
    go_enter Try.func29, Try.ntmps29
    go_wp2_with (fail)
    refine (tnone_any HL.out.ln).mono ?_
    rintro e w2 ⟨rfl, rfl⟩
    go_wp2_with (fail)
    refine ((HK.out _)).mono ?_
    rintro e w2 ⟨rfl, rfl⟩
    go_wp2_with (fail)
    refine ((HT.out _)).mono ?_
    rintro e w2 ⟨rfl, rfl⟩
    go_wp2_with (fail)
    refine ((HE.out _)).mono ?_
    rintro e w2 ⟨rfl, rfl⟩
    go_wp2_with (fail)
    go_ret
    exact ⟨rfl, HL.out, Keep.refl _ _⟩
  | false =>
  rw [if_neg (by decide)] at hr
  by_cases he : e1 = 0
  · have heb : (e1 != 0) = false := by simp [he]
    obtain ⟨rfl, rfl⟩ : r1 = 1 ∧ L1 = r2 := by rw [if_pos he] at hr; cases hr; exact ⟨rfl, rfl⟩
    clear he
    go_enter Try.func29, Try.ntmps29
    go_wp2_with (fail)
    refine (tnone_any HL.out.ln).mono ?_
    rintro e w2 ⟨rfl, rfl⟩
    go_wp2_with (fail)
    refine ((HK.out _)).mono ?_
    rintro e w2 ⟨rfl, rfl⟩
    go_wp2_with (fail)
    refine ((HT.out _)).mono ?_
    rintro e w2 ⟨rfl, rfl⟩
    go_wp2_with (fail)
    refine ((HE.out _)).mono ?_
    rintro e w2 ⟨rfl, rfl⟩
    go_wp2_with (fail)
    refine HP.out.mono ?_
    rintro e w3 ⟨rfl, hS, hk3⟩
    have HF := Lib.hid (LnAt.mk (HL.out.ln.keep hk3 (by have := HL.out.qb; simpa using this)) hS HL.out.qp HL.out.qb)
    have HK3 := Lib.hid hk3
    clear hS hk3 HP
    go_wp2_with (fail)
    go_ret
    exact ⟨rfl, HF.out, HK3.out⟩
  · have heb : (e1 != 0) = true := by simp [he]
    obtain rfl := HN.out he
    obtain ⟨rfl, rfl⟩ : r1 = 3 ∧ L1 = r2 := by rw [if_neg he] at hr; cases hr; exact ⟨rfl, rfl⟩
    clear he
    go_enter Try.func29, Try.ntmps29
    go_wp2_with (fail)
    refine (tnone_any HL.out.ln).mono ?_
    rintro e w2 ⟨rfl, rfl⟩
    go_wp2_with (fail)
    refine ((HK.out _)).mono ?_
    rintro e w2 ⟨rfl, rfl⟩
    go_wp2_with (fail)
    refine ((HT.out _)).mono ?_
    rintro e w2 ⟨rfl, rfl⟩
    go_wp2_with (fail)
    refine ((HE.out _)).mono ?_
    rintro e w2 ⟨rfl, rfl⟩
    go_wp2_with (fail)
    refine HP.out.mono ?_
    rintro e w3 ⟨rfl, hS, hk3⟩
    have HF := Lib.hid (LnAt.mk (HL.out.ln.keep hk3 (by have := HL.out.qb; simpa using this)) hS HL.out.qp HL.out.qb)
    have HK3 := Lib.hid hk3
    clear hS hk3 HP
    go_wp2_with (fail)
    go_ret
    exact ⟨rfl, HF.out, HK3.out⟩
set_option maxRecDepth 100000 in
set_option maxHeartbeats 2000000 in
theorem tmark_any {w : World} {q p b : Nat} {mk : Int} {L : List Ot} (h : LnAt w q p b mk L) (hm : L.length ≤ 1000) (t : Int) :
    Calls Try.prog 30 #[.pointer (some ⟨q, 0, none⟩), .int .i64 t] w (MarkP w q p b (tmF mk L t)) := by
  obtain ⟨⟨r1, r2, r3, r4⟩, hr⟩ : ∃ r, tmF mk L t = r := ⟨_, rfl⟩
  rw [hr]
  unfold tmF at hr
  have hrt := fun W => right_any t W
  obtain ⟨rb, hrb⟩ : ∃ x, rightB t = x := ⟨_, rfl⟩
  rw [hrb] at hr hrt
  have HT := Lib.hid hrt
  have HL := Lib.hid h
  obtain ⟨c0, c1, cf⟩ := h.ln.cells
  clear hrt hrb h
  cases rb with
  | false =>
    obtain ⟨rfl, rfl, rfl, rfl⟩ : r1 = 4 ∧ r2 = [] ∧ mk = r3 ∧ L = r4 := by rw [if_pos rfl] at hr; cases hr; exact ⟨rfl, rfl, rfl, rfl⟩
    go_enter Try.func30, Try.ntmps30
    go_wp2_with (fail)
    refine (tnone_any HL.out.ln).mono ?_
    rintro e w2 ⟨rfl, rfl⟩
    go_wp2_with (fail)
    refine ((HT.out _)).mono ?_
    rintro e w2 ⟨rfl, rfl⟩
    go_wp2_with (fail)
    (try simp only [Exit.inBlock, Exit.then])
    exact bodyPost_ret (v := .tuple #[.int .i64 4, .slice none 0 0]) (by simp [results, Try.results30, go_sem]) rfl ⟨none, 0, rfl, fun h => absurd rfl h, HL.out, Keep.refl _ _⟩
  | true =>
  rw [if_neg (by decide)] at hr
  by_cases hle : t ≤ mk
  · obtain ⟨rfl, rfl, rfl, rfl⟩ : r1 = 1 ∧ r2 = [] ∧ mk = r3 ∧ L = r4 := by rw [if_pos hle] at hr; cases hr; exact ⟨rfl, rfl, rfl, rfl⟩
    go_enter Try.func30, Try.ntmps30
    go_wp2_with (fail)
    refine (tnone_any HL.out.ln).mono ?_
    rintro e w2 ⟨rfl, rfl⟩
    go_wp2_with (fail)
    refine ((HT.out _)).mono ?_
    rintro e w2 ⟨rfl, rfl⟩
    go_wp2_with (fail)
    (try simp only [Exit.inBlock, Exit.then])
    exact bodyPost_ret (v := .tuple #[.int .i64 1, .slice none 0 0]) (by simp [results, Try.results30, go_sem]) rfl ⟨none, 0, rfl, fun h => absurd rfl h, HL.out, Keep.refl _ _⟩
  · obtain ⟨rfl, rfl, rfl, rfl⟩ : r1 = 1 ∧ overL t L = r2 ∧ t = r3 ∧ restL t L = r4 := by rw [if_neg hle] at hr; cases hr; exact ⟨rfl, rfl, rfl, rfl⟩
    have ks : Keep [q] w (w.setCell ⟨q, 1, none⟩ (.int .i64 t)) := (Keep.refl _ w).setCell _ _ _ (.inl (by simp))
    have HLB := Lib.hid (HL.out.ln.set t)
    have hsr := HL.out.st.keep ks (by have := HL.out.qp; simp; omega) (by have := HL.out.qb; simp; omega)
    have htk := rtake_any hsr hm t
    unfold TakeR at htk
    have HTK := Lib.hid htk
    have HKS := Lib.hid ks
    have s0 : (w.setCell ⟨q, 1, none⟩ (.int .i64 t)).cell? ⟨q, 0, none⟩ = some (.pointer (some ⟨p, 0, none⟩)) := HLB.out.cells.1
    clear ks hsr htk
    go_enter Try.func30, Try.ntmps30
    go_wp2_with (fail)
    refine (tnone_any HL.out.ln).mono ?_
    rintro e w2 ⟨rfl, rfl⟩
    go_wp2_with (fail)
    refine ((HT.out _)).mono ?_
    rintro e w2 ⟨rfl, rfl⟩
    go_wp2_with (fail)
    refine HTK.out.mono ?_
    rintro e w3 ⟨A, c, rfl, hE, hS, hk3⟩
    have HF := Lib.hid (LnAt.mk (HLB.out.keep hk3 (by have := HL.out.qb; simpa using this)) hS HL.out.qp HL.out.qb)
    have HE := Lib.hid hE
    have HK3 := Lib.hid ((HKS.out.mono (Y := [q, b]) (fun x hx => .inl (by simp at hx; simp [hx]))).step hk3 (fun y hy => .inl (by simp at hy; simp [hy])))
    clear hE hS hk3 HTK
    go_wp2_with (fail)
    exact bodyPost_ret (v := .tuple #[.int .i64 1, .slice A (overL t L).length c]) (by simp [results, Try.results30, go_sem]) rfl ⟨A, c, rfl, by simpa using HE.out, HF.out, HK3.out⟩
theorem tat_any {w : World} {q p b : Nat} {mk : Int} {L : List Ot} (h : LnAt w q p b mk L) : Calls Try.prog 32 #[.pointer (some ⟨q, 0, none⟩)] w fun e w' => e = .returned (.int .i64 mk) ∧ w = w' := by
  obtain ⟨c0, c1, cf⟩ := h.ln.cells
  have HL := Lib.hid h
  clear h
  go_enter Try.func32, Try.ntmps32
  go_wp2_with (fail)
  refine (tnone_any HL.out.ln).mono ?_
  rintro e w2 ⟨rfl, rfl⟩
  go_wp2_with (fail)
  go_ret
  exact ⟨rfl, rfl⟩
theorem topen_any {w : World} {q p b : Nat} {mk : Int} {L : List Ot} (h : LnAt w q p b mk L) (hm : L.length ≤ 1000) : Calls Try.prog 31 #[.pointer (some ⟨q, 0, none⟩)] w (AllO w L) := by
  obtain ⟨c0, c1, cf⟩ := h.ln.cells
  have HL := Lib.hid h
  clear h
  go_enter Try.func31, Try.ntmps31
  go_wp2_with (fail)
  refine (tnone_any HL.out.ln).mono ?_
  rintro e w2 ⟨rfl, rfl⟩
  go_wp2_with (fail)
  refine (rall_any HL.out.st hm).mono ?_
  rintro e w3 ⟨A, c, rfl, hE, hB⟩
  have HE := Lib.hid hE
  have HB := Lib.hid hB
  clear hE hB
  go_wp2_with (fail)
  go_ret
  exact ⟨A, c, rfl, HE.out, HB.out⟩
theorem tnew_any (w : World) : Calls Try.prog 28 #[] w (NewLn w 0 []) := by
  go_enter Try.func28, Try.ntmps28
  go_wp2_with (fail)
  refine (rnew_any _).mono ?_
  rintro e w1 ⟨p, b, rfl, hS, hp, hb, hB⟩
  have hk : Keep [] w1 (w1.alloc (.cells #[.pointer (some ⟨p, 0, none⟩), .int .i64 0] 105)) := (Keep.refl _ _).alloc _
  have hl := hS.lt
  have HF := Lib.hid (LnAt.mk (LnB.new w1 p 0) (hS.keep hk (by simp) (by simp)) (by omega) (by omega))
  have HN := Lib.hid (And.intro hp hb)
  have HB := Lib.hid (hB.trans (hk.below hB.size (by simp)))
  have HZ := Lib.hid hB.size
  clear hk hl hS hp hb hB
  go_wp2_with (fail)
  go_ret
  exact ⟨_, p, b, rfl, HF.out, HZ.out, HN.out.1, HN.out.2, HB.out⟩
def Spec.twin (n : Nat) (L : List Ot) : Spec := { p := fun _ v => ∃ g, v = .pointer (some ⟨g, 0, none⟩) ∧ n ≤ g, A := fun _ v w => ∃ g b, v = .pointer (some ⟨g, 0, none⟩) ∧ n ≤ g ∧ n ≤ b ∧ SrAt w g b L }
theorem Spec.twin_ok (n : Nat) (L : List Ot) : (Spec.twin n L).ok := ⟨fun _ v w w' ⟨g, b, h1, h2, h3, h4⟩ hk => ⟨g, b, h1, h2, h3, h4.keep hk (by simp) (by simp)⟩, fun _ _ _ h => h, fun _ => trivial, fun _ => ⟨_, n, rfl, Nat.le_refl _⟩⟩
set_option maxRecDepth 100000 in
set_option maxHeartbeats 2000000 in
theorem ttwin_any {w : World} {q p b : Nat} {mk : Int} {L : List Ot} (h : LnAt w q p b mk L) : Calls Try.prog 33 #[.pointer (some ⟨q, 0, none⟩)] w (NewLn w mk L) := by
  obtain ⟨c0, c1, cf⟩ := h.ln.cells
  have HL := Lib.hid h
  clear h
  go_enter Try.func33, Try.ntmps33
  go_wp2_with (fail)
  refine (tnone_any HL.out.ln).mono ?_
  rintro e w2 ⟨rfl, rfl⟩
  go_wp2_with (fail)
  clear c0 c1 cf
  refine wp_region_soup 9 [] (spOf [(4, Spec.twin w.heap.size L)]) (by kernel_rfl) (by kernel_rfl) (spOk_of (by simp [Spec.twin_ok])) (pre_of (by simp [Spec.twin_ok])) ?_
  simp only [List.take_succ_cons, List.take_zero, List.drop_succ_cons, List.drop_zero]
  iterate 4
    with_reducible refine soup_q ?_ ?_ ?_
    · rfl
    · rfl
    with_reducible apply Exists.intro
    with_reducible refine ⟨fun W hk _ => ?_, ?_⟩
    · obtain ⟨c0, c1, cf⟩ := (HL.out.keep hk).ln.cells
      unfold Oper.same
      go_simp
      first | rfl | exact ⟨rfl, rfl⟩
    with_reducible apply Exists.intro
    with_reducible refine ⟨?_, ?_⟩
    · go_simp
      rfl
  refine soup_s rfl rfl rfl (fun W hk _ _ => ?_) ?_
  · unfold Oper.does
    go_simp
    refine (rtwin_any (HL.out.keep hk).st).mono ?_
    rintro e w' ⟨p', b', rfl, hS, h1, h2, hb⟩
    have hs := hk.size
    exact ⟨_, rfl, Keep.of_below hb _, hk.then_below hb, ⟨_, rfl, by omega⟩, _, b', rfl, by omega, by omega, hS⟩
  rintro v ⟨p', rfl, hp'⟩
  with_reducible apply Exists.intro
  with_reducible refine ⟨?_, ?_⟩
  · go_simp
    rfl
  iterate 4
    with_reducible refine soup_q ?_ ?_ ?_
    · rfl
    · rfl
    with_reducible apply Exists.intro
    with_reducible refine ⟨fun W hk _ => ?_, ?_⟩
    · obtain ⟨c0, c1, cf⟩ := (HL.out.keep hk).ln.cells
      unfold Oper.same
      go_simp
      first | rfl | exact ⟨rfl, rfl⟩
    with_reducible apply Exists.intro
    with_reducible refine ⟨?_, ?_⟩
    · go_simp
      rfl
  refine soup_nil (fun W3 hk hS => ?_)
  obtain ⟨p2, b', e1, hp2, hb2, hS3⟩ : ∃ g b, Value.pointer (some ⟨p', 0, none⟩) = .pointer (some ⟨g, 0, none⟩) ∧ w.heap.size ≤ g ∧ w.heap.size ≤ b ∧ SrAt W3 g b L := hS 4
  obtain rfl : p' = p2 := by simpa using e1
  have hka : Keep [] W3 (W3.alloc (.cells #[.pointer (some ⟨p', 0, none⟩), .int .i64 mk] 105)) := (Keep.refl _ _).alloc _
  have hl := hS3.lt
  have HF := Lib.hid (LnAt.mk (LnB.new W3 p' mk) (hS3.keep hka (by simp) (by simp)) (by omega) (by omega))
  have HN := Lib.hid (And.intro hp2 hb2)
  have HB := Lib.hid ((hk.trans hka).below (Nat.le_refl _) (by simp))
  have HZ := Lib.hid hk.size
  clear hka hl hS3 hp2 hb2 hk hS e1
  go_wp2_with (fail)
  go_ret
  exact ⟨_, p', b', rfl, HF.out, HZ.out, HN.out.1, HN.out.2, HB.out⟩
end Go.Proofs.Ytmhbibcfbencnaa
