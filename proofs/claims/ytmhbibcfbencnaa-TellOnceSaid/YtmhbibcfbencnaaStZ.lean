/- StoreKnown: closed runs of the store's plain functions. -/
import Derived.Test.YtmhbibcfbencnaaStY
namespace Go.Proofs.Ytmhbibcfbencnaa
open Go.RowKit Go.Lib
set_option linter.unusedSimpArgs false
set_option linter.unusedVariables false
def lkD (s : Int) (k : List UInt8) : List Ot → Option Ag
  | [] => none
  | o :: r => if s = o.st ∧ k = o.key.data.toList then some o.ag else lkD s k r
theorem lkL_D (s : Int) (k : ByteArray) (L : List Ot) : lkL ⟨s, k⟩ L = lkD s k.data.toList L := by
  induction L with
  | nil => rfl
  | cons o r ih =>
    simp only [lkL, lkD]
    rw [ih]
    have e : ((⟨s, k⟩ : Wd) = wdOf o) ↔ (s = o.st ∧ k.data.toList = o.key.data.toList) := by
      unfold wdOf
      rw [Wd.mk.injEq]
      refine and_congr Iff.rfl ⟨fun h => by rw [h], fun h => ByteArray.ext (Array.ext' h)⟩
    by_cases h : s = o.st ∧ k.data.toList = o.key.data.toList
    · rw [if_pos h, if_pos (e.2 h)]
    · rw [if_neg h, if_neg (fun h2 => h (e.1 h2))]
def ltD (x y : Ot) : Bool := decide (x.st < y.st) || (decide (x.st = y.st) && bl x.key.data.toList y.key.data.toList)
theorem ltB_D (x y : Ot) : ltB x y = ltD x y := by unfold ltB ltD; rw [ByteArray.toList_eq, ByteArray.toList_eq]
def insD (o : Ot) : List Ot → List Ot
  | [] => [o]
  | y :: r => if ltD o y then o :: y :: r else if ltD y o then y :: insD o r else o :: r
theorem insL_D (o : Ot) (L : List Ot) : insL o L = insD o L := by
  induction L with
  | nil => rfl
  | cons y r ih =>
    unfold insL insD
    rw [ih, ltB_D, ltB_D]
theorem putL_D (L : List Ot) (k : ByteArray) (t v : Int) : putL L k t v = if keyB k = false ∨ rightB t = false then (1, L) else if (lkD (startI t) k.data.toList L).isSome = false ∧ 32 ≤ L.length then (6, L) else (0, insD ⟨k, startI t, ((lkD (startI t) k.data.toList L).getD Ag.zero).put v⟩ L) := by
  unfold putL
  rw [lkL_D, insL_D]
theorem setL_D (L : List Ot) (o : Ot) : setL L o = if okO o = false then (1, L) else if (lkD o.st o.key.data.toList L).isSome = true then (5, L) else if 32 ≤ L.length then (6, L) else (0, insD o L) := by
  unfold setL
  rw [show wdOf o = ⟨o.st, o.key⟩ from rfl, lkL_D, insL_D]
theorem ins_end {o : Ot} {L : List Ot} (h : ∀ y ∈ L, ltO y o) : insL o L = L ++ [o] := by
  induction L with
  | nil => rfl
  | cons y r ih =>
    unfold insL
    have hy := h y (by simp)
    rw [if_neg (by rw [ltB_iff]; exact ltO_asymm hy), if_pos (ltB_iff.2 hy), ih (fun z hz => h z (by simp [hz]))]
    rfl
def S9_1 : List Ot := [⟨(⟨#[98]⟩ : ByteArray), 10, ⟨1, 5, 5, 5, 0, 1, 0, 0⟩⟩]
def S9_2 : List Ot := [⟨(⟨#[97]⟩ : ByteArray), 10, ⟨1, 7, 7, 7, 0, 1, 0, 0⟩⟩, ⟨(⟨#[98]⟩ : ByteArray), 10, ⟨1, 5, 5, 5, 0, 1, 0, 0⟩⟩]
def S9_3 : List Ot := [⟨(⟨#[97]⟩ : ByteArray), 10, ⟨1, 7, 7, 7, 0, 1, 0, 0⟩⟩, ⟨(⟨#[98]⟩ : ByteArray), 10, ⟨2, 6, 1, 5, 0, 2, 0, 0⟩⟩]
def S9_4 : List Ot := [⟨(⟨#[97]⟩ : ByteArray), 0, ⟨1, 2, 2, 2, 0, 1, 0, 0⟩⟩, ⟨(⟨#[97]⟩ : ByteArray), 10, ⟨1, 7, 7, 7, 0, 1, 0, 0⟩⟩, ⟨(⟨#[98]⟩ : ByteArray), 10, ⟨2, 6, 1, 5, 0, 2, 0, 0⟩⟩]
theorem E9_1 : putL [] (⟨#[98]⟩ : ByteArray) 12 5 = (0, S9_1) := by rw [putL_D]; kernel_rfl
theorem E9_2 : putL S9_1 (⟨#[97]⟩ : ByteArray) 19 7 = (0, S9_2) := by rw [putL_D]; kernel_rfl
theorem E9_3 : putL S9_2 (⟨#[98]⟩ : ByteArray) 10 1 = (0, S9_3) := by rw [putL_D]; kernel_rfl
theorem E9_4 : putL S9_3 (⟨#[97]⟩ : ByteArray) 3 2 = (0, S9_4) := by rw [putL_D]; kernel_rfl
def S9_5 : List Ot := [⟨(⟨#[97]⟩ : ByteArray), 10, ⟨1, 7, 7, 7, 0, 1, 0, 0⟩⟩, ⟨(⟨#[98]⟩ : ByteArray), 10, ⟨2, 6, 1, 5, 0, 2, 0, 0⟩⟩]
theorem E9_5 : overL 14 S9_4 = [] ∧ restL 14 S9_4 = S9_4 ∧ overL 15 S9_4 = [⟨(⟨#[97]⟩ : ByteArray), 0, ⟨1, 2, 2, 2, 0, 1, 0, 0⟩⟩] ∧ restL 15 S9_4 = S9_5 := ⟨by kernel_rfl, by kernel_rfl, by kernel_rfl, by kernel_rfl⟩
theorem E9_6 : putL S9_5 (⟨#[]⟩ : ByteArray) 3 2 = (1, S9_5) := by rw [putL_D]; kernel_rfl
theorem E9_7 : putL S9_5 (⟨#[97]⟩ : ByteArray) (-1) 1 = (1, S9_5) := by rw [putL_D]; kernel_rfl
theorem E9_8 : setL S9_5 ⟨(⟨#[97]⟩ : ByteArray), 3, ⟨1, 2, 2, 2, 0, 1, 0, 0⟩⟩ = (1, S9_5) := by rw [setL_D]; kernel_rfl
theorem E9_9 : setL S9_5 ⟨(⟨#[97]⟩ : ByteArray), 10, ⟨1, 7, 7, 7, 0, 1, 0, 0⟩⟩ = (5, S9_5) := by rw [setL_D]; kernel_rfl
theorem E9_10 : setL S9_5 ⟨(⟨#[97]⟩ : ByteArray), 0, ⟨0, 0, 0, 0, 0, 0, 0, 0⟩⟩ = (1, S9_5) := by rw [setL_D]; kernel_rfl
def gen9 (n : Nat) : List Ot := (List.range n).map fun (i : Nat) => ⟨(⟨#[107]⟩ : ByteArray), 10 * (i : Int), ⟨1, 1, 1, 1, 0, 1, 0, 0⟩⟩
theorem gen9_len (n : Nat) : (gen9 n).length = n := by simp [gen9]
theorem gen9_put {n : Nat} (hn : n < 32) : putL (gen9 n) (⟨#[107]⟩ : ByteArray) (10 * (n : Int)) 1 = (0, gen9 (n + 1)) := by
  have hs : startI (10 * (n : Int)) = 10 * (n : Int) := by unfold startI; rw [if_pos (by omega)]; omega
  have hr : rightB (10 * (n : Int)) = true := by unfold rightB; rw [decide_eq_true_eq]; omega
  have hlt : ∀ y ∈ gen9 n, ltO y ⟨(⟨#[107]⟩ : ByteArray), 10 * (n : Int), ⟨1, 1, 1, 1, 0, 1, 0, 0⟩⟩ := by
    intro y hy
    unfold gen9 at hy
    obtain ⟨i, hi, rfl⟩ := List.mem_map.1 hy
    rw [List.mem_range] at hi
    exact .inl (by simp only; omega)
  have hl : lkL ⟨10 * (n : Int), (⟨#[107]⟩ : ByteArray)⟩ (gen9 n) = none := lkL_none.2 (fun y hy e => ltO_ne (hlt y hy) e.symm)
  unfold putL
  rw [hs, hl, if_neg (by rw [hr]; rintro (h | h); (have h2 : keyB (⟨#[107]⟩ : ByteArray) = true := by kernel_rfl); rw [h2] at h; cases h; cases h), if_neg (by rw [gen9_len]; omega)]
  congr 1
  rw [show (Option.getD none Ag.zero).put 1 = ⟨1, 1, 1, 1, 0, 1, 0, 0⟩ by kernel_rfl, ins_end hlt]
  unfold gen9
  rw [List.range_succ, List.map_append]
  rfl
def S9_6 : List Ot := gen9 32
def S9_7 : List Ot := ⟨(⟨#[107]⟩ : ByteArray), 0, ⟨2, 2, 1, 1, 0, 2, 0, 0⟩⟩ :: (gen9 32).tail
theorem E9_11 : putL S9_6 (⟨#[107]⟩ : ByteArray) 320 1 = (6, S9_6) := by rw [putL_D]; kernel_rfl
theorem E9_12 : putL S9_6 (⟨#[107]⟩ : ByteArray) 5 1 = (0, S9_7) := by rw [putL_D]; kernel_rfl
theorem E9_13 : setL S9_7 ⟨(⟨#[122]⟩ : ByteArray), 0, ⟨1, 2, 2, 2, 0, 1, 0, 0⟩⟩ = (6, S9_7) := by rw [setL_D]; kernel_rfl
theorem E9_14 : S9_6.length = 32 ∧ S9_7.length = 32 ∧ S9_4.length = 3 ∧ S9_5.length = 2 := ⟨by kernel_rfl, by kernel_rfl, by kernel_rfl, by kernel_rfl⟩
end Go.Proofs.Ytmhbibcfbencnaa
