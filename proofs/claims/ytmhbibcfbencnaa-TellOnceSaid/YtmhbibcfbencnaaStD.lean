/- Aggregates of the document: Plus, Bucket, Put. -/
import Derived.Test.YtmhbibcfbencnaaStC
import Derived.IntWalk
namespace Go.Proofs.Ytmhbibcfbencnaa
open Go.RowKit Go.Lib
set_option linter.unusedSimpArgs false
set_option linter.unusedVariables false
def InR (x : Int) : Prop := -9223372036854775808 ≤ x ∧ x ≤ 9223372036854775807
theorem wrap_in {x : Int} (h1 : -9223372036854775808 ≤ x) (h2 : x ≤ 9223372036854775807) : IntKind.i64.wrap x = x := IntWalk.i64_in _ ⟨h1, h2⟩
theorem wrap_i64 (x : Int) : IntKind.i64.wrap x = (x + 9223372036854775808) % 18446744073709551616 - 9223372036854775808 := IntKind.wrap_i64 x
theorem plus_hi {a b : Int} (ha : InR a) (hb : InR b) (h : 9223372036854775807 < a + b) : plusI a b = 9223372036854775807 := by
  unfold InR at *; unfold plusI; rw [wrap_i64, if_pos (by omega)]
theorem plus_lo {a b : Int} (ha : InR a) (hb : InR b) (h : a + b < -9223372036854775808) : plusI a b = -9223372036854775808 := by
  unfold InR at *; unfold plusI; rw [wrap_i64, if_neg (by omega), if_pos (by omega)]
theorem plus_mid {a b : Int} (h1 : -9223372036854775808 ≤ a + b) (h2 : a + b ≤ 9223372036854775807) : plusI a b = a + b := by
  unfold plusI; rw [wrap_in h1 h2, if_neg (by omega), if_neg (by omega)]
theorem plus_in {a b : Int} (ha : InR a) (hb : InR b) : InR (plusI a b) := by
  by_cases h1 : 9223372036854775807 < a + b
  · rw [plus_hi ha hb h1]; unfold InR; omega
  · by_cases h2 : a + b < -9223372036854775808
    · rw [plus_lo ha hb h2]; unfold InR; omega
    · rw [plus_mid (by omega) (by omega)]; unfold InR; omega
theorem plus_zero {a : Int} (ha : InR a) : plusI a 0 = a := by unfold InR at ha; rw [plus_mid (by omega) (by omega)]; omega
theorem zero_plus {a : Int} (ha : InR a) : plusI 0 a = a := by unfold InR at ha; rw [plus_mid (by omega) (by omega)]; omega
theorem ret_i {k : IntKind} {a b : Int} (h : a = b) : Ending.returned (.int k a) = .returned (.int k b) := by rw [h]
theorem rplus_any (a b : Int) (ha : InR a) (hb : InR b) (w : World) : Calls Try.prog 81 #[.int .i64 a, .int .i64 b] w fun e w' => e = .returned (.int .i64 (plusI a b)) ∧ w = w' := by
  have HA := Lib.hid ha
  have HB := Lib.hid hb
  clear ha hb
  go_enter Try.func81, Try.ntmps81
  go_wp2
  all_goals
    go_ret
    refine ⟨ret_i ?_, rfl⟩
    have ha := HA.out
    have hb := HB.out
    unfold InR at ha hb
    unfold plusI
    rw [wrap_i64]
    unfold wrap64 at *
    split
    · omega
    · split <;> omega
theorem rbucket_any (v : Int) (w : World) : Calls Try.prog 82 #[.int .i64 v] w fun e w' => e = .returned (.int .i64 (bucketI v)) ∧ w = w' := by
  go_enter Try.func82, Try.ntmps82
  go_wp2
  all_goals
    go_ret
    refine ⟨ret_i ?_, rfl⟩
    unfold bucketI
    (repeat' split) <;> omega
structure Ag.Wf (a : Ag) : Prop where
  c : InR a.c
  s : InR a.s
  lo : InR a.lo
  hi : InR a.hi
  b0 : InR a.b0
  b1 : InR a.b1
  b2 : InR a.b2
  b3 : InR a.b3
theorem Ag.zero_wf : Ag.zero.Wf := by constructor <;> (unfold InR Ag.zero; simp)
theorem inR_small {x : Int} (h : 0 ≤ x) (h2 : x ≤ 1000) : InR x := by unfold InR; omega
theorem Ag.one_wf {v : Int} (h : InR v) : (Ag.one v).Wf := by
  unfold Ag.one
  constructor <;> first | exact h | (refine inR_small ?_ ?_ <;> (simp only []; first | omega | (split <;> omega)))
theorem Ag.join_wf {a b : Ag} (ha : a.Wf) (hb : b.Wf) : (a.join b).Wf where
  c := plus_in ha.c hb.c
  s := plus_in ha.s hb.s
  lo := by
    have h1 := ha.lo
    have h2 := hb.lo
    have h0 : InR 0 := inR_small (by omega) (by omega)
    simp only [Ag.join]
    repeat' split
    all_goals assumption
  hi := by
    have h1 := ha.hi
    have h2 := hb.hi
    have h0 : InR 0 := inR_small (by omega) (by omega)
    simp only [Ag.join]
    repeat' split
    all_goals assumption
  b0 := plus_in ha.b0 hb.b0
  b1 := plus_in ha.b1 hb.b1
  b2 := plus_in ha.b2 hb.b2
  b3 := plus_in ha.b3 hb.b3
theorem Ag.put_wf {a : Ag} {v : Int} (ha : a.Wf) (hv : InR v) : (a.put v).Wf := Ag.join_wf ha (Ag.one_wf hv)
/-- What the document's Put does. -/
theorem Ag.put_eq {a : Ag} {v : Int} (ha : a.Wf) : a.put v = ⟨plusI a.c 1, plusI a.s v, if a.c = 0 ∨ v < a.lo then v else a.lo, if a.c = 0 ∨ a.hi < v then v else a.hi,
    if bucketI v = 0 then plusI a.b0 1 else a.b0, if bucketI v = 1 then plusI a.b1 1 else a.b1, if bucketI v = 2 then plusI a.b2 1 else a.b2, if bucketI v = 3 then plusI a.b3 1 else a.b3⟩ := by
  unfold Ag.put Ag.join Ag.one
  simp only [Ag.mk.injEq, true_and]
  refine ⟨?_, ?_, ?_, ?_, ?_, ?_⟩
  · by_cases h : a.c = 0
    · simp [h]
    · simp [h]
  · by_cases h : a.c = 0
    · simp [h]
    · simp [h]
  · split; rfl; exact plus_zero ha.b0
  · split; rfl; exact plus_zero ha.b1
  · split; rfl; exact plus_zero ha.b2
  · split; rfl; exact plus_zero ha.b3
end Go.Proofs.Ytmhbibcfbencnaa
