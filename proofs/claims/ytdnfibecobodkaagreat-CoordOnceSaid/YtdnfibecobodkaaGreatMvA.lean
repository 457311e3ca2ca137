/- Contracts of package table's Right and May, and of slices.ContainsFunc at its closure. -/
import Derived.Test.YtdnfibecobodkaaGreatProg
import Derived.WalkKit
import Derived.WalkSpells
import Derived.WalkLawsBesides
import Derived.Deep.QuietTactic
import Derived.BigQuiet
import Derived.Deep.Light
import Derived.Lib.Hide
import Derived.Outline
import Derived.Laws.AppendOwn
import Derived.Laws.OwnMore
import Derived.OwnWalk
import Derived.Maps.AppendAt
import Derived.LoopTactic
import Derived.Below
namespace Go.Proofs.YtdnfibecobodkaaGreat
open Go.RowKit
set_option linter.unusedSimpArgs false
set_option linter.unusedVariables false

/-- A table: what it holds, and how its owners lie. -/
structure Tb where
  ep : Int
  nodes : Int
  oa : Option Addr
  oc : Nat
  owner : List Int
/-- A slice of ints that is read: its cells. -/
def IntsAt (W : World) (a : Option Addr) (l : List Int) : Prop :=
  l ≠ [] → ∃ b off, a = some ⟨b, off, none⟩ ∧ b < W.heap.size ∧ ∀ j, j < l.length → W.cell? ⟨b, off + j, none⟩ = some (.int .i64 (l[j]?.getD 0))
theorem IntsAt.below {W W' : World} {a : Option Addr} {l : List Int} (h : IntsAt W a l) (hb : Below W.heap.size W W') : IntsAt W' a l := by
  intro hl
  obtain ⟨b, off, h1, h2, h3⟩ := h hl
  exact ⟨b, off, h1, Nat.lt_of_lt_of_le h2 hb.size, fun j hj => (hb.cell (p := ⟨b, off + j, none⟩) h2).trans (h3 j hj)⟩
theorem IntsAt.alloc {W : World} {a : Option Addr} {l : List Int} (h : IntsAt W a l) (o : Obj) : IntsAt (W.alloc o) a l := h.below ((Below.refl _ W).alloc (Nat.le_refl _) o)
def Tb.val (t : Tb) : Value := .agg #[.int .i64 t.ep, .int .i64 t.nodes, .slice t.oa t.owner.length t.oc]
def outN (nodes n : Int) : Bool := !(decide (0 ≤ n) && decide (n < nodes))
def Tb.right (t : Tb) : Bool := decide (1 ≤ t.ep) && decide (1 ≤ t.nodes) && decide (t.nodes ≤ 4) && decide (1 ≤ t.owner.length) && decide (t.owner.length ≤ 8) && !(t.owner.any (outN t.nodes))
def Tb.may (t : Tb) (part to : Int) : Int :=
  if t.right = false ∨ 2147483647 ≤ t.ep then 1
  else if part < 0 ∨ (t.owner.length : Int) ≤ part then 21
  else if to < 0 ∨ t.nodes ≤ to then 22
  else if t.owner[part.toNat]?.getD 0 = to then 23
  else 0

theorem right1_any (n nodes : Int) (b : Nat) (w : World) (h : w.cell? ⟨b, 1, none⟩ = some (.int .i64 nodes)) :
    Calls Tryz.prog 47 #[.int .i64 n, .pointer (some ⟨b, 0, none⟩)] w fun e w' => e = .returned (.bool (outN nodes n)) ∧ w = w' := by
  by_cases h0 : n < 0
  · go_enter Tryz.func47, Tryz.ntmps47
    go_wp2
    go_ret
    go_light
    exact ⟨by simp [outN]; omega, rfl⟩
  · by_cases h1 : nodes ≤ n
    · go_enter Tryz.func47, Tryz.ntmps47
      go_wp2
      go_ret
      go_light
      exact ⟨by simp [outN]; omega, rfl⟩
    · go_enter Tryz.func47, Tryz.ntmps47
      go_wp2
      go_ret
      go_light
      exact ⟨by simp [outN]; omega, rfl⟩
set_option maxHeartbeats 1000000 in
theorem indexFunc_any (l : List Int) (a : Option Addr) (c : Nat) (nodes : Int) (b : Nat) (w : World) (hl : l.length ≤ 1000) (hI : IntsAt w a l) (h : w.cell? ⟨b, 1, none⟩ = some (.int .i64 nodes)) :
    Calls Tryz.prog 62 #[.slice a l.length c, .func (.func 47) #[] #[.pointer (some ⟨b, 0, none⟩)]] w fun e w' =>
      (∃ r : Int, e = .returned (.int .i64 r) ∧ (decide (0 ≤ r) = l.any (outN nodes))) ∧ w = w' := by
  go_enter Tryz.func62, Tryz.ntmps62
  go_wp2_with (fail)
  go_loop [8] (fun i => ∃ k : Nat, k ≤ l.length ∧ i = .int .i64 k ∧ (l.take k).any (outN nodes) = false) (fun i => l.length - (intOf i).toNat)
  case atStart => exact ⟨0, Nat.zero_le _, rfl, rfl⟩
  case round =>
    obtain ⟨k, hk, rfl, hany⟩ := hrel
    by_cases hlt : k < l.length
    · obtain ⟨b', off, rfl, hb', hcell⟩ := hI (by intro e; rw [e] at hlt; simp at hlt)
      have hck := hcell k hlt
      have ht : l.take (k + 1) = l.take k ++ [l[k]?.getD 0] := by
        rw [List.take_add_one, List.getElem?_eq_getElem hlt]; rfl
      have hany' : (l.take (k + 1)).any (outN nodes) = outN nodes (l[k]?.getD 0) := by rw [ht, List.any_append, hany]; simp
      have hmem : outN nodes (l[k]?.getD 0) = true → l.any (outN nodes) = true := by
        intro h1
        rw [List.any_eq_true]
        refine ⟨l[k], List.getElem_mem hlt, ?_⟩
        rwa [List.getElem?_eq_getElem hlt] at h1
      obtain ⟨x, hx⟩ : ∃ x, l[k]?.getD 0 = x := ⟨_, rfl⟩
      rw [hx] at hck hany' hmem
      have HA := Lib.hid hany'
      have HM := Lib.hid hmem
      clear hany' hmem ht hcell hI hany hx
      cases hout : outN nodes x with
      | true =>
        go_wp2_with (go_at_call 47; refine (right1_any _ nodes _ _ h).mono ?_; rintro e w' ⟨rfl, rfl⟩)
        go_ret
        exact ⟨⟨_, rfl, by rw [HM.out hout]; simp⟩, rfl⟩
      | false =>
        go_wp2_with (go_at_call 47; refine (right1_any _ nodes _ _ h).mono ?_; rintro e w' ⟨rfl, rfl⟩)
        go_round
        case rel => exact ⟨k + 1, by omega, by go_num, by rw [HA.out]; exact hout⟩
        case measure => go_light; simp [intOf]; omega
    · obtain rfl : k = l.length := by omega
      rw [List.take_length] at hany
      have HA := Lib.hid hany
      clear hany
      go_wp2_with (fail)
      go_ret
      exact ⟨⟨_, rfl, by rw [HA.out]; rfl⟩, rfl⟩
theorem containsFunc_any (l : List Int) (a : Option Addr) (c : Nat) (nodes : Int) (b : Nat) (w : World) (hl : l.length ≤ 1000) (hI : IntsAt w a l) (h : w.cell? ⟨b, 1, none⟩ = some (.int .i64 nodes)) :
    Calls Tryz.prog 46 #[.slice a l.length c, .func (.func 47) #[] #[.pointer (some ⟨b, 0, none⟩)]] w fun e w' =>
      e = .returned (.bool (l.any (outN nodes))) ∧ w = w' := by
  go_enter Tryz.func46, Tryz.ntmps46
  go_wp2_with (go_at_call 62; refine (indexFunc_any l a c nodes b _ hl hI h).mono ?_; rintro e w' ⟨⟨r, rfl, hr⟩, rfl⟩; have HR := Lib.hid hr; clear hr)
  go_ret
  exact ⟨by rw [← HR.out]; rfl, rfl⟩
set_option maxHeartbeats 1000000 in
theorem tright_any (t : Tb) (w : World) (hI : IntsAt w t.oa t.owner) :
    Calls Tryz.prog 32 #[t.val] w fun e w' => e = .returned (.bool t.right) ∧ Below w.heap.size w w' := by
  obtain ⟨ep, nodes, oa, oc, l⟩ := t
  simp only [Tb.val] at *
  by_cases h1 : 1 ≤ ep ∧ 1 ≤ nodes ∧ nodes ≤ 4 ∧ 1 ≤ l.length ∧ l.length ≤ 8
  · obtain ⟨a1, a2, a3, a4, a5⟩ := h1
    have fin : Tb.right ⟨ep, nodes, oa, oc, l⟩ = !(l.any (outN nodes)) := by simp [Tb.right, a1, a2, a3, a4, a5]
    have HF := Lib.hid fin
    have HI := Lib.hid hI
    clear fin hI
    have a4' : (1 : Int) ≤ l.length := by omega
    have a5' : (l.length : Int) ≤ 8 := by omega
    go_enter Tryz.func32, Tryz.ntmps32
    go_wp2_with (go_at_call 46; refine (containsFunc_any l oa oc nodes w.heap.size _ (by omega) (HI.out.alloc _) (by go_simp)).mono ?_; rintro e w' ⟨rfl, rfl⟩)
    go_ret
    exact ⟨by rw [HF.out]; rfl, (Below.refl _ _).alloc (Nat.le_refl _) _⟩
  · have fin : Tb.right ⟨ep, nodes, oa, oc, l⟩ = false := by simp [Tb.right]; omega
    have HF := Lib.hid fin
    clear fin hI
    have h2 : ¬ 1 ≤ ep ∨ 1 ≤ ep ∧ ¬ 1 ≤ nodes ∨ (1 ≤ ep ∧ 1 ≤ nodes) ∧ ¬ nodes ≤ 4 ∨ (1 ≤ ep ∧ 1 ≤ nodes ∧ nodes ≤ 4) ∧ ¬ (1 : Int) ≤ l.length ∨ (1 ≤ ep ∧ 1 ≤ nodes ∧ nodes ≤ 4 ∧ (1 : Int) ≤ l.length) ∧ ¬ (l.length : Int) ≤ 8 := by omega
    clear h1
    rcases h2 with h | ⟨h0, h⟩ | ⟨⟨h0, h1⟩, h⟩ | ⟨⟨h0, h1, h2⟩, h⟩ | ⟨⟨h0, h1, h2, h3⟩, h⟩
    all_goals
      go_enter Tryz.func32, Tryz.ntmps32
      go_wp2_with (fail)
      go_ret
      exact ⟨by rw [HF.out]; rfl, (Below.refl _ _).alloc (Nat.le_refl _) _⟩
end Go.Proofs.YtdnfibecobodkaaGreat
