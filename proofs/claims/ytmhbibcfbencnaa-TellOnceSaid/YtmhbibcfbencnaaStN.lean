/- The store: Twin; the chapter's first examples. -/
import Derived.Test.YtmhbibcfbencnaaStM
import Derived.Test.YtmhbibcfbencnaaStH
namespace Go.Proofs.Ytmhbibcfbencnaa
open Go.RowKit Go.Shelf Go.Lib
open Go.ChangeMaps (setBlock)
set_option linter.unusedSimpArgs false
set_option linter.unusedVariables false
theorem stwin_nil (w : World) : Calls Try.prog 46 #[.pointer none] w fun e w' => e = .returned (.pointer none) ∧ w = w' := by
  go_enter Try.func46, Try.ntmps46
  go_wp2
  go_ret
  exact ⟨rfl, rfl⟩
/-- A store that is new in w'. -/
def NewSt (w : World) (m : St) (e : Ending) (w' : World) : Prop := ∃ p b, e = .returned (.pointer (some ⟨p, 0, none⟩)) ∧ StAt w' p b m ∧ w.heap.size ≤ p ∧ w.heap.size ≤ b ∧ Below w.heap.size w w'
theorem stwin_any {w : World} {p b : Nat} {m : St} (h : StAt w p b m) : Calls Try.prog 46 #[.pointer (some ⟨p, 0, none⟩)] w (NewSt w m) := by
  obtain ⟨c0, c1⟩ := h.cells
  obtain ⟨es, clock, hb, h1, h2, h3, h4⟩ := h.map
  have hm : MapIs ekW Ag.val (w.alloc (.map es clock)) w.heap.size m := ⟨es, clock, World.alloc_heap_new w _, h1, h2, h3, h4⟩
  have HM := Lib.hid hm
  have HC := Lib.hid (AnyW.maps_Clone cloneM b es clock w hb)
  clear h hb h1 h2 h3 h4 hm
  go_enter Try.func46, Try.ntmps46
  go_wp2_with (fail)
  refine HC.out.mono ?_
  rintro e w' ⟨rfl, rfl⟩
  go_wp2_with (fail)
  go_ret
  refine ⟨_, _, rfl, ⟨?_, HM.out.alloc _⟩, by omega, Nat.le_refl _, ((Below.refl _ w).alloc (Nat.le_refl _) _).alloc (by simp) _⟩
  have := World.alloc_heap_new (w.alloc (.map es clock)) (.cells #[.map (some w.heap.size)] 93)
  rwa [World.size_alloc] at this
theorem snewS (w : World) : Calls Try.prog 18 #[] w (NewSt w []) := by
  refine (snew_any w).mono ?_
  rintro e w' ⟨rfl, rfl⟩
  refine ⟨_, _, rfl, ⟨?_, (MapIs.new w).alloc _⟩, by omega, Nat.le_refl _, ((Below.refl _ w).alloc (Nat.le_refl _) _).alloc (by simp) _⟩
  have := World.alloc_heap_new (w.alloc (.map #[] 0)) (.cells #[.map (some w.heap.size)] 93)
  rwa [World.size_alloc] at this
def kA : ByteArray := ⟨#[97]⟩
def kB : ByteArray := ⟨#[98]⟩
def wk1 : St := [(⟨10, kB⟩, ⟨1, 5, 5, 5, 0, 1, 0, 0⟩)]
def wk2 : St := [(⟨10, kB⟩, ⟨1, 5, 5, 5, 0, 1, 0, 0⟩), (⟨0, kA⟩, ⟨1, 2, 2, 2, 0, 1, 0, 0⟩)]
def wk3 : St := [(⟨10, kB⟩, ⟨2, 6, 1, 5, 0, 2, 0, 0⟩), (⟨0, kA⟩, ⟨1, 2, 2, 2, 0, 1, 0, 0⟩)]
def wkL : List Ot := [⟨kA, 0, ⟨1, 2, 2, 2, 0, 1, 0, 0⟩⟩, ⟨kB, 10, ⟨2, 6, 1, 5, 0, 2, 0, 0⟩⟩]
theorem wkp1 : stPut [] kB 12 5 = (0, wk1) := by kernel_rfl
theorem wkp2 : stPut wk1 kA 3 2 = (0, wk2) := by kernel_rfl
theorem wkp3 : stPut wk2 kB 10 1 = (0, wk3) := by kernel_rfl
theorem wkg : (look ⟨10, kB⟩ wk3).getD Ag.zero = ⟨2, 6, 1, 5, 0, 2, 0, 0⟩ ∧ (look ⟨10, kB⟩ wk3).isSome = true := ⟨by kernel_rfl, by kernel_rfl⟩
theorem wkO : OrdO wk3 wkL := ⟨List.Perm.swap _ _ _, by simp [wkL, ltO]⟩
theorem wko : overL 15 wkL = [⟨kA, 0, ⟨1, 2, 2, 2, 0, 1, 0, 0⟩⟩] := by kernel_rfl
theorem wkr : restL 15 wkL = [⟨kB, 10, ⟨2, 6, 1, 5, 0, 2, 0, 0⟩⟩] := by kernel_rfl
theorem sput_at {w : World} {p b : Nat} {m m' : St} {k : ByteArray} {t v e0 : Int} (hp : stPut m k t v = (e0, m')) (h : StAt w p b m) (hn : (m.map (·.1)).Nodup) (hm : m.length ≤ 1000) (hk : k.size ≤ maxLen) :
    Calls Try.prog 20 #[.pointer (some ⟨p, 0, none⟩), .string k, .int .i64 t, .int .i64 v] w fun e w' => e = .returned (.int .i64 e0) ∧ StAt w' p b m' ∧ Keep [b] w w' := by
  have := sput_any h hn hm k hk t v
  rwa [hp] at this
set_option maxRecDepth 100000 in
set_option maxHeartbeats 4000000 in
theorem wakes09 (w : World) : Calls Try.prog 17 #[] w fun e w' => e = .returned (.bool true) ∧ Below w.heap.size w w' := by
  go_enter Try.func17, Try.ntmps17
  go_wp2_with (fail)
  refine (snewS _).mono ?_
  rintro e w1 ⟨p, b, rfl, hS1, hp, hb, hB⟩
  go_wp2_with (fail)
  refine (sput_at (k := kB) wkp1 hS1 (by decide) (by decide) (by decide)).mono ?_
  rintro e w2 ⟨rfl, hS2, hK2⟩
  go_wp2_with (fail)
  refine (sput_at (k := kA) wkp2 hS2 (by decide) (by decide) (by decide)).mono ?_
  rintro e w3 ⟨rfl, hS3, hK3⟩
  go_wp2_with (fail)
  refine (sput_at (k := kB) wkp3 hS3 (by decide) (by decide) (by decide)).mono ?_
  rintro e w4 ⟨rfl, hS4, hK4⟩
  have hK : Keep [b] w w4 := (((Keep.of_below hB [b]).trans hK2).trans hK3).trans hK4
  clear hS1 hS2 hS3 hK2 hK3 hK4 hB
  have HK := Lib.hid hK
  have hg := sget_any hS4 kB 10
  rw [wkg.1, wkg.2] at hg
  have HS := Lib.hid hS4
  have HG := Lib.hid hg
  clear hK hg hS4
  go_wp2_with (fail)
  refine HG.out.mono ?_
  rintro e w5 ⟨rfl, hB5⟩
  have HS5 := Lib.hid (HS.out.below hB5)
  have HK5 := Lib.hid (HK.out.then_below hB5)
  have hz5 : w5.heap.size = w5.heap.size := rfl
  simp only [Ag.val]
  clear hB5 HS HK HG hz5
  go_wp2_with (fail)
  have ha := Bx.new w5 2 6 1 5 0 2 0 0
  have hS6 := HS5.out.below ((Below.refl _ w5).alloc (Nat.le_refl _) (agObj 2 6 1 5 0 2 0 0))
  have hpl := hS6.lt
  refine (stake_any hS6 (by decide) wkO 15).mono ?_
  rintro e w6 ⟨A, c, m', rfl, hE, hS7, hO, hK7⟩
  rw [wkr] at hO
  rw [wko] at hE ⊢
  have hlen := hS_len hO
  have ha7 := Bx.keep ha hK7 (by have := HS5.out.lt; simp; omega)
  have hfin : Keep [b] w w6 := (HK5.out.alloc _).trans hK7
  obtain ⟨g, rfl, hg0, hg1, c0, _⟩ := hE.cells (k := 0) rfl
  simp only [Nat.zero_mul] at c0
  have hln := slen_any hS7
  rw [← hlen] at hln
  simp only [List.length_cons, List.length_nil] at hln
  obtain ⟨r0, r1, r2, r3, r4, r5, r6, r7, r8, rf⟩ := ha7.facts
  have hka : kA.toList = [97] := by rw [ByteArray.toList_eq]; rfl
  have hkb : (kA.toList == [97]) = true := by rw [hka]; rfl
  have HL := Lib.hid hln
  have HF := Lib.hid hfin
  clear ha hS6 hE hS7 hO hK7 hlen ha7 hfin hln HS5 HK5
  go_wp2_with (fail)
  refine HL.out.mono ?_
  rintro e w7 ⟨rfl, rfl⟩
  go_wp2_with (fail)
  go_ret
  exact ⟨rfl, HF.out.below (Nat.le_refl _) (by simp; omega)⟩
end Go.Proofs.Ytmhbibcfbencnaa
