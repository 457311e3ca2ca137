/- The statements' own small functions: first, awake, Great. -/
import Derived.Test.YtbkbekdeplolnaaMvE
namespace Go.Proofs.Ytbkbekdeplolnaa
open Go.RowKit
open Go.ChangeMaps (setBlock)
set_option linter.unusedSimpArgs false
set_option linter.unusedVariables false
def fstTb (b : Nat) : Tb := ⟨1, 2, some ⟨b, 0, none⟩, 3, [0, 1, 0]⟩
def FstP (w : World) (e : Ending) (w' : World) : Prop := (∃ b, e = .returned (.agg #[.int .i64 1, .int .i64 2, .slice (some ⟨b, 0, none⟩) 3 3]) ∧ IntsAt w' (some ⟨b, 0, none⟩) [0, 1, 0] ∧ w.heap.size ≤ b) ∧ Below w.heap.size w w'
theorem first_any (w : World) : Calls Try.prog 34 #[] w (FstP w) := by
  go_enter Try.func34, Try.ntmps34
  go_wp2
  refine bodyPost_ret (v := .agg #[.int .i64 1, .int .i64 2, .slice (some ⟨w.heap.size + 1, 0, none⟩) 3 3]) (by simp [results, Try.results34, go_sem]) rfl ⟨⟨w.heap.size + 1, rfl, ?_, Nat.le_succ _⟩, ?_⟩
  · intro _
    refine ⟨_, _, rfl, by simp, fun j hj => ?_⟩
    simp only [List.length_cons, List.length_nil] at hj
    match j, hj with
    | 0, _ => go_simp
    | 1, _ => go_simp
    | 2, _ => go_simp
  · exact ((Below.refl _ _).alloc (Nat.le_refl _) _).alloc (by simp) _
def GreatP (n : Nat) (w : World) (e : Ending) (w' : World) : Prop := (∃ g : Bool, e = .returned (.bool g) ∧ (g = false → n ≤ 300)) ∧ w = w'
set_option maxRecDepth 100000 in
theorem great_any {w : World} {A : Option Addr} {L : List Ac} {c : Nat} (h : ActsAt w A L) (hlen : L.length ≤ 9223372036854775807) :
    Calls Try.prog 29 #[.slice A L.length c] w (GreatP L.length w) := by
  have H := Lib.hid h
  clear h
  have hz := Int.natCast_nonneg L.length
  go_enter Try.func29, Try.ntmps29
  go_wp2_with (fail)
  go_loop [3] (fun i => ∃ k : Nat, k ≤ L.length ∧ k ≤ 301 ∧ i = .int .i64 k) (fun i => L.length - (intOf i).toNat)
  case atStart => exact ⟨0, Nat.zero_le _, by omega, rfl⟩
  case round =>
    obtain ⟨k, hk, hk3, rfl⟩ := hrel
    by_cases hlt : k < L.length
    · by_cases h300 : k ≤ 300
      · obtain ⟨b, off, rfl, hb, hact⟩ := H.out (by intro e; rw [e] at hlt; simp at hlt)
        obtain ⟨x, hx⟩ : ∃ x, L[k]? = some x := ⟨L[k], List.getElem?_eq_getElem hlt⟩
        have h3 := (hact k x hx).c3
        obtain ⟨dd, ⟨ep, nodes, oa, oc, own⟩, part, to⟩ := x
        simp only at h3
        clear hact hx
        go_wp2_with (fail)
        · go_ret
          exact ⟨⟨true, rfl, fun h => by cases h⟩, rfl⟩
        · go_round
          case rel => exact ⟨k + 1, by omega, by omega, by go_num⟩
          case measure => go_light; simp [intOf]; omega
      · go_wp2_with (fail)
        go_ret
        exact ⟨⟨decide (300 < (L.length : Int)), rfl, fun h => by simp at h; omega⟩, rfl⟩
    · obtain rfl : k = L.length := by omega
      go_wp2_with (fail)
      go_ret
      exact ⟨⟨decide (300 < (L.length : Int)), rfl, fun h => by simp at h; omega⟩, rfl⟩
/-- A book of this call's own: its map, its last number. -/
def Bk (base : Nat) (W : World) (p : Nat) (m : List (Int × En)) (last : Int) : Prop :=
  ∃ om, BookAt W p om m last ∧ (m.map (·.1)).Nodup ∧ 0 ≤ last ∧ last ≤ 2147483647 ∧ base ≤ p ∧ ∀ b, om = some b → base ≤ b
theorem Bk.below {base : Nat} {W W' : World} {p : Nat} {m : List (Int × En)} {last : Int} (h : Bk base W p m last) (hB : Below W.heap.size W W') : Bk base W' p m last := by
  obtain ⟨om, h1, h2⟩ := h
  exact ⟨om, h1.below hB, h2⟩
theorem Bk.alloc {base : Nat} {W : World} {p : Nat} {m : List (Int × En)} {last : Int} (h : Bk base W p m last) (o : Obj) : Bk base (W.alloc o) p m last :=
  h.below ((Below.refl _ W).alloc (Nat.le_refl _) o)
theorem Bk.lt {base : Nat} {W : World} {p : Nat} {m : List (Int × En)} {last : Int} (h : Bk base W p m last) : p < W.heap.size := by
  obtain ⟨om, h1, h2⟩ := h
  exact lt_of_heap h1.blk
theorem Bk.le {base : Nat} {W : World} {p : Nat} {m : List (Int × En)} {last : Int} (h : Bk base W p m last) : base ≤ p := by
  obtain ⟨om, h1, h2, h3, h4, h5, h6⟩ := h
  exact h5
theorem newS {base : Nat} (w : World) (hb : base ≤ w.heap.size) : Calls Try.prog 30 #[] w fun e w' => ∃ p, e = .returned (.pointer (some ⟨p, 0, none⟩)) ∧ Bk base w' p [] 0 ∧ Below base w w' ∧ p < w'.heap.size :=
  (new_any w).mono fun e w' ⟨he, hw⟩ => by
    subst hw
    exact ⟨w.heap.size, he, ⟨none, book_new w, by simp, by omega, by omega, hb, fun b h => by cases h⟩, (Below.refl _ w).alloc hb _, by simp⟩
theorem snoc_nodup {m : List (Int × En)} {k : Int} {v : En} (hn : (m.map (·.1)).Nodup) (hl : look k m = none) : ((m ++ [(k, v)]).map (·.1)).Nodup := by
  rw [List.map_append, List.nodup_append]
  refine ⟨hn, by simp, fun a ha b hb => ?_⟩
  obtain rfl : b = k := by simpa using hb
  obtain ⟨q, hq, rfl⟩ := List.mem_map.1 ha
  exact fun e => look_none.1 hl q hq e.symm
theorem del_nodup {m : List (Int × En)} {k : Int} (hn : (m.map (·.1)).Nodup) : ((del k m).map (·.1)).Nodup :=
  ((List.filter_sublist).map _).nodup hn
theorem ordF_nodup {t : Tb} {part to : Int} {m : List (Int × En)} {last : Int} (hn : (m.map (·.1)).Nodup) : ((ordF t part to m last).2.2.1.map (·.1)).Nodup := by
  unfold ordF
  split
  · exact hn
  · split
    · exact hn
    · rename_i h
      split
      · exact hn
      · have hl : look part m = none := by cases hh : look part m with | none => rfl | some v => rw [hh] at h; exact absurd rfl h
        exact snoc_nodup hn hl
theorem ordF_last {t : Tb} {part to : Int} {m : List (Int × En)} {last : Int} (h0 : 0 ≤ last) (h1 : last ≤ 2147483647) : 0 ≤ (ordF t part to m last).2.2.2 ∧ (ordF t part to m last).2.2.2 ≤ 2147483647 := by
  unfold ordF
  split
  · exact ⟨h0, h1⟩
  · split
    · exact ⟨h0, h1⟩
    · split
      · exact ⟨h0, h1⟩
      · exact ⟨by simp only []; omega, by simp only []; omega⟩
theorem foot_ge {base p : Nat} {om : Option Nat} (h : base ≤ p) (ho : ∀ b, om = some b → base ≤ b) : ∀ x ∈ foot p om, base ≤ x := by
  intro x hx
  rcases List.mem_cons.1 hx with e | e
  · rw [e]; exact h
  · exact ho x (by simpa using e)
theorem orderS {base : Nat} {w : World} {p : Nat} {m : List (Int × En)} {last : Int} (h : Bk base w p m last) (t : Tb) (hI : IntsAt w t.oa t.owner) (hsep : t.owner ≠ [] → ∀ a, t.oa = some a → a.block ≠ p) (part to : Int) :
    Calls Try.prog 31 #[.pointer (some ⟨p, 0, none⟩), t.val, .int .i64 part, .int .i64 to] w fun e w' =>
      e = .returned (.tuple #[.int .i64 (ordF t part to m last).1, .int .i64 (ordF t part to m last).2.1]) ∧ Bk base w' p (ordF t part to m last).2.2.1 (ordF t part to m last).2.2.2 ∧ Below base w w' := by
  obtain ⟨om, h1, h2, h3, h4, h5, h6⟩ := h
  refine (order_any h1 h2 h3 t hI hsep part to).mono ?_
  rintro e w' ⟨he, ⟨om', hb, ho⟩, hk⟩
  have hp : p < w.heap.size := lt_of_heap h1.blk
  refine ⟨he, ⟨om', hb, ordF_nodup h2, (ordF_last h3 h4).1, (ordF_last h3 h4).2, h5, ?_⟩, hk.below (by omega) (foot_ge h5 h6)⟩
  intro b hbb
  rcases ho with e1 | ⟨_, b', e2, e3⟩
  · exact h6 b (e1 ▸ hbb)
  · rw [e2] at hbb
    obtain rfl : b' = b := by simpa using hbb
    omega
theorem endS {base : Nat} {w : World} {p : Nat} {m : List (Int × En)} {last : Int} (h : Bk base w p m last) (k : Int) :
    Calls Try.prog 32 #[.pointer (some ⟨p, 0, none⟩), .int .i64 k] w fun e w' => e = .returned (.bool (look k m).isSome) ∧ Bk base w' p (del k m) last ∧ Below base w w' := by
  obtain ⟨om, h1, h2, h3, h4, h5, h6⟩ := h
  have hp : p < w.heap.size := lt_of_heap h1.blk
  exact (end_book h1 h2 k).mono fun e w' ⟨he, hb, hk⟩ => ⟨he, ⟨om, hb, del_nodup h2, h3, h4, h5, h6⟩, hk.below (by omega) (foot_ge h5 h6)⟩
theorem lastS {base : Nat} {w : World} {p : Nat} {m : List (Int × En)} {last : Int} (h : Bk base w p m last) :
    Calls Try.prog 33 #[.pointer (some ⟨p, 0, none⟩)] w fun e w' => e = .returned (.int .i64 last) ∧ w = w' := by
  obtain ⟨om, h1, _⟩ := h
  exact last_any h1
theorem ofS {base : Nat} {w : World} {p : Nat} {m : List (Int × En)} {last : Int} (h : Bk base w p m last) (k : Int) :
    Calls Try.prog 35 #[.pointer (some ⟨p, 0, none⟩), .int .i64 k] w fun e w' => e = .returned (.tuple #[((look k m).getD En.zero).val, .bool (look k m).isSome]) ∧ Below w.heap.size w w' := by
  obtain ⟨om, h1, _⟩ := h
  exact of_any h1 k
theorem fst_o1 (b : Nat) : ordF (fstTb b) 0 1 [] 0 = (1, 0, [(0, ⟨1, 0, 0, 1⟩)], 1) := by simp [ordF, fstTb, Tb.may, Tb.right, outN, look]
theorem fst_o2 (b : Nat) : ordF (fstTb b) 0 1 [(0, ⟨1, 0, 0, 1⟩)] 1 = (0, 20, [(0, ⟨1, 0, 0, 1⟩)], 1) := by simp [ordF, fstTb, Tb.may, Tb.right, outN, look]
theorem fst_e1 (x : En) : (look (0 : Int) [((0 : Int), x)]).isSome = true := by simp [look]
theorem fst_e2 (x : En) : del (0 : Int) [((0 : Int), x)] = [] := by simp [del]
theorem fst_e3 : (look (0 : Int) ([] : List (Int × En))).isSome = false := rfl
theorem fst_e4 : del (0 : Int) ([] : List (Int × En)) = [] := rfl
set_option maxRecDepth 100000 in
theorem awake_any (w : World) : Calls Try.prog 28 #[] w fun e w' => e = .returned (.bool true) ∧ Below w.heap.size w w' := by
  go_enter Try.func28, Try.ntmps28
  go_wp2_with (first
    | (go_at_call 30; refine (newS (base := w.heap.size) _ (Nat.le_refl _)).mono ?_; rintro e w1 ⟨p, rfl, hbk, hBB, hpl⟩)
    | (go_at_call 34; refine (first_any _).mono ?_; rintro e w2 ⟨⟨b, rfl, hI, hb⟩, hB⟩; replace hpl := hbk.lt; have hbp : b ≠ p := (by omega); replace hbk := hbk.below hB; replace hBB := hBB.trans (hB.mono hBB.size); clear hB hpl)
    | (go_at_call 31; refine ((orderS hbk (fstTb b) hI (fun _ a ha => by cases ha; exact hbp) 0 1)).mono ?_; rintro e w3 ⟨he, hbk', hB⟩; (first | (rw [fst_o1] at he hbk') | (rw [fst_o2] at he hbk')); subst he; replace hbk := hbk'; replace hBB := hBB.trans hB; clear hbk' hB hI hbp hb)
    | (go_at_call 32; refine (endS hbk 0).mono ?_; rintro e w3 ⟨he, hbk', hB⟩; (first | (rw [fst_e1] at he; rw [fst_e2] at hbk') | (rw [fst_e3] at he; rw [fst_e4] at hbk')); subst he; replace hbk := hbk'; replace hBB := hBB.trans hB; clear hbk' hB))
  go_ret
  exact ⟨rfl, hBB⟩
end Go.Proofs.Ytbkbekdeplolnaa
