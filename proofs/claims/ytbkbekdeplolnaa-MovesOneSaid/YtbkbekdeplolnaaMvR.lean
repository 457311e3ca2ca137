/- MovesOne: what a book and the ended moves are. -/
import Derived.Test.YtbkbekdeplolnaaMvP
namespace Go.Proofs.Ytbkbekdeplolnaa
open Go.RowKit Go.Shelf Go.Lib
open Go.ChangeMaps (setBlock)
set_option linter.unusedSimpArgs false
set_option linter.unusedVariables false
abbrev evI : Int → Value := Value.int .i64
structure One (w W : World) (p em : Nat) (om : Option Nat) (m : List (Int × En)) (last : Int) (E : List (Int × Int)) : Prop where
  A : BookAt W p om m last
  R : Rise m last
  pk : ∀ q ∈ m, q.2.part = q.1
  M : MapIs ekI evI W em E
  en : (E.map (·.1)).Nodup
  eo : ∀ e ∈ E, e.1 ≤ last ∧ ∀ q ∈ m, q.2.mv ≠ e.1
  g : ∀ x ∈ foot p om, w.heap.size ≤ x
  ge : w.heap.size ≤ em
  d : em ∉ foot p om
  T : Below w.heap.size w W
theorem One.keep {w W W' : World} {p em : Nat} {om : Option Nat} {m : List (Int × En)} {last : Int} {E : List (Int × Int)} {X : List Nat} (h : One w W p em om m last E) (hk : Keep X W W')
    (h1 : ∀ x ∈ foot p om, x ∉ X) (h2 : em ∉ X) (hX : ∀ x ∈ X, w.heap.size ≤ x) : One w W' p em om m last E :=
  ⟨h.A.keep hk h1, h.R, h.pk, h.M.keep hk h2, h.en, h.eo, h.g, h.ge, h.d, h.T.trans (hk.below h.T.size hX)⟩
theorem One.below {w W W' : World} {p em : Nat} {om : Option Nat} {m : List (Int × En)} {last : Int} {E : List (Int × Int)} (h : One w W p em om m last E) (hk : Below W.heap.size W W') : One w W' p em om m last E :=
  h.keep (Keep.of_below hk []) (by simp) (by simp) (by simp)
theorem One.alloc {w W : World} {p em : Nat} {om : Option Nat} {m : List (Int × En)} {last : Int} {E : List (Int × Int)} (h : One w W p em om m last E) (o : Obj) : One w (W.alloc o) p em om m last E :=
  h.below ((Below.refl _ W).alloc (Nat.le_refl _) o)
theorem oneOrd {w W : World} {p em : Nat} {om : Option Nat} {m : List (Int × En)} {last : Int} {E : List (Int × Int)} (h : One w W p em om m last E) (t : Tb) (hI : IntsAt w t.oa t.owner) (part to : Int) :
    Calls Try.prog 31 #[.pointer (some ⟨p, 0, none⟩), t.val, .int .i64 part, .int .i64 to] W fun e W' =>
      e = .returned (.tuple #[.int .i64 (ordF t part to m last).1, .int .i64 (ordF t part to m last).2.1]) ∧
      (∃ om', One w W' p em om' (ordF t part to m last).2.2.1 (ordF t part to m last).2.2.2 E) ∧ Keep (foot p om) W W' := by
  refine (order_any h.A h.R.nd h.R.l0 t (hI.below h.T) (hI.ne (h.g p (.head _))) part to).mono ?_
  rintro e W' ⟨he, ⟨om', hb, ho⟩, hk⟩
  have hf : ∀ x ∈ foot p om', x ∈ foot p om ∨ W.heap.size ≤ x := by
    intro x hx
    rcases ho with rfl | ⟨rfl, b, rfl, hle⟩
    · exact .inl hx
    · rcases List.mem_cons.1 hx with e | e
      · exact .inl (by simp [foot, e])
      · have e' : b = x := by simpa [eq_comm] using e
        exact .inr (e' ▸ hle)
  refine ⟨he, ⟨om', hb, h.R.order t part to, ?_, h.M.keep hk h.d, h.en, ?_, fun x hx => ?_, h.ge, fun hm => ?_, h.T.trans (hk.below h.T.size h.g)⟩, hk⟩
  · unfold ordF
    split
    · exact h.pk
    · split
      · exact h.pk
      · split
        · exact h.pk
        · intro q hq
          rcases List.mem_append.1 hq with hq | hq
          · exact h.pk q hq
          · obtain rfl := List.mem_singleton.1 hq; rfl
  · intro e he2
    obtain ⟨h1, h2⟩ := h.eo e he2
    unfold ordF
    split
    · exact ⟨h1, h2⟩
    · split
      · exact ⟨h1, h2⟩
      · split
        · exact ⟨h1, h2⟩
        · refine ⟨by simp only []; omega, fun q hq => ?_⟩
          rcases List.mem_append.1 hq with hq | hq
          · exact h2 q hq
          · obtain rfl := List.mem_singleton.1 hq; simp only [ne_eq]; omega
  · rcases hf x hx with h5 | h5
    · exact h.g x h5
    · have := h.T.size; omega
  · rcases hf em hm with h5 | h5
    · exact h.d h5
    · have := h.M.lt; omega
theorem oneEnd {w W : World} {p em : Nat} {om : Option Nat} {m : List (Int × En)} {last : Int} {E : List (Int × Int)} (h : One w W p em om m last E) (k : Int) :
    Calls Try.prog 32 #[.pointer (some ⟨p, 0, none⟩), .int .i64 k] W fun e W' => e = .returned (.bool (look k m).isSome) ∧ One w W' p em om (del k m) last E ∧ Keep (foot p om) W W' :=
  (end_book h.A h.R.nd k).mono fun e W' ⟨he, hb, hk⟩ =>
    ⟨he, ⟨hb, h.R.del k, fun q hq => h.pk q (List.mem_filter.1 hq).1, h.M.keep hk h.d, h.en, fun e he => ⟨(h.eo e he).1, fun q hq => (h.eo e he).2 q (List.mem_filter.1 hq).1⟩, h.g, h.ge, h.d, h.T.trans (hk.below h.T.size h.g)⟩, hk⟩
theorem look_put_some {K V : Type} [DecidableEq K] {k : K} {v : V} {m : List (K × V)} : ∀ e ∈ put k v m, e.1 = k ∨ ∃ e' ∈ m, e'.1 = e.1 := by
  intro e he
  unfold put at he
  split at he
  · obtain ⟨q, hq, rfl⟩ := List.mem_map.1 he
    right
    refine ⟨q, hq, ?_⟩
    split <;> rfl
  · rcases List.mem_append.1 he with h | h
    · exact .inr ⟨e, h, rfl⟩
    · obtain rfl := List.mem_singleton.1 h; exact .inl rfl
theorem put_keys {k : Int} {v : Int} {m : List (Int × Int)} (h : (m.map (·.1)).Nodup) : ((put k v m).map (·.1)).Nodup := by
  unfold put
  split
  · have e : (m.map (fun p => if k = p.1 then (p.1, v) else p)).map (·.1) = m.map (·.1) := by
      rw [List.map_map]
      refine List.map_congr_left fun q _ => ?_
      simp only [Function.comp]
      split <;> rfl
    rw [e]; exact h
  · rename_i hn
    have hl : look k m = none := by cases hh : look k m with | none => rfl | some v => rw [hh] at hn; exact absurd rfl hn
    rw [List.map_append, List.nodup_append]
    refine ⟨h, by simp, fun a ha b hb => ?_⟩
    obtain rfl : b = k := by simpa using hb
    obtain ⟨q, hq, rfl⟩ := List.mem_map.1 ha
    exact fun e => look_none.1 hl q hq e.symm
/-- What was ended, is written down. -/
theorem One.ended {w W : World} {p em : Nat} {om : Option Nat} {m : List (Int × En)} {last : Int} {E : List (Int × Int)} (h : One w W p em om m last E) (k : Int) (hk : k ≤ last) (hm : ∀ q ∈ m, q.2.mv ≠ k) :
    ∃ o, (Instr.mapUpdate 68 (.map (some em)) (.int .i64 k) (.int .i64 1)).run Try.prog W = .ok () (setBlock W em o) ∧ One w (setBlock W em o) p em om m last (put k 1 E) := by
  obtain ⟨o, hr, hM⟩ := run_update Try.underlying68 (keyLaw_int Try.underlying3) h.M h.en k (1 : Int)
  have hk2 : Keep [em] W (setBlock W em o) := (Keep.refl _ _).setBlock em o (.inl (by simp))
  refine ⟨o, hr, h.A.keep hk2 (fun x hx hm => h.d (by simp at hm; exact hm ▸ hx)), h.R, h.pk, hM, put_keys h.en, ?_, h.g, h.ge, h.d, h.T.trans (hk2.below h.T.size (fun x hx => by simp at hx; rw [hx]; exact h.ge))⟩
  intro e he
  rcases look_put_some e he with h1 | ⟨e', he', h1⟩
  · rw [h1]; exact ⟨hk, hm⟩
  · rw [← h1]; exact h.eo e' he'
theorem look_none_of {E : List (Int × Int)} {k : Int} (h : ∀ e ∈ E, e.1 ≠ k) : look k E = none := look_none.2 fun q hq e => h q hq e.symm
theorem find_rise : ∀ {l : List En} {j : Nat} {y : En}, l.Pairwise (fun x y => x.mv < y.mv) → l[j]? = some y → findMv y.mv l = some y
  | [], j, y, _, h => by simp at h
  | x :: r, 0, y, _, h => by
    obtain rfl : x = y := by simpa using h
    simp [findMv]
  | x :: r, j + 1, y, hp, h => by
    have h' : r[j]? = some y := by simpa using h
    have hm : y ∈ r := List.mem_of_getElem? h'
    have hlt := (List.pairwise_cons.1 hp).1 y hm
    have ih := find_rise (List.pairwise_cons.1 hp).2 h'
    unfold findMv at ih ⊢
    rw [List.find?_cons_of_neg (by simp; omega)]
    exact ih
theorem One.entry {w W : World} {p em : Nat} {om : Option Nat} {m : List (Int × En)} {last : Int} {E : List (Int × Int)} (h : One w W p em om m last E) {j : Nat} {y : En} (hy : (m.map (·.2))[j]? = some y) :
    findMv y.mv (m.map (·.2)) = some y ∧ look y.part m = some y ∧ y.mv ≤ last ∧ look y.mv E = none := by
  have hmem : y ∈ m.map (·.2) := List.mem_of_getElem? hy
  obtain ⟨q, hq, rfl⟩ := List.mem_map.1 hmem
  refine ⟨find_rise h.R.up hy, ?_, h.R.le q hq, look_none_of fun e he => fun hh => (h.eo e he).2 q hq hh.symm⟩
  rw [h.pk q hq]
  exact look_of_mem h.R.nd hq
theorem rise_prev {l : List En} {j : Nat} {x y : En} (h : l.Pairwise (fun x y => x.mv < y.mv)) (hx : l[j]? = some x) (hy : l[j + 1]? = some y) : x.mv < y.mv := by
  obtain ⟨h1, rfl⟩ := List.getElem?_eq_some_iff.1 hx
  obtain ⟨h2, rfl⟩ := List.getElem?_eq_some_iff.1 hy
  exact List.pairwise_iff_getElem.1 h j (j + 1) h1 h2 (by omega)
end Go.Proofs.Ytbkbekdeplolnaa
