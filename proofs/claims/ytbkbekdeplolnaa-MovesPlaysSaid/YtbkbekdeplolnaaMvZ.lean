/- MovesPlays: a book and the document's, side by side. -/
import Derived.Test.YtbkbekdeplolnaaMvY
import Derived.Test.YtbkbekdeplolnaaMvP
namespace Go.Proofs.Ytbkbekdeplolnaa
open Go.RowKit Go.Shelf Go.Lib
open Go.ChangeMaps (setBlock)
set_option linter.unusedSimpArgs false
set_option linter.unusedVariables false
theorem end_nil (k : Int) (w : World) : Calls Try.prog 32 #[.pointer none, .int .i64 k] w fun e w' => e = .returned (.bool false) ∧ Below w.heap.size w w' := by
  go_enter Try.func32, Try.ntmps32
  go_wp2_with (fail)
  refine (of_nil k _).mono ?_
  rintro e w1 ⟨rfl, hB⟩
  simp only [En.zero, En.val]
  go_wp2_with (fail)
  go_ret
  refine ⟨rfl, ?_⟩
  repeat' (first | exact hB | refine Below.alloc ?_ (by first | exact hB.size | (simp; done) | (simp; omega)) _)
theorem by_nil (k : Int) (w : World) : Calls Try.prog 36 #[.pointer none, .int .i64 k] w fun e w' => e = .returned (.tuple #[En.zero.val, .bool false]) ∧ Below w.heap.size w w' :=
  by_gen (L := []) (by simp) k (fun W _ => all_nil W)
/-- A list of moves in memory stays as it is, if its block does. -/
theorem EnsAt.keepD {X : List Nat} {base : Nat} {W W' : World} {A : Option Addr} {L : List En} (h : EnsAt base W A L) (hk : Keep X W W') (hx : L ≠ [] → ∀ a, A = some a → a.block ∉ X) : EnsAt base W' A L := by
  intro hL
  obtain ⟨g, h1, h2, h3, h4⟩ := h hL
  have hg := hx hL _ h1
  refine ⟨g, h1, h2, Nat.lt_of_lt_of_le h3 hk.size, fun j hj => ?_⟩
  obtain ⟨h5, h6⟩ := h4 j hj
  exact ⟨(hk.cell _ h3 hg).trans h5, (World.frozen?_of_block (w := W) (hk.block g h3 hg)).trans h6⟩
structure Pl (w W : World) (p rb : Nat) (om : Option Nat) (m : List (Int × En)) (last : Int) (A : Option Addr) (c : Nat) : Prop where
  K : BookAt W p om m last
  R : Rise m last
  pk : ∀ q ∈ m, q.2.part = q.1
  g : ∀ x ∈ foot p om, w.heap.size ≤ x
  B : Box2 W rb (.slice A m.length c) (.int .i64 last) 58
  gb : w.heap.size ≤ rb
  db : rb ∉ foot p om
  E : EnsAt 0 W A (m.map (·.2))
  n : A = none → c = 0
  d : m ≠ [] → ∀ a, A = some a → a.block ∉ foot p om ∧ a.block ≠ rb
  T : Below w.heap.size w W
theorem Pl.below {w W W' : World} {p rb : Nat} {om : Option Nat} {m : List (Int × En)} {last : Int} {A : Option Addr} {c : Nat} (h : Pl w W p rb om m last A c) (hB : Below W.heap.size W W') : Pl w W' p rb om m last A c :=
  ⟨h.K.below hB, h.R, h.pk, h.g, h.B.below hB, h.gb, h.db, h.E.below hB, h.n, h.d, h.T.trans (hB.mono h.T.size)⟩
theorem Pl.alloc {w W : World} {p rb : Nat} {om : Option Nat} {m : List (Int × En)} {last : Int} {A : Option Addr} {c : Nat} (h : Pl w W p rb om m last A c) (o : Obj) : Pl w (W.alloc o) p rb om m last A c :=
  h.below ((Below.refl _ W).alloc (Nat.le_refl _) o)
theorem Pl.le {w W : World} {p rb : Nat} {om : Option Nat} {m : List (Int × En)} {last : Int} {A : Option Addr} {c : Nat} (h : Pl w W p rb om m last A c) : rb < W.heap.size := lt_of_heap h.B
/-- What an act of both leaves: the document's list is the old one or a new one; the book's map is the old one or a new one. -/
theorem Pl.step {w W W1 W2 W4 : World} {p rb : Nat} {om om' : Option Nat} {m m' : List (Int × En)} {last last' : Int} {A A' : Option Addr} {c c' : Nat} (h : Pl w W p rb om m last A c)
    (hB1 : Below W.heap.size W W1) (hE : EnsAt 0 W1 A' (m'.map (·.2))) (hn : A' = none → c' = 0) (ho : (A' = A ∧ m' = m) ∨ EnsAt W.heap.size W1 A' (m'.map (·.2)))
    (hB2 : Below W1.heap.size W1 W2) (bk : BookAt W4 p om' m' last') (hR : Rise m' last') (hpk : ∀ q ∈ m', q.2.part = q.1) (hom : om' = om ∨ om = none ∧ ∃ b, om' = some b ∧ W2.heap.size ≤ b) (hk : Keep (rb :: foot p om) W2 W4)
    (hrb : Box2 W4 rb (.slice A' m'.length c') (.int .i64 last') 58) : Pl w W4 p rb om' m' last' A' c' := by
  have hs1 := hB1.size
  have hs2 := hB2.size
  have hle := h.le
  have hfl := foot_lt h.K
  have hT := h.T.size
  have hf : ∀ x ∈ foot p om', x ∈ foot p om ∨ W2.heap.size ≤ x := by
    intro x hx
    rcases hom with rfl | ⟨rfl, b, rfl, hb⟩
    · exact .inl hx
    · rcases List.mem_cons.1 hx with e | e
      · exact .inl (by simp [foot, e])
      · have e' : b = x := by simpa [eq_comm] using e
        exact .inr (e' ▸ hb)
  have hd : m' ≠ [] → ∀ a, A' = some a → a.block ∉ foot p om' ∧ a.block ≠ rb ∧ a.block < W1.heap.size ∧ a.block ∉ foot p om := by
    intro hm a ha
    have hml : m'.map (·.2) ≠ [] := by simpa using hm
    obtain ⟨g1, e1, _, l1, _⟩ := hE hml
    rw [ha] at e1
    cases e1
    rcases ho with ⟨e1, e2⟩ | ho
    · rw [e2] at hm
      obtain ⟨h5, h6⟩ := h.d hm _ (e1 ▸ ha)
      refine ⟨fun hx => ?_, h6, l1, h5⟩
      rcases hf _ hx with h7 | h7
      · exact h5 h7
      · simp only at h7; omega
    · obtain ⟨g2, e2, l2, _⟩ := ho hml
      rw [ha] at e2
      cases e2
      refine ⟨fun hx => ?_, by simp only; omega, l1, fun hx => by have := hfl _ hx; simp only at this; omega⟩
      rcases hf _ hx with h7 | h7
      · have := hfl _ h7; simp only at this; omega
      · simp only at h7; omega
  have hdb : rb ∉ foot p om' := fun hx => by
    rcases hf _ hx with h7 | h7
    · exact h.db h7
    · omega
  refine ⟨bk, hR, hpk, fun x hx => ?_, hrb, h.gb, hdb, ?_, hn, fun hm a ha => ⟨(hd hm a ha).1, (hd hm a ha).2.1⟩, (h.T.trans ((hB1.trans (hB2.mono hs1)).mono h.T.size)).trans (hk.below (by omega) (fun x hx => by rcases List.mem_cons.1 hx with e | e; exact e ▸ h.gb; exact h.g x e))⟩
  · rcases hf x hx with h7 | h7
    · exact h.g x h7
    · omega
  · refine (hE.below hB2).keepD hk (fun hm a ha hx => ?_)
    have h8 := hd (by simpa using hm) a ha
    rcases List.mem_cons.1 hx with e | e
    · exact h8.2.1 e
    · exact h8.2.2.2 e
theorem Box2.set {W : World} {b : Nat} {x y : Value} {t : TypeId} (h : Box2 W b x y t) (u v : Value) : Box2 ((W.setCell ⟨b, 0, none⟩ u).setCell ⟨b, 1, none⟩ v) b u v t := by
  unfold Box2 at *
  simp [World.setCell, Array.getElem?_modify, h]
theorem ordF_pk {t : Tb} {part to : Int} {m : List (Int × En)} {last : Int} (h : ∀ q ∈ m, q.2.part = q.1) : ∀ q ∈ (ordF t part to m last).2.2.1, q.2.part = q.1 := by
  unfold ordF
  split
  · exact h
  · split
    · exact h
    · split
      · exact h
      · intro q hq
        rcases List.mem_append.1 hq with hq | hq
        · exact h q hq
        · obtain rfl := List.mem_singleton.1 hq; rfl
theorem ordF_last1 (t : Tb) (part to : Int) (m : List (Int × En)) (last : Int) : (ordF t part to m last).2.2.2 ≤ last + 1 := by
  unfold ordF
  split
  · simp only; omega
  · split
    · simp only; omega
    · split
      · simp only; omega
      · simp only; omega
theorem EnC.newR (W : World) (x1 x2 x3 x4 : Int) : EnC (W.alloc (.cells #[.int .i64 x1, .int .i64 x2, .int .i64 x3, .int .i64 x4] 63)) W.heap.size ⟨x1, x2, x3, x4⟩ :=
  ⟨by go_simp, by go_simp, by go_simp, by go_simp, by simp⟩
theorem EnC.belowP {W W' : World} {g : Nat} {x : En} (h : EnC W g x) (hk : Below W.heap.size W W') : EnC W' g x := h.keep (Keep.of_below hk []) (by simp)
theorem del_is (k : Int) (m : List (Int × En)) (hn : (m.map (·.1)).Nodup) : decide ((del k m).length < m.length) = (look k m).isSome := by
  cases hp : pos k (m.map (·.1)) 0 with
  | none =>
    have h1 := pos_none.1 hp
    have h2 : del k m = m := List.filter_eq_self.2 (fun q hq => by simpa using look_none.1 h1 q hq)
    rw [h1, h2]; simp
  | some i =>
    obtain ⟨v, hv, hl⟩ := pos_some hp
    have hi := (List.getElem?_eq_some_iff.1 hv).1
    rw [hl, ← eraseIdx_del hn hp, List.length_eraseIdx, if_pos hi]
    simp; omega
theorem endL_del {m : List (Int × En)} (pk : ∀ q ∈ m, q.2.part = q.1) (k : Int) : endL k (m.map (·.2)) = (del k m).map (·.2) := by
  unfold endL del
  induction m with
  | nil => rfl
  | cons q r ih =>
    have h1 := pk q (.head _)
    have h2 := ih (fun x hx => pk x (.tail _ hx))
    simp only [List.map_cons, List.filter_cons]
    rw [h1]
    by_cases h : q.1 = k
    · subst h; simpa using h2
    · have h' : ¬ k = q.1 := fun e => h e.symm
      simp [h, h']; simpa using h2
end Go.Proofs.Ytbkbekdeplolnaa
