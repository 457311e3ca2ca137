/- The book of moves: New, Of, Last, End. -/
import Derived.Test.YtdnfibecobodkaaGreatRng
import Derived.Test.YtdnfibecobodkaaGreatMvB
namespace Go.Proofs.YtdnfibecobodkaaGreat
open Go.RowKit
open Go.ChangeMaps (setBlock)
set_option linter.unusedSimpArgs false
set_option linter.unusedVariables false
/-- A move under way. -/
structure En where
  mv : Int
  part : Int
  fr : Int
  to : Int
  deriving DecidableEq
def En.val (x : En) : Value := .agg #[.int .i64 x.mv, .int .i64 x.part, .int .i64 x.fr, .int .i64 x.to]
def En.zero : En := ⟨0, 0, 0, 0⟩
abbrev ekI : Int → Value := Value.int .i64
/-- A map that may be nil. -/
def MapO {K V : Type} (ek : K → Value) (ev : V → Value) (W : World) (om : Option Nat) (m : List (K × V)) : Prop :=
  match om with
  | none => m = []
  | some b => MapIs ek ev W b m
theorem MapO.of {K V : Type} {ek : K → Value} {ev : V → Value} {W W' : World} {om : Option Nat} {m : List (K × V)} (h : MapO ek ev W om m) (hb : ∀ b, om = some b → W'.heap[b]? = W.heap[b]?) : MapO ek ev W' om m := by
  cases om with
  | none => exact h
  | some b => exact MapIs.of_block h (hb b rfl)
theorem MapO.lt {K V : Type} {ek : K → Value} {ev : V → Value} {W : World} {om : Option Nat} {m : List (K × V)} (h : MapO ek ev W om m) {b : Nat} (hb : om = some b) : b < W.heap.size := by
  subst hb; exact MapIs.lt h
theorem MapO.alloc {K V : Type} {ek : K → Value} {ev : V → Value} {W : World} {om : Option Nat} {m : List (K × V)} (h : MapO ek ev W om m) (o : Obj) : MapO ek ev (W.alloc o) om m :=
  h.of fun b hb => Below.heap_alloc W o b (h.lt hb)
theorem run_lookupO {K V : Type} {P : Program} {Kt Et T : TypeId} {ek : K → Value} {ev : V → Value} [DecidableEq K] {W : World} {om : Option Nat} {m : List (K × V)} (hT : P.underlying T = some (.map Kt Et)) (KL : KeyLaw P Kt ek) {z : Value} (hz : ∀ W, (zeroValue Et).run P W = .ok z W) (h : MapO ek ev W om m) (k : K) :
    (Instr.lookup T (.map om) (ek k) true).run P W = .ok (.tuple #[lookV ev z (look k m), .bool (look k m).isSome]) W ∧ (Instr.lookup T (.map om) (ek k) false).run P W = .ok (lookV ev z (look k m)) W := by
  cases om with
  | none =>
    have h' : m = [] := h
    subst h'
    exact run_lookup_nil hT KL hz k W
  | some b => exact run_lookup hT KL hz h k

/-- A book in memory: its block, its map, the last number. -/
structure BookAt (W : World) (p : Nat) (om : Option Nat) (m : List (Int × En)) (last : Int) : Prop where
  blk : W.heap[p]? = some (.cells #[.map om, .int .i64 last] 101 (0, 0))
  map : MapO ekI En.val W om m
theorem BookAt.ne {W : World} {p : Nat} {om : Option Nat} {m : List (Int × En)} {last : Int} (h : BookAt W p om m last) : om ≠ some p := by
  rintro rfl
  obtain ⟨es, clock, h1, _⟩ := h.map
  rw [h.blk] at h1
  cases h1
/-- The blocks of a book. -/
def foot (p : Nat) (om : Option Nat) : List Nat := p :: om.toList
theorem BookAt.keep {X : List Nat} {W W' : World} {p : Nat} {om : Option Nat} {m : List (Int × En)} {last : Int} (h : BookAt W p om m last) (hk : Keep X W W') (hx : ∀ b ∈ foot p om, b ∉ X) : BookAt W' p om m last :=
  ⟨(hk.block p (lt_of_heap h.blk) (hx p (.head _))).trans h.blk, h.map.of fun b hb => hk.block b (h.map.lt hb) (hx b (by subst hb; simp [foot]))⟩
theorem BookAt.below {W W' : World} {p : Nat} {om : Option Nat} {m : List (Int × En)} {last : Int} (h : BookAt W p om m last) (hk : Below W.heap.size W W') : BookAt W' p om m last :=
  h.keep (Keep.of_below hk []) (fun _ _ h => by cases h)
theorem BookAt.alloc {W : World} {p : Nat} {om : Option Nat} {m : List (Int × En)} {last : Int} (h : BookAt W p om m last) (o : Obj) : BookAt (W.alloc o) p om m last :=
  h.below ((Below.refl _ W).alloc (Nat.le_refl _) o)
theorem BookAt.cells {W : World} {p : Nat} {om : Option Nat} {m : List (Int × En)} {last : Int} (h : BookAt W p om m last) :
    W.cell? ⟨p, 0, none⟩ = some (.map om) ∧ W.cell? ⟨p, 1, none⟩ = some (.int .i64 last) ∧ (∀ o, W.frozen? ⟨p, o, none⟩ = false) ∧ p < W.heap.size := by
  refine ⟨?_, ?_, fun o => ?_, lt_of_heap h.blk⟩
  · unfold World.cell?; rw [h.blk]; rfl
  · unfold World.cell?; rw [h.blk]; rfl
  · unfold World.frozen?; rw [h.blk]; simp

theorem zeroEn (W : World) : (zeroValue 85).run Tryz.prog W = .ok (En.val En.zero) W := by kernel_rfl
theorem lookEn {W : World} {om : Option Nat} {m : List (Int × En)} (h : MapO ekI En.val W om m) (k : Int) :
    (Instr.lookup 99 (.map om) (.int .i64 k) true).run Tryz.prog W = .ok (.tuple #[((look k m).getD En.zero).val, .bool (look k m).isSome]) W := by
  have := (run_lookupO Tryz.underlying99 (keyLaw_int Tryz.underlying3) zeroEn h k).1
  rw [show ((look k m).getD En.zero).val = lookV En.val (En.val En.zero) (look k m) from by cases look k m <;> rfl]
  exact this

theorem new_any (w : World) : Calls Tryz.prog 34 #[] w fun e w' => e = .returned (.pointer (some ⟨w.heap.size, 0, none⟩)) ∧ w.alloc (.cells #[.map none, .int .i64 0] 101) = w' := by
  go_enter Tryz.func34, Tryz.ntmps34
  go_wp2
  go_ret
  exact ⟨rfl, rfl⟩
theorem book_new (w : World) : BookAt (w.alloc (.cells #[.map none, .int .i64 0] 101)) w.heap.size none [] 0 := ⟨World.alloc_heap_new w _, rfl⟩
theorem of_nil (k : Int) (w : World) : Calls Tryz.prog 37 #[.pointer none, .int .i64 k] w fun e w' => e = .returned (.tuple #[En.zero.val, .bool false]) ∧ Below w.heap.size w w' := by
  go_enter Tryz.func37, Tryz.ntmps37
  go_wp2
  exact bodyPost_ret (v := .tuple #[En.zero.val, .bool false]) (by simp [results, Tryz.results37, go_sem, En.val, En.zero]) rfl ⟨rfl, (Below.refl _ _).alloc (Nat.le_refl _) _⟩
set_option maxHeartbeats 1000000 in
theorem of_any {w : World} {p : Nat} {om : Option Nat} {m : List (Int × En)} {last : Int} (h : BookAt w p om m last) (k : Int) :
    Calls Tryz.prog 37 #[.pointer (some ⟨p, 0, none⟩), .int .i64 k] w fun e w' => e = .returned (.tuple #[((look k m).getD En.zero).val, .bool (look k m).isSome]) ∧ Below w.heap.size w w' := by
  obtain ⟨h0, h1, h2, h3⟩ := h.cells
  have hlk := fun o => lookEn (h.map.alloc (W := w) o) k
  obtain ⟨x, hx⟩ : ∃ x, (look k m).getD En.zero = x := ⟨_, rfl⟩
  obtain ⟨b, hb⟩ : ∃ b, (look k m).isSome = b := ⟨_, rfl⟩
  rw [hx, hb] at hlk ⊢
  obtain ⟨x1, x2, x3, x4⟩ := x
  simp only [En.val] at hlk ⊢
  clear h hx hb
  go_enter Tryz.func37, Tryz.ntmps37
  go_wp2
  exact bodyPost_ret (v := .tuple #[En.val ⟨x1, x2, x3, x4⟩, .bool b]) (by simp [results, Tryz.results37, go_sem, En.val]) rfl ⟨rfl, by repeat' (first | exact Below.refl _ _ | refine Below.alloc ?_ (by simp; try omega) _)⟩
end Go.Proofs.YtdnfibecobodkaaGreat
