/- The document's coordinator: a value; rows of moves; find, with · The document's coordinator: find, with -/
import Derived.Test.YteejdfpfdnkiiaaGreatPi
import Derived.Test.YteejdfpfdnkiiaaGreatCqF
import Derived.Maps.AppendAt
namespace Go.Proofs.YteejdfpfdnkiiaaGreat
section
open Go.RowKit Go.Lib
set_option linter.unusedSimpArgs false
set_option linter.unusedVariables false
structure Dx where
  ep : Int
  nd : Int
  own : List Int
  L : List Mo
  last : Int
  com : Int
  abo : Int
def Dx.of (c : Cd) : Dx := ⟨c.ep, c.nd, c.own, movesF c, c.last, c.com, c.abo⟩
def Dx.cells (d : Dx) (oa : Option Addr) (oc : Nat) (la : Option Addr) (lc : Nat) : Array Value := #[.int .i64 d.ep, .int .i64 d.nd, .slice oa d.own.length oc, .slice la d.L.length lc, .int .i64 d.last, .int .i64 d.com, .int .i64 d.abo]
/-- A row of moves, somewhere. -/
def FlAt (W : World) (A : Option Addr) (L : List Mo) : Prop :=
  L ≠ [] → ∃ b off, A = some ⟨b, off, none⟩ ∧ b < W.heap.size ∧ ∀ j u, (L.flatMap Mo.cells)[j]? = some u → W.cell? ⟨b, off + j, none⟩ = some u
theorem FlAt.nil (W : World) (A : Option Addr) : FlAt W A [] := fun h => absurd rfl h
theorem FlAt.keep {X : List Nat} {W W' : World} {A : Option Addr} {L : List Mo} (h : FlAt W A L) (hk : Keep X W W') (hx : L ≠ [] → ∀ b off, A = some ⟨b, off, none⟩ → b ∉ X) : FlAt W' A L := by
  intro hL
  obtain ⟨b, off, h1, h2, h3⟩ := h hL
  exact ⟨b, off, h1, Nat.lt_of_lt_of_le h2 hk.size, fun j u hj => (hk.cell _ h2 (hx hL b off h1)).trans (h3 j u hj)⟩
theorem FlAt.kept {W W' : World} {A : Option Addr} {L : List Mo} (h : FlAt W A L) (hk : Keep [] W W') : FlAt W' A L := h.keep hk (by simp)
theorem FlAt.get {W : World} {A : Option Addr} {L : List Mo} (h : FlAt W A L) {i : Nat} {x : Mo} (hi : L[i]? = some x) : ∃ b off, A = some ⟨b, off, none⟩ ∧ b < W.heap.size ∧ ∀ j u, (Mo.cells x)[j]? = some u → W.cell? ⟨b, off + i * 6 + j, none⟩ = some u := by
  obtain ⟨b, off, h1, h2, h3⟩ := h (by rintro rfl; simp at hi)
  refine ⟨b, off, h1, h2, fun j u hj => ?_⟩
  rw [Nat.add_assoc]
  refine h3 _ u ?_
  have hj6 : j < 6 := (List.getElem?_eq_some_iff.1 hj).1
  rw [flat_get Mo.len L i j x hi hj6, hj]
theorem flat_len (L : List Mo) : (L.flatMap Mo.cells).length = L.length * 6 := by
  induction L with
  | nil => rfl
  | cons x r ih => rw [List.flatMap_cons, List.length_append, ih, Mo.len, List.length_cons]; omega
theorem FlAt.take {W : World} {A : Option Addr} {L : List Mo} (h : FlAt W A L) (i : Nat) : FlAt W A (L.take i) := by
  intro hL
  obtain ⟨b, off, h1, h2, h3⟩ := h (by rintro rfl; simp at hL)
  refine ⟨b, off, h1, h2, fun j u hj => h3 j u ?_⟩
  have e : L.flatMap Mo.cells = (L.take i).flatMap Mo.cells ++ (L.drop i).flatMap Mo.cells := by rw [← List.flatMap_append, List.take_append_drop]
  rw [e, List.getElem?_append_left (List.getElem?_eq_some_iff.1 hj).1, hj]
theorem FlAt.drop {W : World} {b off : Nat} {L : List Mo} (h : FlAt W (some ⟨b, off, none⟩) L) (i : Nat) : FlAt W (some ⟨b, off + i * 6, none⟩) (L.drop i) := by
  intro hL
  have hil : i < L.length := by
    refine Nat.lt_of_not_le fun hc => hL ?_
    rw [List.drop_eq_nil_iff]
    exact hc
  obtain ⟨b', off', h1, h2, h3⟩ := h (by rintro rfl; simp at hL)
  cases h1
  refine ⟨b, _, rfl, h2, fun j u hj => ?_⟩
  have e : L.flatMap Mo.cells = (L.take i).flatMap Mo.cells ++ (L.drop i).flatMap Mo.cells := by rw [← List.flatMap_append, List.take_append_drop]
  have hl : ((L.take i).flatMap Mo.cells).length = i * 6 := by rw [flat_len, List.length_take]; omega
  rw [Nat.add_assoc]
  refine h3 _ u ?_
  rw [e, List.getElem?_append_right (by omega), hl, Nat.add_sub_cancel_left, hj]
/-- A row of the document's moves in a block of its own. -/
def DmRow (base : Nat) (W : World) (v : Value) (l : List Mo) : Prop := W.ownsRow base 91 6 v l.length (l.flatMap Mo.cells)
theorem DmRow.keep {X : List Nat} {base : Nat} {W W' : World} {v : Value} {l : List Mo} (h : DmRow base W v l) (hk : Keep X W W') (hx : ∀ g, v.ownBlock = some g → g ∉ X) : DmRow base W' v l := own_keep h hk hx
theorem DmRow.nil (base : Nat) (W : World) : DmRow base W (.slice none 0 0) [] := World.ownsRow_nil _ _ _ _
theorem DmRow.shape {base : Nat} {W : World} {v : Value} {l : List Mo} (h : DmRow base W v l) : ∃ a c, v = .slice a l.length c ∧ l.length ≤ c ∧ FlAt W a l ∧ ∀ b off, a = some ⟨b, off, none⟩ → base ≤ b ∧ b < W.heap.size ∧ v.ownBlock = some b := by
  rcases h.2 with ⟨hv, h0⟩ | ⟨g, cap, cur, hv, hb, hg, hn, hc, hcs, htk⟩
  · exact ⟨none, 0, by rw [hv, h0], by omega, by rw [List.length_eq_zero_iff.1 h0]; exact FlAt.nil _ _, by rintro b off h; cases h⟩
  · refine ⟨some ⟨g, 0, none⟩, cap, hv, hn, fun hl => ⟨g, 0, rfl, lt_of_heap hg, fun j u hj => ?_⟩, by rintro b off h; cases h; exact ⟨hb, lt_of_heap hg, by rw [hv]; rfl⟩⟩
    have hjl := (List.getElem?_eq_some_iff.1 hj).1
    rw [flat_len] at hjl
    rw [Nat.zero_add]
    unfold World.cell?
    rw [hg]
    rw [← htk, List.getElem?_take_of_lt hjl, Array.getElem?_toList] at hj
    simpa using hj
theorem infoDm : (Tryz.prog.info? 91).map (fun i => (i.zero, i.size, i.bytes)) = some (some (.agg #[.int .i64 0, .int .i64 0, .int .i64 0, .int .i64 0, .int .i64 0, .int .i64 0]), 6, 48) := by kernel_rfl
theorem cells_one (b : Mo) : ∀ u ∈ Mo.cells b, u.oneCell' = true := by
  intro u hu
  simp only [Mo.cells, List.mem_cons, List.not_mem_nil, or_false] at hu
  rcases hu with rfl | rfl | rfl | rfl | rfl | rfl <;> rfl
theorem run_append_empty {P : Program} {w : World} (base : Nat) (t ty e : TypeId) (i : TypeInfo) (size : Nat) (ht : P.underlying t = some (.slice e)) (hi : P.info? e = some i)
    (v : Value) (n : Nat) (xs : List Value) (hown : w.ownsRow base e size v n xs) (A : Option Addr) (c : Nat) : (Builtin.append_ #[t, t] ty #[v, .slice A 0 c]).run P w = .ok v w := by
  rcases hown.2 with ⟨rfl, rfl⟩ | ⟨g, cap, cur, rfl, _, _, hnc, _⟩
  · cases A <;> simp [Builtin.append_, run_underlying ht, sizeOf, typeInfo, hi, Builtin.lenOf, Builtin.firstCells, loadCells, loadCellsFrom]
  · cases A <;> simp [Builtin.append_, run_underlying ht, sizeOf, typeInfo, hi, Builtin.lenOf, Builtin.firstCells, hnc, storeCells, loadCells, loadCellsFrom]
theorem wpList_append_empty {P : Program} {w : World} {ops : Array Oper} {rest : List Oper} {o : Oper} {a : Act} {Q : Exit → Act → World → Prop} (hgd : o.guard = none) (s x : Operand) (t : TypeId)
    (ho : o.op = .call { callee := .builtin .append, args := #[s, x], argTypes := #[t, t] }) (base : Nat) (e : TypeId) (i : TypeInfo) (size : Nat) (ht : P.underlying t = some (.slice e)) (hi : P.info? e = some i)
    (v : Value) (n : Nat) (xs : List Value) (hs : a.eval s = v) (hown : w.ownsRow base e size v n xs) (A : Option Addr) (c : Nat) (hx : a.eval x = .slice A 0 c) (h : wpList P ops Q rest (a.put o.dst v) w) : wpList P ops Q (o :: rest) a w := by
  refine wpList_plain hgd fun K hK => ?_
  have hr := run_append_empty (P := P) (w := w) base t o.type e i size ht hi v n xs hown A c
  unfold Oper.wp execOp
  simp only [ho, resolve, invoke, builtin, Sem.run_bind, Sem.run_pure, Result.andThen_ok, List.map_toArray, List.map_cons, List.map_nil, hs, hx, hr]
  exact hK _ _ h
theorem wpList_append_dm {w : World} {ops : Array Oper} {rest : List Oper} {o : Oper} {a : Act} {Q : Exit → Act → World → Prop} (hgd : o.guard = none) (s x : Operand)
    (ho : o.op = .call { callee := .builtin .append, args := #[s, x], argTypes := #[52, 52] }) (base : Nat) (v : Value) (M L : List Mo) (hs : a.eval s = v) (hown : DmRow base w v M)
    (A : Option Addr) (n c : Nat) (hx : a.eval x = .slice A n c) (hn : L.length = n) (hE : FlAt w A L) (hm : M.length + n ≤ 2000) (hbase : base ≤ w.heap.size)
    (h : ∀ v' w', DmRow base w' v' (M ++ L) → Keep v.ownBlock.toList w w' → (v'.ownBlock = v.ownBlock ∨ v'.ownBlock = some w.heap.size) → wpList Tryz.prog ops Q rest (a.put o.dst v') w') :
    wpList Tryz.prog ops Q (o :: rest) a w := by
  obtain ⟨i0, hi0, hz0, hz1, hz2⟩ := info_parts infoDm
  subst hn
  by_cases hne : L = []
  · subst hne
    refine wpList_append_empty hgd s x 52 ho base 91 i0 6 Tryz.underlying52 hi0 v M.length (M.flatMap Mo.cells) hs hown A c hx ?_
    exact h v w (by rw [List.append_nil]; exact hown) (Keep.refl _ _) (.inl rfl)
  · obtain ⟨g, off, e, hg, hat⟩ := hE hne
    subst e
    refine wpList_append_own_at _ hgd s x 52 ho base 91 i0 (.agg #[.int .i64 0, .int .i64 0, .int .i64 0, .int .i64 0, .int .i64 0, .int .i64 0]) 6 48 Tryz.underlying52 hi0 hz0 hz1 hz2 rfl (by decide) v M.length (M.flatMap Mo.cells) hs hown ⟨g, off, none⟩ L.length c (L.flatMap Mo.cells) hx (by rw [flat_len]) (fun j u hj => by rw [Addr.add_lit]; exact hat j u hj) ?_ (by unfold maxLen; omega) (by omega) hbase ?_
    · intro u hu
      obtain ⟨y, _, hy⟩ := List.mem_flatMap.1 hu
      exact cells_one y u hy
    · intro v' w' hown' hgrow _ hat'
      refine h v' w' ?_ ((Keep.refl _ w).grown hgrow (fun k hk => .inl (by simp [hk]))) hat'
      unfold DmRow
      rw [List.length_append, List.flatMap_append]
      exact hown'
end
section
open Go.RowKit Go.Lib
set_option linter.unusedSimpArgs false
set_option linter.unusedVariables false
theorem DxFacts {W : World} {b : Nat} {v0 v1 v2 v3 v4 v5 v6 : Value} (h : W.heap[b]? = some (.cells #[v0, v1, v2, v3, v4, v5, v6] 54 (0, 0))) : W.cell? ⟨b, 0, none⟩ = some v0 ∧ W.cell? ⟨b, 1, none⟩ = some v1 ∧ W.cell? ⟨b, 2, none⟩ = some v2 ∧ W.cell? ⟨b, 3, none⟩ = some v3 ∧ W.cell? ⟨b, 4, none⟩ = some v4 ∧ W.cell? ⟨b, 5, none⟩ = some v5 ∧ W.cell? ⟨b, 6, none⟩ = some v6 ∧ (∀ o, W.frozen? ⟨b, o, none⟩ = false) := by
  refine ⟨?_, ?_, ?_, ?_, ?_, ?_, ?_, fun o => ?_⟩
  all_goals first | (unfold World.cell?; rw [h]; rfl) | (unfold World.frozen?; rw [h]; simp)
theorem MvFacts {W : World} {b : Nat} {v0 v1 v2 v3 v4 v5 : Value} (h : W.heap[b]? = some (.cells #[v0, v1, v2, v3, v4, v5] 91 (0, 0))) : W.cell? ⟨b, 0, none⟩ = some v0 ∧ W.cell? ⟨b, 1, none⟩ = some v1 ∧ W.cell? ⟨b, 2, none⟩ = some v2 ∧ W.cell? ⟨b, 3, none⟩ = some v3 ∧ W.cell? ⟨b, 4, none⟩ = some v4 ∧ W.cell? ⟨b, 5, none⟩ = some v5 ∧ (∀ o, W.frozen? ⟨b, o, none⟩ = false) := by
  refine ⟨?_, ?_, ?_, ?_, ?_, ?_, fun o => ?_⟩
  all_goals first | (unfold World.cell?; rw [h]; rfl) | (unfold World.frozen?; rw [h]; simp)
theorem fnd_snoc (part : Int) {l : List Mo} {j : Nat} {x : Mo} (h : l[j]? = some x) (hn : fnd part (l.take j) = none) : fnd part (l.take (j + 1)) = if x.x.part = part then some j else none := by
  unfold fnd at hn ⊢
  have ht : l.take (j + 1) = l.take j ++ [x] := by rw [List.take_add_one, h]; rfl
  have hj := (List.getElem?_eq_some_iff.1 h).1
  rw [ht, List.findIdx?_append, hn, List.length_take, Nat.min_eq_left (by omega)]
  by_cases hm : x.x.part = part <;> simp [hm, List.findIdx?_cons]
theorem fnd_full (part : Int) {l : List Mo} {j : Nat} {x : Mo} (h : l[j]? = some x) (hn : fnd part (l.take j) = none) (hx : x.x.part = part) : fnd part l = some j := by
  have e : l = l.take (j + 1) ++ l.drop (j + 1) := (List.take_append_drop _ _).symm
  have h1 := fnd_snoc part h hn
  rw [if_pos hx] at h1
  rw [e]
  unfold fnd at h1 ⊢
  rw [List.findIdx?_append, h1]
  rfl
theorem keep_setCells (g : Nat) : ∀ (vs : List Value) (o : Nat) (w : World), Keep [g] w (w.setCells g o vs)
  | [], _, w => Keep.refl _ _
  | v :: vs, o, w => by
    unfold World.setCells
    exact ((Keep.refl _ w).setCell g o v (.inl (by simp))).trans (keep_setCells g vs (o + 1) _)
/-- A move is written in its row. -/
theorem fl_set {W : World} {g : Nat} {L : List Mo} (h : FlAt W (some ⟨g, 0, none⟩) L) {i : Nat} (hi : i < L.length) (y : Mo) (ht : W.there g (i * 6) 6) : FlAt (W.setCells g (i * 6) y.cells) (some ⟨g, 0, none⟩) (L.set i y) := by
  intro _
  have hg : g < W.heap.size := by
    obtain ⟨b, off, h1, h2, _⟩ := h (by intro e; rw [e] at hi; simp at hi)
    cases h1; exact h2
  refine ⟨g, 0, rfl, Nat.lt_of_lt_of_le hg (keep_setCells g y.cells (i * 6) W).size, fun j u hj => ?_⟩
  have hjl := (List.getElem?_eq_some_iff.1 hj).1
  rw [flat_len, List.length_set] at hjl
  obtain ⟨k, f, rfl, hf⟩ : ∃ k f, j = k * 6 + f ∧ f < 6 := ⟨j / 6, j % 6, by omega, by omega⟩
  have hk : k < L.length := by omega
  rw [Nat.zero_add]
  by_cases he : i = k
  · subst he
    rw [flat_get Mo.len _ i f y (by rw [List.getElem?_set]; simp [hi]) hf] at hj
    exact World.rangeAt_setCells_same W g (i * 6) y.cells ht f u hj
  · obtain ⟨x, hx⟩ : ∃ x, L[k]? = some x := ⟨L[k], List.getElem?_eq_getElem hk⟩
    rw [flat_get Mo.len _ k f x (by rw [List.getElem?_set, if_neg he, hx]) hf] at hj
    have hr : W.rangeAt g (k * 6) x.cells := fun q v hq => by
      obtain ⟨b, off, h1, h2, h3⟩ := h.get hx
      cases h1
      have := h3 q v hq
      rwa [Nat.zero_add] at this
    have := World.rangeAt_setCells_apart hr g (i * 6) y.cells (by
      right
      rw [Mo.len, Mo.len]
      omega)
    exact this f u hj
/-- A place as a number. -/
def fI : Option Nat → Int
  | some i => i
  | none => -1
set_option maxRecDepth 100000 in
set_option maxHeartbeats 4000000 in
theorem rfind_any {w : World} {d : Dx} {oa la : Option Addr} (oc lc : Nat) (hl : FlAt w la d.L) (hlen : d.L.length ≤ 1000) (part : Int) : Calls Tryz.prog 38 #[.agg (d.cells oa oc la lc), .int .i64 part] w fun e w' => e = .returned (.int .i64 (fI (fnd part d.L))) ∧ Keep [] w w' := by
  obtain ⟨ep, nd, own, L, last, com, abo⟩ := d
  simp only [Dx.cells] at *
  obtain ⟨n, hn⟩ : ∃ n, L.length = n := ⟨_, rfl⟩
  have HN := Lib.hid hn
  obtain ⟨w1, hw1⟩ : ∃ u, w.alloc (.cells #[.int .i64 ep, .int .i64 nd, .slice oa own.length oc, .slice la L.length lc, .int .i64 last, .int .i64 com, .int .i64 abo] 54) = u := ⟨_, rfl⟩
  have k1 : Keep [] w w1 := by rw [← hw1]; exact (Keep.refl _ _).alloc _
  have b1 : w1.heap[w.heap.size]? = some (.cells #[.int .i64 ep, .int .i64 nd, .slice oa own.length oc, .slice la L.length lc, .int .i64 last, .int .i64 com, .int .i64 abo] 54 (0, 0)) := by rw [← hw1]; exact World.alloc_heap_new w _
  rw [hn] at hw1 b1 hlen ⊢
  have HL := Lib.hid (hl.kept k1)
  have HK := Lib.hid k1
  have HB := Lib.hid b1
  clear hl k1 hn b1
  go_enter Tryz.func38, Tryz.ntmps38
  go_wp2_with (fail)
  go_loopw [5] (fun i wr => ∃ j : Nat, i = .int .i64 j ∧ j ≤ n ∧ fnd part (L.take j) = none ∧ wr = w1) (fun i _ => n - (intOf i).toNat)
  case atStart => exact ⟨0, rfl, Nat.zero_le _, rfl, rfl⟩
  case round =>
    obtain ⟨j, rfl, hj, hf, hwr⟩ := hrel
    subst hwr
    have HF := Lib.hid hf
    clear hf
    have h0j : (0 : Int) ≤ (j : Int) := Int.natCast_nonneg j
    obtain ⟨d0, d1, d2, d3, d4, d5, d6, d7⟩ := DxFacts HB.out
    by_cases hlt : j < n
    · have hjn : (j : Int) < (n : Int) := by omega
      obtain ⟨x, hx⟩ : ∃ x, L[j]? = some x := ⟨L[j]'(by rw [HN.out]; exact hlt), List.getElem?_eq_getElem _⟩
      obtain ⟨b, off, rfl, hb, hc⟩ := HL.out.get hx
      have c1 := hc 1 _ rfl
      have HX := Lib.hid hx
      obtain ⟨⟨x0, x1, x2, x3⟩, ⟨x4, x5⟩⟩ := x
      simp only at c1
      clear hc hx
      by_cases hp : x1 = part
      · have hpb : (x1 == part) = true := by simpa using hp
        have HRES := Lib.hid (show fI (fnd part L) = (j : Int) from by rw [fnd_full part HX.out HF.out hp]; rfl)
        go_wp2_with (fail)
        go_ret
        exact ⟨by rw [HRES.out]; rfl, HK.out⟩
      · have hpb : (x1 == part) = false := by simpa using hp
        have hpd : decide (x1 = part) = false := by simpa using hp
        go_wp2_with (fail)
        go_roundw
        case rel => exact ⟨j + 1, by go_num, by omega, by rw [fnd_snoc part HX.out HF.out, if_neg hp], by first | rfl | trivial⟩
        case measure => go_light; simp [intOf]; omega
    · obtain rfl : j = n := by omega
      have hjn : ¬ (j : Int) < (j : Int) := by omega
      have HRES := Lib.hid (show fI (fnd part L) = -1 from by have h := HF.out; rw [← HN.out, List.take_length] at h; rw [h]; rfl)
      go_wp2_with (fail)
      go_ret
      exact ⟨by rw [HRES.out]; rfl, HK.out⟩
set_option maxRecDepth 100000 in
set_option maxHeartbeats 4000000 in
theorem rwith_any {w : World} {d : Dx} {oa la : Option Addr} (oc lc : Nat) (hl : FlAt w la d.L) (hlen : d.L.length ≤ 1000) {i : Nat} (hi : i < d.L.length) (y : Mo) : Calls Tryz.prog 39 #[.agg (d.cells oa oc la lc), .int .i64 i, .agg y.cells.toArray] w fun e w' => ∃ g c, e = .returned (.agg (Dx.cells { d with L := d.L.set i y } oa oc (some ⟨g, 0, none⟩) c)) ∧ FlAt w' (some ⟨g, 0, none⟩) (d.L.set i y) ∧ (d.L.set i y).length ≤ c ∧ w.heap.size ≤ g ∧ g < w'.heap.size ∧ Keep [] w w' := by
  obtain ⟨ep, nd, own, L, last, com, abo⟩ := d
  obtain ⟨⟨y0, y1, y2, y3⟩, ⟨y4, y5⟩⟩ := y
  simp only [Dx.cells, Mo.cells] at *
  obtain ⟨n, hn⟩ : ∃ n, L.length = n := ⟨_, rfl⟩
  have HN := Lib.hid hn
  obtain ⟨w1, hw1⟩ : ∃ u, w.alloc (.cells #[.int .i64 ep, .int .i64 nd, .slice oa own.length oc, .slice la L.length lc, .int .i64 last, .int .i64 com, .int .i64 abo] 54) = u := ⟨_, rfl⟩
  obtain ⟨w2, hw2⟩ : ∃ u, w1.alloc (.cells #[.int .i64 y0, .int .i64 y1, .int .i64 y2, .int .i64 y3, .int .i64 y4, .int .i64 y5] 91) = u := ⟨_, rfl⟩
  obtain ⟨w3, hw3⟩ : ∃ u, w2.alloc (.cells #[.int .i64 0, .int .i64 0, .slice none 0 0, .slice none 0 0, .int .i64 0, .int .i64 0, .int .i64 0] 54) = u := ⟨_, rfl⟩
  have s1 : w1.heap.size = w.heap.size + 1 := by rw [← hw1, World.size_alloc]
  have s2 : w2.heap.size = w.heap.size + 1 + 1 := by rw [← hw2, World.size_alloc, s1]
  have s3 : w3.heap.size = w.heap.size + 1 + 1 + 1 := by rw [← hw3, World.size_alloc, s2]
  have k1 : Keep [] w w1 := by rw [← hw1]; exact (Keep.refl _ _).alloc _
  have k2 : Keep [] w1 w2 := by rw [← hw2]; exact (Keep.refl _ _).alloc _
  have k3 : Keep [] w2 w3 := by rw [← hw3]; exact (Keep.refl _ _).alloc _
  have b1 : w1.heap[w.heap.size]? = some (.cells #[.int .i64 ep, .int .i64 nd, .slice oa own.length oc, .slice la L.length lc, .int .i64 last, .int .i64 com, .int .i64 abo] 54 (0, 0)) := by rw [← hw1]; exact World.alloc_heap_new w _
  replace b1 := ((k2.trans k3).block _ (lt_of_heap b1) (by simp)).trans b1
  have b2 : w2.heap[w.heap.size + 1]? = some (.cells #[.int .i64 y0, .int .i64 y1, .int .i64 y2, .int .i64 y3, .int .i64 y4, .int .i64 y5] 91 (0, 0)) := by rw [← hw2, ← s1]; exact World.alloc_heap_new w1 _
  replace b2 := (k3.block _ (lt_of_heap b2) (by simp)).trans b2
  have b3 : w3.heap[w.heap.size + 1 + 1]? = some (.cells #[.int .i64 0, .int .i64 0, .slice none 0 0, .slice none 0 0, .int .i64 0, .int .i64 0, .int .i64 0] 54 (0, 0)) := by rw [← hw3, ← s2]; exact World.alloc_heap_new w2 _
  rw [hn] at hw1 b1 hlen hi ⊢
  have k := (k1.trans k2).trans k3
  have HL := Lib.hid (hl.kept k)
  have HK := Lib.hid k
  have HB1 := Lib.hid b1
  have HB2 := Lib.hid b2
  have HB3 := Lib.hid b3
  have HS3 := Lib.hid s3
  obtain ⟨d0, d1, d2, d3, d4, d5, d6, d7⟩ := DxFacts b1
  have hin : (i : Int) < (n : Int) := by omega
  clear hl k1 k2 k3 k b1 b2 b3 hn s3
  go_enter Tryz.func39, Tryz.ntmps39
  go_wp2_with (at_builtin; refine wpList_append_dm rfl _ _ rfl (w.heap.size + 1 + 1 + 1) (.slice none 0 0) [] L rfl (DmRow.nil _ _) la n lc rfl HN.out HL.out (by simp; omega) (by rw [HS3.out]; omega) ?_)
  intro v' w4 hrow hk4 hnew
  try simp only [List.nil_append] at hrow
  obtain ⟨av, cv, rfl, hcap, hfl, hbl⟩ := hrow.shape
  obtain ⟨g, rfl, hg1, hg2⟩ : ∃ g, av = some ⟨g, 0, none⟩ ∧ w.heap.size + 1 + 1 + 1 ≤ g ∧ g < w4.heap.size := by
    obtain ⟨a, c, h1, h2⟩ := own_shape hrow
    rcases h2 with rfl | ⟨g, rfl⟩
    · simp only [Value.slice.injEq] at h1
      obtain ⟨rfl, -, -⟩ := h1
      obtain ⟨b, off, h3, _⟩ := hfl (by intro e; rw [e] at HN; have := HN.out; simp at this; omega)
      cases h3
    · simp only [Value.slice.injEq] at h1
      obtain ⟨rfl, -, -⟩ := h1
      exact ⟨g, rfl, (hbl g 0 rfl).1, (hbl g 0 rfl).2.1⟩
  have hk : Keep [] w3 w4 := hk4.mono (by simp [Value.ownBlock])
  have e1 := (hk.block _ (lt_of_heap HB1.out) (by simp)).trans HB1.out
  have e2 := (hk.block _ (lt_of_heap HB2.out) (by simp)).trans HB2.out
  have e3 := (hk.block _ (lt_of_heap HB3.out) (by simp)).trans HB3.out
  have hth : w4.there g (i * 6) 6 := fun q hq => by
    obtain ⟨x, hx⟩ : ∃ x, L[i]? = some x := ⟨L[i]'(by rw [HN.out]; exact hi), List.getElem?_eq_getElem _⟩
    obtain ⟨b, off, h1, h2, h3⟩ := hfl.get hx
    cases h1
    obtain ⟨u, hu⟩ : ∃ u, (Mo.cells x)[q]? = some u := ⟨(Mo.cells x)[q]'(by rw [Mo.len]; exact hq), List.getElem?_eq_getElem _⟩
    have h4 := h3 q u hu
    rw [Nat.zero_add] at h4
    refine ⟨by rw [h4]; rfl, ?_⟩
    rcases hrow.2 with ⟨hv, _⟩ | ⟨g', cap, cur, hv, _, hg', _⟩
    · cases hv
    · cases hv
      unfold World.frozen?
      rw [hg']
      simp
  have hfs := fl_set hfl (by rw [HN.out]; exact hi) ⟨⟨y0, y1, y2, y3⟩, ⟨y4, y5⟩⟩ hth
  simp only [Mo.cells] at hfs
  obtain ⟨w5, hw5⟩ : ∃ u, w4.setCells g (i * 6) [.int .i64 y0, .int .i64 y1, .int .i64 y2, .int .i64 y3, .int .i64 y4, .int .i64 y5] = u := ⟨_, rfl⟩
  rw [hw5] at hfs
  have k5 : Keep [g] w4 w5 := by rw [← hw5]; exact keep_setCells g _ _ _
  have n1 : w.heap.size ∉ [g] := by simp; omega
  have n3 : w.heap.size + 1 + 1 ∉ [g] := by simp; omega
  have f1 := (k5.block _ (lt_of_heap e1) n1).trans e1
  have f3 := (k5.block _ (lt_of_heap e3) n3).trans e3
  obtain ⟨w6, hw6⟩ : ∃ u, w5.setCell ⟨w.heap.size, 3, none⟩ (.slice (some ⟨g, 0, none⟩) L.length cv) = u := ⟨_, rfl⟩
  have g1 : w6.heap[w.heap.size]? = some (.cells #[.int .i64 ep, .int .i64 nd, .slice oa own.length oc, .slice (some ⟨g, 0, none⟩) L.length cv, .int .i64 last, .int .i64 com, .int .i64 abo] 54 (0, 0)) := by rw [← hw6]; simp [World.setCell, Array.getElem?_modify, f1]
  have k6 : Keep [w.heap.size] w5 w6 := by rw [← hw6]; exact (Keep.refl _ _).setCell _ _ _ (.inl (by simp))
  have g3 := (k6.block _ (lt_of_heap f3) (by simp <;> omega)).trans f3
  obtain ⟨w7, hw7⟩ : ∃ u, w6.setRow (w.heap.size + 1 + 1) #[.int .i64 ep, .int .i64 nd, .slice oa own.length oc, .slice (some ⟨g, 0, none⟩) L.length cv, .int .i64 last, .int .i64 com, .int .i64 abo] = u := ⟨_, rfl⟩
  have hst := run_storeVar_row (P := Tryz.prog) w6 (w.heap.size + 1 + 1) 54 54 _ #[.int .i64 ep, .int .i64 nd, .slice oa own.length oc, .slice (some ⟨g, 0, none⟩) L.length cv, .int .i64 last, .int .i64 com, .int .i64 abo] g3 (by kernel_rfl) rfl (by simp [Value.oneCell'])
  rw [hw7] at hst
  have r7 : w7.heap[w.heap.size + 1 + 1]? = some (.cells #[.int .i64 ep, .int .i64 nd, .slice oa own.length oc, .slice (some ⟨g, 0, none⟩) L.length cv, .int .i64 last, .int .i64 com, .int .i64 abo] 54 (0, 0)) := by rw [← hw7]; exact setRow_heap w6 _ _ _ _ _ g3
  have k7 : Keep [w.heap.size + 1 + 1] w6 w7 := by rw [← hw7]; exact (Keep.refl _ _).setRow _ _ (.inl (by simp))
  have h3s := HS3.out
  have O : ∀ {b : Nat}, w.heap.size ≤ b → ∀ y ∈ [b], y ∈ ([] : List Nat) ∨ w.heap.size ≤ y := fun {b} h y hy => .inr (by rw [List.mem_singleton.1 hy]; exact h)
  have HKF := Lib.hid ((((HK.out.trans hk).step k5 (O (by omega))).step k6 (O (Nat.le_refl _))).step k7 (O (by omega)))
  have HFS := Lib.hid ((hfs.keep k6 (fun _ b off hb => by cases hb; simp; omega)).keep k7 (fun _ b off hb => by cases hb; simp; omega))
  have HG := Lib.hid (show w.heap.size ≤ g ∧ g < w7.heap.size from ⟨by omega, Nat.lt_of_lt_of_le hg2 (Nat.le_trans k5.size (Nat.le_trans k6.size k7.size))⟩)
  have HTH := Lib.hid hth
  have HST := Lib.hid hst
  have HR7 := Lib.hid r7
  have HG1 := Lib.hid g1
  have HCAP := Lib.hid hcap
  obtain ⟨p0, p1, p2, p3, p4, p5, p6⟩ := MvFacts e2
  obtain ⟨q0, q1, q2, q3, q4, q5, q6, q7⟩ := DxFacts f1
  rw [HN.out] at hw6 hw7 HST HG1 HR7 ⊢
  clear hrow hk4 hnew hfl hbl hg1 hg2 hk e1 e2 e3 hth hfs k5 k6 k7 f1 f3 g1 g3 hst r7 hw7 h3s O n1 n3 d0 d1 d2 d3 d4 d5 d6 d7 hw1 hw2 hw3 hcap
  go_wp2_with (first | ((with_reducible refine wpList_store_mid ?_ 91 (.tmp 15) (.tmp 14) ?_ g (i * 6) #[.int .i64 y0, .int .i64 y1, .int .i64 y2, .int .i64 y3, .int .i64 y4, .int .i64 y5] ?_ ?_ ?_ ?_ ?_ ?_); rfl; rfl; rfl; rfl; exact HTH.out; kernel_rfl; simp [Value.oneCell']) | ((with_reducible refine wpList_load_row ?_ 54 (.tmp 3) ?_ w.heap.size ?_ 54 _ (0, 0) _ HG1.out Tryz.underlying54 ?_ ?_ ?_); rfl; rfl; rfl; rfl; kernel_rfl) | ((with_reducible refine wpList_store_all ?_ 54 (.tmp 6) (.tmp 18) ?_ (w.heap.size + 1 + 1) ?_ _ ?_ HST.out ?_); rfl; rfl; rfl; rfl))
  refine bodyPost_ret (results_cell_row rfl _ w7 (w.heap.size + 1 + 1) 54 _ (0, 0) _ rfl HR7.out Tryz.underlying54 rfl (by kernel_rfl)) rfl ?_
  refine ⟨g, cv, ?_, HFS.out, by rw [List.length_set]; exact HCAP.out, HG.out.1, HG.out.2, HKF.out⟩
  rw [List.length_set, HN.out]
end
end Go.Proofs.YteejdfpfdnkiiaaGreat
