/- Lists of numbers: Clone, and the writer's list. -/
import Derived.Test.YteejdfpfdnkiiaaGreatPd
import Derived.Lib.SliceRun
namespace Go.Proofs.YteejdfpfdnkiiaaGreat
open Go.RowKit Go.Lib
set_option linter.unusedSimpArgs false
set_option linter.unusedVariables false
def inV (n : Int) : Value := .int .i64 n
theorem own_lt {w : World} {base n size : Nat} {e : TypeId} {v : Value} {xs : List Value} (h : w.ownsRow base e size v n xs) : ∀ g, v.ownBlock = some g → g < w.heap.size := by
  intro g hg
  rcases h.2 with ⟨hv, _⟩ | ⟨g', cap, cur, hv, hb, hg', r⟩
  · rw [hv] at hg; cases hg
  · rw [hv] at hg
    obtain rfl : g' = g := by simpa [Value.ownBlock] using hg
    exact lt_of_heap hg'
def IRow (base : Nat) (W : World) (v : Value) (l : List Int) : Prop := W.ownsRow base 3 1 v l.length (l.map inV)
theorem IRow.keep {X : List Nat} {base : Nat} {W W' : World} {v : Value} {l : List Int} (h : IRow base W v l) (hk : Keep X W W') (hx : ∀ g, v.ownBlock = some g → g ∉ X) : IRow base W' v l := own_keep h hk hx
theorem IRow.at {base : Nat} {W : World} {a : Option Addr} {c : Nat} {l : List Int} (h : IRow base W (.slice a l.length c) l) : IntsAt W a l := by
  intro hl
  rcases h.2 with ⟨hv, h0⟩ | ⟨g, cap, cur, hv, hb, hg, hn, hc, hcs, htk⟩
  · exact absurd (List.length_eq_zero_iff.1 h0) hl
  · simp only [Value.slice.injEq, true_and] at hv
    obtain ⟨rfl, rfl⟩ := hv
    refine ⟨g, 0, rfl, lt_of_heap hg, fun j hj => ?_⟩
    unfold World.cell?
    simp only [Nat.zero_add]
    rw [hg]
    have h1 : (cur.toList.take (l.length * 1))[j]? = (l.map inV)[j]? := by rw [htk]
    rw [List.getElem?_take_of_lt (by omega), Array.getElem?_toList] at h1
    simp only [Option.isSome_none, Bool.false_eq_true, if_false]
    rw [h1, List.getElem?_map, List.getElem?_eq_getElem hj]
    rfl
theorem IntsAt.keep {X : List Nat} {W W' : World} {a : Option Addr} {l : List Int} (h : IntsAt W a l) (hk : Keep X W W') (hx : l ≠ [] → ∀ b off, a = some ⟨b, off, none⟩ → b ∉ X) : IntsAt W' a l := by
  intro hl
  obtain ⟨b, off, rfl, h2, h3⟩ := h hl
  exact ⟨b, off, rfl, Nat.lt_of_lt_of_le h2 hk.size, fun j hj => (hk.cell _ h2 (hx hl b off rfl)).trans (h3 j hj)⟩
theorem infoInt : (Tryz.prog.info? 3).map (fun i => (i.zero, i.size, i.bytes)) = some (some (.int .i64 0), 1, 8) := by kernel_rfl
theorem q26 (w : World) (a : Option Addr) (n c n' c' : Nat) : (binOp .eql 22 (.slice a n c) (.slice none n' c')).run Tryz.prog w = .ok (.bool a.isNone) w := Lib.run_eql_slice_nil w _ _ a n c n' c' Tryz.underlying22
set_option maxRecDepth 100000 in
/-- slices.Clone: the same numbers, in memory of the call's own. -/
theorem clone_any {w : World} {a : Option Addr} {l : List Int} (c : Nat) (h : IntsAt w a l) (hl : l.length ≤ 100000) : Calls Tryz.prog 43 #[.slice a l.length c] w fun e w' => ∃ v', e = .returned v' ∧ IRow w.heap.size w' v' l ∧ Below w.heap.size w w' := by
  have hq := q26
  have H := Lib.hid h
  clear h
  cases a with
  | none =>
    have hl0 : l = [] := by
      cases hc : l with
      | nil => rfl
      | cons x r => obtain ⟨b, off, e, _⟩ := H.out (by rw [hc]; simp); cases e
    subst hl0
    go_enter Tryz.func43, Tryz.ntmps43
    go_wp2
    go_ret
    exact ⟨_, rfl, World.ownsRow_nil _ _ _ _, Below.refl _ _⟩
  | some ad =>
    obtain ⟨i0, hi, hz0, hz1, hz2⟩ := info_parts infoInt
    obtain ⟨b, off, sp⟩ := ad
    have hnews : ∀ (W : World), Keep [] w W → ∀ j u, (l.map inV)[j]? = some u → W.cell? ((⟨b, off, sp⟩ : Addr).add j) = some u := by
      intro W hk j u hj
      have hjl : j < l.length := by have := (List.getElem?_eq_some_iff.1 hj).1; simpa using this
      obtain ⟨b', off', e, h2, h3⟩ := (H.out.keep hk (by simp)) (by intro e; rw [e] at hjl; simp at hjl)
      cases e
      rw [add_at, h3 j hjl]
      rw [List.getElem?_map, List.getElem?_eq_getElem hjl] at hj
      rw [List.getElem?_eq_getElem hjl]
      exact hj
    have HNW := Lib.hid hnews
    clear hnews
    go_enter Tryz.func43, Tryz.ntmps43
    go_wp2_with (at_builtin; refine wpList_append_own_at _ rfl _ _ 22 rfl w.heap.size 3 i0 (.int .i64 0) 1 8 Tryz.underlying22 hi hz0 hz1 hz2 rfl (by decide) _ _ _ rfl (World.ownsRow_made w #[] 0 (Nat.le_refl _) (Nat.zero_le _) rfl) ⟨b, off, sp⟩ l.length c (l.map inV) rfl (by simp) ?c2 ?c3 ?c4 ?c5 ?c6 ?_)
    case c2 => exact HNW.out _ ((Keep.refl _ _).alloc _)
    case c3 => intro u hu; obtain ⟨x, _, rfl⟩ := List.mem_map.1 hu; rfl
    case c4 => unfold maxLen; omega
    case c5 => omega
    case c6 => simp
    intro v' w1 hown hgrow _ _
    go_wp2
    go_ret
    refine ⟨v', rfl, by unfold IRow; simpa using hown, ((Below.refl _ w).alloc (Nat.le_refl _) _).grown hgrow (by simp) (by intro k hk; simp [Value.ownBlock] at hk; omega)⟩
/-- A message in a block. -/
def MsAt (W : World) (mb : Nat) (cs : Array Value) : Prop := W.heap[mb]? = some (.cells cs 47 (0, 0))
theorem MsAt.keep {X : List Nat} {W W' : World} {mb : Nat} {cs : Array Value} (h : MsAt W mb cs) (hk : Keep X W W') (hx : mb ∉ X) : MsAt W' mb cs := (hk.block mb (lt_of_heap h) hx).trans h
theorem MsAt.cell {W : World} {mb : Nat} {cs : Array Value} (h : MsAt W mb cs) (j : Nat) : W.cell? ⟨mb, j, none⟩ = cs[j]? := by
  unfold MsAt at h
  unfold World.cell?
  rw [h]
  rfl
theorem MsAt.fz {W : World} {mb : Nat} {cs : Array Value} (h : MsAt W mb cs) (o : Nat) : W.frozen? ⟨mb, o, none⟩ = false := by
  unfold MsAt at h
  unfold World.frozen?
  rw [h]
  simp
theorem MsAt.set {W : World} {mb : Nat} {cs : Array Value} (h : MsAt W mb cs) (o : Nat) (v : Value) : MsAt (W.setCell ⟨mb, o, none⟩ v) mb (cs.setIfInBounds o v) := by
  unfold MsAt at *
  simp [World.setCell, Array.getElem?_modify, h]
theorem ms_ne {W : World} {mb base n size : Nat} {e : TypeId} {v : Value} {xs : List Value} {cs : Array Value} (h : W.ownsRow base e size v n xs) (hm : MsAt W mb cs) (he : e ≠ 47) : ∀ b, v.ownBlock = some b → b ≠ mb := by
  rintro b hb rfl
  rcases h.2 with ⟨hv, _⟩ | ⟨g', cap, cur, hv, hb', hg', r⟩
  · rw [hv] at hb; cases hb
  · rw [hv] at hb
    obtain rfl : g' = b := by simpa [Value.ownBlock] using hb
    unfold MsAt at hm
    rw [hg'] at hm
    simp at hm
    exact he hm.2
theorem ms_ne_wr {W : World} {mb g base : Nat} {v : Value} {l : List UInt8} {cs : Array Value} (h : WrAt base W g v l) (hm : MsAt W mb cs) : mb ≠ g := by
  rintro rfl
  have := h.o
  unfold MsAt at hm
  rw [hm] at this
  simp at this
def numsB (l : List Int) : List UInt8 := l.flatMap fun x => varB x.toNat
theorem numsB_len (l : List Int) (h : ∀ x ∈ l, 0 ≤ x ∧ x ≤ 2147483647) : (numsB l).length ≤ 10 * l.length := by
  induction l with
  | nil => simp [numsB]
  | cons x r ih =>
    have e : numsB (x :: r) = varB x.toNat ++ numsB r := by simp [numsB]
    have h1 := h x (by simp)
    have := varB_len x.toNat (by omega)
    have := ih (fun y hy => h y (by simp [hy]))
    rw [e, List.length_append, List.length_cons]
    omega
theorem numsB_snoc (l : List Int) (x : Int) : numsB (l ++ [x]) = numsB l ++ varB x.toNat := by unfold numsB; simp
/-- One number goes behind others, in a drawn region. -/
theorem does_append_int {w : World} {o : Oper} {a : Act} {Q : Value → World → Prop} (s x : Operand)
    (ho : o.op = .call { callee := .builtin .append, args := #[s, x], argTypes := #[22, 22] }) (base : Nat) (v : Value) (M : List Int) (hs : a.eval s = v) (hown : IRow base w v M)
    (ad : Addr) (c : Nat) (hx : a.eval x = .slice (some ad) 1 c) (b : Int) (hb : w.cell? ad = some (inV b)) (hm : M.length ≤ 100000) (hbase : base ≤ w.heap.size)
    (h : ∀ v' w', IRow base w' v' (M ++ [b]) → Keep v.ownBlock.toList w w' → (v'.ownBlock = v.ownBlock ∨ v'.ownBlock = some w.heap.size) → Q v' w') :
    Oper.does Tryz.prog o a w Q := by
  obtain ⟨i0, hi0, hz0, hz1, hz2⟩ := info_parts infoInt
  obtain ⟨v', w', hr, h2, h3, h4, h5⟩ := run_append_own_at (P := Tryz.prog) w base 22 o.type 3 i0 (.int .i64 0) 1 8 Tryz.underlying22 hi0 hz0 hz1 hz2 rfl (by decide) v M.length (M.map inV) hown ad 1 c [inV b] rfl
    (by intro j u hj
        cases j with
        | zero => simp at hj; subst hj; rw [show ad.add 0 = ad from by unfold Addr.add; simp]; exact hb
        | succ j => simp at hj) (by intro u hu; simp at hu; subst hu; rfl) (by unfold maxLen; omega) (by omega) hbase
  unfold Oper.does execOp
  simp only [ho, resolve, invoke, builtin, Sem.run_bind, Sem.run_pure, Result.andThen_ok, List.map_toArray, List.map_cons, List.map_nil, hs, hx, hr]
  refine h v' w' ?_ ((Keep.refl _ w).grown h3 (fun k hk => .inl (by simp [hk]))) h5
  unfold IRow
  rw [List.length_append, List.map_append]
  exact h2
/-- A number in a new row of one. -/
def Spec.oneI (n : Nat) (x : Int) : Spec := { p := fun _ v => ∃ g, v = .slice (some ⟨g, 0, none⟩) 1 1 ∧ n ≤ g, A := fun _ v w => ∃ g, v = .slice (some ⟨g, 0, none⟩) 1 1 ∧ n ≤ g ∧ w.heap[g]? = some (.cells #[.int .i64 x] 3 (0, 0)) }
/-- The row that one number has gone behind. -/
def Spec.appI (base : Nat) (v : Value) (l : List Int) (x : Int) (w0 : World) : Spec := { p := fun _ u => ∃ a c, u = .slice a (l.length + 1) c, A := fun _ u w => IRow base w u (l ++ [x]) ∧ OwnUp w0 v u, B := fun w => IRow base w v l, G := fun _ => Keep v.ownBlock.toList }
theorem spOk_appI {w0 : World} {base : Nat} {v : Value} {l : List Int} {x : Int} (h : IRow base w0 v l) : SpOk (spOf [(5, Spec.oneI w0.heap.size x), (6, Spec.appI base v l x w0)]) := by
  have hlt := own_lt h
  refine spOk_two (fun _ => ⟨_, w0.heap.size, rfl, Nat.le_refl _⟩) (fun _ => ⟨_, none, 0, rfl⟩) ?_ (fun _ _ _ _ _ => trivial) ?_ ?_
  · rintro _ y u w w' ⟨g, h1, h2, h3⟩ hk
    exact ⟨g, h1, h2, (hk.block g (lt_of_heap h3) (fun hm => by have := hlt g (by simpa using hm); omega)).trans h3⟩
  · rintro _ y u w w' ⟨h1, h2⟩ hk
    exact ⟨h1.keep hk (by simp), h2⟩
  · rintro _ w w' h1 hk
    exact h1.keep hk (by simp)
/-- How far the writer's list has come. -/
structure NwI (base g mb off : Nat) (v : Value) (l : List UInt8) (own : List Int) (a2 : Option Addr) (c2 nc nb : Nat) (w : World) (j : Nat) (v2 vp : Value) (cs2 : Array Value) (W : World) : Prop where
  R : WrR base g [mb] v v2 (l ++ varB own.length ++ numsB (own.take j)) w W
  M : MsAt W mb cs2
  C : cs2[off]? = some vp
  S : cs2.size = 22
  P : IRow nb W vp (own.take j)
  I : IRow nc W (.slice a2 own.length c2) own
  J : ∀ b, (Value.slice a2 own.length c2).ownBlock = some b → b < nb
  G : g < nb ∧ mb < nb ∧ w.heap.size ≤ nb ∧ g ≠ mb
  Z : nb ≤ W.heap.size
theorem own_ne_wr {W : World} {g base n size : Nat} {e : TypeId} {v u : Value} {xs : List Value} (h : W.ownsRow base e size v n xs) (ho : W.heap[g]? = some (.cells #[u] 142 (0, 0))) (he : e ≠ 142) : ∀ b, v.ownBlock = some b → b ≠ g := by
  rintro b hb rfl
  rcases h.2 with ⟨hv, _⟩ | ⟨g', cap, cur, hv, hb', hg', r⟩
  · rw [hv] at hb; cases hb
  · rw [hv] at hb
    obtain rfl : g' = b := by simpa [Value.ownBlock] using hb
    rw [hg'] at ho
    simp at ho
    exact he ho.2
theorem row_ne {W : World} {base base' n n' size size' : Nat} {e e' : TypeId} {v v' : Value} {xs xs' : List Value} (h : W.ownsRow base e size v n xs) (h' : W.ownsRow base' e' size' v' n' xs') (hne : e ≠ e') : ∀ g, v.ownBlock = some g → v'.ownBlock ≠ some g := by
  intro g hg hg'
  rcases h.2 with ⟨hv, _⟩ | ⟨g1, cap, cur, hv, hb, hc, r⟩
  · rw [hv] at hg; cases hg
  · rcases h'.2 with ⟨hv', _⟩ | ⟨g2, cap', cur', hv', hb', hc', r'⟩
    · rw [hv'] at hg'; cases hg'
    · rw [hv] at hg
      rw [hv'] at hg'
      obtain rfl : g1 = g := by simpa [Value.ownBlock] using hg
      obtain rfl : g2 = g1 := by simpa [Value.ownBlock] using hg'
      rw [hc] at hc'
      simp only [Option.some.injEq, Obj.cells.injEq] at hc'
      exact hne hc'.2.1
/-- One number is written. -/
theorem NwI.num {base g mb off : Nat} {v : Value} {l : List UInt8} {own : List Int} {a2 : Option Addr} {c2 nc nb : Nat} {w : World} {j : Nat} {v2 vp v3 : Value} {cs2 : Array Value} {W W' : World} {bs : List UInt8} (h : NwI base g mb off v l own a2 c2 nc nb w j v2 vp cs2 W) (k : WrR base g [] v2 v3 (l ++ varB own.length ++ numsB (own.take j) ++ bs) W W') :
    WrR base g [mb] v v3 (l ++ varB own.length ++ numsB (own.take j) ++ bs) w W' ∧ MsAt W' mb cs2 ∧ IRow nb W' vp (own.take j) ∧ IRow nc W' (.slice a2 own.length c2) own := by
  have hi : ∀ b, b ∈ g :: ([] ++ v2.ownBlock.toList) → b = g ∨ v2.ownBlock = some b := fun b hb => by
    simp only [List.mem_cons, List.nil_append] at hb
    rcases hb with e | e
    · exact .inl e
    · exact .inr (by simpa using e)
  have hrow : ∀ {base' n size : Nat} {u : Value} {xs : List Value}, W.ownsRow base' 3 size u n xs → ∀ b, u.ownBlock = some b → b ∉ g :: ([] ++ v2.ownBlock.toList) := by
    intro base' n size u xs hr b hb hm
    rcases hi b hm with e | e
    · exact own_ne_wr hr h.R.at_.o (by decide) b hb e
    · exact row_ne hr h.R.at_.r (by decide) b hb e
  refine ⟨h.R.trans (k.mono (by simp)), h.M.keep k.keep (fun hm => ?_), h.P.keep k.keep (hrow h.P), h.I.keep k.keep (hrow h.I)⟩
  rcases hi mb hm with e | e
  · exact h.G.2.2.2 e.symm
  · exact ms_ne h.R.at_.r h.M (by decide) mb e rfl
/-- And goes behind the list's others. -/
theorem NwI.app {base g mb off : Nat} {v : Value} {l : List UInt8} {own : List Int} {a2 : Option Addr} {c2 nc nb : Nat} {w : World} {j x : Nat} {v2 vp v3 u : Value} {cs2 : Array Value} {W W1 W2 : World} (h : NwI base g mb off v l own a2 c2 nc nb w j v2 vp cs2 W) (hx : own[j]? = some (x : Int))
    (k : WrR base g [mb] v v3 (l ++ varB own.length ++ numsB (own.take j) ++ varB x) w W1 ∧ MsAt W1 mb cs2 ∧ IRow nb W1 vp (own.take j) ∧ IRow nc W1 (.slice a2 own.length c2) own) (hk : Keep vp.ownBlock.toList W1 W2) (hu : IRow nb W2 u (own.take j ++ [(x : Int)])) (hz : nb ≤ W2.heap.size) :
    NwI base g mb off v l own a2 c2 nc nb w (j + 1) v3 u (cs2.setIfInBounds off u) (W2.setCell ⟨mb, off, none⟩ u) := by
  obtain ⟨k1, k2, k3, k4⟩ := k
  have ht : own.take (j + 1) = own.take j ++ [(x : Int)] := by rw [List.take_add_one, hx]; rfl
  have hm2 : MsAt W2 mb cs2 := k2.keep hk (fun hm => ms_ne k3 k2 (by decide) mb (by simpa using hm) rfl)
  have hw2 : WrAt base W2 g v3 (l ++ varB own.length ++ numsB (own.take j) ++ varB x) := k1.at_.keep hk (fun hm => own_ne_wr k3 k1.at_.o (by decide) g (by simpa using hm) rfl) (fun b hb hm => row_ne k3 k1.at_.r (by decide) b (by simpa using hm) hb)
  have hi2 : IRow nc W2 (.slice a2 own.length c2) own := k4.keep hk (fun b hb hm => by have h1 := h.J b hb; have h2 := own_base k3 b (by simpa using hm); omega)
  have hks : Keep [mb] W2 (W2.setCell ⟨mb, off, none⟩ u) := (Keep.refl _ _).setCell _ _ _ (.inl (by simp))
  have hlt : off < cs2.size := (Array.getElem?_eq_some_iff.1 h.C).1
  have e : l ++ varB own.length ++ numsB (own.take (j + 1)) = l ++ varB own.length ++ numsB (own.take j) ++ varB x := by rw [ht, numsB_snoc]; simp
  refine ⟨⟨?_, ?_, k1.up⟩, hm2.set off u, by simp [hlt], by simp [h.S], ?_, hi2.keep hks (fun b hb => by have := ms_ne hi2 hm2 (by decide) b hb; simpa using this), h.J, h.G, Nat.le_trans hz hks.size⟩
  · rw [e]
    exact hw2.keep hks (by simp; exact h.G.2.2.2) (fun b hb => by have := ms_ne hw2.r hm2 (by decide) b hb; simpa using this)
  · exact (k1.keep.step hk (fun y hy => .inr (by have := own_base k3 y (by simpa using hy); have := h.G; omega))).step hks (by simp)
  · rw [ht]
    exact hu.keep hks (fun b hb => by have := ms_ne hu hm2 (by decide) b hb; simpa using this)
theorem NwI.keep {base g mb off : Nat} {v : Value} {l : List UInt8} {own : List Int} {a2 : Option Addr} {c2 nc nb : Nat} {w : World} {j : Nat} {v2 vp : Value} {cs2 : Array Value} {W W' : World} (h : NwI base g mb off v l own a2 c2 nc nb w j v2 vp cs2 W) (hk : Keep [] W W') : NwI base g mb off v l own a2 c2 nc nb w j v2 vp cs2 W' :=
  ⟨⟨h.R.at_.keep hk (by simp) (by simp), h.R.keep.step hk (by simp), h.R.up⟩, h.M.keep hk (by simp), h.C, h.S, h.P.keep hk (by simp), h.I.keep hk (by simp), h.J, h.G, Nat.le_trans h.Z hk.size⟩
set_option maxRecDepth 100000 in
set_option maxHeartbeats 4000000 in
theorem numsW_any {base g : Nat} {w : World} {v : Value} {l : List UInt8} (h : WrAt base w g v l) (hl : l.length ≤ 1000) {mb off c : Nat} {cs : Array Value} {a : Option Addr} {own : List Int} (hm : MsAt w mb cs) (hsz : cs.size = 22) (hof : cs[off]? = some (.slice a own.length c)) (hI : IntsAt w a own) (hab : own ≠ [] → ∀ b o, a = some ⟨b, o, none⟩ → b < base) (hbg : base ≤ g ∧ base ≤ mb) (h64 : own.length ≤ 64) (hr : ∀ x ∈ own, 0 ≤ x ∧ x ≤ 2147483647) : Calls Tryz.prog 100 #[(.iface 145 (.pointer (some ⟨g, 0, none⟩))), .pointer (some ⟨mb, off, none⟩), .int .i64 64] w fun e w' => e = .returned (.tuple #[]) ∧ ∃ v' cs', WrR base g [mb] v v' (l ++ varB own.length ++ numsB own) w w' ∧ MsAt w' mb cs' := by
  have H := Lib.hid h
  have HM := Lib.hid hm
  have HOF := Lib.hid hof
  have HI := Lib.hid hI
  have HR := Lib.hid hr
  clear h hm hof hI hr
  have hm_count : ∀ W, (method 327 145 (.pointer (some ⟨g, 0, none⟩)) "meter/msg.count").run Tryz.prog W = .ok (128, .pointer (some ⟨g, 0, none⟩)) W := fun _ => by kernel_rfl
  have hm_num : ∀ W, (method 327 145 (.pointer (some ⟨g, 0, none⟩)) "meter/msg.num").run Tryz.prog W = .ok (130, .pointer (some ⟨g, 0, none⟩)) W := fun _ => by kernel_rfl
  go_enter Tryz.func100, Tryz.ntmps100
  go_wp2_with (fail)
  refine wp_region_soup 9 [] (fun _ => none) (by kernel_rfl) (by kernel_rfl) (spOk_of (l := []) (by simp)) (pre_of (l := []) (by simp)) ?_
  simp only [List.take_succ_cons, List.take_zero, List.drop_succ_cons, List.drop_zero]
  iterate 3
    with_reducible refine soup_q ?_ ?_ ?_
    · rfl
    · rfl
    with_reducible apply Exists.intro
    with_reducible refine ⟨fun W hk _ => ?_, ?_⟩
    · unfold Oper.same
      go_simp
      first | rfl | exact ⟨rfl, rfl⟩
    with_reducible apply Exists.intro
    with_reducible refine ⟨?_, ?_⟩
    · go_simp
      rfl
  with_reducible refine soup_q ?_ ?_ ?_
  · rfl
  · rfl
  with_reducible apply Exists.intro
  with_reducible refine ⟨fun W hk _ => ?_, ?_⟩
  · have c0 := (((HM.out.keep hk (by simp)).cell off).trans HOF.out)
    unfold Oper.same
    go_simp
    first | rfl | exact ⟨rfl, rfl⟩
  with_reducible apply Exists.intro
  with_reducible refine ⟨?_, ?_⟩
  · go_simp
    rfl
  iterate 2
    with_reducible refine soup_q ?_ ?_ ?_
    · rfl
    · rfl
    with_reducible apply Exists.intro
    with_reducible refine ⟨fun W hk _ => ?_, ?_⟩
    · unfold Oper.same
      go_simp
      first | rfl | exact ⟨rfl, rfl⟩
    with_reducible apply Exists.intro
    with_reducible refine ⟨?_, ?_⟩
    · go_simp
      rfl
  with_reducible refine soup_q ?_ ?_ ?_
  · rfl
  · rfl
  with_reducible apply Exists.intro
  with_reducible refine ⟨fun W hk _ => ?_, ?_⟩
  · have hmf : ∀ (fn : Fn) (first cap : Array Value) (w : World), (Instr.makeFunc fn first cap).run Tryz.prog w = .ok (.func fn first cap) w := fun _ _ _ _ => rfl
    unfold Oper.same
    go_simp
    first | rfl | exact ⟨rfl, rfl⟩
  with_reducible apply Exists.intro
  with_reducible refine ⟨?_, ?_⟩
  · go_simp
    rfl
  iterate 2
    with_reducible refine soup_q ?_ ?_ ?_
    · rfl
    · rfl
    with_reducible apply Exists.intro
    with_reducible refine ⟨fun W hk _ => ?_, ?_⟩
    · unfold Oper.same
      go_simp
      first | rfl | exact ⟨rfl, rfl⟩
    with_reducible apply Exists.intro
    with_reducible refine ⟨?_, ?_⟩
    · go_simp
      rfl
  refine soup_nil (fun W hk hS => ?_)
  have H1 := Lib.hid (H.out.keep hk (by simp) (by simp))
  have HM1 := Lib.hid (HM.out.keep hk (by simp))
  have HI1 := Lib.hid (HI.out.keep hk (by simp))
  have HK1 := Lib.hid hk
  clear hk hS H HM HI
  go_wp2_with (fail)
  refine (wcount_any H1.out (by omega) own.length 64 (by omega) (by omega)).mono ?_
  rintro e w1 ⟨rfl, v1, hw1⟩
  have hne1 := ms_ne_wr H1.out HM1.out
  have hne2 : mb ∉ (g :: ([] ++ v.ownBlock.toList)) := by
    intro hmem
    simp only [List.mem_cons, List.nil_append] at hmem
    rcases hmem with e | e
    · exact hne1 e
    · exact ms_ne H1.out.r HM1.out (by decide) mb (by simpa using e) rfl
  have hm1 := HM1.out.keep hw1.keep hne2
  have hI1 : IntsAt w1 a own := HI1.out.keep hw1.keep (fun hne b o e hmem => by
    have h1 := hab hne b o e
    simp only [List.mem_cons, List.nil_append] at hmem
    rcases hmem with e2 | e2
    · omega
    · have := own_base H1.out.r b (by simpa using e2)
      omega)
  have HW1 := Lib.hid (hw1.mono (Y := [mb]) (by simp))
  have HM2 := Lib.hid hm1
  have HI2 := Lib.hid hI1
  have HN1 := Lib.hid hne1
  have c0 := (hm1.cell off).trans HOF.out
  have cf := hm1.fz
  clear hw1 hne1 hne2 hm1 hI1
  go_wp2_with (fail)
  refine (clone_any c HI2.out (by omega)).mono ?_
  rintro e w2 ⟨vc, rfl, hIr, hB2⟩
  obtain ⟨a2, c2, rfl, _⟩ := own_shape hIr
  have k2 : Keep [] w1 w2 := Keep.of_below hB2 []
  have HW2 := Lib.hid (show WrR base g [mb] v v1 (l ++ varB own.length) W w2 from ⟨HW1.out.at_.keep k2 (by simp) (by simp), HW1.out.keep.step k2 (by simp), HW1.out.up⟩)
  have HM3 := Lib.hid (HM2.out.keep k2 (by simp))
  have HIR := Lib.hid hIr
  have HS2 := Lib.hid k2.size
  have c0 := (HM3.out.cell off).trans HOF.out
  have cf := HM3.out.fz
  clear hIr hB2 k2 HW1 HM2 HI2
  go_wp2_with (fail)
  clear c0 cf
  have hks : Keep [mb] w2 (w2.setCell ⟨mb, off, none⟩ (.slice none 0 0)) := (Keep.refl _ _).setCell _ _ _ (.inl (by simp))
  have hms := HM3.out.set off (.slice none 0 0)
  have hsz2 : (cs.setIfInBounds off (.slice none 0 0)).size = 22 := by simp [hsz]
  have hof2 : (cs.setIfInBounds off (.slice none 0 0))[off]? = some (.slice none 0 0) := by
    have := (Array.getElem?_eq_some_iff.1 HOF.out).1
    simp [this]
  have h0 : NwI base g mb off v l own a2 c2 w1.heap.size w2.heap.size w 0 v1 (.slice none 0 0) (cs.setIfInBounds off (.slice none 0 0)) (w2.setCell ⟨mb, off, none⟩ (.slice none 0 0)) := by
    have hlt := lt_of_heap HW2.out.at_.o
    have hlm := lt_of_heap HM3.out
    have hz2 : w.heap.size ≤ w2.heap.size := Nat.le_trans HK1.out.size HW2.out.keep.size
    refine ⟨?_, hms, hof2, hsz2, World.ownsRow_nil _ _ _ _, ?_, ?_, ⟨hlt, hlm, hz2, fun e => HN1.out e.symm⟩, hks.size⟩
    · have e0 : l ++ varB own.length ++ numsB (own.take 0) = l ++ varB own.length := by simp [numsB]
      rw [e0]
      refine ⟨HW2.out.at_.keep hks (by simp; exact fun e => HN1.out e.symm) (fun b hb => by have := ms_ne HW2.out.at_.r HM3.out (by decide) b hb; simpa using this), ((HK1.out.mono (by simp)).trans HW2.out.keep).step hks (by simp), OwnUp.trans (OwnUp.refl w v) HK1.out.size HW2.out.up⟩
    · exact HIR.out.keep hks (fun b hb => by have := ms_ne HIR.out HM3.out (by decide) b hb; simpa using this)
    · exact own_lt HIR.out
  have H0 := Lib.hid h0
  clear hks hms hsz2 hof2 h0 HW2 HM3 HIR HS2 HI1 HM1 H1
  go_loopw [27] (fun i wr => ∃ (j : Nat) (v2 vp : Value) (cs2 : Array Value), i = .int .i64 j ∧ j ≤ own.length ∧ NwI base g mb off v l own a2 c2 w1.heap.size w2.heap.size w j v2 vp cs2 wr) (fun i _ => own.length - (intOf i).toNat)
  case atStart => exact ⟨0, _, _, _, rfl, Nat.zero_le _, H0.out⟩
  case round =>
    clear H0
    obtain ⟨j, v2, vp, cs2, rfl, hj, hN⟩ := hrel
    have h0j : (0 : Int) ≤ (j : Int) := Int.natCast_nonneg j
    have HN := Lib.hid hN
    by_cases hlt : j < own.length
    · obtain ⟨ba, oa, rfl, hba, hat⟩ := hN.I.at (by intro e; rw [e] at hlt; simp at hlt)
      obtain ⟨x, hx⟩ : ∃ x, own[j]? = some x := ⟨own[j], List.getElem?_eq_getElem hlt⟩
      have hx1 := HR.out x (List.mem_of_getElem? hx)
      obtain ⟨xn, rfl⟩ : ∃ n : Nat, x = n := ⟨x.toNat, by omega⟩
      have d0 := hat j hlt
      rw [hx] at d0
      simp only [Option.getD_some] at d0
      have hjn : (j : Int) < (own.length : Int) := by omega
      have HX := Lib.hid hx
      clear hN hat hx
      go_wp2_with (fail)
      have kx : Keep [] wr (wr.alloc (.cells #[.int .i64 xn] 3)) := (Keep.refl _ _).alloc _
      have hNx := HN.out.keep kx
      have hbx : (wr.alloc (.cells #[.int .i64 xn] 3)).heap[wr.heap.size]? = some (.cells #[.int .i64 xn] 3 (0, 0)) := World.alloc_heap_new wr _
      have hcx : (wr.alloc (.cells #[.int .i64 xn] 3)).cell? ⟨wr.heap.size, 0, none⟩ = some (.int .i64 xn) := by unfold World.cell?; rw [hbx]; rfl
      have HNX := Lib.hid hNx
      have HBX := Lib.hid hbx
      have hll : (l ++ varB own.length ++ numsB (own.take j)).length ≤ 90000 := by have := varB_len own.length (by omega); have := numsB_len (own.take j) (fun x hx => HR.out x (List.mem_of_mem_take hx)); simp only [List.length_append, List.length_take] at *; omega
      refine (wnum_any HNX.out.R.at_ hll wr.heap.size 0 xn hcx (by omega)).mono ?_
      rintro e w3 ⟨rfl, v3, hw3⟩
      have hnum := HNX.out.num hw3
      have hbx3 : w3.heap[wr.heap.size]? = some (.cells #[.int .i64 xn] 3 (0, 0)) := (hw3.keep.block _ (by simp) (fun hm => by
        simp only [List.mem_cons, List.nil_append] at hm
        have h1 := lt_of_heap HN.out.R.at_.o
        rcases hm with e | e
        · omega
        · have := own_lt HN.out.R.at_.r _ (by simpa using e)
          omega)).trans HBX.out
      have hlx := lt_of_heap HN.out.M
      have hvx : ∀ b, vp.ownBlock = some b → b < wr.heap.size := own_lt HN.out.P
      have HNUM := Lib.hid hnum
      have HB3 := Lib.hid hbx3
      have HVX := Lib.hid hvx
      obtain ⟨ap, cp, rfl, _⟩ := own_shape HN.out.P
      have HC := Lib.hid HN.out.C
      have htl : (own.take j).length = j := by rw [List.length_take]; omega
      have HTL := Lib.hid htl
      have HZ3 := Lib.hid (show w2.heap.size ≤ w3.heap.size from Nat.le_trans HNX.out.Z hw3.keep.size)
      rw [htl] at HC HNUM HVX HN HNX
      clear hw3 hnum hbx3 hvx kx hNx hbx hcx hll htl d0 HBX HNX hlx
      go_wp2_with (fail)
      refine wp_region_soup 7 (Value.slice ap j cp).ownBlock.toList (spOf [(5, Spec.oneI w3.heap.size xn), (6, Spec.appI w2.heap.size (.slice ap j cp) (own.take j) xn w3)]) (by kernel_rfl) (by kernel_rfl) (spOk_appI HNUM.out.2.2.1) (fun i s hs => by have h := spOf_mem hs; simp at h; rcases h with ⟨_, rfl⟩ | ⟨_, rfl⟩; exact trivial; exact HNUM.out.2.2.1.keep (Keep.refl [] _).drew (by simp)) ?_
      simp only [List.take_succ_cons, List.take_zero, List.drop_succ_cons, List.drop_zero]
      iterate 3
        with_reducible refine soup_q ?_ ?_ ?_
        · rfl
        · rfl
        with_reducible apply Exists.intro
        with_reducible refine ⟨fun W hk _ => ?_, ?_⟩
        · unfold Oper.same
          go_simp
          first | rfl | exact ⟨rfl, rfl⟩
        with_reducible apply Exists.intro
        with_reducible refine ⟨?_, ?_⟩
        · go_simp
          rfl
      with_reducible refine soup_q ?_ ?_ ?_
      · rfl
      · rfl
      with_reducible apply Exists.intro
      with_reducible refine ⟨fun W hk _ => ?_, ?_⟩
      · have c0 := (((HNUM.out.2.1).keep hk (fun hm => ms_ne HNUM.out.2.2.1 HNUM.out.2.1 (by decide) mb (by simpa using hm) rfl)).cell off).trans HC.out
        unfold Oper.same
        go_simp
        first | rfl | exact ⟨rfl, rfl⟩
      with_reducible apply Exists.intro
      with_reducible refine ⟨?_, ?_⟩
      · go_simp
        rfl
      with_reducible refine soup_q ?_ ?_ ?_
      · rfl
      · rfl
      with_reducible apply Exists.intro
      with_reducible refine ⟨fun W hk _ => ?_, ?_⟩
      · have hb4 := (hk.block _ (lt_of_heap HB3.out) (fun hm => by have := HVX.out _ (by simpa using hm); omega)).trans HB3.out
        have c0 : W.cell? ⟨wr.heap.size, 0, none⟩ = some (.int .i64 xn) := by unfold World.cell?; rw [hb4]; rfl
        unfold Oper.same
        go_simp
        first | rfl | exact ⟨rfl, rfl⟩
      with_reducible apply Exists.intro
      with_reducible refine ⟨?_, ?_⟩
      · go_simp
        rfl
      refine soup_s rfl rfl rfl (fun W hk _ _ => ?_) ?_
      · unfold Oper.does
        go_simp
        exact ⟨(Keep.refl _ _).alloc _, hk.alloc _, ⟨_, rfl, hk.size⟩, _, rfl, hk.size, World.alloc_heap_new W _⟩
      rintro v ⟨gx, rfl, hgx⟩
      with_reducible apply Exists.intro
      with_reducible refine ⟨?_, ?_⟩
      · go_simp
        rfl
      refine soup_s rfl rfl rfl (fun W hk hB hd => ?_) ?_
      · obtain ⟨g', e1, _, e3⟩ := hd 5 (Dep.of 3 (by kernel_rfl))
        obtain rfl : gx = g' := by simpa using e1
        have hlt3 := own_lt HNUM.out.2.2.1
        refine does_append_int _ _ rfl w2.heap.size _ (own.take j) rfl hB ⟨gx, 0, none⟩ 1 rfl xn (by unfold World.cell?; rw [e3]; rfl) (by rw [HTL.out]; omega) (Nat.le_trans HZ3.out hk.size) ?_
        intro v' w' h1 h2 h3
        refine ⟨h2, hk.trans h2, ?_, h1, ?_⟩
        · obtain ⟨a', c', rfl, _⟩ := own_shape h1
          exact ⟨a', c', by rw [List.length_append, HTL.out]; rfl⟩
        · exact h3.imp id (fun e => ⟨_, e, hk.size⟩)
      rintro v ⟨ay, cy, rfl⟩
      with_reducible apply Exists.intro
      with_reducible refine ⟨?_, ?_⟩
      · go_simp
        rfl
      refine soup_nil (fun W4 hk hS => ?_)
      obtain ⟨hu, ho⟩ := hS 6
      have hap := HN.out.app HX.out HNUM.out hk hu (Nat.le_trans HZ3.out hk.size)
      have hm4 := HNUM.out.2.1.keep hk (fun hm => ms_ne HNUM.out.2.2.1 HNUM.out.2.1 (by decide) mb (by simpa using hm) rfl)
      have c0 := (hm4.cell off).trans HC.out
      have cf := hm4.fz
      rw [HTL.out] at hap
      have HAP := Lib.hid hap
      clear hk hS hu ho hap hm4
      go_wp2_with (fail)
      go_roundw
      case rel => exact ⟨j + 1, _, _, _, by go_num, by omega, HAP.out⟩
      case measure => simp [intOf]; omega
    · obtain rfl : j = own.length := by omega
      go_wp2_with (fail)
      have hR := HN.out.R
      rw [List.take_length] at hR
      have hM := HN.out.M
      go_end0
      exact ⟨rfl, _, _, hR, hM⟩
end Go.Proofs.YteejdfpfdnkiiaaGreat
