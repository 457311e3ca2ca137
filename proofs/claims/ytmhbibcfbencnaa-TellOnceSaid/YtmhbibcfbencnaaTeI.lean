/- TellOnce: the windows that are seen, in memory. -/
import Derived.Test.YtmhbibcfbencnaaTeH
import Derived.Test.YtmhbibcfbencnaaTeD
import Derived.Maps.AppendAt
namespace Go.Proofs.Ytmhbibcfbencnaa
open Go.RowKit Go.Lib
open Go.ChangeMaps (setBlock)
set_option linter.unusedSimpArgs false
set_option linter.unusedVariables false
theorem kp_ots {X : List Nat} {W W' : World} {base : Nat} {v : Value} {M : List Ot} (h : DocRow base W v M) (hk : Keep X W W') (hx : ∀ g, v.ownBlock = some g → g ∉ X) : DocRow base W' v M := own_keep h hk hx
theorem infoOtB : (Try.prog.info? 33).map (fun i => (i.zero, i.size, i.bytes)) = some (some (Ot.val ⟨ByteArray.empty, 0, Ag.zero⟩), 10, 88) := by kernel_rfl
/-- A row of windows goes behind another one. -/
theorem wpList_append_ots {w : World} {ops : Array Oper} {rest : List Oper} {o : Oper} {a : Act} {Q : Exit → Act → World → Prop} (hgd : o.guard = none) (s x : Operand)
    (ho : o.op = .call { callee := .builtin .append, args := #[s, x], argTypes := #[38, 38] }) (base : Nat) (v : Value) (M L : List Ot) (hs : a.eval s = v) (hown : DocRow base w v M)
    (A : Option Addr) (n c : Nat) (hx : a.eval x = .slice A n c) (hn : L.length = n) (hE : OtsRow w A L) (hm : M.length + n ≤ 100000) (hbase : base ≤ w.heap.size)
    (h : ∀ v' w', DocRow base w' v' (M ++ L) → Keep v.ownBlock.toList w w' → (v'.ownBlock = v.ownBlock ∨ v'.ownBlock = some w.heap.size) → wpList Try.prog ops Q rest (a.put o.dst v') w') :
    wpList Try.prog ops Q (o :: rest) a w := by
  obtain ⟨i0, hi0, hz0, hz1, hz2⟩ := info_parts infoOtB
  subst hn
  by_cases hne : L = []
  · subst hne
    refine wpList_append_empty hgd s x 38 ho base 33 i0 10 Try.underlying38 hi0 v M.length (flatE Ot.enc M) hs hown A c hx ?_
    exact h v w (by rw [List.append_nil]; exact hown) (Keep.refl _ _) (.inl rfl)
  · obtain ⟨g, off, e, hg, hat⟩ := hE hne
    subst e
    refine wpList_append_own_at _ hgd s x 38 ho base 33 i0 (Ot.val ⟨ByteArray.empty, 0, Ag.zero⟩) 10 88 Try.underlying38 hi0 hz0 hz1 hz2 rfl (by decide) v M.length (flatE Ot.enc M) hs hown ⟨g, off, none⟩ L.length c (flatE Ot.enc L) hx (by rw [flatE_len otlen]) (ots_news hE hne) (flatE_one _) (by unfold maxLen; omega) (by omega) hbase ?_
    intro v' w' hown' hgrow _ hat'
    refine h v' w' ?_ ((Keep.refl _ w).grown hgrow (fun k hk => .inl (by simp [hk]))) hat'
    unfold DocRow
    rw [List.length_append, flatE_app]
    exact hown'
theorem own_ne_box {W : World} {base n size g0 : Nat} {e : TypeId} {v : Value} {xs : List Value} {y : Ot} (h : W.ownsRow base e size v n xs) (hl : OtAt W g0 y) (he : e ≠ 33) : ∀ g, v.ownBlock = some g → g ≠ g0 := by
  rintro g hg rfl
  rcases h.2 with ⟨hv, _⟩ | ⟨g', cap, cur, hv, hb, hg', r⟩
  · rw [hv] at hg; cases hg
  · rw [hv] at hg
    obtain rfl : g' = g := by simpa [Value.ownBlock] using hg
    unfold OtAt at hl
    rw [hg'] at hl
    simp at hl
    exact he hl.2
def lastW (T : List Ot) : Ot := match T.getLast? with | none => ⟨ByteArray.empty, -1, Ag.zero⟩ | some o => ⟨o.key, o.st, Ag.zero⟩
def seenM (A : List Ot) (j : Nat) : List (Wd × Int) := (A.take j).map fun o => (wdOf o, 1)
theorem take_snoc {α : Type} {l : List α} {j : Nat} {x : α} (h : l[j]? = some x) : l.take (j + 1) = l.take j ++ [x] := by
  obtain ⟨hj, rfl⟩ := List.getElem?_eq_some_iff.1 h
  rw [List.take_add_one, List.getElem?_eq_getElem hj]
  rfl
theorem last_next {T : List Ot} {j : Nat} {x : Ot} (h : T[j]? = some x) : lastW (T.take (j + 1)) = ⟨x.key, x.st, Ag.zero⟩ := by
  rw [take_snoc h]
  unfold lastW
  rw [List.getLast?_append]
  rfl
theorem last_form (T : List Ot) : ∃ k s, lastW T = ⟨k, s, Ag.zero⟩ := by
  unfold lastW
  cases T.getLast? with
  | none => exact ⟨_, _, rfl⟩
  | some o => exact ⟨_, _, rfl⟩
theorem last_stay {T : List Ot} {j : Nat} (h : T.length ≤ j) : lastW (T.take (j + 1)) = lastW (T.take j) := by
  rw [List.take_of_length_le h, List.take_of_length_le (Nat.le_succ_of_le h)]
theorem last_lt {T : List Ot} {j : Nat} {x : Ot} (hu : T.Pairwise ltO) (h : T[j]? = some x) (h0 : 0 ≤ x.st) : ltO (lastW (T.take j)) x := by
  unfold lastW
  cases hl : (T.take j).getLast? with
  | none => exact .inl (by simp only; omega)
  | some o =>
    have hm : o ∈ T.take j := List.mem_of_getLast? hl
    have hd : T = T.take j ++ T.drop j := (List.take_append_drop j T).symm
    have hx : x ∈ T.drop j := by
      refine List.mem_of_getElem? (i := 0) ?_
      rw [List.getElem?_drop]
      exact h
    rw [hd, List.pairwise_append] at hu
    exact hu.2.2 o hm x hx
theorem seen_keys (A : List Ot) (j : Nat) : (seenM A j).map (·.1) = (A.map wdOf).take j := by
  unfold seenM
  rw [List.map_map, ← List.map_take]
  rfl
theorem seen_nodup {A : List Ot} (h : (A.map wdOf).Nodup) (j : Nat) : ((seenM A j).map (·.1)).Nodup := by
  rw [seen_keys]
  exact h.sublist (List.take_sublist _ _)
theorem seen_look {A : List Ot} {j : Nat} {x : Ot} (h : (A.map wdOf).Nodup) (hx : A[j]? = some x) : look (wdOf x) (seenM A j) = none := by
  refine look_none.2 fun q hq e => ?_
  have h1 := (seen_nodup h (j + 1))
  rw [seen_keys, take_snoc (x := wdOf x) (by rw [List.getElem?_map, hx]; rfl), List.nodup_append] at h1
  refine h1.2.2 q.1 ?_ (wdOf x) (by simp) e.symm
  rw [← seen_keys]
  exact List.mem_map.2 ⟨q, hq, rfl⟩
theorem seen_put {A : List Ot} {j : Nat} {x : Ot} (h : (A.map wdOf).Nodup) (hx : A[j]? = some x) : put (wdOf x) (1 : Int) (seenM A j) = seenM A (j + 1) := by
  unfold put
  rw [seen_look h hx]
  unfold seenM
  rw [take_snoc hx]
  simp
theorem seen_zero (A : List Ot) : seenM A 0 = [] := by unfold seenM; simp
theorem seen_all (A : List Ot) : (seenM A A.length).length = A.length := by unfold seenM; simp
/-- The line, the values, what is gone over, what was seen, the last one, in memory. -/
structure SeI (w : World) (q p b bm bs sb : Nat) (mk : Int) (L A : List Ot) (va : Value) (mv : VM) (M : List (Wd × Int)) (lo : Ot) (W : World) : Prop where
  ln : LnAt W q p b mk L
  T : DocRow bs W va A
  V : VsAt bs bm W mv
  S : MapIs ekO (Value.int .i64) W sb M
  O : OtAt W (sb + 1) lo
  B : Below w.heap.size w W
  X : ∀ g, va.ownBlock = some g → g ≠ sb + 1
  F : q < bs ∧ p < bs ∧ b < bs ∧ bm < bs ∧ bs ≤ sb ∧ w.heap.size ≤ bs
theorem sb_obj {W : World} {sb : Nat} {M : List (Wd × Int)} (h : MapIs ekO (Value.int .i64) W sb M) : ∃ o, W.heap[sb]? = some o ∧ ∀ c t f, o ≠ .cells c t f := by
  obtain ⟨es, clock, h1, _⟩ := h
  exact ⟨_, h1, fun _ _ _ e => by cases e⟩
theorem SeI.keep {w : World} {q p b bm bs sb : Nat} {mk : Int} {L A : List Ot} {va : Value} {mv : VM} {M : List (Wd × Int)} {lo : Ot} {W W' : World} (h : SeI w q p b bm bs sb mk L A va mv M lo W) (hk : Keep [] W W') : SeI w q p b bm bs sb mk L A va mv M lo W' :=
  ⟨h.ln.keep hk, kp_ots h.T hk (by simp), h.V.none hk, h.S.of_block (hk.block _ h.S.lt (by simp)), h.O.keep hk, h.B.trans (hk.below h.B.size (by simp)), h.X, h.F⟩
theorem SeI.last {w : World} {q p b bm bs sb : Nat} {mk : Int} {L A : List Ot} {va : Value} {mv : VM} {M : List (Wd × Int)} {lo lo' : Ot} {W W' : World} (h : SeI w q p b bm bs sb mk L A va mv M lo W) (hk : Keep [sb + 1] W W') (ho : OtAt W' (sb + 1) lo') : SeI w q p b bm bs sb mk L A va mv M lo' W' :=
  ⟨h.ln.keep hk (by have := h.F; simp; omega) (by have := h.F; simp; omega) (by have := h.F; simp; omega), kp_ots h.T hk (fun g hg => by have := h.X g hg; simpa using this),
    h.V.keep hk (by have := h.F; simp; omega) (fun q hq g hg => by have := own_ne_box (h.V.R q hq) h.O (by decide) g hg; simpa using this), h.S.of_block (hk.block _ h.S.lt (by simp)), ho, h.B.trans (hk.below h.B.size (by have := h.F; simp; omega)), h.X, h.F⟩
theorem SeI.seen {w : World} {q p b bm bs sb : Nat} {mk : Int} {L A : List Ot} {va : Value} {mv : VM} {M M' : List (Wd × Int)} {lo : Ot} {W W' : World} (h : SeI w q p b bm bs sb mk L A va mv M lo W) (hk : Keep [sb] W W') (hM : MapIs ekO (Value.int .i64) W' sb M') : SeI w q p b bm bs sb mk L A va mv M' lo W' := by
  obtain ⟨o, h1, h2⟩ := sb_obj h.S
  exact ⟨h.ln.keep hk (by have := h.F; simp; omega) (by have := h.F; simp; omega) (by have := h.F; simp; omega), kp_ots h.T hk (fun g hg => by have := own_ne_it h.T h1 h2 g hg; simpa using this),
    h.V.keep hk (by have := h.F; simp; omega) (fun q hq g hg => by have := own_ne_it (h.V.R q hq) h1 h2 g hg; simpa using this), hM, h.O.keep hk (by simp), h.B.trans (hk.below h.B.size (by have := h.F; simp; omega)), h.X, h.F⟩
/-- 'a <= b' of strings, where b stands ahead. -/
theorem leq_str (a b : ByteArray) (h : bl b.toList a.toList = true) : Op.bytesLess a.toList b.toList = false ∧ (a.toList == b.toList) = false := by
  refine ⟨?_, ?_⟩
  · change bl a.toList b.toList = false
    cases hh : bl a.toList b.toList with
    | false => rfl
    | true => have := bl_trans h hh; rw [bl_irrefl] at this; cases this
  · cases hh : (a.toList == b.toList) with
    | false => rfl
    | true => rw [beq_iff_eq.1 hh, bl_irrefl] at h; cases h
theorem vals_ne {mv : VM} {m : Vals} (hE : valsOf mv = m) {o : Ot} (h : HasV m o) : ∃ u, look (wdOf o) mv = some u ∧ u.2 ≠ [] ∧ o.ag = ofL u.2 := by
  obtain ⟨vs, h1, h2, h3⟩ := h
  rw [← hE, look_vals] at h1
  cases hl : look (wdOf o) mv with
  | none => rw [hl] at h1; cases h1
  | some u =>
    rw [hl] at h1
    obtain rfl : u.2 = vs := by simpa using h1
    exact ⟨u, rfl, h2, h3⟩
end Go.Proofs.Ytmhbibcfbencnaa
