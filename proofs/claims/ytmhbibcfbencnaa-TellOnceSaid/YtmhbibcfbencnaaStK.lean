/- The store: All. -/
import Derived.Test.YtmhbibcfbencnaaStJ
namespace Go.Proofs.Ytmhbibcfbencnaa
open Go.RowKit Go.Shelf Go.Lib
open Go.ChangeMaps (setBlock)
open Go.Sort (HoldsK)
set_option linter.unusedSimpArgs false
set_option linter.unusedVariables false
theorem rng_next {K V : Type} {P : Program} {ek : K → Value} {ev : V → Value} {W : World} {b it : Nat} {m acc : List (K × V)} (h : Rng ek ev W b it m acc) (ty : TypeId) :
    (acc.Perm m ∧ (Instr.next (.pointer (some ⟨it, 0, none⟩)) false ty).run P W = .ok (.tuple #[.bool false]) W) ∨
    ∃ (p : K × V) (X : World), p ∈ m ∧ acc.length < m.length ∧ Keep [it] W X ∧ W.heap.size ≤ X.heap.size ∧
      (Instr.next (.pointer (some ⟨it, 0, none⟩)) false ty).run P W = .ok (.tuple #[.bool true, ek p.1, ev p.2]) X ∧
      Rng ek ev X b it m (acc ++ [p]) ∧ (Instr.entry (.pointer (some ⟨it, 0, none⟩))).run P X = .ok (.tuple #[ek p.1, ev p.2]) X := by
  rcases h.next (P := P) ty with h1 | ⟨p, W1, o, hp, hl, hW, hr, hR, hen⟩
  · exact .inl h1
  · have hk : Keep [it] W (setBlock W1 it o) := by
      rcases hW with rfl | rfl
      · exact (Keep.refl _ _).setBlock it o (.inl (by simp))
      · exact ((Keep.refl _ _).drew).setBlock it o (.inl (by simp))
    exact .inr ⟨p, _, hp, hl, hk, hk.size, hr, hR, hen⟩
theorem own_keep {X : List Nat} {w w' : World} {base n size : Nat} {e : TypeId} {v : Value} {xs : List Value} (h : w.ownsRow base e size v n xs) (hk : Keep X w w') (hx : ∀ g, v.ownBlock = some g → g ∉ X) : w'.ownsRow base e size v n xs := by
  obtain ⟨h1, h2⟩ := h
  refine ⟨h1, ?_⟩
  rcases h2 with h2 | ⟨g, cap, cur, hv, hb, hg, r⟩
  · exact .inl h2
  · refine .inr ⟨g, cap, cur, hv, hb, ?_, r⟩
    rw [hk.block g (lt_of_heap hg) (hx g (by rw [hv]; rfl))]
    exact hg
theorem own_ne_it {w : World} {base n size it : Nat} {e : TypeId} {v : Value} {xs : List Value} (h : w.ownsRow base e size v n xs) {o : Obj} (hi : w.heap[it]? = some o) (ho : ∀ c t f, o ≠ .cells c t f) : ∀ g, v.ownBlock = some g → g ≠ it := by
  rintro g hg rfl
  rcases h.2 with ⟨hv, _⟩ | ⟨g', cap, cur, hv, hb, hg', r⟩
  · rw [hv] at hg; cases hg
  · rw [hv] at hg
    obtain rfl : g' = g := by simpa [Value.ownBlock] using hg
    rw [hg'] at hi
    cases hi
    exact ho _ _ _ rfl
theorem Rng.it_obj {K V : Type} {ek : K → Value} {ev : V → Value} {W : World} {b it : Nat} {m acc : List (K × V)} (h : Rng ek ev W b it m acc) : (∃ o, W.heap[it]? = some o ∧ ∀ c t f, o ≠ .cells c t f) ∧ (∃ o, W.heap[b]? = some o ∧ ∀ c t f, o ≠ .cells c t f) := by
  obtain ⟨es, clock, done, h1, h2, h3, h4, h5, h6, h7⟩ := h
  exact ⟨⟨_, h6, fun _ _ _ e => by cases e⟩, ⟨_, h1, fun _ _ _ e => by cases e⟩⟩
theorem own_shape {w : World} {base n size : Nat} {e : TypeId} {v : Value} {xs : List Value} (h : w.ownsRow base e size v n xs) : ∃ a c, v = .slice a n c ∧ (a = none ∨ ∃ g, a = some ⟨g, 0, none⟩) := by
  rcases h.2 with ⟨hv, h0⟩ | ⟨g, cap, cur, hv, hb, hg, r⟩
  · subst h0; exact ⟨none, 0, hv, .inl rfl⟩
  · exact ⟨_, cap, hv, .inr ⟨g, rfl⟩⟩
theorem own_base {w : World} {base n size : Nat} {e : TypeId} {v : Value} {xs : List Value} (h : w.ownsRow base e size v n xs) : ∀ g, v.ownBlock = some g → base ≤ g := by
  intro g hg
  rcases h.2 with ⟨hv, _⟩ | ⟨g', cap, cur, hv, hb, hg', r⟩
  · rw [hv] at hg; cases hg
  · rw [hv] at hg
    obtain rfl : g' = g := by simpa [Value.ownBlock] using hg
    exact hb
theorem add_at (b off j : Nat) : (⟨b, off, none⟩ : Addr).add j = ⟨b, off + j, none⟩ := by
  unfold Addr.add; split <;> simp_all
theorem cells_new (W : World) (cs : List Value) (t : TypeId) (n : Nat) (hn : W.heap.size = n) : ∀ j u, cs[j]? = some u → (W.alloc (.cells cs.toArray t)).cell? ((⟨n, 0, none⟩ : Addr).add j) = some u := by
  intro j u hj
  subst hn
  rw [add_at]
  unfold World.cell?
  simp only [Nat.zero_add]
  rw [World.alloc_heap_new]
  simpa using hj
def sliceLen : Value → Nat
  | .slice _ n _ => n
  | _ => 0
/-- A list of windows of this call's own, in memory. -/
def OtsAt (base : Nat) (W : World) (A : Option Addr) (L : List Ot) : Prop :=
  L ≠ [] → ∃ g, A = some ⟨g, 0, none⟩ ∧ base ≤ g ∧ g < W.heap.size ∧ HoldsK Ot.enc 10 W g 0 L.toArray
def AllO (w : World) (L : List Ot) (e : Ending) (w' : World) : Prop :=
  ∃ A c, e = .returned (.slice A L.length c) ∧ OtsAt w.heap.size w' A L ∧ Below w.heap.size w w'
def otOf (q : Wd × Ag) : Ot := ⟨q.1.key, q.1.st, q.2⟩
/-- L is what m holds, in its row. -/
structure OrdO (m : St) (L : List Ot) : Prop where
  perm : L.Perm (m.map otOf)
  up : L.Pairwise ltO
theorem hS_len {m : St} {L : List Ot} (h : OrdO m L) : L.length = m.length := by simpa using h.perm.length_eq
theorem sall_nil (w : World) : Calls Try.prog 21 #[.pointer none] w (AllO w []) := by
  go_enter Try.func21, Try.ntmps21
  go_wp2
  go_ret
  exact ⟨none, 0, rfl, fun h => absurd rfl h, Below.refl _ _⟩
theorem infoOt : (Try.prog.info? 33).map (fun i => (i.zero, i.size, i.bytes)) = some (some (Ot.val ⟨ByteArray.empty, 0, Ag.zero⟩), 10, 88) := by kernel_rfl
theorem otlen (x : Ot) : x.enc.length = 10 := rfl
set_option maxRecDepth 100000 in
set_option maxHeartbeats 4000000 in
theorem sall_any {w : World} {p b : Nat} {m : St} {L : List Ot} (h : StAt w p b m) (hlen : m.length ≤ 1000) (hs : OrdO m L) :
    Calls Try.prog 21 #[.pointer (some ⟨p, 0, none⟩)] w (AllO w L) := by
  obtain ⟨c0, c1⟩ := h.cells
  have hp := h.lt.1
  obtain ⟨o, hrun, hrng⟩ := run_range (P := Try.prog) Try.underlying91 h.map
  have hw1 : Below w.heap.size w (w.alloc o) := (Below.refl _ w).alloc (Nat.le_refl _) o
  have HR := Lib.hid hrng
  have HS := Lib.hid hs
  clear hrng hs h
  go_enter Try.func21, Try.ntmps21
  go_wp2_with (fail)
  go_loopw [3] (fun v wr => ∃ acc : St, acc.length ≤ m.length ∧ Rng ekW Ag.val wr b w.heap.size m acc ∧ wr.ownsRow w.heap.size 33 10 v acc.length (flatE Ot.enc (acc.map otOf)) ∧ Below w.heap.size w wr) (fun v _ => m.length - sliceLen v)
  case atStart => exact ⟨[], Nat.zero_le _, HR.out, World.ownsRow_nil _ _ _ _, hw1⟩
  case round =>
    clear hw1 hrun
    obtain ⟨acc, hal, hrng, hown, hB⟩ := hrel
    obtain ⟨⟨oi, hoi, hoi'⟩, ⟨ob, hob, hob'⟩⟩ := hrng.it_obj
    obtain ⟨av, cv, rfl, hav⟩ := own_shape hown
    have hsz := hB.size
    have hne := own_ne_it hown hoi hoi'
    have hneb := own_ne_it hown hob hob'
    rcases rng_next (P := Try.prog) hrng 0 with ⟨hperm, hnx⟩ | ⟨pr, X, hpm, hlt, hKX, hszX, hnx, hrX, hen⟩
    · have hal2 : acc.length = m.length := hperm.length_eq
      have hlm : L.length = acc.length := by rw [hS_len HS.out, hal2]
      by_cases hz : acc.length = 0
      · have hm0 : L = [] := List.length_eq_zero_iff.1 (by rw [hlm, hz])
        have HM := Lib.hid hm0
        obtain ⟨n0, hn0e⟩ : ∃ n0, acc.length = n0 := ⟨_, rfl⟩
        rw [hn0e] at hz
        subst hz
        rw [hn0e]
        have HE := Lib.hid hn0e
        clear hn0e hm0 hlm hal2 hoi hob hav hne hneb hown hrng hal hperm
        go_wp2_with (go_at_call 55; refine (sortO_none _ _ _ _).mono ?_; rintro e w' ⟨rfl, rfl⟩)
        go_ret
        exact ⟨av, cv, by rw [HM.out]; rfl, fun h => absurd HM.out h, hB⟩
      · have hne0 : acc.map otOf ≠ [] := fun e => hz (by have := congrArg List.length e; simpa using this)
        have hown' : wr.ownsRow w.heap.size 33 10 (.slice av (acc.map otOf).length cv) (acc.map otOf).length (flatE Ot.enc (acc.map otOf)) := by simpa using hown
        rcases hav with rfl | ⟨g, rfl⟩
        · exact absurd hown'.2 (by rintro (⟨_, h⟩ | ⟨g, cap, cur, hv, _⟩); exact hz (by simpa using h); cases hv)
        · obtain ⟨hH, hbg, hgl⟩ := holdsE_of_own (by omega) otlen hown' hne0
          have hsort := sortO_any (acc.map otOf) g cv wr hH hgl (by simp; omega)
          rw [List.length_map] at hsort
          have HSORT := Lib.hid hsort
          have HP := Lib.hid hperm
          have HLM := Lib.hid hlm
          clear hsort hH hown' hne0 hoi hob hne hneb hown hrng hperm hlm hal2
          go_wp2_with (go_at_call 55; refine HSORT.out.mono ?_; rintro e w' ⟨rfl, l', hl1, hl2, hl3, hk⟩; have HL1 := Lib.hid hl1; have HL2 := Lib.hid hl2; have HL3 := Lib.hid hl3; clear hl1 hl2 hl3)
          go_ret
          have hle : l' = L := sortedO_eq (HL1.out.trans ((HP.out.map _).trans HS.out.perm.symm)) HL2.out HS.out.up
          refine ⟨_, cv, by rw [HLM.out]; rfl, fun _ => ⟨g, rfl, hbg, Nat.lt_of_lt_of_le hgl hk.size, hle ▸ HL3.out⟩, hB.trans (hk.below hsz (fun x hx => by simp at hx; omega))⟩
    · obtain ⟨i0, hi, hz0, hz1, hz2⟩ := info_parts infoOt
      obtain ⟨⟨ks, kk⟩, x1, x2, x3, x4, x5, x6, x7, x8⟩ := pr
      simp only [Ag.val, ekW] at hnx hen
      have hownX := own_keep hown hKX (fun g hg => by simpa using hne g hg)
      have hBX : Below w.heap.size w X := hB.trans (hKX.below hsz (fun x hx => by simp at hx; omega))
      have HRX := Lib.hid hrX
      have HOX := Lib.hid hownX
      have hl1000 : acc.length < 1000 := by omega
      clear hrX hownX hoi hob hne hneb hown hrng
      go_wp2_with (at_builtin; refine wpList_append_own _ rfl _ _ 38 rfl w.heap.size 33 i0 (Ot.val ⟨ByteArray.empty, 0, Ag.zero⟩) 10 88 Try.underlying38 hi hz0 hz1 hz2 rfl (by decide) _ _ _ rfl (((HOX.out.alloc _).alloc _).alloc _) ⟨X.heap.size + 1 + 1, 0, none⟩ 1 1 [.string kk, .int .i64 ks, .int .i64 x1, .int .i64 x2, .int .i64 x3, .int .i64 x4, .int .i64 x5, .int .i64 x6, .int .i64 x7, .int .i64 x8] rfl rfl ?c1 ?c2 ?c3 ?c4 ?c5 ?_)
      case c1 => exact cells_new _ _ _ _ (by simp)
      case c2 => simp [Value.oneCell']
      case c3 => unfold maxLen; omega
      case c4 => omega
      case c5 => simp; omega
      intro v' w1 hown' hgrow _
      go_wp2
      go_roundw
      case rel =>
        refine ⟨acc ++ [(⟨ks, kk⟩, ⟨x1, x2, x3, x4, x5, x6, x7, x8⟩)], by simp; omega, ?_, ?_, ?_⟩
        · obtain ⟨⟨o1, h1, h1'⟩, ⟨o2, h2, h2'⟩⟩ := HRX.out.it_obj
          have kw : Keep (Value.slice av acc.length cv).ownBlock.toList X w1 := ((((Keep.refl _ X).alloc _).alloc _).alloc _).grown hgrow (fun k hk => .inl (by simp [hk]))
          exact HRX.out.keep kw (fun hm => own_ne_it HOX.out h2 h2' _ (by simpa using hm) rfl) (fun hm => own_ne_it HOX.out h1 h1' _ (by simpa using hm) rfl)
        · have e : flatE Ot.enc ((acc ++ [((⟨ks, kk⟩ : Wd), (⟨x1, x2, x3, x4, x5, x6, x7, x8⟩ : Ag))]).map otOf) = flatE Ot.enc (acc.map otOf) ++ [.string kk, .int .i64 ks, .int .i64 x1, .int .i64 x2, .int .i64 x3, .int .i64 x4, .int .i64 x5, .int .i64 x6, .int .i64 x7, .int .i64 x8] := by simp [flatE, Ot.enc, otOf]
          rw [e, List.length_append]
          exact hown'
        · exact (((hBX.alloc (by omega) _).alloc (by simp; omega) _).alloc (by simp; omega) _).grown hgrow (by simp; omega) (fun g hg => own_base HOX.out g hg)
      case measure =>
        obtain ⟨a', c', rfl, _⟩ := own_shape hown'
        simp only [sliceLen]
        omega
end Go.Proofs.Ytmhbibcfbencnaa
