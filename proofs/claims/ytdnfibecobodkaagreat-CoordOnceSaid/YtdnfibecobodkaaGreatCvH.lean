/- The book of moves: All, By. -/
import Derived.Test.YtdnfibecobodkaaGreatCvG
import Derived.Test.YtdnfibecobodkaaGreatCvE
namespace Go.Proofs.YtdnfibecobodkaaGreat
open Go.RowKit Go.Shelf Go.Lib
open Go.ChangeMaps (setBlock)
open Go.Sort (HoldsK)
set_option linter.unusedSimpArgs false
set_option linter.unusedVariables false
theorem rng_next {K V : Type} {P : Program} {ek : K → Value} {ev : V → Value} {W : World} {b it : Nat} {m acc : List (K × V)} (h : Rng ek ev W b it m acc) (ty : TypeId) :
    (acc.Perm m ∧ (Instr.next (.pointer (some ⟨it, 0, none⟩)) false ty).run P W = .ok (.tuple #[.bool false]) W) ∨
    ∃ (p : K × V) (X : World), p ∈ m ∧ acc.length < m.length ∧ Keep [it] W X ∧ W.heap.size ≤ X.heap.size ∧
      (Instr.next (.pointer (some ⟨it, 0, none⟩)) false ty).run P W = .ok (.tuple #[.bool true, ek p.1, ev p.2]) X ∧
      Rng ek ev X b it m (acc ++ [p]) ∧ (Instr.entry (.pointer (some ⟨it, 0, none⟩))).run P X = .ok (.tuple #[ek p.1, ev p.2]) X := by
  rcases h.next (P := P) ty with h1 | ⟨p, W1, o, hp, hl, hW, hr, hR, hen⟩
  · exact .inl h1
  · have hk : Keep [it] W (setBlock W1 it o) := by
      rcases hW with rfl | rfl
      · exact (Keep.refl _ _).setBlock it o (.inl (by simp))
      · exact ((Keep.refl _ _).drew).setBlock it o (.inl (by simp))
    exact .inr ⟨p, _, hp, hl, hk, hk.size, hr, hR, hen⟩
theorem Rng.it_obj {K V : Type} {ek : K → Value} {ev : V → Value} {W : World} {b it : Nat} {m acc : List (K × V)} (h : Rng ek ev W b it m acc) : (∃ o, W.heap[it]? = some o ∧ ∀ c t f, o ≠ .cells c t f) ∧ (∃ o, W.heap[b]? = some o ∧ ∀ c t f, o ≠ .cells c t f) := by
  obtain ⟨es, clock, done, h1, h2, h3, h4, h5, h6, h7⟩ := h
  exact ⟨⟨_, h6, fun _ _ _ e => by cases e⟩, ⟨_, h1, fun _ _ _ e => by cases e⟩⟩
/-- A list of moves of this call's own, in memory. -/
def EnsAt (base : Nat) (W : World) (A : Option Addr) (L : List En) : Prop :=
  L ≠ [] → ∃ g, A = some ⟨g, 0, none⟩ ∧ base ≤ g ∧ g < W.heap.size ∧ HoldsK En.enc 4 W g 0 L.toArray
def AllP (w : World) (L : List En) (e : Ending) (w' : World) : Prop :=
  ∃ A c, e = .returned (.slice A L.length c) ∧ EnsAt w.heap.size w' A L ∧ Below w.heap.size w w'
theorem all_nil (w : World) : Calls Tryz.prog 38 #[.pointer none] w (AllP w []) := by
  go_enter Tryz.func38, Tryz.ntmps38
  go_wp2
  go_ret
  exact ⟨none, 0, rfl, fun h => absurd rfl h, Below.refl _ _⟩
theorem infoEn : (Tryz.prog.info? 85).map (fun i => (i.zero, i.size, i.bytes)) = some (some En.zero.val, 4, 32) := by kernel_rfl
/-- What a sorted list of a book's moves is. -/
theorem ens_of {m acc : List (Int × En)} {l : List En} (hp : acc.Perm m) (hl : l.Perm (acc.map (·.2))) (h1 : l.Pairwise (fun x y => x.mv ≤ y.mv)) (hs : (m.map (·.2)).Pairwise (fun x y => x.mv < y.mv)) : l = m.map (·.2) :=
  sorted_eq (hl.trans (hp.map _)) h1 hs
set_option maxRecDepth 100000 in
set_option maxHeartbeats 4000000 in
theorem all_any {w : World} {p : Nat} {om : Option Nat} {m : List (Int × En)} {last : Int} (h : BookAt w p om m last) (hlen : m.length ≤ 1000) (hs : (m.map (·.2)).Pairwise (fun x y => x.mv < y.mv)) :
    Calls Tryz.prog 38 #[.pointer (some ⟨p, 0, none⟩)] w (AllP w (m.map (·.2))) := by
  obtain ⟨c0, c1, c2, c3⟩ := h.cells
  cases om with
  | none =>
    have hm : m = [] := h.map
    subst hm
    have hrng := fun W => run_range_nil (P := Tryz.prog) Tryz.underlying99 W
    go_enter Tryz.func38, Tryz.ntmps38
    go_wp2_with (fail)
    have hnx := fun ty => run_next_nil (P := Tryz.prog) (World.alloc_heap_new w (.mapIter none 0 #[] 0)) ty
    refine wp_loop_rounds 1 ?_
    rw [rounds_succ]
    go_wp2_with (go_at_call 50; refine (sort_none _ _ _ _).mono ?_; rintro e w' ⟨rfl, rfl⟩)
    go_ret
    exact ⟨none, 0, rfl, fun h => absurd rfl h, (Below.refl _ _).alloc (Nat.le_refl _) _⟩
  | some b =>
    obtain ⟨o, hrun, hrng⟩ := run_range (P := Tryz.prog) Tryz.underlying99 h.map
    have hw1 : Below w.heap.size w (w.alloc o) := (Below.refl _ w).alloc (Nat.le_refl _) o
    have HR := Lib.hid hrng
    have HS := Lib.hid hs
    clear hrng hs h
    go_enter Tryz.func38, Tryz.ntmps38
    go_wp2_with (fail)
    go_loopw [3] (fun v wr => ∃ acc : List (Int × En), acc.length ≤ m.length ∧ Rng ekI En.val wr b w.heap.size m acc ∧ wr.ownsRow w.heap.size 85 4 v acc.length (flatEn (acc.map (·.2))) ∧ Below w.heap.size w wr) (fun v _ => m.length - sliceLen v)
    case atStart => exact ⟨[], Nat.zero_le _, HR.out, World.ownsRow_nil _ _ _ _, hw1⟩
    case round =>
      clear hw1 hrun
      obtain ⟨acc, hal, hrng, hown, hB⟩ := hrel
      have hn0 := HS.out
      obtain ⟨⟨oi, hoi, hoi'⟩, ⟨ob, hob, hob'⟩⟩ := hrng.it_obj
      obtain ⟨av, cv, rfl, hav⟩ := own_shape hown
      have hsz := hB.size
      have hne := own_ne_it hown hoi hoi'
      have hneb := own_ne_it hown hob hob'
      rcases rng_next (P := Tryz.prog) hrng 0 with ⟨hperm, hnx⟩ | ⟨pr, X, hpm, hlt, hKX, hszX, hnx, hrX, hen⟩
      · have hal2 : acc.length = m.length := hperm.length_eq
        have hlm : (m.map (·.2)).length = acc.length := by rw [List.length_map, hal2]
        by_cases hz : acc.length = 0
        · have hm0 : m.map (·.2) = [] := List.length_eq_zero_iff.1 (by rw [hlm, hz])
          have HM := Lib.hid hm0
          obtain ⟨n0, hn0e⟩ : ∃ n0, acc.length = n0 := ⟨_, rfl⟩
          rw [hn0e] at hz
          subst hz
          rw [hn0e]
          have HE := Lib.hid hn0e
          clear hn0e hm0 hlm hal2 hoi hob hav hne hneb hown hrng hal hn0 hperm
          go_wp2_with (go_at_call 50; refine (sort_none _ _ _ _).mono ?_; rintro e w' ⟨rfl, rfl⟩)
          go_ret
          exact ⟨av, cv, by rw [HM.out]; rfl, fun h => absurd HM.out h, hB⟩
        · have hne0 : acc.map (·.2) ≠ [] := fun e => hz (by have := congrArg List.length e; simpa using this)
          have hown' : wr.ownsRow w.heap.size 85 4 (.slice av (acc.map (·.2)).length cv) (acc.map (·.2)).length (flatEn (acc.map (·.2))) := by simpa using hown
          rcases hav with rfl | ⟨g, rfl⟩
          · exact absurd hown'.2 (by rintro (⟨_, h⟩ | ⟨g, cap, cur, hv, _⟩); exact hz (by simpa using h); cases hv)
          · obtain ⟨hH, hbg, hgl⟩ := holdsK_of_own hown' hne0
            have hsort := sort_any (acc.map (·.2)) g cv wr hH hgl (by simp; omega)
            rw [List.length_map] at hsort
            have HSORT := Lib.hid hsort
            have HP := Lib.hid hperm
            have HLM := Lib.hid hlm
            clear hsort hH hown' hne0 hoi hob hne hneb hown hrng hn0 hperm hlm hal2
            go_wp2_with (go_at_call 50; refine HSORT.out.mono ?_; rintro e w' ⟨rfl, l', hl1, hl2, hl3, hk⟩; have HL1 := Lib.hid hl1; have HL2 := Lib.hid hl2; have HL3 := Lib.hid hl3; clear hl1 hl2 hl3)
            go_ret
            have hle := ens_of HP.out HL1.out HL2.out HS.out
            refine ⟨_, cv, by rw [HLM.out]; rfl, fun _ => ⟨g, rfl, hbg, Nat.lt_of_lt_of_le hgl hk.size, hle ▸ HL3.out⟩, hB.trans (hk.below hsz (fun x hx => by simp at hx; omega))⟩
      · obtain ⟨i0, hi, hz0, hz1, hz2⟩ := info_parts infoEn
        obtain ⟨kk, x1, x2, x3, x4⟩ := pr
        simp only [En.val] at hnx hen
        have hownX := own_keep hown hKX (fun g hg => by simpa using hne g hg)
        have hBX : Below w.heap.size w X := hB.trans (hKX.below hsz (fun x hx => by simp at hx; omega))
        have HRX := Lib.hid hrX
        have HOX := Lib.hid hownX
        have hl1000 : acc.length < 1000 := by omega
        clear hrX hownX hoi hob hne hneb hown hrng hn0
        go_wp2_with (at_builtin; refine wpList_append_own _ rfl _ _ 88 rfl w.heap.size 85 i0 En.zero.val 4 32 Tryz.underlying88 hi hz0 hz1 hz2 rfl (by decide) _ _ _ rfl ((HOX.out.alloc _).alloc _) ⟨X.heap.size + 1, 0, none⟩ 1 1 [.int .i64 x1, .int .i64 x2, .int .i64 x3, .int .i64 x4] rfl rfl ?c1 ?c2 ?c3 ?c4 ?c5 ?_)
        case c1 => exact cells_new _ _ _ _ (by simp)
        case c2 => simp [Value.oneCell']
        case c3 => unfold maxLen; omega
        case c4 => omega
        case c5 => simp; omega
        intro v' w1 hown' hgrow _
        go_wp2
        go_roundw
        case rel =>
          refine ⟨acc ++ [(kk, ⟨x1, x2, x3, x4⟩)], by simp; omega, ?_, ?_, ?_⟩
          · obtain ⟨⟨o1, h1, h1'⟩, ⟨o2, h2, h2'⟩⟩ := HRX.out.it_obj
            have kw : Keep (Value.slice av acc.length cv).ownBlock.toList X w1 := (((Keep.refl _ X).alloc _).alloc _).grown hgrow (fun k hk => .inl (by simp [hk]))
            exact HRX.out.keep kw (fun hm => own_ne_it HOX.out h2 h2' _ (by simpa using hm) rfl) (fun hm => own_ne_it HOX.out h1 h1' _ (by simpa using hm) rfl)
          · have e : flatEn ((acc ++ [(kk, (⟨x1, x2, x3, x4⟩ : En))]).map (·.2)) = flatEn (acc.map (·.2)) ++ [.int .i64 x1, .int .i64 x2, .int .i64 x3, .int .i64 x4] := by simp [flatEn, En.enc]
            rw [e, List.length_append]
            exact hown'
          · exact ((hBX.alloc (by omega) _).alloc (by simp; omega) _).grown hgrow (by simp; omega) (fun g hg => own_base HOX.out g hg)
        case measure =>
          obtain ⟨a', c', rfl, _⟩ := own_shape hown'
          simp only [sliceLen]
          omega
end Go.Proofs.YtdnfibecobodkaaGreat
