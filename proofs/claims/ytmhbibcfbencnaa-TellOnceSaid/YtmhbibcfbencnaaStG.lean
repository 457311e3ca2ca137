/- The store: room, set, Put, Set. -/
import Derived.Test.YtmhbibcfbencnaaStF
import Derived.WalkSpells
namespace Go.Proofs.Ytmhbibcfbencnaa
open Go.RowKit Go.Lib
open Go.ChangeMaps (setBlock)
set_option linter.unusedSimpArgs false
set_option linter.unusedVariables false
/-- A window's name in a block of its own. -/
def WxAt (W : World) (g : Nat) (s : Int) (k : ByteArray) : Prop := W.heap[g]? = some (.cells #[.int .i64 s, .string k] 95 (0, 0))
theorem WxAt.keep {X : List Nat} {W W' : World} {g : Nat} {s : Int} {k : ByteArray} (h : WxAt W g s k) (hk : Keep X W W') (hx : g ∉ X := by simp) : WxAt W' g s k := (hk.block g (lt_of_heap h) hx).trans h
theorem WxAt.facts {W : World} {g : Nat} {s : Int} {k : ByteArray} (h : WxAt W g s k) : W.cell? ⟨g, 0, none⟩ = some (.int .i64 s) ∧ W.cell? ⟨g, 1, none⟩ = some (.string k) ∧ (∀ o, W.frozen? ⟨g, o, none⟩ = false) := by
  unfold WxAt at h
  refine ⟨?_, ?_, fun o => ?_⟩
  all_goals first | (unfold World.cell?; rw [h]; rfl) | (unfold World.frozen?; rw [h]; simp)
/-- A new aggregate, whatever it holds. -/
def Spec.cell (n : Nat) : Spec := { p := fun _ v => ∃ g, v = .pointer (some ⟨g, 0, none⟩) ∧ n ≤ g, A := fun _ v w => ∃ g, v = .pointer (some ⟨g, 0, none⟩) ∧ n ≤ g ∧ ∃ x1 x2 x3 x4 x5 x6 x7 x8, Bx w g x1 x2 x3 x4 x5 x6 x7 x8 }
/-- A store into a new aggregate. -/
def Spec.wr (n : Nat) : Spec := { p := fun _ v => v = undef, A := fun _ _ _ => True, G := fun _ W W' => ∃ g y, n ≤ g ∧ W' = setAg W g y }
theorem spOk_cell_wr (i j n m : Nat) : SpOk (spOf [(i, Spec.cell n), (j, Spec.wr m)]) :=
  spOk_two (fun _ => ⟨_, n, rfl, Nat.le_refl _⟩) (fun _ => ⟨_, rfl⟩)
    (fun x y v w w' ⟨g, h1, h2, x1, x2, x3, x4, x5, x6, x7, x8, h3⟩ ⟨g', z, h4, h5⟩ => by
      subst h5
      by_cases e : g' = g
      · subst e; exact ⟨_, h1, h2, _, _, _, _, _, _, _, _, setAg_bx h3 z⟩
      · exact ⟨g, h1, h2, x1, x2, x3, x4, x5, x6, x7, x8, h3.keep (setAg_keep w g' z) (by simp; exact fun h => e h.symm)⟩)
    (fun _ _ _ _ _ => trivial) (fun _ _ _ _ _ _ _ => trivial) (fun _ _ _ _ _ => trivial)
theorem WxAt.new (W : World) (s : Int) (k : ByteArray) : WxAt (W.alloc (.cells #[.int .i64 s, .string k] 95)) W.heap.size s k := World.alloc_heap_new W _
set_option maxRecDepth 100000 in
set_option maxHeartbeats 4000000 in
theorem room_any {w : World} {p b : Nat} {m : St} (h : StAt w p b m) (s : Int) (k : ByteArray) (hm : m.length ≤ 1000) :
    Calls Try.prog 52 #[.pointer (some ⟨p, 0, none⟩), .agg #[.int .i64 s, .string k]] w fun e w' => e = .returned (.bool ((look ⟨s, k⟩ m).isSome || decide (m.length < 32))) ∧ Below w.heap.size w w' := by
  obtain ⟨W1, hW1⟩ : ∃ W1, w.alloc (.cells #[.int .i64 s, .string k] 95) = W1 := ⟨_, rfl⟩
  have hx := WxAt.new w s k
  have hB : Below w.heap.size w W1 := hW1 ▸ (Below.refl _ w).alloc (Nat.le_refl _) _
  rw [hW1] at hx
  obtain ⟨⟨o1, o2, o3, o4, o5, o6, o7, o8⟩, ho⟩ : ∃ x, (look ⟨s, k⟩ m).getD Ag.zero = x := ⟨_, rfl⟩
  obtain ⟨is, his⟩ : ∃ b, (look ⟨s, k⟩ m).isSome = b := ⟨_, rfl⟩
  rw [his]
  have HS := Lib.hid (h.below hB)
  have HX := Lib.hid hx
  have HB := Lib.hid hB
  have HO := Lib.hid ho
  have HI := Lib.hid his
  have hz := Int.natCast_nonneg m.length
  clear hx hB ho his h
  go_enter Try.func52, Try.ntmps52
  go_wp2_with (fail)
  clear hW1
  refine wp_region_soup 11 [] (spOf [(9, Spec.cell W1.heap.size), (10, Spec.wr W1.heap.size)]) (by kernel_rfl) (by kernel_rfl) (spOk_cell_wr 9 10 _ _) (fun i s hs => by have h := spOf_mem hs; simp at h; rcases h with ⟨_, rfl⟩ | ⟨_, rfl⟩ <;> exact trivial) ?_
  simp only [List.take_succ_cons, List.take_zero, List.drop_succ_cons, List.drop_zero]
  iterate 9
    refine soup_q rfl rfl ?_
    apply Exists.intro
    refine ⟨fun W hk _ => ?_, ?_⟩
    · obtain ⟨h0, h1⟩ := (HS.out.keep hk (by simp) (by simp)).cells
      obtain ⟨x0, x1, x2⟩ := (HX.out.keep hk).facts
      obtain ⟨hl1, hl2⟩ := lookAg (HS.out.keep hk (by simp) (by simp)).map ⟨s, k⟩
      rw [HO.out, HI.out] at hl1
      rw [HO.out] at hl2
      simp only [Ag.val, ekW] at hl1 hl2
      unfold Oper.same
      go_simp
      first | rfl | exact ⟨rfl, rfl⟩
    apply Exists.intro
    refine ⟨?_, ?_⟩
    · go_simp
      rfl
  refine soup_s rfl rfl rfl (fun W hk _ _ => ?_) ?_
  · unfold Oper.does
    go_simp
    exact ⟨(Keep.refl _ _).alloc _, hk.alloc _, ⟨_, rfl, hk.size⟩, _, rfl, hk.size, _, _, _, _, _, _, _, _, World.alloc_heap_new W _⟩
  rintro v ⟨g, rfl, hg⟩
  apply Exists.intro
  refine ⟨?_, ?_⟩
  · go_simp
    rfl
  refine soup_s rfl rfl rfl (fun W hk _ hd => ?_) ?_
  · obtain ⟨g', hg1, _, y1, y2, y3, y4, y5, y6, y7, y8, hgz⟩ := hd 9 (Dep.of 3 (by kernel_rfl))
    obtain rfl : g = g' := by simpa using hg1
    obtain ⟨r0, r1, r2, r3, r4, r5, r6, r7, r8, rf⟩ := Bx.facts hgz
    unfold Oper.does
    go_simp
    exact ⟨⟨g, ⟨o1, o2, o3, o4, o5, o6, o7, o8⟩, hg, rfl⟩, hk.step (setAg_keep W g ⟨o1, o2, o3, o4, o5, o6, o7, o8⟩) (fun y hy => .inr (by simp at hy; omega)), rfl, trivial⟩
  intro v hv
  obtain rfl : v = _ := hv
  apply Exists.intro
  refine ⟨?_, ?_⟩
  · go_simp
    rfl
  refine soup_nil (fun W2 hk hS => ?_)
  have hS4 := HS.out.keep hk (by simp) (by simp)
  have hK2 := HB.out.trans (hk.below HB.out.size (by simp))
  have HK2 := Lib.hid hK2
  have h0 := hS4.cells.1
  have hl := fun ty => run_len (P := Try.prog) Try.underlying91 hS4.map ty
  clear hS hk
  clear hS4 hK2 HS HX HB
  cases is with
  | true =>
    go_wp2_with (fail)
    go_ret
    exact ⟨rfl, HK2.out⟩
  | false =>
    go_wp2_with (fail)
    go_ret
    exact ⟨by simp; omega, HK2.out⟩
theorem eq_map (T K E : TypeId) (h : Try.prog.underlying T = some (.map K E)) (b : Nat) (W : World) : (binOp .eql T (.map (some b)) (.map none)).run Try.prog W = .ok (.bool false) W := by
  simp only [binOp]
  simp [Op.equal, Op.maxDepth, Go.run_equalIn_map_nil W 9999 T K E (some b) h]
set_option maxRecDepth 100000 in
set_option maxHeartbeats 4000000 in
theorem sset_any {w : World} {p b : Nat} {m : St} (h : StAt w p b m) (hn : (m.map (·.1)).Nodup) (s : Int) (k : ByteArray) (a : Ag) :
    Calls Try.prog 53 #[.pointer (some ⟨p, 0, none⟩), .agg #[.int .i64 s, .string k], a.val] w fun e w' => e = .returned (.tuple #[]) ∧ StAt w' p b (put ⟨s, k⟩ a m) ∧ Keep [b] w w' := by
  obtain ⟨a1, a2, a3, a4, a5, a6, a7, a8⟩ := a
  simp only [Ag.val]
  obtain ⟨W1, hW1⟩ : ∃ W1, (w.alloc (.cells #[.int .i64 s, .string k] 95)).alloc (agObj a1 a2 a3 a4 a5 a6 a7 a8) = W1 := ⟨_, rfl⟩
  have hx := WxAt.new w s k
  have ha := Bx.new (w.alloc (.cells #[.int .i64 s, .string k] 95)) a1 a2 a3 a4 a5 a6 a7 a8
  rw [World.size_alloc] at ha
  have hB : Below w.heap.size w W1 := hW1 ▸ ((Below.refl _ w).alloc (Nat.le_refl _) _).alloc (by simp) _
  have hx2 : WxAt W1 w.heap.size s k := hW1 ▸ hx.keep ((Keep.refl [] _).alloc _)
  change Bx ((w.alloc (.cells #[.int .i64 s, .string k] 95)).alloc (agObj a1 a2 a3 a4 a5 a6 a7 a8)) _ _ _ _ _ _ _ _ _ at ha
  rw [hW1] at ha
  have h0 := h.cells.1
  have hpl := h.lt.1
  have hbl := h.lt.2.1
  have hpb := h.lt.2.2
  have he := eq_map 91 _ _ Try.underlying91 b
  have HS := Lib.hid (h.below hB)
  have HX := Lib.hid hx2
  have HA := Lib.hid ha
  have HB := Lib.hid hB
  have HN := Lib.hid hn
  obtain ⟨h0', h1'⟩ := (h.below hB).cells
  clear hx hx2 hB ha h hn h0
  go_enter Try.func53, Try.ntmps53
  go_wp2_with (fail)
  clear hW1 h0' h1' he
  refine wp_region_soup 6 [] (spOf []) (by kernel_rfl) (by kernel_rfl) (spOk_of (by simp)) (pre_of (by simp)) ?_
  simp only [List.take_succ_cons, List.take_zero, List.drop_succ_cons, List.drop_zero]
  iterate 6
    refine soup_q rfl rfl ?_
    apply Exists.intro
    refine ⟨fun W hk _ => ?_, ?_⟩
    · obtain ⟨h0, h1⟩ := (HS.out.keep hk (by simp) (by simp)).cells
      obtain ⟨x0, x1, x2⟩ := (HX.out.keep hk).facts
      obtain ⟨p0, p1, p2, p3, p4, p5, p6, p7, p8, _⟩ := (HA.out.keep hk).facts
      unfold Oper.same
      go_simp
      first | rfl | exact ⟨rfl, rfl⟩
    apply Exists.intro
    refine ⟨?_, ?_⟩
    · go_simp
      rfl
  refine soup_nil (fun W2 hk hS => ?_)
  have hS2 := HS.out.keep hk (by simp) (by simp)
  obtain ⟨o, hrun, hmap⟩ := run_update (P := Try.prog) Try.underlying91 keyLaw_wd hS2.map HN.out ⟨s, k⟩ ⟨a1, a2, a3, a4, a5, a6, a7, a8⟩
  simp only [Ag.val, ekW] at hrun
  refine BigFrame.wpList_want rfl (fun K hK => ?_)
  go_simp
  refine hK _ _ ?_
  clear hK K
  have hk3 : Keep [b] W2 (setBlock W2 b o) := (Keep.refl [b] W2).setBlock b o (.inl (by simp))
  have hfin : StAt (setBlock W2 b o) p b (put ⟨s, k⟩ ⟨a1, a2, a3, a4, a5, a6, a7, a8⟩ m) := ⟨(hk3.block p hS2.lt.1 (by simpa using hS2.lt.2.2)).trans hS2.blk, hmap⟩
  have hkeep : Keep [b] w (setBlock W2 b o) := ((Keep.of_below HB.out [b]).trans (hk.mono (by simp))).trans hk3
  have HF := Lib.hid hfin
  have HK := Lib.hid hkeep
  clear hrun hmap hS2 hk hS hk3 hfin hkeep
  go_wp2_with (fail)
  go_end0
  exact ⟨rfl, HF.out, HK.out⟩
end Go.Proofs.Ytmhbibcfbencnaa
