/- msg.safely: what gives up nothing · Numbers as bytes: msg's reader -/
import Derived.Test.YteejdfpfdnkiiaaGreatCrB
import Derived.Defers
import Derived.Recover
namespace Go.Proofs.YteejdfpfdnkiiaaGreat
section
open Go.RowKit Go.Lib
set_option linter.unusedSimpArgs false
set_option linter.unusedVariables false
theorem catch_idle (p : Addr) (w : World) : CallsD Tryz.prog 97 #[.pointer (some p)] .returning w fun e u' w' => e = .returned (.tuple #[]) ∧ u' = .returning ∧ w' = w := by
  refine callsD_of_wpS Tryz.func97 rfl fun c₀ cs hu => ?_
  apply wpS_seq
  apply wpS_region
  simp [wpOpsS, go_sem, recoverD, hu, Tryz.ntmps97, Exit.thenS]
  apply wpS_seq
  apply wpS_region
  simp [wpOpsS, go_sem, Exit.thenS]
  refine wpS_cond (t := false) (by simp [Act.eval, Array.replicate]) ?_
  simp only [Bool.false_eq_true, if_false]
  refine wpS_of_wp (wp_skip ?_)
  cases c₀
  simp_all [bodyPostS, results, Tryz.results97, Exit.thenS]
set_option maxRecDepth 100000 in
/-- A call of what does not give up. -/
theorem safeW_any {w : World} (p q : Nat) (R : World → World → Prop) (hR : ∀ W w', R W w' → ∃ X, Keep X W w' ∧ w.heap.size ∉ X) (h : ∀ W, Keep [] w W → Calls Tryz.prog 79 #[.pointer (some ⟨p, 0, none⟩), .pointer (some ⟨q, 0, none⟩)] W fun e w' => e = .returned (.tuple #[]) ∧ R W w') : Calls Tryz.prog 78 #[.func (.func 79) #[] #[.pointer (some ⟨p, 0, none⟩), .pointer (some ⟨q, 0, none⟩)]] w fun e w' => e = .returned (.int .i64 0) ∧ ∃ W w1, Keep [] w W ∧ w.heap.size < W.heap.size ∧ R W w1 ∧ Keep [w.heap.size] w1 w' := by
  have hmf : ∀ (fn : Fn) (first cap : Array Value) (w : World), (Instr.makeFunc fn first cap).run Tryz.prog w = .ok (.func fn first cap) w := fun _ _ _ _ => rfl
  have hk : Keep [] w (w.alloc (.cells #[.int .i64 0] 29)) := (Keep.refl _ _).alloc _
  have ho : OneAt (w.alloc (.cells #[.int .i64 0] 29)) w.heap.size (.int .i64 0) 29 := OneAt.new _ _ _
  have HC := Lib.hid (h _ hk)
  have HK := Lib.hid hk
  have HO := Lib.hid ho
  have HRR := Lib.hid hR
  clear h hk ho hR
  go_enter_defers Tryz.func78, Tryz.ntmps78
  go_wp2_with (fail)
  refine HC.out.mono ?_
  rintro e w1 ⟨rfl, hr⟩
  obtain ⟨X, hx, hn⟩ := HRR.out _ _ hr
  have ho1 := HO.out.keep hx hn
  obtain ⟨d0, d1⟩ := ho1.facts
  have HR1 := Lib.hid hr
  have HO1 := Lib.hid ho1
  clear hr hx hn ho1
  go_wp2_with (fail)
  refine leaves_cons (f := 97) (args := #[.pointer (some ⟨w.heap.size, 0, none⟩)]) (by simp) (by simp [go_sem]) ?_
  refine (catch_idle ⟨w.heap.size, 0, none⟩ _).mono ?_
  rintro e u' w'' ⟨rfl, rfl, rfl⟩
  have hcell := (HO1.out.set (.int .i64 0)).facts.1
  simp [Leaves, settle, results, Tryz.results78, go_sem, hcell]
  exact ⟨_, HK.out, by rw [World.size_alloc]; omega, w1, HR1.out, (Keep.refl _ _).setCell _ _ _ (.inl (by simp))⟩
set_option maxRecDepth 100000 in
/-- A call of what does not give up. -/
theorem safeR_any {w : World} (p q : Nat) (R : World → World → Prop) (hR : ∀ W w', R W w' → ∃ X, Keep X W w' ∧ w.heap.size ∉ X) (h : ∀ W, Keep [] w W → Calls Tryz.prog 102 #[.pointer (some ⟨p, 0, none⟩), .pointer (some ⟨q, 0, none⟩)] W fun e w' => e = .returned (.tuple #[]) ∧ R W w') : Calls Tryz.prog 78 #[.func (.func 102) #[] #[.pointer (some ⟨p, 0, none⟩), .pointer (some ⟨q, 0, none⟩)]] w fun e w' => e = .returned (.int .i64 0) ∧ ∃ W w1, Keep [] w W ∧ w.heap.size < W.heap.size ∧ R W w1 ∧ Keep [w.heap.size] w1 w' := by
  have hmf : ∀ (fn : Fn) (first cap : Array Value) (w : World), (Instr.makeFunc fn first cap).run Tryz.prog w = .ok (.func fn first cap) w := fun _ _ _ _ => rfl
  have hk : Keep [] w (w.alloc (.cells #[.int .i64 0] 29)) := (Keep.refl _ _).alloc _
  have ho : OneAt (w.alloc (.cells #[.int .i64 0] 29)) w.heap.size (.int .i64 0) 29 := OneAt.new _ _ _
  have HC := Lib.hid (h _ hk)
  have HK := Lib.hid hk
  have HO := Lib.hid ho
  have HRR := Lib.hid hR
  clear h hk ho hR
  go_enter_defers Tryz.func78, Tryz.ntmps78
  go_wp2_with (fail)
  refine HC.out.mono ?_
  rintro e w1 ⟨rfl, hr⟩
  obtain ⟨X, hx, hn⟩ := HRR.out _ _ hr
  have ho1 := HO.out.keep hx hn
  obtain ⟨d0, d1⟩ := ho1.facts
  have HR1 := Lib.hid hr
  have HO1 := Lib.hid ho1
  clear hr hx hn ho1
  go_wp2_with (fail)
  refine leaves_cons (f := 97) (args := #[.pointer (some ⟨w.heap.size, 0, none⟩)]) (by simp) (by simp [go_sem]) ?_
  refine (catch_idle ⟨w.heap.size, 0, none⟩ _).mono ?_
  rintro e u' w'' ⟨rfl, rfl, rfl⟩
  have hcell := (HO1.out.set (.int .i64 0)).facts.1
  simp [Leaves, settle, results, Tryz.results78, go_sem, hcell]
  exact ⟨_, HK.out, by rw [World.size_alloc]; omega, w1, HR1.out, (Keep.refl _ _).setCell _ _ _ (.inl (by simp))⟩
end
section
open Go.RowKit Go.Lib
set_option linter.unusedSimpArgs false
set_option linter.unusedVariables false
set_option maxRecDepth 100000 in
set_option maxHeartbeats 4000000 in
theorem byte1_any {w : World} {x b2 b4 : Nat} {s : ByteArray} {p : Nat} {v : Value} (h : InAt w x s p) (b : UInt8) (hs : s.data.toList[p]? = some b) (hz : s.size ≤ 100000) (h2 : OneAt w b2 (.pointer (some ⟨x, 0, none⟩)) 184) (h4 : OneAt w b4 v 5) : Calls Tryz.prog 152 #[.pointer (some ⟨b2, 0, none⟩), .pointer (some ⟨b4, 0, none⟩)] w fun e w' => e = .returned (.int .i64 0) ∧ InAt w' x s (p + 1) ∧ OneAt w' b4 (byV b) 5 ∧ Keep [x, b4] w w' := by
  have hps : p < s.size := by rw [← str_size]; exact (List.getElem?_eq_some_iff.1 hs).1
  have HBV : Hid (∀ h, s[p]'h = b) := Lib.hid (strGet s _ b hs)
  have hne : ((p : Int) == (s.size : Int)) = false := by simp; omega
  have H4 := Lib.hid h4
  have H2 := Lib.hid h2
  have HI := Lib.hid h
  have hpl := lt_of_heap h
  have hbl := lt_of_heap h2
  clear h hs h2 h4
  go_enter Tryz.func152, Tryz.ntmps152
  go_wp2_with (fail)
  refine wp_region_soup 9 [] (fun _ => none) (by kernel_rfl) (by kernel_rfl) (spOk_of (l := []) (by simp)) (pre_of (l := []) (by simp)) ?_
  simp only [List.take_succ_cons, List.take_zero, List.drop_succ_cons, List.drop_zero]
  with_reducible refine soup_q ?_ ?_ ?_
  · rfl
  · rfl
  with_reducible apply Exists.intro
  with_reducible refine ⟨fun W hk _ => ?_, ?_⟩
  · have c0 := (H2.out.keep hk (by simp)).facts.1
    unfold Oper.same
    go_simp
    first | rfl | exact ⟨rfl, rfl⟩
  with_reducible apply Exists.intro
  with_reducible refine ⟨?_, ?_⟩
  · go_simp
    rfl
  iterate 2
    with_reducible refine soup_q ?_ ?_ ?_
    · rfl
    · rfl
    with_reducible apply Exists.intro
    with_reducible refine ⟨fun W hk _ => ?_, ?_⟩
    · unfold Oper.same
      go_simp
      first | rfl | exact ⟨rfl, rfl⟩
    with_reducible apply Exists.intro
    with_reducible refine ⟨?_, ?_⟩
    · go_simp
      rfl
  with_reducible refine soup_q ?_ ?_ ?_
  · rfl
  · rfl
  with_reducible apply Exists.intro
  with_reducible refine ⟨fun W hk _ => ?_, ?_⟩
  · have c0 := (HI.out.keep hk (by simp)).facts.2.1
    unfold Oper.same
    go_simp
    first | rfl | exact ⟨rfl, rfl⟩
  with_reducible apply Exists.intro
  with_reducible refine ⟨?_, ?_⟩
  · go_simp
    rfl
  with_reducible refine soup_q ?_ ?_ ?_
  · rfl
  · rfl
  with_reducible apply Exists.intro
  with_reducible refine ⟨fun W hk _ => ?_, ?_⟩
  · have c0 := (H2.out.keep hk (by simp)).facts.1
    unfold Oper.same
    go_simp
    first | rfl | exact ⟨rfl, rfl⟩
  with_reducible apply Exists.intro
  with_reducible refine ⟨?_, ?_⟩
  · go_simp
    rfl
  iterate 2
    with_reducible refine soup_q ?_ ?_ ?_
    · rfl
    · rfl
    with_reducible apply Exists.intro
    with_reducible refine ⟨fun W hk _ => ?_, ?_⟩
    · unfold Oper.same
      go_simp
      first | rfl | exact ⟨rfl, rfl⟩
    with_reducible apply Exists.intro
    with_reducible refine ⟨?_, ?_⟩
    · go_simp
      rfl
  with_reducible refine soup_q ?_ ?_ ?_
  · rfl
  · rfl
  with_reducible apply Exists.intro
  with_reducible refine ⟨fun W hk _ => ?_, ?_⟩
  · have c0 := (HI.out.keep hk (by simp)).facts.1
    unfold Oper.same
    go_simp
    first | rfl | exact ⟨rfl, rfl⟩
  with_reducible apply Exists.intro
  with_reducible refine ⟨?_, ?_⟩
  · go_simp
    rfl
  with_reducible refine soup_q ?_ ?_ ?_
  · rfl
  · rfl
  with_reducible apply Exists.intro
  with_reducible refine ⟨fun W hk _ => ?_, ?_⟩
  · unfold Oper.same
    go_simp
    first | rfl | exact ⟨rfl, rfl⟩
  with_reducible apply Exists.intro
  with_reducible refine ⟨?_, ?_⟩
  · go_simp
    rfl
  refine soup_nil (fun W hk hS => ?_)
  have HI := Lib.hid (HI.out.keep hk (by simp))
  have H2 := Lib.hid (H2.out.keep hk (by simp))
  have H4 := Lib.hid (H4.out.keep hk (by simp))
  have HK := Lib.hid hk
  clear hk hS
  go_wp2_with (fail)
  refine wp_region_soup 8 [] (fun _ => none) (by kernel_rfl) (by kernel_rfl) (spOk_of (l := []) (by simp)) (pre_of (l := []) (by simp)) ?_
  simp only [List.take_succ_cons, List.take_zero, List.drop_succ_cons, List.drop_zero]
  with_reducible refine soup_q ?_ ?_ ?_
  · rfl
  · rfl
  with_reducible apply Exists.intro
  with_reducible refine ⟨fun W hk _ => ?_, ?_⟩
  · have c0 := (H2.out.keep hk (by simp)).facts.1
    unfold Oper.same
    go_simp
    first | rfl | exact ⟨rfl, rfl⟩
  with_reducible apply Exists.intro
  with_reducible refine ⟨?_, ?_⟩
  · go_simp
    rfl
  iterate 2
    with_reducible refine soup_q ?_ ?_ ?_
    · rfl
    · rfl
    with_reducible apply Exists.intro
    with_reducible refine ⟨fun W hk _ => ?_, ?_⟩
    · unfold Oper.same
      go_simp
      first | rfl | exact ⟨rfl, rfl⟩
    with_reducible apply Exists.intro
    with_reducible refine ⟨?_, ?_⟩
    · go_simp
      rfl
  with_reducible refine soup_q ?_ ?_ ?_
  · rfl
  · rfl
  with_reducible apply Exists.intro
  with_reducible refine ⟨fun W hk _ => ?_, ?_⟩
  · have c0 := (HI.out.keep hk (by simp)).facts.1
    unfold Oper.same
    go_simp
    first | rfl | exact ⟨rfl, rfl⟩
  with_reducible apply Exists.intro
  with_reducible refine ⟨?_, ?_⟩
  · go_simp
    rfl
  with_reducible refine soup_q ?_ ?_ ?_
  · rfl
  · rfl
  with_reducible apply Exists.intro
  with_reducible refine ⟨fun W hk _ => ?_, ?_⟩
  · have c0 := (H2.out.keep hk (by simp)).facts.1
    unfold Oper.same
    go_simp
    first | rfl | exact ⟨rfl, rfl⟩
  with_reducible apply Exists.intro
  with_reducible refine ⟨?_, ?_⟩
  · go_simp
    rfl
  iterate 2
    with_reducible refine soup_q ?_ ?_ ?_
    · rfl
    · rfl
    with_reducible apply Exists.intro
    with_reducible refine ⟨fun W hk _ => ?_, ?_⟩
    · unfold Oper.same
      go_simp
      first | rfl | exact ⟨rfl, rfl⟩
    with_reducible apply Exists.intro
    with_reducible refine ⟨?_, ?_⟩
    · go_simp
      rfl
  with_reducible refine soup_q ?_ ?_ ?_
  · rfl
  · rfl
  with_reducible apply Exists.intro
  with_reducible refine ⟨fun W hk _ => ?_, ?_⟩
  · have c0 := (HI.out.keep hk (by simp)).facts.2.1
    unfold Oper.same
    go_simp
    first | rfl | exact ⟨rfl, rfl⟩
  with_reducible apply Exists.intro
  with_reducible refine ⟨?_, ?_⟩
  · go_simp
    rfl
  refine soup_nil (fun W2 hk hS => ?_)
  have HI := Lib.hid (HI.out.keep hk (by simp))
  have H2 := Lib.hid (H2.out.keep hk (by simp))
  have H4 := Lib.hid (H4.out.keep hk (by simp))
  have HK := Lib.hid (HK.out.trans hk)
  clear hk hS
  have hne4 : x ≠ b4 := (H4.out.ne_in HI.out).symm
  have hne2 : b2 ≠ b4 := H2.out.ne H4.out (by decide)
  have hp0 : (0 : Int) ≤ p := by omega
  have hp1 : (p : Int) < s.size := by omega
  have hks : Keep [b4] W2 (W2.setCell ⟨b4, 0, none⟩ (.int .u8 (((s[p]'hps).toNat : Nat) : Int))) := (Keep.refl _ _).setCell _ _ _ (.inl (by simp))
  have g2 := (H2.out.keep hks (by simp; exact hne2)).facts.1
  obtain ⟨g10, g11, g12, g13⟩ := (HI.out.keep hks (by simp; exact hne4)).facts
  have d1 := H4.out.facts.2
  have d0 := H4.out.facts.1
  go_wp2_with (fail)
  go_ret
  have hv : Value.int .u8 (((s[p]'hps).toNat : Nat) : Int) = byV b := by rw [HBV.out]; rfl
  have h1 := HI.out.keep hks (by simp; exact hne4)
  have h4 := H4.out.set (.int .u8 (((s[p]'hps).toNat : Nat) : Int))
  have hkx : Keep [x] (W2.setCell ⟨b4, 0, none⟩ (.int .u8 (((s[p]'hps).toNat : Nat) : Int))) ((W2.setCell ⟨b4, 0, none⟩ (.int .u8 (((s[p]'hps).toNat : Nat) : Int))).setCell ⟨x, 1, none⟩ (.int .i64 (p + 1))) := (Keep.refl _ _).setCell _ _ _ (.inl (by simp))
  refine ⟨rfl, h1.set (p + 1) _ (by push_cast; rfl), ?_, ((HK.out.mono (by simp)).trans (hks.mono (by simp))).trans (hkx.mono (by simp))⟩
  rw [← hv]
  exact h4.keep hkx (by simp; exact hne4.symm)
set_option maxRecDepth 100000 in
theorem tryB_any {w : World} {x b2 b4 : Nat} {s : ByteArray} {p : Nat} {v : Value} (h : InAt w x s p) (b : UInt8) (hs : s.data.toList[p]? = some b) (hz : s.size ≤ 100000) (h2 : OneAt w b2 (.pointer (some ⟨x, 0, none⟩)) 184) (h4 : OneAt w b4 v 5) : Calls Tryz.prog 151 #[.pointer (some ⟨x, 0, none⟩), .func (.func 152) #[] #[.pointer (some ⟨b2, 0, none⟩), .pointer (some ⟨b4, 0, none⟩)]] w fun e w' => e = .returned (.tuple #[]) ∧ InAt w' x s (p + 1) ∧ OneAt w' b4 (byV b) 5 ∧ Keep [x, b4] w w' := by
  have HC := Lib.hid (byte1_any h b hs hz h2 h4)
  obtain ⟨c0, c1, c2, c3⟩ := h.facts
  clear h hs h2 h4
  go_enter Tryz.func151, Tryz.ntmps151
  go_wp2_with (fail)
  refine HC.out.mono ?_
  rintro e w1 ⟨rfl, h1, h2, hk⟩
  have H1 := Lib.hid h1
  have H2 := Lib.hid h2
  have HK := Lib.hid hk
  clear h1 h2 hk c0 c1 c2 c3
  go_wp2_with (fail)
  first | go_end0 | refine bodyPost_ret (results_none rfl _ _ _) rfl ?_
  exact ⟨rfl, H1.out, H2.out, HK.out⟩
set_option maxRecDepth 100000 in
theorem Byte_any {w : World} {x : Nat} {s : ByteArray} {p : Nat} (h : InAt w x s p) (b : UInt8) (hs : s.data.toList[p]? = some b) (hz : s.size ≤ 100000) : Calls Tryz.prog 146 #[.pointer (some ⟨x, 0, none⟩)] w fun e w' => e = .returned (byV b) ∧ InAt w' x s (p + 1) ∧ Keep [x] w w' := by
  have H := Lib.hid h
  have HS := Lib.hid hs
  have hmf : ∀ (fn : Fn) (first cap : Array Value) (w : World), (Instr.makeFunc fn first cap).run Tryz.prog w = .ok (.func fn first cap) w := fun _ _ _ _ => rfl
  clear h hs
  obtain ⟨w1, hw1⟩ : ∃ u, w.alloc (.cells #[.pointer (some ⟨x, 0, none⟩)] 184) = u := ⟨_, rfl⟩
  obtain ⟨w3, hw3⟩ : ∃ u, w1.alloc (.cells #[.int .u8 0] 5) = u := ⟨_, rfl⟩
  have s1 : w1.heap.size = w.heap.size + 1 := by rw [← hw1, World.size_alloc]
  have k1 : Keep [] w w1 := by rw [← hw1]; exact (Keep.refl _ _).alloc _
  have k3 : Keep [] w1 w3 := by rw [← hw3]; exact (Keep.refl _ _).alloc _
  have o1 : OneAt w1 w.heap.size (.pointer (some ⟨x, 0, none⟩)) 184 := by rw [← hw1]; exact OneAt.new _ _ _
  have o3 : OneAt w3 (w.heap.size + 1) (.int .u8 0) 5 := by rw [← hw3, ← s1]; exact OneAt.new _ _ _
  have o1' := o1.keep k3 (by simp)
  have hi3 := (H.out.keep k1 (by simp)).keep k3 (by simp)
  have hk03 := k1.trans k3
  have hxl := lt_of_heap H.out
  obtain ⟨bn, hbn⟩ : ∃ q : Nat, b.toNat = q := ⟨_, rfl⟩
  have hbv : byV b = .int .u8 bn := by unfold byV; rw [hbn]
  have hc := tryB_any hi3 b HS.out hz o1' o3
  rw [hbv] at hc ⊢
  have HC := Lib.hid hc
  have HK := Lib.hid hk03
  have c0 := o1'.facts.1
  clear hc hbv hbn
  go_enter Tryz.func146, Tryz.ntmps146
  go_wp2_with (fail)
  refine HC.out.mono ?_
  rintro e w4 ⟨rfl, h1, h2, hk⟩
  obtain ⟨d0, d1⟩ := h2.facts
  have H1 := Lib.hid h1
  have H2 := Lib.hid h2
  have H3 := Lib.hid hk
  have S2 := Lib.hid s1
  clear h1 h2 hk hw1 hw3 c0
  go_wp2_with (fail)
  have hcell := (H2.out.set (.int .u8 bn)).facts.1
  refine bodyPost_ret (v := .int .u8 bn) (by simp [results, Tryz.results146, go_sem, hcell]) rfl ?_
  have hks : Keep [w.heap.size + 1] w4 (w4.setCell ⟨w.heap.size + 1, 0, none⟩ (.int .u8 bn)) := (Keep.refl _ _).setCell _ _ _ (.inl (by simp))
  refine ⟨rfl, H1.out.keep hks (by simp; omega), ?_⟩
  refine ((HK.out.mono (by simp)).step H3.out ?_).step hks ?_
  · intro y hy
    simp only [List.mem_cons, List.not_mem_nil, or_false] at hy
    rcases hy with rfl | rfl
    · exact .inl (by simp)
    · exact .inr (by omega)
  · intro y hy
    simp only [List.mem_cons, List.not_mem_nil, or_false] at hy
    subst hy
    exact .inr (by omega)
theorem fault_any {w : World} {x : Nat} {s : ByteArray} {p : Nat} (h : InAt w x s p) : Calls Tryz.prog 108 #[.pointer (some ⟨x, 0, none⟩)] w fun e w' => e = .returned (.tuple #[.int .i64 0, .int .i64 0]) ∧ w' = w := by
  obtain ⟨c0, c1, c2, c3⟩ := h.facts
  clear h
  go_enter Tryz.func108, Tryz.ntmps108
  go_wp2_with (fail)
  go_ret2
  exact ⟨rfl, rfl⟩
theorem ask_any {w : World} {r x : Nat} {s : ByteArray} {p : Nat} (hr : OneAt w r (.pointer (some ⟨x, 0, none⟩)) 187) (h : InAt w x s p) : Calls Tryz.prog 139 #[.pointer (some ⟨r, 0, none⟩)] w fun e w' => e = .returned (.tuple #[]) ∧ w' = w := by
  have HF := Lib.hid (fault_any h)
  obtain ⟨c0, _⟩ := hr.facts
  clear h hr
  go_enter Tryz.func139, Tryz.ntmps139
  go_wp2_with (fail)
  refine HF.out.mono ?_
  rintro e w1 ⟨rfl, rfl⟩
  go_wp2_with (fail)
  go_end0
  exact ⟨rfl, rfl⟩
set_option maxRecDepth 100000 in
theorem rnum_any {w : World} {r x : Nat} {s : ByteArray} {p : Nat} (hr : OneAt w r (.pointer (some ⟨x, 0, none⟩)) 187) (h : InAt w x s p) (n : Nat) (rest : List UInt8) (hs : s.data.toList.drop p = varB n ++ rest) (hn : n ≤ 2147483647) (hz : s.size ≤ 100000) (pb off : Nat) {z : Value} (hp : w.cell? ⟨pb, off, none⟩ = some z) (hf : w.frozen? ⟨pb, off, none⟩ = false) (hpx : pb ≠ x) (hpr : pb ≠ r) : Calls Tryz.prog 143 #[.pointer (some ⟨r, 0, none⟩), .pointer (some ⟨pb, off, none⟩)] w fun e w' => e = .returned (.tuple #[]) ∧ ∃ W1, w' = W1.setCell ⟨pb, off, none⟩ (.int .i64 n) ∧ InAt W1 x s (p + (varB n).length) ∧ Keep [x] w W1 := by
  have HM := Lib.hid (Most_any h n rest hs 2147483647 (by omega) (by omega) hz)
  obtain ⟨c0, _⟩ := hr.facts
  have hrx := hr.ne_in h
  have hpl := lt_of_cell hp
  have HP := Lib.hid hp
  have HF := Lib.hid hf
  have HRR := Lib.hid hr
  clear h hr hs hp hf
  go_enter Tryz.func143, Tryz.ntmps143
  go_wp2_with (fail)
  refine HM.out.mono ?_
  rintro e w1 ⟨rfl, h1, hk⟩
  have d0 := (hk.cell off hpl (by simpa using hpx)).trans HP.out
  have d1 : w1.frozen? ⟨pb, off, none⟩ = false := by
    have := hk.block pb hpl (by simpa using hpx)
    have h2 := HF.out
    unfold World.frozen? at h2 ⊢
    rw [this]
    exact h2
  have hks : Keep [pb] w1 (w1.setCell ⟨pb, off, none⟩ (.int .i64 n)) := (Keep.refl _ _).setCell _ _ _ (.inl (by simp))
  have hr1 := (HRR.out.keep hk (by simpa using hrx)).keep hks (by simpa using hpr.symm)
  have hx1 := h1.keep hks (by simpa using hpx.symm)
  have HA := Lib.hid (ask_any hr1 hx1)
  have H1 := Lib.hid h1
  have HK := Lib.hid hk
  clear h1 hk hks hr1 hx1 c0
  go_wp2_with (fail)
  refine HA.out.mono ?_
  rintro e w2 ⟨rfl, rfl⟩
  go_wp2_with (fail)
  go_end0
  exact ⟨rfl, w1, rfl, H1.out, HK.out⟩
set_option maxRecDepth 100000 in
theorem rbyte_any {w : World} {r x : Nat} {s : ByteArray} {p : Nat} (hr : OneAt w r (.pointer (some ⟨x, 0, none⟩)) 187) (h : InAt w x s p) (b : UInt8) (hs : s.data.toList[p]? = some b) (hz : s.size ≤ 100000) (pb off : Nat) {z : Value} (hp : w.cell? ⟨pb, off, none⟩ = some z) (hf : w.frozen? ⟨pb, off, none⟩ = false) (hpx : pb ≠ x) (hpr : pb ≠ r) : Calls Tryz.prog 140 #[.pointer (some ⟨r, 0, none⟩), .pointer (some ⟨pb, off, none⟩)] w fun e w' => e = .returned (.tuple #[]) ∧ ∃ W1, w' = W1.setCell ⟨pb, off, none⟩ (byV b) ∧ InAt W1 x s (p + 1) ∧ Keep [x] w W1 := by
  obtain ⟨bn, hbn⟩ : ∃ q : Nat, b.toNat = q := ⟨_, rfl⟩
  have hbv : byV b = .int .u8 bn := by unfold byV; rw [hbn]
  have hm := Byte_any h b hs hz
  rw [hbv] at hm ⊢
  have HM := Lib.hid hm
  obtain ⟨c0, _⟩ := hr.facts
  have hrx := hr.ne_in h
  have hpl := lt_of_cell hp
  have HP := Lib.hid hp
  have HF := Lib.hid hf
  have HRR := Lib.hid hr
  clear h hr hs hp hf hm hbv hbn
  go_enter Tryz.func140, Tryz.ntmps140
  go_wp2_with (fail)
  refine HM.out.mono ?_
  rintro e w1 ⟨rfl, h1, hk⟩
  have d0 := (hk.cell off hpl (by simpa using hpx)).trans HP.out
  have d1 : w1.frozen? ⟨pb, off, none⟩ = false := by
    have := hk.block pb hpl (by simpa using hpx)
    have h2 := HF.out
    unfold World.frozen? at h2 ⊢
    rw [this]
    exact h2
  have hks : Keep [pb] w1 (w1.setCell ⟨pb, off, none⟩ (.int .u8 bn)) := (Keep.refl _ _).setCell _ _ _ (.inl (by simp))
  have hr1 := (HRR.out.keep hk (by simpa using hrx)).keep hks (by simpa using hpr.symm)
  have hx1 := h1.keep hks (by simpa using hpx.symm)
  have HA := Lib.hid (ask_any hr1 hx1)
  have H1 := Lib.hid h1
  have HK := Lib.hid hk
  clear h1 hk hks hr1 hx1 c0
  go_wp2_with (fail)
  refine HA.out.mono ?_
  rintro e w2 ⟨rfl, rfl⟩
  go_wp2_with (fail)
  go_end0
  exact ⟨rfl, w1, rfl, H1.out, HK.out⟩
set_option maxRecDepth 100000 in
theorem rcount_any {w : World} {r x : Nat} {s : ByteArray} {p : Nat} (hr : OneAt w r (.pointer (some ⟨x, 0, none⟩)) 187) (h : InAt w x s p) (n : Nat) (rest : List UInt8) (hs : s.data.toList.drop p = varB n ++ rest) (m : Int) (hn : (n : Int) ≤ m) (hm : m ≤ 2147483647) (hz : s.size ≤ 100000) (u : Value) : Calls Tryz.prog 141 #[.pointer (some ⟨r, 0, none⟩), u, .int .i64 m] w fun e w' => e = .returned (.int .i64 n) ∧ InAt w' x s (p + (varB n).length) ∧ Keep [x] w w' := by
  have HM := Lib.hid (Most_any h n rest hs m hn hm hz)
  obtain ⟨c0, _⟩ := hr.facts
  have hrx := hr.ne_in h
  have HRR := Lib.hid hr
  clear h hr hs
  go_enter Tryz.func141, Tryz.ntmps141
  go_wp2_with (fail)
  refine HM.out.mono ?_
  rintro e w1 ⟨rfl, h1, hk⟩
  have HA := Lib.hid (ask_any (HRR.out.keep hk (by simpa using hrx)) h1)
  have H1 := Lib.hid h1
  have HK := Lib.hid hk
  clear h1 hk c0
  go_wp2_with (fail)
  refine HA.out.mono ?_
  rintro e w2 ⟨rfl, rfl⟩
  go_wp2_with (fail)
  go_ret
  exact ⟨rfl, H1.out, HK.out⟩
end
end Go.Proofs.YteejdfpfdnkiiaaGreat
