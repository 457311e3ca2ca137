/- Messages, as the writer goes over them. -/
import Derived.Test.YteejdfpfdnkiiaaGreatCmD
namespace Go.Proofs.YteejdfpfdnkiiaaGreat
open Go.RowKit Go.Lib
set_option linter.unusedSimpArgs false
set_option linter.unusedVariables false
/-- A message's cells: its kind, move, shard, target, and its table. -/
def msC (k mv pt to ep nd : Nat) (sl : Value) : Array Value := #[.int .u8 k, .int .i64 mv, .int .i64 pt, .int .i64 to, .int .i64 0, .int .i64 0, .int .i64 0, .int .u64 0, .int .i64 0, .int .i64 0, .int .i64 0, .int .i64 0, .int .u8 0, .string ⟨#[]⟩, .int .i64 0, .int .i64 0, .int .i64 0, .int .i64 ep, .int .i64 nd, sl, .slice none 0 0, .string ⟨#[]⟩]
/-- The writer, and the message that it goes over. -/
def StW (base g mb : Nat) (v : Value) (l : List UInt8) (cs : Array Value) (a : Option Addr) (own : List Int) (w W : World) : Prop := ∃ v1, WrR base g [mb] v v1 l w W ∧ MsAt W mb cs ∧ IntsAt W a own ∧ (base ≤ g ∧ base ≤ mb) ∧ (own ≠ [] → ∀ b o, a = some ⟨b, o, none⟩ → b < base)
theorem StW.keep {base g mb : Nat} {v : Value} {l : List UInt8} {cs : Array Value} {a : Option Addr} {own : List Int} {w W W' : World} (h : StW base g mb v l cs a own w W) (hk : Keep [] W W') : StW base g mb v l cs a own w W' := by
  obtain ⟨v1, hR, hM, hI, hb, ha⟩ := h
  exact ⟨v1, ⟨hR.at_.keep hk (by simp) (by simp), hR.keep.step hk (by simp), hR.up⟩, hM.keep hk (by simp), hI.keep hk (by simp), hb, ha⟩
theorem StW.step {base g mb : Nat} {v v1 : Value} {l l2 : List UInt8} {cs : Array Value} {a : Option Addr} {own : List Int} {w W W' : World} (hR : WrR base g [mb] v v1 l w W) (hM : MsAt W mb cs) (hI : IntsAt W a own) (hb : base ≤ g ∧ base ≤ mb) (ha : own ≠ [] → ∀ b o, a = some ⟨b, o, none⟩ → b < base) (k : WrP base g v1 l2 W W') : StW base g mb v l2 cs a own w W' := by
  obtain ⟨v2, h2⟩ := k
  have hne : mb ∉ (g :: ([] ++ v1.ownBlock.toList)) := by
    intro hmem
    simp only [List.mem_cons, List.nil_append] at hmem
    rcases hmem with e | e
    · exact ms_ne_wr hR.at_ hM e
    · exact ms_ne hR.at_.r hM (by decide) mb (by simpa using e) rfl
  refine ⟨v2, hR.trans (h2.mono (by simp)), hM.keep h2.keep hne, hI.keep h2.keep (fun h0 b o e hmem => ?_), hb, ha⟩
  have h1 := ha h0 b o e
  simp only [List.mem_cons, List.nil_append] at hmem
  rcases hmem with e2 | e2
  · omega
  · have := own_base hR.at_.r b (by simpa using e2)
    omega
theorem wnum_st {base g mb : Nat} {v : Value} {l : List UInt8} {cs : Array Value} {a : Option Addr} {own : List Int} {w W : World} (h : StW base g mb v l cs a own w W) (hl : l.length ≤ 90000) (off n : Nat) (ho : cs[off]? = some (.int .i64 n)) (hn : n ≤ 2147483647) : Calls Tryz.prog 130 #[.pointer (some ⟨g, 0, none⟩), .pointer (some ⟨mb, off, none⟩)] W fun e w' => e = .returned (.tuple #[]) ∧ StW base g mb v (l ++ varB n) cs a own w w' := by
  obtain ⟨v1, hR, hM, hI, hb, ha⟩ := h
  refine (wnum_any hR.at_ hl mb off n ((hM.cell off).trans ho) hn).mono ?_
  rintro e w' ⟨rfl, h2⟩
  exact ⟨rfl, StW.step hR hM hI hb ha h2⟩
theorem wbyte_st {base g mb : Nat} {v : Value} {l : List UInt8} {cs : Array Value} {a : Option Addr} {own : List Int} {w W : World} (h : StW base g mb v l cs a own w W) (hl : l.length ≤ 90000) (off : Nat) (x : UInt8) (ho : cs[off]? = some (byV x)) : Calls Tryz.prog 127 #[.pointer (some ⟨g, 0, none⟩), .pointer (some ⟨mb, off, none⟩)] W fun e w' => e = .returned (.tuple #[]) ∧ StW base g mb v (l ++ [x]) cs a own w w' := by
  obtain ⟨v1, hR, hM, hI, hb, ha⟩ := h
  refine (wbyte_any hR.at_ hl mb off x ((hM.cell off).trans ho)).mono ?_
  rintro e w' ⟨rfl, h2⟩
  exact ⟨rfl, StW.step hR hM hI hb ha h2⟩
/-- The writer is through with the message. -/
def WrD (base g mb : Nat) (v : Value) (l : List UInt8) (w W : World) : Prop := ∃ v1 cs, WrR base g [mb] v v1 l w W ∧ MsAt W mb cs
theorem wnums_st {base g mb : Nat} {v : Value} {l : List UInt8} {cs : Array Value} {a : Option Addr} {own : List Int} {w W : World} (h : StW base g mb v l cs a own w W) (hl : l.length ≤ 1000) (off c : Nat) (hsz : cs.size = 22) (ho : cs[off]? = some (.slice a own.length c)) (h64 : own.length ≤ 64) (hr : ∀ x ∈ own, 0 ≤ x ∧ x ≤ 2147483647) : Calls Tryz.prog 100 #[(.iface 145 (.pointer (some ⟨g, 0, none⟩))), .pointer (some ⟨mb, off, none⟩), .int .i64 64] W fun e w' => e = .returned (.tuple #[]) ∧ WrD base g mb v (l ++ varB own.length ++ numsB own) w w' := by
  obtain ⟨v1, hR, hM, hI, hb, ha⟩ := h
  refine (numsW_any hR.at_ hl hM hsz ho hI ha hb h64 hr).mono ?_
  rintro e w' ⟨rfl, v2, cs2, h2, h3⟩
  exact ⟨rfl, v2, cs2, hR.trans h2, h3⟩
set_option maxRecDepth 100000 in
set_option maxHeartbeats 4000000 in
theorem wtable_st {base g mb : Nat} {v : Value} {l : List UInt8} {a : Option Addr} {own : List Int} {w W : World} {c : Nat} (cs : Array Value) (ep nd : Nat) (h : StW base g mb v l cs a own w W) (hl : l.length ≤ 900) (hsz : cs.size = 22) (h17 : cs[17]? = some (.int .i64 ep)) (h18 : cs[18]? = some (.int .i64 nd)) (h19 : cs[19]? = some (.slice a own.length c)) (h64 : own.length ≤ 64) (hr : ∀ x ∈ own, 0 ≤ x ∧ x ≤ 2147483647) (he : ep ≤ 2147483647) (hn : nd ≤ 2147483647) : Calls Tryz.prog 99 #[(.iface 145 (.pointer (some ⟨g, 0, none⟩))), .pointer (some ⟨mb, 17, none⟩)] W fun e w' => e = .returned (.tuple #[]) ∧ WrD base g mb v (l ++ varB ep ++ varB nd ++ varB own.length ++ numsB own) w w' := by
  have HS := Lib.hid h
  have HR := Lib.hid hr
  have H17 := Lib.hid h17
  have H18 := Lib.hid h18
  have H19 := Lib.hid h19
  clear h hr h17 h18 h19
  have hl1 : (l ++ varB ep).length ≤ 910 := by have := varB_len ep (by omega); rw [List.length_append]; omega
  have hl2 : (l ++ varB ep ++ varB nd).length ≤ 920 := by have := varB_len nd (by omega); rw [List.length_append]; omega
  have hm_num : ∀ W, (method 327 145 (.pointer (some ⟨g, 0, none⟩)) "meter/msg.num").run Tryz.prog W = .ok (130, .pointer (some ⟨g, 0, none⟩)) W := fun _ => by kernel_rfl
  go_enter Tryz.func99, Tryz.ntmps99
  go_wp2_with (fail)
  refine wp_region_soup 7 [] (fun _ => none) (by kernel_rfl) (by kernel_rfl) (spOk_of (l := []) (by simp)) (pre_of (l := []) (by simp)) ?_
  simp only [List.take_succ_cons, List.take_zero, List.drop_succ_cons, List.drop_zero]
  iterate 4
    with_reducible refine soup_q ?_ ?_ ?_
    · rfl
    · rfl
    with_reducible apply Exists.intro
    with_reducible refine ⟨fun W hk _ => ?_, ?_⟩
    · unfold Oper.same
      go_simp
      first | rfl | exact ⟨rfl, rfl⟩
    with_reducible apply Exists.intro
    with_reducible refine ⟨?_, ?_⟩
    · go_simp
      rfl
  with_reducible refine soup_q ?_ ?_ ?_
  · rfl
  · rfl
  with_reducible apply Exists.intro
  with_reducible refine ⟨fun W hk _ => ?_, ?_⟩
  · have hmf : ∀ (fn : Fn) (first cap : Array Value) (w : World), (Instr.makeFunc fn first cap).run Tryz.prog w = .ok (.func fn first cap) w := fun _ _ _ _ => rfl
    unfold Oper.same
    go_simp
    first | rfl | exact ⟨rfl, rfl⟩
  with_reducible apply Exists.intro
  with_reducible refine ⟨?_, ?_⟩
  · go_simp
    rfl
  iterate 2
    with_reducible refine soup_q ?_ ?_ ?_
    · rfl
    · rfl
    with_reducible apply Exists.intro
    with_reducible refine ⟨fun W hk _ => ?_, ?_⟩
    · unfold Oper.same
      go_simp
      first | rfl | exact ⟨rfl, rfl⟩
    with_reducible apply Exists.intro
    with_reducible refine ⟨?_, ?_⟩
    · go_simp
      rfl
  refine soup_nil (fun W1 hk hS => ?_)
  have HS := Lib.hid (HS.out.keep hk)
  clear hk hS
  go_wp2_with (fail)
  refine (wnum_st HS.out (by omega) 17 ep H17.out he).mono ?_
  rintro e w1 ⟨rfl, hs⟩
  have HS := Lib.hid hs
  clear hs
  go_wp2_with (fail)
  refine wp_region_soup 7 [] (fun _ => none) (by kernel_rfl) (by kernel_rfl) (spOk_of (l := []) (by simp)) (pre_of (l := []) (by simp)) ?_
  simp only [List.take_succ_cons, List.take_zero, List.drop_succ_cons, List.drop_zero]
  iterate 4
    with_reducible refine soup_q ?_ ?_ ?_
    · rfl
    · rfl
    with_reducible apply Exists.intro
    with_reducible refine ⟨fun W hk _ => ?_, ?_⟩
    · unfold Oper.same
      go_simp
      first | rfl | exact ⟨rfl, rfl⟩
    with_reducible apply Exists.intro
    with_reducible refine ⟨?_, ?_⟩
    · go_simp
      rfl
  with_reducible refine soup_q ?_ ?_ ?_
  · rfl
  · rfl
  with_reducible apply Exists.intro
  with_reducible refine ⟨fun W hk _ => ?_, ?_⟩
  · have hmf : ∀ (fn : Fn) (first cap : Array Value) (w : World), (Instr.makeFunc fn first cap).run Tryz.prog w = .ok (.func fn first cap) w := fun _ _ _ _ => rfl
    unfold Oper.same
    go_simp
    first | rfl | exact ⟨rfl, rfl⟩
  with_reducible apply Exists.intro
  with_reducible refine ⟨?_, ?_⟩
  · go_simp
    rfl
  iterate 2
    with_reducible refine soup_q ?_ ?_ ?_
    · rfl
    · rfl
    with_reducible apply Exists.intro
    with_reducible refine ⟨fun W hk _ => ?_, ?_⟩
    · unfold Oper.same
      go_simp
      first | rfl | exact ⟨rfl, rfl⟩
    with_reducible apply Exists.intro
    with_reducible refine ⟨?_, ?_⟩
    · go_simp
      rfl
  refine soup_nil (fun W2 hk hS => ?_)
  have HS := Lib.hid (HS.out.keep hk)
  clear hk hS
  go_wp2_with (fail)
  refine (wnum_st HS.out (by omega) 18 nd H18.out hn).mono ?_
  rintro e w2 ⟨rfl, hs⟩
  have HS := Lib.hid hs
  clear hs
  go_wp2_with (fail)
  refine (wnums_st HS.out (by omega) 19 c hsz H19.out h64 HR.out).mono ?_
  rintro e w3 ⟨rfl, hs⟩
  have HS := Lib.hid hs
  clear hs
  go_wp2_with (fail)
  go_end0
  exact ⟨rfl, HS.out⟩
set_option maxRecDepth 100000 in
set_option maxHeartbeats 4000000 in
theorem wwalk4_st {base g mb : Nat} {v : Value} {l : List UInt8} {a : Option Addr} {own : List Int} {w W : World} {c : Nat} (mv pt to : Nat) (h : StW base g mb v l (msC 4 mv pt to 0 0 (.slice none 0 0)) a own w W) (hl : l.length ≤ 800) (h_mv : mv ≤ 2147483647) (h_pt : pt ≤ 2147483647) (h_to : to ≤ 2147483647) : Calls Tryz.prog 80 #[(.iface 145 (.pointer (some ⟨g, 0, none⟩))), .pointer (some ⟨mb, 0, none⟩)] W fun e w' => e = .returned (.tuple #[]) ∧ WrD base g mb v (l ++ [4] ++ varB mv ++ varB pt ++ varB to) w w' := by
  have HS := Lib.hid h
  clear h
  have hl0 : (l ++ [4]).length ≤ 810 := by rw [List.length_append]; simp; omega
  have hl1 : (l ++ [4] ++ varB mv).length ≤ 820 := by have := varB_len mv (by omega); rw [List.length_append]; omega
  have hl2 : (l ++ [4] ++ varB mv ++ varB pt).length ≤ 830 := by have := varB_len pt (by omega); rw [List.length_append]; omega
  have hm_num : ∀ W, (method 327 145 (.pointer (some ⟨g, 0, none⟩)) "meter/msg.num").run Tryz.prog W = .ok (130, .pointer (some ⟨g, 0, none⟩)) W := fun _ => by kernel_rfl
  have hm_byte : ∀ W, (method 327 145 (.pointer (some ⟨g, 0, none⟩)) "meter/msg.byte").run Tryz.prog W = .ok (127, .pointer (some ⟨g, 0, none⟩)) W := fun _ => by kernel_rfl
  go_enter Tryz.func80, Tryz.ntmps80
  go_wp2_with (fail)
  refine wp_region_soup 7 [] (fun _ => none) (by kernel_rfl) (by kernel_rfl) (spOk_of (l := []) (by simp)) (pre_of (l := []) (by simp)) ?_
  simp only [List.take_succ_cons, List.take_zero, List.drop_succ_cons, List.drop_zero]
  iterate 4
    with_reducible refine soup_q ?_ ?_ ?_
    · rfl
    · rfl
    with_reducible apply Exists.intro
    with_reducible refine ⟨fun W hk _ => ?_, ?_⟩
    · unfold Oper.same
      go_simp
      first | rfl | exact ⟨rfl, rfl⟩
    with_reducible apply Exists.intro
    with_reducible refine ⟨?_, ?_⟩
    · go_simp
      rfl
  with_reducible refine soup_q ?_ ?_ ?_
  · rfl
  · rfl
  with_reducible apply Exists.intro
  with_reducible refine ⟨fun W hk _ => ?_, ?_⟩
  · have hmf : ∀ (fn : Fn) (first cap : Array Value) (w : World), (Instr.makeFunc fn first cap).run Tryz.prog w = .ok (.func fn first cap) w := fun _ _ _ _ => rfl
    unfold Oper.same
    go_simp
    first | rfl | exact ⟨rfl, rfl⟩
  with_reducible apply Exists.intro
  with_reducible refine ⟨?_, ?_⟩
  · go_simp
    rfl
  iterate 2
    with_reducible refine soup_q ?_ ?_ ?_
    · rfl
    · rfl
    with_reducible apply Exists.intro
    with_reducible refine ⟨fun W hk _ => ?_, ?_⟩
    · unfold Oper.same
      go_simp
      first | rfl | exact ⟨rfl, rfl⟩
    with_reducible apply Exists.intro
    with_reducible refine ⟨?_, ?_⟩
    · go_simp
      rfl
  refine soup_nil (fun W1 hk hS => ?_)
  have HS := Lib.hid (HS.out.keep hk)
  clear hk hS
  go_wp2_with (fail)
  refine (wbyte_st HS.out (by omega) 0 4 rfl).mono ?_
  rintro e w1 ⟨rfl, hs⟩
  have HS := Lib.hid hs
  clear hs
  obtain ⟨_, _, hm0, _⟩ := HS.out
  have c0 : w1.cell? ⟨mb, 0, none⟩ = some (.int .u8 4) := hm0.cell 0
  clear hm0
  go_wp2_with (fail)
  refine wp_region_soup 7 [] (fun _ => none) (by kernel_rfl) (by kernel_rfl) (spOk_of (l := []) (by simp)) (pre_of (l := []) (by simp)) ?_
  simp only [List.take_succ_cons, List.take_zero, List.drop_succ_cons, List.drop_zero]
  iterate 4
    with_reducible refine soup_q ?_ ?_ ?_
    · rfl
    · rfl
    with_reducible apply Exists.intro
    with_reducible refine ⟨fun W hk _ => ?_, ?_⟩
    · unfold Oper.same
      go_simp
      first | rfl | exact ⟨rfl, rfl⟩
    with_reducible apply Exists.intro
    with_reducible refine ⟨?_, ?_⟩
    · go_simp
      rfl
  with_reducible refine soup_q ?_ ?_ ?_
  · rfl
  · rfl
  with_reducible apply Exists.intro
  with_reducible refine ⟨fun W hk _ => ?_, ?_⟩
  · have hmf : ∀ (fn : Fn) (first cap : Array Value) (w : World), (Instr.makeFunc fn first cap).run Tryz.prog w = .ok (.func fn first cap) w := fun _ _ _ _ => rfl
    unfold Oper.same
    go_simp
    first | rfl | exact ⟨rfl, rfl⟩
  with_reducible apply Exists.intro
  with_reducible refine ⟨?_, ?_⟩
  · go_simp
    rfl
  iterate 2
    with_reducible refine soup_q ?_ ?_ ?_
    · rfl
    · rfl
    with_reducible apply Exists.intro
    with_reducible refine ⟨fun W hk _ => ?_, ?_⟩
    · unfold Oper.same
      go_simp
      first | rfl | exact ⟨rfl, rfl⟩
    with_reducible apply Exists.intro
    with_reducible refine ⟨?_, ?_⟩
    · go_simp
      rfl
  refine soup_nil (fun W2 hk hS => ?_)
  have HS := Lib.hid (HS.out.keep hk)
  clear hk hS
  go_wp2_with (fail)
  refine (wnum_st HS.out (by omega) 1 mv rfl h_mv).mono ?_
  rintro e w2 ⟨rfl, hs⟩
  have HS := Lib.hid hs
  clear hs
  clear c0
  go_wp2_with (fail)
  refine wp_region_soup 7 [] (fun _ => none) (by kernel_rfl) (by kernel_rfl) (spOk_of (l := []) (by simp)) (pre_of (l := []) (by simp)) ?_
  simp only [List.take_succ_cons, List.take_zero, List.drop_succ_cons, List.drop_zero]
  iterate 4
    with_reducible refine soup_q ?_ ?_ ?_
    · rfl
    · rfl
    with_reducible apply Exists.intro
    with_reducible refine ⟨fun W hk _ => ?_, ?_⟩
    · unfold Oper.same
      go_simp
      first | rfl | exact ⟨rfl, rfl⟩
    with_reducible apply Exists.intro
    with_reducible refine ⟨?_, ?_⟩
    · go_simp
      rfl
  with_reducible refine soup_q ?_ ?_ ?_
  · rfl
  · rfl
  with_reducible apply Exists.intro
  with_reducible refine ⟨fun W hk _ => ?_, ?_⟩
  · have hmf : ∀ (fn : Fn) (first cap : Array Value) (w : World), (Instr.makeFunc fn first cap).run Tryz.prog w = .ok (.func fn first cap) w := fun _ _ _ _ => rfl
    unfold Oper.same
    go_simp
    first | rfl | exact ⟨rfl, rfl⟩
  with_reducible apply Exists.intro
  with_reducible refine ⟨?_, ?_⟩
  · go_simp
    rfl
  iterate 2
    with_reducible refine soup_q ?_ ?_ ?_
    · rfl
    · rfl
    with_reducible apply Exists.intro
    with_reducible refine ⟨fun W hk _ => ?_, ?_⟩
    · unfold Oper.same
      go_simp
      first | rfl | exact ⟨rfl, rfl⟩
    with_reducible apply Exists.intro
    with_reducible refine ⟨?_, ?_⟩
    · go_simp
      rfl
  refine soup_nil (fun W3 hk hS => ?_)
  have HS := Lib.hid (HS.out.keep hk)
  clear hk hS
  go_wp2_with (fail)
  refine (wnum_st HS.out (by omega) 2 pt rfl h_pt).mono ?_
  rintro e w3 ⟨rfl, hs⟩
  have HS := Lib.hid hs
  clear hs
  obtain ⟨_, _, hm0, _⟩ := HS.out
  have c0 : w3.cell? ⟨mb, 0, none⟩ = some (.int .u8 4) := hm0.cell 0
  clear hm0
  go_wp2_with (fail)
  refine wp_region_soup 7 [] (fun _ => none) (by kernel_rfl) (by kernel_rfl) (spOk_of (l := []) (by simp)) (pre_of (l := []) (by simp)) ?_
  simp only [List.take_succ_cons, List.take_zero, List.drop_succ_cons, List.drop_zero]
  iterate 4
    with_reducible refine soup_q ?_ ?_ ?_
    · rfl
    · rfl
    with_reducible apply Exists.intro
    with_reducible refine ⟨fun W hk _ => ?_, ?_⟩
    · unfold Oper.same
      go_simp
      first | rfl | exact ⟨rfl, rfl⟩
    with_reducible apply Exists.intro
    with_reducible refine ⟨?_, ?_⟩
    · go_simp
      rfl
  with_reducible refine soup_q ?_ ?_ ?_
  · rfl
  · rfl
  with_reducible apply Exists.intro
  with_reducible refine ⟨fun W hk _ => ?_, ?_⟩
  · have hmf : ∀ (fn : Fn) (first cap : Array Value) (w : World), (Instr.makeFunc fn first cap).run Tryz.prog w = .ok (.func fn first cap) w := fun _ _ _ _ => rfl
    unfold Oper.same
    go_simp
    first | rfl | exact ⟨rfl, rfl⟩
  with_reducible apply Exists.intro
  with_reducible refine ⟨?_, ?_⟩
  · go_simp
    rfl
  iterate 2
    with_reducible refine soup_q ?_ ?_ ?_
    · rfl
    · rfl
    with_reducible apply Exists.intro
    with_reducible refine ⟨fun W hk _ => ?_, ?_⟩
    · unfold Oper.same
      go_simp
      first | rfl | exact ⟨rfl, rfl⟩
    with_reducible apply Exists.intro
    with_reducible refine ⟨?_, ?_⟩
    · go_simp
      rfl
  refine soup_nil (fun W4 hk hS => ?_)
  have HS := Lib.hid (HS.out.keep hk)
  clear hk hS
  go_wp2_with (fail)
  refine (wnum_st HS.out (by omega) 3 to rfl h_to).mono ?_
  rintro e w4 ⟨rfl, hs⟩
  have HS := Lib.hid hs
  clear hs
  go_wp2_with (fail)
  go_end0
  obtain ⟨v1, h1, h2, _⟩ := HS.out
  exact ⟨rfl, v1, _, h1, h2⟩
set_option maxRecDepth 100000 in
set_option maxHeartbeats 4000000 in
theorem wwalk12_st {base g mb : Nat} {v : Value} {l : List UInt8} {a : Option Addr} {own : List Int} {w W : World} {c : Nat} (mv pt : Nat) (h : StW base g mb v l (msC 12 mv pt 0 0 0 (.slice none 0 0)) a own w W) (hl : l.length ≤ 800) (h_mv : mv ≤ 2147483647) (h_pt : pt ≤ 2147483647) : Calls Tryz.prog 80 #[(.iface 145 (.pointer (some ⟨g, 0, none⟩))), .pointer (some ⟨mb, 0, none⟩)] W fun e w' => e = .returned (.tuple #[]) ∧ WrD base g mb v (l ++ [12] ++ varB mv ++ varB pt) w w' := by
  have HS := Lib.hid h
  clear h
  have hl0 : (l ++ [12]).length ≤ 810 := by rw [List.length_append]; simp; omega
  have hl1 : (l ++ [12] ++ varB mv).length ≤ 820 := by have := varB_len mv (by omega); rw [List.length_append]; omega
  have hl2 : (l ++ [12] ++ varB mv ++ varB pt).length ≤ 830 := by have := varB_len pt (by omega); rw [List.length_append]; omega
  have hm_num : ∀ W, (method 327 145 (.pointer (some ⟨g, 0, none⟩)) "meter/msg.num").run Tryz.prog W = .ok (130, .pointer (some ⟨g, 0, none⟩)) W := fun _ => by kernel_rfl
  have hm_byte : ∀ W, (method 327 145 (.pointer (some ⟨g, 0, none⟩)) "meter/msg.byte").run Tryz.prog W = .ok (127, .pointer (some ⟨g, 0, none⟩)) W := fun _ => by kernel_rfl
  go_enter Tryz.func80, Tryz.ntmps80
  go_wp2_with (fail)
  refine wp_region_soup 7 [] (fun _ => none) (by kernel_rfl) (by kernel_rfl) (spOk_of (l := []) (by simp)) (pre_of (l := []) (by simp)) ?_
  simp only [List.take_succ_cons, List.take_zero, List.drop_succ_cons, List.drop_zero]
  iterate 4
    with_reducible refine soup_q ?_ ?_ ?_
    · rfl
    · rfl
    with_reducible apply Exists.intro
    with_reducible refine ⟨fun W hk _ => ?_, ?_⟩
    · unfold Oper.same
      go_simp
      first | rfl | exact ⟨rfl, rfl⟩
    with_reducible apply Exists.intro
    with_reducible refine ⟨?_, ?_⟩
    · go_simp
      rfl
  with_reducible refine soup_q ?_ ?_ ?_
  · rfl
  · rfl
  with_reducible apply Exists.intro
  with_reducible refine ⟨fun W hk _ => ?_, ?_⟩
  · have hmf : ∀ (fn : Fn) (first cap : Array Value) (w : World), (Instr.makeFunc fn first cap).run Tryz.prog w = .ok (.func fn first cap) w := fun _ _ _ _ => rfl
    unfold Oper.same
    go_simp
    first | rfl | exact ⟨rfl, rfl⟩
  with_reducible apply Exists.intro
  with_reducible refine ⟨?_, ?_⟩
  · go_simp
    rfl
  iterate 2
    with_reducible refine soup_q ?_ ?_ ?_
    · rfl
    · rfl
    with_reducible apply Exists.intro
    with_reducible refine ⟨fun W hk _ => ?_, ?_⟩
    · unfold Oper.same
      go_simp
      first | rfl | exact ⟨rfl, rfl⟩
    with_reducible apply Exists.intro
    with_reducible refine ⟨?_, ?_⟩
    · go_simp
      rfl
  refine soup_nil (fun W1 hk hS => ?_)
  have HS := Lib.hid (HS.out.keep hk)
  clear hk hS
  go_wp2_with (fail)
  refine (wbyte_st HS.out (by omega) 0 12 rfl).mono ?_
  rintro e w1 ⟨rfl, hs⟩
  have HS := Lib.hid hs
  clear hs
  obtain ⟨_, _, hm0, _⟩ := HS.out
  have c0 : w1.cell? ⟨mb, 0, none⟩ = some (.int .u8 12) := hm0.cell 0
  clear hm0
  go_wp2_with (fail)
  refine wp_region_soup 7 [] (fun _ => none) (by kernel_rfl) (by kernel_rfl) (spOk_of (l := []) (by simp)) (pre_of (l := []) (by simp)) ?_
  simp only [List.take_succ_cons, List.take_zero, List.drop_succ_cons, List.drop_zero]
  iterate 4
    with_reducible refine soup_q ?_ ?_ ?_
    · rfl
    · rfl
    with_reducible apply Exists.intro
    with_reducible refine ⟨fun W hk _ => ?_, ?_⟩
    · unfold Oper.same
      go_simp
      first | rfl | exact ⟨rfl, rfl⟩
    with_reducible apply Exists.intro
    with_reducible refine ⟨?_, ?_⟩
    · go_simp
      rfl
  with_reducible refine soup_q ?_ ?_ ?_
  · rfl
  · rfl
  with_reducible apply Exists.intro
  with_reducible refine ⟨fun W hk _ => ?_, ?_⟩
  · have hmf : ∀ (fn : Fn) (first cap : Array Value) (w : World), (Instr.makeFunc fn first cap).run Tryz.prog w = .ok (.func fn first cap) w := fun _ _ _ _ => rfl
    unfold Oper.same
    go_simp
    first | rfl | exact ⟨rfl, rfl⟩
  with_reducible apply Exists.intro
  with_reducible refine ⟨?_, ?_⟩
  · go_simp
    rfl
  iterate 2
    with_reducible refine soup_q ?_ ?_ ?_
    · rfl
    · rfl
    with_reducible apply Exists.intro
    with_reducible refine ⟨fun W hk _ => ?_, ?_⟩
    · unfold Oper.same
      go_simp
      first | rfl | exact ⟨rfl, rfl⟩
    with_reducible apply Exists.intro
    with_reducible refine ⟨?_, ?_⟩
    · go_simp
      rfl
  refine soup_nil (fun W2 hk hS => ?_)
  have HS := Lib.hid (HS.out.keep hk)
  clear hk hS
  go_wp2_with (fail)
  refine (wnum_st HS.out (by omega) 1 mv rfl h_mv).mono ?_
  rintro e w2 ⟨rfl, hs⟩
  have HS := Lib.hid hs
  clear hs
  clear c0
  go_wp2_with (fail)
  refine wp_region_soup 7 [] (fun _ => none) (by kernel_rfl) (by kernel_rfl) (spOk_of (l := []) (by simp)) (pre_of (l := []) (by simp)) ?_
  simp only [List.take_succ_cons, List.take_zero, List.drop_succ_cons, List.drop_zero]
  iterate 4
    with_reducible refine soup_q ?_ ?_ ?_
    · rfl
    · rfl
    with_reducible apply Exists.intro
    with_reducible refine ⟨fun W hk _ => ?_, ?_⟩
    · unfold Oper.same
      go_simp
      first | rfl | exact ⟨rfl, rfl⟩
    with_reducible apply Exists.intro
    with_reducible refine ⟨?_, ?_⟩
    · go_simp
      rfl
  with_reducible refine soup_q ?_ ?_ ?_
  · rfl
  · rfl
  with_reducible apply Exists.intro
  with_reducible refine ⟨fun W hk _ => ?_, ?_⟩
  · have hmf : ∀ (fn : Fn) (first cap : Array Value) (w : World), (Instr.makeFunc fn first cap).run Tryz.prog w = .ok (.func fn first cap) w := fun _ _ _ _ => rfl
    unfold Oper.same
    go_simp
    first | rfl | exact ⟨rfl, rfl⟩
  with_reducible apply Exists.intro
  with_reducible refine ⟨?_, ?_⟩
  · go_simp
    rfl
  iterate 2
    with_reducible refine soup_q ?_ ?_ ?_
    · rfl
    · rfl
    with_reducible apply Exists.intro
    with_reducible refine ⟨fun W hk _ => ?_, ?_⟩
    · unfold Oper.same
      go_simp
      first | rfl | exact ⟨rfl, rfl⟩
    with_reducible apply Exists.intro
    with_reducible refine ⟨?_, ?_⟩
    · go_simp
      rfl
  refine soup_nil (fun W3 hk hS => ?_)
  have HS := Lib.hid (HS.out.keep hk)
  clear hk hS
  go_wp2_with (fail)
  refine (wnum_st HS.out (by omega) 2 pt rfl h_pt).mono ?_
  rintro e w3 ⟨rfl, hs⟩
  have HS := Lib.hid hs
  clear hs
  obtain ⟨_, _, hm0, _⟩ := HS.out
  have c0 : w3.cell? ⟨mb, 0, none⟩ = some (.int .u8 12) := hm0.cell 0
  clear hm0
  go_wp2_with (fail)
  go_end0
  obtain ⟨v1, h1, h2, _⟩ := HS.out
  exact ⟨rfl, v1, _, h1, h2⟩
set_option maxRecDepth 100000 in
set_option maxHeartbeats 4000000 in
theorem wwalk11_st {base g mb : Nat} {v : Value} {l : List UInt8} {a : Option Addr} {own : List Int} {w W : World} {c : Nat} (mv pt ep nd : Nat) (h : StW base g mb v l (msC 11 mv pt 0 ep nd (.slice a own.length c)) a own w W) (hl : l.length ≤ 800) (h_mv : mv ≤ 2147483647) (h_pt : pt ≤ 2147483647) (h_ep : ep ≤ 2147483647) (h_nd : nd ≤ 2147483647) (h64 : own.length ≤ 64) (hr : ∀ x ∈ own, 0 ≤ x ∧ x ≤ 2147483647) : Calls Tryz.prog 80 #[(.iface 145 (.pointer (some ⟨g, 0, none⟩))), .pointer (some ⟨mb, 0, none⟩)] W fun e w' => e = .returned (.tuple #[]) ∧ WrD base g mb v (l ++ [11] ++ varB mv ++ varB pt ++ varB ep ++ varB nd ++ varB own.length ++ numsB own) w w' := by
  have HS := Lib.hid h
  clear h
  have HR := Lib.hid hr
  clear hr
  have hl0 : (l ++ [11]).length ≤ 810 := by rw [List.length_append]; simp; omega
  have hl1 : (l ++ [11] ++ varB mv).length ≤ 820 := by have := varB_len mv (by omega); rw [List.length_append]; omega
  have hl2 : (l ++ [11] ++ varB mv ++ varB pt).length ≤ 830 := by have := varB_len pt (by omega); rw [List.length_append]; omega
  have hm_num : ∀ W, (method 327 145 (.pointer (some ⟨g, 0, none⟩)) "meter/msg.num").run Tryz.prog W = .ok (130, .pointer (some ⟨g, 0, none⟩)) W := fun _ => by kernel_rfl
  have hm_byte : ∀ W, (method 327 145 (.pointer (some ⟨g, 0, none⟩)) "meter/msg.byte").run Tryz.prog W = .ok (127, .pointer (some ⟨g, 0, none⟩)) W := fun _ => by kernel_rfl
  go_enter Tryz.func80, Tryz.ntmps80
  go_wp2_with (fail)
  refine wp_region_soup 7 [] (fun _ => none) (by kernel_rfl) (by kernel_rfl) (spOk_of (l := []) (by simp)) (pre_of (l := []) (by simp)) ?_
  simp only [List.take_succ_cons, List.take_zero, List.drop_succ_cons, List.drop_zero]
  iterate 4
    with_reducible refine soup_q ?_ ?_ ?_
    · rfl
    · rfl
    with_reducible apply Exists.intro
    with_reducible refine ⟨fun W hk _ => ?_, ?_⟩
    · unfold Oper.same
      go_simp
      first | rfl | exact ⟨rfl, rfl⟩
    with_reducible apply Exists.intro
    with_reducible refine ⟨?_, ?_⟩
    · go_simp
      rfl
  with_reducible refine soup_q ?_ ?_ ?_
  · rfl
  · rfl
  with_reducible apply Exists.intro
  with_reducible refine ⟨fun W hk _ => ?_, ?_⟩
  · have hmf : ∀ (fn : Fn) (first cap : Array Value) (w : World), (Instr.makeFunc fn first cap).run Tryz.prog w = .ok (.func fn first cap) w := fun _ _ _ _ => rfl
    unfold Oper.same
    go_simp
    first | rfl | exact ⟨rfl, rfl⟩
  with_reducible apply Exists.intro
  with_reducible refine ⟨?_, ?_⟩
  · go_simp
    rfl
  iterate 2
    with_reducible refine soup_q ?_ ?_ ?_
    · rfl
    · rfl
    with_reducible apply Exists.intro
    with_reducible refine ⟨fun W hk _ => ?_, ?_⟩
    · unfold Oper.same
      go_simp
      first | rfl | exact ⟨rfl, rfl⟩
    with_reducible apply Exists.intro
    with_reducible refine ⟨?_, ?_⟩
    · go_simp
      rfl
  refine soup_nil (fun W1 hk hS => ?_)
  have HS := Lib.hid (HS.out.keep hk)
  clear hk hS
  go_wp2_with (fail)
  refine (wbyte_st HS.out (by omega) 0 11 rfl).mono ?_
  rintro e w1 ⟨rfl, hs⟩
  have HS := Lib.hid hs
  clear hs
  obtain ⟨_, _, hm0, _⟩ := HS.out
  have c0 : w1.cell? ⟨mb, 0, none⟩ = some (.int .u8 11) := hm0.cell 0
  clear hm0
  go_wp2_with (fail)
  refine wp_region_soup 7 [] (fun _ => none) (by kernel_rfl) (by kernel_rfl) (spOk_of (l := []) (by simp)) (pre_of (l := []) (by simp)) ?_
  simp only [List.take_succ_cons, List.take_zero, List.drop_succ_cons, List.drop_zero]
  iterate 4
    with_reducible refine soup_q ?_ ?_ ?_
    · rfl
    · rfl
    with_reducible apply Exists.intro
    with_reducible refine ⟨fun W hk _ => ?_, ?_⟩
    · unfold Oper.same
      go_simp
      first | rfl | exact ⟨rfl, rfl⟩
    with_reducible apply Exists.intro
    with_reducible refine ⟨?_, ?_⟩
    · go_simp
      rfl
  with_reducible refine soup_q ?_ ?_ ?_
  · rfl
  · rfl
  with_reducible apply Exists.intro
  with_reducible refine ⟨fun W hk _ => ?_, ?_⟩
  · have hmf : ∀ (fn : Fn) (first cap : Array Value) (w : World), (Instr.makeFunc fn first cap).run Tryz.prog w = .ok (.func fn first cap) w := fun _ _ _ _ => rfl
    unfold Oper.same
    go_simp
    first | rfl | exact ⟨rfl, rfl⟩
  with_reducible apply Exists.intro
  with_reducible refine ⟨?_, ?_⟩
  · go_simp
    rfl
  iterate 2
    with_reducible refine soup_q ?_ ?_ ?_
    · rfl
    · rfl
    with_reducible apply Exists.intro
    with_reducible refine ⟨fun W hk _ => ?_, ?_⟩
    · unfold Oper.same
      go_simp
      first | rfl | exact ⟨rfl, rfl⟩
    with_reducible apply Exists.intro
    with_reducible refine ⟨?_, ?_⟩
    · go_simp
      rfl
  refine soup_nil (fun W2 hk hS => ?_)
  have HS := Lib.hid (HS.out.keep hk)
  clear hk hS
  go_wp2_with (fail)
  refine (wnum_st HS.out (by omega) 1 mv rfl h_mv).mono ?_
  rintro e w2 ⟨rfl, hs⟩
  have HS := Lib.hid hs
  clear hs
  clear c0
  go_wp2_with (fail)
  refine wp_region_soup 7 [] (fun _ => none) (by kernel_rfl) (by kernel_rfl) (spOk_of (l := []) (by simp)) (pre_of (l := []) (by simp)) ?_
  simp only [List.take_succ_cons, List.take_zero, List.drop_succ_cons, List.drop_zero]
  iterate 4
    with_reducible refine soup_q ?_ ?_ ?_
    · rfl
    · rfl
    with_reducible apply Exists.intro
    with_reducible refine ⟨fun W hk _ => ?_, ?_⟩
    · unfold Oper.same
      go_simp
      first | rfl | exact ⟨rfl, rfl⟩
    with_reducible apply Exists.intro
    with_reducible refine ⟨?_, ?_⟩
    · go_simp
      rfl
  with_reducible refine soup_q ?_ ?_ ?_
  · rfl
  · rfl
  with_reducible apply Exists.intro
  with_reducible refine ⟨fun W hk _ => ?_, ?_⟩
  · have hmf : ∀ (fn : Fn) (first cap : Array Value) (w : World), (Instr.makeFunc fn first cap).run Tryz.prog w = .ok (.func fn first cap) w := fun _ _ _ _ => rfl
    unfold Oper.same
    go_simp
    first | rfl | exact ⟨rfl, rfl⟩
  with_reducible apply Exists.intro
  with_reducible refine ⟨?_, ?_⟩
  · go_simp
    rfl
  iterate 2
    with_reducible refine soup_q ?_ ?_ ?_
    · rfl
    · rfl
    with_reducible apply Exists.intro
    with_reducible refine ⟨fun W hk _ => ?_, ?_⟩
    · unfold Oper.same
      go_simp
      first | rfl | exact ⟨rfl, rfl⟩
    with_reducible apply Exists.intro
    with_reducible refine ⟨?_, ?_⟩
    · go_simp
      rfl
  refine soup_nil (fun W3 hk hS => ?_)
  have HS := Lib.hid (HS.out.keep hk)
  clear hk hS
  go_wp2_with (fail)
  refine (wnum_st HS.out (by omega) 2 pt rfl h_pt).mono ?_
  rintro e w3 ⟨rfl, hs⟩
  have HS := Lib.hid hs
  clear hs
  obtain ⟨_, _, hm0, _⟩ := HS.out
  have c0 : w3.cell? ⟨mb, 0, none⟩ = some (.int .u8 11) := hm0.cell 0
  clear hm0
  go_wp2_with (fail)
  refine (wtable_st _ ep nd HS.out (by omega) rfl rfl rfl rfl h64 HR.out h_ep h_nd).mono ?_
  rintro e w4 ⟨rfl, hs⟩
  have HS := Lib.hid hs
  clear hs
  go_wp2_with (fail)
  go_end0
  exact ⟨rfl, HS.out⟩
set_option maxRecDepth 100000 in
set_option maxHeartbeats 4000000 in
theorem wwalk14_st {base g mb : Nat} {v : Value} {l : List UInt8} {a : Option Addr} {own : List Int} {w W : World} {c : Nat} (ep nd : Nat) (h : StW base g mb v l (msC 14 0 0 0 ep nd (.slice a own.length c)) a own w W) (hl : l.length ≤ 800) (h_ep : ep ≤ 2147483647) (h_nd : nd ≤ 2147483647) (h64 : own.length ≤ 64) (hr : ∀ x ∈ own, 0 ≤ x ∧ x ≤ 2147483647) : Calls Tryz.prog 80 #[(.iface 145 (.pointer (some ⟨g, 0, none⟩))), .pointer (some ⟨mb, 0, none⟩)] W fun e w' => e = .returned (.tuple #[]) ∧ WrD base g mb v (l ++ [14] ++ varB ep ++ varB nd ++ varB own.length ++ numsB own) w w' := by
  have HS := Lib.hid h
  clear h
  have HR := Lib.hid hr
  clear hr
  have hl0 : (l ++ [14]).length ≤ 810 := by rw [List.length_append]; simp; omega
  have hm_num : ∀ W, (method 327 145 (.pointer (some ⟨g, 0, none⟩)) "meter/msg.num").run Tryz.prog W = .ok (130, .pointer (some ⟨g, 0, none⟩)) W := fun _ => by kernel_rfl
  have hm_byte : ∀ W, (method 327 145 (.pointer (some ⟨g, 0, none⟩)) "meter/msg.byte").run Tryz.prog W = .ok (127, .pointer (some ⟨g, 0, none⟩)) W := fun _ => by kernel_rfl
  go_enter Tryz.func80, Tryz.ntmps80
  go_wp2_with (fail)
  refine wp_region_soup 7 [] (fun _ => none) (by kernel_rfl) (by kernel_rfl) (spOk_of (l := []) (by simp)) (pre_of (l := []) (by simp)) ?_
  simp only [List.take_succ_cons, List.take_zero, List.drop_succ_cons, List.drop_zero]
  iterate 4
    with_reducible refine soup_q ?_ ?_ ?_
    · rfl
    · rfl
    with_reducible apply Exists.intro
    with_reducible refine ⟨fun W hk _ => ?_, ?_⟩
    · unfold Oper.same
      go_simp
      first | rfl | exact ⟨rfl, rfl⟩
    with_reducible apply Exists.intro
    with_reducible refine ⟨?_, ?_⟩
    · go_simp
      rfl
  with_reducible refine soup_q ?_ ?_ ?_
  · rfl
  · rfl
  with_reducible apply Exists.intro
  with_reducible refine ⟨fun W hk _ => ?_, ?_⟩
  · have hmf : ∀ (fn : Fn) (first cap : Array Value) (w : World), (Instr.makeFunc fn first cap).run Tryz.prog w = .ok (.func fn first cap) w := fun _ _ _ _ => rfl
    unfold Oper.same
    go_simp
    first | rfl | exact ⟨rfl, rfl⟩
  with_reducible apply Exists.intro
  with_reducible refine ⟨?_, ?_⟩
  · go_simp
    rfl
  iterate 2
    with_reducible refine soup_q ?_ ?_ ?_
    · rfl
    · rfl
    with_reducible apply Exists.intro
    with_reducible refine ⟨fun W hk _ => ?_, ?_⟩
    · unfold Oper.same
      go_simp
      first | rfl | exact ⟨rfl, rfl⟩
    with_reducible apply Exists.intro
    with_reducible refine ⟨?_, ?_⟩
    · go_simp
      rfl
  refine soup_nil (fun W1 hk hS => ?_)
  have HS := Lib.hid (HS.out.keep hk)
  clear hk hS
  go_wp2_with (fail)
  refine (wbyte_st HS.out (by omega) 0 14 rfl).mono ?_
  rintro e w1 ⟨rfl, hs⟩
  have HS := Lib.hid hs
  clear hs
  obtain ⟨_, _, hm0, _⟩ := HS.out
  have c0 : w1.cell? ⟨mb, 0, none⟩ = some (.int .u8 14) := hm0.cell 0
  clear hm0
  go_wp2_with (fail)
  refine (wtable_st _ ep nd HS.out (by omega) rfl rfl rfl rfl h64 HR.out h_ep h_nd).mono ?_
  rintro e w4 ⟨rfl, hs⟩
  have HS := Lib.hid hs
  clear hs
  go_wp2_with (fail)
  go_end0
  exact ⟨rfl, HS.out⟩
end Go.Proofs.YteejdfpfdnkiiaaGreat
