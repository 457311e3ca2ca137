/- Messages of the four kinds that a coordinator sends, as bytes and back. -/
import Derived.Test.YtdnfibecobodkaaGreatCsA
import Derived.Test.YtdnfibecobodkaaGreatCsC
import Derived.Test.YtdnfibecobodkaaGreatCrE
namespace Go.Proofs.YtdnfibecobodkaaGreat
open Go.RowKit Go.Lib
set_option linter.unusedSimpArgs false
set_option linter.unusedVariables false
/-- What a coordinator says. -/
structure Mg where
  k : Nat
  mv : Nat
  pt : Nat
  to : Nat
  ep : Nat
  nd : Nat
  own : List Int
def Mg.cells (m : Mg) (sl : Value) : Array Value := msC m.k m.mv m.pt m.to m.ep m.nd sl
structure Mg.Ok (m : Mg) : Prop where
  kind : (m.k = 4 ∧ m.ep = 0 ∧ m.nd = 0 ∧ m.own = []) ∨ (m.k = 12 ∧ m.to = 0 ∧ m.ep = 0 ∧ m.nd = 0 ∧ m.own = []) ∨ (m.k = 11 ∧ m.to = 0) ∨ (m.k = 14 ∧ m.mv = 0 ∧ m.pt = 0 ∧ m.to = 0)
  mv : m.mv ≤ 2147483647
  pt : m.pt ≤ 2147483647
  to : m.to ≤ 2147483647
  ep : m.ep ≤ 2147483647
  nd : m.nd ≤ 2147483647
  len : m.own.length ≤ 64
  own : ∀ x ∈ m.own, 0 ≤ x ∧ x ≤ 2147483647
def Mg.enc (m : Mg) : List UInt8 :=
  [UInt8.ofNat m.k] ++ ((if m.k = 14 then [] else varB m.mv ++ varB m.pt) ++ (if m.k = 4 then varB m.to else if m.k = 12 then [] else varB m.ep ++ (varB m.nd ++ (varB m.own.length ++ numsB m.own))))
theorem Mg.enc_ne (m : Mg) : m.enc ≠ [] := by unfold Mg.enc; simp
theorem Mg.enc_len {m : Mg} (h : m.Ok) : m.enc.length ≤ 1000 := by
  have h1 := varB_len m.mv (by have := h.mv; omega)
  have h2 := varB_len m.pt (by have := h.pt; omega)
  have h3 := varB_len m.to (by have := h.to; omega)
  have h4 := varB_len m.ep (by have := h.ep; omega)
  have h5 := varB_len m.nd (by have := h.nd; omega)
  have h6 := varB_len m.own.length (by have := h.len; omega)
  have h7 := numsB_len m.own h.own
  have h8 := h.len
  unfold Mg.enc
  simp only [List.length_append, List.length_cons, List.length_nil]
  split <;> split <;> (try split) <;> simp only [List.length_append, List.length_nil] <;> omega
theorem wwalk_any {base g mb : Nat} {v : Value} {a : Option Addr} {w W : World} {c : Nat} {m : Mg} (ho : m.Ok) (hc : m.k = 4 ∨ m.k = 12 → a = none ∧ c = 0) (h : StW base g mb v [] (m.cells (.slice a m.own.length c)) a m.own w W) : Calls Tryz.prog 60 #[(.iface 165 (.pointer (some ⟨g, 0, none⟩))), .pointer (some ⟨mb, 0, none⟩)] W fun e w' => e = .returned (.tuple #[]) ∧ WrD base g mb v m.enc w w' := by
  obtain ⟨k, mv, pt, to, ep, nd, own⟩ := m
  have e1 : ∀ {P Q : List UInt8}, P = Q → ∀ {w w' : World}, WrD base g mb v P w w' → WrD base g mb v Q w w' := by rintro P Q rfl w w' h; exact h
  rcases ho.kind with ⟨h1, h2, h3, h4⟩ | ⟨h1, h2, h3, h4, h5⟩ | ⟨h1, h2⟩ | ⟨h1, h2, h3, h4⟩
  · simp only at h1 h2 h3 h4
    subst h1 h2 h3 h4
    obtain ⟨rfl, rfl⟩ := hc (.inl rfl)
    refine (wwalk4_st (c := 0) mv pt to h (by simp) ho.mv ho.pt ho.to).mono ?_
    rintro e w' ⟨rfl, h2⟩
    exact ⟨rfl, e1 (by simp [Mg.enc]) h2⟩
  · simp only at h1 h2 h3 h4 h5
    subst h1 h2 h3 h4 h5
    obtain ⟨rfl, rfl⟩ := hc (.inr rfl)
    refine (wwalk12_st (c := 0) mv pt h (by simp) ho.mv ho.pt).mono ?_
    rintro e w' ⟨rfl, h2⟩
    exact ⟨rfl, e1 (by simp [Mg.enc]) h2⟩
  · simp only at h1 h2
    subst h1 h2
    refine (wwalk11_st mv pt ep nd h (by simp) ho.mv ho.pt ho.ep ho.nd ho.len ho.own).mono ?_
    rintro e w' ⟨rfl, h2⟩
    exact ⟨rfl, e1 (by simp [Mg.enc]) h2⟩
  · simp only at h1 h2 h3 h4
    subst h1 h2 h3 h4
    refine (wwalk14_st ep nd h (by simp) ho.ep ho.nd ho.len ho.own).mono ?_
    rintro e w' ⟨rfl, h2⟩
    exact ⟨rfl, e1 (by simp [Mg.enc]) h2⟩
theorem rwalk_any {r x mb : Nat} {s : ByteArray} {w W : World} {m : Mg} (ho : m.Ok) (h : StR r x mb s 0 (msC 0 0 0 0 0 0 (.slice none 0 0)) w W) (hs : s.data.toList = m.enc) : Calls Tryz.prog 60 #[(.iface 110 (.pointer (some ⟨r, 0, none⟩))), .pointer (some ⟨mb, 0, none⟩)] W fun e w' => e = .returned (.tuple #[]) ∧ ∃ vp, StR r x mb s s.size (m.cells vp) w w' ∧ IRow w.heap.size w' vp m.own := by
  have hsz : s.size = m.enc.length := by rw [← str_size, hs]
  have hz : s.size ≤ 100000 := by rw [hsz]; have := Mg.enc_len ho; omega
  have hd : s.data.toList.drop 0 = m.enc ++ [] := by simp [hs]
  obtain ⟨k, mv, pt, to, ep, nd, own⟩ := m
  have e1 : ∀ {p q : Nat}, p = q → ∀ {cs : Array Value} {w w' : World}, StR r x mb s p cs w w' → StR r x mb s q cs w w' := by rintro p q rfl cs w w' h; exact h
  rcases ho.kind with ⟨h1, h2, h3, h4⟩ | ⟨h1, h2, h3, h4, h5⟩ | ⟨h1, h2⟩ | ⟨h1, h2, h3, h4⟩
  · simp only at h1 h2 h3 h4
    subst h1 h2 h3 h4
    refine (rwalk4_st mv pt to h [] (by rw [hd]; simp [Mg.enc]) hz ho.mv ho.pt ho.to).mono ?_
    rintro e w' ⟨rfl, h2⟩
    exact ⟨rfl, _, e1 (by rw [hsz]; simp [Mg.enc]; omega) h2, World.ownsRow_nil _ _ _ _⟩
  · simp only at h1 h2 h3 h4 h5
    subst h1 h2 h3 h4 h5
    refine (rwalk12_st mv pt h [] (by rw [hd]; simp [Mg.enc]) hz ho.mv ho.pt).mono ?_
    rintro e w' ⟨rfl, h2⟩
    exact ⟨rfl, _, e1 (by rw [hsz]; simp [Mg.enc]; omega) h2, World.ownsRow_nil _ _ _ _⟩
  · simp only at h1 h2
    subst h1 h2
    refine (rwalk11_st mv pt ep nd h [] (by rw [hd]; simp [Mg.enc]) hz ho.mv ho.pt ho.ep ho.nd ho.len ho.own).mono ?_
    rintro e w' ⟨rfl, vp, h2, h3⟩
    exact ⟨rfl, vp, e1 (by rw [hsz]; simp [Mg.enc]; omega) h2, h3⟩
  · simp only at h1 h2 h3 h4
    subst h1 h2 h3 h4
    refine (rwalk14_st ep nd h [] (by rw [hd]; simp [Mg.enc]) hz ho.ep ho.nd ho.len ho.own).mono ?_
    rintro e w' ⟨rfl, vp, h2, h3⟩
    exact ⟨rfl, vp, e1 (by rw [hsz]; simp [Mg.enc]; omega) h2, h3⟩
theorem bytes1_any {base g mb : Nat} {v : Value} {a : Option Addr} {w W : World} {c : Nat} {m : Mg} (ho : m.Ok) (hc : m.k = 4 ∨ m.k = 12 → a = none ∧ c = 0) (h : StW base g mb v [] (m.cells (.slice a m.own.length c)) a m.own w W) : Calls Tryz.prog 86 #[.pointer (some ⟨g, 0, none⟩), .pointer (some ⟨mb, 0, none⟩)] W fun e w' => e = .returned (.tuple #[]) ∧ WrD base g mb v m.enc w w' := by
  have HC := Lib.hid (wwalk_any ho hc h)
  clear h
  go_enter Tryz.func86, Tryz.ntmps86
  go_wp2_with (fail)
  refine HC.out.mono ?_
  rintro e w1 ⟨rfl, h1⟩
  have H1 := Lib.hid h1
  clear h1
  go_wp2_with (fail)
  go_end0
  exact ⟨rfl, H1.out⟩
theorem read1_any {rc r x mb : Nat} {s : ByteArray} {w W : World} {m : Mg} (ho : m.Ok) (hr : OneAt W rc (.pointer (some ⟨r, 0, none⟩)) 110) (h : StR r x mb s 0 (msC 0 0 0 0 0 0 (.slice none 0 0)) w W) (hs : s.data.toList = m.enc) : Calls Tryz.prog 59 #[.pointer (some ⟨rc, 0, none⟩), .pointer (some ⟨mb, 0, none⟩)] W fun e w' => e = .returned (.tuple #[]) ∧ ∃ vp, StR r x mb s s.size (m.cells vp) w w' ∧ IRow w.heap.size w' vp m.own := by
  have HC := Lib.hid (rwalk_any ho h hs)
  have c0 := hr.facts.1
  clear h hs
  go_enter Tryz.func59, Tryz.ntmps59
  go_wp2_with (fail)
  refine HC.out.mono ?_
  rintro e w1 ⟨rfl, h1⟩
  have H1 := Lib.hid h1
  clear h1
  go_wp2_with (fail)
  go_end0
  exact ⟨rfl, H1.out⟩
end Go.Proofs.YtdnfibecobodkaaGreat
