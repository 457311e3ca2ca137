/- A region that draws its order: operations that read, calls that make memory, new objects, in whatever order; then a tail in its row. -/
import Derived.Test.YteejdfpfdnkiiaaGreatPa
import Derived.StillTail
namespace Go.Proofs.YteejdfpfdnkiiaaGreat
open Go.RowKit
set_option linter.unusedSimpArgs false
set_option linter.unusedVariables false
section
variable {P : Program} {ops : Array Oper}
/-- Operation i waits for j, through others too. -/
def depB (ops : Array Oper) : Nat → Nat → Nat → Bool
  | 0, _, _ => false
  | f + 1, i, j => (List.range i).any fun k => Region.waitsFor .any ops i k && (k == j || depB ops f k j)
def Dep (ops : Array Oper) (i j : Nat) : Prop := ∃ f, depB ops f i j = true
theorem Dep.of {i j : Nat} (f : Nat) (h : depB ops f i j = true) : Dep ops i j := ⟨f, h⟩
theorem depB_cases {f i j : Nat} (h : depB ops f i j = true) : ∃ k f', k < i ∧ Region.waitsFor .any ops i k = true ∧ (k = j ∨ depB ops f' k j = true) := by
  cases f with
  | zero => cases h
  | succ f =>
    obtain ⟨k, hk, hk2⟩ := List.any_eq_true.1 h
    simp only [Bool.and_eq_true, Bool.or_eq_true, beq_iff_eq] at hk2
    exact ⟨k, f, List.mem_range.1 hk, hk2.1, hk2.2⟩
theorem Dep.lt {i j : Nat} (h : Dep ops i j) : j < i := by
  obtain ⟨f, h⟩ := h
  induction f generalizing i with
  | zero => cases h
  | succ f ih =>
    obtain ⟨k, hk, hk2⟩ := List.any_eq_true.1 h
    simp only [Bool.and_eq_true, Bool.or_eq_true, beq_iff_eq] at hk2
    have := List.mem_range.1 hk
    rcases hk2.2 with e | e
    · omega
    · have := ih e; omega
theorem Dep.trans {i k j : Nat} (h : Dep ops i k) (h2 : Dep ops k j) : Dep ops i j := by
  obtain ⟨f, h⟩ := h
  obtain ⟨g, h2⟩ := h2
  induction f generalizing i with
  | zero => cases h
  | succ f ih =>
    obtain ⟨m, hm, hm2⟩ := List.any_eq_true.1 h
    simp only [Bool.and_eq_true, Bool.or_eq_true, beq_iff_eq] at hm2
    rcases hm2.2 with e | e
    · subst e
      exact ⟨g + 1, List.any_eq_true.2 ⟨m, hm, by simp [hm2.1, h2]⟩⟩
    · obtain ⟨q, hq⟩ := ih e
      exact ⟨q + 1, List.any_eq_true.2 ⟨m, hm, by simp [hm2.1, hq]⟩⟩
theorem Dep.listed {listed : Array Bool} (hc : ∀ j oj, ops[j]? = some oj → listed.getD j false = true → ∀ e ∈ oj.after, Region.binds .any e = true → listed.getD e.on false = true)
    {i j : Nat} (h : Dep ops i j) (hi : listed.getD i false = true) : listed.getD j false = true := by
  obtain ⟨f, h⟩ := h
  induction f generalizing i with
  | zero => cases h
  | succ f ih =>
    obtain ⟨k, hk, hk2⟩ := List.any_eq_true.1 h
    simp only [Bool.and_eq_true, Bool.or_eq_true, beq_iff_eq] at hk2
    obtain ⟨oi, hoi, e, he, hb, hon⟩ := Region.waitsFor_spec hk2.1
    have hl := hc i oi hoi hi e he hb
    rw [hon] at hl
    rcases hk2.2 with e2 | e2
    · rw [← e2]; exact hl
    · exact ih hl e2
/-- What is known of an operation whose answer is not one and the same in all worlds. -/
structure Spec where
  p : List Value → Value → Prop
  A : List Value → Value → World → Prop
  B : World → Prop := fun _ => True
  G : List Value → World → World → Prop := fun _ => Keep []
def argsOf (o : Oper) (a : Act) : List Value := o.op.operands.toList.map a.eval
/-- What the special operations owe one another. -/
structure SpOk (sp : Nat → Option Spec) : Prop where
  A : ∀ i j s t, sp i = some s → sp j = some t → i ≠ j → ∀ x y v w w', t.A y v w → s.G x w w' → t.A y v w'
  B : ∀ i j s t, sp i = some s → sp j = some t → i ≠ j → ∀ x w w', t.B w → s.G x w w' → t.B w'
  some : ∀ i s x, sp i = some s → ∃ v, s.p x v
/-- The same answer, the world as it was. -/
def Oper.same (P : Program) (o : Oper) (a : Act) (W : World) (v : Value) : Prop :=
  match (execOp a.eval o).run P W with
  | .ok (.value u) w' => w' = W ∧ u = v
  | .ok .skip w' => w' = W ∧ v = undef
  | _ => False
theorem Oper.same_unique {o : Oper} {a : Act} {W : World} {v u : Value} (h : Oper.same P o a W v) (k : Oper.same P o a W u) : v = u := by
  unfold Oper.same at *
  generalize (execOp a.eval o).run P W = r at *
  cases r with
  | ok n w' =>
    cases n <;> simp only at h k
    · exact h.2.symm.trans k.2
    · exact h.2.trans k.2.symm
  | halt x w' => exact h.elim
def Oper.does (P : Program) (o : Oper) (a : Act) (W : World) (post : Value → World → Prop) : Prop :=
  match (execOp a.eval o).run P W with
  | .ok (.value u) w' => post u w'
  | .ok .skip w' => post undef w'
  | .ok (.enter f args) w' => Calls P f args w' fun e w'' => ∃ v, e = .returned v ∧ post v w''
  | _ => False
def upS (S : Nat → World → Prop) (i : Nat) (A : World → Prop) : Nat → World → Prop := fun j => if j = i then A else S j
/-- The walk in the row of the text. sp: which operations answer otherwise from world to world. -/
def wpSoup (P : Program) (ops : Array Oper) (C : World → Prop) (sp : Nat → Option Spec) (Q : Act → (Nat → World → Prop) → Prop) : List Oper → Nat → Act → (Nat → World → Prop) → Prop
  | [], _, a, S => Q a S
  | o :: rest, i, a, S =>
    if Region.wanted o (yielded ops a.tmps) then
      match sp i with
      | none => ∃ v, (∀ W, C W → (∀ j, Dep ops i j → S j W) → Oper.same P o a W v) ∧ wpSoup P ops C sp Q rest (i + 1) (a.put o.dst v) S
      | some s => (∀ W, C W → s.B W → (∀ j, Dep ops i j → S j W) → Oper.does P o a W fun v W' => s.G (argsOf o a) W W' ∧ C W' ∧ s.p (argsOf o a) v ∧ s.A (argsOf o a) v W') ∧
          ∀ v, s.p (argsOf o a) v → wpSoup P ops C sp Q rest (i + 1) (a.put o.dst v) (upS S i (s.A (argsOf o a) v))
    else wpSoup P ops C sp Q rest (i + 1) (a.put o.dst undef) S
def dstOf (ops : Array Oper) (i : Nat) : Option Tmp := (ops[i]?).bind (·.dst)
/-- What the special operation j has left. -/
def Sr (ops : Array Oper) (sp : Nat → Option Spec) (vr : Nat → Value) (a : Act) (j : Nat) (W : World) : Prop :=
  ∀ o s, ops[j]? = some o → sp j = some s → Region.wanted o (yielded ops a.tmps) = true → s.A (argsOf o a) (vr j) W
/-- What is known of operation k once it has been carried out. -/
def Done (P : Program) (ops : Array Oper) (C : World → Prop) (sp : Nat → Option Spec) (vr : Nat → Value) (a : Act) (k : Nat) : Prop :=
  ∀ o, ops[k]? = some o → (∀ d, o.dst = some d → a.tmps[d]? = if d < a.tmps.size then some (vr k) else none) ∧
    if Region.wanted o (yielded ops a.tmps) then
      match sp k with
      | none => ∀ W, C W → (∀ j, Dep ops k j → Sr ops sp vr a j W) → Oper.same P o a W (vr k)
      | some s => s.p (argsOf o a) (vr k)
    else vr k = undef
theorem put_get (a : Act) (dst : Option Tmp) (v : Value) (t : Nat) : (a.put dst v).tmps[t]? = if dst = some t ∧ t < a.tmps.size then some v else a.tmps[t]? := by
  cases dst with
  | none => simp [Act.put]
  | some d =>
    simp only [Act.put, Option.some.injEq]
    by_cases hd : d = t
    · subst hd
      by_cases hs : d < a.tmps.size
      · simp [hs]
      · simp [hs]
    · rw [Array.getElem?_setIfInBounds_ne hd]; simp [hd]
theorem put_size (a : Act) (dst : Option Tmp) (v : Value) : (a.put dst v).tmps.size = a.tmps.size := by cases dst <;> simp [Act.put]
theorem put_defers' (a : Act) (dst : Option Tmp) (v : Value) : (a.put dst v).defers = a.defers := by cases dst <;> rfl
theorem exec_agree (o : Oper) (hs : ∀ cs b, o.op ≠ .select cs b) {a b : Act} (h : ∀ t ∈ o.looksAt ops, a.tmps[t]? = b.tmps[t]?) : execOp a.eval o = execOp b.eval o :=
  execOp_congr o hs fun x hx => by
    cases x with
    | tmp t =>
      have := h t (List.mem_append_left _ (List.mem_filterMap.2 ⟨.tmp t, by simpa using hx, rfl⟩))
      simp only [Act.eval, Array.getD_eq_getD_getElem?, this]
    | _ => rfl
theorem args_agree (o : Oper) {a b : Act} (h : ∀ t ∈ o.looksAt ops, a.tmps[t]? = b.tmps[t]?) : argsOf o a = argsOf o b := by
  unfold argsOf
  refine List.map_congr_left fun x hx => ?_
  cases x with
  | tmp t =>
    have := h t (List.mem_append_left _ (List.mem_filterMap.2 ⟨.tmp t, hx, rfl⟩))
    simp only [Act.eval, Array.getD_eq_getD_getElem?, this]
  | _ => rfl
theorem wanted_agree (o : Oper) {a b : Act} (h : ∀ t ∈ o.looksAt ops, a.tmps[t]? = b.tmps[t]?) : Region.wanted o (yielded ops a.tmps) = Region.wanted o (yielded ops b.tmps) := by
  unfold Region.wanted
  cases hg : o.guard with
  | none => rfl
  | some gw =>
    obtain ⟨g, want⟩ := gw
    have hy : yielded ops a.tmps g = yielded ops b.tmps g := by
      unfold yielded
      cases ht : (ops[g]?).bind (·.dst) with
      | none => rfl
      | some t =>
        have := h t (List.mem_append_right _ (by simp [hg, ht]))
        simp only [Option.bind_some]
        rw [this]
    simp only [hy]
/-- What the region must be: decided by the kernel. -/
def soupB (ops : Array Oper) (n : Nat) : Bool :=
  Region.noSelect ops && decide (n ≤ ops.size) &&
  (List.range n).all (fun i => (List.range n).all fun j => match ops[i]?, ops[j]? with
    | some oi, some oj => (match oj.dst with | some d => (!(oi.looksAt ops).contains d || depB ops 3 i j) && (j == i || oi.dst != some d) | none => true)
    | _, _ => true) &&
  (ops.toList.zipIdx.all fun (o, i) => o.after.all fun e => !Region.binds .any e || decide (e.on < i)) &&
  (decide (n = ops.size) || (Region.sinkB .any ops n && Region.chainB .any ops n)) && Region.seqB .any ops (ops.size - n) n (Array.replicate n true ++ Array.replicate (ops.size - n) false)
structure SoupOk (ops : Array Oper) (n : Nat) : Prop where
  sel : ∀ (j : Nat) (o : Oper) (cs : Array SelectCase) (b : Bool), ops[j]? = some o → o.op ≠ .select cs b
  le : n ≤ ops.size
  looks : ∀ i j oi oj d, i < n → j < n → ops[i]? = some oi → ops[j]? = some oj → oj.dst = some d → d ∈ oi.looksAt ops → Dep ops i j
  apart : ∀ i j oi oj d, i < n → j < n → i ≠ j → ops[i]? = some oi → ops[j]? = some oj → oj.dst = some d → oi.dst ≠ some d
  back : ∀ i o, ops[i]? = some o → ∀ e ∈ o.after, Region.binds .any e = true → e.on < i
  sink : n = ops.size ∨ (Region.sinkB .any ops n = true ∧ Region.chainB .any ops n = true)
  seq : Region.seqB .any ops (ops.size - n) n (Array.replicate n true ++ Array.replicate (ops.size - n) false) = true
theorem soupOk {n : Nat} (h : soupB ops n = true) : SoupOk ops n := by
  unfold soupB at h
  simp only [Bool.and_eq_true, decide_eq_true_eq, Bool.or_eq_true] at h
  obtain ⟨⟨⟨⟨⟨h1, h2⟩, h3⟩, h4⟩, h5⟩, h6⟩ := h
  refine ⟨Region.noSelect_spec h1, h2, ?_, ?_, ?_, h5, h6⟩
  · intro i j oi oj d hi hj hoi hoj hd hl
    have := List.all_eq_true.1 (List.all_eq_true.1 h3 i (List.mem_range.2 hi)) j (List.mem_range.2 hj)
    simp only [hoi, hoj, hd, Bool.and_eq_true, Bool.or_eq_true] at this
    rcases this.1 with h | h
    · simp at h; exact absurd hl h
    · exact ⟨3, h⟩
  · intro i j oi oj d hi hj hne hoi hoj hd
    have := List.all_eq_true.1 (List.all_eq_true.1 h3 i (List.mem_range.2 hi)) j (List.mem_range.2 hj)
    simp only [hoi, hoj, hd, Bool.and_eq_true, Bool.or_eq_true, beq_iff_eq, bne_iff_ne] at this
    rcases this.2 with h | h
    · exact absurd h.symm hne
    · exact h
  · intro i o ho e he hb
    have hm : (o, i) ∈ ops.toList.zipIdx := by
      rw [List.mem_iff_getElem?]
      exact ⟨i, by simp [ho]⟩
    have := List.all_eq_true.1 h4 (o, i) hm
    have h2 := Array.all_eq_true_iff_forall_mem.1 this e he
    simpa [hb] using h2
variable {C : World → Prop} {sp : Nat → Option Spec} {vr : Nat → Value} {a0 a : Act} {n : Nat} {listed : Array Bool} {w : World} {Q : Act → (Nat → World → Prop) → Prop}
structure Inv (P : Program) (ops : Array Oper) (C : World → Prop) (sp : Nat → Option Spec) (a0 : Act) (n : Nat) (vr : Nat → Value) (listed : Array Bool) (a : Act) (w : World) : Prop where
  head : HeadInv .any ops n listed
  keep : C w
  size : a.tmps.size = a0.tmps.size
  defers : a.defers = a0.defers
  rest : ∀ t, (∀ j, j < n → listed.getD j false = true → dstOf ops j ≠ some t) → a.tmps[t]? = a0.tmps[t]?
  done : ∀ k, k < n → listed.getD k false = true → Done P ops C sp vr a k ∧ Sr ops sp vr a k w
  pre : ∀ k, k < n → listed.getD k false = false → ∀ s, sp k = some s → s.B w
structure Agree (ops : Array Oper) (sp : Nat → Option Spec) (a0 : Act) (vr : Nat → Value) (a : Act) (D : Nat → Prop) (k : Nat) (b : Act) (S : Nat → World → Prop) : Prop where
  size : b.tmps.size = a0.tmps.size
  defers : b.defers = a0.defers
  slot : ∀ j, j < k → D j → ∀ d, dstOf ops j = some d → b.tmps[d]? = a.tmps[d]?
  rest : ∀ t, (∀ j, j < k → dstOf ops j ≠ some t) → b.tmps[t]? = a0.tmps[t]?
  fact : ∀ j, j < k → D j → ∀ W, Sr ops sp vr a j W → S j W
  free : ∀ j, k ≤ j → ∀ W, S j W
theorem looks_agree (ok : SoupOk ops n) (inv : Inv P ops C sp a0 n vr listed a w) {D : Nat → Prop} {k : Nat} {b : Act} {S : Nat → World → Prop} (ag : Agree ops sp a0 vr a D k b S)
    {o : Oper} (ho : ops[k]? = some o) (hk : k < n) (hD : ∀ j, Dep ops k j → D j) : ∀ t ∈ o.looksAt ops, b.tmps[t]? = a.tmps[t]? := by
  intro t ht
  by_cases he : ∃ j, j < n ∧ dstOf ops j = some t
  · obtain ⟨j, hj, hd⟩ := he
    obtain ⟨oj, hoj, hd2⟩ := Option.bind_eq_some_iff.1 hd
    have hdep := ok.looks k j o oj t hk hj ho hoj hd2 ht
    exact ag.slot j hdep.lt (hD j hdep) t hd
  · have hne : ∀ j, j < n → dstOf ops j ≠ some t := fun j hj hd => he ⟨j, hj, hd⟩
    rw [ag.rest t (fun j hj => hne j (by omega)), inv.rest t (fun j hj _ => hne j hj)]
theorem dst_apart (ok : SoupOk ops n) {i j : Nat} {d e : Tmp} (hi : i < n) (hj : j < n) (hne : i ≠ j) (h1 : dstOf ops i = some d) (h2 : dstOf ops j = some e) : d ≠ e := by
  obtain ⟨oi, hoi, hd⟩ := Option.bind_eq_some_iff.1 h1
  obtain ⟨oj, hoj, he⟩ := Option.bind_eq_some_iff.1 h2
  intro hh
  subst hh
  exact ok.apart i j oi oj d hi hj hne hoi hoj he hd
theorem agree_put (ok : SoupOk ops n) {D : Nat → Prop} {k : Nat} {b : Act} {S S' : Nat → World → Prop} (ag : Agree ops sp a0 vr a D k b S) (hs : a.tmps.size = a0.tmps.size) {o : Oper} (ho : ops[k]? = some o) (hk : k < n) (v : Value)
    (hv : D k → ∀ d, o.dst = some d → a.tmps[d]? = if d < a.tmps.size then some v else none)
    (hS : (∀ j, j ≠ k → S' j = S j)) (hSk : D k → ∀ W, Sr ops sp vr a k W → S' k W) : Agree ops sp a0 vr a D (k + 1) (b.put o.dst v) S' := by
  have hdk : dstOf ops k = o.dst := by simp [dstOf, ho]
  refine ⟨by rw [put_size, ag.size], by rw [put_defers', ag.defers], ?_, ?_, ?_, ?_⟩
  · intro j hj hDj d hd
    rw [put_get]
    by_cases hjk : j = k
    · subst hjk
      rw [hdk] at hd
      rw [hv hDj d hd, ag.size, hs]
      by_cases hlt : d < a0.tmps.size
      · simp [hd, hlt]
      · rw [if_neg (by simp [hlt]), if_neg hlt, Array.getElem?_eq_none (by rw [ag.size]; exact Nat.le_of_not_lt hlt)]
    · rw [if_neg ?_]
      · exact ag.slot j (by omega) hDj d hd
      · rintro ⟨h1, _⟩
        exact dst_apart ok (by omega) hk hjk hd (hdk.trans h1) rfl
  · intro t ht
    rw [put_get, if_neg ?_]
    · exact ag.rest t (fun j hj => ht j (by omega))
    · rintro ⟨h1, _⟩
      exact ht k (by omega) (hdk.trans h1)
  · intro j hj hDj W hW
    by_cases hjk : j = k
    · subst hjk; exact hSk hDj W hW
    · rw [hS j hjk]; exact ag.fact j (by omega) hDj W hW
  · intro j hj W
    rw [hS j (by omega)]
    exact ag.free j (by omega) W
theorem upS_ne (S : Nat → World → Prop) (i : Nat) (A : World → Prop) {j : Nat} (h : j ≠ i) : upS S i A j = S j := by simp [upS, h]
theorem upS_eq (S : Nat → World → Prop) (i : Nat) (A : World → Prop) : upS S i A i = A := by simp [upS]
theorem same_agree (o : Oper) (hs : ∀ cs b, o.op ≠ .select cs b) {a b : Act} (h : ∀ t ∈ o.looksAt ops, a.tmps[t]? = b.tmps[t]?) (W : World) (v : Value) : Oper.same P o a W v ↔ Oper.same P o b W v := by
  unfold Oper.same; rw [exec_agree o hs h]
theorem follow (ok : SoupOk ops n) (hsp : SpOk sp) (inv : Inv P ops C sp a0 n vr listed a w) {D : Nat → Prop} (hD : ∀ j, D j → j < n ∧ listed.getD j false = true) (hDc : ∀ i j, D i → Dep ops i j → D j) :
    ∀ (l : List Oper) (k : Nat) (b : Act) (S : Nat → World → Prop), (∀ j, j < l.length → l[j]? = ops[k + j]?) → k + l.length = n → wpSoup P ops C sp Q l k b S → Agree ops sp a0 vr a D k b S →
      ∀ i, k ≤ i → i ≤ n → ∃ b' S', wpSoup P ops C sp Q (l.drop (i - k)) i b' S' ∧ Agree ops sp a0 vr a D i b' S'
  | [], k, b, S, _, hn, h, ag, i, h1, h2 => by
    have : i = k := by simp at hn; omega
    subst this
    exact ⟨b, S, by simpa using h, ag⟩
  | o :: l, k, b, S, hl, hn, h, ag, i, h1, h2 => by
    by_cases hki : i = k
    · subst hki; exact ⟨b, S, by simpa using h, ag⟩
    have ho : ops[k]? = some o := by simpa using (hl 0 (by simp)).symm
    have hkn : k < n := by simp only [List.length_cons] at hn; omega
    have key : ∃ b1 S1, wpSoup P ops C sp Q l (k + 1) b1 S1 ∧ Agree ops sp a0 vr a D (k + 1) b1 S1 := by
      unfold wpSoup at h
      by_cases hDk : D k
      · have hlook := looks_agree ok inv ag ho hkn (fun j hj => hDc k j hDk hj)
        have hw := wanted_agree (ops := ops) o hlook
        obtain ⟨hdone, hsr⟩ := inv.done k hkn (hD k hDk).2
        obtain ⟨hslot, hif⟩ := hdone o ho
        rw [hw] at h
        split at h
        · rename_i hwt
          rw [if_pos hwt] at hif
          split at h
          · rename_i hnone
            rw [hnone] at hif
            obtain ⟨v, hv, hrest⟩ := h
            have hdep : ∀ j, Dep ops k j → Sr ops sp vr a j w := fun j hj => (inv.done j (hD j (hDc k j hDk hj)).1 (hD j (hDc k j hDk hj)).2).2
            have e1 := hv w inv.keep (fun j hj => ag.fact j hj.lt (hDc k j hDk hj) w (hdep j hj))
            rw [same_agree o (fun cs b => ok.sel k o cs b ho) hlook] at e1
            have e2 := hif w inv.keep hdep
            have e3 := Oper.same_unique e1 e2
            subst e3
            exact ⟨_, _, hrest, agree_put ok ag inv.size ho hkn _ (fun _ => hslot) (fun _ _ => rfl) (fun _ W _ => ag.free k (Nat.le_refl _) W)⟩
          · rename_i s hsome
            rw [hsome] at hif
            have harg := args_agree (ops := ops) o hlook
            exact ⟨_, _, h.2 (vr k) (by rw [harg]; exact hif), agree_put ok ag inv.size ho hkn _ (fun _ => hslot) (fun j hj => upS_ne _ _ _ hj) (fun _ W hW => by rw [upS_eq, harg]; exact hW o s ho hsome hwt)⟩
        · rename_i hwt
          rw [if_neg hwt] at hif
          exact ⟨_, _, h, agree_put ok ag inv.size ho hkn _ (fun _ => by rw [← hif]; exact hslot) (fun _ _ => rfl) (fun _ W _ => ag.free k (Nat.le_refl _) W)⟩
      · split at h
        · split at h
          · obtain ⟨v, _, hrest⟩ := h
            exact ⟨_, _, hrest, agree_put ok ag inv.size ho hkn _ (fun hd => absurd hd hDk) (fun _ _ => rfl) (fun hd => absurd hd hDk)⟩
          · rename_i s hsome
            obtain ⟨v, hv⟩ := hsp.some k s (argsOf o b) hsome
            exact ⟨_, _, h.2 v hv, agree_put ok ag inv.size ho hkn _ (fun hd => absurd hd hDk) (fun j hj => upS_ne _ _ _ hj) (fun hd => absurd hd hDk)⟩
        · exact ⟨_, _, h, agree_put ok ag inv.size ho hkn _ (fun hd => absurd hd hDk) (fun _ _ => rfl) (fun hd => absurd hd hDk)⟩
    obtain ⟨b1, S1, k1, k2⟩ := key
    obtain ⟨b', S', r1, r2⟩ := follow ok hsp inv hD hDc l (k + 1) b1 S1 (fun j hj => by have := hl (j + 1) (by simp; omega); simpa [Nat.add_assoc, Nat.add_comm 1 j] using this) (by simp only [List.length_cons] at hn; omega) k1 k2 i (by omega) h2
    refine ⟨b', S', ?_, r2⟩
    rw [show i - k = (i - (k + 1)) + 1 from by omega, List.drop_succ_cons]
    exact r1
theorem inv_set (ok : SoupOk ops n) (hsp : SpOk sp) (inv : Inv P ops C sp a0 n vr listed a w) {i : Nat} {o : Oper} (ho : ops[i]? = some o) (hin : i < n) (hr : i ∈ Region.ready .any ops listed)
    {v : Value} {w' : World} (hk : C w') (hY : ∀ k s, sp k = some s → k ≠ i → (∀ y u, s.A y u w → s.A y u w') ∧ (s.B w → s.B w')) (hdone : Done P ops C sp (fun j => if j = i then v else vr j) (a.put o.dst v) i) (hsr : Sr ops sp (fun j => if j = i then v else vr j) (a.put o.dst v) i w') :
    Inv P ops C sp a0 n (fun j => if j = i then v else vr j) (listed.setIfInBounds i true) (a.put o.dst v) w' := by
  have hun : listed.getD i false = false := getD_both (mem_ready.1 hr).1
  have hdk : dstOf ops i = o.dst := by simp [dstOf, ho]
  have hlt : i < listed.size := by rw [inv.head.size]; exact (Array.getElem?_eq_some_iff.1 ho).1
  have hset : (listed.setIfInBounds i true).getD i false = true := by simp [hlt]
  have hother : ∀ k, k ≠ i → (listed.setIfInBounds i true).getD k false = listed.getD k false := fun k hk => getD_set_ne false (Ne.symm hk)
  -- a listed operation looks at nothing that comes later
  have hfar : ∀ k, k < n → listed.getD k false = true → ∀ ok', ops[k]? = some ok' → (∀ t ∈ ok'.looksAt ops, (a.put o.dst v).tmps[t]? = a.tmps[t]?) ∧ (∀ d, ok'.dst = some d → (a.put o.dst v).tmps[d]? = a.tmps[d]?) := by
    intro k hkn hl ok' hok
    have hki : k ≠ i := fun e => by subst e; rw [hun] at hl; cases hl
    refine ⟨fun t ht => ?_, fun d hd => ?_⟩
    · rw [put_get, if_neg ?_]
      rintro ⟨h1, _⟩
      have hdep := ok.looks k i ok' o t hkn hin hok ho h1 ht
      have := hdep.listed inv.head.closed hl
      rw [hun] at this; cases this
    · rw [put_get, if_neg ?_]
      rintro ⟨h1, _⟩
      exact ok.apart k i ok' o d hkn hin hki hok ho h1 hd
  have hwk : ∀ k, k < n → listed.getD k false = true → ∀ ok', ops[k]? = some ok' → Region.wanted ok' (yielded ops (a.put o.dst v).tmps) = Region.wanted ok' (yielded ops a.tmps) :=
    fun k hkn hl ok' hok => wanted_agree ok' (hfar k hkn hl ok' hok).1
  have hsrk : ∀ k, k < n → listed.getD k false = true → ∀ W, Sr ops sp (fun j => if j = i then v else vr j) (a.put o.dst v) k W ↔ Sr ops sp vr a k W := by
    intro k hkn hl W
    have hki : k ≠ i := fun e => by subst e; rw [hun] at hl; cases hl
    unfold Sr
    simp only [if_neg hki]
    constructor
    · intro h o' s h1 h2 h3; have := h o' s h1 h2 (by rw [hwk k hkn hl o' h1]; exact h3); rwa [args_agree (ops := ops) o' (hfar k hkn hl o' h1).1] at this
    · intro h o' s h1 h2 h3; rw [args_agree (ops := ops) o' (hfar k hkn hl o' h1).1]; exact h o' s h1 h2 (by rw [← hwk k hkn hl o' h1]; exact h3)
  refine ⟨inv.head.set hr hin, hk, by rw [put_size, inv.size], by rw [put_defers', inv.defers], ?_, ?_, fun k hkn hl s hs => ?_⟩
  · intro t ht
    rw [put_get, if_neg ?_]
    · exact inv.rest t (fun j hj hl => by
        have hji : j ≠ i := fun e => by subst e; rw [hun] at hl; cases hl
        exact ht j hj (by rw [hother j hji]; exact hl))
    · rintro ⟨h1, _⟩
      exact ht i hin hset (hdk.trans h1)
  · intro k hkn hl
    by_cases hki : k = i
    · subst hki; exact ⟨hdone, hsr⟩
    · rw [hother k hki] at hl
      obtain ⟨h1, h2⟩ := inv.done k hkn hl
      refine ⟨?_, ?_⟩
      · intro ok' hok
        obtain ⟨g1, g2⟩ := h1 ok' hok
        obtain ⟨f1, f2⟩ := hfar k hkn hl ok' hok
        refine ⟨fun d hd => by rw [f2 d hd, put_size]; simp only [if_neg hki]; exact g1 d hd, ?_⟩
        rw [hwk k hkn hl ok' hok]
        simp only [if_neg hki]
        split
        · rename_i hwt
          rw [if_pos hwt] at g2
          split
          · rename_i hnone
            rw [hnone] at g2
            intro W hW hdep
            have := g2 W hW (fun j hj => (hsrk j (by have := hj.lt; omega) (hj.listed inv.head.closed hl) W).1 (hdep j hj))
            rwa [same_agree ok' (fun cs b => ok.sel k ok' cs b hok) f1]
          · rename_i s hsome
            rw [hsome] at g2
            rw [args_agree (ops := ops) ok' f1]; exact g2
        · rename_i hwt
          rw [if_neg hwt] at g2; exact g2
      · intro o' s ho' hs' hwt
        have h3 : Sr ops sp (fun j => if j = i then v else vr j) (a.put o.dst v) k w := (hsrk k hkn hl w).2 h2
        exact (hY k s hs' hki).1 _ _ (h3 o' s ho' hs' hwt)
  · have hki : k ≠ i := fun e => by subst e; rw [hset] at hl; cases hl
    rw [hother k hki] at hl
    exact (hY k s hs hki).2 (inv.pre k hkn hl s hs)
def un : Nat → Array Bool → Nat
  | 0, _ => 0
  | k + 1, l => un k l + if l.getD k true then 0 else 1
theorem un_set {i : Nat} {l : Array Bool} (hi : i < l.size) (h : l.getD i true = false) : ∀ k, un k (l.setIfInBounds i true) + (if i < k then 1 else 0) = un k l
  | 0 => by simp [un]
  | k + 1 => by
    have ih := un_set hi h k
    unfold un
    by_cases hik : i = k
    · subst hik
      have e1 : (l.setIfInBounds i true).getD i true = true := by simp [hi]
      rw [e1, h]
      rw [if_neg (by omega)] at ih
      simp
      omega
    · rw [getD_set_ne true hik]
      have e2 : (i < k + 1) = (i < k) := propext ⟨fun _ => by omega, fun _ => by omega⟩
      simp only [e2]
      generalize (if l.getD k true = true then 0 else 1) = z
      omega
theorem un_zero {l : Array Bool} : ∀ {k : Nat}, un k l = 0 → ∀ i, i < k → l.getD i true = true
  | 0, _, i, hi => by omega
  | k + 1, h, i, hi => by
    unfold un at h
    by_cases hik : i = k
    · subst hik
      cases hg : l.getD i true with
      | true => rfl
      | false => rw [hg] at h; simp at h
    · exact un_zero (k := k) (by omega) i (by omega)
theorem un_pos {l : Array Bool} : ∀ {k : Nat}, 0 < un k l → ∃ i, i < k ∧ l.getD i true = false ∧ ∀ j, j < i → l.getD j true = true
  | 0, h => by simp [un] at h
  | k + 1, h => by
    by_cases h0 : 0 < un k l
    · obtain ⟨i, h1, h2, h3⟩ := un_pos h0
      exact ⟨i, by omega, h2, h3⟩
    · unfold un at h
      refine ⟨k, by omega, ?_, fun j hj => un_zero (by omega) j hj⟩
      cases hg : l.getD k true with
      | true => rw [hg] at h; simp at h; omega
      | false => rfl
theorem does_wp {o : Oper} {a : Act} {w : World} {post : Value → World → Prop} {K : Act → World → Prop} {Q' : Exit → Act → World → Prop} (h : Oper.does P o a w post) (hk : ∀ v w', post v w' → K (a.put o.dst v) w') : o.wp P a w K Q' := by
  unfold Oper.does at h
  unfold Oper.wp
  generalize (execOp a.eval o).run P w = r at *
  cases r with
  | ok nx w' =>
    cases nx <;> simp only at h <;> simp only [Oper.upon]
    case value u => exact hk _ _ h
    case skip => exact hk _ _ h
    case enter f args =>
      exact h.mono fun e w'' ⟨v, he, hp⟩ => by subst he; exact hk _ _ hp
  | halt x w' => exact h.elim
theorem does_of_same {o : Oper} {a : Act} {w : World} {v : Value} (h : Oper.same P o a w v) : Oper.does P o a w fun u w' => u = v ∧ w' = w := by
  unfold Oper.same at h
  unfold Oper.does
  generalize (execOp a.eval o).run P w = r at *
  cases r with
  | ok nx w' =>
    cases nx <;> simp only at h ⊢
    case value u => exact ⟨h.2, h.1⟩
    case skip => exact ⟨h.2.symm, h.1⟩
  | halt x w' => exact h.elim
theorem does_agree (o : Oper) (hs : ∀ cs b, o.op ≠ .select cs b) {a b : Act} (h : ∀ t ∈ o.looksAt ops, a.tmps[t]? = b.tmps[t]?) (W : World) (post : Value → World → Prop) : Oper.does P o a W post ↔ Oper.does P o b W post := by
  unfold Oper.does; rw [exec_agree o hs h]
theorem act_ext {a b : Act} (h1 : a.tmps.size = b.tmps.size) (h2 : a.defers = b.defers) (h : ∀ t : Nat, a.tmps[t]? = b.tmps[t]?) : a = b := by
  obtain ⟨ta, da⟩ := a
  obtain ⟨tb, db⟩ := b
  simp only at h2 h
  subst h2
  congr 1
  exact Array.ext_getElem? h
theorem soup_any (ok : SoupOk ops n) (hsp : SpOk sp) {Q' : Exit → Act → World → Prop} (h0 : wpSoup P ops C sp Q (ops.toList.take n) 0 a0 (fun _ _ => True))
    (hQ : ∀ b S, Q b S → ∀ W, C W → (∀ j, S j W) → wpList P ops Q' (ops.toList.drop n) b W) :
    ∀ (m : Nat) (vr : Nat → Value) (listed : Array Bool) (a : Act) (w : World), Inv P ops C sp a0 n vr listed a w → un n listed = m → wpAny P .any ops Q' (m + (ops.size - n)) listed a w
  | 0, vr, listed, a, w, inv, hm => by
    have hall : ∀ i, i < n → listed.getD i false = true := fun i hi => by
      have h1 := un_zero hm i hi
      have hlt : i < listed.size := by rw [inv.head.size]; have := ok.le; omega
      simpa [hlt] using h1
    have hl : listed = Array.replicate n true ++ Array.replicate (ops.size - n) false := by
      apply Array.ext
      · rw [inv.head.size]; simp; have := ok.le; omega
      · intro i h1 h2
        by_cases hi : i < n
        · have := hall i hi
          rw [Array.getElem_append_left (by simpa using hi)]
          simpa [h1] using this
        · rw [Array.getElem_append_right (by simpa using hi)]
          have hlt : i < ops.size := by rw [← inv.head.size]; exact h1
          have := inv.head.tail i (by omega) hlt
          simpa [h1] using this
    have hlen : (ops.toList.take n).length = n := by rw [List.length_take, Array.length_toList]; exact Nat.min_eq_left ok.le
    obtain ⟨b, S, hb, ag⟩ := follow ok hsp inv (D := fun j => j < n) (fun j hj => ⟨hj, hall j hj⟩) (fun i j hi hd => by have := hd.lt; omega)
      (ops.toList.take n) 0 a0 (fun _ _ => True) (fun j hj => by rw [hlen] at hj; simp [hj]) (by rw [hlen]; omega) h0
      ⟨rfl, rfl, fun j hj => by omega, fun _ _ => rfl, fun j hj => by omega, fun _ _ _ => trivial⟩ n (Nat.zero_le _) (Nat.le_refl _)
    rw [List.drop_eq_nil_of_le (by omega)] at hb
    have hba : b = a := by
      refine act_ext (by rw [ag.size, inv.size]) (by rw [ag.defers, inv.defers]) (fun t => ?_)
      by_cases he : ∃ j, j < n ∧ dstOf ops j = some t
      · obtain ⟨j, hj, hd⟩ := he
        exact ag.slot j hj hj t hd
      · have hne : ∀ j, j < n → dstOf ops j ≠ some t := fun j hj hd => he ⟨j, hj, hd⟩
        rw [ag.rest t hne, inv.rest t (fun j hj _ => hne j hj)]
    subst hba
    have hfin := hQ b S hb w inv.keep (fun j => by
      by_cases hj : j < n
      · exact ag.fact j hj hj w (inv.done j hj (hall j hj)).2
      · exact ag.free j (by omega) w)
    have hseq := ok.seq
    rw [← hl] at hseq
    have hdl : (ops.toList.drop n).length = ops.size - n := by simp
    rw [Nat.zero_add, ← hdl]
    exact wpAny_of_seq (ops.toList.drop n) n listed b w (fun j => by simp [List.getElem?_drop]) (by rw [hdl]; exact hseq) hfin
  | m + 1, vr, listed, a, w, inv, hm => by
    have hlen : (ops.toList.take n).length = n := by rw [List.length_take, Array.length_toList]; exact Nat.min_eq_left ok.le
    obtain ⟨i0, hi0, hu0, hmin⟩ := un_pos (l := listed) (k := n) (by omega)
    have hlt0 : i0 < ops.size := by have := ok.le; omega
    rw [show m + 1 + (ops.size - n) = (m + (ops.size - n)) + 1 from by omega]
    refine ⟨fun hr => ?_, fun i hr => ?_⟩
    · exfalso
      have hmem : i0 ∈ Region.ready .any ops listed := by
        refine mem_ready.2 ⟨hu0, ops[i0], Array.getElem?_eq_getElem hlt0, fun e he hb => ?_⟩
        have h1 := ok.back i0 _ (Array.getElem?_eq_getElem hlt0) e he hb
        have h2 := hmin e.on h1
        have h3 : e.on < listed.size := by rw [inv.head.size]; omega
        simpa [h3] using h2
      rw [hr] at hmem; cases hmem
    · have hin : i < n := by
        rcases Nat.lt_or_ge i n with h | h
        · exact h
        · rcases ok.sink with hs | ⟨hs, hc⟩
          · obtain ⟨_, oi, hoi, _⟩ := mem_ready.1 hr
            have := (Array.getElem?_eq_some_iff.1 hoi).1
            omega
          · exfalso
            have hn : n < ops.size := by
              obtain ⟨_, oi, hoi, _⟩ := mem_ready.1 hr
              have := (Array.getElem?_eq_some_iff.1 hoi).1
              omega
            exact tail_waits hs hc hn inv.head _ i0 rfl hi0 hu0 i h hr
      obtain ⟨hun, o, ho, hdeps⟩ := mem_ready.1 hr
      have hunf := getD_both hun
      have hlt : i < listed.size := by rw [inv.head.size]; exact (Array.getElem?_eq_some_iff.1 ho).1
      have hun' : un n (listed.setIfInBounds i true) = m := by
        have := un_set hlt hun n
        rw [if_pos hin] at this
        omega
      have hDl : ∀ j, Dep ops i j → j < n ∧ listed.getD j false = true := by
        intro j hd
        refine ⟨by have := hd.lt; omega, ?_⟩
        obtain ⟨f, hf⟩ := hd
        obtain ⟨k, f', hk, hw, he⟩ := depB_cases hf
        obtain ⟨oi, hoi, e, hem, hb, hon⟩ := Region.waitsFor_spec hw
        have : oi = o := Option.some.inj (hoi.symm.trans ho)
        subst this
        have h1 := hdeps e hem hb
        rw [hon] at h1
        rcases he with he | he
        · rw [← he]; exact h1
        · exact Dep.listed inv.head.closed ⟨f', he⟩ h1
      obtain ⟨b, S, hb, ag⟩ := follow ok hsp inv (D := fun j => Dep ops i j) hDl (fun k j hk hd => hk.trans hd)
        (ops.toList.take n) 0 a0 (fun _ _ => True) (fun j hj => by rw [hlen] at hj; simp [hj]) (by rw [hlen]; omega) h0
        ⟨rfl, rfl, fun j hj => by omega, fun _ _ => rfl, fun j hj => by omega, fun _ _ _ => trivial⟩ i (Nat.zero_le _) (by omega)
      have hcons : (ops.toList.take n).drop (i - 0) = o :: (ops.toList.take n).drop (i + 1) := by
        rw [Nat.sub_zero]
        have hil : i < (ops.toList.take n).length := by omega
        rw [List.drop_eq_getElem_cons hil]
        congr 1
        have : ops[i]? = some o := ho
        have h2 : (ops.toList.take n)[i]? = some o := by simp [hin, this]
        rw [List.getElem?_eq_getElem hil] at h2
        exact Option.some.inj h2
      rw [hcons] at hb
      have hlook := looks_agree ok inv ag ho hin (fun j hj => hj)
      have hsel := fun cs b => ok.sel i o cs b ho
      have hself : ∀ v : Value, ∀ t ∈ o.looksAt ops, (a.put o.dst v).tmps[t]? = a.tmps[t]? := fun v t ht => by
        rw [put_get, if_neg ?_]
        rintro ⟨h1, _⟩
        have := (ok.looks i i o o t hin hin ho ho h1 ht).lt
        omega
      have hslot : ∀ v : Value, ∀ d, o.dst = some d → (a.put o.dst v).tmps[d]? = if d < (a.put o.dst v).tmps.size then some ((fun j => if j = i then v else vr j) i) else none := fun v d hd => by
        rw [put_get, put_size]
        simp only [if_true]
        by_cases hs : d < a.tmps.size
        · rw [if_pos ⟨hd, hs⟩, if_pos hs]
        · rw [if_neg (by simp [hs]), if_neg hs, Array.getElem?_eq_none (Nat.le_of_not_lt hs)]
      have hdepw : ∀ j, Dep ops i j → S j w := fun j hj => ag.fact j hj.lt hj w (inv.done j (hDl j hj).1 (hDl j hj).2).2
      have hwan := wanted_agree (ops := ops) o hlook
      unfold wpOp
      simp only [ho]
      unfold wpSoup at hb
      rw [hwan] at hb
      split
      · rename_i hwt
        rw [if_pos hwt] at hb
        left
        split at hb
        · rename_i hnone
          obtain ⟨v, hv, _⟩ := hb
          have e1 := hv w inv.keep hdepw
          rw [same_agree o hsel hlook] at e1
          refine does_wp (does_of_same e1) ?_
          rintro v' w' ⟨rfl, rfl⟩
          refine soup_any ok hsp h0 hQ m _ _ _ _ (inv_set ok hsp inv ho hin hr inv.keep (fun _ _ _ _ => ⟨fun _ _ h => h, fun h => h⟩) ?_ ?_) hun'
          · intro o' ho'
            obtain rfl : o' = o := Option.some.inj (ho'.symm.trans ho)
            refine ⟨hslot v', ?_⟩
            rw [wanted_agree (ops := ops) o' (hself v'), if_pos hwt, hnone]
            intro W hW hdep
            rw [same_agree o' hsel (hself v'), ← same_agree o' hsel hlook]
            simp only [if_true]
            refine hv W hW (fun j hj => ag.fact j hj.lt hj W ?_)
            have hji : j ≠ i := by have := hj.lt; omega
            intro oj s hoj hs hwj
            have hag : ∀ t ∈ oj.looksAt ops, (a.put o'.dst v').tmps[t]? = a.tmps[t]? := fun t ht => by
              rw [put_get, if_neg ?_]
              rintro ⟨h1, _⟩
              have := (ok.looks j i oj o' t (hDl j hj).1 hin hoj ho h1 ht).lt
              have := hj.lt
              omega
            have h3 := hdep j hj oj s hoj hs (by rw [wanted_agree (ops := ops) oj hag]; exact hwj)
            rw [args_agree (ops := ops) oj hag] at h3
            simpa [hji] using h3
          · intro o' s ho' hs' hwt'
            rw [hnone] at hs'; cases hs'
        · rename_i s hsome
          have e1 := hb.1 w inv.keep (inv.pre i hin hunf s hsome) hdepw
          rw [does_agree o hsel hlook] at e1
          refine does_wp e1 ?_
          rintro v w' ⟨hk, hkx, hp, hA⟩
          have harg := args_agree (ops := ops) o hlook
          have hself2 := args_agree (ops := ops) o (hself v)
          refine soup_any ok hsp h0 hQ m _ _ _ _ (inv_set ok hsp inv ho hin hr hkx (fun k t ht hki => ⟨fun y u hu => hsp.A i k s t hsome ht (Ne.symm hki) _ y u _ _ hu hk, fun hB => hsp.B i k s t hsome ht (Ne.symm hki) _ _ _ hB hk⟩) ?_ ?_) hun'
          · intro o' ho'
            obtain rfl : o' = o := Option.some.inj (ho'.symm.trans ho)
            refine ⟨hslot v, ?_⟩
            rw [wanted_agree (ops := ops) o' (hself v), if_pos hwt, hsome]
            simp only [if_true]
            rw [hself2, ← harg]
            exact hp
          · intro o' s' ho' hs' _
            obtain rfl : s' = s := Option.some.inj (hs'.symm.trans hsome)
            obtain rfl : o' = o := Option.some.inj (ho'.symm.trans ho)
            simp only [if_true]
            rw [hself2, ← harg]
            exact hA
      · rename_i hwt
        refine soup_any ok hsp h0 hQ m _ _ _ _ (inv_set ok hsp inv ho hin hr inv.keep (fun _ _ _ _ => ⟨fun _ _ h => h, fun h => h⟩) ?_ ?_) hun'
        · intro o' ho'
          obtain rfl : o' = o := Option.some.inj (ho'.symm.trans ho)
          refine ⟨hslot undef, ?_⟩
          rw [wanted_agree (ops := ops) o' (hself undef), if_neg hwt]
          simp
        · intro o' s' ho' hs' hwt'
          obtain rfl : o' = o := Option.some.inj (ho'.symm.trans ho)
          rw [wanted_agree (ops := ops) o' (hself undef)] at hwt'
          exact absurd hwt' hwt
/-- The region: n operations in any order, the rest in its row. -/
theorem wp_region_soupC {id : Nat} {Q' : Exit → Act → World → Prop} {l : List Oper} (n : Nat) (C : World → Prop) (sp : Nat → Option Spec) (hm : P.follows .mixedOrders = true) (hB : soupB l.toArray n = true) (hsp : SpOk sp) (hC : C w.drew) (hpre : ∀ i s, sp i = some s → s.B w.drew)
    (h : wpSoup P l.toArray C sp (fun b S => ∀ W, C W → (∀ j, S j W) → wpList P l.toArray Q' (l.drop n) b W) (l.take n) 0 a (fun _ _ => True)) : (Code.region id l.toArray true).wp P Q' a w := by
  have ok := soupOk hB
  refine wp_region_any hm ?_
  have inv0 : Inv P l.toArray C sp a n (fun _ => undef) (Array.replicate l.toArray.size false) a { w with drawn := w.drawn + 1 } :=
    ⟨⟨by simp, fun j oj _ hl => (by rw [getD_replicate_false] at hl; cases hl), fun t _ ht => getD_in (by simpa using ht) (getD_replicate_false _ _)⟩, hC, rfl, rfl, fun _ _ => rfl,
      fun k _ hl => (by rw [getD_replicate_false] at hl; cases hl), fun k _ _ s hs => hpre k s hs⟩
  have hun : ∀ k, k ≤ l.toArray.size → un k (Array.replicate l.toArray.size false) = k := by
    intro k hk
    induction k with
    | zero => rfl
    | succ k ih => unfold un; rw [ih (by omega)]; simp at hk ⊢; simp [show k < l.length from by omega]
  have := soup_any (Q := fun b S => ∀ W, C W → (∀ j, S j W) → wpList P l.toArray Q' (l.drop n) b W) ok hsp (by simpa using h) (by intro b S hb; simpa using hb) n _ _ _ _ inv0 (hun n ok.le)
  rwa [show n + (l.toArray.size - n) = l.toArray.size from by have := ok.le; omega] at this
theorem wp_region_soup {id : Nat} {Q' : Exit → Act → World → Prop} {l : List Oper} (n : Nat) (X : List Nat) (sp : Nat → Option Spec) (hm : P.follows .mixedOrders = true) (hB : soupB l.toArray n = true) (hsp : SpOk sp) (hpre : ∀ i s, sp i = some s → s.B w.drew)
    (h : wpSoup P l.toArray (Keep X w) sp (fun b S => ∀ W, Keep X w W → (∀ j, S j W) → wpList P l.toArray Q' (l.drop n) b W) (l.take n) 0 a (fun _ _ => True)) : (Code.region id l.toArray true).wp P Q' a w :=
  wp_region_soupC n (Keep X w) sp hm hB hsp ((Keep.refl X w).drew) hpre h
/-- One operation, the same answer in each world. -/
theorem soup_q {Q : Act → (Nat → World → Prop) → Prop} {a : Act} {o : Oper} {rest : List Oper} {i : Nat} {S : Nat → World → Prop} (hw : Region.wanted o (yielded ops a.tmps) = true) (hs : sp i = none)
    (h : ∃ v, (∀ W, C W → (∀ j, Dep ops i j → S j W) → Oper.same P o a W v) ∧ ∃ b, a.put o.dst v = b ∧ wpSoup P ops C sp Q rest (i + 1) b S) : wpSoup P ops C sp Q (o :: rest) i a S := by
  obtain ⟨v, h1, b, hb, h2⟩ := h
  subst hb
  unfold wpSoup
  rw [if_pos hw, hs]
  exact ⟨v, h1, h2⟩
theorem soup_s {Q : Act → (Nat → World → Prop) → Prop} {a : Act} {o : Oper} {rest : List Oper} {i : Nat} {S : Nat → World → Prop} {s : Spec} (hw : Region.wanted o (yielded ops a.tmps) = true) (hs : sp i = some s)
    {x : List Value} (hx : argsOf o a = x) (h1 : ∀ W, C W → s.B W → (∀ j, Dep ops i j → S j W) → Oper.does P o a W fun v W' => s.G x W W' ∧ C W' ∧ s.p x v ∧ s.A x v W') (h2 : ∀ v, s.p x v → ∃ b, a.put o.dst v = b ∧ wpSoup P ops C sp Q rest (i + 1) b (upS S i (s.A x v))) : wpSoup P ops C sp Q (o :: rest) i a S := by
  subst hx
  unfold wpSoup
  rw [if_pos hw, hs]
  exact ⟨h1, fun v hv => by obtain ⟨b, hb, h3⟩ := h2 v hv; subst hb; exact h3⟩
theorem soup_no {Q : Act → (Nat → World → Prop) → Prop} {a : Act} {o : Oper} {rest : List Oper} {i : Nat} {S : Nat → World → Prop} (hw : Region.wanted o (yielded ops a.tmps) = false)
    (h : ∃ b, a.put o.dst undef = b ∧ wpSoup P ops C sp Q rest (i + 1) b S) : wpSoup P ops C sp Q (o :: rest) i a S := by
  obtain ⟨b, hb, h2⟩ := h
  subst hb
  unfold wpSoup
  rw [if_neg (by simp [hw])]
  exact h2
theorem soup_nil {Q : Act → (Nat → World → Prop) → Prop} {a : Act} {i : Nat} {S : Nat → World → Prop} (h : Q a S) : wpSoup P ops C sp Q [] i a S := h
/-- A special answer that is one value, of a call that leaves all as it was. -/
def Spec.is (c : Value) : Spec := { p := fun _ v => v = c, A := fun _ _ _ => True }
def spOf (l : List (Nat × Spec)) : Nat → Option Spec := fun i => (l.find? fun p => p.1 == i).map (·.2)
theorem spOf_mem {l : List (Nat × Spec)} {i : Nat} {s : Spec} (hs : spOf l i = some s) : (i, s) ∈ l := by
  unfold spOf at hs
  cases hf : l.find? fun p => p.1 == i with
  | none => rw [hf] at hs; cases hs
  | some p =>
    rw [hf] at hs
    cases hs
    have h1 := List.find?_some hf
    simp at h1
    rw [← h1]
    exact List.mem_of_find?_eq_some hf
/-- Special operations that write nothing that was there. -/
structure Spec.ok (s : Spec) : Prop where
  stay : ∀ x v w w', s.A x v w → Keep [] w w' → s.A x v w'
  none : ∀ x w w', s.G x w w' → Keep [] w w'
  pre : ∀ w, s.B w
  some : ∀ x, ∃ v, s.p x v
theorem Spec.is_ok (c : Value) : (Spec.is c).ok := ⟨fun _ _ _ _ _ _ => trivial, fun _ _ _ h => h, fun _ => trivial, fun _ => ⟨c, rfl⟩⟩
theorem spOk_of {l : List (Nat × Spec)} (h : ∀ p ∈ l, p.2.ok) : SpOk (spOf l) where
  A i j s t hs ht _ x y v w w' hA hk := (h _ (spOf_mem ht)).stay y v w w' hA ((h _ (spOf_mem hs)).none x w w' hk)
  B i j s t hs ht _ x w w' _ _ := (h _ (spOf_mem ht)).pre w'
  some i s x hs := (h _ (spOf_mem hs)).some x
theorem pre_of {l : List (Nat × Spec)} {w : World} (h : ∀ p ∈ l, p.2.ok) : ∀ i s, spOf l i = Option.some s → s.B w := fun i s hs => (h _ (spOf_mem hs)).pre w
/-- One of them may write. -/
theorem spOk_one {i0 : Nat} {s : Spec} (hp : ∀ x, ∃ v, s.p x v) : SpOk (spOf [(i0, s)]) where
  A i j s t hs ht hij := by have h1 := spOf_mem hs; have h2 := spOf_mem ht; simp at h1 h2; omega
  B i j s t hs ht hij := by have h1 := spOf_mem hs; have h2 := spOf_mem ht; simp at h1 h2; omega
  some i t x hs := by have := spOf_mem hs; simp at this; rw [this.2]; exact hp x
/-- Of two the second may write, so that what is known of the first stays. -/
theorem spOk_two {i0 i1 : Nat} {s t : Spec} (hs : ∀ x, ∃ v, s.p x v) (ht : ∀ x, ∃ v, t.p x v) (hA : ∀ x y v w w', s.A y v w → t.G x w w' → s.A y v w') (hB : ∀ x w w', s.B w → t.G x w w' → s.B w')
    (kA : ∀ x y v w w', t.A y v w → s.G x w w' → t.A y v w') (kB : ∀ x w w', t.B w → s.G x w w' → t.B w') : SpOk (spOf [(i0, s), (i1, t)]) where
  A i j u v hi hj hij := by
    have h1 := spOf_mem hi; have h2 := spOf_mem hj; simp at h1 h2
    rcases h1 with ⟨e1, rfl⟩ | ⟨e1, rfl⟩ <;> rcases h2 with ⟨e2, rfl⟩ | ⟨e2, rfl⟩
    · omega
    · exact kA
    · exact hA
    · omega
  B i j u v hi hj hij := by
    have h1 := spOf_mem hi; have h2 := spOf_mem hj; simp at h1 h2
    rcases h1 with ⟨e1, rfl⟩ | ⟨e1, rfl⟩ <;> rcases h2 with ⟨e2, rfl⟩ | ⟨e2, rfl⟩
    · omega
    · exact kB
    · exact hB
    · omega
  some i u x hi := by
    have h1 := spOf_mem hi; simp at h1
    rcases h1 with ⟨_, rfl⟩ | ⟨_, rfl⟩
    · exact hs x
    · exact ht x
end
end Go.Proofs.YteejdfpfdnkiiaaGreat
