/- Windows' names, aggregates and windows: their equality; names as keys of a map. -/
import Derived.Test.YtmhbibcfbencnaaStD
import Derived.Test.YtmhbibcfbencnaaRng
import Derived.Laws.StructEq
import Derived.ChangeKeysEq
namespace Go.Proofs.Ytmhbibcfbencnaa
open Go.RowKit Go.Lib
set_option linter.unusedSimpArgs false
set_option linter.unusedVariables false
structure Wd where
  st : Int
  key : ByteArray
  deriving DecidableEq
def ekW (x : Wd) : Value := .agg #[.int .i64 x.st, .string x.key]
/-- A window that is told. -/
structure Ot where
  key : ByteArray
  st : Int
  ag : Ag
  deriving DecidableEq
def Ot.val (x : Ot) : Value := .agg #[.string x.key, .int .i64 x.st, .int .i64 x.ag.c, .int .i64 x.ag.s, .int .i64 x.ag.lo, .int .i64 x.ag.hi, .int .i64 x.ag.b0, .int .i64 x.ag.b1, .int .i64 x.ag.b2, .int .i64 x.ag.b3]
section
variable {P : Program} {W : World}
theorem ef_nil (d : Nat) (xs ys : Array Value) : (Op.eqFields d xs ys []).run P W = .ok true W := by simp [Op.eqFields]
theorem ef_step {d : Nat} {xs ys : Array Value} {f : Field} {fs : List Field} {u v : Value} {r : Bool} (hn : f.name ≠ "_") (hu : (part f.type xs f.offset).run P W = .ok u W) (hv : (part f.type ys f.offset).run P W = .ok v W)
    (he : (Op.equalIn d f.type u v).run P W = .ok r W) {s : Bool} (hr : (Op.eqFields d xs ys fs).run P W = .ok s W) : (Op.eqFields d xs ys (f :: fs)).run P W = .ok (r && s) W := by
  simp only [Op.eqFields, if_pos hn, Sem.run_bind, hu, hv, he, Result.andThen_ok]
  cases r <;> simp [hr]
theorem ei_nil (d : Nat) (e : TypeId) (n : Nat) (xs ys : Array Value) : (Op.eqItems d e n xs ys []).run P W = .ok true W := by simp [Op.eqItems]
theorem ei_step {d : Nat} {e : TypeId} {n i : Nat} {is : List Nat} {xs ys : Array Value} {u v : Value} {r : Bool} (hu : (part e xs (i * n)).run P W = .ok u W) (hv : (part e ys (i * n)).run P W = .ok v W)
    (he : (Op.equalIn d e u v).run P W = .ok r W) {s : Bool} (hr : (Op.eqItems d e n xs ys is).run P W = .ok s W) : (Op.eqItems d e n xs ys (i :: is)).run P W = .ok (r && s) W := by
  simp only [Op.eqItems, Sem.run_bind, hu, hv, he, Result.andThen_ok]
  cases r <;> simp [hr]
end
theorem beq_dec {α : Type} [BEq α] [LawfulBEq α] [DecidableEq α] (a b : α) : (a == b) = decide (a = b) := by
  rw [Bool.eq_iff_iff]; simp
theorem bytes_inj {a b : ByteArray} (h : a.toList = b.toList) : a = b := by
  rw [ByteArray.toList_eq, ByteArray.toList_eq] at h
  obtain ⟨⟨x⟩⟩ := a
  obtain ⟨⟨y⟩⟩ := b
  simp only at h
  rw [h]
theorem beq_bytes (a b : ByteArray) : (a.toList == b.toList) = decide (a = b) := by
  rw [beq_dec, decide_eq_decide]
  exact ⟨bytes_inj, fun h => by rw [h]⟩
theorem beq_ba (a b : ByteArray) : (a == b) = decide (a = b) := by rw [beq_toListBytes, beq_bytes]
theorem fields95 : Try.prog.underlying 95 = some (.struct (Try.prog.fieldsOf 95)) := by kernel_rfl
theorem fields31 : Try.prog.underlying 31 = some (.struct (Try.prog.fieldsOf 31)) := by kernel_rfl
theorem fields33 : Try.prog.underlying 33 = some (.struct (Try.prog.fieldsOf 33)) := by kernel_rfl
theorem stood95 : Try.prog.stoodInHeld 95 = false := by kernel_rfl
theorem stood31 : Try.prog.stoodInHeld 31 = false := by kernel_rfl
theorem stood33 : Try.prog.stoodInHeld 33 = false := by kernel_rfl
theorem plain2 : Try.prog.plainKey 2 = true := by kernel_rfl
theorem plain9 : Try.prog.plainKey 9 = true := by kernel_rfl
theorem part_int {xs : Array Value} {off : Nat} {v : Value} {W : World} (h : xs[off]? = some v) : (part 2 xs off).run Try.prog W = .ok v W := run_part_plain W plain2 (by simpa using h)
theorem part_str {xs : Array Value} {off : Nat} {v : Value} {W : World} (h : xs[off]? = some v) : (part 9 xs off).run Try.prog W = .ok v W := run_part_plain W plain9 (by simpa using h)
theorem eq_int (d : Nat) (a b : Int) (W : World) : (Op.equalIn (d + 1) 2 (.int .i64 a) (.int .i64 b)).run Try.prog W = .ok (decide (a = b)) W := by
  rw [run_equalIn_int W d 2 .i64 .i64 a b Try.underlying2, beq_dec]
theorem eq_str (d : Nat) (a b : ByteArray) (W : World) : (Op.equalIn (d + 1) 9 (.string a) (.string b)).run Try.prog W = .ok (decide (a = b)) W := by
  rw [run_equalIn_string W d 9 a b Try.underlying9, beq_bytes]
theorem info2 : ∃ i, Try.prog.info? 2 = some i := Option.isSome_iff_exists.1 (by kernel_rfl)
theorem eq_hist (d : Nat) (a1 a2 a3 a4 b1 b2 b3 b4 : Int) (W : World) : (Op.equalIn (d + 2) 29 (.agg #[.int .i64 a1, .int .i64 a2, .int .i64 a3, .int .i64 a4]) (.agg #[.int .i64 b1, .int .i64 b2, .int .i64 b3, .int .i64 b4])).run Try.prog W = .ok (decide (a1 = b1) && (decide (a2 = b2) && (decide (a3 = b3) && (decide (a4 = b4) && true)))) W := by
  obtain ⟨i, hi⟩ := info2
  rw [run_equalIn_array W (d + 1) _ _ Try.underlying29 hi]
  have hc : Try.prog.cellsOf 2 = 1 := by kernel_rfl
  rw [hc]
  exact ei_step (i := 0) (part_int rfl) (part_int rfl) (eq_int _ _ _ _) (ei_step (i := 1) (part_int rfl) (part_int rfl) (eq_int _ _ _ _) (ei_step (i := 2) (part_int rfl) (part_int rfl) (eq_int _ _ _ _) (ei_step (i := 3) (part_int rfl) (part_int rfl) (eq_int _ _ _ _) (ei_nil _ _ _ _ _))))
theorem part_hist {xs ys : Array Value} {off : Nat} (W : World) (h : xs.extract off (off + 4) = ys) : (part 29 xs off).run Try.prog W = .ok (.agg ys) W := by
  subst h
  have hs : ∃ i, Try.prog.info? 29 = some i := Option.isSome_iff_exists.1 (by kernel_rfl)
  obtain ⟨i, hi⟩ := hs
  have hc : Try.prog.cellsOf 29 = 4 := by kernel_rfl
  simp [part, isAgg, run_underlying Try.underlying29, run_sizeOf W hi, hc]
theorem part_ag {xs ys : Array Value} {off : Nat} (W : World) (h : xs.extract off (off + 8) = ys) : (part 31 xs off).run Try.prog W = .ok (.agg ys) W := by
  subst h
  have hs : ∃ i, Try.prog.info? 31 = some i := Option.isSome_iff_exists.1 (by kernel_rfl)
  obtain ⟨i, hi⟩ := hs
  have hc : Try.prog.cellsOf 31 = 8 := by kernel_rfl
  simp [part, isAgg, run_underlying Try.underlying31, run_sizeOf W hi, hc]
theorem ef_int {d : Nat} {xs ys : Array Value} {nm tg pk : String} {off bo : Nat} {em : Bool} {fs : List Field} {u v : Int} {W : World} (hn : nm ≠ "_") (hu : xs[off]? = some (.int .i64 u)) (hv : ys[off]? = some (.int .i64 v))
    {s : Bool} (hr : (Op.eqFields (d + 1) xs ys fs).run Try.prog W = .ok s W) : (Op.eqFields (d + 1) xs ys ({ name := nm, type := 2, offset := off, embedded := em, tag := tg, pkgPath := pk, byteOffset := bo } :: fs)).run Try.prog W = .ok (decide (u = v) && s) W := by
  refine ef_step (u := .int .i64 u) (v := .int .i64 v) hn ?_ ?_ ?_ hr
  · exact (part_int hu)
  · exact (part_int hv)
  · exact (eq_int _ _ _ _)
theorem ef_str {d : Nat} {xs ys : Array Value} {nm tg pk : String} {off bo : Nat} {em : Bool} {fs : List Field} {u v : ByteArray} {W : World} (hn : nm ≠ "_") (hu : xs[off]? = some (.string u)) (hv : ys[off]? = some (.string v))
    {s : Bool} (hr : (Op.eqFields (d + 1) xs ys fs).run Try.prog W = .ok s W) : (Op.eqFields (d + 1) xs ys ({ name := nm, type := 9, offset := off, embedded := em, tag := tg, pkgPath := pk, byteOffset := bo } :: fs)).run Try.prog W = .ok (decide (u = v) && s) W := by
  refine ef_step (u := .string u) (v := .string v) hn ?_ ?_ ?_ hr
  · exact (part_str hu)
  · exact (part_str hv)
  · exact (eq_str _ _ _ _)
theorem ef_hist {d : Nat} {xs ys : Array Value} {nm tg pk : String} {off bo : Nat} {em : Bool} {fs : List Field} {a1 a2 a3 a4 b1 b2 b3 b4 : Int} {W : World} (hn : nm ≠ "_") (hu : xs.extract off (off + 4) = #[.int .i64 a1, .int .i64 a2, .int .i64 a3, .int .i64 a4]) (hv : ys.extract off (off + 4) = #[.int .i64 b1, .int .i64 b2, .int .i64 b3, .int .i64 b4])
    {s : Bool} (hr : (Op.eqFields (d + 2) xs ys fs).run Try.prog W = .ok s W) : (Op.eqFields (d + 2) xs ys ({ name := nm, type := 29, offset := off, embedded := em, tag := tg, pkgPath := pk, byteOffset := bo } :: fs)).run Try.prog W = .ok ((decide (a1 = b1) && (decide (a2 = b2) && (decide (a3 = b3) && (decide (a4 = b4) && true)))) && s) W := by
  refine ef_step (u := .agg #[.int .i64 a1, .int .i64 a2, .int .i64 a3, .int .i64 a4]) (v := .agg #[.int .i64 b1, .int .i64 b2, .int .i64 b3, .int .i64 b4]) hn ?_ ?_ ?_ hr
  · exact (part_hist _ hu)
  · exact (part_hist _ hv)
  · exact (eq_hist d a1 a2 a3 a4 b1 b2 b3 b4 W)
theorem eq_wd (d : Nat) (a b : Wd) (W : World) : (Op.equalIn (d + 3) 95 (ekW a) (ekW b)).run Try.prog W = .ok (decide (a = b)) W := by
  unfold ekW
  rw [run_equalIn_struct W (d + 2) 95 _ _ fields95 stood95]
  simp only [Program.fieldsOf, Try.underlying95]
  rw [ef_int (u := a.st) (v := b.st) (by simp) (by simp) (by simp) (ef_str (u := a.key) (v := b.key) (by simp) (by simp) (by simp) (ef_nil _ _ _))]
  congr 1
  rw [Bool.eq_iff_iff]
  obtain ⟨a1, a2⟩ := a
  obtain ⟨b1, b2⟩ := b
  simp
theorem eq_ag (d : Nat) (a b : Ag) (W : World) : (Op.equalIn (d + 4) 31 a.val b.val).run Try.prog W = .ok (decide (a = b)) W := by
  unfold Ag.val
  rw [run_equalIn_struct W (d + 3) 31 _ _ fields31 stood31]
  simp only [Program.fieldsOf, Try.underlying31]
  rw [ef_int (u := a.c) (v := b.c) (by simp) (by simp) (by simp) (ef_int (u := a.s) (v := b.s) (by simp) (by simp) (by simp) (ef_int (u := a.lo) (v := b.lo) (by simp) (by simp) (by simp) (ef_int (u := a.hi) (v := b.hi) (by simp) (by simp) (by simp)
    (ef_hist (d := d + 1) (a1 := a.b0) (a2 := a.b1) (a3 := a.b2) (a4 := a.b3) (b1 := b.b0) (b2 := b.b1) (b3 := b.b2) (b4 := b.b3) (by simp) (by simp) (by simp) (ef_nil _ _ _)))))]
  congr 1
  rw [Bool.eq_iff_iff]
  obtain ⟨a1, a2, a3, a4, a5, a6, a7, a8⟩ := a
  obtain ⟨b1, b2, b3, b4, b5, b6, b7, b8⟩ := b
  simp
theorem ef_ag {d : Nat} {xs ys : Array Value} {nm tg pk : String} {off bo : Nat} {em : Bool} {fs : List Field} {a b : Ag} {W : World} (hn : nm ≠ "_") (hu : .agg (xs.extract off (off + 8)) = a.val) (hv : .agg (ys.extract off (off + 8)) = b.val)
    {s : Bool} (hr : (Op.eqFields (d + 4) xs ys fs).run Try.prog W = .ok s W) : (Op.eqFields (d + 4) xs ys ({ name := nm, type := 31, offset := off, embedded := em, tag := tg, pkgPath := pk, byteOffset := bo } :: fs)).run Try.prog W = .ok (decide (a = b) && s) W := by
  refine ef_step (u := a.val) (v := b.val) hn ?_ ?_ ?_ hr
  · exact ((part_ag _ rfl).trans (by rw [hu]))
  · exact ((part_ag _ rfl).trans (by rw [hv]))
  · exact (eq_ag d a b W)
theorem eq_ot (d : Nat) (a b : Ot) (W : World) : (Op.equalIn (d + 6) 33 a.val b.val).run Try.prog W = .ok (decide (a = b)) W := by
  unfold Ot.val
  rw [run_equalIn_struct W (d + 5) 33 _ _ fields33 stood33]
  simp only [Program.fieldsOf, Try.underlying33]
  rw [ef_str (u := a.key) (v := b.key) (by simp) (by simp) (by simp) (ef_int (u := a.st) (v := b.st) (by simp) (by simp) (by simp) (ef_ag (d := d + 1) (a := a.ag) (b := b.ag) (by simp) (by simp [Ag.val]) (by simp [Ag.val]) (ef_nil _ _ _)))]
  congr 1
  rw [Bool.eq_iff_iff]
  obtain ⟨ak, at', ag⟩ := a
  obtain ⟨bk, bt, bg⟩ := b
  simp
theorem findAsking_wd (k : Wd) (W : World) : ∀ (es : List MapEntry) (ks : List Wd) (i : Nat), es.map (·.key) = ks.map ekW →
    (Instr.findAsking 95 (ekW k) es i).run Try.prog W = .ok ((pos k ks i).bind fun j => (es[j - i]?).map fun e => (j, e.val)) W
  | [], [], i, _ => by simp [Instr.findAsking, pos, Sem.run]
  | [], _ :: _, _, h => by simp at h
  | _ :: _, [], _, h => by simp at h
  | e :: es, x :: ks, i, h => by
    simp only [List.map_cons, List.cons.injEq] at h
    obtain ⟨h1, h2⟩ := h
    unfold Instr.findAsking pos
    have he : (Op.equal 95 (ekW k) e.key).run Try.prog W = .ok (decide (k = x)) W := by
      rw [h1]; exact eq_wd 9997 k x W
    simp only [Sem.run_bind, he, Result.andThen_ok]
    by_cases hk : k = x
    · simp [hk, Sem.run]
    · rw [if_neg hk]
      simp only [hk, decide_false, Bool.false_eq_true, if_false]
      rw [findAsking_wd k W es ks (i + 1) h2]
      cases hp : pos k ks (i + 1) with
      | none => rfl
      | some j =>
        have hj : i + 1 ≤ j := by
          rw [pos_add] at hp
          cases hq : pos k ks 0 with
          | none => simp [hq] at hp
          | some q => simp [hq] at hp; omega
        simp only [Option.bind_some]
        rw [show j - i = (j - (i + 1)) + 1 from by omega, List.getElem?_cons_succ]
theorem findNow_wd (fs : Array Field) (k : Wd) : ∀ (es : List MapEntry) (ks : List Wd) (i : Nat), es.map (·.key) = ks.map ekW → Instr.findNow (.struct fs) (ekW k) es i = if es = [] then some none else none
  | [], _, i, _ => by simp [Instr.findNow]
  | e :: es, [], _, h => by simp at h
  | e :: es, x :: ks, i, h => by
    simp only [List.map_cons, List.cons.injEq] at h
    unfold Instr.findNow
    rw [h.1]
    simp [Instr.sameNow, ekW]
/-- A window's name is a key. -/
theorem keyLaw_wd : KeyLaw Try.prog 95 ekW where
  check empty k W := by
    have h2 : ∀ n v, (Instr.checkKey empty (n + 1) 2 (.int .i64 v)).run Try.prog W = .ok () W := fun n v => by
      unfold Instr.checkKey; simp [Sem.run_bind, run_under Try.underlying2, Result.andThen, Sem.run]
    have h9 : ∀ n v, (Instr.checkKey empty (n + 1) 9 (.string v)).run Try.prog W = .ok () W := fun n v => by
      unfold Instr.checkKey; simp [Sem.run_bind, run_under Try.underlying9, Result.andThen, Sem.run]
    have p1 : (part 2 #[.int .i64 k.st, .string k.key] 0).run Try.prog W = .ok (.int .i64 k.st) W := part_int rfl
    have p2 : (part 9 #[.int .i64 k.st, .string k.key] 1).run Try.prog W = .ok (.string k.key) W := part_str rfl
    unfold Instr.checkKey ekW
    simp [Sem.run_bind, run_under Try.underlying95, Result.andThen, Sem.run, p1, p2, h2 9998, h9 9998]
  find k es ks W h := by
    have hn := findNow_wd (Try.prog.fieldsOf 95) k es ks 0 h
    have ha := findAsking_wd k W es ks 0 h
    unfold Instr.findKey
    simp only [Sem.run_bind, run_under fields95, Result.andThen_ok, hn]
    by_cases he : es = []
    · subst he
      cases ks with
      | nil => simp [pos, Sem.run]
      | cons x r => simp at h
    · rw [if_neg he]
      simpa using ha
  same k := by simp [Instr.sameBits, ekW, beq_ba]
end Go.Proofs.Ytmhbibcfbencnaa
