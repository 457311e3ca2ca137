/-
  No cell of these rows narrows 'for every input' (looked for: loops, veiled, ifaces, maps, wideKeys, modest, calm, conditions, laid).
  DERIVED. THE GIVEN ROWS OF THIS SEAT. 13 by the template 'for every input the law returns true; each argument reads behind the call as it read before'; 0 by the template 'total and deterministic' (their statements: YtmhbibcfbencnaaTotals.lean).
  GIVEN WITH THE SEED: the statements are not yours to turn. If you find one false, say at which input.
  Laid BY PROGRAM, IN A SANDBOX (cutbox-rows.mjs): the forced cells as the released guide's own fill.sh prints them over the translation 899613e922b497d3… (all of the seat's roots in one cut). By AI agents, Wed Nov 11 2026. No macro, syntax, notation, axiom, sorry.
-/
import Derived.Test.YtmhbibcfbencnaaChecked
import GoSem.Claim
import GoSem.ClaimJoined
import GoSem.ClaimMapViews
import Derived.JoinedTies
import Derived.KernelRfl
namespace Go.Proofs.Ytmhbibcfbencnaa
/- THE CELL 'sum', in the pinned program and in every row, IS THE sha256 OF THE DUMP (.gsa) THAT YtmhbibcfbencnaaProg.lean LOADS. Nothing in Lean hashes anything: it is a label: what it is worth is what the hold of that sum in a sandbox is worth. -/
noncomputable def Try.pinned : Pinned := { name := "ytmhbibcfbencnaa", sum := "899613e922b497d3942c1fea6dbda8711f18a9042750666c6dd514c0d87c8125", checked := Try.checked }
namespace Rows
def none {H : Type} : Left H := { results := [], args := [] }

/-- 'meterlaw09.StoreSums': WHATEVER THE INPUT: true; the input reads as it did. -/
def storeSumsSpec : ChangeSpec := { name := "storeSums", fn := fun _ => fun
  | [d1, d2, d3] => { results := [.lit (.bool true)], args := [d1, d2, d3] }
  | _ => none }
def storeSumsRow : OpenClaim := { program := "ytmhbibcfbencnaa", sum := "899613e922b497d3942c1fea6dbda8711f18a9042750666c6dd514c0d87c8125", func := "meter/meterlaw09.StoreSums", spec := "storeSums", unfollowed := true, recurses := true, plainKeys := false, apart := false }
def StoreSumsSaid : Prop := storeSumsRow.holds Try.pinned (OpenSpec.ofChange storeSumsSpec)

/-- ITS FALSE NEIGHBOUR: 'it returns false'. Refute it at one input. -/
def storeSumsWrong : ChangeSpec := { name := "storeSums", fn := fun _ => fun
  | [d1, d2, d3] => { results := [.lit (.bool false)], args := [d1, d2, d3] }
  | _ => none }
def StoreSumsWrongFalsely : Prop := storeSumsRow.holds Try.pinned (OpenSpec.ofChange storeSumsWrong)

/-- 'meterlaw10.TellOnce': WHATEVER THE INPUT: true; the input reads as it did. -/
def tellOnceSpec : ChangeSpec := { name := "tellOnce", fn := fun _ => fun
  | [d] => { results := [.lit (.bool true)], args := [d] }
  | _ => none }
def tellOnceRow : OpenClaim := { program := "ytmhbibcfbencnaa", sum := "899613e922b497d3942c1fea6dbda8711f18a9042750666c6dd514c0d87c8125", func := "meter/meterlaw10.TellOnce", spec := "tellOnce", unfollowed := true, recurses := true, plainKeys := false, apart := false }
def TellOnceSaid : Prop := tellOnceRow.holds Try.pinned (OpenSpec.ofChange tellOnceSpec)

/-- ITS FALSE NEIGHBOUR: 'it returns false'. Refute it at one input. -/
def tellOnceWrong : ChangeSpec := { name := "tellOnce", fn := fun _ => fun
  | [d] => { results := [.lit (.bool false)], args := [d] }
  | _ => none }
def TellOnceWrongFalsely : Prop := tellOnceRow.holds Try.pinned (OpenSpec.ofChange tellOnceWrong)

/-- 'meterlaw10.TellNobody': WHATEVER THE INPUT: true; the input reads as it did. -/
def tellNobodySpec : ChangeSpec := { name := "tellNobody", fn := fun _ => fun
  | [d1, d2, d3] => { results := [.lit (.bool true)], args := [d1, d2, d3] }
  | _ => none }
def tellNobodyRow : OpenClaim := { program := "ytmhbibcfbencnaa", sum := "899613e922b497d3942c1fea6dbda8711f18a9042750666c6dd514c0d87c8125", func := "meter/meterlaw10.TellNobody", spec := "tellNobody", inPlace := ["maps.clone"], unfollowed := true, recurses := true, plainKeys := false, apart := false }
def TellNobodySaid : Prop := tellNobodyRow.holds Try.pinned (OpenSpec.ofChange tellNobodySpec)

/-- ITS FALSE NEIGHBOUR: 'it returns false'. Refute it at one input. -/
def tellNobodyWrong : ChangeSpec := { name := "tellNobody", fn := fun _ => fun
  | [d1, d2, d3] => { results := [.lit (.bool false)], args := [d1, d2, d3] }
  | _ => none }
def TellNobodyWrongFalsely : Prop := tellNobodyRow.holds Try.pinned (OpenSpec.ofChange tellNobodyWrong)

/-- 'meterlaw10.TellSteps': WHATEVER THE INPUT: true; the input reads as it did. -/
def tellStepsSpec : ChangeSpec := { name := "tellSteps", fn := fun _ => fun
  | [d1, d2] => { results := [.lit (.bool true)], args := [d1, d2] }
  | _ => none }
def tellStepsRow : OpenClaim := { program := "ytmhbibcfbencnaa", sum := "899613e922b497d3942c1fea6dbda8711f18a9042750666c6dd514c0d87c8125", func := "meter/meterlaw10.TellSteps", spec := "tellSteps", inPlace := ["maps.clone"], unfollowed := true, recurses := true, plainKeys := false, apart := false }
def TellStepsSaid : Prop := tellStepsRow.holds Try.pinned (OpenSpec.ofChange tellStepsSpec)

/-- ITS FALSE NEIGHBOUR: 'it returns false'. Refute it at one input. -/
def tellStepsWrong : ChangeSpec := { name := "tellSteps", fn := fun _ => fun
  | [d1, d2] => { results := [.lit (.bool false)], args := [d1, d2] }
  | _ => none }
def TellStepsWrongFalsely : Prop := tellStepsRow.holds Try.pinned (OpenSpec.ofChange tellStepsWrong)

/-- 'meterlaw09.StorePlays': WHATEVER THE INPUT: true; the input reads as it did. -/
def storePlaysSpec : ChangeSpec := { name := "storePlays", fn := fun _ => fun
  | [d] => { results := [.lit (.bool true)], args := [d] }
  | _ => none }
def storePlaysRow : OpenClaim := { program := "ytmhbibcfbencnaa", sum := "899613e922b497d3942c1fea6dbda8711f18a9042750666c6dd514c0d87c8125", func := "meter/meterlaw09.StorePlays", spec := "storePlays", unfollowed := true, recurses := true, plainKeys := false, apart := false }
def StorePlaysSaid : Prop := storePlaysRow.holds Try.pinned (OpenSpec.ofChange storePlaysSpec)

/-- ITS FALSE NEIGHBOUR: 'it returns false'. Refute it at one input. -/
def storePlaysWrong : ChangeSpec := { name := "storePlays", fn := fun _ => fun
  | [d] => { results := [.lit (.bool false)], args := [d] }
  | _ => none }
def StorePlaysWrongFalsely : Prop := storePlaysRow.holds Try.pinned (OpenSpec.ofChange storePlaysWrong)

/-- 'meterlaw09.StoreKnown': WHATEVER THE INPUT: true; the input reads as it did. -/
def storeKnownSpec : ChangeSpec := { name := "storeKnown", fn := fun _ => fun
  | [] => { results := [.lit (.bool true)], args := [] }
  | _ => none }
def storeKnownRow : OpenClaim := { program := "ytmhbibcfbencnaa", sum := "899613e922b497d3942c1fea6dbda8711f18a9042750666c6dd514c0d87c8125", func := "meter/meterlaw09.StoreKnown", spec := "storeKnown", unfollowed := true, recurses := true, plainKeys := false, apart := false }
def StoreKnownSaid : Prop := storeKnownRow.holds Try.pinned (OpenSpec.ofChange storeKnownSpec)

/-- ITS FALSE NEIGHBOUR: 'it returns false'. Refute it at one input. -/
def storeKnownWrong : ChangeSpec := { name := "storeKnown", fn := fun _ => fun
  | [] => { results := [.lit (.bool false)], args := [] }
  | _ => none }
def StoreKnownWrongFalsely : Prop := storeKnownRow.holds Try.pinned (OpenSpec.ofChange storeKnownWrong)

/-- 'meterlaw09.StoreRefuses': WHATEVER THE INPUT: true; the input reads as it did. -/
def storeRefusesSpec : ChangeSpec := { name := "storeRefuses", fn := fun _ => fun
  | [d1, d2, d3, d4] => { results := [.lit (.bool true)], args := [d1, d2, d3, d4] }
  | _ => none }
def storeRefusesRow : OpenClaim := { program := "ytmhbibcfbencnaa", sum := "899613e922b497d3942c1fea6dbda8711f18a9042750666c6dd514c0d87c8125", func := "meter/meterlaw09.StoreRefuses", spec := "storeRefuses", unfollowed := true, recurses := true, plainKeys := false, apart := false }
def StoreRefusesSaid : Prop := storeRefusesRow.holds Try.pinned (OpenSpec.ofChange storeRefusesSpec)

/-- ITS FALSE NEIGHBOUR: 'it returns false'. Refute it at one input. -/
def storeRefusesWrong : ChangeSpec := { name := "storeRefuses", fn := fun _ => fun
  | [d1, d2, d3, d4] => { results := [.lit (.bool false)], args := [d1, d2, d3, d4] }
  | _ => none }
def StoreRefusesWrongFalsely : Prop := storeRefusesRow.holds Try.pinned (OpenSpec.ofChange storeRefusesWrong)

/-- 'meterlaw09.StoreNobody': WHATEVER THE INPUT: true; the input reads as it did. -/
def storeNobodySpec : ChangeSpec := { name := "storeNobody", fn := fun _ => fun
  | [d1, d2, d3, d4] => { results := [.lit (.bool true)], args := [d1, d2, d3, d4] }
  | _ => none }
def storeNobodyRow : OpenClaim := { program := "ytmhbibcfbencnaa", sum := "899613e922b497d3942c1fea6dbda8711f18a9042750666c6dd514c0d87c8125", func := "meter/meterlaw09.StoreNobody", spec := "storeNobody", inPlace := ["maps.clone"], unfollowed := true, recurses := true, plainKeys := false, apart := false }
def StoreNobodySaid : Prop := storeNobodyRow.holds Try.pinned (OpenSpec.ofChange storeNobodySpec)

/-- ITS FALSE NEIGHBOUR: 'it returns false'. Refute it at one input. -/
def storeNobodyWrong : ChangeSpec := { name := "storeNobody", fn := fun _ => fun
  | [d1, d2, d3, d4] => { results := [.lit (.bool false)], args := [d1, d2, d3, d4] }
  | _ => none }
def StoreNobodyWrongFalsely : Prop := storeNobodyRow.holds Try.pinned (OpenSpec.ofChange storeNobodyWrong)

/-- 'meterlaw09.StoreTwin': WHATEVER THE INPUT: true; the input reads as it did. -/
def storeTwinSpec : ChangeSpec := { name := "storeTwin", fn := fun _ => fun
  | [d1, d2] => { results := [.lit (.bool true)], args := [d1, d2] }
  | _ => none }
def storeTwinRow : OpenClaim := { program := "ytmhbibcfbencnaa", sum := "899613e922b497d3942c1fea6dbda8711f18a9042750666c6dd514c0d87c8125", func := "meter/meterlaw09.StoreTwin", spec := "storeTwin", inPlace := ["maps.clone"], unfollowed := true, recurses := true, plainKeys := false, apart := false }
def StoreTwinSaid : Prop := storeTwinRow.holds Try.pinned (OpenSpec.ofChange storeTwinSpec)

/-- ITS FALSE NEIGHBOUR: 'it returns false'. Refute it at one input. -/
def storeTwinWrong : ChangeSpec := { name := "storeTwin", fn := fun _ => fun
  | [d1, d2] => { results := [.lit (.bool false)], args := [d1, d2] }
  | _ => none }
def StoreTwinWrongFalsely : Prop := storeTwinRow.holds Try.pinned (OpenSpec.ofChange storeTwinWrong)

/-- 'meterlaw09.StoreApart': WHATEVER THE INPUT: true; the input reads as it did. -/
def storeApartSpec : ChangeSpec := { name := "storeApart", fn := fun _ => fun
  | [d1, d2, d3, d4, d5, d6, d7] => { results := [.lit (.bool true)], args := [d1, d2, d3, d4, d5, d6, d7] }
  | _ => none }
def storeApartRow : OpenClaim := { program := "ytmhbibcfbencnaa", sum := "899613e922b497d3942c1fea6dbda8711f18a9042750666c6dd514c0d87c8125", func := "meter/meterlaw09.StoreApart", spec := "storeApart", inPlace := ["maps.clone"], unfollowed := true, recurses := true, plainKeys := false, apart := false }
def StoreApartSaid : Prop := storeApartRow.holds Try.pinned (OpenSpec.ofChange storeApartSpec)

/-- ITS FALSE NEIGHBOUR: 'it returns false'. Refute it at one input. -/
def storeApartWrong : ChangeSpec := { name := "storeApart", fn := fun _ => fun
  | [d1, d2, d3, d4, d5, d6, d7] => { results := [.lit (.bool false)], args := [d1, d2, d3, d4, d5, d6, d7] }
  | _ => none }
def StoreApartWrongFalsely : Prop := storeApartRow.holds Try.pinned (OpenSpec.ofChange storeApartWrong)

/-- 'meterlaw10.TellKnown': WHATEVER THE INPUT: true; the input reads as it did. -/
def tellKnownSpec : ChangeSpec := { name := "tellKnown", fn := fun _ => fun
  | [] => { results := [.lit (.bool true)], args := [] }
  | _ => none }
def tellKnownRow : OpenClaim := { program := "ytmhbibcfbencnaa", sum := "899613e922b497d3942c1fea6dbda8711f18a9042750666c6dd514c0d87c8125", func := "meter/meterlaw10.TellKnown", spec := "tellKnown", unfollowed := true, recurses := true, plainKeys := false, apart := false }
def TellKnownSaid : Prop := tellKnownRow.holds Try.pinned (OpenSpec.ofChange tellKnownSpec)

/-- ITS FALSE NEIGHBOUR: 'it returns false'. Refute it at one input. -/
def tellKnownWrong : ChangeSpec := { name := "tellKnown", fn := fun _ => fun
  | [] => { results := [.lit (.bool false)], args := [] }
  | _ => none }
def TellKnownWrongFalsely : Prop := tellKnownRow.holds Try.pinned (OpenSpec.ofChange tellKnownWrong)

/-- 'meterlaw10.TellPlays': WHATEVER THE INPUT: true; the input reads as it did. -/
def tellPlaysSpec : ChangeSpec := { name := "tellPlays", fn := fun _ => fun
  | [d1, d2, d3] => { results := [.lit (.bool true)], args := [d1, d2, d3] }
  | _ => none }
def tellPlaysRow : OpenClaim := { program := "ytmhbibcfbencnaa", sum := "899613e922b497d3942c1fea6dbda8711f18a9042750666c6dd514c0d87c8125", func := "meter/meterlaw10.TellPlays", spec := "tellPlays", unfollowed := true, recurses := true, plainKeys := false, apart := false }
def TellPlaysSaid : Prop := tellPlaysRow.holds Try.pinned (OpenSpec.ofChange tellPlaysSpec)

/-- ITS FALSE NEIGHBOUR: 'it returns false'. Refute it at one input. -/
def tellPlaysWrong : ChangeSpec := { name := "tellPlays", fn := fun _ => fun
  | [d1, d2, d3] => { results := [.lit (.bool false)], args := [d1, d2, d3] }
  | _ => none }
def TellPlaysWrongFalsely : Prop := tellPlaysRow.holds Try.pinned (OpenSpec.ofChange tellPlaysWrong)

/-- 'meterlaw10.TellTwin': WHATEVER THE INPUT: true; the input reads as it did. -/
def tellTwinSpec : ChangeSpec := { name := "tellTwin", fn := fun _ => fun
  | [d1, d2] => { results := [.lit (.bool true)], args := [d1, d2] }
  | _ => none }
def tellTwinRow : OpenClaim := { program := "ytmhbibcfbencnaa", sum := "899613e922b497d3942c1fea6dbda8711f18a9042750666c6dd514c0d87c8125", func := "meter/meterlaw10.TellTwin", spec := "tellTwin", inPlace := ["maps.clone"], unfollowed := true, recurses := true, plainKeys := false, apart := false }
def TellTwinSaid : Prop := tellTwinRow.holds Try.pinned (OpenSpec.ofChange tellTwinSpec)

/-- ITS FALSE NEIGHBOUR: 'it returns false'. Refute it at one input. -/
def tellTwinWrong : ChangeSpec := { name := "tellTwin", fn := fun _ => fun
  | [d1, d2] => { results := [.lit (.bool false)], args := [d1, d2] }
  | _ => none }
def TellTwinWrongFalsely : Prop := tellTwinRow.holds Try.pinned (OpenSpec.ofChange tellTwinWrong)

/- THE SECOND FORM. 'bulk': how many values and letters a reading holds, each counted each time it is reached (what is shared counts as often as it is met; a slice's spare places count too). A statement '..UptoSaid' is the law's where the arguments, and the package variables that the reading takes, are together of bulk at most 1048576: NARROWER than '..Said'. Prove '..Said' where nothing that the law and all that it calls make is longer than what came in: it says more and counts as full. Else prove '..UptoSaid'. A law counts once. -/
mutual
def uptoBulk {H : Type} : DataW H → Nat
  | .lit (.string bytes) => bytes.length + 1
  | .lit _ => 1
  | .nil => 1
  | .ptr d => uptoBulk d + 1
  | .slice elems spare => uptoBulkAll elems + uptoBulkAll spare + 1
  | .agg parts => uptoBulkAll parts + 1
  | .iface _ d => uptoBulk d + 1
  | .map entries => uptoBulkEntries entries + 1
  | .held _ => 1
def uptoBulkAll {H : Type} : List (DataW H) → Nat
  | [] => 0
  | d :: r => uptoBulk d + uptoBulkAll r
def uptoBulkEntries {H : Type} : List (Lit × DataW H) → Nat
  | [] => 0
  | x :: r => uptoBulkEntry x + uptoBulkEntries r
def uptoBulkEntry {H : Type} : Lit × DataW H → Nat
  | (.string bytes, d) => bytes.length + uptoBulk d + 1
  | (_, d) => uptoBulk d + 1
 end
def uptoSmall : (H : Type) → List (DataW H) → Bool := fun _ ds => decide (uptoBulkAll ds ≤ 1048576)
def OpenSpec.upto (s : _root_.Go.ChangeSpec) : _root_.Go.OpenSpec := { _root_.Go.OpenSpec.ofChange s with cond := some uptoSmall }

/-- 'meterlaw09.StoreSums', WHERE WHAT IT READS IS OF BULK AT MOST 1048576: true; the input reads as it did. -/
def storeSumsUptoRow : OpenClaim := { program := "ytmhbibcfbencnaa", sum := "899613e922b497d3942c1fea6dbda8711f18a9042750666c6dd514c0d87c8125", func := "meter/meterlaw09.StoreSums", spec := "storeSums", unfollowed := true, recurses := true, plainKeys := false, apart := false, narrowed := true }
def StoreSumsUptoSaid : Prop := storeSumsUptoRow.holds Try.pinned (OpenSpec.upto storeSumsSpec)

/-- 'meterlaw10.TellOnce', WHERE WHAT IT READS IS OF BULK AT MOST 1048576: true; the input reads as it did. -/
def tellOnceUptoRow : OpenClaim := { program := "ytmhbibcfbencnaa", sum := "899613e922b497d3942c1fea6dbda8711f18a9042750666c6dd514c0d87c8125", func := "meter/meterlaw10.TellOnce", spec := "tellOnce", unfollowed := true, recurses := true, plainKeys := false, apart := false, narrowed := true }
def TellOnceUptoSaid : Prop := tellOnceUptoRow.holds Try.pinned (OpenSpec.upto tellOnceSpec)

/-- 'meterlaw10.TellNobody', WHERE WHAT IT READS IS OF BULK AT MOST 1048576: true; the input reads as it did. -/
def tellNobodyUptoRow : OpenClaim := { program := "ytmhbibcfbencnaa", sum := "899613e922b497d3942c1fea6dbda8711f18a9042750666c6dd514c0d87c8125", func := "meter/meterlaw10.TellNobody", spec := "tellNobody", inPlace := ["maps.clone"], unfollowed := true, recurses := true, plainKeys := false, apart := false, narrowed := true }
def TellNobodyUptoSaid : Prop := tellNobodyUptoRow.holds Try.pinned (OpenSpec.upto tellNobodySpec)

/-- 'meterlaw10.TellSteps', WHERE WHAT IT READS IS OF BULK AT MOST 1048576: true; the input reads as it did. -/
def tellStepsUptoRow : OpenClaim := { program := "ytmhbibcfbencnaa", sum := "899613e922b497d3942c1fea6dbda8711f18a9042750666c6dd514c0d87c8125", func := "meter/meterlaw10.TellSteps", spec := "tellSteps", inPlace := ["maps.clone"], unfollowed := true, recurses := true, plainKeys := false, apart := false, narrowed := true }
def TellStepsUptoSaid : Prop := tellStepsUptoRow.holds Try.pinned (OpenSpec.upto tellStepsSpec)

/-- 'meterlaw09.StorePlays', WHERE WHAT IT READS IS OF BULK AT MOST 1048576: true; the input reads as it did. -/
def storePlaysUptoRow : OpenClaim := { program := "ytmhbibcfbencnaa", sum := "899613e922b497d3942c1fea6dbda8711f18a9042750666c6dd514c0d87c8125", func := "meter/meterlaw09.StorePlays", spec := "storePlays", unfollowed := true, recurses := true, plainKeys := false, apart := false, narrowed := true }
def StorePlaysUptoSaid : Prop := storePlaysUptoRow.holds Try.pinned (OpenSpec.upto storePlaysSpec)

/-- 'meterlaw09.StoreKnown', WHERE WHAT IT READS IS OF BULK AT MOST 1048576: true; the input reads as it did. -/
def storeKnownUptoRow : OpenClaim := { program := "ytmhbibcfbencnaa", sum := "899613e922b497d3942c1fea6dbda8711f18a9042750666c6dd514c0d87c8125", func := "meter/meterlaw09.StoreKnown", spec := "storeKnown", unfollowed := true, recurses := true, plainKeys := false, apart := false, narrowed := true }
def StoreKnownUptoSaid : Prop := storeKnownUptoRow.holds Try.pinned (OpenSpec.upto storeKnownSpec)

/-- 'meterlaw09.StoreRefuses', WHERE WHAT IT READS IS OF BULK AT MOST 1048576: true; the input reads as it did. -/
def storeRefusesUptoRow : OpenClaim := { program := "ytmhbibcfbencnaa", sum := "899613e922b497d3942c1fea6dbda8711f18a9042750666c6dd514c0d87c8125", func := "meter/meterlaw09.StoreRefuses", spec := "storeRefuses", unfollowed := true, recurses := true, plainKeys := false, apart := false, narrowed := true }
def StoreRefusesUptoSaid : Prop := storeRefusesUptoRow.holds Try.pinned (OpenSpec.upto storeRefusesSpec)

/-- 'meterlaw09.StoreNobody', WHERE WHAT IT READS IS OF BULK AT MOST 1048576: true; the input reads as it did. -/
def storeNobodyUptoRow : OpenClaim := { program := "ytmhbibcfbencnaa", sum := "899613e922b497d3942c1fea6dbda8711f18a9042750666c6dd514c0d87c8125", func := "meter/meterlaw09.StoreNobody", spec := "storeNobody", inPlace := ["maps.clone"], unfollowed := true, recurses := true, plainKeys := false, apart := false, narrowed := true }
def StoreNobodyUptoSaid : Prop := storeNobodyUptoRow.holds Try.pinned (OpenSpec.upto storeNobodySpec)

/-- 'meterlaw09.StoreTwin', WHERE WHAT IT READS IS OF BULK AT MOST 1048576: true; the input reads as it did. -/
def storeTwinUptoRow : OpenClaim := { program := "ytmhbibcfbencnaa", sum := "899613e922b497d3942c1fea6dbda8711f18a9042750666c6dd514c0d87c8125", func := "meter/meterlaw09.StoreTwin", spec := "storeTwin", inPlace := ["maps.clone"], unfollowed := true, recurses := true, plainKeys := false, apart := false, narrowed := true }
def StoreTwinUptoSaid : Prop := storeTwinUptoRow.holds Try.pinned (OpenSpec.upto storeTwinSpec)

/-- 'meterlaw09.StoreApart', WHERE WHAT IT READS IS OF BULK AT MOST 1048576: true; the input reads as it did. -/
def storeApartUptoRow : OpenClaim := { program := "ytmhbibcfbencnaa", sum := "899613e922b497d3942c1fea6dbda8711f18a9042750666c6dd514c0d87c8125", func := "meter/meterlaw09.StoreApart", spec := "storeApart", inPlace := ["maps.clone"], unfollowed := true, recurses := true, plainKeys := false, apart := false, narrowed := true }
def StoreApartUptoSaid : Prop := storeApartUptoRow.holds Try.pinned (OpenSpec.upto storeApartSpec)

/-- 'meterlaw10.TellKnown', WHERE WHAT IT READS IS OF BULK AT MOST 1048576: true; the input reads as it did. -/
def tellKnownUptoRow : OpenClaim := { program := "ytmhbibcfbencnaa", sum := "899613e922b497d3942c1fea6dbda8711f18a9042750666c6dd514c0d87c8125", func := "meter/meterlaw10.TellKnown", spec := "tellKnown", unfollowed := true, recurses := true, plainKeys := false, apart := false, narrowed := true }
def TellKnownUptoSaid : Prop := tellKnownUptoRow.holds Try.pinned (OpenSpec.upto tellKnownSpec)

/-- 'meterlaw10.TellPlays', WHERE WHAT IT READS IS OF BULK AT MOST 1048576: true; the input reads as it did. -/
def tellPlaysUptoRow : OpenClaim := { program := "ytmhbibcfbencnaa", sum := "899613e922b497d3942c1fea6dbda8711f18a9042750666c6dd514c0d87c8125", func := "meter/meterlaw10.TellPlays", spec := "tellPlays", unfollowed := true, recurses := true, plainKeys := false, apart := false, narrowed := true }
def TellPlaysUptoSaid : Prop := tellPlaysUptoRow.holds Try.pinned (OpenSpec.upto tellPlaysSpec)

/-- 'meterlaw10.TellTwin', WHERE WHAT IT READS IS OF BULK AT MOST 1048576: true; the input reads as it did. -/
def tellTwinUptoRow : OpenClaim := { program := "ytmhbibcfbencnaa", sum := "899613e922b497d3942c1fea6dbda8711f18a9042750666c6dd514c0d87c8125", func := "meter/meterlaw10.TellTwin", spec := "tellTwin", inPlace := ["maps.clone"], unfollowed := true, recurses := true, plainKeys := false, apart := false, narrowed := true }
def TellTwinUptoSaid : Prop := tellTwinUptoRow.holds Try.pinned (OpenSpec.upto tellTwinSpec)

end Rows
end Go.Proofs.Ytmhbibcfbencnaa
