/-
  No cell of these rows narrows 'for every input' (looked for: loops, veiled, ifaces, maps, wideKeys, modest, calm, conditions, laid).
  DERIVED. THE GIVEN ROWS OF THIS SEAT. 12 by the template 'for every input the law returns true; each argument reads behind the call as it read before'; 0 by the template 'total and deterministic' (their statements: YtbkbekdeplolnaaTotals.lean).
  GIVEN WITH THE SEED: the statements are not yours to turn. If you find one false, say at which input.
  Laid BY PROGRAM, IN A SANDBOX (cutbox-rows.mjs): the forced cells as the released guide's own fill.sh prints them over the translation 650200cc031c8a42… (all of the seat's roots in one cut). By AI agents, Wed Nov 11 2026. No macro, syntax, notation, axiom, sorry.
-/
import Derived.Test.YtbkbekdeplolnaaChecked
import GoSem.Claim
import GoSem.ClaimJoined
import GoSem.ClaimMapViews
import Derived.JoinedTies
import Derived.KernelRfl
namespace Go.Proofs.Ytbkbekdeplolnaa
/- THE CELL 'sum', in the pinned program and in every row, IS THE sha256 OF THE DUMP (.gsa) THAT YtbkbekdeplolnaaProg.lean LOADS. Nothing in Lean hashes anything: it is a label: what it is worth is what the hold of that sum in a sandbox is worth. -/
noncomputable def Try.pinned : Pinned := { name := "ytbkbekdeplolnaa", sum := "650200cc031c8a42b7a3524ae71665e88f5d7c3ab167c2fc5d43fc1bdddb5cb5", checked := Try.checked }
namespace Rows
def none {H : Type} : Left H := { results := [], args := [] }

/-- 'meterlaw08.SpanTells': WHATEVER THE INPUT: true; the input reads as it did. -/
def spanTellsSpec : ChangeSpec := { name := "spanTells", fn := fun _ => fun
  | [d1, d2] => { results := [.lit (.bool true)], args := [d1, d2] }
  | _ => none }
def spanTellsRow : OpenClaim := { program := "ytbkbekdeplolnaa", sum := "650200cc031c8a42b7a3524ae71665e88f5d7c3ab167c2fc5d43fc1bdddb5cb5", func := "meter/meterlaw08.SpanTells", spec := "spanTells", unfollowed := true, recurses := true, apart := false }
def SpanTellsSaid : Prop := spanTellsRow.holds Try.pinned (OpenSpec.ofChange spanTellsSpec)

/-- ITS FALSE NEIGHBOUR: 'it returns false'. Refute it at one input. -/
def spanTellsWrong : ChangeSpec := { name := "spanTells", fn := fun _ => fun
  | [d1, d2] => { results := [.lit (.bool false)], args := [d1, d2] }
  | _ => none }
def SpanTellsWrongFalsely : Prop := spanTellsRow.holds Try.pinned (OpenSpec.ofChange spanTellsWrong)

/-- 'meterlaw08.SpanStarts': WHATEVER THE INPUT: true; the input reads as it did. -/
def spanStartsSpec : ChangeSpec := { name := "spanStarts", fn := fun _ => fun
  | [d1, d2, d3] => { results := [.lit (.bool true)], args := [d1, d2, d3] }
  | _ => none }
def spanStartsRow : OpenClaim := { program := "ytbkbekdeplolnaa", sum := "650200cc031c8a42b7a3524ae71665e88f5d7c3ab167c2fc5d43fc1bdddb5cb5", func := "meter/meterlaw08.SpanStarts", spec := "spanStarts", unfollowed := true, recurses := true, apart := false }
def SpanStartsSaid : Prop := spanStartsRow.holds Try.pinned (OpenSpec.ofChange spanStartsSpec)

/-- ITS FALSE NEIGHBOUR: 'it returns false'. Refute it at one input. -/
def spanStartsWrong : ChangeSpec := { name := "spanStarts", fn := fun _ => fun
  | [d1, d2, d3] => { results := [.lit (.bool false)], args := [d1, d2, d3] }
  | _ => none }
def SpanStartsWrongFalsely : Prop := spanStartsRow.holds Try.pinned (OpenSpec.ofChange spanStartsWrong)

/-- 'meterlaw08.SpanParts': WHATEVER THE INPUT: true; the input reads as it did. -/
def spanPartsSpec : ChangeSpec := { name := "spanParts", fn := fun _ => fun
  | [d1, d2, d3] => { results := [.lit (.bool true)], args := [d1, d2, d3] }
  | _ => none }
def spanPartsRow : OpenClaim := { program := "ytbkbekdeplolnaa", sum := "650200cc031c8a42b7a3524ae71665e88f5d7c3ab167c2fc5d43fc1bdddb5cb5", func := "meter/meterlaw08.SpanParts", spec := "spanParts", unfollowed := true, recurses := true, apart := false }
def SpanPartsSaid : Prop := spanPartsRow.holds Try.pinned (OpenSpec.ofChange spanPartsSpec)

/-- ITS FALSE NEIGHBOUR: 'it returns false'. Refute it at one input. -/
def spanPartsWrong : ChangeSpec := { name := "spanParts", fn := fun _ => fun
  | [d1, d2, d3] => { results := [.lit (.bool false)], args := [d1, d2, d3] }
  | _ => none }
def SpanPartsWrongFalsely : Prop := spanPartsRow.holds Try.pinned (OpenSpec.ofChange spanPartsWrong)

/-- 'meterlaw08.SpanSince': WHATEVER THE INPUT: true; the input reads as it did. -/
def spanSinceSpec : ChangeSpec := { name := "spanSince", fn := fun _ => fun
  | [d1, d2, d3] => { results := [.lit (.bool true)], args := [d1, d2, d3] }
  | _ => none }
def spanSinceRow : OpenClaim := { program := "ytbkbekdeplolnaa", sum := "650200cc031c8a42b7a3524ae71665e88f5d7c3ab167c2fc5d43fc1bdddb5cb5", func := "meter/meterlaw08.SpanSince", spec := "spanSince", unfollowed := true, recurses := true, apart := false }
def SpanSinceSaid : Prop := spanSinceRow.holds Try.pinned (OpenSpec.ofChange spanSinceSpec)

/-- ITS FALSE NEIGHBOUR: 'it returns false'. Refute it at one input. -/
def spanSinceWrong : ChangeSpec := { name := "spanSince", fn := fun _ => fun
  | [d1, d2, d3] => { results := [.lit (.bool false)], args := [d1, d2, d3] }
  | _ => none }
def SpanSinceWrongFalsely : Prop := spanSinceRow.holds Try.pinned (OpenSpec.ofChange spanSinceWrong)

/-- 'meterlaw08.SpanKnown': WHATEVER THE INPUT: true; the input reads as it did. -/
def spanKnownSpec : ChangeSpec := { name := "spanKnown", fn := fun _ => fun
  | [] => { results := [.lit (.bool true)], args := [] }
  | _ => none }
def spanKnownRow : OpenClaim := { program := "ytbkbekdeplolnaa", sum := "650200cc031c8a42b7a3524ae71665e88f5d7c3ab167c2fc5d43fc1bdddb5cb5", func := "meter/meterlaw08.SpanKnown", spec := "spanKnown", unfollowed := true, recurses := true, apart := false }
def SpanKnownSaid : Prop := spanKnownRow.holds Try.pinned (OpenSpec.ofChange spanKnownSpec)

/-- ITS FALSE NEIGHBOUR: 'it returns false'. Refute it at one input. -/
def spanKnownWrong : ChangeSpec := { name := "spanKnown", fn := fun _ => fun
  | [] => { results := [.lit (.bool false)], args := [] }
  | _ => none }
def SpanKnownWrongFalsely : Prop := spanKnownRow.holds Try.pinned (OpenSpec.ofChange spanKnownWrong)

/-- 'meterlaw08.SpanNext': WHATEVER THE INPUT: true; the input reads as it did. -/
def spanNextSpec : ChangeSpec := { name := "spanNext", fn := fun _ => fun
  | [d1, d2, d3] => { results := [.lit (.bool true)], args := [d1, d2, d3] }
  | _ => none }
def spanNextRow : OpenClaim := { program := "ytbkbekdeplolnaa", sum := "650200cc031c8a42b7a3524ae71665e88f5d7c3ab167c2fc5d43fc1bdddb5cb5", func := "meter/meterlaw08.SpanNext", spec := "spanNext", unfollowed := true, recurses := true, apart := false }
def SpanNextSaid : Prop := spanNextRow.holds Try.pinned (OpenSpec.ofChange spanNextSpec)

/-- ITS FALSE NEIGHBOUR: 'it returns false'. Refute it at one input. -/
def spanNextWrong : ChangeSpec := { name := "spanNext", fn := fun _ => fun
  | [d1, d2, d3] => { results := [.lit (.bool false)], args := [d1, d2, d3] }
  | _ => none }
def SpanNextWrongFalsely : Prop := spanNextRow.holds Try.pinned (OpenSpec.ofChange spanNextWrong)

/-- 'meterlaw08.SpanSteps': WHATEVER THE INPUT: true; the input reads as it did. -/
def spanStepsSpec : ChangeSpec := { name := "spanSteps", fn := fun _ => fun
  | [d1, d2, d3] => { results := [.lit (.bool true)], args := [d1, d2, d3] }
  | _ => none }
def spanStepsRow : OpenClaim := { program := "ytbkbekdeplolnaa", sum := "650200cc031c8a42b7a3524ae71665e88f5d7c3ab167c2fc5d43fc1bdddb5cb5", func := "meter/meterlaw08.SpanSteps", spec := "spanSteps", unfollowed := true, recurses := true, apart := false }
def SpanStepsSaid : Prop := spanStepsRow.holds Try.pinned (OpenSpec.ofChange spanStepsSpec)

/-- ITS FALSE NEIGHBOUR: 'it returns false'. Refute it at one input. -/
def spanStepsWrong : ChangeSpec := { name := "spanSteps", fn := fun _ => fun
  | [d1, d2, d3] => { results := [.lit (.bool false)], args := [d1, d2, d3] }
  | _ => none }
def SpanStepsWrongFalsely : Prop := spanStepsRow.holds Try.pinned (OpenSpec.ofChange spanStepsWrong)

/-- 'meterlaw19.MovesNumbers': WHATEVER THE INPUT: true; the input reads as it did. -/
def movesNumbersSpec : ChangeSpec := { name := "movesNumbers", fn := fun _ => fun
  | [d] => { results := [.lit (.bool true)], args := [d] }
  | _ => none }
def movesNumbersRow : OpenClaim := { program := "ytbkbekdeplolnaa", sum := "650200cc031c8a42b7a3524ae71665e88f5d7c3ab167c2fc5d43fc1bdddb5cb5", func := "meter/meterlaw19.MovesNumbers", spec := "movesNumbers", unfollowed := true, recurses := true, apart := false }
def MovesNumbersSaid : Prop := movesNumbersRow.holds Try.pinned (OpenSpec.ofChange movesNumbersSpec)

/-- ITS FALSE NEIGHBOUR: 'it returns false'. Refute it at one input. -/
def movesNumbersWrong : ChangeSpec := { name := "movesNumbers", fn := fun _ => fun
  | [d] => { results := [.lit (.bool false)], args := [d] }
  | _ => none }
def MovesNumbersWrongFalsely : Prop := movesNumbersRow.holds Try.pinned (OpenSpec.ofChange movesNumbersWrong)

/-- 'meterlaw19.MovesKnown': WHATEVER THE INPUT: true; the input reads as it did. -/
def movesKnownSpec : ChangeSpec := { name := "movesKnown", fn := fun _ => fun
  | [] => { results := [.lit (.bool true)], args := [] }
  | _ => none }
def movesKnownRow : OpenClaim := { program := "ytbkbekdeplolnaa", sum := "650200cc031c8a42b7a3524ae71665e88f5d7c3ab167c2fc5d43fc1bdddb5cb5", func := "meter/meterlaw19.MovesKnown", spec := "movesKnown", unfollowed := true, recurses := true, apart := false }
def MovesKnownSaid : Prop := movesKnownRow.holds Try.pinned (OpenSpec.ofChange movesKnownSpec)

/-- ITS FALSE NEIGHBOUR: 'it returns false'. Refute it at one input. -/
def movesKnownWrong : ChangeSpec := { name := "movesKnown", fn := fun _ => fun
  | [] => { results := [.lit (.bool false)], args := [] }
  | _ => none }
def MovesKnownWrongFalsely : Prop := movesKnownRow.holds Try.pinned (OpenSpec.ofChange movesKnownWrong)

/-- 'meterlaw19.MovesPlays': WHATEVER THE INPUT: true; the input reads as it did. -/
def movesPlaysSpec : ChangeSpec := { name := "movesPlays", fn := fun _ => fun
  | [d1, d2] => { results := [.lit (.bool true)], args := [d1, d2] }
  | _ => none }
def movesPlaysRow : OpenClaim := { program := "ytbkbekdeplolnaa", sum := "650200cc031c8a42b7a3524ae71665e88f5d7c3ab167c2fc5d43fc1bdddb5cb5", func := "meter/meterlaw19.MovesPlays", spec := "movesPlays", unfollowed := true, recurses := true, apart := false }
def MovesPlaysSaid : Prop := movesPlaysRow.holds Try.pinned (OpenSpec.ofChange movesPlaysSpec)

/-- ITS FALSE NEIGHBOUR: 'it returns false'. Refute it at one input. -/
def movesPlaysWrong : ChangeSpec := { name := "movesPlays", fn := fun _ => fun
  | [d1, d2] => { results := [.lit (.bool false)], args := [d1, d2] }
  | _ => none }
def MovesPlaysWrongFalsely : Prop := movesPlaysRow.holds Try.pinned (OpenSpec.ofChange movesPlaysWrong)

/-- 'meterlaw19.MovesOne': WHATEVER THE INPUT: true; the input reads as it did. -/
def movesOneSpec : ChangeSpec := { name := "movesOne", fn := fun _ => fun
  | [d] => { results := [.lit (.bool true)], args := [d] }
  | _ => none }
def movesOneRow : OpenClaim := { program := "ytbkbekdeplolnaa", sum := "650200cc031c8a42b7a3524ae71665e88f5d7c3ab167c2fc5d43fc1bdddb5cb5", func := "meter/meterlaw19.MovesOne", spec := "movesOne", unfollowed := true, recurses := true, apart := false }
def MovesOneSaid : Prop := movesOneRow.holds Try.pinned (OpenSpec.ofChange movesOneSpec)

/-- ITS FALSE NEIGHBOUR: 'it returns false'. Refute it at one input. -/
def movesOneWrong : ChangeSpec := { name := "movesOne", fn := fun _ => fun
  | [d] => { results := [.lit (.bool false)], args := [d] }
  | _ => none }
def MovesOneWrongFalsely : Prop := movesOneRow.holds Try.pinned (OpenSpec.ofChange movesOneWrong)

/-- 'meterlaw19.MovesApart': WHATEVER THE INPUT: true; the input reads as it did. -/
def movesApartSpec : ChangeSpec := { name := "movesApart", fn := fun _ => fun
  | [d] => { results := [.lit (.bool true)], args := [d] }
  | _ => none }
def movesApartRow : OpenClaim := { program := "ytbkbekdeplolnaa", sum := "650200cc031c8a42b7a3524ae71665e88f5d7c3ab167c2fc5d43fc1bdddb5cb5", func := "meter/meterlaw19.MovesApart", spec := "movesApart", unfollowed := true, recurses := true, apart := false }
def MovesApartSaid : Prop := movesApartRow.holds Try.pinned (OpenSpec.ofChange movesApartSpec)

/-- ITS FALSE NEIGHBOUR: 'it returns false'. Refute it at one input. -/
def movesApartWrong : ChangeSpec := { name := "movesApart", fn := fun _ => fun
  | [d] => { results := [.lit (.bool false)], args := [d] }
  | _ => none }
def MovesApartWrongFalsely : Prop := movesApartRow.holds Try.pinned (OpenSpec.ofChange movesApartWrong)

/- THE SECOND FORM. 'bulk': how many values and letters a reading holds, each counted each time it is reached (what is shared counts as often as it is met; a slice's spare places count too). A statement '..UptoSaid' is the law's where the arguments, and the package variables that the reading takes, are together of bulk at most 1048576: NARROWER than '..Said'. Prove '..Said' where nothing that the law and all that it calls make is longer than what came in: it says more and counts as full. Else prove '..UptoSaid'. A law counts once. -/
mutual
def uptoBulk {H : Type} : DataW H → Nat
  | .lit (.string bytes) => bytes.length + 1
  | .lit _ => 1
  | .nil => 1
  | .ptr d => uptoBulk d + 1
  | .slice elems spare => uptoBulkAll elems + uptoBulkAll spare + 1
  | .agg parts => uptoBulkAll parts + 1
  | .iface _ d => uptoBulk d + 1
  | .map entries => uptoBulkEntries entries + 1
  | .held _ => 1
def uptoBulkAll {H : Type} : List (DataW H) → Nat
  | [] => 0
  | d :: r => uptoBulk d + uptoBulkAll r
def uptoBulkEntries {H : Type} : List (Lit × DataW H) → Nat
  | [] => 0
  | x :: r => uptoBulkEntry x + uptoBulkEntries r
def uptoBulkEntry {H : Type} : Lit × DataW H → Nat
  | (.string bytes, d) => bytes.length + uptoBulk d + 1
  | (_, d) => uptoBulk d + 1
 end
def uptoSmall : (H : Type) → List (DataW H) → Bool := fun _ ds => decide (uptoBulkAll ds ≤ 1048576)
def OpenSpec.upto (s : _root_.Go.ChangeSpec) : _root_.Go.OpenSpec := { _root_.Go.OpenSpec.ofChange s with cond := some uptoSmall }

/-- 'meterlaw08.SpanTells', WHERE WHAT IT READS IS OF BULK AT MOST 1048576: true; the input reads as it did. -/
def spanTellsUptoRow : OpenClaim := { program := "ytbkbekdeplolnaa", sum := "650200cc031c8a42b7a3524ae71665e88f5d7c3ab167c2fc5d43fc1bdddb5cb5", func := "meter/meterlaw08.SpanTells", spec := "spanTells", unfollowed := true, recurses := true, apart := false, narrowed := true }
def SpanTellsUptoSaid : Prop := spanTellsUptoRow.holds Try.pinned (OpenSpec.upto spanTellsSpec)

/-- 'meterlaw08.SpanStarts', WHERE WHAT IT READS IS OF BULK AT MOST 1048576: true; the input reads as it did. -/
def spanStartsUptoRow : OpenClaim := { program := "ytbkbekdeplolnaa", sum := "650200cc031c8a42b7a3524ae71665e88f5d7c3ab167c2fc5d43fc1bdddb5cb5", func := "meter/meterlaw08.SpanStarts", spec := "spanStarts", unfollowed := true, recurses := true, apart := false, narrowed := true }
def SpanStartsUptoSaid : Prop := spanStartsUptoRow.holds Try.pinned (OpenSpec.upto spanStartsSpec)

/-- 'meterlaw08.SpanParts', WHERE WHAT IT READS IS OF BULK AT MOST 1048576: true; the input reads as it did. -/
def spanPartsUptoRow : OpenClaim := { program := "ytbkbekdeplolnaa", sum := "650200cc031c8a42b7a3524ae71665e88f5d7c3ab167c2fc5d43fc1bdddb5cb5", func := "meter/meterlaw08.SpanParts", spec := "spanParts", unfollowed := true, recurses := true, apart := false, narrowed := true }
def SpanPartsUptoSaid : Prop := spanPartsUptoRow.holds Try.pinned (OpenSpec.upto spanPartsSpec)

/-- 'meterlaw08.SpanSince', WHERE WHAT IT READS IS OF BULK AT MOST 1048576: true; the input reads as it did. -/
def spanSinceUptoRow : OpenClaim := { program := "ytbkbekdeplolnaa", sum := "650200cc031c8a42b7a3524ae71665e88f5d7c3ab167c2fc5d43fc1bdddb5cb5", func := "meter/meterlaw08.SpanSince", spec := "spanSince", unfollowed := true, recurses := true, apart := false, narrowed := true }
def SpanSinceUptoSaid : Prop := spanSinceUptoRow.holds Try.pinned (OpenSpec.upto spanSinceSpec)

/-- 'meterlaw08.SpanKnown', WHERE WHAT IT READS IS OF BULK AT MOST 1048576: true; the input reads as it did. -/
def spanKnownUptoRow : OpenClaim := { program := "ytbkbekdeplolnaa", sum := "650200cc031c8a42b7a3524ae71665e88f5d7c3ab167c2fc5d43fc1bdddb5cb5", func := "meter/meterlaw08.SpanKnown", spec := "spanKnown", unfollowed := true, recurses := true, apart := false, narrowed := true }
def SpanKnownUptoSaid : Prop := spanKnownUptoRow.holds Try.pinned (OpenSpec.upto spanKnownSpec)

/-- 'meterlaw08.SpanNext', WHERE WHAT IT READS IS OF BULK AT MOST 1048576: true; the input reads as it did. -/
def spanNextUptoRow : OpenClaim := { program := "ytbkbekdeplolnaa", sum := "650200cc031c8a42b7a3524ae71665e88f5d7c3ab167c2fc5d43fc1bdddb5cb5", func := "meter/meterlaw08.SpanNext", spec := "spanNext", unfollowed := true, recurses := true, apart := false, narrowed := true }
def SpanNextUptoSaid : Prop := spanNextUptoRow.holds Try.pinned (OpenSpec.upto spanNextSpec)

/-- 'meterlaw08.SpanSteps', WHERE WHAT IT READS IS OF BULK AT MOST 1048576: true; the input reads as it did. -/
def spanStepsUptoRow : OpenClaim := { program := "ytbkbekdeplolnaa", sum := "650200cc031c8a42b7a3524ae71665e88f5d7c3ab167c2fc5d43fc1bdddb5cb5", func := "meter/meterlaw08.SpanSteps", spec := "spanSteps", unfollowed := true, recurses := true, apart := false, narrowed := true }
def SpanStepsUptoSaid : Prop := spanStepsUptoRow.holds Try.pinned (OpenSpec.upto spanStepsSpec)

/-- 'meterlaw19.MovesNumbers', WHERE WHAT IT READS IS OF BULK AT MOST 1048576: true; the input reads as it did. -/
def movesNumbersUptoRow : OpenClaim := { program := "ytbkbekdeplolnaa", sum := "650200cc031c8a42b7a3524ae71665e88f5d7c3ab167c2fc5d43fc1bdddb5cb5", func := "meter/meterlaw19.MovesNumbers", spec := "movesNumbers", unfollowed := true, recurses := true, apart := false, narrowed := true }
def MovesNumbersUptoSaid : Prop := movesNumbersUptoRow.holds Try.pinned (OpenSpec.upto movesNumbersSpec)

/-- 'meterlaw19.MovesKnown', WHERE WHAT IT READS IS OF BULK AT MOST 1048576: true; the input reads as it did. -/
def movesKnownUptoRow : OpenClaim := { program := "ytbkbekdeplolnaa", sum := "650200cc031c8a42b7a3524ae71665e88f5d7c3ab167c2fc5d43fc1bdddb5cb5", func := "meter/meterlaw19.MovesKnown", spec := "movesKnown", unfollowed := true, recurses := true, apart := false, narrowed := true }
def MovesKnownUptoSaid : Prop := movesKnownUptoRow.holds Try.pinned (OpenSpec.upto movesKnownSpec)

/-- 'meterlaw19.MovesPlays', WHERE WHAT IT READS IS OF BULK AT MOST 1048576: true; the input reads as it did. -/
def movesPlaysUptoRow : OpenClaim := { program := "ytbkbekdeplolnaa", sum := "650200cc031c8a42b7a3524ae71665e88f5d7c3ab167c2fc5d43fc1bdddb5cb5", func := "meter/meterlaw19.MovesPlays", spec := "movesPlays", unfollowed := true, recurses := true, apart := false, narrowed := true }
def MovesPlaysUptoSaid : Prop := movesPlaysUptoRow.holds Try.pinned (OpenSpec.upto movesPlaysSpec)

/-- 'meterlaw19.MovesOne', WHERE WHAT IT READS IS OF BULK AT MOST 1048576: true; the input reads as it did. -/
def movesOneUptoRow : OpenClaim := { program := "ytbkbekdeplolnaa", sum := "650200cc031c8a42b7a3524ae71665e88f5d7c3ab167c2fc5d43fc1bdddb5cb5", func := "meter/meterlaw19.MovesOne", spec := "movesOne", unfollowed := true, recurses := true, apart := false, narrowed := true }
def MovesOneUptoSaid : Prop := movesOneUptoRow.holds Try.pinned (OpenSpec.upto movesOneSpec)

/-- 'meterlaw19.MovesApart', WHERE WHAT IT READS IS OF BULK AT MOST 1048576: true; the input reads as it did. -/
def movesApartUptoRow : OpenClaim := { program := "ytbkbekdeplolnaa", sum := "650200cc031c8a42b7a3524ae71665e88f5d7c3ab167c2fc5d43fc1bdddb5cb5", func := "meter/meterlaw19.MovesApart", spec := "movesApart", unfollowed := true, recurses := true, apart := false, narrowed := true }
def MovesApartUptoSaid : Prop := movesApartUptoRow.holds Try.pinned (OpenSpec.upto movesApartSpec)

end Rows
end Go.Proofs.Ytbkbekdeplolnaa
