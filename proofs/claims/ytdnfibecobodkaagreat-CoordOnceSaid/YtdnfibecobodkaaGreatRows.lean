/-
  No cell of these rows narrows 'for every input' (looked for: loops, veiled, ifaces, maps, wideKeys, modest, calm, conditions, laid).
  DERIVED. THE GIVEN ROWS OF THIS SEAT. 5 by the template 'for every input the law returns true; each argument reads behind the call as it read before'; 0 by the template 'total and deterministic' (their statements: YtdnfibecobodkaaGreatTotals.lean).
  GIVEN WITH THE SEED: the statements are not yours to turn. If you find one false, say at which input.
  Laid BY PROGRAM, IN A SANDBOX (cutbox-rows.mjs): the forced cells as the released guide's own fill.sh prints them over the translation 0ddcf75f366ec065… (all of the seat's roots in one cut). By AI agents, Wed Nov 11 2026. No macro, syntax, notation, axiom, sorry.
-/
import Derived.Test.YtdnfibecobodkaaGreatChecked
import GoSem.Claim
import GoSem.ClaimJoined
import GoSem.ClaimMapViews
import Derived.JoinedTies
import Derived.KernelRfl
namespace Go.Proofs.YtdnfibecobodkaaGreat
/- THE CELL 'sum', in the pinned program and in every row, IS THE sha256 OF THE DUMP (.gsa) THAT YtdnfibecobodkaaGreatProg.lean LOADS. Nothing in Lean hashes anything: it is a label: what it is worth is what the hold of that sum in a sandbox is worth. -/
noncomputable def Tryz.pinned : Pinned := { name := "ytdnfibecobodkaagreat", sum := "0ddcf75f366ec06500140b08d5b8f85d1e3eefb19324c017a7fbcafb925a888f", checked := Tryz.checked }
namespace Rows
def none {H : Type} : Left H := { results := [], args := [] }

/-- 'meterlaw23.CoordKnown': WHATEVER THE INPUT: true; the input reads as it did. -/
def coordKnownSpec : ChangeSpec := { name := "coordKnown", fn := fun _ => fun
  | [] => { results := [.lit (.bool true)], args := [] }
  | _ => none }
def coordKnownRow : OpenClaim := { program := "ytdnfibecobodkaagreat", sum := "0ddcf75f366ec06500140b08d5b8f85d1e3eefb19324c017a7fbcafb925a888f", func := "meter/meterlaw23.CoordKnown", spec := "coordKnown", unfollowed := true, recurses := true, apart := false }
def CoordKnownSaid : Prop := coordKnownRow.holds Tryz.pinned (OpenSpec.ofChange coordKnownSpec)

/-- ITS FALSE NEIGHBOUR: 'it returns false'. Refute it at one input. -/
def coordKnownWrong : ChangeSpec := { name := "coordKnown", fn := fun _ => fun
  | [] => { results := [.lit (.bool false)], args := [] }
  | _ => none }
def CoordKnownWrongFalsely : Prop := coordKnownRow.holds Tryz.pinned (OpenSpec.ofChange coordKnownWrong)

/-- 'meterlaw23.CoordQuiet': WHATEVER THE INPUT: true; the input reads as it did. -/
def coordQuietSpec : ChangeSpec := { name := "coordQuiet", fn := fun _ => fun
  | [d1, d2, d3] => { results := [.lit (.bool true)], args := [d1, d2, d3] }
  | _ => none }
def coordQuietRow : OpenClaim := { program := "ytdnfibecobodkaagreat", sum := "0ddcf75f366ec06500140b08d5b8f85d1e3eefb19324c017a7fbcafb925a888f", func := "meter/meterlaw23.CoordQuiet", spec := "coordQuiet", unfollowed := true, recurses := true, apart := false }
def CoordQuietSaid : Prop := coordQuietRow.holds Tryz.pinned (OpenSpec.ofChange coordQuietSpec)

/-- ITS FALSE NEIGHBOUR: 'it returns false'. Refute it at one input. -/
def coordQuietWrong : ChangeSpec := { name := "coordQuiet", fn := fun _ => fun
  | [d1, d2, d3] => { results := [.lit (.bool false)], args := [d1, d2, d3] }
  | _ => none }
def CoordQuietWrongFalsely : Prop := coordQuietRow.holds Tryz.pinned (OpenSpec.ofChange coordQuietWrong)

/-- 'meterlaw23.CoordDeaf': WHATEVER THE INPUT: true; the input reads as it did. -/
def coordDeafSpec : ChangeSpec := { name := "coordDeaf", fn := fun _ => fun
  | [d1, d2, d3, d4, d5] => { results := [.lit (.bool true)], args := [d1, d2, d3, d4, d5] }
  | _ => none }
def coordDeafRow : OpenClaim := { program := "ytdnfibecobodkaagreat", sum := "0ddcf75f366ec06500140b08d5b8f85d1e3eefb19324c017a7fbcafb925a888f", func := "meter/meterlaw23.CoordDeaf", spec := "coordDeaf", unfollowed := true, recurses := true, apart := false }
def CoordDeafSaid : Prop := coordDeafRow.holds Tryz.pinned (OpenSpec.ofChange coordDeafSpec)

/-- ITS FALSE NEIGHBOUR: 'it returns false'. Refute it at one input. -/
def coordDeafWrong : ChangeSpec := { name := "coordDeaf", fn := fun _ => fun
  | [d1, d2, d3, d4, d5] => { results := [.lit (.bool false)], args := [d1, d2, d3, d4, d5] }
  | _ => none }
def CoordDeafWrongFalsely : Prop := coordDeafRow.holds Tryz.pinned (OpenSpec.ofChange coordDeafWrong)

/-- 'meterlaw23.CoordEnds': WHATEVER THE INPUT: true; the input reads as it did. -/
def coordEndsSpec : ChangeSpec := { name := "coordEnds", fn := fun _ => fun
  | [d1, d2, d3] => { results := [.lit (.bool true)], args := [d1, d2, d3] }
  | _ => none }
def coordEndsRow : OpenClaim := { program := "ytdnfibecobodkaagreat", sum := "0ddcf75f366ec06500140b08d5b8f85d1e3eefb19324c017a7fbcafb925a888f", func := "meter/meterlaw23.CoordEnds", spec := "coordEnds", unfollowed := true, recurses := true, apart := false }
def CoordEndsSaid : Prop := coordEndsRow.holds Tryz.pinned (OpenSpec.ofChange coordEndsSpec)

/-- ITS FALSE NEIGHBOUR: 'it returns false'. Refute it at one input. -/
def coordEndsWrong : ChangeSpec := { name := "coordEnds", fn := fun _ => fun
  | [d1, d2, d3] => { results := [.lit (.bool false)], args := [d1, d2, d3] }
  | _ => none }
def CoordEndsWrongFalsely : Prop := coordEndsRow.holds Tryz.pinned (OpenSpec.ofChange coordEndsWrong)

/-- 'meterlaw23.CoordOnce': WHATEVER THE INPUT: true; the input reads as it did. -/
def coordOnceSpec : ChangeSpec := { name := "coordOnce", fn := fun _ => fun
  | [d1, d2, d3] => { results := [.lit (.bool true)], args := [d1, d2, d3] }
  | _ => none }
def coordOnceRow : OpenClaim := { program := "ytdnfibecobodkaagreat", sum := "0ddcf75f366ec06500140b08d5b8f85d1e3eefb19324c017a7fbcafb925a888f", func := "meter/meterlaw23.CoordOnce", spec := "coordOnce", unfollowed := true, recurses := true, apart := false }
def CoordOnceSaid : Prop := coordOnceRow.holds Tryz.pinned (OpenSpec.ofChange coordOnceSpec)

/-- ITS FALSE NEIGHBOUR: 'it returns false'. Refute it at one input. -/
def coordOnceWrong : ChangeSpec := { name := "coordOnce", fn := fun _ => fun
  | [d1, d2, d3] => { results := [.lit (.bool false)], args := [d1, d2, d3] }
  | _ => none }
def CoordOnceWrongFalsely : Prop := coordOnceRow.holds Tryz.pinned (OpenSpec.ofChange coordOnceWrong)

/- THE SECOND FORM. 'bulk': how many values and letters a reading holds, each counted each time it is reached (what is shared counts as often as it is met; a slice's spare places count too). A statement '..UptoSaid' is the law's where the arguments, and the package variables that the reading takes, are together of bulk at most 1048576: NARROWER than '..Said'. Prove '..Said' where nothing that the law and all that it calls make is longer than what came in: it says more and counts as full. Else prove '..UptoSaid'. A law counts once. -/
mutual
def uptoBulk {H : Type} : DataW H → Nat
  | .lit (.string bytes) => bytes.length + 1
  | .lit _ => 1
  | .nil => 1
  | .ptr d => uptoBulk d + 1
  | .slice elems spare => uptoBulkAll elems + uptoBulkAll spare + 1
  | .agg parts => uptoBulkAll parts + 1
  | .iface _ d => uptoBulk d + 1
  | .map entries => uptoBulkEntries entries + 1
  | .held _ => 1
def uptoBulkAll {H : Type} : List (DataW H) → Nat
  | [] => 0
  | d :: r => uptoBulk d + uptoBulkAll r
def uptoBulkEntries {H : Type} : List (Lit × DataW H) → Nat
  | [] => 0
  | x :: r => uptoBulkEntry x + uptoBulkEntries r
def uptoBulkEntry {H : Type} : Lit × DataW H → Nat
  | (.string bytes, d) => bytes.length + uptoBulk d + 1
  | (_, d) => uptoBulk d + 1
 end
def uptoSmall : (H : Type) → List (DataW H) → Bool := fun _ ds => decide (uptoBulkAll ds ≤ 1048576)
def OpenSpec.upto (s : _root_.Go.ChangeSpec) : _root_.Go.OpenSpec := { _root_.Go.OpenSpec.ofChange s with cond := some uptoSmall }

/-- 'meterlaw23.CoordKnown', WHERE WHAT IT READS IS OF BULK AT MOST 1048576: true; the input reads as it did. -/
def coordKnownUptoRow : OpenClaim := { program := "ytdnfibecobodkaagreat", sum := "0ddcf75f366ec06500140b08d5b8f85d1e3eefb19324c017a7fbcafb925a888f", func := "meter/meterlaw23.CoordKnown", spec := "coordKnown", unfollowed := true, recurses := true, apart := false, narrowed := true }
def CoordKnownUptoSaid : Prop := coordKnownUptoRow.holds Tryz.pinned (OpenSpec.upto coordKnownSpec)

/-- 'meterlaw23.CoordQuiet', WHERE WHAT IT READS IS OF BULK AT MOST 1048576: true; the input reads as it did. -/
def coordQuietUptoRow : OpenClaim := { program := "ytdnfibecobodkaagreat", sum := "0ddcf75f366ec06500140b08d5b8f85d1e3eefb19324c017a7fbcafb925a888f", func := "meter/meterlaw23.CoordQuiet", spec := "coordQuiet", unfollowed := true, recurses := true, apart := false, narrowed := true }
def CoordQuietUptoSaid : Prop := coordQuietUptoRow.holds Tryz.pinned (OpenSpec.upto coordQuietSpec)

/-- 'meterlaw23.CoordDeaf', WHERE WHAT IT READS IS OF BULK AT MOST 1048576: true; the input reads as it did. -/
def coordDeafUptoRow : OpenClaim := { program := "ytdnfibecobodkaagreat", sum := "0ddcf75f366ec06500140b08d5b8f85d1e3eefb19324c017a7fbcafb925a888f", func := "meter/meterlaw23.CoordDeaf", spec := "coordDeaf", unfollowed := true, recurses := true, apart := false, narrowed := true }
def CoordDeafUptoSaid : Prop := coordDeafUptoRow.holds Tryz.pinned (OpenSpec.upto coordDeafSpec)

/-- 'meterlaw23.CoordEnds', WHERE WHAT IT READS IS OF BULK AT MOST 1048576: true; the input reads as it did. -/
def coordEndsUptoRow : OpenClaim := { program := "ytdnfibecobodkaagreat", sum := "0ddcf75f366ec06500140b08d5b8f85d1e3eefb19324c017a7fbcafb925a888f", func := "meter/meterlaw23.CoordEnds", spec := "coordEnds", unfollowed := true, recurses := true, apart := false, narrowed := true }
def CoordEndsUptoSaid : Prop := coordEndsUptoRow.holds Tryz.pinned (OpenSpec.upto coordEndsSpec)

/-- 'meterlaw23.CoordOnce', WHERE WHAT IT READS IS OF BULK AT MOST 1048576: true; the input reads as it did. -/
def coordOnceUptoRow : OpenClaim := { program := "ytdnfibecobodkaagreat", sum := "0ddcf75f366ec06500140b08d5b8f85d1e3eefb19324c017a7fbcafb925a888f", func := "meter/meterlaw23.CoordOnce", spec := "coordOnce", unfollowed := true, recurses := true, apart := false, narrowed := true }
def CoordOnceUptoSaid : Prop := coordOnceUptoRow.holds Tryz.pinned (OpenSpec.upto coordOnceSpec)

end Rows
end Go.Proofs.YtdnfibecobodkaaGreat
