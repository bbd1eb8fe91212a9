/-
  No cell of these rows narrows 'for every input' (looked for: loops, veiled, ifaces, maps, wideKeys, modest, calm, conditions, laid).
  DERIVED. THE GIVEN ROWS OF THIS SEAT. 11 by the template 'for every input the law returns true; each argument reads behind the call as it read before'; 0 by the template 'total and deterministic' (their statements: YtcnemenlbbickaaTotals.lean).
  GIVEN WITH THE SEED: the statements are not yours to turn. If you find one false, say at which input.
  Laid BY PROGRAM, IN A SANDBOX (cutbox-rows.mjs): the forced cells as the released guide's own fill.sh prints them over the translation 4830ba2f6a5a4bb5… (all of the seat's roots in one cut). By AI agents, Wed Nov 11 2026. No macro, syntax, notation, axiom, sorry.
-/
import Derived.Test.YtcnemenlbbickaaChecked
import GoSem.Claim
import GoSem.ClaimJoined
import GoSem.ClaimMapViews
import Derived.JoinedTies
import Derived.KernelRfl
namespace Go.Proofs.Ytcnemenlbbickaa
/- THE CELL 'sum', in the pinned program and in every row, IS THE sha256 OF THE DUMP (.gsa) THAT YtcnemenlbbickaaProg.lean LOADS. Nothing in Lean hashes anything: it is a label: what it is worth is what the hold of that sum in a sandbox is worth. -/
noncomputable def Try.pinned : Pinned := { name := "ytcnemenlbbickaa", sum := "4830ba2f6a5a4bb52c79d1012b42ce64bd810e0a1c1a5211f898079ad4a62bf0", checked := Try.checked }
namespace Rows
def none {H : Type} : Left H := { results := [], args := [] }

/-- 'octantlaw06.RoundsReads': WHATEVER THE INPUT: true; the input reads as it did. -/
def roundsReadsSpec : ChangeSpec := { name := "roundsReads", fn := fun _ => fun
  | [d1, d2] => { results := [.lit (.bool true)], args := [d1, d2] }
  | _ => none }
def roundsReadsRow : OpenClaim := { program := "ytcnemenlbbickaa", sum := "4830ba2f6a5a4bb52c79d1012b42ce64bd810e0a1c1a5211f898079ad4a62bf0", func := "octant/octantlaw06.RoundsReads", spec := "roundsReads", unfollowed := true, recurses := true, apart := false }
def RoundsReadsSaid : Prop := roundsReadsRow.holds Try.pinned (OpenSpec.ofChange roundsReadsSpec)

/-- ITS FALSE NEIGHBOUR: 'it returns false'. Refute it at one input. -/
def roundsReadsWrong : ChangeSpec := { name := "roundsReads", fn := fun _ => fun
  | [d1, d2] => { results := [.lit (.bool false)], args := [d1, d2] }
  | _ => none }
def RoundsReadsWrongFalsely : Prop := roundsReadsRow.holds Try.pinned (OpenSpec.ofChange roundsReadsWrong)

/-- 'octantlaw06.RoundsProves': WHATEVER THE INPUT: true; the input reads as it did. -/
def roundsProvesSpec : ChangeSpec := { name := "roundsProves", fn := fun _ => fun
  | [d1, d2] => { results := [.lit (.bool true)], args := [d1, d2] }
  | _ => none }
def roundsProvesRow : OpenClaim := { program := "ytcnemenlbbickaa", sum := "4830ba2f6a5a4bb52c79d1012b42ce64bd810e0a1c1a5211f898079ad4a62bf0", func := "octant/octantlaw06.RoundsProves", spec := "roundsProves", unfollowed := true, recurses := true, apart := false }
def RoundsProvesSaid : Prop := roundsProvesRow.holds Try.pinned (OpenSpec.ofChange roundsProvesSpec)

/-- ITS FALSE NEIGHBOUR: 'it returns false'. Refute it at one input. -/
def roundsProvesWrong : ChangeSpec := { name := "roundsProves", fn := fun _ => fun
  | [d1, d2] => { results := [.lit (.bool false)], args := [d1, d2] }
  | _ => none }
def RoundsProvesWrongFalsely : Prop := roundsProvesRow.holds Try.pinned (OpenSpec.ofChange roundsProvesWrong)

/-- 'octantlaw06.RoundsRepeated': WHATEVER THE INPUT: true; the input reads as it did. -/
def roundsRepeatedSpec : ChangeSpec := { name := "roundsRepeated", fn := fun _ => fun
  | [d1, d2, d3] => { results := [.lit (.bool true)], args := [d1, d2, d3] }
  | _ => none }
def roundsRepeatedRow : OpenClaim := { program := "ytcnemenlbbickaa", sum := "4830ba2f6a5a4bb52c79d1012b42ce64bd810e0a1c1a5211f898079ad4a62bf0", func := "octant/octantlaw06.RoundsRepeated", spec := "roundsRepeated", unfollowed := true, recurses := true, apart := false }
def RoundsRepeatedSaid : Prop := roundsRepeatedRow.holds Try.pinned (OpenSpec.ofChange roundsRepeatedSpec)

/-- ITS FALSE NEIGHBOUR: 'it returns false'. Refute it at one input. -/
def roundsRepeatedWrong : ChangeSpec := { name := "roundsRepeated", fn := fun _ => fun
  | [d1, d2, d3] => { results := [.lit (.bool false)], args := [d1, d2, d3] }
  | _ => none }
def RoundsRepeatedWrongFalsely : Prop := roundsRepeatedRow.holds Try.pinned (OpenSpec.ofChange roundsRepeatedWrong)

/-- 'octantlaw06.RoundsTurned': WHATEVER THE INPUT: true; the input reads as it did. -/
def roundsTurnedSpec : ChangeSpec := { name := "roundsTurned", fn := fun _ => fun
  | [d1, d2, d3] => { results := [.lit (.bool true)], args := [d1, d2, d3] }
  | _ => none }
def roundsTurnedRow : OpenClaim := { program := "ytcnemenlbbickaa", sum := "4830ba2f6a5a4bb52c79d1012b42ce64bd810e0a1c1a5211f898079ad4a62bf0", func := "octant/octantlaw06.RoundsTurned", spec := "roundsTurned", unfollowed := true, recurses := true, apart := false }
def RoundsTurnedSaid : Prop := roundsTurnedRow.holds Try.pinned (OpenSpec.ofChange roundsTurnedSpec)

/-- ITS FALSE NEIGHBOUR: 'it returns false'. Refute it at one input. -/
def roundsTurnedWrong : ChangeSpec := { name := "roundsTurned", fn := fun _ => fun
  | [d1, d2, d3] => { results := [.lit (.bool false)], args := [d1, d2, d3] }
  | _ => none }
def RoundsTurnedWrongFalsely : Prop := roundsTurnedRow.holds Try.pinned (OpenSpec.ofChange roundsTurnedWrong)

/-- 'octantlaw06.RoundsEnds': WHATEVER THE INPUT: true; the input reads as it did. -/
def roundsEndsSpec : ChangeSpec := { name := "roundsEnds", fn := fun _ => fun
  | [d1, d2] => { results := [.lit (.bool true)], args := [d1, d2] }
  | _ => none }
def roundsEndsRow : OpenClaim := { program := "ytcnemenlbbickaa", sum := "4830ba2f6a5a4bb52c79d1012b42ce64bd810e0a1c1a5211f898079ad4a62bf0", func := "octant/octantlaw06.RoundsEnds", spec := "roundsEnds", unfollowed := true, recurses := true, apart := false }
def RoundsEndsSaid : Prop := roundsEndsRow.holds Try.pinned (OpenSpec.ofChange roundsEndsSpec)

/-- ITS FALSE NEIGHBOUR: 'it returns false'. Refute it at one input. -/
def roundsEndsWrong : ChangeSpec := { name := "roundsEnds", fn := fun _ => fun
  | [d1, d2] => { results := [.lit (.bool false)], args := [d1, d2] }
  | _ => none }
def RoundsEndsWrongFalsely : Prop := roundsEndsRow.holds Try.pinned (OpenSpec.ofChange roundsEndsWrong)

/-- 'octantlaw06.RoundsWrong': WHATEVER THE INPUT: true; the input reads as it did. -/
def roundsWrongSpec : ChangeSpec := { name := "roundsWrong", fn := fun _ => fun
  | [d1, d2, d3] => { results := [.lit (.bool true)], args := [d1, d2, d3] }
  | _ => none }
def roundsWrongRow : OpenClaim := { program := "ytcnemenlbbickaa", sum := "4830ba2f6a5a4bb52c79d1012b42ce64bd810e0a1c1a5211f898079ad4a62bf0", func := "octant/octantlaw06.RoundsWrong", spec := "roundsWrong", unfollowed := true, recurses := true, apart := false }
def RoundsWrongSaid : Prop := roundsWrongRow.holds Try.pinned (OpenSpec.ofChange roundsWrongSpec)

/-- ITS FALSE NEIGHBOUR: 'it returns false'. Refute it at one input. -/
def roundsWrongWrong : ChangeSpec := { name := "roundsWrong", fn := fun _ => fun
  | [d1, d2, d3] => { results := [.lit (.bool false)], args := [d1, d2, d3] }
  | _ => none }
def RoundsWrongWrongFalsely : Prop := roundsWrongRow.holds Try.pinned (OpenSpec.ofChange roundsWrongWrong)

/-- 'octantlaw06.RoundsNamed': WHATEVER THE INPUT: true; the input reads as it did. -/
def roundsNamedSpec : ChangeSpec := { name := "roundsNamed", fn := fun _ => fun
  | [d1, d2] => { results := [.lit (.bool true)], args := [d1, d2] }
  | _ => none }
def roundsNamedRow : OpenClaim := { program := "ytcnemenlbbickaa", sum := "4830ba2f6a5a4bb52c79d1012b42ce64bd810e0a1c1a5211f898079ad4a62bf0", func := "octant/octantlaw06.RoundsNamed", spec := "roundsNamed", unfollowed := true, recurses := true, apart := false }
def RoundsNamedSaid : Prop := roundsNamedRow.holds Try.pinned (OpenSpec.ofChange roundsNamedSpec)

/-- ITS FALSE NEIGHBOUR: 'it returns false'. Refute it at one input. -/
def roundsNamedWrong : ChangeSpec := { name := "roundsNamed", fn := fun _ => fun
  | [d1, d2] => { results := [.lit (.bool false)], args := [d1, d2] }
  | _ => none }
def RoundsNamedWrongFalsely : Prop := roundsNamedRow.holds Try.pinned (OpenSpec.ofChange roundsNamedWrong)

/-- 'octantlaw06.RoundsCloses': WHATEVER THE INPUT: true; the input reads as it did. -/
def roundsClosesSpec : ChangeSpec := { name := "roundsCloses", fn := fun _ => fun
  | [d1, d2] => { results := [.lit (.bool true)], args := [d1, d2] }
  | _ => none }
def roundsClosesRow : OpenClaim := { program := "ytcnemenlbbickaa", sum := "4830ba2f6a5a4bb52c79d1012b42ce64bd810e0a1c1a5211f898079ad4a62bf0", func := "octant/octantlaw06.RoundsCloses", spec := "roundsCloses", unfollowed := true, recurses := true, apart := false }
def RoundsClosesSaid : Prop := roundsClosesRow.holds Try.pinned (OpenSpec.ofChange roundsClosesSpec)

/-- ITS FALSE NEIGHBOUR: 'it returns false'. Refute it at one input. -/
def roundsClosesWrong : ChangeSpec := { name := "roundsCloses", fn := fun _ => fun
  | [d1, d2] => { results := [.lit (.bool false)], args := [d1, d2] }
  | _ => none }
def RoundsClosesWrongFalsely : Prop := roundsClosesRow.holds Try.pinned (OpenSpec.ofChange roundsClosesWrong)

/-- 'octantlaw06.RoundsEither': WHATEVER THE INPUT: true; the input reads as it did. -/
def roundsEitherSpec : ChangeSpec := { name := "roundsEither", fn := fun _ => fun
  | [d1, d2, d3] => { results := [.lit (.bool true)], args := [d1, d2, d3] }
  | _ => none }
def roundsEitherRow : OpenClaim := { program := "ytcnemenlbbickaa", sum := "4830ba2f6a5a4bb52c79d1012b42ce64bd810e0a1c1a5211f898079ad4a62bf0", func := "octant/octantlaw06.RoundsEither", spec := "roundsEither", unfollowed := true, recurses := true, apart := false }
def RoundsEitherSaid : Prop := roundsEitherRow.holds Try.pinned (OpenSpec.ofChange roundsEitherSpec)

/-- ITS FALSE NEIGHBOUR: 'it returns false'. Refute it at one input. -/
def roundsEitherWrong : ChangeSpec := { name := "roundsEither", fn := fun _ => fun
  | [d1, d2, d3] => { results := [.lit (.bool false)], args := [d1, d2, d3] }
  | _ => none }
def RoundsEitherWrongFalsely : Prop := roundsEitherRow.holds Try.pinned (OpenSpec.ofChange roundsEitherWrong)

/-- 'octantlaw06.RoundsInside': WHATEVER THE INPUT: true; the input reads as it did. -/
def roundsInsideSpec : ChangeSpec := { name := "roundsInside", fn := fun _ => fun
  | [d1, d2, d3] => { results := [.lit (.bool true)], args := [d1, d2, d3] }
  | _ => none }
def roundsInsideRow : OpenClaim := { program := "ytcnemenlbbickaa", sum := "4830ba2f6a5a4bb52c79d1012b42ce64bd810e0a1c1a5211f898079ad4a62bf0", func := "octant/octantlaw06.RoundsInside", spec := "roundsInside", unfollowed := true, recurses := true, apart := false }
def RoundsInsideSaid : Prop := roundsInsideRow.holds Try.pinned (OpenSpec.ofChange roundsInsideSpec)

/-- ITS FALSE NEIGHBOUR: 'it returns false'. Refute it at one input. -/
def roundsInsideWrong : ChangeSpec := { name := "roundsInside", fn := fun _ => fun
  | [d1, d2, d3] => { results := [.lit (.bool false)], args := [d1, d2, d3] }
  | _ => none }
def RoundsInsideWrongFalsely : Prop := roundsInsideRow.holds Try.pinned (OpenSpec.ofChange roundsInsideWrong)

/-- 'octantlaw06.RoundsKnown': WHATEVER THE INPUT: true; the input reads as it did. -/
def roundsKnownSpec : ChangeSpec := { name := "roundsKnown", fn := fun _ => fun
  | [] => { results := [.lit (.bool true)], args := [] }
  | _ => none }
def roundsKnownRow : OpenClaim := { program := "ytcnemenlbbickaa", sum := "4830ba2f6a5a4bb52c79d1012b42ce64bd810e0a1c1a5211f898079ad4a62bf0", func := "octant/octantlaw06.RoundsKnown", spec := "roundsKnown", unfollowed := true, recurses := true, apart := false }
def RoundsKnownSaid : Prop := roundsKnownRow.holds Try.pinned (OpenSpec.ofChange roundsKnownSpec)

/-- ITS FALSE NEIGHBOUR: 'it returns false'. Refute it at one input. -/
def roundsKnownWrong : ChangeSpec := { name := "roundsKnown", fn := fun _ => fun
  | [] => { results := [.lit (.bool false)], args := [] }
  | _ => none }
def RoundsKnownWrongFalsely : Prop := roundsKnownRow.holds Try.pinned (OpenSpec.ofChange roundsKnownWrong)

/- THE SECOND FORM. 'bulk': how many values and letters a reading holds, each counted each time it is reached (what is shared counts as often as it is met; a slice's spare places count too). A statement '..UptoSaid' is the law's where the arguments, and the package variables that the reading takes, are together of bulk at most 1048576: NARROWER than '..Said'. Prove '..Said' where nothing that the law and all that it calls make is longer than what came in: it says more and counts as full. Else prove '..UptoSaid'. A law counts once. -/
mutual
def uptoBulk {H : Type} : DataW H → Nat
  | .lit (.string bytes) => bytes.length + 1
  | .lit _ => 1
  | .nil => 1
  | .ptr d => uptoBulk d + 1
  | .slice elems spare => uptoBulkAll elems + uptoBulkAll spare + 1
  | .agg parts => uptoBulkAll parts + 1
  | .iface _ d => uptoBulk d + 1
  | .map entries => uptoBulkEntries entries + 1
  | .held _ => 1
def uptoBulkAll {H : Type} : List (DataW H) → Nat
  | [] => 0
  | d :: r => uptoBulk d + uptoBulkAll r
def uptoBulkEntries {H : Type} : List (Lit × DataW H) → Nat
  | [] => 0
  | x :: r => uptoBulkEntry x + uptoBulkEntries r
def uptoBulkEntry {H : Type} : Lit × DataW H → Nat
  | (.string bytes, d) => bytes.length + uptoBulk d + 1
  | (_, d) => uptoBulk d + 1
 end
def uptoSmall : (H : Type) → List (DataW H) → Bool := fun _ ds => decide (uptoBulkAll ds ≤ 1048576)
def OpenSpec.upto (s : _root_.Go.ChangeSpec) : _root_.Go.OpenSpec := { _root_.Go.OpenSpec.ofChange s with cond := some uptoSmall }

/-- 'octantlaw06.RoundsReads', WHERE WHAT IT READS IS OF BULK AT MOST 1048576: true; the input reads as it did. -/
def roundsReadsUptoRow : OpenClaim := { program := "ytcnemenlbbickaa", sum := "4830ba2f6a5a4bb52c79d1012b42ce64bd810e0a1c1a5211f898079ad4a62bf0", func := "octant/octantlaw06.RoundsReads", spec := "roundsReads", unfollowed := true, recurses := true, apart := false, narrowed := true }
def RoundsReadsUptoSaid : Prop := roundsReadsUptoRow.holds Try.pinned (OpenSpec.upto roundsReadsSpec)

/-- 'octantlaw06.RoundsProves', WHERE WHAT IT READS IS OF BULK AT MOST 1048576: true; the input reads as it did. -/
def roundsProvesUptoRow : OpenClaim := { program := "ytcnemenlbbickaa", sum := "4830ba2f6a5a4bb52c79d1012b42ce64bd810e0a1c1a5211f898079ad4a62bf0", func := "octant/octantlaw06.RoundsProves", spec := "roundsProves", unfollowed := true, recurses := true, apart := false, narrowed := true }
def RoundsProvesUptoSaid : Prop := roundsProvesUptoRow.holds Try.pinned (OpenSpec.upto roundsProvesSpec)

/-- 'octantlaw06.RoundsRepeated', WHERE WHAT IT READS IS OF BULK AT MOST 1048576: true; the input reads as it did. -/
def roundsRepeatedUptoRow : OpenClaim := { program := "ytcnemenlbbickaa", sum := "4830ba2f6a5a4bb52c79d1012b42ce64bd810e0a1c1a5211f898079ad4a62bf0", func := "octant/octantlaw06.RoundsRepeated", spec := "roundsRepeated", unfollowed := true, recurses := true, apart := false, narrowed := true }
def RoundsRepeatedUptoSaid : Prop := roundsRepeatedUptoRow.holds Try.pinned (OpenSpec.upto roundsRepeatedSpec)

/-- 'octantlaw06.RoundsTurned', WHERE WHAT IT READS IS OF BULK AT MOST 1048576: true; the input reads as it did. -/
def roundsTurnedUptoRow : OpenClaim := { program := "ytcnemenlbbickaa", sum := "4830ba2f6a5a4bb52c79d1012b42ce64bd810e0a1c1a5211f898079ad4a62bf0", func := "octant/octantlaw06.RoundsTurned", spec := "roundsTurned", unfollowed := true, recurses := true, apart := false, narrowed := true }
def RoundsTurnedUptoSaid : Prop := roundsTurnedUptoRow.holds Try.pinned (OpenSpec.upto roundsTurnedSpec)

/-- 'octantlaw06.RoundsEnds', WHERE WHAT IT READS IS OF BULK AT MOST 1048576: true; the input reads as it did. -/
def roundsEndsUptoRow : OpenClaim := { program := "ytcnemenlbbickaa", sum := "4830ba2f6a5a4bb52c79d1012b42ce64bd810e0a1c1a5211f898079ad4a62bf0", func := "octant/octantlaw06.RoundsEnds", spec := "roundsEnds", unfollowed := true, recurses := true, apart := false, narrowed := true }
def RoundsEndsUptoSaid : Prop := roundsEndsUptoRow.holds Try.pinned (OpenSpec.upto roundsEndsSpec)

/-- 'octantlaw06.RoundsWrong', WHERE WHAT IT READS IS OF BULK AT MOST 1048576: true; the input reads as it did. -/
def roundsWrongUptoRow : OpenClaim := { program := "ytcnemenlbbickaa", sum := "4830ba2f6a5a4bb52c79d1012b42ce64bd810e0a1c1a5211f898079ad4a62bf0", func := "octant/octantlaw06.RoundsWrong", spec := "roundsWrong", unfollowed := true, recurses := true, apart := false, narrowed := true }
def RoundsWrongUptoSaid : Prop := roundsWrongUptoRow.holds Try.pinned (OpenSpec.upto roundsWrongSpec)

/-- 'octantlaw06.RoundsNamed', WHERE WHAT IT READS IS OF BULK AT MOST 1048576: true; the input reads as it did. -/
def roundsNamedUptoRow : OpenClaim := { program := "ytcnemenlbbickaa", sum := "4830ba2f6a5a4bb52c79d1012b42ce64bd810e0a1c1a5211f898079ad4a62bf0", func := "octant/octantlaw06.RoundsNamed", spec := "roundsNamed", unfollowed := true, recurses := true, apart := false, narrowed := true }
def RoundsNamedUptoSaid : Prop := roundsNamedUptoRow.holds Try.pinned (OpenSpec.upto roundsNamedSpec)

/-- 'octantlaw06.RoundsCloses', WHERE WHAT IT READS IS OF BULK AT MOST 1048576: true; the input reads as it did. -/
def roundsClosesUptoRow : OpenClaim := { program := "ytcnemenlbbickaa", sum := "4830ba2f6a5a4bb52c79d1012b42ce64bd810e0a1c1a5211f898079ad4a62bf0", func := "octant/octantlaw06.RoundsCloses", spec := "roundsCloses", unfollowed := true, recurses := true, apart := false, narrowed := true }
def RoundsClosesUptoSaid : Prop := roundsClosesUptoRow.holds Try.pinned (OpenSpec.upto roundsClosesSpec)

/-- 'octantlaw06.RoundsEither', WHERE WHAT IT READS IS OF BULK AT MOST 1048576: true; the input reads as it did. -/
def roundsEitherUptoRow : OpenClaim := { program := "ytcnemenlbbickaa", sum := "4830ba2f6a5a4bb52c79d1012b42ce64bd810e0a1c1a5211f898079ad4a62bf0", func := "octant/octantlaw06.RoundsEither", spec := "roundsEither", unfollowed := true, recurses := true, apart := false, narrowed := true }
def RoundsEitherUptoSaid : Prop := roundsEitherUptoRow.holds Try.pinned (OpenSpec.upto roundsEitherSpec)

/-- 'octantlaw06.RoundsInside', WHERE WHAT IT READS IS OF BULK AT MOST 1048576: true; the input reads as it did. -/
def roundsInsideUptoRow : OpenClaim := { program := "ytcnemenlbbickaa", sum := "4830ba2f6a5a4bb52c79d1012b42ce64bd810e0a1c1a5211f898079ad4a62bf0", func := "octant/octantlaw06.RoundsInside", spec := "roundsInside", unfollowed := true, recurses := true, apart := false, narrowed := true }
def RoundsInsideUptoSaid : Prop := roundsInsideUptoRow.holds Try.pinned (OpenSpec.upto roundsInsideSpec)

/-- 'octantlaw06.RoundsKnown', WHERE WHAT IT READS IS OF BULK AT MOST 1048576: true; the input reads as it did. -/
def roundsKnownUptoRow : OpenClaim := { program := "ytcnemenlbbickaa", sum := "4830ba2f6a5a4bb52c79d1012b42ce64bd810e0a1c1a5211f898079ad4a62bf0", func := "octant/octantlaw06.RoundsKnown", spec := "roundsKnown", unfollowed := true, recurses := true, apart := false, narrowed := true }
def RoundsKnownUptoSaid : Prop := roundsKnownUptoRow.holds Try.pinned (OpenSpec.upto roundsKnownSpec)

end Rows
end Go.Proofs.Ytcnemenlbbickaa
