/-
  No cell of these rows narrows 'for every input' (looked for: loops, veiled, ifaces, maps, wideKeys, modest, calm, conditions, laid).
  DERIVED. THE GIVEN ROWS OF THIS SEAT. 12 by the template 'for every input the law returns true; each argument reads behind the call as it read before'; 0 by the template 'total and deterministic' (their statements: YtpccnjgeddjfjaaTotals.lean).
  GIVEN WITH THE SEED: the statements are not yours to turn. If you find one false, say at which input.
  Laid BY PROGRAM, IN A SANDBOX (cutbox-rows.mjs): the forced cells as the released guide's own fill.sh prints them over the translation 60b16abeff256513… (all of the seat's roots in one cut). By AI agents, Wed Nov 11 2026. No macro, syntax, notation, axiom, sorry.
-/
import Derived.Test.YtpccnjgeddjfjaaChecked
import GoSem.Claim
import GoSem.ClaimJoined
import GoSem.ClaimMapViews
import Derived.JoinedTies
import Derived.KernelRfl
namespace Go.Proofs.Ytpccnjgeddjfjaa
/- THE CELL 'sum', in the pinned program and in every row, IS THE sha256 OF THE DUMP (.gsa) THAT YtpccnjgeddjfjaaProg.lean LOADS. Nothing in Lean hashes anything: it is a label: what it is worth is what the hold of that sum in a sandbox is worth. -/
noncomputable def Try.pinned : Pinned := { name := "ytpccnjgeddjfjaa", sum := "60b16abeff256513180b534ea96bc0a9cffe9564f474769eae838a4a039baebf", checked := Try.checked }
namespace Rows
def none {H : Type} : Left H := { results := [], args := [] }

/-- 'octantlaw07.ClockCones': WHATEVER THE INPUT: true; the input reads as it did. -/
def clockConesSpec : ChangeSpec := { name := "clockCones", fn := fun _ => fun
  | [d1, d2, d3] => { results := [.lit (.bool true)], args := [d1, d2, d3] }
  | _ => none }
def clockConesRow : OpenClaim := { program := "ytpccnjgeddjfjaa", sum := "60b16abeff256513180b534ea96bc0a9cffe9564f474769eae838a4a039baebf", func := "octant/octantlaw07.ClockCones", spec := "clockCones", inPlace := ["internal/bytealg.abigen_runtime_cmpstring"], unfollowed := true, recurses := true, plainKeys := false, apart := false }
def ClockConesSaid : Prop := clockConesRow.holds Try.pinned (OpenSpec.ofChange clockConesSpec)

/-- ITS FALSE NEIGHBOUR: 'it returns false'. Refute it at one input. -/
def clockConesWrong : ChangeSpec := { name := "clockCones", fn := fun _ => fun
  | [d1, d2, d3] => { results := [.lit (.bool false)], args := [d1, d2, d3] }
  | _ => none }
def ClockConesWrongFalsely : Prop := clockConesRow.holds Try.pinned (OpenSpec.ofChange clockConesWrong)

/-- 'octantlaw07.ClockErrors': WHATEVER THE INPUT: true; the input reads as it did. -/
def clockErrorsSpec : ChangeSpec := { name := "clockErrors", fn := fun _ => fun
  | [d1, d2, d3] => { results := [.lit (.bool true)], args := [d1, d2, d3] }
  | _ => none }
def clockErrorsRow : OpenClaim := { program := "ytpccnjgeddjfjaa", sum := "60b16abeff256513180b534ea96bc0a9cffe9564f474769eae838a4a039baebf", func := "octant/octantlaw07.ClockErrors", spec := "clockErrors", inPlace := ["internal/bytealg.abigen_runtime_cmpstring"], unfollowed := true, recurses := true, plainKeys := false, apart := false }
def ClockErrorsSaid : Prop := clockErrorsRow.holds Try.pinned (OpenSpec.ofChange clockErrorsSpec)

/-- ITS FALSE NEIGHBOUR: 'it returns false'. Refute it at one input. -/
def clockErrorsWrong : ChangeSpec := { name := "clockErrors", fn := fun _ => fun
  | [d1, d2, d3] => { results := [.lit (.bool false)], args := [d1, d2, d3] }
  | _ => none }
def ClockErrorsWrongFalsely : Prop := clockErrorsRow.holds Try.pinned (OpenSpec.ofChange clockErrorsWrong)

/-- 'octantlaw07.ClockRanks': WHATEVER THE INPUT: true; the input reads as it did. -/
def clockRanksSpec : ChangeSpec := { name := "clockRanks", fn := fun _ => fun
  | [d] => { results := [.lit (.bool true)], args := [d] }
  | _ => none }
def clockRanksRow : OpenClaim := { program := "ytpccnjgeddjfjaa", sum := "60b16abeff256513180b534ea96bc0a9cffe9564f474769eae838a4a039baebf", func := "octant/octantlaw07.ClockRanks", spec := "clockRanks", inPlace := ["internal/bytealg.abigen_runtime_cmpstring"], unfollowed := true, recurses := true, plainKeys := false, apart := false }
def ClockRanksSaid : Prop := clockRanksRow.holds Try.pinned (OpenSpec.ofChange clockRanksSpec)

/-- ITS FALSE NEIGHBOUR: 'it returns false'. Refute it at one input. -/
def clockRanksWrong : ChangeSpec := { name := "clockRanks", fn := fun _ => fun
  | [d] => { results := [.lit (.bool false)], args := [d] }
  | _ => none }
def ClockRanksWrongFalsely : Prop := clockRanksRow.holds Try.pinned (OpenSpec.ofChange clockRanksWrong)

/-- 'octantlaw07.ClockWatches': WHATEVER THE INPUT: true; the input reads as it did. -/
def clockWatchesSpec : ChangeSpec := { name := "clockWatches", fn := fun _ => fun
  | [d] => { results := [.lit (.bool true)], args := [d] }
  | _ => none }
def clockWatchesRow : OpenClaim := { program := "ytpccnjgeddjfjaa", sum := "60b16abeff256513180b534ea96bc0a9cffe9564f474769eae838a4a039baebf", func := "octant/octantlaw07.ClockWatches", spec := "clockWatches", inPlace := ["internal/bytealg.abigen_runtime_cmpstring"], unfollowed := true, recurses := true, plainKeys := false, apart := false }
def ClockWatchesSaid : Prop := clockWatchesRow.holds Try.pinned (OpenSpec.ofChange clockWatchesSpec)

/-- ITS FALSE NEIGHBOUR: 'it returns false'. Refute it at one input. -/
def clockWatchesWrong : ChangeSpec := { name := "clockWatches", fn := fun _ => fun
  | [d] => { results := [.lit (.bool false)], args := [d] }
  | _ => none }
def ClockWatchesWrongFalsely : Prop := clockWatchesRow.holds Try.pinned (OpenSpec.ofChange clockWatchesWrong)

/-- 'octantlaw07.ClockHolds': WHATEVER THE INPUT: true; the input reads as it did. -/
def clockHoldsSpec : ChangeSpec := { name := "clockHolds", fn := fun _ => fun
  | [d1, d2, d3] => { results := [.lit (.bool true)], args := [d1, d2, d3] }
  | _ => none }
def clockHoldsRow : OpenClaim := { program := "ytpccnjgeddjfjaa", sum := "60b16abeff256513180b534ea96bc0a9cffe9564f474769eae838a4a039baebf", func := "octant/octantlaw07.ClockHolds", spec := "clockHolds", inPlace := ["internal/bytealg.abigen_runtime_cmpstring"], unfollowed := true, recurses := true, plainKeys := false, apart := false }
def ClockHoldsSaid : Prop := clockHoldsRow.holds Try.pinned (OpenSpec.ofChange clockHoldsSpec)

/-- ITS FALSE NEIGHBOUR: 'it returns false'. Refute it at one input. -/
def clockHoldsWrong : ChangeSpec := { name := "clockHolds", fn := fun _ => fun
  | [d1, d2, d3] => { results := [.lit (.bool false)], args := [d1, d2, d3] }
  | _ => none }
def ClockHoldsWrongFalsely : Prop := clockHoldsRow.holds Try.pinned (OpenSpec.ofChange clockHoldsWrong)

/-- 'octantlaw07.ClockEnds': WHATEVER THE INPUT: true; the input reads as it did. -/
def clockEndsSpec : ChangeSpec := { name := "clockEnds", fn := fun _ => fun
  | [d1, d2] => { results := [.lit (.bool true)], args := [d1, d2] }
  | _ => none }
def clockEndsRow : OpenClaim := { program := "ytpccnjgeddjfjaa", sum := "60b16abeff256513180b534ea96bc0a9cffe9564f474769eae838a4a039baebf", func := "octant/octantlaw07.ClockEnds", spec := "clockEnds", inPlace := ["internal/bytealg.abigen_runtime_cmpstring"], unfollowed := true, recurses := true, plainKeys := false, apart := false }
def ClockEndsSaid : Prop := clockEndsRow.holds Try.pinned (OpenSpec.ofChange clockEndsSpec)

/-- ITS FALSE NEIGHBOUR: 'it returns false'. Refute it at one input. -/
def clockEndsWrong : ChangeSpec := { name := "clockEnds", fn := fun _ => fun
  | [d1, d2] => { results := [.lit (.bool false)], args := [d1, d2] }
  | _ => none }
def ClockEndsWrongFalsely : Prop := clockEndsRow.holds Try.pinned (OpenSpec.ofChange clockEndsWrong)

/-- 'octantlaw07.ClockNarrow': WHATEVER THE INPUT: true; the input reads as it did. -/
def clockNarrowSpec : ChangeSpec := { name := "clockNarrow", fn := fun _ => fun
  | [d1, d2, d3] => { results := [.lit (.bool true)], args := [d1, d2, d3] }
  | _ => none }
def clockNarrowRow : OpenClaim := { program := "ytpccnjgeddjfjaa", sum := "60b16abeff256513180b534ea96bc0a9cffe9564f474769eae838a4a039baebf", func := "octant/octantlaw07.ClockNarrow", spec := "clockNarrow", inPlace := ["internal/bytealg.abigen_runtime_cmpstring"], unfollowed := true, recurses := true, plainKeys := false, apart := false }
def ClockNarrowSaid : Prop := clockNarrowRow.holds Try.pinned (OpenSpec.ofChange clockNarrowSpec)

/-- ITS FALSE NEIGHBOUR: 'it returns false'. Refute it at one input. -/
def clockNarrowWrong : ChangeSpec := { name := "clockNarrow", fn := fun _ => fun
  | [d1, d2, d3] => { results := [.lit (.bool false)], args := [d1, d2, d3] }
  | _ => none }
def ClockNarrowWrongFalsely : Prop := clockNarrowRow.holds Try.pinned (OpenSpec.ofChange clockNarrowWrong)

/-- 'octantlaw07.ClockRule': WHATEVER THE INPUT: true; the input reads as it did. -/
def clockRuleSpec : ChangeSpec := { name := "clockRule", fn := fun _ => fun
  | [d1, d2] => { results := [.lit (.bool true)], args := [d1, d2] }
  | _ => none }
def clockRuleRow : OpenClaim := { program := "ytpccnjgeddjfjaa", sum := "60b16abeff256513180b534ea96bc0a9cffe9564f474769eae838a4a039baebf", func := "octant/octantlaw07.ClockRule", spec := "clockRule", inPlace := ["internal/bytealg.abigen_runtime_cmpstring"], unfollowed := true, recurses := true, plainKeys := false, apart := false }
def ClockRuleSaid : Prop := clockRuleRow.holds Try.pinned (OpenSpec.ofChange clockRuleSpec)

/-- ITS FALSE NEIGHBOUR: 'it returns false'. Refute it at one input. -/
def clockRuleWrong : ChangeSpec := { name := "clockRule", fn := fun _ => fun
  | [d1, d2] => { results := [.lit (.bool false)], args := [d1, d2] }
  | _ => none }
def ClockRuleWrongFalsely : Prop := clockRuleRow.holds Try.pinned (OpenSpec.ofChange clockRuleWrong)

/-- 'octantlaw07.ClockSteady': WHATEVER THE INPUT: true; the input reads as it did. -/
def clockSteadySpec : ChangeSpec := { name := "clockSteady", fn := fun _ => fun
  | [d1, d2] => { results := [.lit (.bool true)], args := [d1, d2] }
  | _ => none }
def clockSteadyRow : OpenClaim := { program := "ytpccnjgeddjfjaa", sum := "60b16abeff256513180b534ea96bc0a9cffe9564f474769eae838a4a039baebf", func := "octant/octantlaw07.ClockSteady", spec := "clockSteady", inPlace := ["internal/bytealg.abigen_runtime_cmpstring"], unfollowed := true, recurses := true, plainKeys := false, apart := false }
def ClockSteadySaid : Prop := clockSteadyRow.holds Try.pinned (OpenSpec.ofChange clockSteadySpec)

/-- ITS FALSE NEIGHBOUR: 'it returns false'. Refute it at one input. -/
def clockSteadyWrong : ChangeSpec := { name := "clockSteady", fn := fun _ => fun
  | [d1, d2] => { results := [.lit (.bool false)], args := [d1, d2] }
  | _ => none }
def ClockSteadyWrongFalsely : Prop := clockSteadyRow.holds Try.pinned (OpenSpec.ofChange clockSteadyWrong)

/-- 'octantlaw07.ClockConvicts': WHATEVER THE INPUT: true; the input reads as it did. -/
def clockConvictsSpec : ChangeSpec := { name := "clockConvicts", fn := fun _ => fun
  | [d1, d2, d3, d4] => { results := [.lit (.bool true)], args := [d1, d2, d3, d4] }
  | _ => none }
def clockConvictsRow : OpenClaim := { program := "ytpccnjgeddjfjaa", sum := "60b16abeff256513180b534ea96bc0a9cffe9564f474769eae838a4a039baebf", func := "octant/octantlaw07.ClockConvicts", spec := "clockConvicts", inPlace := ["internal/bytealg.abigen_runtime_cmpstring"], unfollowed := true, recurses := true, plainKeys := false, apart := false }
def ClockConvictsSaid : Prop := clockConvictsRow.holds Try.pinned (OpenSpec.ofChange clockConvictsSpec)

/-- ITS FALSE NEIGHBOUR: 'it returns false'. Refute it at one input. -/
def clockConvictsWrong : ChangeSpec := { name := "clockConvicts", fn := fun _ => fun
  | [d1, d2, d3, d4] => { results := [.lit (.bool false)], args := [d1, d2, d3, d4] }
  | _ => none }
def ClockConvictsWrongFalsely : Prop := clockConvictsRow.holds Try.pinned (OpenSpec.ofChange clockConvictsWrong)

/-- 'octantlaw07.ClockLonger': WHATEVER THE INPUT: true; the input reads as it did. -/
def clockLongerSpec : ChangeSpec := { name := "clockLonger", fn := fun _ => fun
  | [d1, d2] => { results := [.lit (.bool true)], args := [d1, d2] }
  | _ => none }
def clockLongerRow : OpenClaim := { program := "ytpccnjgeddjfjaa", sum := "60b16abeff256513180b534ea96bc0a9cffe9564f474769eae838a4a039baebf", func := "octant/octantlaw07.ClockLonger", spec := "clockLonger", inPlace := ["internal/bytealg.abigen_runtime_cmpstring"], unfollowed := true, recurses := true, plainKeys := false, apart := false }
def ClockLongerSaid : Prop := clockLongerRow.holds Try.pinned (OpenSpec.ofChange clockLongerSpec)

/-- ITS FALSE NEIGHBOUR: 'it returns false'. Refute it at one input. -/
def clockLongerWrong : ChangeSpec := { name := "clockLonger", fn := fun _ => fun
  | [d1, d2] => { results := [.lit (.bool false)], args := [d1, d2] }
  | _ => none }
def ClockLongerWrongFalsely : Prop := clockLongerRow.holds Try.pinned (OpenSpec.ofChange clockLongerWrong)

/-- 'octantlaw07.ClockKnown': WHATEVER THE INPUT: true; the input reads as it did. -/
def clockKnownSpec : ChangeSpec := { name := "clockKnown", fn := fun _ => fun
  | [] => { results := [.lit (.bool true)], args := [] }
  | _ => none }
def clockKnownRow : OpenClaim := { program := "ytpccnjgeddjfjaa", sum := "60b16abeff256513180b534ea96bc0a9cffe9564f474769eae838a4a039baebf", func := "octant/octantlaw07.ClockKnown", spec := "clockKnown", inPlace := ["internal/bytealg.abigen_runtime_cmpstring"], unfollowed := true, recurses := true, plainKeys := false, apart := false }
def ClockKnownSaid : Prop := clockKnownRow.holds Try.pinned (OpenSpec.ofChange clockKnownSpec)

/-- ITS FALSE NEIGHBOUR: 'it returns false'. Refute it at one input. -/
def clockKnownWrong : ChangeSpec := { name := "clockKnown", fn := fun _ => fun
  | [] => { results := [.lit (.bool false)], args := [] }
  | _ => none }
def ClockKnownWrongFalsely : Prop := clockKnownRow.holds Try.pinned (OpenSpec.ofChange clockKnownWrong)

/- THE SECOND FORM. 'bulk': how many values and letters a reading holds, each counted each time it is reached (what is shared counts as often as it is met; a slice's spare places count too). A statement '..UptoSaid' is the law's where the arguments, and the package variables that the reading takes, are together of bulk at most 1048576: NARROWER than '..Said'. Prove '..Said' where nothing that the law and all that it calls make is longer than what came in: it says more and counts as full. Else prove '..UptoSaid'. A law counts once. -/
mutual
def uptoBulk {H : Type} : DataW H → Nat
  | .lit (.string bytes) => bytes.length + 1
  | .lit _ => 1
  | .nil => 1
  | .ptr d => uptoBulk d + 1
  | .slice elems spare => uptoBulkAll elems + uptoBulkAll spare + 1
  | .agg parts => uptoBulkAll parts + 1
  | .iface _ d => uptoBulk d + 1
  | .map entries => uptoBulkEntries entries + 1
  | .held _ => 1
def uptoBulkAll {H : Type} : List (DataW H) → Nat
  | [] => 0
  | d :: r => uptoBulk d + uptoBulkAll r
def uptoBulkEntries {H : Type} : List (Lit × DataW H) → Nat
  | [] => 0
  | x :: r => uptoBulkEntry x + uptoBulkEntries r
def uptoBulkEntry {H : Type} : Lit × DataW H → Nat
  | (.string bytes, d) => bytes.length + uptoBulk d + 1
  | (_, d) => uptoBulk d + 1
 end
def uptoSmall : (H : Type) → List (DataW H) → Bool := fun _ ds => decide (uptoBulkAll ds ≤ 1048576)
def OpenSpec.upto (s : _root_.Go.ChangeSpec) : _root_.Go.OpenSpec := { _root_.Go.OpenSpec.ofChange s with cond := some uptoSmall }

/-- 'octantlaw07.ClockCones', WHERE WHAT IT READS IS OF BULK AT MOST 1048576: true; the input reads as it did. -/
def clockConesUptoRow : OpenClaim := { program := "ytpccnjgeddjfjaa", sum := "60b16abeff256513180b534ea96bc0a9cffe9564f474769eae838a4a039baebf", func := "octant/octantlaw07.ClockCones", spec := "clockCones", inPlace := ["internal/bytealg.abigen_runtime_cmpstring"], unfollowed := true, recurses := true, plainKeys := false, apart := false, narrowed := true }
def ClockConesUptoSaid : Prop := clockConesUptoRow.holds Try.pinned (OpenSpec.upto clockConesSpec)

/-- 'octantlaw07.ClockErrors', WHERE WHAT IT READS IS OF BULK AT MOST 1048576: true; the input reads as it did. -/
def clockErrorsUptoRow : OpenClaim := { program := "ytpccnjgeddjfjaa", sum := "60b16abeff256513180b534ea96bc0a9cffe9564f474769eae838a4a039baebf", func := "octant/octantlaw07.ClockErrors", spec := "clockErrors", inPlace := ["internal/bytealg.abigen_runtime_cmpstring"], unfollowed := true, recurses := true, plainKeys := false, apart := false, narrowed := true }
def ClockErrorsUptoSaid : Prop := clockErrorsUptoRow.holds Try.pinned (OpenSpec.upto clockErrorsSpec)

/-- 'octantlaw07.ClockRanks', WHERE WHAT IT READS IS OF BULK AT MOST 1048576: true; the input reads as it did. -/
def clockRanksUptoRow : OpenClaim := { program := "ytpccnjgeddjfjaa", sum := "60b16abeff256513180b534ea96bc0a9cffe9564f474769eae838a4a039baebf", func := "octant/octantlaw07.ClockRanks", spec := "clockRanks", inPlace := ["internal/bytealg.abigen_runtime_cmpstring"], unfollowed := true, recurses := true, plainKeys := false, apart := false, narrowed := true }
def ClockRanksUptoSaid : Prop := clockRanksUptoRow.holds Try.pinned (OpenSpec.upto clockRanksSpec)

/-- 'octantlaw07.ClockWatches', WHERE WHAT IT READS IS OF BULK AT MOST 1048576: true; the input reads as it did. -/
def clockWatchesUptoRow : OpenClaim := { program := "ytpccnjgeddjfjaa", sum := "60b16abeff256513180b534ea96bc0a9cffe9564f474769eae838a4a039baebf", func := "octant/octantlaw07.ClockWatches", spec := "clockWatches", inPlace := ["internal/bytealg.abigen_runtime_cmpstring"], unfollowed := true, recurses := true, plainKeys := false, apart := false, narrowed := true }
def ClockWatchesUptoSaid : Prop := clockWatchesUptoRow.holds Try.pinned (OpenSpec.upto clockWatchesSpec)

/-- 'octantlaw07.ClockHolds', WHERE WHAT IT READS IS OF BULK AT MOST 1048576: true; the input reads as it did. -/
def clockHoldsUptoRow : OpenClaim := { program := "ytpccnjgeddjfjaa", sum := "60b16abeff256513180b534ea96bc0a9cffe9564f474769eae838a4a039baebf", func := "octant/octantlaw07.ClockHolds", spec := "clockHolds", inPlace := ["internal/bytealg.abigen_runtime_cmpstring"], unfollowed := true, recurses := true, plainKeys := false, apart := false, narrowed := true }
def ClockHoldsUptoSaid : Prop := clockHoldsUptoRow.holds Try.pinned (OpenSpec.upto clockHoldsSpec)

/-- 'octantlaw07.ClockEnds', WHERE WHAT IT READS IS OF BULK AT MOST 1048576: true; the input reads as it did. -/
def clockEndsUptoRow : OpenClaim := { program := "ytpccnjgeddjfjaa", sum := "60b16abeff256513180b534ea96bc0a9cffe9564f474769eae838a4a039baebf", func := "octant/octantlaw07.ClockEnds", spec := "clockEnds", inPlace := ["internal/bytealg.abigen_runtime_cmpstring"], unfollowed := true, recurses := true, plainKeys := false, apart := false, narrowed := true }
def ClockEndsUptoSaid : Prop := clockEndsUptoRow.holds Try.pinned (OpenSpec.upto clockEndsSpec)

/-- 'octantlaw07.ClockNarrow', WHERE WHAT IT READS IS OF BULK AT MOST 1048576: true; the input reads as it did. -/
def clockNarrowUptoRow : OpenClaim := { program := "ytpccnjgeddjfjaa", sum := "60b16abeff256513180b534ea96bc0a9cffe9564f474769eae838a4a039baebf", func := "octant/octantlaw07.ClockNarrow", spec := "clockNarrow", inPlace := ["internal/bytealg.abigen_runtime_cmpstring"], unfollowed := true, recurses := true, plainKeys := false, apart := false, narrowed := true }
def ClockNarrowUptoSaid : Prop := clockNarrowUptoRow.holds Try.pinned (OpenSpec.upto clockNarrowSpec)

/-- 'octantlaw07.ClockRule', WHERE WHAT IT READS IS OF BULK AT MOST 1048576: true; the input reads as it did. -/
def clockRuleUptoRow : OpenClaim := { program := "ytpccnjgeddjfjaa", sum := "60b16abeff256513180b534ea96bc0a9cffe9564f474769eae838a4a039baebf", func := "octant/octantlaw07.ClockRule", spec := "clockRule", inPlace := ["internal/bytealg.abigen_runtime_cmpstring"], unfollowed := true, recurses := true, plainKeys := false, apart := false, narrowed := true }
def ClockRuleUptoSaid : Prop := clockRuleUptoRow.holds Try.pinned (OpenSpec.upto clockRuleSpec)

/-- 'octantlaw07.ClockSteady', WHERE WHAT IT READS IS OF BULK AT MOST 1048576: true; the input reads as it did. -/
def clockSteadyUptoRow : OpenClaim := { program := "ytpccnjgeddjfjaa", sum := "60b16abeff256513180b534ea96bc0a9cffe9564f474769eae838a4a039baebf", func := "octant/octantlaw07.ClockSteady", spec := "clockSteady", inPlace := ["internal/bytealg.abigen_runtime_cmpstring"], unfollowed := true, recurses := true, plainKeys := false, apart := false, narrowed := true }
def ClockSteadyUptoSaid : Prop := clockSteadyUptoRow.holds Try.pinned (OpenSpec.upto clockSteadySpec)

/-- 'octantlaw07.ClockConvicts', WHERE WHAT IT READS IS OF BULK AT MOST 1048576: true; the input reads as it did. -/
def clockConvictsUptoRow : OpenClaim := { program := "ytpccnjgeddjfjaa", sum := "60b16abeff256513180b534ea96bc0a9cffe9564f474769eae838a4a039baebf", func := "octant/octantlaw07.ClockConvicts", spec := "clockConvicts", inPlace := ["internal/bytealg.abigen_runtime_cmpstring"], unfollowed := true, recurses := true, plainKeys := false, apart := false, narrowed := true }
def ClockConvictsUptoSaid : Prop := clockConvictsUptoRow.holds Try.pinned (OpenSpec.upto clockConvictsSpec)

/-- 'octantlaw07.ClockLonger', WHERE WHAT IT READS IS OF BULK AT MOST 1048576: true; the input reads as it did. -/
def clockLongerUptoRow : OpenClaim := { program := "ytpccnjgeddjfjaa", sum := "60b16abeff256513180b534ea96bc0a9cffe9564f474769eae838a4a039baebf", func := "octant/octantlaw07.ClockLonger", spec := "clockLonger", inPlace := ["internal/bytealg.abigen_runtime_cmpstring"], unfollowed := true, recurses := true, plainKeys := false, apart := false, narrowed := true }
def ClockLongerUptoSaid : Prop := clockLongerUptoRow.holds Try.pinned (OpenSpec.upto clockLongerSpec)

/-- 'octantlaw07.ClockKnown', WHERE WHAT IT READS IS OF BULK AT MOST 1048576: true; the input reads as it did. -/
def clockKnownUptoRow : OpenClaim := { program := "ytpccnjgeddjfjaa", sum := "60b16abeff256513180b534ea96bc0a9cffe9564f474769eae838a4a039baebf", func := "octant/octantlaw07.ClockKnown", spec := "clockKnown", inPlace := ["internal/bytealg.abigen_runtime_cmpstring"], unfollowed := true, recurses := true, plainKeys := false, apart := false, narrowed := true }
def ClockKnownUptoSaid : Prop := clockKnownUptoRow.holds Try.pinned (OpenSpec.upto clockKnownSpec)

end Rows
end Go.Proofs.Ytpccnjgeddjfjaa
