/-
  No cell of these rows narrows 'for every input' (looked for: loops, veiled, ifaces, maps, wideKeys, modest, calm, conditions, laid).
  DERIVED. THE GIVEN ROWS OF THIS SEAT. 12 by the template 'for every input the law returns true; each argument reads behind the call as it read before'; 0 by the template 'total and deterministic' (their statements: YtcbiofokeadddaaTotals.lean).
  GIVEN WITH THE SEED: the statements are not yours to turn. If you find one false, say at which input.
  Laid BY PROGRAM, IN A SANDBOX (cutbox-rows.mjs): the forced cells as the released guide's own fill.sh prints them over the translation 59d7744c760d517a… (all of the seat's roots in one cut). By AI agents, Wed Nov 11 2026. No macro, syntax, notation, axiom, sorry.
-/
import Derived.Test.YtcbiofokeadddaaChecked
import GoSem.Claim
import GoSem.ClaimJoined
import GoSem.ClaimMapViews
import Derived.JoinedTies
import Derived.KernelRfl
namespace Go.Proofs.Ytcbiofokeadddaa
/- THE CELL 'sum', in the pinned program and in every row, IS THE sha256 OF THE DUMP (.gsa) THAT YtcbiofokeadddaaProg.lean LOADS. Nothing in Lean hashes anything: it is a label: what it is worth is what the hold of that sum in a sandbox is worth. -/
noncomputable def Try.pinned : Pinned := { name := "ytcbiofokeadddaa", sum := "59d7744c760d517ac3abf5311ca8447937cfec1328c80958841308629faeb88b", checked := Try.checked }
namespace Rows
def none {H : Type} : Left H := { results := [], args := [] }

/-- 'octantlaw02.ScrewGears': WHATEVER THE INPUT: true; the input reads as it did. -/
def screwGearsSpec : ChangeSpec := { name := "screwGears", fn := fun _ => fun
  | [d1, d2, d3] => { results := [.lit (.bool true)], args := [d1, d2, d3] }
  | _ => none }
def screwGearsRow : OpenClaim := { program := "ytcbiofokeadddaa", sum := "59d7744c760d517ac3abf5311ca8447937cfec1328c80958841308629faeb88b", func := "octant/octantlaw02.ScrewGears", spec := "screwGears", unfollowed := true, recurses := true, plainKeys := false, apart := false }
def ScrewGearsSaid : Prop := screwGearsRow.holds Try.pinned (OpenSpec.ofChange screwGearsSpec)

/-- ITS FALSE NEIGHBOUR: 'it returns false'. Refute it at one input. -/
def screwGearsWrong : ChangeSpec := { name := "screwGears", fn := fun _ => fun
  | [d1, d2, d3] => { results := [.lit (.bool false)], args := [d1, d2, d3] }
  | _ => none }
def ScrewGearsWrongFalsely : Prop := screwGearsRow.holds Try.pinned (OpenSpec.ofChange screwGearsWrong)

/-- 'octantlaw02.ScrewCompares': WHATEVER THE INPUT: true; the input reads as it did. -/
def screwComparesSpec : ChangeSpec := { name := "screwCompares", fn := fun _ => fun
  | [d1, d2, d3] => { results := [.lit (.bool true)], args := [d1, d2, d3] }
  | _ => none }
def screwComparesRow : OpenClaim := { program := "ytcbiofokeadddaa", sum := "59d7744c760d517ac3abf5311ca8447937cfec1328c80958841308629faeb88b", func := "octant/octantlaw02.ScrewCompares", spec := "screwCompares", unfollowed := true, recurses := true, plainKeys := false, apart := false }
def ScrewComparesSaid : Prop := screwComparesRow.holds Try.pinned (OpenSpec.ofChange screwComparesSpec)

/-- ITS FALSE NEIGHBOUR: 'it returns false'. Refute it at one input. -/
def screwComparesWrong : ChangeSpec := { name := "screwCompares", fn := fun _ => fun
  | [d1, d2, d3] => { results := [.lit (.bool false)], args := [d1, d2, d3] }
  | _ => none }
def ScrewComparesWrongFalsely : Prop := screwComparesRow.holds Try.pinned (OpenSpec.ofChange screwComparesWrong)

/-- 'octantlaw02.ScrewLaps': WHATEVER THE INPUT: true; the input reads as it did. -/
def screwLapsSpec : ChangeSpec := { name := "screwLaps", fn := fun _ => fun
  | [d1, d2, d3] => { results := [.lit (.bool true)], args := [d1, d2, d3] }
  | _ => none }
def screwLapsRow : OpenClaim := { program := "ytcbiofokeadddaa", sum := "59d7744c760d517ac3abf5311ca8447937cfec1328c80958841308629faeb88b", func := "octant/octantlaw02.ScrewLaps", spec := "screwLaps", unfollowed := true, recurses := true, plainKeys := false, apart := false }
def ScrewLapsSaid : Prop := screwLapsRow.holds Try.pinned (OpenSpec.ofChange screwLapsSpec)

/-- ITS FALSE NEIGHBOUR: 'it returns false'. Refute it at one input. -/
def screwLapsWrong : ChangeSpec := { name := "screwLaps", fn := fun _ => fun
  | [d1, d2, d3] => { results := [.lit (.bool false)], args := [d1, d2, d3] }
  | _ => none }
def ScrewLapsWrongFalsely : Prop := screwLapsRow.holds Try.pinned (OpenSpec.ofChange screwLapsWrong)

/-- 'octantlaw02.ScrewPeriods': WHATEVER THE INPUT: true; the input reads as it did. -/
def screwPeriodsSpec : ChangeSpec := { name := "screwPeriods", fn := fun _ => fun
  | [d] => { results := [.lit (.bool true)], args := [d] }
  | _ => none }
def screwPeriodsRow : OpenClaim := { program := "ytcbiofokeadddaa", sum := "59d7744c760d517ac3abf5311ca8447937cfec1328c80958841308629faeb88b", func := "octant/octantlaw02.ScrewPeriods", spec := "screwPeriods", unfollowed := true, recurses := true, plainKeys := false, apart := false }
def ScrewPeriodsSaid : Prop := screwPeriodsRow.holds Try.pinned (OpenSpec.ofChange screwPeriodsSpec)

/-- ITS FALSE NEIGHBOUR: 'it returns false'. Refute it at one input. -/
def screwPeriodsWrong : ChangeSpec := { name := "screwPeriods", fn := fun _ => fun
  | [d] => { results := [.lit (.bool false)], args := [d] }
  | _ => none }
def ScrewPeriodsWrongFalsely : Prop := screwPeriodsRow.holds Try.pinned (OpenSpec.ofChange screwPeriodsWrong)

/-- 'octantlaw02.ScrewExact': WHATEVER THE INPUT: true; the input reads as it did. -/
def screwExactSpec : ChangeSpec := { name := "screwExact", fn := fun _ => fun
  | [d1, d2, d3] => { results := [.lit (.bool true)], args := [d1, d2, d3] }
  | _ => none }
def screwExactRow : OpenClaim := { program := "ytcbiofokeadddaa", sum := "59d7744c760d517ac3abf5311ca8447937cfec1328c80958841308629faeb88b", func := "octant/octantlaw02.ScrewExact", spec := "screwExact", unfollowed := true, recurses := true, plainKeys := false, apart := false }
def ScrewExactSaid : Prop := screwExactRow.holds Try.pinned (OpenSpec.ofChange screwExactSpec)

/-- ITS FALSE NEIGHBOUR: 'it returns false'. Refute it at one input. -/
def screwExactWrong : ChangeSpec := { name := "screwExact", fn := fun _ => fun
  | [d1, d2, d3] => { results := [.lit (.bool false)], args := [d1, d2, d3] }
  | _ => none }
def ScrewExactWrongFalsely : Prop := screwExactRow.holds Try.pinned (OpenSpec.ofChange screwExactWrong)

/-- 'octantlaw02.ScrewEnds': WHATEVER THE INPUT: true; the input reads as it did. -/
def screwEndsSpec : ChangeSpec := { name := "screwEnds", fn := fun _ => fun
  | [d1, d2, d3] => { results := [.lit (.bool true)], args := [d1, d2, d3] }
  | _ => none }
def screwEndsRow : OpenClaim := { program := "ytcbiofokeadddaa", sum := "59d7744c760d517ac3abf5311ca8447937cfec1328c80958841308629faeb88b", func := "octant/octantlaw02.ScrewEnds", spec := "screwEnds", unfollowed := true, recurses := true, plainKeys := false, apart := false }
def ScrewEndsSaid : Prop := screwEndsRow.holds Try.pinned (OpenSpec.ofChange screwEndsSpec)

/-- ITS FALSE NEIGHBOUR: 'it returns false'. Refute it at one input. -/
def screwEndsWrong : ChangeSpec := { name := "screwEnds", fn := fun _ => fun
  | [d1, d2, d3] => { results := [.lit (.bool false)], args := [d1, d2, d3] }
  | _ => none }
def ScrewEndsWrongFalsely : Prop := screwEndsRow.holds Try.pinned (OpenSpec.ofChange screwEndsWrong)

/-- 'octantlaw02.ScrewMore': WHATEVER THE INPUT: true; the input reads as it did. -/
def screwMoreSpec : ChangeSpec := { name := "screwMore", fn := fun _ => fun
  | [d1, d2, d3] => { results := [.lit (.bool true)], args := [d1, d2, d3] }
  | _ => none }
def screwMoreRow : OpenClaim := { program := "ytcbiofokeadddaa", sum := "59d7744c760d517ac3abf5311ca8447937cfec1328c80958841308629faeb88b", func := "octant/octantlaw02.ScrewMore", spec := "screwMore", unfollowed := true, recurses := true, plainKeys := false, apart := false }
def ScrewMoreSaid : Prop := screwMoreRow.holds Try.pinned (OpenSpec.ofChange screwMoreSpec)

/-- ITS FALSE NEIGHBOUR: 'it returns false'. Refute it at one input. -/
def screwMoreWrong : ChangeSpec := { name := "screwMore", fn := fun _ => fun
  | [d1, d2, d3] => { results := [.lit (.bool false)], args := [d1, d2, d3] }
  | _ => none }
def ScrewMoreWrongFalsely : Prop := screwMoreRow.holds Try.pinned (OpenSpec.ofChange screwMoreWrong)

/-- 'octantlaw02.ScrewFound': WHATEVER THE INPUT: true; the input reads as it did. -/
def screwFoundSpec : ChangeSpec := { name := "screwFound", fn := fun _ => fun
  | [d1, d2, d3] => { results := [.lit (.bool true)], args := [d1, d2, d3] }
  | _ => none }
def screwFoundRow : OpenClaim := { program := "ytcbiofokeadddaa", sum := "59d7744c760d517ac3abf5311ca8447937cfec1328c80958841308629faeb88b", func := "octant/octantlaw02.ScrewFound", spec := "screwFound", unfollowed := true, recurses := true, plainKeys := false, apart := false }
def ScrewFoundSaid : Prop := screwFoundRow.holds Try.pinned (OpenSpec.ofChange screwFoundSpec)

/-- ITS FALSE NEIGHBOUR: 'it returns false'. Refute it at one input. -/
def screwFoundWrong : ChangeSpec := { name := "screwFound", fn := fun _ => fun
  | [d1, d2, d3] => { results := [.lit (.bool false)], args := [d1, d2, d3] }
  | _ => none }
def ScrewFoundWrongFalsely : Prop := screwFoundRow.holds Try.pinned (OpenSpec.ofChange screwFoundWrong)

/-- 'octantlaw02.ScrewNut': WHATEVER THE INPUT: true; the input reads as it did. -/
def screwNutSpec : ChangeSpec := { name := "screwNut", fn := fun _ => fun
  | [d1, d2, d3] => { results := [.lit (.bool true)], args := [d1, d2, d3] }
  | _ => none }
def screwNutRow : OpenClaim := { program := "ytcbiofokeadddaa", sum := "59d7744c760d517ac3abf5311ca8447937cfec1328c80958841308629faeb88b", func := "octant/octantlaw02.ScrewNut", spec := "screwNut", unfollowed := true, recurses := true, plainKeys := false, apart := false }
def ScrewNutSaid : Prop := screwNutRow.holds Try.pinned (OpenSpec.ofChange screwNutSpec)

/-- ITS FALSE NEIGHBOUR: 'it returns false'. Refute it at one input. -/
def screwNutWrong : ChangeSpec := { name := "screwNut", fn := fun _ => fun
  | [d1, d2, d3] => { results := [.lit (.bool false)], args := [d1, d2, d3] }
  | _ => none }
def ScrewNutWrongFalsely : Prop := screwNutRow.holds Try.pinned (OpenSpec.ofChange screwNutWrong)

/-- 'octantlaw02.ScrewGood': WHATEVER THE INPUT: true; the input reads as it did. -/
def screwGoodSpec : ChangeSpec := { name := "screwGood", fn := fun _ => fun
  | [d1, d2, d3, d4] => { results := [.lit (.bool true)], args := [d1, d2, d3, d4] }
  | _ => none }
def screwGoodRow : OpenClaim := { program := "ytcbiofokeadddaa", sum := "59d7744c760d517ac3abf5311ca8447937cfec1328c80958841308629faeb88b", func := "octant/octantlaw02.ScrewGood", spec := "screwGood", unfollowed := true, recurses := true, plainKeys := false, apart := false }
def ScrewGoodSaid : Prop := screwGoodRow.holds Try.pinned (OpenSpec.ofChange screwGoodSpec)

/-- ITS FALSE NEIGHBOUR: 'it returns false'. Refute it at one input. -/
def screwGoodWrong : ChangeSpec := { name := "screwGood", fn := fun _ => fun
  | [d1, d2, d3, d4] => { results := [.lit (.bool false)], args := [d1, d2, d3, d4] }
  | _ => none }
def ScrewGoodWrongFalsely : Prop := screwGoodRow.holds Try.pinned (OpenSpec.ofChange screwGoodWrong)

/-- 'octantlaw02.ScrewSteady': WHATEVER THE INPUT: true; the input reads as it did. -/
def screwSteadySpec : ChangeSpec := { name := "screwSteady", fn := fun _ => fun
  | [d1, d2] => { results := [.lit (.bool true)], args := [d1, d2] }
  | _ => none }
def screwSteadyRow : OpenClaim := { program := "ytcbiofokeadddaa", sum := "59d7744c760d517ac3abf5311ca8447937cfec1328c80958841308629faeb88b", func := "octant/octantlaw02.ScrewSteady", spec := "screwSteady", unfollowed := true, recurses := true, plainKeys := false, apart := false }
def ScrewSteadySaid : Prop := screwSteadyRow.holds Try.pinned (OpenSpec.ofChange screwSteadySpec)

/-- ITS FALSE NEIGHBOUR: 'it returns false'. Refute it at one input. -/
def screwSteadyWrong : ChangeSpec := { name := "screwSteady", fn := fun _ => fun
  | [d1, d2] => { results := [.lit (.bool false)], args := [d1, d2] }
  | _ => none }
def ScrewSteadyWrongFalsely : Prop := screwSteadyRow.holds Try.pinned (OpenSpec.ofChange screwSteadyWrong)

/-- 'octantlaw02.ScrewKnown': WHATEVER THE INPUT: true; the input reads as it did. -/
def screwKnownSpec : ChangeSpec := { name := "screwKnown", fn := fun _ => fun
  | [] => { results := [.lit (.bool true)], args := [] }
  | _ => none }
def screwKnownRow : OpenClaim := { program := "ytcbiofokeadddaa", sum := "59d7744c760d517ac3abf5311ca8447937cfec1328c80958841308629faeb88b", func := "octant/octantlaw02.ScrewKnown", spec := "screwKnown", unfollowed := true, recurses := true, plainKeys := false, apart := false }
def ScrewKnownSaid : Prop := screwKnownRow.holds Try.pinned (OpenSpec.ofChange screwKnownSpec)

/-- ITS FALSE NEIGHBOUR: 'it returns false'. Refute it at one input. -/
def screwKnownWrong : ChangeSpec := { name := "screwKnown", fn := fun _ => fun
  | [] => { results := [.lit (.bool false)], args := [] }
  | _ => none }
def ScrewKnownWrongFalsely : Prop := screwKnownRow.holds Try.pinned (OpenSpec.ofChange screwKnownWrong)

/- THE SECOND FORM. 'bulk': how many values and letters a reading holds, each counted each time it is reached (what is shared counts as often as it is met; a slice's spare places count too). A statement '..UptoSaid' is the law's where the arguments, and the package variables that the reading takes, are together of bulk at most 1048576: NARROWER than '..Said'. Prove '..Said' where nothing that the law and all that it calls make is longer than what came in: it says more and counts as full. Else prove '..UptoSaid'. A law counts once. -/
mutual
def uptoBulk {H : Type} : DataW H → Nat
  | .lit (.string bytes) => bytes.length + 1
  | .lit _ => 1
  | .nil => 1
  | .ptr d => uptoBulk d + 1
  | .slice elems spare => uptoBulkAll elems + uptoBulkAll spare + 1
  | .agg parts => uptoBulkAll parts + 1
  | .iface _ d => uptoBulk d + 1
  | .map entries => uptoBulkEntries entries + 1
  | .held _ => 1
def uptoBulkAll {H : Type} : List (DataW H) → Nat
  | [] => 0
  | d :: r => uptoBulk d + uptoBulkAll r
def uptoBulkEntries {H : Type} : List (Lit × DataW H) → Nat
  | [] => 0
  | x :: r => uptoBulkEntry x + uptoBulkEntries r
def uptoBulkEntry {H : Type} : Lit × DataW H → Nat
  | (.string bytes, d) => bytes.length + uptoBulk d + 1
  | (_, d) => uptoBulk d + 1
 end
def uptoSmall : (H : Type) → List (DataW H) → Bool := fun _ ds => decide (uptoBulkAll ds ≤ 1048576)
def OpenSpec.upto (s : _root_.Go.ChangeSpec) : _root_.Go.OpenSpec := { _root_.Go.OpenSpec.ofChange s with cond := some uptoSmall }

/-- 'octantlaw02.ScrewGears', WHERE WHAT IT READS IS OF BULK AT MOST 1048576: true; the input reads as it did. -/
def screwGearsUptoRow : OpenClaim := { program := "ytcbiofokeadddaa", sum := "59d7744c760d517ac3abf5311ca8447937cfec1328c80958841308629faeb88b", func := "octant/octantlaw02.ScrewGears", spec := "screwGears", unfollowed := true, recurses := true, plainKeys := false, apart := false, narrowed := true }
def ScrewGearsUptoSaid : Prop := screwGearsUptoRow.holds Try.pinned (OpenSpec.upto screwGearsSpec)

/-- 'octantlaw02.ScrewCompares', WHERE WHAT IT READS IS OF BULK AT MOST 1048576: true; the input reads as it did. -/
def screwComparesUptoRow : OpenClaim := { program := "ytcbiofokeadddaa", sum := "59d7744c760d517ac3abf5311ca8447937cfec1328c80958841308629faeb88b", func := "octant/octantlaw02.ScrewCompares", spec := "screwCompares", unfollowed := true, recurses := true, plainKeys := false, apart := false, narrowed := true }
def ScrewComparesUptoSaid : Prop := screwComparesUptoRow.holds Try.pinned (OpenSpec.upto screwComparesSpec)

/-- 'octantlaw02.ScrewLaps', WHERE WHAT IT READS IS OF BULK AT MOST 1048576: true; the input reads as it did. -/
def screwLapsUptoRow : OpenClaim := { program := "ytcbiofokeadddaa", sum := "59d7744c760d517ac3abf5311ca8447937cfec1328c80958841308629faeb88b", func := "octant/octantlaw02.ScrewLaps", spec := "screwLaps", unfollowed := true, recurses := true, plainKeys := false, apart := false, narrowed := true }
def ScrewLapsUptoSaid : Prop := screwLapsUptoRow.holds Try.pinned (OpenSpec.upto screwLapsSpec)

/-- 'octantlaw02.ScrewPeriods', WHERE WHAT IT READS IS OF BULK AT MOST 1048576: true; the input reads as it did. -/
def screwPeriodsUptoRow : OpenClaim := { program := "ytcbiofokeadddaa", sum := "59d7744c760d517ac3abf5311ca8447937cfec1328c80958841308629faeb88b", func := "octant/octantlaw02.ScrewPeriods", spec := "screwPeriods", unfollowed := true, recurses := true, plainKeys := false, apart := false, narrowed := true }
def ScrewPeriodsUptoSaid : Prop := screwPeriodsUptoRow.holds Try.pinned (OpenSpec.upto screwPeriodsSpec)

/-- 'octantlaw02.ScrewExact', WHERE WHAT IT READS IS OF BULK AT MOST 1048576: true; the input reads as it did. -/
def screwExactUptoRow : OpenClaim := { program := "ytcbiofokeadddaa", sum := "59d7744c760d517ac3abf5311ca8447937cfec1328c80958841308629faeb88b", func := "octant/octantlaw02.ScrewExact", spec := "screwExact", unfollowed := true, recurses := true, plainKeys := false, apart := false, narrowed := true }
def ScrewExactUptoSaid : Prop := screwExactUptoRow.holds Try.pinned (OpenSpec.upto screwExactSpec)

/-- 'octantlaw02.ScrewEnds', WHERE WHAT IT READS IS OF BULK AT MOST 1048576: true; the input reads as it did. -/
def screwEndsUptoRow : OpenClaim := { program := "ytcbiofokeadddaa", sum := "59d7744c760d517ac3abf5311ca8447937cfec1328c80958841308629faeb88b", func := "octant/octantlaw02.ScrewEnds", spec := "screwEnds", unfollowed := true, recurses := true, plainKeys := false, apart := false, narrowed := true }
def ScrewEndsUptoSaid : Prop := screwEndsUptoRow.holds Try.pinned (OpenSpec.upto screwEndsSpec)

/-- 'octantlaw02.ScrewMore', WHERE WHAT IT READS IS OF BULK AT MOST 1048576: true; the input reads as it did. -/
def screwMoreUptoRow : OpenClaim := { program := "ytcbiofokeadddaa", sum := "59d7744c760d517ac3abf5311ca8447937cfec1328c80958841308629faeb88b", func := "octant/octantlaw02.ScrewMore", spec := "screwMore", unfollowed := true, recurses := true, plainKeys := false, apart := false, narrowed := true }
def ScrewMoreUptoSaid : Prop := screwMoreUptoRow.holds Try.pinned (OpenSpec.upto screwMoreSpec)

/-- 'octantlaw02.ScrewFound', WHERE WHAT IT READS IS OF BULK AT MOST 1048576: true; the input reads as it did. -/
def screwFoundUptoRow : OpenClaim := { program := "ytcbiofokeadddaa", sum := "59d7744c760d517ac3abf5311ca8447937cfec1328c80958841308629faeb88b", func := "octant/octantlaw02.ScrewFound", spec := "screwFound", unfollowed := true, recurses := true, plainKeys := false, apart := false, narrowed := true }
def ScrewFoundUptoSaid : Prop := screwFoundUptoRow.holds Try.pinned (OpenSpec.upto screwFoundSpec)

/-- 'octantlaw02.ScrewNut', WHERE WHAT IT READS IS OF BULK AT MOST 1048576: true; the input reads as it did. -/
def screwNutUptoRow : OpenClaim := { program := "ytcbiofokeadddaa", sum := "59d7744c760d517ac3abf5311ca8447937cfec1328c80958841308629faeb88b", func := "octant/octantlaw02.ScrewNut", spec := "screwNut", unfollowed := true, recurses := true, plainKeys := false, apart := false, narrowed := true }
def ScrewNutUptoSaid : Prop := screwNutUptoRow.holds Try.pinned (OpenSpec.upto screwNutSpec)

/-- 'octantlaw02.ScrewGood', WHERE WHAT IT READS IS OF BULK AT MOST 1048576: true; the input reads as it did. -/
def screwGoodUptoRow : OpenClaim := { program := "ytcbiofokeadddaa", sum := "59d7744c760d517ac3abf5311ca8447937cfec1328c80958841308629faeb88b", func := "octant/octantlaw02.ScrewGood", spec := "screwGood", unfollowed := true, recurses := true, plainKeys := false, apart := false, narrowed := true }
def ScrewGoodUptoSaid : Prop := screwGoodUptoRow.holds Try.pinned (OpenSpec.upto screwGoodSpec)

/-- 'octantlaw02.ScrewSteady', WHERE WHAT IT READS IS OF BULK AT MOST 1048576: true; the input reads as it did. -/
def screwSteadyUptoRow : OpenClaim := { program := "ytcbiofokeadddaa", sum := "59d7744c760d517ac3abf5311ca8447937cfec1328c80958841308629faeb88b", func := "octant/octantlaw02.ScrewSteady", spec := "screwSteady", unfollowed := true, recurses := true, plainKeys := false, apart := false, narrowed := true }
def ScrewSteadyUptoSaid : Prop := screwSteadyUptoRow.holds Try.pinned (OpenSpec.upto screwSteadySpec)

/-- 'octantlaw02.ScrewKnown', WHERE WHAT IT READS IS OF BULK AT MOST 1048576: true; the input reads as it did. -/
def screwKnownUptoRow : OpenClaim := { program := "ytcbiofokeadddaa", sum := "59d7744c760d517ac3abf5311ca8447937cfec1328c80958841308629faeb88b", func := "octant/octantlaw02.ScrewKnown", spec := "screwKnown", unfollowed := true, recurses := true, plainKeys := false, apart := false, narrowed := true }
def ScrewKnownUptoSaid : Prop := screwKnownUptoRow.holds Try.pinned (OpenSpec.upto screwKnownSpec)

end Rows
end Go.Proofs.Ytcbiofokeadddaa
