/-
  NARROWER THAN 'FOR EVERY INPUT', by the rows' own cells (each row's printed sentence says how): FixGoes: laid · FixTracks: laid · FixAsks: laid · FixCarries: laid · FixMoons: laid · FixShip: laid · FixThrough: laid · FixMore: laid · FixBest: laid · FixThree: laid · FixAgreed: laid · FixLit: laid · FixExchanged: laid · FixKnown: laid.
  DERIVED. THE GIVEN ROWS OF THIS SEAT. 14 by the template 'for every input the law returns true; each argument reads behind the call as it read before'; 0 by the template 'total and deterministic' (their statements: YtddclpecmjibkaaDoorTotals.lean).
  GIVEN WITH THE SEED: the statements are not yours to turn. If you find one false, say at which input.
  Laid BY PROGRAM, IN A SANDBOX (cutbox-rows.mjs): the forced cells as the released guide's own fill.sh prints them over the translation 6b4a0e6882770782… (all of the seat's roots in one cut). By AI agents, Wed Nov 11 2026. No macro, syntax, notation, axiom, sorry.
-/
import Derived.Test.YtddclpecmjibkaaDoorChecked
import GoSem.Claim
import GoSem.ClaimJoined
import GoSem.ClaimMapViews
import Derived.JoinedTies
import Derived.KernelRfl
namespace Go.Proofs.YtddclpecmjibkaaDoor
/- THE CELL 'sum', in the pinned program and in every row, IS THE sha256 OF THE DUMP (.gsa) THAT YtddclpecmjibkaaDoorProg.lean LOADS. Nothing in Lean hashes anything: it is a label: what it is worth is what the hold of that sum in a sandbox is worth. -/
noncomputable def Tryd.pinned : Pinned := { name := "ytddclpecmjibkaadoor", sum := "6b4a0e6882770782e23838c3f059647741d3692cf2e6adbca79c54f275dc804d", checked := Tryd.checked }
namespace Rows
def none {H : Type} : Left H := { results := [], args := [] }

/- WHAT THE LISTED PACKAGE-LEVEL VARIABLES READ AS WHEN THE CALL BEGINS. Each datum BY PROGRAM (the guide's laid-datum.mjs) off the statement by which the dump's own 'gosem.cut.vars' lays the variable. In a bare row this is a premise. The card (YtddclpecmjibkaaDoorCards.lean) ties it to the program's text. -/
def laid_octant_fix_holds {H : Type} : DataW H := .iface "func table" (.agg [.nil, .iface "func" (.lit (.string [40, 111, 99, 116, 97, 110, 116, 47, 102, 105, 120, 46, 115, 116, 101, 112, 41, 46, 115, 105, 103, 104, 116])), .nil, .iface "func" (.lit (.string [40, 111, 99, 116, 97, 110, 116, 47, 102, 105, 120, 46, 115, 116, 101, 112, 41, 46, 108, 111, 110, 103]))])

/-- 'octantlaw08.FixGoes': WHATEVER THE INPUT: true; the input reads as it did. -/
def fixGoesSpec : ChangeSpec := { name := "fixGoes", fn := fun _ => fun
  | [d1, d2, d3] => { results := [.lit (.bool true)], args := [d1, d2, d3] }
  | _ => none }
def fixGoesRow : OpenClaim := { program := "ytddclpecmjibkaadoor", sum := "6b4a0e6882770782e23838c3f059647741d3692cf2e6adbca79c54f275dc804d", func := "octant/octantlaw08.FixGoes", spec := "fixGoes", unfollowed := true, recurses := true, named := ["octant/fix.holds"], apart := false, laid := [("octant/fix.holds", laid_octant_fix_holds)] }
def FixGoesSaid : Prop := fixGoesRow.holds Tryd.pinned (OpenSpec.ofChange fixGoesSpec)

/-- ITS FALSE NEIGHBOUR: 'it returns false'. Refute it at one input. -/
def fixGoesWrong : ChangeSpec := { name := "fixGoes", fn := fun _ => fun
  | [d1, d2, d3] => { results := [.lit (.bool false)], args := [d1, d2, d3] }
  | _ => none }
def FixGoesWrongFalsely : Prop := fixGoesRow.holds Tryd.pinned (OpenSpec.ofChange fixGoesWrong)

/-- 'octantlaw08.FixTracks': WHATEVER THE INPUT: true; the input reads as it did. -/
def fixTracksSpec : ChangeSpec := { name := "fixTracks", fn := fun _ => fun
  | [d1, d2] => { results := [.lit (.bool true)], args := [d1, d2] }
  | _ => none }
def fixTracksRow : OpenClaim := { program := "ytddclpecmjibkaadoor", sum := "6b4a0e6882770782e23838c3f059647741d3692cf2e6adbca79c54f275dc804d", func := "octant/octantlaw08.FixTracks", spec := "fixTracks", unfollowed := true, recurses := true, named := ["octant/fix.holds"], apart := false, laid := [("octant/fix.holds", laid_octant_fix_holds)] }
def FixTracksSaid : Prop := fixTracksRow.holds Tryd.pinned (OpenSpec.ofChange fixTracksSpec)

/-- ITS FALSE NEIGHBOUR: 'it returns false'. Refute it at one input. -/
def fixTracksWrong : ChangeSpec := { name := "fixTracks", fn := fun _ => fun
  | [d1, d2] => { results := [.lit (.bool false)], args := [d1, d2] }
  | _ => none }
def FixTracksWrongFalsely : Prop := fixTracksRow.holds Tryd.pinned (OpenSpec.ofChange fixTracksWrong)

/-- 'octantlaw08.FixAsks': WHATEVER THE INPUT: true; the input reads as it did. -/
def fixAsksSpec : ChangeSpec := { name := "fixAsks", fn := fun _ => fun
  | [d1, d2] => { results := [.lit (.bool true)], args := [d1, d2] }
  | _ => none }
def fixAsksRow : OpenClaim := { program := "ytddclpecmjibkaadoor", sum := "6b4a0e6882770782e23838c3f059647741d3692cf2e6adbca79c54f275dc804d", func := "octant/octantlaw08.FixAsks", spec := "fixAsks", unfollowed := true, recurses := true, named := ["octant/fix.holds"], apart := false, laid := [("octant/fix.holds", laid_octant_fix_holds)] }
def FixAsksSaid : Prop := fixAsksRow.holds Tryd.pinned (OpenSpec.ofChange fixAsksSpec)

/-- ITS FALSE NEIGHBOUR: 'it returns false'. Refute it at one input. -/
def fixAsksWrong : ChangeSpec := { name := "fixAsks", fn := fun _ => fun
  | [d1, d2] => { results := [.lit (.bool false)], args := [d1, d2] }
  | _ => none }
def FixAsksWrongFalsely : Prop := fixAsksRow.holds Tryd.pinned (OpenSpec.ofChange fixAsksWrong)

/-- 'octantlaw08.FixCarries': WHATEVER THE INPUT: true; the input reads as it did. -/
def fixCarriesSpec : ChangeSpec := { name := "fixCarries", fn := fun _ => fun
  | [d1, d2] => { results := [.lit (.bool true)], args := [d1, d2] }
  | _ => none }
def fixCarriesRow : OpenClaim := { program := "ytddclpecmjibkaadoor", sum := "6b4a0e6882770782e23838c3f059647741d3692cf2e6adbca79c54f275dc804d", func := "octant/octantlaw08.FixCarries", spec := "fixCarries", unfollowed := true, recurses := true, named := ["octant/fix.holds"], apart := false, laid := [("octant/fix.holds", laid_octant_fix_holds)] }
def FixCarriesSaid : Prop := fixCarriesRow.holds Tryd.pinned (OpenSpec.ofChange fixCarriesSpec)

/-- ITS FALSE NEIGHBOUR: 'it returns false'. Refute it at one input. -/
def fixCarriesWrong : ChangeSpec := { name := "fixCarries", fn := fun _ => fun
  | [d1, d2] => { results := [.lit (.bool false)], args := [d1, d2] }
  | _ => none }
def FixCarriesWrongFalsely : Prop := fixCarriesRow.holds Tryd.pinned (OpenSpec.ofChange fixCarriesWrong)

/-- 'octantlaw08.FixMoons': WHATEVER THE INPUT: true; the input reads as it did. -/
def fixMoonsSpec : ChangeSpec := { name := "fixMoons", fn := fun _ => fun
  | [d1, d2] => { results := [.lit (.bool true)], args := [d1, d2] }
  | _ => none }
def fixMoonsRow : OpenClaim := { program := "ytddclpecmjibkaadoor", sum := "6b4a0e6882770782e23838c3f059647741d3692cf2e6adbca79c54f275dc804d", func := "octant/octantlaw08.FixMoons", spec := "fixMoons", unfollowed := true, recurses := true, named := ["octant/fix.holds"], apart := false, laid := [("octant/fix.holds", laid_octant_fix_holds)] }
def FixMoonsSaid : Prop := fixMoonsRow.holds Tryd.pinned (OpenSpec.ofChange fixMoonsSpec)

/-- ITS FALSE NEIGHBOUR: 'it returns false'. Refute it at one input. -/
def fixMoonsWrong : ChangeSpec := { name := "fixMoons", fn := fun _ => fun
  | [d1, d2] => { results := [.lit (.bool false)], args := [d1, d2] }
  | _ => none }
def FixMoonsWrongFalsely : Prop := fixMoonsRow.holds Tryd.pinned (OpenSpec.ofChange fixMoonsWrong)

/-- 'octantlaw08.FixShip': WHATEVER THE INPUT: true; the input reads as it did. -/
def fixShipSpec : ChangeSpec := { name := "fixShip", fn := fun _ => fun
  | [d1, d2, d3] => { results := [.lit (.bool true)], args := [d1, d2, d3] }
  | _ => none }
def fixShipRow : OpenClaim := { program := "ytddclpecmjibkaadoor", sum := "6b4a0e6882770782e23838c3f059647741d3692cf2e6adbca79c54f275dc804d", func := "octant/octantlaw08.FixShip", spec := "fixShip", unfollowed := true, recurses := true, named := ["octant/fix.holds"], apart := false, laid := [("octant/fix.holds", laid_octant_fix_holds)] }
def FixShipSaid : Prop := fixShipRow.holds Tryd.pinned (OpenSpec.ofChange fixShipSpec)

/-- ITS FALSE NEIGHBOUR: 'it returns false'. Refute it at one input. -/
def fixShipWrong : ChangeSpec := { name := "fixShip", fn := fun _ => fun
  | [d1, d2, d3] => { results := [.lit (.bool false)], args := [d1, d2, d3] }
  | _ => none }
def FixShipWrongFalsely : Prop := fixShipRow.holds Tryd.pinned (OpenSpec.ofChange fixShipWrong)

/-- 'octantlaw08.FixThrough': WHATEVER THE INPUT: true; the input reads as it did. -/
def fixThroughSpec : ChangeSpec := { name := "fixThrough", fn := fun _ => fun
  | [d1, d2] => { results := [.lit (.bool true)], args := [d1, d2] }
  | _ => none }
def fixThroughRow : OpenClaim := { program := "ytddclpecmjibkaadoor", sum := "6b4a0e6882770782e23838c3f059647741d3692cf2e6adbca79c54f275dc804d", func := "octant/octantlaw08.FixThrough", spec := "fixThrough", unfollowed := true, recurses := true, named := ["octant/fix.holds"], apart := false, laid := [("octant/fix.holds", laid_octant_fix_holds)] }
def FixThroughSaid : Prop := fixThroughRow.holds Tryd.pinned (OpenSpec.ofChange fixThroughSpec)

/-- ITS FALSE NEIGHBOUR: 'it returns false'. Refute it at one input. -/
def fixThroughWrong : ChangeSpec := { name := "fixThrough", fn := fun _ => fun
  | [d1, d2] => { results := [.lit (.bool false)], args := [d1, d2] }
  | _ => none }
def FixThroughWrongFalsely : Prop := fixThroughRow.holds Tryd.pinned (OpenSpec.ofChange fixThroughWrong)

/-- 'octantlaw08.FixMore': WHATEVER THE INPUT: true; the input reads as it did. -/
def fixMoreSpec : ChangeSpec := { name := "fixMore", fn := fun _ => fun
  | [d1, d2, d3] => { results := [.lit (.bool true)], args := [d1, d2, d3] }
  | _ => none }
def fixMoreRow : OpenClaim := { program := "ytddclpecmjibkaadoor", sum := "6b4a0e6882770782e23838c3f059647741d3692cf2e6adbca79c54f275dc804d", func := "octant/octantlaw08.FixMore", spec := "fixMore", unfollowed := true, recurses := true, named := ["octant/fix.holds"], apart := false, laid := [("octant/fix.holds", laid_octant_fix_holds)] }
def FixMoreSaid : Prop := fixMoreRow.holds Tryd.pinned (OpenSpec.ofChange fixMoreSpec)

/-- ITS FALSE NEIGHBOUR: 'it returns false'. Refute it at one input. -/
def fixMoreWrong : ChangeSpec := { name := "fixMore", fn := fun _ => fun
  | [d1, d2, d3] => { results := [.lit (.bool false)], args := [d1, d2, d3] }
  | _ => none }
def FixMoreWrongFalsely : Prop := fixMoreRow.holds Tryd.pinned (OpenSpec.ofChange fixMoreWrong)

/-- 'octantlaw08.FixBest': WHATEVER THE INPUT: true; the input reads as it did. -/
def fixBestSpec : ChangeSpec := { name := "fixBest", fn := fun _ => fun
  | [d1, d2, d3] => { results := [.lit (.bool true)], args := [d1, d2, d3] }
  | _ => none }
def fixBestRow : OpenClaim := { program := "ytddclpecmjibkaadoor", sum := "6b4a0e6882770782e23838c3f059647741d3692cf2e6adbca79c54f275dc804d", func := "octant/octantlaw08.FixBest", spec := "fixBest", unfollowed := true, recurses := true, named := ["octant/fix.holds"], apart := false, laid := [("octant/fix.holds", laid_octant_fix_holds)] }
def FixBestSaid : Prop := fixBestRow.holds Tryd.pinned (OpenSpec.ofChange fixBestSpec)

/-- ITS FALSE NEIGHBOUR: 'it returns false'. Refute it at one input. -/
def fixBestWrong : ChangeSpec := { name := "fixBest", fn := fun _ => fun
  | [d1, d2, d3] => { results := [.lit (.bool false)], args := [d1, d2, d3] }
  | _ => none }
def FixBestWrongFalsely : Prop := fixBestRow.holds Tryd.pinned (OpenSpec.ofChange fixBestWrong)

/-- 'octantlaw08.FixThree': WHATEVER THE INPUT: true; the input reads as it did. -/
def fixThreeSpec : ChangeSpec := { name := "fixThree", fn := fun _ => fun
  | [d1, d2, d3, d4] => { results := [.lit (.bool true)], args := [d1, d2, d3, d4] }
  | _ => none }
def fixThreeRow : OpenClaim := { program := "ytddclpecmjibkaadoor", sum := "6b4a0e6882770782e23838c3f059647741d3692cf2e6adbca79c54f275dc804d", func := "octant/octantlaw08.FixThree", spec := "fixThree", unfollowed := true, recurses := true, named := ["octant/fix.holds"], apart := false, laid := [("octant/fix.holds", laid_octant_fix_holds)] }
def FixThreeSaid : Prop := fixThreeRow.holds Tryd.pinned (OpenSpec.ofChange fixThreeSpec)

/-- ITS FALSE NEIGHBOUR: 'it returns false'. Refute it at one input. -/
def fixThreeWrong : ChangeSpec := { name := "fixThree", fn := fun _ => fun
  | [d1, d2, d3, d4] => { results := [.lit (.bool false)], args := [d1, d2, d3, d4] }
  | _ => none }
def FixThreeWrongFalsely : Prop := fixThreeRow.holds Tryd.pinned (OpenSpec.ofChange fixThreeWrong)

/-- 'octantlaw08.FixAgreed': WHATEVER THE INPUT: true; the input reads as it did. -/
def fixAgreedSpec : ChangeSpec := { name := "fixAgreed", fn := fun _ => fun
  | [d1, d2, d3] => { results := [.lit (.bool true)], args := [d1, d2, d3] }
  | _ => none }
def fixAgreedRow : OpenClaim := { program := "ytddclpecmjibkaadoor", sum := "6b4a0e6882770782e23838c3f059647741d3692cf2e6adbca79c54f275dc804d", func := "octant/octantlaw08.FixAgreed", spec := "fixAgreed", unfollowed := true, recurses := true, named := ["octant/fix.holds"], apart := false, laid := [("octant/fix.holds", laid_octant_fix_holds)] }
def FixAgreedSaid : Prop := fixAgreedRow.holds Tryd.pinned (OpenSpec.ofChange fixAgreedSpec)

/-- ITS FALSE NEIGHBOUR: 'it returns false'. Refute it at one input. -/
def fixAgreedWrong : ChangeSpec := { name := "fixAgreed", fn := fun _ => fun
  | [d1, d2, d3] => { results := [.lit (.bool false)], args := [d1, d2, d3] }
  | _ => none }
def FixAgreedWrongFalsely : Prop := fixAgreedRow.holds Tryd.pinned (OpenSpec.ofChange fixAgreedWrong)

/-- 'octantlaw08.FixLit': WHATEVER THE INPUT: true; the input reads as it did. -/
def fixLitSpec : ChangeSpec := { name := "fixLit", fn := fun _ => fun
  | [d1, d2, d3] => { results := [.lit (.bool true)], args := [d1, d2, d3] }
  | _ => none }
def fixLitRow : OpenClaim := { program := "ytddclpecmjibkaadoor", sum := "6b4a0e6882770782e23838c3f059647741d3692cf2e6adbca79c54f275dc804d", func := "octant/octantlaw08.FixLit", spec := "fixLit", unfollowed := true, recurses := true, named := ["octant/fix.holds"], apart := false, laid := [("octant/fix.holds", laid_octant_fix_holds)] }
def FixLitSaid : Prop := fixLitRow.holds Tryd.pinned (OpenSpec.ofChange fixLitSpec)

/-- ITS FALSE NEIGHBOUR: 'it returns false'. Refute it at one input. -/
def fixLitWrong : ChangeSpec := { name := "fixLit", fn := fun _ => fun
  | [d1, d2, d3] => { results := [.lit (.bool false)], args := [d1, d2, d3] }
  | _ => none }
def FixLitWrongFalsely : Prop := fixLitRow.holds Tryd.pinned (OpenSpec.ofChange fixLitWrong)

/-- 'octantlaw08.FixExchanged': WHATEVER THE INPUT: true; the input reads as it did. -/
def fixExchangedSpec : ChangeSpec := { name := "fixExchanged", fn := fun _ => fun
  | [d1, d2] => { results := [.lit (.bool true)], args := [d1, d2] }
  | _ => none }
def fixExchangedRow : OpenClaim := { program := "ytddclpecmjibkaadoor", sum := "6b4a0e6882770782e23838c3f059647741d3692cf2e6adbca79c54f275dc804d", func := "octant/octantlaw08.FixExchanged", spec := "fixExchanged", unfollowed := true, recurses := true, named := ["octant/fix.holds"], apart := false, laid := [("octant/fix.holds", laid_octant_fix_holds)] }
def FixExchangedSaid : Prop := fixExchangedRow.holds Tryd.pinned (OpenSpec.ofChange fixExchangedSpec)

/-- ITS FALSE NEIGHBOUR: 'it returns false'. Refute it at one input. -/
def fixExchangedWrong : ChangeSpec := { name := "fixExchanged", fn := fun _ => fun
  | [d1, d2] => { results := [.lit (.bool false)], args := [d1, d2] }
  | _ => none }
def FixExchangedWrongFalsely : Prop := fixExchangedRow.holds Tryd.pinned (OpenSpec.ofChange fixExchangedWrong)

/-- 'octantlaw08.FixKnown': WHATEVER THE INPUT: true; the input reads as it did. -/
def fixKnownSpec : ChangeSpec := { name := "fixKnown", fn := fun _ => fun
  | [] => { results := [.lit (.bool true)], args := [] }
  | _ => none }
def fixKnownRow : OpenClaim := { program := "ytddclpecmjibkaadoor", sum := "6b4a0e6882770782e23838c3f059647741d3692cf2e6adbca79c54f275dc804d", func := "octant/octantlaw08.FixKnown", spec := "fixKnown", unfollowed := true, recurses := true, named := ["octant/fix.holds"], apart := false, laid := [("octant/fix.holds", laid_octant_fix_holds)] }
def FixKnownSaid : Prop := fixKnownRow.holds Tryd.pinned (OpenSpec.ofChange fixKnownSpec)

/-- ITS FALSE NEIGHBOUR: 'it returns false'. Refute it at one input. -/
def fixKnownWrong : ChangeSpec := { name := "fixKnown", fn := fun _ => fun
  | [] => { results := [.lit (.bool false)], args := [] }
  | _ => none }
def FixKnownWrongFalsely : Prop := fixKnownRow.holds Tryd.pinned (OpenSpec.ofChange fixKnownWrong)

/- THE SECOND FORM. 'bulk': how many values and letters a reading holds, each counted each time it is reached (what is shared counts as often as it is met; a slice's spare places count too). A statement '..UptoSaid' is the law's where the arguments, and the package variables that the reading takes, are together of bulk at most 1048576: NARROWER than '..Said'. Prove '..Said' where nothing that the law and all that it calls make is longer than what came in: it says more and counts as full. Else prove '..UptoSaid'. A law counts once. -/
mutual
def uptoBulk {H : Type} : DataW H → Nat
  | .lit (.string bytes) => bytes.length + 1
  | .lit _ => 1
  | .nil => 1
  | .ptr d => uptoBulk d + 1
  | .slice elems spare => uptoBulkAll elems + uptoBulkAll spare + 1
  | .agg parts => uptoBulkAll parts + 1
  | .iface _ d => uptoBulk d + 1
  | .map entries => uptoBulkEntries entries + 1
  | .held _ => 1
def uptoBulkAll {H : Type} : List (DataW H) → Nat
  | [] => 0
  | d :: r => uptoBulk d + uptoBulkAll r
def uptoBulkEntries {H : Type} : List (Lit × DataW H) → Nat
  | [] => 0
  | x :: r => uptoBulkEntry x + uptoBulkEntries r
def uptoBulkEntry {H : Type} : Lit × DataW H → Nat
  | (.string bytes, d) => bytes.length + uptoBulk d + 1
  | (_, d) => uptoBulk d + 1
 end
def uptoSmall : (H : Type) → List (DataW H) → Bool := fun _ ds => decide (uptoBulkAll ds ≤ 1048576)
def OpenSpec.upto (s : _root_.Go.ChangeSpec) : _root_.Go.OpenSpec := { _root_.Go.OpenSpec.ofChange s with cond := some uptoSmall }

/-- 'octantlaw08.FixGoes', WHERE WHAT IT READS IS OF BULK AT MOST 1048576: true; the input reads as it did. -/
def fixGoesUptoRow : OpenClaim := { program := "ytddclpecmjibkaadoor", sum := "6b4a0e6882770782e23838c3f059647741d3692cf2e6adbca79c54f275dc804d", func := "octant/octantlaw08.FixGoes", spec := "fixGoes", unfollowed := true, recurses := true, named := ["octant/fix.holds"], apart := false, laid := [("octant/fix.holds", laid_octant_fix_holds)], narrowed := true }
def FixGoesUptoSaid : Prop := fixGoesUptoRow.holds Tryd.pinned (OpenSpec.upto fixGoesSpec)

/-- 'octantlaw08.FixTracks', WHERE WHAT IT READS IS OF BULK AT MOST 1048576: true; the input reads as it did. -/
def fixTracksUptoRow : OpenClaim := { program := "ytddclpecmjibkaadoor", sum := "6b4a0e6882770782e23838c3f059647741d3692cf2e6adbca79c54f275dc804d", func := "octant/octantlaw08.FixTracks", spec := "fixTracks", unfollowed := true, recurses := true, named := ["octant/fix.holds"], apart := false, laid := [("octant/fix.holds", laid_octant_fix_holds)], narrowed := true }
def FixTracksUptoSaid : Prop := fixTracksUptoRow.holds Tryd.pinned (OpenSpec.upto fixTracksSpec)

/-- 'octantlaw08.FixAsks', WHERE WHAT IT READS IS OF BULK AT MOST 1048576: true; the input reads as it did. -/
def fixAsksUptoRow : OpenClaim := { program := "ytddclpecmjibkaadoor", sum := "6b4a0e6882770782e23838c3f059647741d3692cf2e6adbca79c54f275dc804d", func := "octant/octantlaw08.FixAsks", spec := "fixAsks", unfollowed := true, recurses := true, named := ["octant/fix.holds"], apart := false, laid := [("octant/fix.holds", laid_octant_fix_holds)], narrowed := true }
def FixAsksUptoSaid : Prop := fixAsksUptoRow.holds Tryd.pinned (OpenSpec.upto fixAsksSpec)

/-- 'octantlaw08.FixCarries', WHERE WHAT IT READS IS OF BULK AT MOST 1048576: true; the input reads as it did. -/
def fixCarriesUptoRow : OpenClaim := { program := "ytddclpecmjibkaadoor", sum := "6b4a0e6882770782e23838c3f059647741d3692cf2e6adbca79c54f275dc804d", func := "octant/octantlaw08.FixCarries", spec := "fixCarries", unfollowed := true, recurses := true, named := ["octant/fix.holds"], apart := false, laid := [("octant/fix.holds", laid_octant_fix_holds)], narrowed := true }
def FixCarriesUptoSaid : Prop := fixCarriesUptoRow.holds Tryd.pinned (OpenSpec.upto fixCarriesSpec)

/-- 'octantlaw08.FixMoons', WHERE WHAT IT READS IS OF BULK AT MOST 1048576: true; the input reads as it did. -/
def fixMoonsUptoRow : OpenClaim := { program := "ytddclpecmjibkaadoor", sum := "6b4a0e6882770782e23838c3f059647741d3692cf2e6adbca79c54f275dc804d", func := "octant/octantlaw08.FixMoons", spec := "fixMoons", unfollowed := true, recurses := true, named := ["octant/fix.holds"], apart := false, laid := [("octant/fix.holds", laid_octant_fix_holds)], narrowed := true }
def FixMoonsUptoSaid : Prop := fixMoonsUptoRow.holds Tryd.pinned (OpenSpec.upto fixMoonsSpec)

/-- 'octantlaw08.FixShip', WHERE WHAT IT READS IS OF BULK AT MOST 1048576: true; the input reads as it did. -/
def fixShipUptoRow : OpenClaim := { program := "ytddclpecmjibkaadoor", sum := "6b4a0e6882770782e23838c3f059647741d3692cf2e6adbca79c54f275dc804d", func := "octant/octantlaw08.FixShip", spec := "fixShip", unfollowed := true, recurses := true, named := ["octant/fix.holds"], apart := false, laid := [("octant/fix.holds", laid_octant_fix_holds)], narrowed := true }
def FixShipUptoSaid : Prop := fixShipUptoRow.holds Tryd.pinned (OpenSpec.upto fixShipSpec)

/-- 'octantlaw08.FixThrough', WHERE WHAT IT READS IS OF BULK AT MOST 1048576: true; the input reads as it did. -/
def fixThroughUptoRow : OpenClaim := { program := "ytddclpecmjibkaadoor", sum := "6b4a0e6882770782e23838c3f059647741d3692cf2e6adbca79c54f275dc804d", func := "octant/octantlaw08.FixThrough", spec := "fixThrough", unfollowed := true, recurses := true, named := ["octant/fix.holds"], apart := false, laid := [("octant/fix.holds", laid_octant_fix_holds)], narrowed := true }
def FixThroughUptoSaid : Prop := fixThroughUptoRow.holds Tryd.pinned (OpenSpec.upto fixThroughSpec)

/-- 'octantlaw08.FixMore', WHERE WHAT IT READS IS OF BULK AT MOST 1048576: true; the input reads as it did. -/
def fixMoreUptoRow : OpenClaim := { program := "ytddclpecmjibkaadoor", sum := "6b4a0e6882770782e23838c3f059647741d3692cf2e6adbca79c54f275dc804d", func := "octant/octantlaw08.FixMore", spec := "fixMore", unfollowed := true, recurses := true, named := ["octant/fix.holds"], apart := false, laid := [("octant/fix.holds", laid_octant_fix_holds)], narrowed := true }
def FixMoreUptoSaid : Prop := fixMoreUptoRow.holds Tryd.pinned (OpenSpec.upto fixMoreSpec)

/-- 'octantlaw08.FixBest', WHERE WHAT IT READS IS OF BULK AT MOST 1048576: true; the input reads as it did. -/
def fixBestUptoRow : OpenClaim := { program := "ytddclpecmjibkaadoor", sum := "6b4a0e6882770782e23838c3f059647741d3692cf2e6adbca79c54f275dc804d", func := "octant/octantlaw08.FixBest", spec := "fixBest", unfollowed := true, recurses := true, named := ["octant/fix.holds"], apart := false, laid := [("octant/fix.holds", laid_octant_fix_holds)], narrowed := true }
def FixBestUptoSaid : Prop := fixBestUptoRow.holds Tryd.pinned (OpenSpec.upto fixBestSpec)

/-- 'octantlaw08.FixThree', WHERE WHAT IT READS IS OF BULK AT MOST 1048576: true; the input reads as it did. -/
def fixThreeUptoRow : OpenClaim := { program := "ytddclpecmjibkaadoor", sum := "6b4a0e6882770782e23838c3f059647741d3692cf2e6adbca79c54f275dc804d", func := "octant/octantlaw08.FixThree", spec := "fixThree", unfollowed := true, recurses := true, named := ["octant/fix.holds"], apart := false, laid := [("octant/fix.holds", laid_octant_fix_holds)], narrowed := true }
def FixThreeUptoSaid : Prop := fixThreeUptoRow.holds Tryd.pinned (OpenSpec.upto fixThreeSpec)

/-- 'octantlaw08.FixAgreed', WHERE WHAT IT READS IS OF BULK AT MOST 1048576: true; the input reads as it did. -/
def fixAgreedUptoRow : OpenClaim := { program := "ytddclpecmjibkaadoor", sum := "6b4a0e6882770782e23838c3f059647741d3692cf2e6adbca79c54f275dc804d", func := "octant/octantlaw08.FixAgreed", spec := "fixAgreed", unfollowed := true, recurses := true, named := ["octant/fix.holds"], apart := false, laid := [("octant/fix.holds", laid_octant_fix_holds)], narrowed := true }
def FixAgreedUptoSaid : Prop := fixAgreedUptoRow.holds Tryd.pinned (OpenSpec.upto fixAgreedSpec)

/-- 'octantlaw08.FixLit', WHERE WHAT IT READS IS OF BULK AT MOST 1048576: true; the input reads as it did. -/
def fixLitUptoRow : OpenClaim := { program := "ytddclpecmjibkaadoor", sum := "6b4a0e6882770782e23838c3f059647741d3692cf2e6adbca79c54f275dc804d", func := "octant/octantlaw08.FixLit", spec := "fixLit", unfollowed := true, recurses := true, named := ["octant/fix.holds"], apart := false, laid := [("octant/fix.holds", laid_octant_fix_holds)], narrowed := true }
def FixLitUptoSaid : Prop := fixLitUptoRow.holds Tryd.pinned (OpenSpec.upto fixLitSpec)

/-- 'octantlaw08.FixExchanged', WHERE WHAT IT READS IS OF BULK AT MOST 1048576: true; the input reads as it did. -/
def fixExchangedUptoRow : OpenClaim := { program := "ytddclpecmjibkaadoor", sum := "6b4a0e6882770782e23838c3f059647741d3692cf2e6adbca79c54f275dc804d", func := "octant/octantlaw08.FixExchanged", spec := "fixExchanged", unfollowed := true, recurses := true, named := ["octant/fix.holds"], apart := false, laid := [("octant/fix.holds", laid_octant_fix_holds)], narrowed := true }
def FixExchangedUptoSaid : Prop := fixExchangedUptoRow.holds Tryd.pinned (OpenSpec.upto fixExchangedSpec)

/-- 'octantlaw08.FixKnown', WHERE WHAT IT READS IS OF BULK AT MOST 1048576: true; the input reads as it did. -/
def fixKnownUptoRow : OpenClaim := { program := "ytddclpecmjibkaadoor", sum := "6b4a0e6882770782e23838c3f059647741d3692cf2e6adbca79c54f275dc804d", func := "octant/octantlaw08.FixKnown", spec := "fixKnown", unfollowed := true, recurses := true, named := ["octant/fix.holds"], apart := false, laid := [("octant/fix.holds", laid_octant_fix_holds)], narrowed := true }
def FixKnownUptoSaid : Prop := fixKnownUptoRow.holds Tryd.pinned (OpenSpec.upto fixKnownSpec)

end Rows
end Go.Proofs.YtddclpecmjibkaaDoor
