/-
  NARROWER THAN 'FOR EVERY INPUT', by the rows' own cells (each row's printed sentence says how): TopPlates: laid · TopSurvivors: laid.
  DERIVED. THE GIVEN ROWS OF THIS SEAT. 2 by the template 'for every input the law returns true; each argument reads behind the call as it read before'; 0 by the template 'total and deterministic' (their statements: YtddkghgfbhhcdaaDoorTotals.lean).
  GIVEN WITH THE SEED: the statements are not yours to turn. If you find one false, say at which input.
  Laid BY PROGRAM, IN A SANDBOX (cutbox-rows.mjs): the forced cells as the released guide's own fill.sh prints them over the translation 5f7c5907e94d6d16… (all of the seat's roots in one cut). By AI agents, Wed Nov 11 2026. No macro, syntax, notation, axiom, sorry.
-/
import Derived.Test.YtddkghgfbhhcdaaDoorChecked
import GoSem.Claim
import GoSem.ClaimJoined
import GoSem.ClaimMapViews
import Derived.JoinedTies
import Derived.KernelRfl
namespace Go.Proofs.YtddkghgfbhhcdaaDoor
/- THE CELL 'sum', in the pinned program and in every row, IS THE sha256 OF THE DUMP (.gsa) THAT YtddkghgfbhhcdaaDoorProg.lean LOADS. Nothing in Lean hashes anything: it is a label: what it is worth is what the hold of that sum in a sandbox is worth. -/
noncomputable def Tryd.pinned : Pinned := { name := "ytddkghgfbhhcdaadoor", sum := "5f7c5907e94d6d162906ec7408718bdf53434e70604a3e76668b0c76ebe3f8b2", checked := Tryd.checked }
namespace Rows
def none {H : Type} : Left H := { results := [], args := [] }

/- WHAT THE LISTED PACKAGE-LEVEL VARIABLES READ AS WHEN THE CALL BEGINS. Each datum BY PROGRAM (the guide's laid-datum.mjs) off the statement by which the dump's own 'gosem.cut.vars' lays the variable. In a bare row this is a premise. The card (YtddkghgfbhhcdaaDoorCards.lean) ties it to the program's text. -/
def laid_octant_index_noTrain {H : Type} : DataW H := .agg [.lit (.int .i64 (-1)), .lit (.int .i64 (-1)), .lit (.int .i64 (-1)), .lit (.int .i64 (-1))]
def laid_octant_fix_holds {H : Type} : DataW H := .iface "func table" (.agg [.nil, .iface "func" (.lit (.string [40, 111, 99, 116, 97, 110, 116, 47, 102, 105, 120, 46, 115, 116, 101, 112, 41, 46, 115, 105, 103, 104, 116])), .nil, .iface "func" (.lit (.string [40, 111, 99, 116, 97, 110, 116, 47, 102, 105, 120, 46, 115, 116, 101, 112, 41, 46, 108, 111, 110, 103]))])

/-- 'octanttop.TopPlates': WHATEVER THE INPUT: true; the input reads as it did. -/
def topPlatesSpec : ChangeSpec := { name := "topPlates", fn := fun _ => fun
  | [d1, d2] => { results := [.lit (.bool true)], args := [d1, d2] }
  | _ => none }
def topPlatesRow : OpenClaim := { program := "ytddkghgfbhhcdaadoor", sum := "5f7c5907e94d6d162906ec7408718bdf53434e70604a3e76668b0c76ebe3f8b2", func := "octant/octanttop.TopPlates", spec := "topPlates", unfollowed := true, recurses := true, named := ["octant/index.noTrain"], plainKeys := false, apart := false, laid := [("octant/index.noTrain", laid_octant_index_noTrain)] }
def TopPlatesSaid : Prop := topPlatesRow.holds Tryd.pinned (OpenSpec.ofChange topPlatesSpec)

/-- ITS FALSE NEIGHBOUR: 'it returns false'. Refute it at one input. -/
def topPlatesWrong : ChangeSpec := { name := "topPlates", fn := fun _ => fun
  | [d1, d2] => { results := [.lit (.bool false)], args := [d1, d2] }
  | _ => none }
def TopPlatesWrongFalsely : Prop := topPlatesRow.holds Tryd.pinned (OpenSpec.ofChange topPlatesWrong)

/-- 'octanttop.TopSurvivors': WHATEVER THE INPUT: true; the input reads as it did. -/
def topSurvivorsSpec : ChangeSpec := { name := "topSurvivors", fn := fun _ => fun
  | [d1, d2, d3] => { results := [.lit (.bool true)], args := [d1, d2, d3] }
  | _ => none }
def topSurvivorsRow : OpenClaim := { program := "ytddkghgfbhhcdaadoor", sum := "5f7c5907e94d6d162906ec7408718bdf53434e70604a3e76668b0c76ebe3f8b2", func := "octant/octanttop.TopSurvivors", spec := "topSurvivors", inPlace := ["internal/bytealg.CountString", "internal/bytealg.IndexByteString", "internal/bytealg.IndexString", "internal/bytealg.abigen_runtime_cmpstring"], unfollowed := true, recurses := true, named := ["internal/bytealg.MaxLen", "octant/fix.holds"], plainKeys := false, apart := false, laid := [("octant/fix.holds", laid_octant_fix_holds)] }
def TopSurvivorsSaid : Prop := topSurvivorsRow.holds Tryd.pinned (OpenSpec.ofChange topSurvivorsSpec)

/-- ITS FALSE NEIGHBOUR: 'it returns false'. Refute it at one input. -/
def topSurvivorsWrong : ChangeSpec := { name := "topSurvivors", fn := fun _ => fun
  | [d1, d2, d3] => { results := [.lit (.bool false)], args := [d1, d2, d3] }
  | _ => none }
def TopSurvivorsWrongFalsely : Prop := topSurvivorsRow.holds Tryd.pinned (OpenSpec.ofChange topSurvivorsWrong)

/- THE SECOND FORM. 'bulk': how many values and letters a reading holds, each counted each time it is reached (what is shared counts as often as it is met; a slice's spare places count too). A statement '..UptoSaid' is the law's where the arguments, and the package variables that the reading takes, are together of bulk at most 1048576: NARROWER than '..Said'. Prove '..Said' where nothing that the law and all that it calls make is longer than what came in: it says more and counts as full. Else prove '..UptoSaid'. A law counts once. -/
mutual
def uptoBulk {H : Type} : DataW H → Nat
  | .lit (.string bytes) => bytes.length + 1
  | .lit _ => 1
  | .nil => 1
  | .ptr d => uptoBulk d + 1
  | .slice elems spare => uptoBulkAll elems + uptoBulkAll spare + 1
  | .agg parts => uptoBulkAll parts + 1
  | .iface _ d => uptoBulk d + 1
  | .map entries => uptoBulkEntries entries + 1
  | .held _ => 1
def uptoBulkAll {H : Type} : List (DataW H) → Nat
  | [] => 0
  | d :: r => uptoBulk d + uptoBulkAll r
def uptoBulkEntries {H : Type} : List (Lit × DataW H) → Nat
  | [] => 0
  | x :: r => uptoBulkEntry x + uptoBulkEntries r
def uptoBulkEntry {H : Type} : Lit × DataW H → Nat
  | (.string bytes, d) => bytes.length + uptoBulk d + 1
  | (_, d) => uptoBulk d + 1
 end
def uptoSmall : (H : Type) → List (DataW H) → Bool := fun _ ds => decide (uptoBulkAll ds ≤ 1048576)
def OpenSpec.upto (s : _root_.Go.ChangeSpec) : _root_.Go.OpenSpec := { _root_.Go.OpenSpec.ofChange s with cond := some uptoSmall }

/-- 'octanttop.TopPlates', WHERE WHAT IT READS IS OF BULK AT MOST 1048576: true; the input reads as it did. -/
def topPlatesUptoRow : OpenClaim := { program := "ytddkghgfbhhcdaadoor", sum := "5f7c5907e94d6d162906ec7408718bdf53434e70604a3e76668b0c76ebe3f8b2", func := "octant/octanttop.TopPlates", spec := "topPlates", unfollowed := true, recurses := true, named := ["octant/index.noTrain"], plainKeys := false, apart := false, laid := [("octant/index.noTrain", laid_octant_index_noTrain)], narrowed := true }
def TopPlatesUptoSaid : Prop := topPlatesUptoRow.holds Tryd.pinned (OpenSpec.upto topPlatesSpec)

/-- 'octanttop.TopSurvivors', WHERE WHAT IT READS IS OF BULK AT MOST 1048576: true; the input reads as it did. -/
def topSurvivorsUptoRow : OpenClaim := { program := "ytddkghgfbhhcdaadoor", sum := "5f7c5907e94d6d162906ec7408718bdf53434e70604a3e76668b0c76ebe3f8b2", func := "octant/octanttop.TopSurvivors", spec := "topSurvivors", inPlace := ["internal/bytealg.CountString", "internal/bytealg.IndexByteString", "internal/bytealg.IndexString", "internal/bytealg.abigen_runtime_cmpstring"], unfollowed := true, recurses := true, named := ["internal/bytealg.MaxLen", "octant/fix.holds"], plainKeys := false, apart := false, laid := [("octant/fix.holds", laid_octant_fix_holds)], narrowed := true }
def TopSurvivorsUptoSaid : Prop := topSurvivorsUptoRow.holds Tryd.pinned (OpenSpec.upto topSurvivorsSpec)

end Rows
end Go.Proofs.YtddkghgfbhhcdaaDoor
