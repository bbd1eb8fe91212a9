/-
  No cell of these rows narrows 'for every input' (looked for: loops, veiled, ifaces, maps, wideKeys, modest, calm, conditions, laid).
  DERIVED. THE GIVEN ROWS OF THIS SEAT. 4 by the template 'for every input the law returns true; each argument reads behind the call as it read before'; 0 by the template 'total and deterministic' (their statements: YtddkghgfbhhcdaaTotals.lean).
  GIVEN WITH THE SEED: the statements are not yours to turn. If you find one false, say at which input.
  Laid BY PROGRAM, IN A SANDBOX (cutbox-rows.mjs): the forced cells as the released guide's own fill.sh prints them over the translation 306492c3839e1b3d… (all of the seat's roots in one cut). By AI agents, Wed Nov 11 2026. No macro, syntax, notation, axiom, sorry.
-/
import Derived.Test.YtddkghgfbhhcdaaChecked
import GoSem.Claim
import GoSem.ClaimJoined
import GoSem.ClaimMapViews
import Derived.JoinedTies
import Derived.KernelRfl
namespace Go.Proofs.Ytddkghgfbhhcdaa
/- THE CELL 'sum', in the pinned program and in every row, IS THE sha256 OF THE DUMP (.gsa) THAT YtddkghgfbhhcdaaProg.lean LOADS. Nothing in Lean hashes anything: it is a label: what it is worth is what the hold of that sum in a sandbox is worth. -/
noncomputable def Try.pinned : Pinned := { name := "ytddkghgfbhhcdaa", sum := "306492c3839e1b3d556320e5d89be7419373e32d0e78ec49b9120dfbc7910f21", checked := Try.checked }
namespace Rows
def none {H : Type} : Left H := { results := [], args := [] }

/-- 'octanttop.TopMicrometer': WHATEVER THE INPUT: true; the input reads as it did. -/
def topMicrometerSpec : ChangeSpec := { name := "topMicrometer", fn := fun _ => fun
  | [d1, d2, d3] => { results := [.lit (.bool true)], args := [d1, d2, d3] }
  | _ => none }
def topMicrometerRow : OpenClaim := { program := "ytddkghgfbhhcdaa", sum := "306492c3839e1b3d556320e5d89be7419373e32d0e78ec49b9120dfbc7910f21", func := "octant/octanttop.TopMicrometer", spec := "topMicrometer", unfollowed := true, recurses := true, apart := false }
def TopMicrometerSaid : Prop := topMicrometerRow.holds Try.pinned (OpenSpec.ofChange topMicrometerSpec)

/-- ITS FALSE NEIGHBOUR: 'it returns false'. Refute it at one input. -/
def topMicrometerWrong : ChangeSpec := { name := "topMicrometer", fn := fun _ => fun
  | [d1, d2, d3] => { results := [.lit (.bool false)], args := [d1, d2, d3] }
  | _ => none }
def TopMicrometerWrongFalsely : Prop := topMicrometerRow.holds Try.pinned (OpenSpec.ofChange topMicrometerWrong)

/-- 'octanttop.TopTriangle': WHATEVER THE INPUT: true; the input reads as it did. -/
def topTriangleSpec : ChangeSpec := { name := "topTriangle", fn := fun _ => fun
  | [d1, d2] => { results := [.lit (.bool true)], args := [d1, d2] }
  | _ => none }
def topTriangleRow : OpenClaim := { program := "ytddkghgfbhhcdaa", sum := "306492c3839e1b3d556320e5d89be7419373e32d0e78ec49b9120dfbc7910f21", func := "octant/octanttop.TopTriangle", spec := "topTriangle", unfollowed := true, recurses := true, apart := false }
def TopTriangleSaid : Prop := topTriangleRow.holds Try.pinned (OpenSpec.ofChange topTriangleSpec)

/-- ITS FALSE NEIGHBOUR: 'it returns false'. Refute it at one input. -/
def topTriangleWrong : ChangeSpec := { name := "topTriangle", fn := fun _ => fun
  | [d1, d2] => { results := [.lit (.bool false)], args := [d1, d2] }
  | _ => none }
def TopTriangleWrongFalsely : Prop := topTriangleRow.holds Try.pinned (OpenSpec.ofChange topTriangleWrong)

/-- 'octanttop.TopCarried': WHATEVER THE INPUT: true; the input reads as it did. -/
def topCarriedSpec : ChangeSpec := { name := "topCarried", fn := fun _ => fun
  | [d1, d2, d3] => { results := [.lit (.bool true)], args := [d1, d2, d3] }
  | _ => none }
def topCarriedRow : OpenClaim := { program := "ytddkghgfbhhcdaa", sum := "306492c3839e1b3d556320e5d89be7419373e32d0e78ec49b9120dfbc7910f21", func := "octant/octanttop.TopCarried", spec := "topCarried", unfollowed := true, recurses := true, apart := false }
def TopCarriedSaid : Prop := topCarriedRow.holds Try.pinned (OpenSpec.ofChange topCarriedSpec)

/-- ITS FALSE NEIGHBOUR: 'it returns false'. Refute it at one input. -/
def topCarriedWrong : ChangeSpec := { name := "topCarried", fn := fun _ => fun
  | [d1, d2, d3] => { results := [.lit (.bool false)], args := [d1, d2, d3] }
  | _ => none }
def TopCarriedWrongFalsely : Prop := topCarriedRow.holds Try.pinned (OpenSpec.ofChange topCarriedWrong)

/-- 'octanttop.TopLunar': WHATEVER THE INPUT: true; the input reads as it did. -/
def topLunarSpec : ChangeSpec := { name := "topLunar", fn := fun _ => fun
  | [d1, d2, d3, d4] => { results := [.lit (.bool true)], args := [d1, d2, d3, d4] }
  | _ => none }
def topLunarRow : OpenClaim := { program := "ytddkghgfbhhcdaa", sum := "306492c3839e1b3d556320e5d89be7419373e32d0e78ec49b9120dfbc7910f21", func := "octant/octanttop.TopLunar", spec := "topLunar", unfollowed := true, recurses := true, apart := false }
def TopLunarSaid : Prop := topLunarRow.holds Try.pinned (OpenSpec.ofChange topLunarSpec)

/-- ITS FALSE NEIGHBOUR: 'it returns false'. Refute it at one input. -/
def topLunarWrong : ChangeSpec := { name := "topLunar", fn := fun _ => fun
  | [d1, d2, d3, d4] => { results := [.lit (.bool false)], args := [d1, d2, d3, d4] }
  | _ => none }
def TopLunarWrongFalsely : Prop := topLunarRow.holds Try.pinned (OpenSpec.ofChange topLunarWrong)

/- THE SECOND FORM. 'bulk': how many values and letters a reading holds, each counted each time it is reached (what is shared counts as often as it is met; a slice's spare places count too). A statement '..UptoSaid' is the law's where the arguments, and the package variables that the reading takes, are together of bulk at most 1048576: NARROWER than '..Said'. Prove '..Said' where nothing that the law and all that it calls make is longer than what came in: it says more and counts as full. Else prove '..UptoSaid'. A law counts once. -/
mutual
def uptoBulk {H : Type} : DataW H → Nat
  | .lit (.string bytes) => bytes.length + 1
  | .lit _ => 1
  | .nil => 1
  | .ptr d => uptoBulk d + 1
  | .slice elems spare => uptoBulkAll elems + uptoBulkAll spare + 1
  | .agg parts => uptoBulkAll parts + 1
  | .iface _ d => uptoBulk d + 1
  | .map entries => uptoBulkEntries entries + 1
  | .held _ => 1
def uptoBulkAll {H : Type} : List (DataW H) → Nat
  | [] => 0
  | d :: r => uptoBulk d + uptoBulkAll r
def uptoBulkEntries {H : Type} : List (Lit × DataW H) → Nat
  | [] => 0
  | x :: r => uptoBulkEntry x + uptoBulkEntries r
def uptoBulkEntry {H : Type} : Lit × DataW H → Nat
  | (.string bytes, d) => bytes.length + uptoBulk d + 1
  | (_, d) => uptoBulk d + 1
 end
def uptoSmall : (H : Type) → List (DataW H) → Bool := fun _ ds => decide (uptoBulkAll ds ≤ 1048576)
def OpenSpec.upto (s : _root_.Go.ChangeSpec) : _root_.Go.OpenSpec := { _root_.Go.OpenSpec.ofChange s with cond := some uptoSmall }

/-- 'octanttop.TopMicrometer', WHERE WHAT IT READS IS OF BULK AT MOST 1048576: true; the input reads as it did. -/
def topMicrometerUptoRow : OpenClaim := { program := "ytddkghgfbhhcdaa", sum := "306492c3839e1b3d556320e5d89be7419373e32d0e78ec49b9120dfbc7910f21", func := "octant/octanttop.TopMicrometer", spec := "topMicrometer", unfollowed := true, recurses := true, apart := false, narrowed := true }
def TopMicrometerUptoSaid : Prop := topMicrometerUptoRow.holds Try.pinned (OpenSpec.upto topMicrometerSpec)

/-- 'octanttop.TopTriangle', WHERE WHAT IT READS IS OF BULK AT MOST 1048576: true; the input reads as it did. -/
def topTriangleUptoRow : OpenClaim := { program := "ytddkghgfbhhcdaa", sum := "306492c3839e1b3d556320e5d89be7419373e32d0e78ec49b9120dfbc7910f21", func := "octant/octanttop.TopTriangle", spec := "topTriangle", unfollowed := true, recurses := true, apart := false, narrowed := true }
def TopTriangleUptoSaid : Prop := topTriangleUptoRow.holds Try.pinned (OpenSpec.upto topTriangleSpec)

/-- 'octanttop.TopCarried', WHERE WHAT IT READS IS OF BULK AT MOST 1048576: true; the input reads as it did. -/
def topCarriedUptoRow : OpenClaim := { program := "ytddkghgfbhhcdaa", sum := "306492c3839e1b3d556320e5d89be7419373e32d0e78ec49b9120dfbc7910f21", func := "octant/octanttop.TopCarried", spec := "topCarried", unfollowed := true, recurses := true, apart := false, narrowed := true }
def TopCarriedUptoSaid : Prop := topCarriedUptoRow.holds Try.pinned (OpenSpec.upto topCarriedSpec)

/-- 'octanttop.TopLunar', WHERE WHAT IT READS IS OF BULK AT MOST 1048576: true; the input reads as it did. -/
def topLunarUptoRow : OpenClaim := { program := "ytddkghgfbhhcdaa", sum := "306492c3839e1b3d556320e5d89be7419373e32d0e78ec49b9120dfbc7910f21", func := "octant/octanttop.TopLunar", spec := "topLunar", unfollowed := true, recurses := true, apart := false, narrowed := true }
def TopLunarUptoSaid : Prop := topLunarUptoRow.holds Try.pinned (OpenSpec.upto topLunarSpec)

end Rows
end Go.Proofs.Ytddkghgfbhhcdaa
