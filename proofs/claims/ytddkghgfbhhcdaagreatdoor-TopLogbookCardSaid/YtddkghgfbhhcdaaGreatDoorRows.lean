/-
  NARROWER THAN 'FOR EVERY INPUT', by the rows' own cells (each row's printed sentence says how): TopLogbook: laid · TopStockbook: laid.
  DERIVED. THE GIVEN ROWS OF THIS SEAT. 2 by the template 'for every input the law returns true; each argument reads behind the call as it read before'; 0 by the template 'total and deterministic' (their statements: YtddkghgfbhhcdaaGreatDoorTotals.lean).
  GIVEN WITH THE SEED: the statements are not yours to turn. If you find one false, say at which input.
  Laid BY PROGRAM, IN A SANDBOX (cutbox-rows.mjs): the forced cells as the released guide's own fill.sh prints them over the translation 0146b7d1aa98c6c7… (all of the seat's roots in one cut). By AI agents, Wed Nov 11 2026. No macro, syntax, notation, axiom, sorry.
-/
import Derived.Test.YtddkghgfbhhcdaaGreatDoorChecked
import GoSem.Claim
import GoSem.ClaimJoined
import GoSem.ClaimMapViews
import Derived.JoinedTies
import Derived.KernelRfl
namespace Go.Proofs.YtddkghgfbhhcdaaGreatDoor
/- THE CELL 'sum', in the pinned program and in every row, IS THE sha256 OF THE DUMP (.gsa) THAT YtddkghgfbhhcdaaGreatDoorProg.lean LOADS. Nothing in Lean hashes anything: it is a label: what it is worth is what the hold of that sum in a sandbox is worth. -/
noncomputable def Tryz.pinned : Pinned := { name := "ytddkghgfbhhcdaagreatdoor", sum := "0146b7d1aa98c6c772edb1df5a208c0bf5998a51baebbe69baf7a54c795b41d3", checked := Tryz.checked }
namespace Rows
def none {H : Type} : Left H := { results := [], args := [] }

/- WHAT THE LISTED PACKAGE-LEVEL VARIABLES READ AS WHEN THE CALL BEGINS. Each datum BY PROGRAM (the guide's laid-datum.mjs) off the statement by which the dump's own 'gosem.cut.vars' lays the variable. In a bare row this is a premise. The card (YtddkghgfbhhcdaaGreatDoorCards.lean) ties it to the program's text. -/
def laid_octant_fix_holds {H : Type} : DataW H := .iface "func table" (.agg [.nil, .iface "func" (.lit (.string [40, 111, 99, 116, 97, 110, 116, 47, 102, 105, 120, 46, 115, 116, 101, 112, 41, 46, 115, 105, 103, 104, 116])), .nil, .iface "func" (.lit (.string [40, 111, 99, 116, 97, 110, 116, 47, 102, 105, 120, 46, 115, 116, 101, 112, 41, 46, 108, 111, 110, 103]))])
def laid_octant_shop_metals {H : Type} : DataW H := .iface "func table" (.agg [.agg [.iface "func" (.lit (.string [40, 111, 99, 116, 97, 110, 116, 47, 115, 104, 111, 112, 46, 112, 105, 101, 99, 101, 41, 46, 98, 114, 97, 115, 115])), .iface "func" (.lit (.string [111, 99, 116, 97, 110, 116, 47, 115, 104, 111, 112, 46, 109, 101, 116, 97, 108, 115, 36, 49])), .iface "func" (.lit (.string [111, 99, 116, 97, 110, 116, 47, 115, 104, 111, 112, 46, 109, 101, 116, 97, 108, 115, 36, 50]))], .agg [.iface "func" (.lit (.string [40, 111, 99, 116, 97, 110, 116, 47, 115, 104, 111, 112, 46, 112, 105, 101, 99, 101, 41, 46, 105, 118, 111, 114, 121])), .iface "func" (.lit (.string [111, 99, 116, 97, 110, 116, 47, 115, 104, 111, 112, 46, 109, 101, 116, 97, 108, 115, 36, 51])), .iface "func" (.lit (.string [111, 99, 116, 97, 110, 116, 47, 115, 104, 111, 112, 46, 109, 101, 116, 97, 108, 115, 36, 52]))]])

/-- 'octanttop.TopLogbook': WHATEVER THE INPUT: true; the input reads as it did. -/
def topLogbookSpec : ChangeSpec := { name := "topLogbook", fn := fun _ => fun
  | [d1, d2] => { results := [.lit (.bool true)], args := [d1, d2] }
  | _ => none }
def topLogbookRow : OpenClaim := { program := "ytddkghgfbhhcdaagreatdoor", sum := "0146b7d1aa98c6c772edb1df5a208c0bf5998a51baebbe69baf7a54c795b41d3", func := "octant/octanttop.TopLogbook", spec := "topLogbook", inPlace := ["internal/bytealg.CountString", "internal/bytealg.IndexByteString", "internal/bytealg.IndexString", "internal/bytealg.abigen_runtime_cmpstring"], unfollowed := true, recurses := true, named := ["internal/bytealg.MaxLen", "octant/fix.holds"], plainKeys := false, apart := false, laid := [("octant/fix.holds", laid_octant_fix_holds)] }
def TopLogbookSaid : Prop := topLogbookRow.holds Tryz.pinned (OpenSpec.ofChange topLogbookSpec)

/-- ITS FALSE NEIGHBOUR: 'it returns false'. Refute it at one input. -/
def topLogbookWrong : ChangeSpec := { name := "topLogbook", fn := fun _ => fun
  | [d1, d2] => { results := [.lit (.bool false)], args := [d1, d2] }
  | _ => none }
def TopLogbookWrongFalsely : Prop := topLogbookRow.holds Tryz.pinned (OpenSpec.ofChange topLogbookWrong)

/-- 'octanttop.TopStockbook': WHATEVER THE INPUT: true; the input reads as it did. -/
def topStockbookSpec : ChangeSpec := { name := "topStockbook", fn := fun _ => fun
  | [d1, d2, d3] => { results := [.lit (.bool true)], args := [d1, d2, d3] }
  | _ => none }
def topStockbookRow : OpenClaim := { program := "ytddkghgfbhhcdaagreatdoor", sum := "0146b7d1aa98c6c772edb1df5a208c0bf5998a51baebbe69baf7a54c795b41d3", func := "octant/octanttop.TopStockbook", spec := "topStockbook", inPlace := ["internal/bytealg.CountString", "internal/bytealg.IndexByteString", "internal/bytealg.IndexString"], unfollowed := true, recurses := true, named := ["internal/bytealg.MaxLen", "octant/shop.metals"], plainKeys := false, apart := false, laid := [("octant/shop.metals", laid_octant_shop_metals)] }
def TopStockbookSaid : Prop := topStockbookRow.holds Tryz.pinned (OpenSpec.ofChange topStockbookSpec)

/-- ITS FALSE NEIGHBOUR: 'it returns false'. Refute it at one input. -/
def topStockbookWrong : ChangeSpec := { name := "topStockbook", fn := fun _ => fun
  | [d1, d2, d3] => { results := [.lit (.bool false)], args := [d1, d2, d3] }
  | _ => none }
def TopStockbookWrongFalsely : Prop := topStockbookRow.holds Tryz.pinned (OpenSpec.ofChange topStockbookWrong)

/- THE SECOND FORM. 'bulk': how many values and letters a reading holds, each counted each time it is reached (what is shared counts as often as it is met; a slice's spare places count too). A statement '..UptoSaid' is the law's where the arguments, and the package variables that the reading takes, are together of bulk at most 1048576: NARROWER than '..Said'. Prove '..Said' where nothing that the law and all that it calls make is longer than what came in: it says more and counts as full. Else prove '..UptoSaid'. A law counts once. -/
mutual
def uptoBulk {H : Type} : DataW H → Nat
  | .lit (.string bytes) => bytes.length + 1
  | .lit _ => 1
  | .nil => 1
  | .ptr d => uptoBulk d + 1
  | .slice elems spare => uptoBulkAll elems + uptoBulkAll spare + 1
  | .agg parts => uptoBulkAll parts + 1
  | .iface _ d => uptoBulk d + 1
  | .map entries => uptoBulkEntries entries + 1
  | .held _ => 1
def uptoBulkAll {H : Type} : List (DataW H) → Nat
  | [] => 0
  | d :: r => uptoBulk d + uptoBulkAll r
def uptoBulkEntries {H : Type} : List (Lit × DataW H) → Nat
  | [] => 0
  | x :: r => uptoBulkEntry x + uptoBulkEntries r
def uptoBulkEntry {H : Type} : Lit × DataW H → Nat
  | (.string bytes, d) => bytes.length + uptoBulk d + 1
  | (_, d) => uptoBulk d + 1
 end
def uptoSmall : (H : Type) → List (DataW H) → Bool := fun _ ds => decide (uptoBulkAll ds ≤ 1048576)
def OpenSpec.upto (s : _root_.Go.ChangeSpec) : _root_.Go.OpenSpec := { _root_.Go.OpenSpec.ofChange s with cond := some uptoSmall }

/-- 'octanttop.TopLogbook', WHERE WHAT IT READS IS OF BULK AT MOST 1048576: true; the input reads as it did. -/
def topLogbookUptoRow : OpenClaim := { program := "ytddkghgfbhhcdaagreatdoor", sum := "0146b7d1aa98c6c772edb1df5a208c0bf5998a51baebbe69baf7a54c795b41d3", func := "octant/octanttop.TopLogbook", spec := "topLogbook", inPlace := ["internal/bytealg.CountString", "internal/bytealg.IndexByteString", "internal/bytealg.IndexString", "internal/bytealg.abigen_runtime_cmpstring"], unfollowed := true, recurses := true, named := ["internal/bytealg.MaxLen", "octant/fix.holds"], plainKeys := false, apart := false, laid := [("octant/fix.holds", laid_octant_fix_holds)], narrowed := true }
def TopLogbookUptoSaid : Prop := topLogbookUptoRow.holds Tryz.pinned (OpenSpec.upto topLogbookSpec)

/-- 'octanttop.TopStockbook', WHERE WHAT IT READS IS OF BULK AT MOST 1048576: true; the input reads as it did. -/
def topStockbookUptoRow : OpenClaim := { program := "ytddkghgfbhhcdaagreatdoor", sum := "0146b7d1aa98c6c772edb1df5a208c0bf5998a51baebbe69baf7a54c795b41d3", func := "octant/octanttop.TopStockbook", spec := "topStockbook", inPlace := ["internal/bytealg.CountString", "internal/bytealg.IndexByteString", "internal/bytealg.IndexString"], unfollowed := true, recurses := true, named := ["internal/bytealg.MaxLen", "octant/shop.metals"], plainKeys := false, apart := false, laid := [("octant/shop.metals", laid_octant_shop_metals)], narrowed := true }
def TopStockbookUptoSaid : Prop := topStockbookUptoRow.holds Tryz.pinned (OpenSpec.upto topStockbookSpec)

end Rows
end Go.Proofs.YtddkghgfbhhcdaaGreatDoor
