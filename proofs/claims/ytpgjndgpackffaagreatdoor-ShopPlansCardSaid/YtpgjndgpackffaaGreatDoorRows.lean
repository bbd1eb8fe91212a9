/-
  NARROWER THAN 'FOR EVERY INPUT', by the rows' own cells (each row's printed sentence says how): ShopPlans: laid.
  DERIVED. THE GIVEN ROWS OF THIS SEAT. 1 by the template 'for every input the law returns true; each argument reads behind the call as it read before'; 0 by the template 'total and deterministic' (their statements: YtpgjndgpackffaaGreatDoorTotals.lean).
  GIVEN WITH THE SEED: the statements are not yours to turn. If you find one false, say at which input.
  Laid BY PROGRAM, IN A SANDBOX (cutbox-rows.mjs): the forced cells as the released guide's own fill.sh prints them over the translation dfb0ea3db6693be1… (all of the seat's roots in one cut). By AI agents, Wed Nov 11 2026. No macro, syntax, notation, axiom, sorry.
-/
import Derived.Test.YtpgjndgpackffaaGreatDoorChecked
import GoSem.Claim
import GoSem.ClaimJoined
import GoSem.ClaimMapViews
import Derived.JoinedTies
import Derived.KernelRfl
namespace Go.Proofs.YtpgjndgpackffaaGreatDoor
/- THE CELL 'sum', in the pinned program and in every row, IS THE sha256 OF THE DUMP (.gsa) THAT YtpgjndgpackffaaGreatDoorProg.lean LOADS. Nothing in Lean hashes anything: it is a label: what it is worth is what the hold of that sum in a sandbox is worth. -/
noncomputable def Tryz.pinned : Pinned := { name := "ytpgjndgpackffaagreatdoor", sum := "dfb0ea3db6693be1b8932ec9dc6ddb5315108c8d6c6d92d83d8f311c1c8d6268", checked := Tryz.checked }
namespace Rows
def none {H : Type} : Left H := { results := [], args := [] }

/- WHAT THE LISTED PACKAGE-LEVEL VARIABLES READ AS WHEN THE CALL BEGINS. Each datum BY PROGRAM (the guide's laid-datum.mjs) off the statement by which the dump's own 'gosem.cut.vars' lays the variable. In a bare row this is a premise. The card (YtpgjndgpackffaaGreatDoorCards.lean) ties it to the program's text. -/
def laid_octant_shop_metals {H : Type} : DataW H := .iface "func table" (.agg [.agg [.iface "func" (.lit (.string [40, 111, 99, 116, 97, 110, 116, 47, 115, 104, 111, 112, 46, 112, 105, 101, 99, 101, 41, 46, 98, 114, 97, 115, 115])), .iface "func" (.lit (.string [111, 99, 116, 97, 110, 116, 47, 115, 104, 111, 112, 46, 109, 101, 116, 97, 108, 115, 36, 49])), .iface "func" (.lit (.string [111, 99, 116, 97, 110, 116, 47, 115, 104, 111, 112, 46, 109, 101, 116, 97, 108, 115, 36, 50]))], .agg [.iface "func" (.lit (.string [40, 111, 99, 116, 97, 110, 116, 47, 115, 104, 111, 112, 46, 112, 105, 101, 99, 101, 41, 46, 105, 118, 111, 114, 121])), .iface "func" (.lit (.string [111, 99, 116, 97, 110, 116, 47, 115, 104, 111, 112, 46, 109, 101, 116, 97, 108, 115, 36, 51])), .iface "func" (.lit (.string [111, 99, 116, 97, 110, 116, 47, 115, 104, 111, 112, 46, 109, 101, 116, 97, 108, 115, 36, 52]))]])

/-- 'octantlaw10.ShopPlans': WHATEVER THE INPUT: true; the input reads as it did. -/
def shopPlansSpec : ChangeSpec := { name := "shopPlans", fn := fun _ => fun
  | [d1, d2, d3] => { results := [.lit (.bool true)], args := [d1, d2, d3] }
  | _ => none }
def shopPlansRow : OpenClaim := { program := "ytpgjndgpackffaagreatdoor", sum := "dfb0ea3db6693be1b8932ec9dc6ddb5315108c8d6c6d92d83d8f311c1c8d6268", func := "octant/octantlaw10.ShopPlans", spec := "shopPlans", unfollowed := true, recurses := true, named := ["octant/shop.metals"], plainKeys := false, apart := false, laid := [("octant/shop.metals", laid_octant_shop_metals)] }
def ShopPlansSaid : Prop := shopPlansRow.holds Tryz.pinned (OpenSpec.ofChange shopPlansSpec)

/-- ITS FALSE NEIGHBOUR: 'it returns false'. Refute it at one input. -/
def shopPlansWrong : ChangeSpec := { name := "shopPlans", fn := fun _ => fun
  | [d1, d2, d3] => { results := [.lit (.bool false)], args := [d1, d2, d3] }
  | _ => none }
def ShopPlansWrongFalsely : Prop := shopPlansRow.holds Tryz.pinned (OpenSpec.ofChange shopPlansWrong)

/- THE SECOND FORM. 'bulk': how many values and letters a reading holds, each counted each time it is reached (what is shared counts as often as it is met; a slice's spare places count too). A statement '..UptoSaid' is the law's where the arguments, and the package variables that the reading takes, are together of bulk at most 1048576: NARROWER than '..Said'. Prove '..Said' where nothing that the law and all that it calls make is longer than what came in: it says more and counts as full. Else prove '..UptoSaid'. A law counts once. -/
mutual
def uptoBulk {H : Type} : DataW H → Nat
  | .lit (.string bytes) => bytes.length + 1
  | .lit _ => 1
  | .nil => 1
  | .ptr d => uptoBulk d + 1
  | .slice elems spare => uptoBulkAll elems + uptoBulkAll spare + 1
  | .agg parts => uptoBulkAll parts + 1
  | .iface _ d => uptoBulk d + 1
  | .map entries => uptoBulkEntries entries + 1
  | .held _ => 1
def uptoBulkAll {H : Type} : List (DataW H) → Nat
  | [] => 0
  | d :: r => uptoBulk d + uptoBulkAll r
def uptoBulkEntries {H : Type} : List (Lit × DataW H) → Nat
  | [] => 0
  | x :: r => uptoBulkEntry x + uptoBulkEntries r
def uptoBulkEntry {H : Type} : Lit × DataW H → Nat
  | (.string bytes, d) => bytes.length + uptoBulk d + 1
  | (_, d) => uptoBulk d + 1
 end
def uptoSmall : (H : Type) → List (DataW H) → Bool := fun _ ds => decide (uptoBulkAll ds ≤ 1048576)
def OpenSpec.upto (s : _root_.Go.ChangeSpec) : _root_.Go.OpenSpec := { _root_.Go.OpenSpec.ofChange s with cond := some uptoSmall }

/-- 'octantlaw10.ShopPlans', WHERE WHAT IT READS IS OF BULK AT MOST 1048576: true; the input reads as it did. -/
def shopPlansUptoRow : OpenClaim := { program := "ytpgjndgpackffaagreatdoor", sum := "dfb0ea3db6693be1b8932ec9dc6ddb5315108c8d6c6d92d83d8f311c1c8d6268", func := "octant/octantlaw10.ShopPlans", spec := "shopPlans", unfollowed := true, recurses := true, named := ["octant/shop.metals"], plainKeys := false, apart := false, laid := [("octant/shop.metals", laid_octant_shop_metals)], narrowed := true }
def ShopPlansUptoSaid : Prop := shopPlansUptoRow.holds Tryz.pinned (OpenSpec.upto shopPlansSpec)

end Rows
end Go.Proofs.YtpgjndgpackffaaGreatDoor
