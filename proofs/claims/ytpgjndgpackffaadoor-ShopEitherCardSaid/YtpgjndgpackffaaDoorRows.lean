/-
  NARROWER THAN 'FOR EVERY INPUT', by the rows' own cells (each row's printed sentence says how): ShopMens: laid · ShopBegins: laid · ShopSaws: laid · ShopPosts: laid · ShopEarly: laid · ShopMore: laid · ShopEnough: laid · ShopStored: laid · ShopBar: laid · ShopEither: laid · ShopKnown: laid.
  DERIVED. THE GIVEN ROWS OF THIS SEAT. 11 by the template 'for every input the law returns true; each argument reads behind the call as it read before'; 0 by the template 'total and deterministic' (their statements: YtpgjndgpackffaaDoorTotals.lean).
  GIVEN WITH THE SEED: the statements are not yours to turn. If you find one false, say at which input.
  Laid BY PROGRAM, IN A SANDBOX (cutbox-rows.mjs): the forced cells as the released guide's own fill.sh prints them over the translation f782f84b9265090a… (all of the seat's roots in one cut). By AI agents, Wed Nov 11 2026. No macro, syntax, notation, axiom, sorry.
-/
import Derived.Test.YtpgjndgpackffaaDoorChecked
import GoSem.Claim
import GoSem.ClaimJoined
import GoSem.ClaimMapViews
import Derived.JoinedTies
import Derived.KernelRfl
namespace Go.Proofs.YtpgjndgpackffaaDoor
/- THE CELL 'sum', in the pinned program and in every row, IS THE sha256 OF THE DUMP (.gsa) THAT YtpgjndgpackffaaDoorProg.lean LOADS. Nothing in Lean hashes anything: it is a label: what it is worth is what the hold of that sum in a sandbox is worth. -/
noncomputable def Tryd.pinned : Pinned := { name := "ytpgjndgpackffaadoor", sum := "f782f84b9265090a5a16a2775cd45015ea9d6e84cd2602ba58d1069dce12fe2a", checked := Tryd.checked }
namespace Rows
def none {H : Type} : Left H := { results := [], args := [] }

/- WHAT THE LISTED PACKAGE-LEVEL VARIABLES READ AS WHEN THE CALL BEGINS. Each datum BY PROGRAM (the guide's laid-datum.mjs) off the statement by which the dump's own 'gosem.cut.vars' lays the variable. In a bare row this is a premise. The card (YtpgjndgpackffaaDoorCards.lean) ties it to the program's text. -/
def laid_octant_shop_metals {H : Type} : DataW H := .iface "func table" (.agg [.agg [.iface "func" (.lit (.string [40, 111, 99, 116, 97, 110, 116, 47, 115, 104, 111, 112, 46, 112, 105, 101, 99, 101, 41, 46, 98, 114, 97, 115, 115])), .iface "func" (.lit (.string [111, 99, 116, 97, 110, 116, 47, 115, 104, 111, 112, 46, 109, 101, 116, 97, 108, 115, 36, 49])), .iface "func" (.lit (.string [111, 99, 116, 97, 110, 116, 47, 115, 104, 111, 112, 46, 109, 101, 116, 97, 108, 115, 36, 50]))], .agg [.iface "func" (.lit (.string [40, 111, 99, 116, 97, 110, 116, 47, 115, 104, 111, 112, 46, 112, 105, 101, 99, 101, 41, 46, 105, 118, 111, 114, 121])), .iface "func" (.lit (.string [111, 99, 116, 97, 110, 116, 47, 115, 104, 111, 112, 46, 109, 101, 116, 97, 108, 115, 36, 51])), .iface "func" (.lit (.string [111, 99, 116, 97, 110, 116, 47, 115, 104, 111, 112, 46, 109, 101, 116, 97, 108, 115, 36, 52]))]])

/-- 'octantlaw10.ShopMens': WHATEVER THE INPUT: true; the input reads as it did. -/
def shopMensSpec : ChangeSpec := { name := "shopMens", fn := fun _ => fun
  | [d1, d2] => { results := [.lit (.bool true)], args := [d1, d2] }
  | _ => none }
def shopMensRow : OpenClaim := { program := "ytpgjndgpackffaadoor", sum := "f782f84b9265090a5a16a2775cd45015ea9d6e84cd2602ba58d1069dce12fe2a", func := "octant/octantlaw10.ShopMens", spec := "shopMens", unfollowed := true, recurses := true, named := ["octant/shop.metals"], plainKeys := false, apart := false, laid := [("octant/shop.metals", laid_octant_shop_metals)] }
def ShopMensSaid : Prop := shopMensRow.holds Tryd.pinned (OpenSpec.ofChange shopMensSpec)

/-- ITS FALSE NEIGHBOUR: 'it returns false'. Refute it at one input. -/
def shopMensWrong : ChangeSpec := { name := "shopMens", fn := fun _ => fun
  | [d1, d2] => { results := [.lit (.bool false)], args := [d1, d2] }
  | _ => none }
def ShopMensWrongFalsely : Prop := shopMensRow.holds Tryd.pinned (OpenSpec.ofChange shopMensWrong)

/-- 'octantlaw10.ShopBegins': WHATEVER THE INPUT: true; the input reads as it did. -/
def shopBeginsSpec : ChangeSpec := { name := "shopBegins", fn := fun _ => fun
  | [d1, d2] => { results := [.lit (.bool true)], args := [d1, d2] }
  | _ => none }
def shopBeginsRow : OpenClaim := { program := "ytpgjndgpackffaadoor", sum := "f782f84b9265090a5a16a2775cd45015ea9d6e84cd2602ba58d1069dce12fe2a", func := "octant/octantlaw10.ShopBegins", spec := "shopBegins", unfollowed := true, recurses := true, named := ["octant/shop.metals"], plainKeys := false, apart := false, laid := [("octant/shop.metals", laid_octant_shop_metals)] }
def ShopBeginsSaid : Prop := shopBeginsRow.holds Tryd.pinned (OpenSpec.ofChange shopBeginsSpec)

/-- ITS FALSE NEIGHBOUR: 'it returns false'. Refute it at one input. -/
def shopBeginsWrong : ChangeSpec := { name := "shopBegins", fn := fun _ => fun
  | [d1, d2] => { results := [.lit (.bool false)], args := [d1, d2] }
  | _ => none }
def ShopBeginsWrongFalsely : Prop := shopBeginsRow.holds Tryd.pinned (OpenSpec.ofChange shopBeginsWrong)

/-- 'octantlaw10.ShopSaws': WHATEVER THE INPUT: true; the input reads as it did. -/
def shopSawsSpec : ChangeSpec := { name := "shopSaws", fn := fun _ => fun
  | [d1, d2, d3] => { results := [.lit (.bool true)], args := [d1, d2, d3] }
  | _ => none }
def shopSawsRow : OpenClaim := { program := "ytpgjndgpackffaadoor", sum := "f782f84b9265090a5a16a2775cd45015ea9d6e84cd2602ba58d1069dce12fe2a", func := "octant/octantlaw10.ShopSaws", spec := "shopSaws", unfollowed := true, recurses := true, named := ["octant/shop.metals"], plainKeys := false, apart := false, laid := [("octant/shop.metals", laid_octant_shop_metals)] }
def ShopSawsSaid : Prop := shopSawsRow.holds Tryd.pinned (OpenSpec.ofChange shopSawsSpec)

/-- ITS FALSE NEIGHBOUR: 'it returns false'. Refute it at one input. -/
def shopSawsWrong : ChangeSpec := { name := "shopSaws", fn := fun _ => fun
  | [d1, d2, d3] => { results := [.lit (.bool false)], args := [d1, d2, d3] }
  | _ => none }
def ShopSawsWrongFalsely : Prop := shopSawsRow.holds Tryd.pinned (OpenSpec.ofChange shopSawsWrong)

/-- 'octantlaw10.ShopPosts': WHATEVER THE INPUT: true; the input reads as it did. -/
def shopPostsSpec : ChangeSpec := { name := "shopPosts", fn := fun _ => fun
  | [d1, d2] => { results := [.lit (.bool true)], args := [d1, d2] }
  | _ => none }
def shopPostsRow : OpenClaim := { program := "ytpgjndgpackffaadoor", sum := "f782f84b9265090a5a16a2775cd45015ea9d6e84cd2602ba58d1069dce12fe2a", func := "octant/octantlaw10.ShopPosts", spec := "shopPosts", unfollowed := true, recurses := true, named := ["octant/shop.metals"], plainKeys := false, apart := false, laid := [("octant/shop.metals", laid_octant_shop_metals)] }
def ShopPostsSaid : Prop := shopPostsRow.holds Tryd.pinned (OpenSpec.ofChange shopPostsSpec)

/-- ITS FALSE NEIGHBOUR: 'it returns false'. Refute it at one input. -/
def shopPostsWrong : ChangeSpec := { name := "shopPosts", fn := fun _ => fun
  | [d1, d2] => { results := [.lit (.bool false)], args := [d1, d2] }
  | _ => none }
def ShopPostsWrongFalsely : Prop := shopPostsRow.holds Tryd.pinned (OpenSpec.ofChange shopPostsWrong)

/-- 'octantlaw10.ShopEarly': WHATEVER THE INPUT: true; the input reads as it did. -/
def shopEarlySpec : ChangeSpec := { name := "shopEarly", fn := fun _ => fun
  | [d1, d2, d3] => { results := [.lit (.bool true)], args := [d1, d2, d3] }
  | _ => none }
def shopEarlyRow : OpenClaim := { program := "ytpgjndgpackffaadoor", sum := "f782f84b9265090a5a16a2775cd45015ea9d6e84cd2602ba58d1069dce12fe2a", func := "octant/octantlaw10.ShopEarly", spec := "shopEarly", unfollowed := true, recurses := true, named := ["octant/shop.metals"], plainKeys := false, apart := false, laid := [("octant/shop.metals", laid_octant_shop_metals)] }
def ShopEarlySaid : Prop := shopEarlyRow.holds Tryd.pinned (OpenSpec.ofChange shopEarlySpec)

/-- ITS FALSE NEIGHBOUR: 'it returns false'. Refute it at one input. -/
def shopEarlyWrong : ChangeSpec := { name := "shopEarly", fn := fun _ => fun
  | [d1, d2, d3] => { results := [.lit (.bool false)], args := [d1, d2, d3] }
  | _ => none }
def ShopEarlyWrongFalsely : Prop := shopEarlyRow.holds Tryd.pinned (OpenSpec.ofChange shopEarlyWrong)

/-- 'octantlaw10.ShopMore': WHATEVER THE INPUT: true; the input reads as it did. -/
def shopMoreSpec : ChangeSpec := { name := "shopMore", fn := fun _ => fun
  | [d1, d2, d3] => { results := [.lit (.bool true)], args := [d1, d2, d3] }
  | _ => none }
def shopMoreRow : OpenClaim := { program := "ytpgjndgpackffaadoor", sum := "f782f84b9265090a5a16a2775cd45015ea9d6e84cd2602ba58d1069dce12fe2a", func := "octant/octantlaw10.ShopMore", spec := "shopMore", unfollowed := true, recurses := true, named := ["octant/shop.metals"], plainKeys := false, apart := false, laid := [("octant/shop.metals", laid_octant_shop_metals)] }
def ShopMoreSaid : Prop := shopMoreRow.holds Tryd.pinned (OpenSpec.ofChange shopMoreSpec)

/-- ITS FALSE NEIGHBOUR: 'it returns false'. Refute it at one input. -/
def shopMoreWrong : ChangeSpec := { name := "shopMore", fn := fun _ => fun
  | [d1, d2, d3] => { results := [.lit (.bool false)], args := [d1, d2, d3] }
  | _ => none }
def ShopMoreWrongFalsely : Prop := shopMoreRow.holds Tryd.pinned (OpenSpec.ofChange shopMoreWrong)

/-- 'octantlaw10.ShopEnough': WHATEVER THE INPUT: true; the input reads as it did. -/
def shopEnoughSpec : ChangeSpec := { name := "shopEnough", fn := fun _ => fun
  | [d1, d2] => { results := [.lit (.bool true)], args := [d1, d2] }
  | _ => none }
def shopEnoughRow : OpenClaim := { program := "ytpgjndgpackffaadoor", sum := "f782f84b9265090a5a16a2775cd45015ea9d6e84cd2602ba58d1069dce12fe2a", func := "octant/octantlaw10.ShopEnough", spec := "shopEnough", unfollowed := true, recurses := true, named := ["octant/shop.metals"], plainKeys := false, apart := false, laid := [("octant/shop.metals", laid_octant_shop_metals)] }
def ShopEnoughSaid : Prop := shopEnoughRow.holds Tryd.pinned (OpenSpec.ofChange shopEnoughSpec)

/-- ITS FALSE NEIGHBOUR: 'it returns false'. Refute it at one input. -/
def shopEnoughWrong : ChangeSpec := { name := "shopEnough", fn := fun _ => fun
  | [d1, d2] => { results := [.lit (.bool false)], args := [d1, d2] }
  | _ => none }
def ShopEnoughWrongFalsely : Prop := shopEnoughRow.holds Tryd.pinned (OpenSpec.ofChange shopEnoughWrong)

/-- 'octantlaw10.ShopStored': WHATEVER THE INPUT: true; the input reads as it did. -/
def shopStoredSpec : ChangeSpec := { name := "shopStored", fn := fun _ => fun
  | [d1, d2, d3] => { results := [.lit (.bool true)], args := [d1, d2, d3] }
  | _ => none }
def shopStoredRow : OpenClaim := { program := "ytpgjndgpackffaadoor", sum := "f782f84b9265090a5a16a2775cd45015ea9d6e84cd2602ba58d1069dce12fe2a", func := "octant/octantlaw10.ShopStored", spec := "shopStored", unfollowed := true, recurses := true, named := ["octant/shop.metals"], plainKeys := false, apart := false, laid := [("octant/shop.metals", laid_octant_shop_metals)] }
def ShopStoredSaid : Prop := shopStoredRow.holds Tryd.pinned (OpenSpec.ofChange shopStoredSpec)

/-- ITS FALSE NEIGHBOUR: 'it returns false'. Refute it at one input. -/
def shopStoredWrong : ChangeSpec := { name := "shopStored", fn := fun _ => fun
  | [d1, d2, d3] => { results := [.lit (.bool false)], args := [d1, d2, d3] }
  | _ => none }
def ShopStoredWrongFalsely : Prop := shopStoredRow.holds Tryd.pinned (OpenSpec.ofChange shopStoredWrong)

/-- 'octantlaw10.ShopBar': WHATEVER THE INPUT: true; the input reads as it did. -/
def shopBarSpec : ChangeSpec := { name := "shopBar", fn := fun _ => fun
  | [d1, d2, d3] => { results := [.lit (.bool true)], args := [d1, d2, d3] }
  | _ => none }
def shopBarRow : OpenClaim := { program := "ytpgjndgpackffaadoor", sum := "f782f84b9265090a5a16a2775cd45015ea9d6e84cd2602ba58d1069dce12fe2a", func := "octant/octantlaw10.ShopBar", spec := "shopBar", unfollowed := true, recurses := true, named := ["octant/shop.metals"], plainKeys := false, apart := false, laid := [("octant/shop.metals", laid_octant_shop_metals)] }
def ShopBarSaid : Prop := shopBarRow.holds Tryd.pinned (OpenSpec.ofChange shopBarSpec)

/-- ITS FALSE NEIGHBOUR: 'it returns false'. Refute it at one input. -/
def shopBarWrong : ChangeSpec := { name := "shopBar", fn := fun _ => fun
  | [d1, d2, d3] => { results := [.lit (.bool false)], args := [d1, d2, d3] }
  | _ => none }
def ShopBarWrongFalsely : Prop := shopBarRow.holds Tryd.pinned (OpenSpec.ofChange shopBarWrong)

/-- 'octantlaw10.ShopEither': WHATEVER THE INPUT: true; the input reads as it did. -/
def shopEitherSpec : ChangeSpec := { name := "shopEither", fn := fun _ => fun
  | [d1, d2, d3] => { results := [.lit (.bool true)], args := [d1, d2, d3] }
  | _ => none }
def shopEitherRow : OpenClaim := { program := "ytpgjndgpackffaadoor", sum := "f782f84b9265090a5a16a2775cd45015ea9d6e84cd2602ba58d1069dce12fe2a", func := "octant/octantlaw10.ShopEither", spec := "shopEither", unfollowed := true, recurses := true, named := ["octant/shop.metals"], plainKeys := false, apart := false, laid := [("octant/shop.metals", laid_octant_shop_metals)] }
def ShopEitherSaid : Prop := shopEitherRow.holds Tryd.pinned (OpenSpec.ofChange shopEitherSpec)

/-- ITS FALSE NEIGHBOUR: 'it returns false'. Refute it at one input. -/
def shopEitherWrong : ChangeSpec := { name := "shopEither", fn := fun _ => fun
  | [d1, d2, d3] => { results := [.lit (.bool false)], args := [d1, d2, d3] }
  | _ => none }
def ShopEitherWrongFalsely : Prop := shopEitherRow.holds Tryd.pinned (OpenSpec.ofChange shopEitherWrong)

/-- 'octantlaw10.ShopKnown': WHATEVER THE INPUT: true; the input reads as it did. -/
def shopKnownSpec : ChangeSpec := { name := "shopKnown", fn := fun _ => fun
  | [] => { results := [.lit (.bool true)], args := [] }
  | _ => none }
def shopKnownRow : OpenClaim := { program := "ytpgjndgpackffaadoor", sum := "f782f84b9265090a5a16a2775cd45015ea9d6e84cd2602ba58d1069dce12fe2a", func := "octant/octantlaw10.ShopKnown", spec := "shopKnown", unfollowed := true, recurses := true, named := ["octant/shop.metals"], plainKeys := false, apart := false, laid := [("octant/shop.metals", laid_octant_shop_metals)] }
def ShopKnownSaid : Prop := shopKnownRow.holds Tryd.pinned (OpenSpec.ofChange shopKnownSpec)

/-- ITS FALSE NEIGHBOUR: 'it returns false'. Refute it at one input. -/
def shopKnownWrong : ChangeSpec := { name := "shopKnown", fn := fun _ => fun
  | [] => { results := [.lit (.bool false)], args := [] }
  | _ => none }
def ShopKnownWrongFalsely : Prop := shopKnownRow.holds Tryd.pinned (OpenSpec.ofChange shopKnownWrong)

/- THE SECOND FORM. 'bulk': how many values and letters a reading holds, each counted each time it is reached (what is shared counts as often as it is met; a slice's spare places count too). A statement '..UptoSaid' is the law's where the arguments, and the package variables that the reading takes, are together of bulk at most 1048576: NARROWER than '..Said'. Prove '..Said' where nothing that the law and all that it calls make is longer than what came in: it says more and counts as full. Else prove '..UptoSaid'. A law counts once. -/
mutual
def uptoBulk {H : Type} : DataW H → Nat
  | .lit (.string bytes) => bytes.length + 1
  | .lit _ => 1
  | .nil => 1
  | .ptr d => uptoBulk d + 1
  | .slice elems spare => uptoBulkAll elems + uptoBulkAll spare + 1
  | .agg parts => uptoBulkAll parts + 1
  | .iface _ d => uptoBulk d + 1
  | .map entries => uptoBulkEntries entries + 1
  | .held _ => 1
def uptoBulkAll {H : Type} : List (DataW H) → Nat
  | [] => 0
  | d :: r => uptoBulk d + uptoBulkAll r
def uptoBulkEntries {H : Type} : List (Lit × DataW H) → Nat
  | [] => 0
  | x :: r => uptoBulkEntry x + uptoBulkEntries r
def uptoBulkEntry {H : Type} : Lit × DataW H → Nat
  | (.string bytes, d) => bytes.length + uptoBulk d + 1
  | (_, d) => uptoBulk d + 1
 end
def uptoSmall : (H : Type) → List (DataW H) → Bool := fun _ ds => decide (uptoBulkAll ds ≤ 1048576)
def OpenSpec.upto (s : _root_.Go.ChangeSpec) : _root_.Go.OpenSpec := { _root_.Go.OpenSpec.ofChange s with cond := some uptoSmall }

/-- 'octantlaw10.ShopMens', WHERE WHAT IT READS IS OF BULK AT MOST 1048576: true; the input reads as it did. -/
def shopMensUptoRow : OpenClaim := { program := "ytpgjndgpackffaadoor", sum := "f782f84b9265090a5a16a2775cd45015ea9d6e84cd2602ba58d1069dce12fe2a", func := "octant/octantlaw10.ShopMens", spec := "shopMens", unfollowed := true, recurses := true, named := ["octant/shop.metals"], plainKeys := false, apart := false, laid := [("octant/shop.metals", laid_octant_shop_metals)], narrowed := true }
def ShopMensUptoSaid : Prop := shopMensUptoRow.holds Tryd.pinned (OpenSpec.upto shopMensSpec)

/-- 'octantlaw10.ShopBegins', WHERE WHAT IT READS IS OF BULK AT MOST 1048576: true; the input reads as it did. -/
def shopBeginsUptoRow : OpenClaim := { program := "ytpgjndgpackffaadoor", sum := "f782f84b9265090a5a16a2775cd45015ea9d6e84cd2602ba58d1069dce12fe2a", func := "octant/octantlaw10.ShopBegins", spec := "shopBegins", unfollowed := true, recurses := true, named := ["octant/shop.metals"], plainKeys := false, apart := false, laid := [("octant/shop.metals", laid_octant_shop_metals)], narrowed := true }
def ShopBeginsUptoSaid : Prop := shopBeginsUptoRow.holds Tryd.pinned (OpenSpec.upto shopBeginsSpec)

/-- 'octantlaw10.ShopSaws', WHERE WHAT IT READS IS OF BULK AT MOST 1048576: true; the input reads as it did. -/
def shopSawsUptoRow : OpenClaim := { program := "ytpgjndgpackffaadoor", sum := "f782f84b9265090a5a16a2775cd45015ea9d6e84cd2602ba58d1069dce12fe2a", func := "octant/octantlaw10.ShopSaws", spec := "shopSaws", unfollowed := true, recurses := true, named := ["octant/shop.metals"], plainKeys := false, apart := false, laid := [("octant/shop.metals", laid_octant_shop_metals)], narrowed := true }
def ShopSawsUptoSaid : Prop := shopSawsUptoRow.holds Tryd.pinned (OpenSpec.upto shopSawsSpec)

/-- 'octantlaw10.ShopPosts', WHERE WHAT IT READS IS OF BULK AT MOST 1048576: true; the input reads as it did. -/
def shopPostsUptoRow : OpenClaim := { program := "ytpgjndgpackffaadoor", sum := "f782f84b9265090a5a16a2775cd45015ea9d6e84cd2602ba58d1069dce12fe2a", func := "octant/octantlaw10.ShopPosts", spec := "shopPosts", unfollowed := true, recurses := true, named := ["octant/shop.metals"], plainKeys := false, apart := false, laid := [("octant/shop.metals", laid_octant_shop_metals)], narrowed := true }
def ShopPostsUptoSaid : Prop := shopPostsUptoRow.holds Tryd.pinned (OpenSpec.upto shopPostsSpec)

/-- 'octantlaw10.ShopEarly', WHERE WHAT IT READS IS OF BULK AT MOST 1048576: true; the input reads as it did. -/
def shopEarlyUptoRow : OpenClaim := { program := "ytpgjndgpackffaadoor", sum := "f782f84b9265090a5a16a2775cd45015ea9d6e84cd2602ba58d1069dce12fe2a", func := "octant/octantlaw10.ShopEarly", spec := "shopEarly", unfollowed := true, recurses := true, named := ["octant/shop.metals"], plainKeys := false, apart := false, laid := [("octant/shop.metals", laid_octant_shop_metals)], narrowed := true }
def ShopEarlyUptoSaid : Prop := shopEarlyUptoRow.holds Tryd.pinned (OpenSpec.upto shopEarlySpec)

/-- 'octantlaw10.ShopMore', WHERE WHAT IT READS IS OF BULK AT MOST 1048576: true; the input reads as it did. -/
def shopMoreUptoRow : OpenClaim := { program := "ytpgjndgpackffaadoor", sum := "f782f84b9265090a5a16a2775cd45015ea9d6e84cd2602ba58d1069dce12fe2a", func := "octant/octantlaw10.ShopMore", spec := "shopMore", unfollowed := true, recurses := true, named := ["octant/shop.metals"], plainKeys := false, apart := false, laid := [("octant/shop.metals", laid_octant_shop_metals)], narrowed := true }
def ShopMoreUptoSaid : Prop := shopMoreUptoRow.holds Tryd.pinned (OpenSpec.upto shopMoreSpec)

/-- 'octantlaw10.ShopEnough', WHERE WHAT IT READS IS OF BULK AT MOST 1048576: true; the input reads as it did. -/
def shopEnoughUptoRow : OpenClaim := { program := "ytpgjndgpackffaadoor", sum := "f782f84b9265090a5a16a2775cd45015ea9d6e84cd2602ba58d1069dce12fe2a", func := "octant/octantlaw10.ShopEnough", spec := "shopEnough", unfollowed := true, recurses := true, named := ["octant/shop.metals"], plainKeys := false, apart := false, laid := [("octant/shop.metals", laid_octant_shop_metals)], narrowed := true }
def ShopEnoughUptoSaid : Prop := shopEnoughUptoRow.holds Tryd.pinned (OpenSpec.upto shopEnoughSpec)

/-- 'octantlaw10.ShopStored', WHERE WHAT IT READS IS OF BULK AT MOST 1048576: true; the input reads as it did. -/
def shopStoredUptoRow : OpenClaim := { program := "ytpgjndgpackffaadoor", sum := "f782f84b9265090a5a16a2775cd45015ea9d6e84cd2602ba58d1069dce12fe2a", func := "octant/octantlaw10.ShopStored", spec := "shopStored", unfollowed := true, recurses := true, named := ["octant/shop.metals"], plainKeys := false, apart := false, laid := [("octant/shop.metals", laid_octant_shop_metals)], narrowed := true }
def ShopStoredUptoSaid : Prop := shopStoredUptoRow.holds Tryd.pinned (OpenSpec.upto shopStoredSpec)

/-- 'octantlaw10.ShopBar', WHERE WHAT IT READS IS OF BULK AT MOST 1048576: true; the input reads as it did. -/
def shopBarUptoRow : OpenClaim := { program := "ytpgjndgpackffaadoor", sum := "f782f84b9265090a5a16a2775cd45015ea9d6e84cd2602ba58d1069dce12fe2a", func := "octant/octantlaw10.ShopBar", spec := "shopBar", unfollowed := true, recurses := true, named := ["octant/shop.metals"], plainKeys := false, apart := false, laid := [("octant/shop.metals", laid_octant_shop_metals)], narrowed := true }
def ShopBarUptoSaid : Prop := shopBarUptoRow.holds Tryd.pinned (OpenSpec.upto shopBarSpec)

/-- 'octantlaw10.ShopEither', WHERE WHAT IT READS IS OF BULK AT MOST 1048576: true; the input reads as it did. -/
def shopEitherUptoRow : OpenClaim := { program := "ytpgjndgpackffaadoor", sum := "f782f84b9265090a5a16a2775cd45015ea9d6e84cd2602ba58d1069dce12fe2a", func := "octant/octantlaw10.ShopEither", spec := "shopEither", unfollowed := true, recurses := true, named := ["octant/shop.metals"], plainKeys := false, apart := false, laid := [("octant/shop.metals", laid_octant_shop_metals)], narrowed := true }
def ShopEitherUptoSaid : Prop := shopEitherUptoRow.holds Tryd.pinned (OpenSpec.upto shopEitherSpec)

/-- 'octantlaw10.ShopKnown', WHERE WHAT IT READS IS OF BULK AT MOST 1048576: true; the input reads as it did. -/
def shopKnownUptoRow : OpenClaim := { program := "ytpgjndgpackffaadoor", sum := "f782f84b9265090a5a16a2775cd45015ea9d6e84cd2602ba58d1069dce12fe2a", func := "octant/octantlaw10.ShopKnown", spec := "shopKnown", unfollowed := true, recurses := true, named := ["octant/shop.metals"], plainKeys := false, apart := false, laid := [("octant/shop.metals", laid_octant_shop_metals)], narrowed := true }
def ShopKnownUptoSaid : Prop := shopKnownUptoRow.holds Tryd.pinned (OpenSpec.upto shopKnownSpec)

end Rows
end Go.Proofs.YtpgjndgpackffaaDoor
