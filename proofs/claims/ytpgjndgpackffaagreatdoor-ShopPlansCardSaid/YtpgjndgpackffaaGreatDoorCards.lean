/-
  DERIVED. GIVEN WITH THE SEED: THE CARDS: each row of YtpgjndgpackffaaGreatDoorRows.lean that lists a variable, with what it lists TIED to the program's text (the seventh form; the later family's looks); each row that meets fmt, with fmt's text TOLD by the authors' own Lean function (tested against real Go, not proved from fmt's source: count such statements apart). THE CARD IS WHAT COUNTS. Prove the row's statement (the work); the ties are given (YtpgjndgpackffaaGreatDoorTie.lean); close each card by the builder's one call (the guide's Derived/Test/ToyasCard.lean, 'card_holds'). Laid BY PROGRAM, IN A SANDBOX (cutbox-door.mjs). By AI agents, Wed Nov 11 2026. No macro, syntax, notation, axiom, sorry.
-/
import Derived.Test.YtpgjndgpackffaaGreatDoorRows
import GoSem.ClaimSeven
namespace Go.Proofs.YtpgjndgpackffaaGreatDoor
namespace Rows

/-- THE TIED CARD OF 'octantlaw10.ShopPlans'. -/
def shopPlansCard : Claim7 := { stood := { row := shopPlansRow, standIns := [], harness := (true, "85d214981f0c32b1e7823578ed3ee6f65f040c81d499fa472962e430210ac3f7"), looks := false }, kinds := [], alts := [], laidByText := true, laidKinds := [.funcs], laidTests := true, laidLooks := .later }
def ShopPlansCardSaid : Prop := Claim7.holds Tryz.pinned (.plain (OpenSpec.ofChange shopPlansSpec)) shopPlansCard

/-- THE SECOND FORM's CARD OF 'octantlaw10.ShopPlans'. -/
def shopPlansUptoCard : Claim7 := { stood := { row := shopPlansUptoRow, standIns := [], harness := (true, "85d214981f0c32b1e7823578ed3ee6f65f040c81d499fa472962e430210ac3f7"), looks := false }, kinds := [], alts := [], laidByText := true, laidKinds := [.funcs], laidTests := true, laidLooks := .later }
def ShopPlansUptoCardSaid : Prop := Claim7.holds Tryz.pinned (.plain (OpenSpec.upto shopPlansSpec)) shopPlansUptoCard
end Rows
end Go.Proofs.YtpgjndgpackffaaGreatDoor
