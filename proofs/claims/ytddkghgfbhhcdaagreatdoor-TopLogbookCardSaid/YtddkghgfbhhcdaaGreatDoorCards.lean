/-
  DERIVED. GIVEN WITH THE SEED: THE CARDS: each row of YtddkghgfbhhcdaaGreatDoorRows.lean that lists a variable, with what it lists TIED to the program's text (the seventh form; the later family's looks); each row that meets fmt, with fmt's text TOLD by the authors' own Lean function (tested against real Go, not proved from fmt's source: count such statements apart). THE CARD IS WHAT COUNTS. Prove the row's statement (the work); the ties are given (YtddkghgfbhhcdaaGreatDoorTie.lean); close each card by the builder's one call (the guide's Derived/Test/ToyasCard.lean, 'card_holds'). Laid BY PROGRAM, IN A SANDBOX (cutbox-door.mjs). By AI agents, Wed Nov 11 2026. No macro, syntax, notation, axiom, sorry.
-/
import Derived.Test.YtddkghgfbhhcdaaGreatDoorRows
import GoSem.ClaimSeven
namespace Go.Proofs.YtddkghgfbhhcdaaGreatDoor
namespace Rows

/-- THE TIED CARD OF 'octanttop.TopLogbook'. -/
def topLogbookCard : Claim7 := { stood := { row := topLogbookRow, standIns := [], harness := (true, "4cf361e9915fcd27222d4d8c07b78238c58536a2b7f0a71738643ef9fc239b9f"), looks := false }, kinds := [], alts := [], laidByText := true, laidKinds := [.funcs], laidTests := true, laidLooks := .later }
def TopLogbookCardSaid : Prop := Claim7.holds Tryz.pinned (.plain (OpenSpec.ofChange topLogbookSpec)) topLogbookCard

/-- THE TIED CARD OF 'octanttop.TopStockbook'. -/
def topStockbookCard : Claim7 := { stood := { row := topStockbookRow, standIns := [], harness := (true, "4cf361e9915fcd27222d4d8c07b78238c58536a2b7f0a71738643ef9fc239b9f"), looks := false }, kinds := [], alts := [], laidByText := true, laidKinds := [.funcs], laidTests := true, laidLooks := .later }
def TopStockbookCardSaid : Prop := Claim7.holds Tryz.pinned (.plain (OpenSpec.ofChange topStockbookSpec)) topStockbookCard

/-- THE SECOND FORM's CARD OF 'octanttop.TopLogbook'. -/
def topLogbookUptoCard : Claim7 := { stood := { row := topLogbookUptoRow, standIns := [], harness := (true, "4cf361e9915fcd27222d4d8c07b78238c58536a2b7f0a71738643ef9fc239b9f"), looks := false }, kinds := [], alts := [], laidByText := true, laidKinds := [.funcs], laidTests := true, laidLooks := .later }
def TopLogbookUptoCardSaid : Prop := Claim7.holds Tryz.pinned (.plain (OpenSpec.upto topLogbookSpec)) topLogbookUptoCard

/-- THE SECOND FORM's CARD OF 'octanttop.TopStockbook'. -/
def topStockbookUptoCard : Claim7 := { stood := { row := topStockbookUptoRow, standIns := [], harness := (true, "4cf361e9915fcd27222d4d8c07b78238c58536a2b7f0a71738643ef9fc239b9f"), looks := false }, kinds := [], alts := [], laidByText := true, laidKinds := [.funcs], laidTests := true, laidLooks := .later }
def TopStockbookUptoCardSaid : Prop := Claim7.holds Tryz.pinned (.plain (OpenSpec.upto topStockbookSpec)) topStockbookUptoCard
end Rows
end Go.Proofs.YtddkghgfbhhcdaaGreatDoor
