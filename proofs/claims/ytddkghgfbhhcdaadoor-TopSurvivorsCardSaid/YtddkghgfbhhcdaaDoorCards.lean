/-
  DERIVED. GIVEN WITH THE SEED: THE CARDS: each row of YtddkghgfbhhcdaaDoorRows.lean that lists a variable, with what it lists TIED to the program's text (the seventh form; the later family's looks); each row that meets fmt, with fmt's text TOLD by the authors' own Lean function (tested against real Go, not proved from fmt's source: count such statements apart). THE CARD IS WHAT COUNTS. Prove the row's statement (the work); the ties are given (YtddkghgfbhhcdaaDoorTie.lean); close each card by the builder's one call (the guide's Derived/Test/ToyasCard.lean, 'card_holds'). Laid BY PROGRAM, IN A SANDBOX (cutbox-door.mjs). By AI agents, Wed Nov 11 2026. No macro, syntax, notation, axiom, sorry.
-/
import Derived.Test.YtddkghgfbhhcdaaDoorRows
import GoSem.ClaimSeven
namespace Go.Proofs.YtddkghgfbhhcdaaDoor
namespace Rows

/-- THE TIED CARD OF 'octanttop.TopPlates'. -/
def topPlatesCard : Claim7 := { stood := { row := topPlatesRow, standIns := [], harness := (true, "7b58d68d04e5184b3f005fcfa1d30b3b1d1cef02de6830aec21181697c1fad55"), looks := false }, kinds := [], alts := [], laidByText := true, laidKinds := [.data], laidTests := true, laidLooks := .later }
def TopPlatesCardSaid : Prop := Claim7.holds Tryd.pinned (.plain (OpenSpec.ofChange topPlatesSpec)) topPlatesCard

/-- THE TIED CARD OF 'octanttop.TopSurvivors'. -/
def topSurvivorsCard : Claim7 := { stood := { row := topSurvivorsRow, standIns := [], harness := (true, "7b58d68d04e5184b3f005fcfa1d30b3b1d1cef02de6830aec21181697c1fad55"), looks := false }, kinds := [], alts := [], laidByText := true, laidKinds := [.funcs], laidTests := true, laidLooks := .later }
def TopSurvivorsCardSaid : Prop := Claim7.holds Tryd.pinned (.plain (OpenSpec.ofChange topSurvivorsSpec)) topSurvivorsCard

/-- THE SECOND FORM's CARD OF 'octanttop.TopPlates'. -/
def topPlatesUptoCard : Claim7 := { stood := { row := topPlatesUptoRow, standIns := [], harness := (true, "7b58d68d04e5184b3f005fcfa1d30b3b1d1cef02de6830aec21181697c1fad55"), looks := false }, kinds := [], alts := [], laidByText := true, laidKinds := [.data], laidTests := true, laidLooks := .later }
def TopPlatesUptoCardSaid : Prop := Claim7.holds Tryd.pinned (.plain (OpenSpec.upto topPlatesSpec)) topPlatesUptoCard

/-- THE SECOND FORM's CARD OF 'octanttop.TopSurvivors'. -/
def topSurvivorsUptoCard : Claim7 := { stood := { row := topSurvivorsUptoRow, standIns := [], harness := (true, "7b58d68d04e5184b3f005fcfa1d30b3b1d1cef02de6830aec21181697c1fad55"), looks := false }, kinds := [], alts := [], laidByText := true, laidKinds := [.funcs], laidTests := true, laidLooks := .later }
def TopSurvivorsUptoCardSaid : Prop := Claim7.holds Tryd.pinned (.plain (OpenSpec.upto topSurvivorsSpec)) topSurvivorsUptoCard
end Rows
end Go.Proofs.YtddkghgfbhhcdaaDoor
