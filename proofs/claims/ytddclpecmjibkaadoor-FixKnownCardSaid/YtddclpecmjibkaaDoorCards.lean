/-
  DERIVED. GIVEN WITH THE SEED: THE CARDS: each row of YtddclpecmjibkaaDoorRows.lean that lists a variable, with what it lists TIED to the program's text (the seventh form; the later family's looks); each row that meets fmt, with fmt's text TOLD by the authors' own Lean function (tested against real Go, not proved from fmt's source: count such statements apart). THE CARD IS WHAT COUNTS. Prove the row's statement (the work); the ties are given (YtddclpecmjibkaaDoorTie.lean); close each card by the builder's one call (the guide's Derived/Test/ToyasCard.lean, 'card_holds'). Laid BY PROGRAM, IN A SANDBOX (cutbox-door.mjs). By AI agents, Wed Nov 11 2026. No macro, syntax, notation, axiom, sorry.
-/
import Derived.Test.YtddclpecmjibkaaDoorRows
import GoSem.ClaimSeven
namespace Go.Proofs.YtddclpecmjibkaaDoor
namespace Rows

/-- THE TIED CARD OF 'octantlaw08.FixGoes'. -/
def fixGoesCard : Claim7 := { stood := { row := fixGoesRow, standIns := [], harness := (true, "937b15831472a6b1a21288b89c268cfaa912bbe0c6824408af5853b73c9c34ca"), looks := false }, kinds := [], alts := [], laidByText := true, laidKinds := [.funcs], laidTests := true, laidLooks := .later }
def FixGoesCardSaid : Prop := Claim7.holds Tryd.pinned (.plain (OpenSpec.ofChange fixGoesSpec)) fixGoesCard

/-- THE TIED CARD OF 'octantlaw08.FixTracks'. -/
def fixTracksCard : Claim7 := { stood := { row := fixTracksRow, standIns := [], harness := (true, "937b15831472a6b1a21288b89c268cfaa912bbe0c6824408af5853b73c9c34ca"), looks := false }, kinds := [], alts := [], laidByText := true, laidKinds := [.funcs], laidTests := true, laidLooks := .later }
def FixTracksCardSaid : Prop := Claim7.holds Tryd.pinned (.plain (OpenSpec.ofChange fixTracksSpec)) fixTracksCard

/-- THE TIED CARD OF 'octantlaw08.FixAsks'. -/
def fixAsksCard : Claim7 := { stood := { row := fixAsksRow, standIns := [], harness := (true, "937b15831472a6b1a21288b89c268cfaa912bbe0c6824408af5853b73c9c34ca"), looks := false }, kinds := [], alts := [], laidByText := true, laidKinds := [.funcs], laidTests := true, laidLooks := .later }
def FixAsksCardSaid : Prop := Claim7.holds Tryd.pinned (.plain (OpenSpec.ofChange fixAsksSpec)) fixAsksCard

/-- THE TIED CARD OF 'octantlaw08.FixCarries'. -/
def fixCarriesCard : Claim7 := { stood := { row := fixCarriesRow, standIns := [], harness := (true, "937b15831472a6b1a21288b89c268cfaa912bbe0c6824408af5853b73c9c34ca"), looks := false }, kinds := [], alts := [], laidByText := true, laidKinds := [.funcs], laidTests := true, laidLooks := .later }
def FixCarriesCardSaid : Prop := Claim7.holds Tryd.pinned (.plain (OpenSpec.ofChange fixCarriesSpec)) fixCarriesCard

/-- THE TIED CARD OF 'octantlaw08.FixMoons'. -/
def fixMoonsCard : Claim7 := { stood := { row := fixMoonsRow, standIns := [], harness := (true, "937b15831472a6b1a21288b89c268cfaa912bbe0c6824408af5853b73c9c34ca"), looks := false }, kinds := [], alts := [], laidByText := true, laidKinds := [.funcs], laidTests := true, laidLooks := .later }
def FixMoonsCardSaid : Prop := Claim7.holds Tryd.pinned (.plain (OpenSpec.ofChange fixMoonsSpec)) fixMoonsCard

/-- THE TIED CARD OF 'octantlaw08.FixShip'. -/
def fixShipCard : Claim7 := { stood := { row := fixShipRow, standIns := [], harness := (true, "937b15831472a6b1a21288b89c268cfaa912bbe0c6824408af5853b73c9c34ca"), looks := false }, kinds := [], alts := [], laidByText := true, laidKinds := [.funcs], laidTests := true, laidLooks := .later }
def FixShipCardSaid : Prop := Claim7.holds Tryd.pinned (.plain (OpenSpec.ofChange fixShipSpec)) fixShipCard

/-- THE TIED CARD OF 'octantlaw08.FixThrough'. -/
def fixThroughCard : Claim7 := { stood := { row := fixThroughRow, standIns := [], harness := (true, "937b15831472a6b1a21288b89c268cfaa912bbe0c6824408af5853b73c9c34ca"), looks := false }, kinds := [], alts := [], laidByText := true, laidKinds := [.funcs], laidTests := true, laidLooks := .later }
def FixThroughCardSaid : Prop := Claim7.holds Tryd.pinned (.plain (OpenSpec.ofChange fixThroughSpec)) fixThroughCard

/-- THE TIED CARD OF 'octantlaw08.FixMore'. -/
def fixMoreCard : Claim7 := { stood := { row := fixMoreRow, standIns := [], harness := (true, "937b15831472a6b1a21288b89c268cfaa912bbe0c6824408af5853b73c9c34ca"), looks := false }, kinds := [], alts := [], laidByText := true, laidKinds := [.funcs], laidTests := true, laidLooks := .later }
def FixMoreCardSaid : Prop := Claim7.holds Tryd.pinned (.plain (OpenSpec.ofChange fixMoreSpec)) fixMoreCard

/-- THE TIED CARD OF 'octantlaw08.FixBest'. -/
def fixBestCard : Claim7 := { stood := { row := fixBestRow, standIns := [], harness := (true, "937b15831472a6b1a21288b89c268cfaa912bbe0c6824408af5853b73c9c34ca"), looks := false }, kinds := [], alts := [], laidByText := true, laidKinds := [.funcs], laidTests := true, laidLooks := .later }
def FixBestCardSaid : Prop := Claim7.holds Tryd.pinned (.plain (OpenSpec.ofChange fixBestSpec)) fixBestCard

/-- THE TIED CARD OF 'octantlaw08.FixThree'. -/
def fixThreeCard : Claim7 := { stood := { row := fixThreeRow, standIns := [], harness := (true, "937b15831472a6b1a21288b89c268cfaa912bbe0c6824408af5853b73c9c34ca"), looks := false }, kinds := [], alts := [], laidByText := true, laidKinds := [.funcs], laidTests := true, laidLooks := .later }
def FixThreeCardSaid : Prop := Claim7.holds Tryd.pinned (.plain (OpenSpec.ofChange fixThreeSpec)) fixThreeCard

/-- THE TIED CARD OF 'octantlaw08.FixAgreed'. -/
def fixAgreedCard : Claim7 := { stood := { row := fixAgreedRow, standIns := [], harness := (true, "937b15831472a6b1a21288b89c268cfaa912bbe0c6824408af5853b73c9c34ca"), looks := false }, kinds := [], alts := [], laidByText := true, laidKinds := [.funcs], laidTests := true, laidLooks := .later }
def FixAgreedCardSaid : Prop := Claim7.holds Tryd.pinned (.plain (OpenSpec.ofChange fixAgreedSpec)) fixAgreedCard

/-- THE TIED CARD OF 'octantlaw08.FixLit'. -/
def fixLitCard : Claim7 := { stood := { row := fixLitRow, standIns := [], harness := (true, "937b15831472a6b1a21288b89c268cfaa912bbe0c6824408af5853b73c9c34ca"), looks := false }, kinds := [], alts := [], laidByText := true, laidKinds := [.funcs], laidTests := true, laidLooks := .later }
def FixLitCardSaid : Prop := Claim7.holds Tryd.pinned (.plain (OpenSpec.ofChange fixLitSpec)) fixLitCard

/-- THE TIED CARD OF 'octantlaw08.FixExchanged'. -/
def fixExchangedCard : Claim7 := { stood := { row := fixExchangedRow, standIns := [], harness := (true, "937b15831472a6b1a21288b89c268cfaa912bbe0c6824408af5853b73c9c34ca"), looks := false }, kinds := [], alts := [], laidByText := true, laidKinds := [.funcs], laidTests := true, laidLooks := .later }
def FixExchangedCardSaid : Prop := Claim7.holds Tryd.pinned (.plain (OpenSpec.ofChange fixExchangedSpec)) fixExchangedCard

/-- THE TIED CARD OF 'octantlaw08.FixKnown'. -/
def fixKnownCard : Claim7 := { stood := { row := fixKnownRow, standIns := [], harness := (true, "937b15831472a6b1a21288b89c268cfaa912bbe0c6824408af5853b73c9c34ca"), looks := false }, kinds := [], alts := [], laidByText := true, laidKinds := [.funcs], laidTests := true, laidLooks := .later }
def FixKnownCardSaid : Prop := Claim7.holds Tryd.pinned (.plain (OpenSpec.ofChange fixKnownSpec)) fixKnownCard

/-- THE SECOND FORM's CARD OF 'octantlaw08.FixGoes'. -/
def fixGoesUptoCard : Claim7 := { stood := { row := fixGoesUptoRow, standIns := [], harness := (true, "937b15831472a6b1a21288b89c268cfaa912bbe0c6824408af5853b73c9c34ca"), looks := false }, kinds := [], alts := [], laidByText := true, laidKinds := [.funcs], laidTests := true, laidLooks := .later }
def FixGoesUptoCardSaid : Prop := Claim7.holds Tryd.pinned (.plain (OpenSpec.upto fixGoesSpec)) fixGoesUptoCard

/-- THE SECOND FORM's CARD OF 'octantlaw08.FixTracks'. -/
def fixTracksUptoCard : Claim7 := { stood := { row := fixTracksUptoRow, standIns := [], harness := (true, "937b15831472a6b1a21288b89c268cfaa912bbe0c6824408af5853b73c9c34ca"), looks := false }, kinds := [], alts := [], laidByText := true, laidKinds := [.funcs], laidTests := true, laidLooks := .later }
def FixTracksUptoCardSaid : Prop := Claim7.holds Tryd.pinned (.plain (OpenSpec.upto fixTracksSpec)) fixTracksUptoCard

/-- THE SECOND FORM's CARD OF 'octantlaw08.FixAsks'. -/
def fixAsksUptoCard : Claim7 := { stood := { row := fixAsksUptoRow, standIns := [], harness := (true, "937b15831472a6b1a21288b89c268cfaa912bbe0c6824408af5853b73c9c34ca"), looks := false }, kinds := [], alts := [], laidByText := true, laidKinds := [.funcs], laidTests := true, laidLooks := .later }
def FixAsksUptoCardSaid : Prop := Claim7.holds Tryd.pinned (.plain (OpenSpec.upto fixAsksSpec)) fixAsksUptoCard

/-- THE SECOND FORM's CARD OF 'octantlaw08.FixCarries'. -/
def fixCarriesUptoCard : Claim7 := { stood := { row := fixCarriesUptoRow, standIns := [], harness := (true, "937b15831472a6b1a21288b89c268cfaa912bbe0c6824408af5853b73c9c34ca"), looks := false }, kinds := [], alts := [], laidByText := true, laidKinds := [.funcs], laidTests := true, laidLooks := .later }
def FixCarriesUptoCardSaid : Prop := Claim7.holds Tryd.pinned (.plain (OpenSpec.upto fixCarriesSpec)) fixCarriesUptoCard

/-- THE SECOND FORM's CARD OF 'octantlaw08.FixMoons'. -/
def fixMoonsUptoCard : Claim7 := { stood := { row := fixMoonsUptoRow, standIns := [], harness := (true, "937b15831472a6b1a21288b89c268cfaa912bbe0c6824408af5853b73c9c34ca"), looks := false }, kinds := [], alts := [], laidByText := true, laidKinds := [.funcs], laidTests := true, laidLooks := .later }
def FixMoonsUptoCardSaid : Prop := Claim7.holds Tryd.pinned (.plain (OpenSpec.upto fixMoonsSpec)) fixMoonsUptoCard

/-- THE SECOND FORM's CARD OF 'octantlaw08.FixShip'. -/
def fixShipUptoCard : Claim7 := { stood := { row := fixShipUptoRow, standIns := [], harness := (true, "937b15831472a6b1a21288b89c268cfaa912bbe0c6824408af5853b73c9c34ca"), looks := false }, kinds := [], alts := [], laidByText := true, laidKinds := [.funcs], laidTests := true, laidLooks := .later }
def FixShipUptoCardSaid : Prop := Claim7.holds Tryd.pinned (.plain (OpenSpec.upto fixShipSpec)) fixShipUptoCard

/-- THE SECOND FORM's CARD OF 'octantlaw08.FixThrough'. -/
def fixThroughUptoCard : Claim7 := { stood := { row := fixThroughUptoRow, standIns := [], harness := (true, "937b15831472a6b1a21288b89c268cfaa912bbe0c6824408af5853b73c9c34ca"), looks := false }, kinds := [], alts := [], laidByText := true, laidKinds := [.funcs], laidTests := true, laidLooks := .later }
def FixThroughUptoCardSaid : Prop := Claim7.holds Tryd.pinned (.plain (OpenSpec.upto fixThroughSpec)) fixThroughUptoCard

/-- THE SECOND FORM's CARD OF 'octantlaw08.FixMore'. -/
def fixMoreUptoCard : Claim7 := { stood := { row := fixMoreUptoRow, standIns := [], harness := (true, "937b15831472a6b1a21288b89c268cfaa912bbe0c6824408af5853b73c9c34ca"), looks := false }, kinds := [], alts := [], laidByText := true, laidKinds := [.funcs], laidTests := true, laidLooks := .later }
def FixMoreUptoCardSaid : Prop := Claim7.holds Tryd.pinned (.plain (OpenSpec.upto fixMoreSpec)) fixMoreUptoCard

/-- THE SECOND FORM's CARD OF 'octantlaw08.FixBest'. -/
def fixBestUptoCard : Claim7 := { stood := { row := fixBestUptoRow, standIns := [], harness := (true, "937b15831472a6b1a21288b89c268cfaa912bbe0c6824408af5853b73c9c34ca"), looks := false }, kinds := [], alts := [], laidByText := true, laidKinds := [.funcs], laidTests := true, laidLooks := .later }
def FixBestUptoCardSaid : Prop := Claim7.holds Tryd.pinned (.plain (OpenSpec.upto fixBestSpec)) fixBestUptoCard

/-- THE SECOND FORM's CARD OF 'octantlaw08.FixThree'. -/
def fixThreeUptoCard : Claim7 := { stood := { row := fixThreeUptoRow, standIns := [], harness := (true, "937b15831472a6b1a21288b89c268cfaa912bbe0c6824408af5853b73c9c34ca"), looks := false }, kinds := [], alts := [], laidByText := true, laidKinds := [.funcs], laidTests := true, laidLooks := .later }
def FixThreeUptoCardSaid : Prop := Claim7.holds Tryd.pinned (.plain (OpenSpec.upto fixThreeSpec)) fixThreeUptoCard

/-- THE SECOND FORM's CARD OF 'octantlaw08.FixAgreed'. -/
def fixAgreedUptoCard : Claim7 := { stood := { row := fixAgreedUptoRow, standIns := [], harness := (true, "937b15831472a6b1a21288b89c268cfaa912bbe0c6824408af5853b73c9c34ca"), looks := false }, kinds := [], alts := [], laidByText := true, laidKinds := [.funcs], laidTests := true, laidLooks := .later }
def FixAgreedUptoCardSaid : Prop := Claim7.holds Tryd.pinned (.plain (OpenSpec.upto fixAgreedSpec)) fixAgreedUptoCard

/-- THE SECOND FORM's CARD OF 'octantlaw08.FixLit'. -/
def fixLitUptoCard : Claim7 := { stood := { row := fixLitUptoRow, standIns := [], harness := (true, "937b15831472a6b1a21288b89c268cfaa912bbe0c6824408af5853b73c9c34ca"), looks := false }, kinds := [], alts := [], laidByText := true, laidKinds := [.funcs], laidTests := true, laidLooks := .later }
def FixLitUptoCardSaid : Prop := Claim7.holds Tryd.pinned (.plain (OpenSpec.upto fixLitSpec)) fixLitUptoCard

/-- THE SECOND FORM's CARD OF 'octantlaw08.FixExchanged'. -/
def fixExchangedUptoCard : Claim7 := { stood := { row := fixExchangedUptoRow, standIns := [], harness := (true, "937b15831472a6b1a21288b89c268cfaa912bbe0c6824408af5853b73c9c34ca"), looks := false }, kinds := [], alts := [], laidByText := true, laidKinds := [.funcs], laidTests := true, laidLooks := .later }
def FixExchangedUptoCardSaid : Prop := Claim7.holds Tryd.pinned (.plain (OpenSpec.upto fixExchangedSpec)) fixExchangedUptoCard

/-- THE SECOND FORM's CARD OF 'octantlaw08.FixKnown'. -/
def fixKnownUptoCard : Claim7 := { stood := { row := fixKnownUptoRow, standIns := [], harness := (true, "937b15831472a6b1a21288b89c268cfaa912bbe0c6824408af5853b73c9c34ca"), looks := false }, kinds := [], alts := [], laidByText := true, laidKinds := [.funcs], laidTests := true, laidLooks := .later }
def FixKnownUptoCardSaid : Prop := Claim7.holds Tryd.pinned (.plain (OpenSpec.upto fixKnownSpec)) fixKnownUptoCard
end Rows
end Go.Proofs.YtddclpecmjibkaaDoor
