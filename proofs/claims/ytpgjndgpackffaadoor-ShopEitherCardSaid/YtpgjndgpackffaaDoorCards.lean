/-
  DERIVED. GIVEN WITH THE SEED: THE CARDS: each row of YtpgjndgpackffaaDoorRows.lean that lists a variable, with what it lists TIED to the program's text (the seventh form; the later family's looks); each row that meets fmt, with fmt's text TOLD by the authors' own Lean function (tested against real Go, not proved from fmt's source: count such statements apart). THE CARD IS WHAT COUNTS. Prove the row's statement (the work); the ties are given (YtpgjndgpackffaaDoorTie.lean); close each card by the builder's one call (the guide's Derived/Test/ToyasCard.lean, 'card_holds'). Laid BY PROGRAM, IN A SANDBOX (cutbox-door.mjs). By AI agents, Wed Nov 11 2026. No macro, syntax, notation, axiom, sorry.
-/
import Derived.Test.YtpgjndgpackffaaDoorRows
import GoSem.ClaimSeven
namespace Go.Proofs.YtpgjndgpackffaaDoor
namespace Rows

/-- THE TIED CARD OF 'octantlaw10.ShopMens'. -/
def shopMensCard : Claim7 := { stood := { row := shopMensRow, standIns := [], harness := (true, "dd40222a9f0ac63700c412ffa50f4149b13cf7024c22ba09065658318ccbf72e"), looks := false }, kinds := [], alts := [], laidByText := true, laidKinds := [.funcs], laidTests := true, laidLooks := .later }
def ShopMensCardSaid : Prop := Claim7.holds Tryd.pinned (.plain (OpenSpec.ofChange shopMensSpec)) shopMensCard

/-- THE TIED CARD OF 'octantlaw10.ShopBegins'. -/
def shopBeginsCard : Claim7 := { stood := { row := shopBeginsRow, standIns := [], harness := (true, "dd40222a9f0ac63700c412ffa50f4149b13cf7024c22ba09065658318ccbf72e"), looks := false }, kinds := [], alts := [], laidByText := true, laidKinds := [.funcs], laidTests := true, laidLooks := .later }
def ShopBeginsCardSaid : Prop := Claim7.holds Tryd.pinned (.plain (OpenSpec.ofChange shopBeginsSpec)) shopBeginsCard

/-- THE TIED CARD OF 'octantlaw10.ShopSaws'. -/
def shopSawsCard : Claim7 := { stood := { row := shopSawsRow, standIns := [], harness := (true, "dd40222a9f0ac63700c412ffa50f4149b13cf7024c22ba09065658318ccbf72e"), looks := false }, kinds := [], alts := [], laidByText := true, laidKinds := [.funcs], laidTests := true, laidLooks := .later }
def ShopSawsCardSaid : Prop := Claim7.holds Tryd.pinned (.plain (OpenSpec.ofChange shopSawsSpec)) shopSawsCard

/-- THE TIED CARD OF 'octantlaw10.ShopPosts'. -/
def shopPostsCard : Claim7 := { stood := { row := shopPostsRow, standIns := [], harness := (true, "dd40222a9f0ac63700c412ffa50f4149b13cf7024c22ba09065658318ccbf72e"), looks := false }, kinds := [], alts := [], laidByText := true, laidKinds := [.funcs], laidTests := true, laidLooks := .later }
def ShopPostsCardSaid : Prop := Claim7.holds Tryd.pinned (.plain (OpenSpec.ofChange shopPostsSpec)) shopPostsCard

/-- THE TIED CARD OF 'octantlaw10.ShopEarly'. -/
def shopEarlyCard : Claim7 := { stood := { row := shopEarlyRow, standIns := [], harness := (true, "dd40222a9f0ac63700c412ffa50f4149b13cf7024c22ba09065658318ccbf72e"), looks := false }, kinds := [], alts := [], laidByText := true, laidKinds := [.funcs], laidTests := true, laidLooks := .later }
def ShopEarlyCardSaid : Prop := Claim7.holds Tryd.pinned (.plain (OpenSpec.ofChange shopEarlySpec)) shopEarlyCard

/-- THE TIED CARD OF 'octantlaw10.ShopMore'. -/
def shopMoreCard : Claim7 := { stood := { row := shopMoreRow, standIns := [], harness := (true, "dd40222a9f0ac63700c412ffa50f4149b13cf7024c22ba09065658318ccbf72e"), looks := false }, kinds := [], alts := [], laidByText := true, laidKinds := [.funcs], laidTests := true, laidLooks := .later }
def ShopMoreCardSaid : Prop := Claim7.holds Tryd.pinned (.plain (OpenSpec.ofChange shopMoreSpec)) shopMoreCard

/-- THE TIED CARD OF 'octantlaw10.ShopEnough'. -/
def shopEnoughCard : Claim7 := { stood := { row := shopEnoughRow, standIns := [], harness := (true, "dd40222a9f0ac63700c412ffa50f4149b13cf7024c22ba09065658318ccbf72e"), looks := false }, kinds := [], alts := [], laidByText := true, laidKinds := [.funcs], laidTests := true, laidLooks := .later }
def ShopEnoughCardSaid : Prop := Claim7.holds Tryd.pinned (.plain (OpenSpec.ofChange shopEnoughSpec)) shopEnoughCard

/-- THE TIED CARD OF 'octantlaw10.ShopStored'. -/
def shopStoredCard : Claim7 := { stood := { row := shopStoredRow, standIns := [], harness := (true, "dd40222a9f0ac63700c412ffa50f4149b13cf7024c22ba09065658318ccbf72e"), looks := false }, kinds := [], alts := [], laidByText := true, laidKinds := [.funcs], laidTests := true, laidLooks := .later }
def ShopStoredCardSaid : Prop := Claim7.holds Tryd.pinned (.plain (OpenSpec.ofChange shopStoredSpec)) shopStoredCard

/-- THE TIED CARD OF 'octantlaw10.ShopBar'. -/
def shopBarCard : Claim7 := { stood := { row := shopBarRow, standIns := [], harness := (true, "dd40222a9f0ac63700c412ffa50f4149b13cf7024c22ba09065658318ccbf72e"), looks := false }, kinds := [], alts := [], laidByText := true, laidKinds := [.funcs], laidTests := true, laidLooks := .later }
def ShopBarCardSaid : Prop := Claim7.holds Tryd.pinned (.plain (OpenSpec.ofChange shopBarSpec)) shopBarCard

/-- THE TIED CARD OF 'octantlaw10.ShopEither'. -/
def shopEitherCard : Claim7 := { stood := { row := shopEitherRow, standIns := [], harness := (true, "dd40222a9f0ac63700c412ffa50f4149b13cf7024c22ba09065658318ccbf72e"), looks := false }, kinds := [], alts := [], laidByText := true, laidKinds := [.funcs], laidTests := true, laidLooks := .later }
def ShopEitherCardSaid : Prop := Claim7.holds Tryd.pinned (.plain (OpenSpec.ofChange shopEitherSpec)) shopEitherCard

/-- THE TIED CARD OF 'octantlaw10.ShopKnown'. -/
def shopKnownCard : Claim7 := { stood := { row := shopKnownRow, standIns := [], harness := (true, "dd40222a9f0ac63700c412ffa50f4149b13cf7024c22ba09065658318ccbf72e"), looks := false }, kinds := [], alts := [], laidByText := true, laidKinds := [.funcs], laidTests := true, laidLooks := .later }
def ShopKnownCardSaid : Prop := Claim7.holds Tryd.pinned (.plain (OpenSpec.ofChange shopKnownSpec)) shopKnownCard

/-- THE SECOND FORM's CARD OF 'octantlaw10.ShopMens'. -/
def shopMensUptoCard : Claim7 := { stood := { row := shopMensUptoRow, standIns := [], harness := (true, "dd40222a9f0ac63700c412ffa50f4149b13cf7024c22ba09065658318ccbf72e"), looks := false }, kinds := [], alts := [], laidByText := true, laidKinds := [.funcs], laidTests := true, laidLooks := .later }
def ShopMensUptoCardSaid : Prop := Claim7.holds Tryd.pinned (.plain (OpenSpec.upto shopMensSpec)) shopMensUptoCard

/-- THE SECOND FORM's CARD OF 'octantlaw10.ShopBegins'. -/
def shopBeginsUptoCard : Claim7 := { stood := { row := shopBeginsUptoRow, standIns := [], harness := (true, "dd40222a9f0ac63700c412ffa50f4149b13cf7024c22ba09065658318ccbf72e"), looks := false }, kinds := [], alts := [], laidByText := true, laidKinds := [.funcs], laidTests := true, laidLooks := .later }
def ShopBeginsUptoCardSaid : Prop := Claim7.holds Tryd.pinned (.plain (OpenSpec.upto shopBeginsSpec)) shopBeginsUptoCard

/-- THE SECOND FORM's CARD OF 'octantlaw10.ShopSaws'. -/
def shopSawsUptoCard : Claim7 := { stood := { row := shopSawsUptoRow, standIns := [], harness := (true, "dd40222a9f0ac63700c412ffa50f4149b13cf7024c22ba09065658318ccbf72e"), looks := false }, kinds := [], alts := [], laidByText := true, laidKinds := [.funcs], laidTests := true, laidLooks := .later }
def ShopSawsUptoCardSaid : Prop := Claim7.holds Tryd.pinned (.plain (OpenSpec.upto shopSawsSpec)) shopSawsUptoCard

/-- THE SECOND FORM's CARD OF 'octantlaw10.ShopPosts'. -/
def shopPostsUptoCard : Claim7 := { stood := { row := shopPostsUptoRow, standIns := [], harness := (true, "dd40222a9f0ac63700c412ffa50f4149b13cf7024c22ba09065658318ccbf72e"), looks := false }, kinds := [], alts := [], laidByText := true, laidKinds := [.funcs], laidTests := true, laidLooks := .later }
def ShopPostsUptoCardSaid : Prop := Claim7.holds Tryd.pinned (.plain (OpenSpec.upto shopPostsSpec)) shopPostsUptoCard

/-- THE SECOND FORM's CARD OF 'octantlaw10.ShopEarly'. -/
def shopEarlyUptoCard : Claim7 := { stood := { row := shopEarlyUptoRow, standIns := [], harness := (true, "dd40222a9f0ac63700c412ffa50f4149b13cf7024c22ba09065658318ccbf72e"), looks := false }, kinds := [], alts := [], laidByText := true, laidKinds := [.funcs], laidTests := true, laidLooks := .later }
def ShopEarlyUptoCardSaid : Prop := Claim7.holds Tryd.pinned (.plain (OpenSpec.upto shopEarlySpec)) shopEarlyUptoCard

/-- THE SECOND FORM's CARD OF 'octantlaw10.ShopMore'. -/
def shopMoreUptoCard : Claim7 := { stood := { row := shopMoreUptoRow, standIns := [], harness := (true, "dd40222a9f0ac63700c412ffa50f4149b13cf7024c22ba09065658318ccbf72e"), looks := false }, kinds := [], alts := [], laidByText := true, laidKinds := [.funcs], laidTests := true, laidLooks := .later }
def ShopMoreUptoCardSaid : Prop := Claim7.holds Tryd.pinned (.plain (OpenSpec.upto shopMoreSpec)) shopMoreUptoCard

/-- THE SECOND FORM's CARD OF 'octantlaw10.ShopEnough'. -/
def shopEnoughUptoCard : Claim7 := { stood := { row := shopEnoughUptoRow, standIns := [], harness := (true, "dd40222a9f0ac63700c412ffa50f4149b13cf7024c22ba09065658318ccbf72e"), looks := false }, kinds := [], alts := [], laidByText := true, laidKinds := [.funcs], laidTests := true, laidLooks := .later }
def ShopEnoughUptoCardSaid : Prop := Claim7.holds Tryd.pinned (.plain (OpenSpec.upto shopEnoughSpec)) shopEnoughUptoCard

/-- THE SECOND FORM's CARD OF 'octantlaw10.ShopStored'. -/
def shopStoredUptoCard : Claim7 := { stood := { row := shopStoredUptoRow, standIns := [], harness := (true, "dd40222a9f0ac63700c412ffa50f4149b13cf7024c22ba09065658318ccbf72e"), looks := false }, kinds := [], alts := [], laidByText := true, laidKinds := [.funcs], laidTests := true, laidLooks := .later }
def ShopStoredUptoCardSaid : Prop := Claim7.holds Tryd.pinned (.plain (OpenSpec.upto shopStoredSpec)) shopStoredUptoCard

/-- THE SECOND FORM's CARD OF 'octantlaw10.ShopBar'. -/
def shopBarUptoCard : Claim7 := { stood := { row := shopBarUptoRow, standIns := [], harness := (true, "dd40222a9f0ac63700c412ffa50f4149b13cf7024c22ba09065658318ccbf72e"), looks := false }, kinds := [], alts := [], laidByText := true, laidKinds := [.funcs], laidTests := true, laidLooks := .later }
def ShopBarUptoCardSaid : Prop := Claim7.holds Tryd.pinned (.plain (OpenSpec.upto shopBarSpec)) shopBarUptoCard

/-- THE SECOND FORM's CARD OF 'octantlaw10.ShopEither'. -/
def shopEitherUptoCard : Claim7 := { stood := { row := shopEitherUptoRow, standIns := [], harness := (true, "dd40222a9f0ac63700c412ffa50f4149b13cf7024c22ba09065658318ccbf72e"), looks := false }, kinds := [], alts := [], laidByText := true, laidKinds := [.funcs], laidTests := true, laidLooks := .later }
def ShopEitherUptoCardSaid : Prop := Claim7.holds Tryd.pinned (.plain (OpenSpec.upto shopEitherSpec)) shopEitherUptoCard

/-- THE SECOND FORM's CARD OF 'octantlaw10.ShopKnown'. -/
def shopKnownUptoCard : Claim7 := { stood := { row := shopKnownUptoRow, standIns := [], harness := (true, "dd40222a9f0ac63700c412ffa50f4149b13cf7024c22ba09065658318ccbf72e"), looks := false }, kinds := [], alts := [], laidByText := true, laidKinds := [.funcs], laidTests := true, laidLooks := .later }
def ShopKnownUptoCardSaid : Prop := Claim7.holds Tryd.pinned (.plain (OpenSpec.upto shopKnownSpec)) shopKnownUptoCard
end Rows
end Go.Proofs.YtpgjndgpackffaaDoor
