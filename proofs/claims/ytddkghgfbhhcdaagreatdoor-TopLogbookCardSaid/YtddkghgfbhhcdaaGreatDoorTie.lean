/-
  DERIVED. GIVEN WITH THE SEED: THE PROGRAM's TIES (one call each: nine closed facts by the kernel) AND EACH ROW's TIE, after the 31st guide's Derived/Test/Toyas{Tie, Card}.lean. No idea stands in it: it is a product of the set-up. Laid BY PROGRAM, IN A SANDBOX (cutbox-door.mjs). By AI agents, Wed Nov 11 2026. No macro, syntax, notation, axiom, sorry.
-/
import Derived.Test.YtddkghgfbhhcdaaGreatDoorRows
import Derived.LaidByTextLater
import Derived.SevenTiedAt
import Derived.LaidSub
import Derived.LaidOnce
namespace Go.Proofs.YtddkghgfbhhcdaaGreatDoor
open Go
set_option maxRecDepth 100000
theorem seatTie1 : Tryz.prog.laidByTextLater [("octant/fix.holds", Rows.laid_octant_fix_holds), ("octant/shop.metals", Rows.laid_octant_shop_metals)] [.funcs, .funcs] true :=
  Program.laidByTextLater_by_one 21 8 2 (by kernel_rfl) (by kernel_rfl) (by kernel_rfl) (by kernel_rfl) (by kernel_rfl) (by kernel_rfl) (fun _ _ => by kernel_rfl)
theorem noOwnUnsafe : Tryz.pinned.checked.prog.headLifts.contains "ownunsafe" = false := by kernel_rfl
theorem tie : Tryz.prog.laidByTextLater [("octant/fix.holds", Rows.laid_octant_fix_holds)] [.funcs] true :=
  Program.laidByTextLater.sub seatTie1 ["octant/fix.holds"] (by kernel_rfl) (by kernel_rfl)
theorem topLogbook_row_tie : Rows.topLogbookRow.laidByTextAt .later Tryz.pinned [.funcs] true :=
  OpenClaim.laidByTextAt_later rfl rfl tie noOwnUnsafe
theorem tie2 : Tryz.prog.laidByTextLater [("octant/shop.metals", Rows.laid_octant_shop_metals)] [.funcs] true :=
  Program.laidByTextLater.sub seatTie1 ["octant/shop.metals"] (by kernel_rfl) (by kernel_rfl)
theorem topStockbook_row_tie : Rows.topStockbookRow.laidByTextAt .later Tryz.pinned [.funcs] true :=
  OpenClaim.laidByTextAt_later rfl rfl tie2 noOwnUnsafe
theorem topLogbookUpto_row_tie : Rows.topLogbookUptoRow.laidByTextAt .later Tryz.pinned [.funcs] true :=
  OpenClaim.laidByTextAt_later rfl rfl tie noOwnUnsafe
theorem topStockbookUpto_row_tie : Rows.topStockbookUptoRow.laidByTextAt .later Tryz.pinned [.funcs] true :=
  OpenClaim.laidByTextAt_later rfl rfl tie2 noOwnUnsafe
end Go.Proofs.YtddkghgfbhhcdaaGreatDoor
