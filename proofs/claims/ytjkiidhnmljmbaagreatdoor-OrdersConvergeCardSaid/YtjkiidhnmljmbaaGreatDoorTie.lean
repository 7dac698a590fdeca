/-
  DERIVED. GIVEN WITH THE SEED: THE PROGRAM's TIES (one call each: nine closed facts by the kernel) AND EACH ROW's TIE, after the 31st guide's Derived/Test/Toyas{Tie, Card}.lean. No idea stands in it: it is a product of the set-up. Laid BY PROGRAM, IN A SANDBOX (cutbox-door.mjs). By AI agents, Wed Nov 11 2026. No macro, syntax, notation, axiom, sorry.
-/
import Derived.Test.YtjkiidhnmljmbaaGreatDoorRows
import Derived.LaidByTextLater
import Derived.SevenTiedAt
import Derived.LaidSub
import Derived.LaidOnce
namespace Go.Proofs.YtjkiidhnmljmbaaGreatDoor
open Go
set_option maxRecDepth 100000
theorem seatTie1 : Tryz.prog.laidByTextLater [("onair/replan.errWire", Rows.laid_onair_replan_errWire), ("onair/replan.errReplan", Rows.laid_onair_replan_errReplan), ("onair/orders.errShort", Rows.laid_onair_orders_errShort), ("onair/orders.errMeaning", Rows.laid_onair_orders_errMeaning)] [.sentinel, .sentinel, .sentinel, .sentinel] true :=
  Program.laidByTextLater_by_one 85 8 2 (by kernel_rfl) (by kernel_rfl) (by kernel_rfl) (by kernel_rfl) (by kernel_rfl) (by kernel_rfl) (fun _ _ => by kernel_rfl)
theorem noOwnUnsafe : Tryz.pinned.checked.prog.headLifts.contains "ownunsafe" = false := by kernel_rfl
theorem tie : Tryz.prog.laidByTextLater [("onair/replan.errWire", Rows.laid_onair_replan_errWire), ("onair/replan.errReplan", Rows.laid_onair_replan_errReplan), ("onair/orders.errShort", Rows.laid_onair_orders_errShort), ("onair/orders.errMeaning", Rows.laid_onair_orders_errMeaning)] [.sentinel, .sentinel, .sentinel, .sentinel] true :=
  Program.laidByTextLater.sub seatTie1 ["onair/replan.errWire", "onair/replan.errReplan", "onair/orders.errShort", "onair/orders.errMeaning"] (by kernel_rfl) (by kernel_rfl)
theorem ordersCodeMatchesReference_row_tie : Rows.ordersCodeMatchesReferenceRow.laidByTextAt .later Tryz.pinned [.sentinel, .sentinel, .sentinel, .sentinel] true :=
  OpenClaim.laidByTextAt_later rfl rfl tie noOwnUnsafe
theorem ordersLineMatchesReference_row_tie : Rows.ordersLineMatchesReferenceRow.laidByTextAt .later Tryz.pinned [.sentinel, .sentinel, .sentinel, .sentinel] true :=
  OpenClaim.laidByTextAt_later rfl rfl tie noOwnUnsafe
theorem ordersConverge_row_tie : Rows.ordersConvergeRow.laidByTextAt .later Tryz.pinned [.sentinel, .sentinel, .sentinel, .sentinel] true :=
  OpenClaim.laidByTextAt_later rfl rfl tie noOwnUnsafe
theorem ordersCodeMatchesReferenceUpto_row_tie : Rows.ordersCodeMatchesReferenceUptoRow.laidByTextAt .later Tryz.pinned [.sentinel, .sentinel, .sentinel, .sentinel] true :=
  OpenClaim.laidByTextAt_later rfl rfl tie noOwnUnsafe
theorem ordersLineMatchesReferenceUpto_row_tie : Rows.ordersLineMatchesReferenceUptoRow.laidByTextAt .later Tryz.pinned [.sentinel, .sentinel, .sentinel, .sentinel] true :=
  OpenClaim.laidByTextAt_later rfl rfl tie noOwnUnsafe
theorem ordersConvergeUpto_row_tie : Rows.ordersConvergeUptoRow.laidByTextAt .later Tryz.pinned [.sentinel, .sentinel, .sentinel, .sentinel] true :=
  OpenClaim.laidByTextAt_later rfl rfl tie noOwnUnsafe
end Go.Proofs.YtjkiidhnmljmbaaGreatDoor
