/- What the listed sentinels give the walks of package orders, and that the door's own heap meets the condition. -/
import Derived.Test.YtjkiidhnmljmbaaGreatDoorRows
import Derived.Test.YtjkiidhnmljmbaaGreatDoorPlW
import Derived.Test.YtjkiidhnmljmbaaGreatDoorBas
import Derived.ProofKit
import Derived.LaidMore
import Derived.OpenShut
import Derived.Stop.Joined
import Derived.Stop.LaidErr
set_option linter.unusedVariables false
set_option linter.unusedSimpArgs false
namespace Go.Proofs.YtjkiidhnmljmbaaGreatDoor
open Go.ChangeShapes Go.WideShapes Go.ChangeAt Go.WideMaps Go.WideElems Go.RowKit Onair
theorem laidOut : laidOutB Tryz.prog = true := by kernel_rfl
theorem own : ownKnob Tryz.prog.godebug = none := by kernel_rfl
theorem gShort : Tryz.prog.globalNamed "onair/orders.errShort" = some 0 := by kernel_rfl
theorem tShort : (Tryz.prog.globals[0]?).map (·.type) = some 81 := by kernel_rfl
theorem starES : "*" ++ "errors.errorString" = "*errors.errorString" := by decide
theorem rowES (u : TypeId) (h : Tryz.prog.typeName? 3 u = some "*errors.errorString") : u = 196 :=
 typeName_ptr_named (nm := "errors.errorString") (by rw [starES]; kernel_rfl) (by kernel_rfl) (by decide) u (by rw [starES]; exact h)
theorem cellsES : Tryz.prog.cellsOf 219 = 1 := by kernel_rfl
theorem cellsStr : Tryz.prog.cellsOf 9 = 1 := by kernel_rfl
abbrev laidRem : List (String × DataW Unit) := [("onair/replan.errWire", Rows.laid_onair_replan_errWire), ("onair/replan.errReplan", Rows.laid_onair_replan_errReplan), ("onair/orders.errShort", Rows.laid_onair_orders_errShort), ("onair/orders.errMeaning", Rows.laid_onair_orders_errMeaning)]
theorem door_met (os : Os) (args : Array Value) : laidMetH Tryz.prog laidRem ((World.doorLaid Tryz.prog 400 os).forCall (fun _ _ => 0) ⟨#[], args, []⟩).memory :=
 laidMetH_of_parts3 (fuel := 8) (laidMet_of_run' 8 (by kernel_rfl) (by kernel_rfl)) (by kernel_rfl) (by kernel_rfl)
theorem tab_of_laid {W : World} (h : laidMetH Tryz.prog laidRem W) : ∃ er, W.cell? ⟨0, 0, none⟩ = some (.iface 196 (.pointer (some er))) := by
 rw [MakeChecks.laidMetH_plain _ _ _ (by kernel_rfl)] at h
 obtain ⟨a0, sa, hva, _, _, _⟩ := laid_sentinel h.tail.tail gShort tShort Tryz.underlying81 rowES Tryz.underlying196 Tryz.underlying219 rfl rfl Tryz.underlying9 cellsES cellsStr
 exact ⟨a0, by simpa using World.var?_cell gShort hva 0⟩
end Go.Proofs.YtjkiidhnmljmbaaGreatDoor
