/-
  What the four listed sentinels give the walks of package orders.
-/
import Derived.Stop.LaidTwo
import Derived.Test.YtjkiidhnmljmbaaGreatDoorOrLaid
import Derived.Test.YtjkiidhnmljmbaaGreatDoorGoW
set_option linter.unusedVariables false
set_option linter.unusedSimpArgs false
namespace Go.Proofs.YtjkiidhnmljmbaaGreatDoor
open Go.ChangeShapes Go.WideShapes Go.ChangeAt Go.WideMaps Go.WideElems Go.RowKit Onair
theorem gMeaning : Tryz.prog.globalNamed "onair/orders.errMeaning" = some 1 := by kernel_rfl
theorem tMeaning : (Tryz.prog.globals[1]?).map (·.type) = some 81 := by kernel_rfl
theorem gWire : Tryz.prog.globalNamed "onair/replan.errWire" = some 2 := by kernel_rfl
theorem tWire : (Tryz.prog.globals[2]?).map (·.type) = some 81 := by kernel_rfl
theorem gReplan : Tryz.prog.globalNamed "onair/replan.errReplan" = some 3 := by kernel_rfl
theorem tReplan : (Tryz.prog.globals[3]?).map (·.type) = some 81 := by kernel_rfl
theorem sent_of_laid {W : World} (h : laidMetH Tryz.prog laidRem W) : ∃ es em er eb, Sent W es em er eb := by
  rw [MakeChecks.laidMetH_plain _ _ _ (by kernel_rfl)] at h
  obtain ⟨a0, a1, _, _, c0, c1, t0, t1, v0, v1, _, _, _, _, _, _, hne, h0, h1⟩ := laid_sentinels2 h gWire tWire gReplan tReplan Tryz.underlying81 rowES Tryz.underlying196 Tryz.underlying219 rfl rfl Tryz.underlying9 cellsES cellsStr
  obtain ⟨b0, b1, _, _, d0, d1, u0, u1, x0, x1, _, _, _, _, _, _, hne2, k0, k1⟩ := laid_sentinels2 h.tail.tail gShort tShort gMeaning tMeaning Tryz.underlying81 rowES Tryz.underlying196 Tryz.underlying219 rfl rfl Tryz.underlying9 cellsES cellsStr
  refine ⟨b0, b1, a0, a1, ?_, ?_, ?_, ?_, ⟨fun e => hne2 e.symm, ⟨_, _, k1⟩, ⟨_, _, k0⟩⟩, ⟨fun e => hne e.symm, ⟨_, _, h1⟩, ⟨_, _, h0⟩⟩⟩
  · simpa using World.var?_cell gShort x0 0
  · simpa using World.var?_cell gMeaning x1 0
  · simpa using World.var?_cell gWire v0 0
  · simpa using World.var?_cell gReplan v1 0
end Go.Proofs.YtjkiidhnmljmbaaGreatDoor
