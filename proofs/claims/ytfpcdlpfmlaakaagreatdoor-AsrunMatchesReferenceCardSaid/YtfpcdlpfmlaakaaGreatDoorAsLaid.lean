/-
  What the listed variable 'constants' gives the walks, and that the door's own heap meets the condition.
-/
import Derived.Test.YtfpcdlpfmlaakaaGreatDoorRows
import Derived.Test.YtfpcdlpfmlaakaaGreatDoorDgD
import Derived.ProofKit
import Derived.LaidMore
import Derived.OpenShut
import Derived.Stop.Joined
set_option linter.unusedVariables false
set_option linter.unusedSimpArgs false
namespace Go.Proofs.YtfpcdlpfmlaakaaGreatDoor
open Go.ChangeShapes Go.WideShapes Go.ChangeAt Go.WideMaps Go.WideElems Go.RowKit Onair
theorem laidOut : laidOutB Tryz.prog = true := by kernel_rfl
theorem own : ownKnob Tryz.prog.godebug = none := by kernel_rfl
theorem gRem : Tryz.prog.globalNamed "onair/digest.constants" = some 0 := by kernel_rfl
theorem tRem : (Tryz.prog.globals[0]?).map (·.type) = some 190 := by kernel_rfl
theorem cU32 : Tryz.prog.cellsOf 144 = 1 := by kernel_rfl
abbrev laidRem : List (String × DataW Unit) := [("onair/digest.constants", Rows.laid_onair_digest_constants)]
theorem door_met (os : Os) (args : Array Value) : laidMetH Tryz.prog laidRem ((World.doorLaid Tryz.prog 400 os).forCall (fun _ _ => 0) ⟨#[], args, []⟩).memory :=
  laidMetH_of_parts3 (fuel := 8) (laidMet_of_run' 8 (by kernel_rfl) (by kernel_rfl)) (by kernel_rfl) (by kernel_rfl)
theorem remList : (Rows.laid_onair_digest_constants : DataW Unit) = .agg ((List.range 64).map fun i => .lit (.int .u32 (kAt i : Int))) := by rfl
theorem tab_of_laid {W : World} (h : laidMetH Tryz.prog laidRem W) : TabAt W := by
  rw [MakeChecks.laidMetH_plain _ _ _ (by kernel_rfl)] at h
  obtain ⟨ps, ⟨g0, t0, cs0, f0, p0, q0, hg0, ht0, hv0, hd0, _⟩, _, _⟩ := h
  obtain rfl := Option.some.inj (gRem.symm.trans hg0)
  obtain rfl := Option.some.inj (tRem.symm.trans ht0)
  obtain ⟨xs, m1, rfl, hx1, hlen, hn3, hel⟩ := DataW.trod_array Tryz.underlying190 hd0
  rw [remList] at hx1
  simp only [Prod.mk.injEq, DataW.agg.injEq] at hx1
  intro i hi
  have h0 := hel i hi
  rw [cU32, Nat.mul_one] at h0
  have hxi : xs[i]? = some xs[i] := List.getElem?_eq_getElem (by omega)
  rw [hxi] at h0
  obtain ⟨k, e1, e2, _⟩ := DataW.trod_int Tryz.underlying144 h0
  have e3 := congrArg (fun l => l[i]?) hx1.1
  simp only [List.getElem?_map, hxi, Option.map_some, e2] at e3
  rw [List.getElem?_range hi] at e3
  simp only [Option.map_some, Option.some.injEq, DataW.lit.injEq, Lit.int.injEq, true_and] at e3
  have hc := World.var?_cell hg0 hv0 i
  rw [hc]
  have e4 : (cs0.toList.drop i)[0]? = some (.int .u32 k) := by
    have := congrArg (fun l => l[0]?) e1
    simpa [List.getElem?_take] using this
  rw [List.getElem?_drop, Nat.add_zero] at e4
  rw [← Array.getElem?_toList, e4, ← e3]
end Go.Proofs.YtfpcdlpfmlaakaaGreatDoor
