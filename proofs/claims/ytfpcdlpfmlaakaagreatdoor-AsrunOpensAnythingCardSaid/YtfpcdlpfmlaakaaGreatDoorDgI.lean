/-
  The walk of the closure of digest.Extension.
  The walk of digest.Extension.
-/
import Derived.WalkKit
import Derived.LoopTactic
import Derived.WalkSpells
import Derived.WalkLawsBesides
import Derived.IntWalk
import Derived.Outline
import Derived.Deep.QuietTactic
import Derived.BigQuiet
import Derived.Deep.RegionLaw
import Derived.Deep.RegionHeld3
import Derived.Deep.DrawnRows
import Derived.Deep.AppendLies
import Derived.Laws.EntriesVeiled
import Derived.Lib.Hide
import Derived.Test.YtfpcdlpfmlaakaaGreatDoorDgG
set_option linter.unusedVariables false
set_option linter.unusedSimpArgs false
namespace Go.Proofs.YtfpcdlpfmlaakaaGreatDoor
open Go.RowKit Onair
attribute [local go_sem ↓] Go.wp_at_zero Go.wp_at_succ
theorem extF_len : ∀ (f : Nat) (l : List ByteArray) (m : Nat) (w : Bool), (extF f l m w).length ≤ f + 1
  | 0, l, m, w => by cases w <;> simp [extF]
  | f + 1, l, m, w => by
    unfold extF
    split
    · cases w <;> simp
    · split
      · rw [List.length_append]
        have := extF_len f (l.take (splitN l.length)) m w
        simp
        omega
      · rw [List.length_append]
        have := extF_len f (l.drop (splitN l.length)) (m - splitN l.length) false
        simp
        omega
theorem extL_len (l : List ByteArray) (m : Nat) (w : Bool) : (extL l m w).length ≤ l.length + 1 := extF_len _ _ _ _
end Go.Proofs.YtfpcdlpfmlaakaaGreatDoor
namespace Go.Proofs.YtfpcdlpfmlaakaaGreatDoor
open Go.RowKit Onair
attribute [local go_sem ↓] Go.wp_at_zero Go.wp_at_succ
end Go.Proofs.YtfpcdlpfmlaakaaGreatDoor
