/-
  Steps of drawn regions: a part of a block is read, a part of a block is written.
-/
import Derived.Test.YtjkiidhnmljmbaaGreatDoorGoZ
import Derived.Test.YtjkiidhnmljmbaaGreatDoorOrJK
set_option linter.unusedVariables false
set_option linter.unusedSimpArgs false
namespace Go.Proofs.YtjkiidhnmljmbaaGreatDoor
open Go.RowKit
theorem below_setCells {B : Nat} {W A : World} (h : Below B W A) (hB : B ≤ A.heap.size) (g f : Nat) (cs : List Value) (hg : B ≤ g) : Below B W (A.setCells g f cs) :=
  h.trans ((Fr.setCells (S := fun c => c = g) g cs f (Fr.refl _ A) (.inl rfl)).below B hB (fun c e => by omega))
end Go.Proofs.YtjkiidhnmljmbaaGreatDoor
