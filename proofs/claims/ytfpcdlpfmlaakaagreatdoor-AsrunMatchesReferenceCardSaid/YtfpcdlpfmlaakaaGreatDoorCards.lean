/-
  DERIVED. GIVEN WITH THE SEED: THE CARDS: each row of YtfpcdlpfmlaakaaGreatDoorRows.lean that lists a variable, with what it lists TIED to the program's text (the seventh form; the later family's looks); each row that meets fmt, with fmt's text TOLD by the authors' own Lean function (tested against real Go, not proved from fmt's source: count such statements apart). THE CARD IS WHAT COUNTS. Prove the row's statement (the work); the ties are given (YtfpcdlpfmlaakaaGreatDoorTie.lean); close each card by the builder's one call (the guide's Derived/Test/ToyasCard.lean, 'card_holds'). Laid BY PROGRAM, IN A SANDBOX (cutbox-door.mjs). By AI agents, Wed Nov 11 2026. No macro, syntax, notation, axiom, sorry.
-/
import Derived.Test.YtfpcdlpfmlaakaaGreatDoorRows
import GoSem.ClaimSeven
namespace Go.Proofs.YtfpcdlpfmlaakaaGreatDoor
namespace Rows

/-- THE TIED CARD OF 'onairlaw25.AsrunOpensAnything'. -/
def asrunOpensAnythingCard : Claim7 := { stood := { row := asrunOpensAnythingRow, standIns := [], harness := (true, "b02f572935b625f0a7a0322125a0406b5a98c2e7546af0b1b0ad88fcb07654ac"), looks := false }, kinds := [], alts := [], laidByText := true, laidKinds := [.data], laidTests := true, laidLooks := .later }
def AsrunOpensAnythingCardSaid : Prop := Claim7.holds Tryz.pinned (.plain (OpenSpec.ofChange asrunOpensAnythingSpec)) asrunOpensAnythingCard

/-- THE TIED CARD OF 'onairlaw25.AsrunMatchesReference'. -/
def asrunMatchesReferenceCard : Claim7 := { stood := { row := asrunMatchesReferenceRow, standIns := [], harness := (true, "b02f572935b625f0a7a0322125a0406b5a98c2e7546af0b1b0ad88fcb07654ac"), looks := false }, kinds := [], alts := [], laidByText := true, laidKinds := [.data], laidTests := true, laidLooks := .later }
def AsrunMatchesReferenceCardSaid : Prop := Claim7.holds Tryz.pinned (.plain (OpenSpec.ofChange asrunMatchesReferenceSpec)) asrunMatchesReferenceCard

/-- THE SECOND FORM's CARD OF 'onairlaw25.AsrunOpensAnything'. -/
def asrunOpensAnythingUptoCard : Claim7 := { stood := { row := asrunOpensAnythingUptoRow, standIns := [], harness := (true, "b02f572935b625f0a7a0322125a0406b5a98c2e7546af0b1b0ad88fcb07654ac"), looks := false }, kinds := [], alts := [], laidByText := true, laidKinds := [.data], laidTests := true, laidLooks := .later }
def AsrunOpensAnythingUptoCardSaid : Prop := Claim7.holds Tryz.pinned (.plain (OpenSpec.upto asrunOpensAnythingSpec)) asrunOpensAnythingUptoCard

/-- THE SECOND FORM's CARD OF 'onairlaw25.AsrunMatchesReference'. -/
def asrunMatchesReferenceUptoCard : Claim7 := { stood := { row := asrunMatchesReferenceUptoRow, standIns := [], harness := (true, "b02f572935b625f0a7a0322125a0406b5a98c2e7546af0b1b0ad88fcb07654ac"), looks := false }, kinds := [], alts := [], laidByText := true, laidKinds := [.data], laidTests := true, laidLooks := .later }
def AsrunMatchesReferenceUptoCardSaid : Prop := Claim7.holds Tryz.pinned (.plain (OpenSpec.upto asrunMatchesReferenceSpec)) asrunMatchesReferenceUptoCard
end Rows
end Go.Proofs.YtfpcdlpfmlaakaaGreatDoor
