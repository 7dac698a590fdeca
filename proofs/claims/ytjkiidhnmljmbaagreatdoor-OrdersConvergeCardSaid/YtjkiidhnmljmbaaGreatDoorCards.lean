/-
  DERIVED. GIVEN WITH THE SEED: THE CARDS: each row of YtjkiidhnmljmbaaGreatDoorRows.lean that lists a variable, with what it lists TIED to the program's text (the seventh form; the later family's looks); each row that meets fmt, with fmt's text TOLD by the authors' own Lean function (tested against real Go, not proved from fmt's source: count such statements apart). THE CARD IS WHAT COUNTS. Prove the row's statement (the work); the ties are given (YtjkiidhnmljmbaaGreatDoorTie.lean); close each card by the builder's one call (the guide's Derived/Test/ToyasCard.lean, 'card_holds'). Laid BY PROGRAM, IN A SANDBOX (cutbox-door.mjs). By AI agents, Wed Nov 11 2026. No macro, syntax, notation, axiom, sorry.
-/
import Derived.Test.YtjkiidhnmljmbaaGreatDoorRows
import GoSem.ClaimSeven
namespace Go.Proofs.YtjkiidhnmljmbaaGreatDoor
namespace Rows

/-- THE TIED CARD OF 'onairlaw20.OrdersCodeMatchesReference'. -/
def ordersCodeMatchesReferenceCard : Claim7 := { stood := { row := ordersCodeMatchesReferenceRow, standIns := [], harness := (true, "4985343f84255abe3e5ae3994f0f16817888fc0a5449ed7c76086324fa24a775"), looks := true }, kinds := [], alts := [], laidByText := true, laidKinds := [.sentinel, .sentinel, .sentinel, .sentinel], laidTests := true, laidLooks := .later }
def OrdersCodeMatchesReferenceCardSaid : Prop := Claim7.holds Tryz.pinned (.plain (OpenSpec.ofChange ordersCodeMatchesReferenceSpec)) ordersCodeMatchesReferenceCard

/-- THE TIED CARD OF 'onairlaw20.OrdersLineMatchesReference'. -/
def ordersLineMatchesReferenceCard : Claim7 := { stood := { row := ordersLineMatchesReferenceRow, standIns := [], harness := (true, "4985343f84255abe3e5ae3994f0f16817888fc0a5449ed7c76086324fa24a775"), looks := true }, kinds := [], alts := [], laidByText := true, laidKinds := [.sentinel, .sentinel, .sentinel, .sentinel], laidTests := true, laidLooks := .later }
def OrdersLineMatchesReferenceCardSaid : Prop := Claim7.holds Tryz.pinned (.plain (OpenSpec.ofChange ordersLineMatchesReferenceSpec)) ordersLineMatchesReferenceCard

/-- THE TIED CARD OF 'onairlaw20.OrdersConverge'. -/
def ordersConvergeCard : Claim7 := { stood := { row := ordersConvergeRow, standIns := [], harness := (true, "4985343f84255abe3e5ae3994f0f16817888fc0a5449ed7c76086324fa24a775"), looks := true }, kinds := [], alts := [], laidByText := true, laidKinds := [.sentinel, .sentinel, .sentinel, .sentinel], laidTests := true, laidLooks := .later }
def OrdersConvergeCardSaid : Prop := Claim7.holds Tryz.pinned (.plain (OpenSpec.ofChange ordersConvergeSpec)) ordersConvergeCard

/-- THE SECOND FORM's CARD OF 'onairlaw20.OrdersCodeMatchesReference'. -/
def ordersCodeMatchesReferenceUptoCard : Claim7 := { stood := { row := ordersCodeMatchesReferenceUptoRow, standIns := [], harness := (true, "4985343f84255abe3e5ae3994f0f16817888fc0a5449ed7c76086324fa24a775"), looks := true }, kinds := [], alts := [], laidByText := true, laidKinds := [.sentinel, .sentinel, .sentinel, .sentinel], laidTests := true, laidLooks := .later }
def OrdersCodeMatchesReferenceUptoCardSaid : Prop := Claim7.holds Tryz.pinned (.plain (OpenSpec.upto ordersCodeMatchesReferenceSpec)) ordersCodeMatchesReferenceUptoCard

/-- THE SECOND FORM's CARD OF 'onairlaw20.OrdersLineMatchesReference'. -/
def ordersLineMatchesReferenceUptoCard : Claim7 := { stood := { row := ordersLineMatchesReferenceUptoRow, standIns := [], harness := (true, "4985343f84255abe3e5ae3994f0f16817888fc0a5449ed7c76086324fa24a775"), looks := true }, kinds := [], alts := [], laidByText := true, laidKinds := [.sentinel, .sentinel, .sentinel, .sentinel], laidTests := true, laidLooks := .later }
def OrdersLineMatchesReferenceUptoCardSaid : Prop := Claim7.holds Tryz.pinned (.plain (OpenSpec.upto ordersLineMatchesReferenceSpec)) ordersLineMatchesReferenceUptoCard

/-- THE SECOND FORM's CARD OF 'onairlaw20.OrdersConverge'. -/
def ordersConvergeUptoCard : Claim7 := { stood := { row := ordersConvergeUptoRow, standIns := [], harness := (true, "4985343f84255abe3e5ae3994f0f16817888fc0a5449ed7c76086324fa24a775"), looks := true }, kinds := [], alts := [], laidByText := true, laidKinds := [.sentinel, .sentinel, .sentinel, .sentinel], laidTests := true, laidLooks := .later }
def OrdersConvergeUptoCardSaid : Prop := Claim7.holds Tryz.pinned (.plain (OpenSpec.upto ordersConvergeSpec)) ordersConvergeUptoCard
end Rows
end Go.Proofs.YtjkiidhnmljmbaaGreatDoor
