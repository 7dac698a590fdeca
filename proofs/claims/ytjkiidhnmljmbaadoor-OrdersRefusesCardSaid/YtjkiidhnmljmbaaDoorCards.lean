/-
  DERIVED. GIVEN WITH THE SEED: THE CARDS: each row of YtjkiidhnmljmbaaDoorRows.lean that lists a variable, with what it lists TIED to the program's text (the seventh form; the later family's looks); each row that meets fmt, with fmt's text TOLD by the authors' own Lean function (tested against real Go, not proved from fmt's source: count such statements apart). THE CARD IS WHAT COUNTS. Prove the row's statement (the work); the ties are given (YtjkiidhnmljmbaaDoorTie.lean); close each card by the builder's one call (the guide's Derived/Test/ToyasCard.lean, 'card_holds'). Laid BY PROGRAM, IN A SANDBOX (cutbox-door.mjs). By AI agents, Wed Nov 11 2026. No macro, syntax, notation, axiom, sorry.
-/
import Derived.Test.YtjkiidhnmljmbaaDoorRows
import GoSem.ClaimSeven
namespace Go.Proofs.YtjkiidhnmljmbaaDoor
namespace Rows

/-- THE TIED CARD OF 'onairlaw20.OrdersRoundTrip'. -/
def ordersRoundTripCard : Claim7 := { stood := { row := ordersRoundTripRow, standIns := [], harness := (true, "ebf0f8dfe417455e750422443bad851f10fcdb16e11348e500fff7038f682461"), looks := true }, kinds := [], alts := [], laidByText := true, laidKinds := [.sentinel, .sentinel, .sentinel, .sentinel], laidTests := true, laidLooks := .later }
def OrdersRoundTripCardSaid : Prop := Claim7.holds Tryd.pinned (.plain (OpenSpec.ofChange ordersRoundTripSpec)) ordersRoundTripCard

/-- THE TIED CARD OF 'onairlaw20.OrdersDecodedAgain'. -/
def ordersDecodedAgainCard : Claim7 := { stood := { row := ordersDecodedAgainRow, standIns := [], harness := (true, "ebf0f8dfe417455e750422443bad851f10fcdb16e11348e500fff7038f682461"), looks := true }, kinds := [], alts := [], laidByText := true, laidKinds := [.sentinel, .sentinel, .sentinel, .sentinel], laidTests := true, laidLooks := .later }
def OrdersDecodedAgainCardSaid : Prop := Claim7.holds Tryd.pinned (.plain (OpenSpec.ofChange ordersDecodedAgainSpec)) ordersDecodedAgainCard

/-- THE TIED CARD OF 'onairlaw20.OrdersCount'. -/
def ordersCountCard : Claim7 := { stood := { row := ordersCountRow, standIns := [], harness := (true, "ebf0f8dfe417455e750422443bad851f10fcdb16e11348e500fff7038f682461"), looks := true }, kinds := [], alts := [], laidByText := true, laidKinds := [.sentinel, .sentinel, .sentinel, .sentinel], laidTests := true, laidLooks := .later }
def OrdersCountCardSaid : Prop := Claim7.holds Tryd.pinned (.plain (OpenSpec.ofChange ordersCountSpec)) ordersCountCard

/-- THE TIED CARD OF 'onairlaw20.OrdersPrefix'. -/
def ordersPrefixCard : Claim7 := { stood := { row := ordersPrefixRow, standIns := [], harness := (true, "ebf0f8dfe417455e750422443bad851f10fcdb16e11348e500fff7038f682461"), looks := true }, kinds := [], alts := [], laidByText := true, laidKinds := [.sentinel, .sentinel, .sentinel, .sentinel], laidTests := true, laidLooks := .later }
def OrdersPrefixCardSaid : Prop := Claim7.holds Tryd.pinned (.plain (OpenSpec.ofChange ordersPrefixSpec)) ordersPrefixCard

/-- THE TIED CARD OF 'onairlaw20.OrdersRepeats'. -/
def ordersRepeatsCard : Claim7 := { stood := { row := ordersRepeatsRow, standIns := [], harness := (true, "ebf0f8dfe417455e750422443bad851f10fcdb16e11348e500fff7038f682461"), looks := true }, kinds := [], alts := [], laidByText := true, laidKinds := [.sentinel, .sentinel, .sentinel, .sentinel], laidTests := true, laidLooks := .later }
def OrdersRepeatsCardSaid : Prop := Claim7.holds Tryd.pinned (.plain (OpenSpec.ofChange ordersRepeatsSpec)) ordersRepeatsCard

/-- THE TIED CARD OF 'onairlaw20.OrdersRefuses'. -/
def ordersRefusesCard : Claim7 := { stood := { row := ordersRefusesRow, standIns := [], harness := (true, "ebf0f8dfe417455e750422443bad851f10fcdb16e11348e500fff7038f682461"), looks := true }, kinds := [], alts := [], laidByText := true, laidKinds := [.sentinel, .sentinel, .sentinel, .sentinel], laidTests := true, laidLooks := .later }
def OrdersRefusesCardSaid : Prop := Claim7.holds Tryd.pinned (.plain (OpenSpec.ofChange ordersRefusesSpec)) ordersRefusesCard

/-- THE SECOND FORM's CARD OF 'onairlaw20.OrdersRoundTrip'. -/
def ordersRoundTripUptoCard : Claim7 := { stood := { row := ordersRoundTripUptoRow, standIns := [], harness := (true, "ebf0f8dfe417455e750422443bad851f10fcdb16e11348e500fff7038f682461"), looks := true }, kinds := [], alts := [], laidByText := true, laidKinds := [.sentinel, .sentinel, .sentinel, .sentinel], laidTests := true, laidLooks := .later }
def OrdersRoundTripUptoCardSaid : Prop := Claim7.holds Tryd.pinned (.plain (OpenSpec.upto ordersRoundTripSpec)) ordersRoundTripUptoCard

/-- THE SECOND FORM's CARD OF 'onairlaw20.OrdersDecodedAgain'. -/
def ordersDecodedAgainUptoCard : Claim7 := { stood := { row := ordersDecodedAgainUptoRow, standIns := [], harness := (true, "ebf0f8dfe417455e750422443bad851f10fcdb16e11348e500fff7038f682461"), looks := true }, kinds := [], alts := [], laidByText := true, laidKinds := [.sentinel, .sentinel, .sentinel, .sentinel], laidTests := true, laidLooks := .later }
def OrdersDecodedAgainUptoCardSaid : Prop := Claim7.holds Tryd.pinned (.plain (OpenSpec.upto ordersDecodedAgainSpec)) ordersDecodedAgainUptoCard

/-- THE SECOND FORM's CARD OF 'onairlaw20.OrdersCount'. -/
def ordersCountUptoCard : Claim7 := { stood := { row := ordersCountUptoRow, standIns := [], harness := (true, "ebf0f8dfe417455e750422443bad851f10fcdb16e11348e500fff7038f682461"), looks := true }, kinds := [], alts := [], laidByText := true, laidKinds := [.sentinel, .sentinel, .sentinel, .sentinel], laidTests := true, laidLooks := .later }
def OrdersCountUptoCardSaid : Prop := Claim7.holds Tryd.pinned (.plain (OpenSpec.upto ordersCountSpec)) ordersCountUptoCard

/-- THE SECOND FORM's CARD OF 'onairlaw20.OrdersPrefix'. -/
def ordersPrefixUptoCard : Claim7 := { stood := { row := ordersPrefixUptoRow, standIns := [], harness := (true, "ebf0f8dfe417455e750422443bad851f10fcdb16e11348e500fff7038f682461"), looks := true }, kinds := [], alts := [], laidByText := true, laidKinds := [.sentinel, .sentinel, .sentinel, .sentinel], laidTests := true, laidLooks := .later }
def OrdersPrefixUptoCardSaid : Prop := Claim7.holds Tryd.pinned (.plain (OpenSpec.upto ordersPrefixSpec)) ordersPrefixUptoCard

/-- THE SECOND FORM's CARD OF 'onairlaw20.OrdersRepeats'. -/
def ordersRepeatsUptoCard : Claim7 := { stood := { row := ordersRepeatsUptoRow, standIns := [], harness := (true, "ebf0f8dfe417455e750422443bad851f10fcdb16e11348e500fff7038f682461"), looks := true }, kinds := [], alts := [], laidByText := true, laidKinds := [.sentinel, .sentinel, .sentinel, .sentinel], laidTests := true, laidLooks := .later }
def OrdersRepeatsUptoCardSaid : Prop := Claim7.holds Tryd.pinned (.plain (OpenSpec.upto ordersRepeatsSpec)) ordersRepeatsUptoCard

/-- THE SECOND FORM's CARD OF 'onairlaw20.OrdersRefuses'. -/
def ordersRefusesUptoCard : Claim7 := { stood := { row := ordersRefusesUptoRow, standIns := [], harness := (true, "ebf0f8dfe417455e750422443bad851f10fcdb16e11348e500fff7038f682461"), looks := true }, kinds := [], alts := [], laidByText := true, laidKinds := [.sentinel, .sentinel, .sentinel, .sentinel], laidTests := true, laidLooks := .later }
def OrdersRefusesUptoCardSaid : Prop := Claim7.holds Tryd.pinned (.plain (OpenSpec.upto ordersRefusesSpec)) ordersRefusesUptoCard
end Rows
end Go.Proofs.YtjkiidhnmljmbaaDoor
