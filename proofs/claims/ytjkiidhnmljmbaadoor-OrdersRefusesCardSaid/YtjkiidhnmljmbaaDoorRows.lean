/-
  NARROWER THAN 'FOR EVERY INPUT', by the rows' own cells (each row's printed sentence says how): OrdersRoundTrip: laid · OrdersDecodedAgain: laid · OrdersCount: laid · OrdersPrefix: laid · OrdersRepeats: laid · OrdersRefuses: laid.
  DERIVED. THE GIVEN ROWS OF THIS SEAT. 6 by the template 'for every input the law returns true; each argument reads behind the call as it read before'; 0 by the template 'total and deterministic' (their statements: YtjkiidhnmljmbaaDoorTotals.lean).
  GIVEN WITH THE SEED: the statements are not yours to turn. If you find one false, say at which input.
  Laid BY PROGRAM, IN A SANDBOX (cutbox-rows.mjs): the forced cells as the released guide's own fill.sh prints them over the translation 71811dfe5476c727… (all of the seat's roots in one cut). By AI agents, Wed Nov 11 2026. No macro, syntax, notation, axiom, sorry.
-/
import Derived.Test.YtjkiidhnmljmbaaDoorChecked
import GoSem.Claim
import GoSem.ClaimJoined
import GoSem.ClaimMapViews
import Derived.JoinedTies
import Derived.KernelRfl
namespace Go.Proofs.YtjkiidhnmljmbaaDoor
/- THE CELL 'sum', in the pinned program and in every row, IS THE sha256 OF THE DUMP (.gsa) THAT YtjkiidhnmljmbaaDoorProg.lean LOADS. Nothing in Lean hashes anything: it is a label: what it is worth is what the hold of that sum in a sandbox is worth. -/
noncomputable def Tryd.pinned : Pinned := { name := "ytjkiidhnmljmbaadoor", sum := "71811dfe5476c727a85248f1b4c9937f4e319a90da39b6529538c8f4e862d6e1", checked := Tryd.checked }
namespace Rows
def none {H : Type} : Left H := { results := [], args := [] }

/- WHAT THE LISTED PACKAGE-LEVEL VARIABLES READ AS WHEN THE CALL BEGINS. Each datum BY PROGRAM (the guide's laid-datum.mjs) off the statement by which the dump's own 'gosem.cut.vars' lays the variable. In a bare row this is a premise. The card (YtjkiidhnmljmbaaDoorCards.lean) ties it to the program's text. -/
def laid_onair_replan_errWire {H : Type} : DataW H := .iface "*errors.errorString" (.ptr (.agg [.lit (.string [110, 111, 32, 101, 110, 99, 111, 100, 105, 110, 103])]))
def laid_onair_replan_errReplan {H : Type} : DataW H := .iface "*errors.errorString" (.ptr (.agg [.lit (.string [110, 111, 32, 111, 114, 100, 101, 114])]))
def laid_onair_orders_errShort {H : Type} : DataW H := .iface "*errors.errorString" (.ptr (.agg [.lit (.string [110, 111, 32, 101, 110, 99, 111, 100, 105, 110, 103])]))
def laid_onair_orders_errMeaning {H : Type} : DataW H := .iface "*errors.errorString" (.ptr (.agg [.lit (.string [110, 111, 32, 109, 101, 115, 115, 97, 103, 101])]))

/-- 'onairlaw20.OrdersRoundTrip': WHATEVER THE INPUT: true; the input reads as it did. -/
def ordersRoundTripSpec : ChangeSpec := { name := "ordersRoundTrip", fn := fun _ => fun
  | [d1, d2, d3] => { results := [.lit (.bool true)], args := [d1, d2, d3] }
  | _ => none }
def ordersRoundTripRow : OpenClaim := { program := "ytjkiidhnmljmbaadoor", sum := "71811dfe5476c727a85248f1b4c9937f4e319a90da39b6529538c8f4e862d6e1", func := "onair/onairlaw20.OrdersRoundTrip", spec := "ordersRoundTrip", inPlace := ["internal/abi.NoEscape", "internal/reflectlite.TypeOf"], unfollowed := true, recurses := true, named := ["onair/orders.errMeaning", "onair/orders.errShort", "onair/replan.errReplan", "onair/replan.errWire"], apart := false, laid := [("onair/replan.errWire", laid_onair_replan_errWire), ("onair/replan.errReplan", laid_onair_replan_errReplan), ("onair/orders.errShort", laid_onair_orders_errShort), ("onair/orders.errMeaning", laid_onair_orders_errMeaning)] }
def OrdersRoundTripSaid : Prop := ordersRoundTripRow.holds Tryd.pinned (OpenSpec.ofChange ordersRoundTripSpec)

/-- ITS FALSE NEIGHBOUR: 'it returns false'. Refute it at one input. -/
def ordersRoundTripWrong : ChangeSpec := { name := "ordersRoundTrip", fn := fun _ => fun
  | [d1, d2, d3] => { results := [.lit (.bool false)], args := [d1, d2, d3] }
  | _ => none }
def OrdersRoundTripWrongFalsely : Prop := ordersRoundTripRow.holds Tryd.pinned (OpenSpec.ofChange ordersRoundTripWrong)

/-- 'onairlaw20.OrdersDecodedAgain': WHATEVER THE INPUT: true; the input reads as it did. -/
def ordersDecodedAgainSpec : ChangeSpec := { name := "ordersDecodedAgain", fn := fun _ => fun
  | [d] => { results := [.lit (.bool true)], args := [d] }
  | _ => none }
def ordersDecodedAgainRow : OpenClaim := { program := "ytjkiidhnmljmbaadoor", sum := "71811dfe5476c727a85248f1b4c9937f4e319a90da39b6529538c8f4e862d6e1", func := "onair/onairlaw20.OrdersDecodedAgain", spec := "ordersDecodedAgain", inPlace := ["internal/abi.NoEscape", "internal/reflectlite.TypeOf"], unfollowed := true, recurses := true, named := ["onair/orders.errMeaning", "onair/orders.errShort", "onair/replan.errReplan", "onair/replan.errWire"], apart := false, laid := [("onair/replan.errWire", laid_onair_replan_errWire), ("onair/replan.errReplan", laid_onair_replan_errReplan), ("onair/orders.errShort", laid_onair_orders_errShort), ("onair/orders.errMeaning", laid_onair_orders_errMeaning)] }
def OrdersDecodedAgainSaid : Prop := ordersDecodedAgainRow.holds Tryd.pinned (OpenSpec.ofChange ordersDecodedAgainSpec)

/-- ITS FALSE NEIGHBOUR: 'it returns false'. Refute it at one input. -/
def ordersDecodedAgainWrong : ChangeSpec := { name := "ordersDecodedAgain", fn := fun _ => fun
  | [d] => { results := [.lit (.bool false)], args := [d] }
  | _ => none }
def OrdersDecodedAgainWrongFalsely : Prop := ordersDecodedAgainRow.holds Tryd.pinned (OpenSpec.ofChange ordersDecodedAgainWrong)

/-- 'onairlaw20.OrdersCount': WHATEVER THE INPUT: true; the input reads as it did. -/
def ordersCountSpec : ChangeSpec := { name := "ordersCount", fn := fun _ => fun
  | [d1, d2, d3] => { results := [.lit (.bool true)], args := [d1, d2, d3] }
  | _ => none }
def ordersCountRow : OpenClaim := { program := "ytjkiidhnmljmbaadoor", sum := "71811dfe5476c727a85248f1b4c9937f4e319a90da39b6529538c8f4e862d6e1", func := "onair/onairlaw20.OrdersCount", spec := "ordersCount", inPlace := ["internal/abi.NoEscape", "internal/reflectlite.TypeOf"], unfollowed := true, recurses := true, named := ["onair/orders.errMeaning", "onair/orders.errShort", "onair/replan.errReplan", "onair/replan.errWire"], apart := false, laid := [("onair/replan.errWire", laid_onair_replan_errWire), ("onair/replan.errReplan", laid_onair_replan_errReplan), ("onair/orders.errShort", laid_onair_orders_errShort), ("onair/orders.errMeaning", laid_onair_orders_errMeaning)] }
def OrdersCountSaid : Prop := ordersCountRow.holds Tryd.pinned (OpenSpec.ofChange ordersCountSpec)

/-- ITS FALSE NEIGHBOUR: 'it returns false'. Refute it at one input. -/
def ordersCountWrong : ChangeSpec := { name := "ordersCount", fn := fun _ => fun
  | [d1, d2, d3] => { results := [.lit (.bool false)], args := [d1, d2, d3] }
  | _ => none }
def OrdersCountWrongFalsely : Prop := ordersCountRow.holds Tryd.pinned (OpenSpec.ofChange ordersCountWrong)

/-- 'onairlaw20.OrdersPrefix': WHATEVER THE INPUT: true; the input reads as it did. -/
def ordersPrefixSpec : ChangeSpec := { name := "ordersPrefix", fn := fun _ => fun
  | [d1, d2] => { results := [.lit (.bool true)], args := [d1, d2] }
  | _ => none }
def ordersPrefixRow : OpenClaim := { program := "ytjkiidhnmljmbaadoor", sum := "71811dfe5476c727a85248f1b4c9937f4e319a90da39b6529538c8f4e862d6e1", func := "onair/onairlaw20.OrdersPrefix", spec := "ordersPrefix", inPlace := ["internal/abi.NoEscape", "internal/reflectlite.TypeOf"], unfollowed := true, recurses := true, named := ["onair/orders.errMeaning", "onair/orders.errShort", "onair/replan.errReplan", "onair/replan.errWire"], apart := false, laid := [("onair/replan.errWire", laid_onair_replan_errWire), ("onair/replan.errReplan", laid_onair_replan_errReplan), ("onair/orders.errShort", laid_onair_orders_errShort), ("onair/orders.errMeaning", laid_onair_orders_errMeaning)] }
def OrdersPrefixSaid : Prop := ordersPrefixRow.holds Tryd.pinned (OpenSpec.ofChange ordersPrefixSpec)

/-- ITS FALSE NEIGHBOUR: 'it returns false'. Refute it at one input. -/
def ordersPrefixWrong : ChangeSpec := { name := "ordersPrefix", fn := fun _ => fun
  | [d1, d2] => { results := [.lit (.bool false)], args := [d1, d2] }
  | _ => none }
def OrdersPrefixWrongFalsely : Prop := ordersPrefixRow.holds Tryd.pinned (OpenSpec.ofChange ordersPrefixWrong)

/-- 'onairlaw20.OrdersRepeats': WHATEVER THE INPUT: true; the input reads as it did. -/
def ordersRepeatsSpec : ChangeSpec := { name := "ordersRepeats", fn := fun _ => fun
  | [d1, d2] => { results := [.lit (.bool true)], args := [d1, d2] }
  | _ => none }
def ordersRepeatsRow : OpenClaim := { program := "ytjkiidhnmljmbaadoor", sum := "71811dfe5476c727a85248f1b4c9937f4e319a90da39b6529538c8f4e862d6e1", func := "onair/onairlaw20.OrdersRepeats", spec := "ordersRepeats", inPlace := ["internal/abi.NoEscape", "internal/reflectlite.TypeOf"], unfollowed := true, recurses := true, named := ["onair/orders.errMeaning", "onair/orders.errShort", "onair/replan.errReplan", "onair/replan.errWire"], apart := false, laid := [("onair/replan.errWire", laid_onair_replan_errWire), ("onair/replan.errReplan", laid_onair_replan_errReplan), ("onair/orders.errShort", laid_onair_orders_errShort), ("onair/orders.errMeaning", laid_onair_orders_errMeaning)] }
def OrdersRepeatsSaid : Prop := ordersRepeatsRow.holds Tryd.pinned (OpenSpec.ofChange ordersRepeatsSpec)

/-- ITS FALSE NEIGHBOUR: 'it returns false'. Refute it at one input. -/
def ordersRepeatsWrong : ChangeSpec := { name := "ordersRepeats", fn := fun _ => fun
  | [d1, d2] => { results := [.lit (.bool false)], args := [d1, d2] }
  | _ => none }
def OrdersRepeatsWrongFalsely : Prop := ordersRepeatsRow.holds Tryd.pinned (OpenSpec.ofChange ordersRepeatsWrong)

/-- 'onairlaw20.OrdersRefuses': WHATEVER THE INPUT: true; the input reads as it did. -/
def ordersRefusesSpec : ChangeSpec := { name := "ordersRefuses", fn := fun _ => fun
  | [d1, d2, d3] => { results := [.lit (.bool true)], args := [d1, d2, d3] }
  | _ => none }
def ordersRefusesRow : OpenClaim := { program := "ytjkiidhnmljmbaadoor", sum := "71811dfe5476c727a85248f1b4c9937f4e319a90da39b6529538c8f4e862d6e1", func := "onair/onairlaw20.OrdersRefuses", spec := "ordersRefuses", inPlace := ["internal/abi.NoEscape", "internal/reflectlite.TypeOf"], unfollowed := true, recurses := true, named := ["onair/orders.errMeaning", "onair/orders.errShort", "onair/replan.errReplan", "onair/replan.errWire"], apart := false, laid := [("onair/replan.errWire", laid_onair_replan_errWire), ("onair/replan.errReplan", laid_onair_replan_errReplan), ("onair/orders.errShort", laid_onair_orders_errShort), ("onair/orders.errMeaning", laid_onair_orders_errMeaning)] }
def OrdersRefusesSaid : Prop := ordersRefusesRow.holds Tryd.pinned (OpenSpec.ofChange ordersRefusesSpec)

/-- ITS FALSE NEIGHBOUR: 'it returns false'. Refute it at one input. -/
def ordersRefusesWrong : ChangeSpec := { name := "ordersRefuses", fn := fun _ => fun
  | [d1, d2, d3] => { results := [.lit (.bool false)], args := [d1, d2, d3] }
  | _ => none }
def OrdersRefusesWrongFalsely : Prop := ordersRefusesRow.holds Tryd.pinned (OpenSpec.ofChange ordersRefusesWrong)

/- THE SECOND FORM. 'bulk': how many values and letters a reading holds, each counted each time it is reached (what is shared counts as often as it is met; a slice's spare places count too). A statement '..UptoSaid' is the law's where the arguments, and the package variables that the reading takes, are together of bulk at most 1048576: NARROWER than '..Said'. Prove '..Said' where nothing that the law and all that it calls make is longer than what came in: it says more and counts as full. Else prove '..UptoSaid'. A law counts once. -/
mutual
def uptoBulk {H : Type} : DataW H → Nat
  | .lit (.string bytes) => bytes.length + 1
  | .lit _ => 1
  | .nil => 1
  | .ptr d => uptoBulk d + 1
  | .slice elems spare => uptoBulkAll elems + uptoBulkAll spare + 1
  | .agg parts => uptoBulkAll parts + 1
  | .iface _ d => uptoBulk d + 1
  | .map entries => uptoBulkEntries entries + 1
  | .held _ => 1
def uptoBulkAll {H : Type} : List (DataW H) → Nat
  | [] => 0
  | d :: r => uptoBulk d + uptoBulkAll r
def uptoBulkEntries {H : Type} : List (Lit × DataW H) → Nat
  | [] => 0
  | x :: r => uptoBulkEntry x + uptoBulkEntries r
def uptoBulkEntry {H : Type} : Lit × DataW H → Nat
  | (.string bytes, d) => bytes.length + uptoBulk d + 1
  | (_, d) => uptoBulk d + 1
 end
def uptoSmall : (H : Type) → List (DataW H) → Bool := fun _ ds => decide (uptoBulkAll ds ≤ 1048576)
def OpenSpec.upto (s : _root_.Go.ChangeSpec) : _root_.Go.OpenSpec := { _root_.Go.OpenSpec.ofChange s with cond := some uptoSmall }

/-- 'onairlaw20.OrdersRoundTrip', WHERE WHAT IT READS IS OF BULK AT MOST 1048576: true; the input reads as it did. -/
def ordersRoundTripUptoRow : OpenClaim := { program := "ytjkiidhnmljmbaadoor", sum := "71811dfe5476c727a85248f1b4c9937f4e319a90da39b6529538c8f4e862d6e1", func := "onair/onairlaw20.OrdersRoundTrip", spec := "ordersRoundTrip", inPlace := ["internal/abi.NoEscape", "internal/reflectlite.TypeOf"], unfollowed := true, recurses := true, named := ["onair/orders.errMeaning", "onair/orders.errShort", "onair/replan.errReplan", "onair/replan.errWire"], apart := false, laid := [("onair/replan.errWire", laid_onair_replan_errWire), ("onair/replan.errReplan", laid_onair_replan_errReplan), ("onair/orders.errShort", laid_onair_orders_errShort), ("onair/orders.errMeaning", laid_onair_orders_errMeaning)], narrowed := true }
def OrdersRoundTripUptoSaid : Prop := ordersRoundTripUptoRow.holds Tryd.pinned (OpenSpec.upto ordersRoundTripSpec)

/-- 'onairlaw20.OrdersDecodedAgain', WHERE WHAT IT READS IS OF BULK AT MOST 1048576: true; the input reads as it did. -/
def ordersDecodedAgainUptoRow : OpenClaim := { program := "ytjkiidhnmljmbaadoor", sum := "71811dfe5476c727a85248f1b4c9937f4e319a90da39b6529538c8f4e862d6e1", func := "onair/onairlaw20.OrdersDecodedAgain", spec := "ordersDecodedAgain", inPlace := ["internal/abi.NoEscape", "internal/reflectlite.TypeOf"], unfollowed := true, recurses := true, named := ["onair/orders.errMeaning", "onair/orders.errShort", "onair/replan.errReplan", "onair/replan.errWire"], apart := false, laid := [("onair/replan.errWire", laid_onair_replan_errWire), ("onair/replan.errReplan", laid_onair_replan_errReplan), ("onair/orders.errShort", laid_onair_orders_errShort), ("onair/orders.errMeaning", laid_onair_orders_errMeaning)], narrowed := true }
def OrdersDecodedAgainUptoSaid : Prop := ordersDecodedAgainUptoRow.holds Tryd.pinned (OpenSpec.upto ordersDecodedAgainSpec)

/-- 'onairlaw20.OrdersCount', WHERE WHAT IT READS IS OF BULK AT MOST 1048576: true; the input reads as it did. -/
def ordersCountUptoRow : OpenClaim := { program := "ytjkiidhnmljmbaadoor", sum := "71811dfe5476c727a85248f1b4c9937f4e319a90da39b6529538c8f4e862d6e1", func := "onair/onairlaw20.OrdersCount", spec := "ordersCount", inPlace := ["internal/abi.NoEscape", "internal/reflectlite.TypeOf"], unfollowed := true, recurses := true, named := ["onair/orders.errMeaning", "onair/orders.errShort", "onair/replan.errReplan", "onair/replan.errWire"], apart := false, laid := [("onair/replan.errWire", laid_onair_replan_errWire), ("onair/replan.errReplan", laid_onair_replan_errReplan), ("onair/orders.errShort", laid_onair_orders_errShort), ("onair/orders.errMeaning", laid_onair_orders_errMeaning)], narrowed := true }
def OrdersCountUptoSaid : Prop := ordersCountUptoRow.holds Tryd.pinned (OpenSpec.upto ordersCountSpec)

/-- 'onairlaw20.OrdersPrefix', WHERE WHAT IT READS IS OF BULK AT MOST 1048576: true; the input reads as it did. -/
def ordersPrefixUptoRow : OpenClaim := { program := "ytjkiidhnmljmbaadoor", sum := "71811dfe5476c727a85248f1b4c9937f4e319a90da39b6529538c8f4e862d6e1", func := "onair/onairlaw20.OrdersPrefix", spec := "ordersPrefix", inPlace := ["internal/abi.NoEscape", "internal/reflectlite.TypeOf"], unfollowed := true, recurses := true, named := ["onair/orders.errMeaning", "onair/orders.errShort", "onair/replan.errReplan", "onair/replan.errWire"], apart := false, laid := [("onair/replan.errWire", laid_onair_replan_errWire), ("onair/replan.errReplan", laid_onair_replan_errReplan), ("onair/orders.errShort", laid_onair_orders_errShort), ("onair/orders.errMeaning", laid_onair_orders_errMeaning)], narrowed := true }
def OrdersPrefixUptoSaid : Prop := ordersPrefixUptoRow.holds Tryd.pinned (OpenSpec.upto ordersPrefixSpec)

/-- 'onairlaw20.OrdersRepeats', WHERE WHAT IT READS IS OF BULK AT MOST 1048576: true; the input reads as it did. -/
def ordersRepeatsUptoRow : OpenClaim := { program := "ytjkiidhnmljmbaadoor", sum := "71811dfe5476c727a85248f1b4c9937f4e319a90da39b6529538c8f4e862d6e1", func := "onair/onairlaw20.OrdersRepeats", spec := "ordersRepeats", inPlace := ["internal/abi.NoEscape", "internal/reflectlite.TypeOf"], unfollowed := true, recurses := true, named := ["onair/orders.errMeaning", "onair/orders.errShort", "onair/replan.errReplan", "onair/replan.errWire"], apart := false, laid := [("onair/replan.errWire", laid_onair_replan_errWire), ("onair/replan.errReplan", laid_onair_replan_errReplan), ("onair/orders.errShort", laid_onair_orders_errShort), ("onair/orders.errMeaning", laid_onair_orders_errMeaning)], narrowed := true }
def OrdersRepeatsUptoSaid : Prop := ordersRepeatsUptoRow.holds Tryd.pinned (OpenSpec.upto ordersRepeatsSpec)

/-- 'onairlaw20.OrdersRefuses', WHERE WHAT IT READS IS OF BULK AT MOST 1048576: true; the input reads as it did. -/
def ordersRefusesUptoRow : OpenClaim := { program := "ytjkiidhnmljmbaadoor", sum := "71811dfe5476c727a85248f1b4c9937f4e319a90da39b6529538c8f4e862d6e1", func := "onair/onairlaw20.OrdersRefuses", spec := "ordersRefuses", inPlace := ["internal/abi.NoEscape", "internal/reflectlite.TypeOf"], unfollowed := true, recurses := true, named := ["onair/orders.errMeaning", "onair/orders.errShort", "onair/replan.errReplan", "onair/replan.errWire"], apart := false, laid := [("onair/replan.errWire", laid_onair_replan_errWire), ("onair/replan.errReplan", laid_onair_replan_errReplan), ("onair/orders.errShort", laid_onair_orders_errShort), ("onair/orders.errMeaning", laid_onair_orders_errMeaning)], narrowed := true }
def OrdersRefusesUptoSaid : Prop := ordersRefusesUptoRow.holds Tryd.pinned (OpenSpec.upto ordersRefusesSpec)

end Rows
end Go.Proofs.YtjkiidhnmljmbaaDoor
