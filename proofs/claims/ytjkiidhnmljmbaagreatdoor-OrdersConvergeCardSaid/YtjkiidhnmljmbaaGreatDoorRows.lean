/-
  NARROWER THAN 'FOR EVERY INPUT', by the rows' own cells (each row's printed sentence says how): OrdersCodeMatchesReference: laid · OrdersLineMatchesReference: laid · OrdersConverge: laid.
  DERIVED. THE GIVEN ROWS OF THIS SEAT. 3 by the template 'for every input the law returns true; each argument reads behind the call as it read before'; 0 by the template 'total and deterministic' (their statements: YtjkiidhnmljmbaaGreatDoorTotals.lean).
  GIVEN WITH THE SEED: the statements are not yours to turn. If you find one false, say at which input.
  Laid BY PROGRAM, IN A SANDBOX (cutbox-rows.mjs): the forced cells as the released guide's own fill.sh prints them over the translation 30be1ffa8eda3e57… (all of the seat's roots in one cut). By AI agents, Wed Nov 11 2026. No macro, syntax, notation, axiom, sorry.
-/
import Derived.Test.YtjkiidhnmljmbaaGreatDoorChecked
import GoSem.Claim
import GoSem.ClaimJoined
import GoSem.ClaimMapViews
import Derived.JoinedTies
import Derived.KernelRfl
namespace Go.Proofs.YtjkiidhnmljmbaaGreatDoor
/- THE CELL 'sum', in the pinned program and in every row, IS THE sha256 OF THE DUMP (.gsa) THAT YtjkiidhnmljmbaaGreatDoorProg.lean LOADS. Nothing in Lean hashes anything: it is a label: what it is worth is what the hold of that sum in a sandbox is worth. -/
noncomputable def Tryz.pinned : Pinned := { name := "ytjkiidhnmljmbaagreatdoor", sum := "30be1ffa8eda3e576dd4c7d46c9aef93d7441f07e5e6cb63e14d06080e698500", checked := Tryz.checked }
namespace Rows
def none {H : Type} : Left H := { results := [], args := [] }

/- WHAT THE LISTED PACKAGE-LEVEL VARIABLES READ AS WHEN THE CALL BEGINS. Each datum BY PROGRAM (the guide's laid-datum.mjs) off the statement by which the dump's own 'gosem.cut.vars' lays the variable. In a bare row this is a premise. The card (YtjkiidhnmljmbaaGreatDoorCards.lean) ties it to the program's text. -/
def laid_onair_replan_errWire {H : Type} : DataW H := .iface "*errors.errorString" (.ptr (.agg [.lit (.string [110, 111, 32, 101, 110, 99, 111, 100, 105, 110, 103])]))
def laid_onair_replan_errReplan {H : Type} : DataW H := .iface "*errors.errorString" (.ptr (.agg [.lit (.string [110, 111, 32, 111, 114, 100, 101, 114])]))
def laid_onair_orders_errShort {H : Type} : DataW H := .iface "*errors.errorString" (.ptr (.agg [.lit (.string [110, 111, 32, 101, 110, 99, 111, 100, 105, 110, 103])]))
def laid_onair_orders_errMeaning {H : Type} : DataW H := .iface "*errors.errorString" (.ptr (.agg [.lit (.string [110, 111, 32, 109, 101, 115, 115, 97, 103, 101])]))

/-- 'onairlaw20.OrdersCodeMatchesReference': WHATEVER THE INPUT: true; the input reads as it did. -/
def ordersCodeMatchesReferenceSpec : ChangeSpec := { name := "ordersCodeMatchesReference", fn := fun _ => fun
  | [d1, d2] => { results := [.lit (.bool true)], args := [d1, d2] }
  | _ => none }
def ordersCodeMatchesReferenceRow : OpenClaim := { program := "ytjkiidhnmljmbaagreatdoor", sum := "30be1ffa8eda3e576dd4c7d46c9aef93d7441f07e5e6cb63e14d06080e698500", func := "onair/onairlaw20.OrdersCodeMatchesReference", spec := "ordersCodeMatchesReference", inPlace := ["internal/abi.NoEscape", "internal/reflectlite.TypeOf"], unfollowed := true, recurses := true, named := ["onair/orders.errMeaning", "onair/orders.errShort", "onair/replan.errReplan", "onair/replan.errWire"], apart := false, laid := [("onair/replan.errWire", laid_onair_replan_errWire), ("onair/replan.errReplan", laid_onair_replan_errReplan), ("onair/orders.errShort", laid_onair_orders_errShort), ("onair/orders.errMeaning", laid_onair_orders_errMeaning)] }
def OrdersCodeMatchesReferenceSaid : Prop := ordersCodeMatchesReferenceRow.holds Tryz.pinned (OpenSpec.ofChange ordersCodeMatchesReferenceSpec)

/-- ITS FALSE NEIGHBOUR: 'it returns false'. Refute it at one input. -/
def ordersCodeMatchesReferenceWrong : ChangeSpec := { name := "ordersCodeMatchesReference", fn := fun _ => fun
  | [d1, d2] => { results := [.lit (.bool false)], args := [d1, d2] }
  | _ => none }
def OrdersCodeMatchesReferenceWrongFalsely : Prop := ordersCodeMatchesReferenceRow.holds Tryz.pinned (OpenSpec.ofChange ordersCodeMatchesReferenceWrong)

/-- 'onairlaw20.OrdersLineMatchesReference': WHATEVER THE INPUT: true; the input reads as it did. -/
def ordersLineMatchesReferenceSpec : ChangeSpec := { name := "ordersLineMatchesReference", fn := fun _ => fun
  | [d1, d2] => { results := [.lit (.bool true)], args := [d1, d2] }
  | _ => none }
def ordersLineMatchesReferenceRow : OpenClaim := { program := "ytjkiidhnmljmbaagreatdoor", sum := "30be1ffa8eda3e576dd4c7d46c9aef93d7441f07e5e6cb63e14d06080e698500", func := "onair/onairlaw20.OrdersLineMatchesReference", spec := "ordersLineMatchesReference", inPlace := ["internal/abi.NoEscape", "internal/reflectlite.TypeOf"], unfollowed := true, recurses := true, named := ["onair/orders.errMeaning", "onair/orders.errShort", "onair/replan.errReplan", "onair/replan.errWire"], apart := false, laid := [("onair/replan.errWire", laid_onair_replan_errWire), ("onair/replan.errReplan", laid_onair_replan_errReplan), ("onair/orders.errShort", laid_onair_orders_errShort), ("onair/orders.errMeaning", laid_onair_orders_errMeaning)] }
def OrdersLineMatchesReferenceSaid : Prop := ordersLineMatchesReferenceRow.holds Tryz.pinned (OpenSpec.ofChange ordersLineMatchesReferenceSpec)

/-- ITS FALSE NEIGHBOUR: 'it returns false'. Refute it at one input. -/
def ordersLineMatchesReferenceWrong : ChangeSpec := { name := "ordersLineMatchesReference", fn := fun _ => fun
  | [d1, d2] => { results := [.lit (.bool false)], args := [d1, d2] }
  | _ => none }
def OrdersLineMatchesReferenceWrongFalsely : Prop := ordersLineMatchesReferenceRow.holds Tryz.pinned (OpenSpec.ofChange ordersLineMatchesReferenceWrong)

/-- 'onairlaw20.OrdersConverge': WHATEVER THE INPUT: true; the input reads as it did. -/
def ordersConvergeSpec : ChangeSpec := { name := "ordersConverge", fn := fun _ => fun
  | [d1, d2] => { results := [.lit (.bool true)], args := [d1, d2] }
  | _ => none }
def ordersConvergeRow : OpenClaim := { program := "ytjkiidhnmljmbaagreatdoor", sum := "30be1ffa8eda3e576dd4c7d46c9aef93d7441f07e5e6cb63e14d06080e698500", func := "onair/onairlaw20.OrdersConverge", spec := "ordersConverge", inPlace := ["internal/abi.NoEscape", "internal/reflectlite.TypeOf"], unfollowed := true, recurses := true, named := ["onair/orders.errMeaning", "onair/orders.errShort", "onair/replan.errReplan", "onair/replan.errWire"], apart := false, laid := [("onair/replan.errWire", laid_onair_replan_errWire), ("onair/replan.errReplan", laid_onair_replan_errReplan), ("onair/orders.errShort", laid_onair_orders_errShort), ("onair/orders.errMeaning", laid_onair_orders_errMeaning)] }
def OrdersConvergeSaid : Prop := ordersConvergeRow.holds Tryz.pinned (OpenSpec.ofChange ordersConvergeSpec)

/-- ITS FALSE NEIGHBOUR: 'it returns false'. Refute it at one input. -/
def ordersConvergeWrong : ChangeSpec := { name := "ordersConverge", fn := fun _ => fun
  | [d1, d2] => { results := [.lit (.bool false)], args := [d1, d2] }
  | _ => none }
def OrdersConvergeWrongFalsely : Prop := ordersConvergeRow.holds Tryz.pinned (OpenSpec.ofChange ordersConvergeWrong)

/- THE SECOND FORM. 'bulk': how many values and letters a reading holds, each counted each time it is reached (what is shared counts as often as it is met; a slice's spare places count too). A statement '..UptoSaid' is the law's where the arguments, and the package variables that the reading takes, are together of bulk at most 1048576: NARROWER than '..Said'. Prove '..Said' where nothing that the law and all that it calls make is longer than what came in: it says more and counts as full. Else prove '..UptoSaid'. A law counts once. -/
mutual
def uptoBulk {H : Type} : DataW H → Nat
  | .lit (.string bytes) => bytes.length + 1
  | .lit _ => 1
  | .nil => 1
  | .ptr d => uptoBulk d + 1
  | .slice elems spare => uptoBulkAll elems + uptoBulkAll spare + 1
  | .agg parts => uptoBulkAll parts + 1
  | .iface _ d => uptoBulk d + 1
  | .map entries => uptoBulkEntries entries + 1
  | .held _ => 1
def uptoBulkAll {H : Type} : List (DataW H) → Nat
  | [] => 0
  | d :: r => uptoBulk d + uptoBulkAll r
def uptoBulkEntries {H : Type} : List (Lit × DataW H) → Nat
  | [] => 0
  | x :: r => uptoBulkEntry x + uptoBulkEntries r
def uptoBulkEntry {H : Type} : Lit × DataW H → Nat
  | (.string bytes, d) => bytes.length + uptoBulk d + 1
  | (_, d) => uptoBulk d + 1
 end
def uptoSmall : (H : Type) → List (DataW H) → Bool := fun _ ds => decide (uptoBulkAll ds ≤ 1048576)
def OpenSpec.upto (s : _root_.Go.ChangeSpec) : _root_.Go.OpenSpec := { _root_.Go.OpenSpec.ofChange s with cond := some uptoSmall }

/-- 'onairlaw20.OrdersCodeMatchesReference', WHERE WHAT IT READS IS OF BULK AT MOST 1048576: true; the input reads as it did. -/
def ordersCodeMatchesReferenceUptoRow : OpenClaim := { program := "ytjkiidhnmljmbaagreatdoor", sum := "30be1ffa8eda3e576dd4c7d46c9aef93d7441f07e5e6cb63e14d06080e698500", func := "onair/onairlaw20.OrdersCodeMatchesReference", spec := "ordersCodeMatchesReference", inPlace := ["internal/abi.NoEscape", "internal/reflectlite.TypeOf"], unfollowed := true, recurses := true, named := ["onair/orders.errMeaning", "onair/orders.errShort", "onair/replan.errReplan", "onair/replan.errWire"], apart := false, laid := [("onair/replan.errWire", laid_onair_replan_errWire), ("onair/replan.errReplan", laid_onair_replan_errReplan), ("onair/orders.errShort", laid_onair_orders_errShort), ("onair/orders.errMeaning", laid_onair_orders_errMeaning)], narrowed := true }
def OrdersCodeMatchesReferenceUptoSaid : Prop := ordersCodeMatchesReferenceUptoRow.holds Tryz.pinned (OpenSpec.upto ordersCodeMatchesReferenceSpec)

/-- 'onairlaw20.OrdersLineMatchesReference', WHERE WHAT IT READS IS OF BULK AT MOST 1048576: true; the input reads as it did. -/
def ordersLineMatchesReferenceUptoRow : OpenClaim := { program := "ytjkiidhnmljmbaagreatdoor", sum := "30be1ffa8eda3e576dd4c7d46c9aef93d7441f07e5e6cb63e14d06080e698500", func := "onair/onairlaw20.OrdersLineMatchesReference", spec := "ordersLineMatchesReference", inPlace := ["internal/abi.NoEscape", "internal/reflectlite.TypeOf"], unfollowed := true, recurses := true, named := ["onair/orders.errMeaning", "onair/orders.errShort", "onair/replan.errReplan", "onair/replan.errWire"], apart := false, laid := [("onair/replan.errWire", laid_onair_replan_errWire), ("onair/replan.errReplan", laid_onair_replan_errReplan), ("onair/orders.errShort", laid_onair_orders_errShort), ("onair/orders.errMeaning", laid_onair_orders_errMeaning)], narrowed := true }
def OrdersLineMatchesReferenceUptoSaid : Prop := ordersLineMatchesReferenceUptoRow.holds Tryz.pinned (OpenSpec.upto ordersLineMatchesReferenceSpec)

/-- 'onairlaw20.OrdersConverge', WHERE WHAT IT READS IS OF BULK AT MOST 1048576: true; the input reads as it did. -/
def ordersConvergeUptoRow : OpenClaim := { program := "ytjkiidhnmljmbaagreatdoor", sum := "30be1ffa8eda3e576dd4c7d46c9aef93d7441f07e5e6cb63e14d06080e698500", func := "onair/onairlaw20.OrdersConverge", spec := "ordersConverge", inPlace := ["internal/abi.NoEscape", "internal/reflectlite.TypeOf"], unfollowed := true, recurses := true, named := ["onair/orders.errMeaning", "onair/orders.errShort", "onair/replan.errReplan", "onair/replan.errWire"], apart := false, laid := [("onair/replan.errWire", laid_onair_replan_errWire), ("onair/replan.errReplan", laid_onair_replan_errReplan), ("onair/orders.errShort", laid_onair_orders_errShort), ("onair/orders.errMeaning", laid_onair_orders_errMeaning)], narrowed := true }
def OrdersConvergeUptoSaid : Prop := ordersConvergeUptoRow.holds Tryz.pinned (OpenSpec.upto ordersConvergeSpec)

end Rows
end Go.Proofs.YtjkiidhnmljmbaaGreatDoor
