/-
  No cell of these rows narrows 'for every input' (looked for: loops, veiled, ifaces, maps, wideKeys, modest, calm, conditions, laid).
  DERIVED. THE GIVEN ROWS OF THIS SEAT. 8 by the template 'for every input the law returns true; each argument reads behind the call as it read before'; 0 by the template 'total and deterministic' (their statements: YtjmfhdnckgelaaaTotals.lean).
  GIVEN WITH THE SEED: the statements are not yours to turn. If you find one false, say at which input.
  Laid BY PROGRAM, IN A SANDBOX (cutbox-rows.mjs): the forced cells as the released guide's own fill.sh prints them over the translation 8a8188d1538a6bc9… (all of the seat's roots in one cut). By AI agents, Wed Nov 11 2026. No macro, syntax, notation, axiom, sorry.
-/
import Derived.Test.YtjmfhdnckgelaaaChecked
import GoSem.Claim
import GoSem.ClaimJoined
import GoSem.ClaimMapViews
import Derived.JoinedTies
import Derived.KernelRfl
namespace Go.Proofs.Ytjmfhdnckgelaaa
/- THE CELL 'sum', in the pinned program and in every row, IS THE sha256 OF THE DUMP (.gsa) THAT YtjmfhdnckgelaaaProg.lean LOADS. Nothing in Lean hashes anything: it is a label: what it is worth is what the hold of that sum in a sandbox is worth. -/
noncomputable def Try.pinned : Pinned := { name := "ytjmfhdnckgelaaa", sum := "8a8188d1538a6bc9440d35ab7bd5fdab5990b8f474eae1bbfbc9ab5cf28b458d", checked := Try.checked }
namespace Rows
def none {H : Type} : Left H := { results := [], args := [] }

/-- 'onairlaw11.CaptionMatchesReference': WHATEVER THE INPUT: true; the input reads as it did. -/
def captionMatchesReferenceSpec : ChangeSpec := { name := "captionMatchesReference", fn := fun _ => fun
  | [d1, d2, d3, d4] => { results := [.lit (.bool true)], args := [d1, d2, d3, d4] }
  | _ => none }
def captionMatchesReferenceRow : OpenClaim := { program := "ytjmfhdnckgelaaa", sum := "8a8188d1538a6bc9440d35ab7bd5fdab5990b8f474eae1bbfbc9ab5cf28b458d", func := "onair/onairlaw11.CaptionMatchesReference", spec := "captionMatchesReference", unfollowed := true, recurses := true, apart := false }
def CaptionMatchesReferenceSaid : Prop := captionMatchesReferenceRow.holds Try.pinned (OpenSpec.ofChange captionMatchesReferenceSpec)

/-- ITS FALSE NEIGHBOUR: 'it returns false'. Refute it at one input. -/
def captionMatchesReferenceWrong : ChangeSpec := { name := "captionMatchesReference", fn := fun _ => fun
  | [d1, d2, d3, d4] => { results := [.lit (.bool false)], args := [d1, d2, d3, d4] }
  | _ => none }
def CaptionMatchesReferenceWrongFalsely : Prop := captionMatchesReferenceRow.holds Try.pinned (OpenSpec.ofChange captionMatchesReferenceWrong)

/-- 'onairlaw11.CaptionEditMatchesReference': WHATEVER THE INPUT: true; the input reads as it did. -/
def captionEditMatchesReferenceSpec : ChangeSpec := { name := "captionEditMatchesReference", fn := fun _ => fun
  | [d1, d2] => { results := [.lit (.bool true)], args := [d1, d2] }
  | _ => none }
def captionEditMatchesReferenceRow : OpenClaim := { program := "ytjmfhdnckgelaaa", sum := "8a8188d1538a6bc9440d35ab7bd5fdab5990b8f474eae1bbfbc9ab5cf28b458d", func := "onair/onairlaw11.CaptionEditMatchesReference", spec := "captionEditMatchesReference", unfollowed := true, recurses := true, apart := false }
def CaptionEditMatchesReferenceSaid : Prop := captionEditMatchesReferenceRow.holds Try.pinned (OpenSpec.ofChange captionEditMatchesReferenceSpec)

/-- ITS FALSE NEIGHBOUR: 'it returns false'. Refute it at one input. -/
def captionEditMatchesReferenceWrong : ChangeSpec := { name := "captionEditMatchesReference", fn := fun _ => fun
  | [d1, d2] => { results := [.lit (.bool false)], args := [d1, d2] }
  | _ => none }
def CaptionEditMatchesReferenceWrongFalsely : Prop := captionEditMatchesReferenceRow.holds Try.pinned (OpenSpec.ofChange captionEditMatchesReferenceWrong)

/-- 'onairlaw11.CaptionRows': WHATEVER THE INPUT: true; the input reads as it did. -/
def captionRowsSpec : ChangeSpec := { name := "captionRows", fn := fun _ => fun
  | [d] => { results := [.lit (.bool true)], args := [d] }
  | _ => none }
def captionRowsRow : OpenClaim := { program := "ytjmfhdnckgelaaa", sum := "8a8188d1538a6bc9440d35ab7bd5fdab5990b8f474eae1bbfbc9ab5cf28b458d", func := "onair/onairlaw11.CaptionRows", spec := "captionRows", unfollowed := true, recurses := true, apart := false }
def CaptionRowsSaid : Prop := captionRowsRow.holds Try.pinned (OpenSpec.ofChange captionRowsSpec)

/-- ITS FALSE NEIGHBOUR: 'it returns false'. Refute it at one input. -/
def captionRowsWrong : ChangeSpec := { name := "captionRows", fn := fun _ => fun
  | [d] => { results := [.lit (.bool false)], args := [d] }
  | _ => none }
def CaptionRowsWrongFalsely : Prop := captionRowsRow.holds Try.pinned (OpenSpec.ofChange captionRowsWrong)

/-- 'onairlaw11.CaptionFits': WHATEVER THE INPUT: true; the input reads as it did. -/
def captionFitsSpec : ChangeSpec := { name := "captionFits", fn := fun _ => fun
  | [d1, d2, d3] => { results := [.lit (.bool true)], args := [d1, d2, d3] }
  | _ => none }
def captionFitsRow : OpenClaim := { program := "ytjmfhdnckgelaaa", sum := "8a8188d1538a6bc9440d35ab7bd5fdab5990b8f474eae1bbfbc9ab5cf28b458d", func := "onair/onairlaw11.CaptionFits", spec := "captionFits", unfollowed := true, recurses := true, apart := false }
def CaptionFitsSaid : Prop := captionFitsRow.holds Try.pinned (OpenSpec.ofChange captionFitsSpec)

/-- ITS FALSE NEIGHBOUR: 'it returns false'. Refute it at one input. -/
def captionFitsWrong : ChangeSpec := { name := "captionFits", fn := fun _ => fun
  | [d1, d2, d3] => { results := [.lit (.bool false)], args := [d1, d2, d3] }
  | _ => none }
def CaptionFitsWrongFalsely : Prop := captionFitsRow.holds Try.pinned (OpenSpec.ofChange captionFitsWrong)

/-- 'onairlaw11.CaptionEdited': WHATEVER THE INPUT: true; the input reads as it did. -/
def captionEditedSpec : ChangeSpec := { name := "captionEdited", fn := fun _ => fun
  | [d1, d2] => { results := [.lit (.bool true)], args := [d1, d2] }
  | _ => none }
def captionEditedRow : OpenClaim := { program := "ytjmfhdnckgelaaa", sum := "8a8188d1538a6bc9440d35ab7bd5fdab5990b8f474eae1bbfbc9ab5cf28b458d", func := "onair/onairlaw11.CaptionEdited", spec := "captionEdited", unfollowed := true, recurses := true, apart := false }
def CaptionEditedSaid : Prop := captionEditedRow.holds Try.pinned (OpenSpec.ofChange captionEditedSpec)

/-- ITS FALSE NEIGHBOUR: 'it returns false'. Refute it at one input. -/
def captionEditedWrong : ChangeSpec := { name := "captionEdited", fn := fun _ => fun
  | [d1, d2] => { results := [.lit (.bool false)], args := [d1, d2] }
  | _ => none }
def CaptionEditedWrongFalsely : Prop := captionEditedRow.holds Try.pinned (OpenSpec.ofChange captionEditedWrong)

/-- 'onairlaw11.CaptionExchange': WHATEVER THE INPUT: true; the input reads as it did. -/
def captionExchangeSpec : ChangeSpec := { name := "captionExchange", fn := fun _ => fun
  | [d1, d2, d3] => { results := [.lit (.bool true)], args := [d1, d2, d3] }
  | _ => none }
def captionExchangeRow : OpenClaim := { program := "ytjmfhdnckgelaaa", sum := "8a8188d1538a6bc9440d35ab7bd5fdab5990b8f474eae1bbfbc9ab5cf28b458d", func := "onair/onairlaw11.CaptionExchange", spec := "captionExchange", unfollowed := true, recurses := true, apart := false }
def CaptionExchangeSaid : Prop := captionExchangeRow.holds Try.pinned (OpenSpec.ofChange captionExchangeSpec)

/-- ITS FALSE NEIGHBOUR: 'it returns false'. Refute it at one input. -/
def captionExchangeWrong : ChangeSpec := { name := "captionExchange", fn := fun _ => fun
  | [d1, d2, d3] => { results := [.lit (.bool false)], args := [d1, d2, d3] }
  | _ => none }
def CaptionExchangeWrongFalsely : Prop := captionExchangeRow.holds Try.pinned (OpenSpec.ofChange captionExchangeWrong)

/-- 'onairlaw11.CaptionShown': WHATEVER THE INPUT: true; the input reads as it did. -/
def captionShownSpec : ChangeSpec := { name := "captionShown", fn := fun _ => fun
  | [d1, d2] => { results := [.lit (.bool true)], args := [d1, d2] }
  | _ => none }
def captionShownRow : OpenClaim := { program := "ytjmfhdnckgelaaa", sum := "8a8188d1538a6bc9440d35ab7bd5fdab5990b8f474eae1bbfbc9ab5cf28b458d", func := "onair/onairlaw11.CaptionShown", spec := "captionShown", unfollowed := true, recurses := true, apart := false }
def CaptionShownSaid : Prop := captionShownRow.holds Try.pinned (OpenSpec.ofChange captionShownSpec)

/-- ITS FALSE NEIGHBOUR: 'it returns false'. Refute it at one input. -/
def captionShownWrong : ChangeSpec := { name := "captionShown", fn := fun _ => fun
  | [d1, d2] => { results := [.lit (.bool false)], args := [d1, d2] }
  | _ => none }
def CaptionShownWrongFalsely : Prop := captionShownRow.holds Try.pinned (OpenSpec.ofChange captionShownWrong)

/-- 'onairlaw11.CaptionCancelled': WHATEVER THE INPUT: true; the input reads as it did. -/
def captionCancelledSpec : ChangeSpec := { name := "captionCancelled", fn := fun _ => fun
  | [d1, d2, d3] => { results := [.lit (.bool true)], args := [d1, d2, d3] }
  | _ => none }
def captionCancelledRow : OpenClaim := { program := "ytjmfhdnckgelaaa", sum := "8a8188d1538a6bc9440d35ab7bd5fdab5990b8f474eae1bbfbc9ab5cf28b458d", func := "onair/onairlaw11.CaptionCancelled", spec := "captionCancelled", unfollowed := true, recurses := true, apart := false }
def CaptionCancelledSaid : Prop := captionCancelledRow.holds Try.pinned (OpenSpec.ofChange captionCancelledSpec)

/-- ITS FALSE NEIGHBOUR: 'it returns false'. Refute it at one input. -/
def captionCancelledWrong : ChangeSpec := { name := "captionCancelled", fn := fun _ => fun
  | [d1, d2, d3] => { results := [.lit (.bool false)], args := [d1, d2, d3] }
  | _ => none }
def CaptionCancelledWrongFalsely : Prop := captionCancelledRow.holds Try.pinned (OpenSpec.ofChange captionCancelledWrong)

/- THE SECOND FORM. 'bulk': how many values and letters a reading holds, each counted each time it is reached (what is shared counts as often as it is met; a slice's spare places count too). A statement '..UptoSaid' is the law's where the arguments, and the package variables that the reading takes, are together of bulk at most 1048576: NARROWER than '..Said'. Prove '..Said' where nothing that the law and all that it calls make is longer than what came in: it says more and counts as full. Else prove '..UptoSaid'. A law counts once. -/
mutual
def uptoBulk {H : Type} : DataW H → Nat
  | .lit (.string bytes) => bytes.length + 1
  | .lit _ => 1
  | .nil => 1
  | .ptr d => uptoBulk d + 1
  | .slice elems spare => uptoBulkAll elems + uptoBulkAll spare + 1
  | .agg parts => uptoBulkAll parts + 1
  | .iface _ d => uptoBulk d + 1
  | .map entries => uptoBulkEntries entries + 1
  | .held _ => 1
def uptoBulkAll {H : Type} : List (DataW H) → Nat
  | [] => 0
  | d :: r => uptoBulk d + uptoBulkAll r
def uptoBulkEntries {H : Type} : List (Lit × DataW H) → Nat
  | [] => 0
  | x :: r => uptoBulkEntry x + uptoBulkEntries r
def uptoBulkEntry {H : Type} : Lit × DataW H → Nat
  | (.string bytes, d) => bytes.length + uptoBulk d + 1
  | (_, d) => uptoBulk d + 1
 end
def uptoSmall : (H : Type) → List (DataW H) → Bool := fun _ ds => decide (uptoBulkAll ds ≤ 1048576)
def OpenSpec.upto (s : _root_.Go.ChangeSpec) : _root_.Go.OpenSpec := { _root_.Go.OpenSpec.ofChange s with cond := some uptoSmall }

/-- 'onairlaw11.CaptionMatchesReference', WHERE WHAT IT READS IS OF BULK AT MOST 1048576: true; the input reads as it did. -/
def captionMatchesReferenceUptoRow : OpenClaim := { program := "ytjmfhdnckgelaaa", sum := "8a8188d1538a6bc9440d35ab7bd5fdab5990b8f474eae1bbfbc9ab5cf28b458d", func := "onair/onairlaw11.CaptionMatchesReference", spec := "captionMatchesReference", unfollowed := true, recurses := true, apart := false, narrowed := true }
def CaptionMatchesReferenceUptoSaid : Prop := captionMatchesReferenceUptoRow.holds Try.pinned (OpenSpec.upto captionMatchesReferenceSpec)

/-- 'onairlaw11.CaptionEditMatchesReference', WHERE WHAT IT READS IS OF BULK AT MOST 1048576: true; the input reads as it did. -/
def captionEditMatchesReferenceUptoRow : OpenClaim := { program := "ytjmfhdnckgelaaa", sum := "8a8188d1538a6bc9440d35ab7bd5fdab5990b8f474eae1bbfbc9ab5cf28b458d", func := "onair/onairlaw11.CaptionEditMatchesReference", spec := "captionEditMatchesReference", unfollowed := true, recurses := true, apart := false, narrowed := true }
def CaptionEditMatchesReferenceUptoSaid : Prop := captionEditMatchesReferenceUptoRow.holds Try.pinned (OpenSpec.upto captionEditMatchesReferenceSpec)

/-- 'onairlaw11.CaptionRows', WHERE WHAT IT READS IS OF BULK AT MOST 1048576: true; the input reads as it did. -/
def captionRowsUptoRow : OpenClaim := { program := "ytjmfhdnckgelaaa", sum := "8a8188d1538a6bc9440d35ab7bd5fdab5990b8f474eae1bbfbc9ab5cf28b458d", func := "onair/onairlaw11.CaptionRows", spec := "captionRows", unfollowed := true, recurses := true, apart := false, narrowed := true }
def CaptionRowsUptoSaid : Prop := captionRowsUptoRow.holds Try.pinned (OpenSpec.upto captionRowsSpec)

/-- 'onairlaw11.CaptionFits', WHERE WHAT IT READS IS OF BULK AT MOST 1048576: true; the input reads as it did. -/
def captionFitsUptoRow : OpenClaim := { program := "ytjmfhdnckgelaaa", sum := "8a8188d1538a6bc9440d35ab7bd5fdab5990b8f474eae1bbfbc9ab5cf28b458d", func := "onair/onairlaw11.CaptionFits", spec := "captionFits", unfollowed := true, recurses := true, apart := false, narrowed := true }
def CaptionFitsUptoSaid : Prop := captionFitsUptoRow.holds Try.pinned (OpenSpec.upto captionFitsSpec)

/-- 'onairlaw11.CaptionEdited', WHERE WHAT IT READS IS OF BULK AT MOST 1048576: true; the input reads as it did. -/
def captionEditedUptoRow : OpenClaim := { program := "ytjmfhdnckgelaaa", sum := "8a8188d1538a6bc9440d35ab7bd5fdab5990b8f474eae1bbfbc9ab5cf28b458d", func := "onair/onairlaw11.CaptionEdited", spec := "captionEdited", unfollowed := true, recurses := true, apart := false, narrowed := true }
def CaptionEditedUptoSaid : Prop := captionEditedUptoRow.holds Try.pinned (OpenSpec.upto captionEditedSpec)

/-- 'onairlaw11.CaptionExchange', WHERE WHAT IT READS IS OF BULK AT MOST 1048576: true; the input reads as it did. -/
def captionExchangeUptoRow : OpenClaim := { program := "ytjmfhdnckgelaaa", sum := "8a8188d1538a6bc9440d35ab7bd5fdab5990b8f474eae1bbfbc9ab5cf28b458d", func := "onair/onairlaw11.CaptionExchange", spec := "captionExchange", unfollowed := true, recurses := true, apart := false, narrowed := true }
def CaptionExchangeUptoSaid : Prop := captionExchangeUptoRow.holds Try.pinned (OpenSpec.upto captionExchangeSpec)

/-- 'onairlaw11.CaptionShown', WHERE WHAT IT READS IS OF BULK AT MOST 1048576: true; the input reads as it did. -/
def captionShownUptoRow : OpenClaim := { program := "ytjmfhdnckgelaaa", sum := "8a8188d1538a6bc9440d35ab7bd5fdab5990b8f474eae1bbfbc9ab5cf28b458d", func := "onair/onairlaw11.CaptionShown", spec := "captionShown", unfollowed := true, recurses := true, apart := false, narrowed := true }
def CaptionShownUptoSaid : Prop := captionShownUptoRow.holds Try.pinned (OpenSpec.upto captionShownSpec)

/-- 'onairlaw11.CaptionCancelled', WHERE WHAT IT READS IS OF BULK AT MOST 1048576: true; the input reads as it did. -/
def captionCancelledUptoRow : OpenClaim := { program := "ytjmfhdnckgelaaa", sum := "8a8188d1538a6bc9440d35ab7bd5fdab5990b8f474eae1bbfbc9ab5cf28b458d", func := "onair/onairlaw11.CaptionCancelled", spec := "captionCancelled", unfollowed := true, recurses := true, apart := false, narrowed := true }
def CaptionCancelledUptoSaid : Prop := captionCancelledUptoRow.holds Try.pinned (OpenSpec.upto captionCancelledSpec)

end Rows
end Go.Proofs.Ytjmfhdnckgelaaa
