/-
  The walk of the law CaptionEdited: a cancellation or an edit.
-/
import Derived.Test.YtjmfhdnckgelaaaCapLawHa
import Derived.Test.YtjmfhdnckgelaaaCapLawHb
namespace Go.Proofs.Ytjmfhdnckgelaaa
open Go.RowKit
theorem walkEdited (W : World) (oa : Option Addr) (cap : Nat) (l : List Cue) (c : Cue) (hok : ∀ c ∈ l, c.Ok) (hl : l.length ≤ maxLen) (hr : RdC W oa l) (hc : c.Ok) :
    Calls Try.prog 7 #[.slice oa l.length cap, .agg #[.int .i64 c.id, .int .i64 c.fr, .int .i64 c.to, .int .i64 c.pr, .string c.tx]] W fun e w' => e = .returned (.bool true) ∧ Below W.heap.size W w' := by
  by_cases hto : c.to = 0
  · exact walkEditedA W oa cap l c hok hl hr hc hto
  · exact walkEditedB W oa cap l c hok hl hr hc hto
end Go.Proofs.Ytjmfhdnckgelaaa
