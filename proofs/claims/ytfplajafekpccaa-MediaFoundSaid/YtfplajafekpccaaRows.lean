/-
  No cell of these rows narrows 'for every input' (looked for: loops, veiled, ifaces, maps, wideKeys, modest, calm, conditions, laid).
  DERIVED. THE GIVEN ROWS OF THIS SEAT. 8 by the template 'for every input the law returns true; each argument reads behind the call as it read before'; 0 by the template 'total and deterministic' (their statements: YtfplajafekpccaaTotals.lean).
  GIVEN WITH THE SEED: the statements are not yours to turn. If you find one false, say at which input.
  Laid BY PROGRAM, IN A SANDBOX (cutbox-rows.mjs): the forced cells as the released guide's own fill.sh prints them over the translation 1825e639a9b09dad… (all of the seat's roots in one cut). By AI agents, Wed Nov 11 2026. No macro, syntax, notation, axiom, sorry.
-/
import Derived.Test.YtfplajafekpccaaChecked
import GoSem.Claim
import GoSem.ClaimJoined
import GoSem.ClaimMapViews
import Derived.JoinedTies
import Derived.KernelRfl
namespace Go.Proofs.Ytfplajafekpccaa
/- THE CELL 'sum', in the pinned program and in every row, IS THE sha256 OF THE DUMP (.gsa) THAT YtfplajafekpccaaProg.lean LOADS. Nothing in Lean hashes anything: it is a label: what it is worth is what the hold of that sum in a sandbox is worth. -/
noncomputable def Try.pinned : Pinned := { name := "ytfplajafekpccaa", sum := "1825e639a9b09dad59878f92c64c41f8661ffb421933d2c38e0f3f61996b4ac6", checked := Try.checked }
namespace Rows
def none {H : Type} : Left H := { results := [], args := [] }

/-- 'onairlaw12.MediaMatchesReference': WHATEVER THE INPUT: true; the input reads as it did. -/
def mediaMatchesReferenceSpec : ChangeSpec := { name := "mediaMatchesReference", fn := fun _ => fun
  | [d1, d2] => { results := [.lit (.bool true)], args := [d1, d2] }
  | _ => none }
def mediaMatchesReferenceRow : OpenClaim := { program := "ytfplajafekpccaa", sum := "1825e639a9b09dad59878f92c64c41f8661ffb421933d2c38e0f3f61996b4ac6", func := "onair/onairlaw12.MediaMatchesReference", spec := "mediaMatchesReference", inPlace := ["internal/abi.NoEscape"], unfollowed := true, recurses := true, apart := false }
def MediaMatchesReferenceSaid : Prop := mediaMatchesReferenceRow.holds Try.pinned (OpenSpec.ofChange mediaMatchesReferenceSpec)

/-- ITS FALSE NEIGHBOUR: 'it returns false'. Refute it at one input. -/
def mediaMatchesReferenceWrong : ChangeSpec := { name := "mediaMatchesReference", fn := fun _ => fun
  | [d1, d2] => { results := [.lit (.bool false)], args := [d1, d2] }
  | _ => none }
def MediaMatchesReferenceWrongFalsely : Prop := mediaMatchesReferenceRow.holds Try.pinned (OpenSpec.ofChange mediaMatchesReferenceWrong)

/-- 'onairlaw12.MediaEncodeMatchesReference': WHATEVER THE INPUT: true; the input reads as it did. -/
def mediaEncodeMatchesReferenceSpec : ChangeSpec := { name := "mediaEncodeMatchesReference", fn := fun _ => fun
  | [d] => { results := [.lit (.bool true)], args := [d] }
  | _ => none }
def mediaEncodeMatchesReferenceRow : OpenClaim := { program := "ytfplajafekpccaa", sum := "1825e639a9b09dad59878f92c64c41f8661ffb421933d2c38e0f3f61996b4ac6", func := "onair/onairlaw12.MediaEncodeMatchesReference", spec := "mediaEncodeMatchesReference", inPlace := ["internal/abi.NoEscape"], unfollowed := true, recurses := true, apart := false }
def MediaEncodeMatchesReferenceSaid : Prop := mediaEncodeMatchesReferenceRow.holds Try.pinned (OpenSpec.ofChange mediaEncodeMatchesReferenceSpec)

/-- ITS FALSE NEIGHBOUR: 'it returns false'. Refute it at one input. -/
def mediaEncodeMatchesReferenceWrong : ChangeSpec := { name := "mediaEncodeMatchesReference", fn := fun _ => fun
  | [d] => { results := [.lit (.bool false)], args := [d] }
  | _ => none }
def MediaEncodeMatchesReferenceWrongFalsely : Prop := mediaEncodeMatchesReferenceRow.holds Try.pinned (OpenSpec.ofChange mediaEncodeMatchesReferenceWrong)

/-- 'onairlaw12.MediaDecodeMatchesReference': WHATEVER THE INPUT: true; the input reads as it did. -/
def mediaDecodeMatchesReferenceSpec : ChangeSpec := { name := "mediaDecodeMatchesReference", fn := fun _ => fun
  | [d] => { results := [.lit (.bool true)], args := [d] }
  | _ => none }
def mediaDecodeMatchesReferenceRow : OpenClaim := { program := "ytfplajafekpccaa", sum := "1825e639a9b09dad59878f92c64c41f8661ffb421933d2c38e0f3f61996b4ac6", func := "onair/onairlaw12.MediaDecodeMatchesReference", spec := "mediaDecodeMatchesReference", inPlace := ["internal/abi.NoEscape"], unfollowed := true, recurses := true, apart := false }
def MediaDecodeMatchesReferenceSaid : Prop := mediaDecodeMatchesReferenceRow.holds Try.pinned (OpenSpec.ofChange mediaDecodeMatchesReferenceSpec)

/-- ITS FALSE NEIGHBOUR: 'it returns false'. Refute it at one input. -/
def mediaDecodeMatchesReferenceWrong : ChangeSpec := { name := "mediaDecodeMatchesReference", fn := fun _ => fun
  | [d] => { results := [.lit (.bool false)], args := [d] }
  | _ => none }
def MediaDecodeMatchesReferenceWrongFalsely : Prop := mediaDecodeMatchesReferenceRow.holds Try.pinned (OpenSpec.ofChange mediaDecodeMatchesReferenceWrong)

/-- 'onairlaw12.MediaFound': WHATEVER THE INPUT: true; the input reads as it did. -/
def mediaFoundSpec : ChangeSpec := { name := "mediaFound", fn := fun _ => fun
  | [d1, d2, d3] => { results := [.lit (.bool true)], args := [d1, d2, d3] }
  | _ => none }
def mediaFoundRow : OpenClaim := { program := "ytfplajafekpccaa", sum := "1825e639a9b09dad59878f92c64c41f8661ffb421933d2c38e0f3f61996b4ac6", func := "onair/onairlaw12.MediaFound", spec := "mediaFound", inPlace := ["internal/abi.NoEscape"], unfollowed := true, recurses := true, apart := false }
def MediaFoundSaid : Prop := mediaFoundRow.holds Try.pinned (OpenSpec.ofChange mediaFoundSpec)

/-- ITS FALSE NEIGHBOUR: 'it returns false'. Refute it at one input. -/
def mediaFoundWrong : ChangeSpec := { name := "mediaFound", fn := fun _ => fun
  | [d1, d2, d3] => { results := [.lit (.bool false)], args := [d1, d2, d3] }
  | _ => none }
def MediaFoundWrongFalsely : Prop := mediaFoundRow.holds Try.pinned (OpenSpec.ofChange mediaFoundWrong)

/-- 'onairlaw12.MediaRoundTrip': WHATEVER THE INPUT: true; the input reads as it did. -/
def mediaRoundTripSpec : ChangeSpec := { name := "mediaRoundTrip", fn := fun _ => fun
  | [d] => { results := [.lit (.bool true)], args := [d] }
  | _ => none }
def mediaRoundTripRow : OpenClaim := { program := "ytfplajafekpccaa", sum := "1825e639a9b09dad59878f92c64c41f8661ffb421933d2c38e0f3f61996b4ac6", func := "onair/onairlaw12.MediaRoundTrip", spec := "mediaRoundTrip", inPlace := ["internal/abi.NoEscape"], unfollowed := true, recurses := true, apart := false }
def MediaRoundTripSaid : Prop := mediaRoundTripRow.holds Try.pinned (OpenSpec.ofChange mediaRoundTripSpec)

/-- ITS FALSE NEIGHBOUR: 'it returns false'. Refute it at one input. -/
def mediaRoundTripWrong : ChangeSpec := { name := "mediaRoundTrip", fn := fun _ => fun
  | [d] => { results := [.lit (.bool false)], args := [d] }
  | _ => none }
def MediaRoundTripWrongFalsely : Prop := mediaRoundTripRow.holds Try.pinned (OpenSpec.ofChange mediaRoundTripWrong)

/-- 'onairlaw12.MediaDecodedAgain': WHATEVER THE INPUT: true; the input reads as it did. -/
def mediaDecodedAgainSpec : ChangeSpec := { name := "mediaDecodedAgain", fn := fun _ => fun
  | [d] => { results := [.lit (.bool true)], args := [d] }
  | _ => none }
def mediaDecodedAgainRow : OpenClaim := { program := "ytfplajafekpccaa", sum := "1825e639a9b09dad59878f92c64c41f8661ffb421933d2c38e0f3f61996b4ac6", func := "onair/onairlaw12.MediaDecodedAgain", spec := "mediaDecodedAgain", inPlace := ["internal/abi.NoEscape"], unfollowed := true, recurses := true, apart := false }
def MediaDecodedAgainSaid : Prop := mediaDecodedAgainRow.holds Try.pinned (OpenSpec.ofChange mediaDecodedAgainSpec)

/-- ITS FALSE NEIGHBOUR: 'it returns false'. Refute it at one input. -/
def mediaDecodedAgainWrong : ChangeSpec := { name := "mediaDecodedAgain", fn := fun _ => fun
  | [d] => { results := [.lit (.bool false)], args := [d] }
  | _ => none }
def MediaDecodedAgainWrongFalsely : Prop := mediaDecodedAgainRow.holds Try.pinned (OpenSpec.ofChange mediaDecodedAgainWrong)

/-- 'onairlaw12.MediaPrefixes': WHATEVER THE INPUT: true; the input reads as it did. -/
def mediaPrefixesSpec : ChangeSpec := { name := "mediaPrefixes", fn := fun _ => fun
  | [d1, d2, d3] => { results := [.lit (.bool true)], args := [d1, d2, d3] }
  | _ => none }
def mediaPrefixesRow : OpenClaim := { program := "ytfplajafekpccaa", sum := "1825e639a9b09dad59878f92c64c41f8661ffb421933d2c38e0f3f61996b4ac6", func := "onair/onairlaw12.MediaPrefixes", spec := "mediaPrefixes", inPlace := ["internal/abi.NoEscape"], unfollowed := true, recurses := true, apart := false }
def MediaPrefixesSaid : Prop := mediaPrefixesRow.holds Try.pinned (OpenSpec.ofChange mediaPrefixesSpec)

/-- ITS FALSE NEIGHBOUR: 'it returns false'. Refute it at one input. -/
def mediaPrefixesWrong : ChangeSpec := { name := "mediaPrefixes", fn := fun _ => fun
  | [d1, d2, d3] => { results := [.lit (.bool false)], args := [d1, d2, d3] }
  | _ => none }
def MediaPrefixesWrongFalsely : Prop := mediaPrefixesRow.holds Try.pinned (OpenSpec.ofChange mediaPrefixesWrong)

/-- 'onairlaw12.MediaColumns': WHATEVER THE INPUT: true; the input reads as it did. -/
def mediaColumnsSpec : ChangeSpec := { name := "mediaColumns", fn := fun _ => fun
  | [d] => { results := [.lit (.bool true)], args := [d] }
  | _ => none }
def mediaColumnsRow : OpenClaim := { program := "ytfplajafekpccaa", sum := "1825e639a9b09dad59878f92c64c41f8661ffb421933d2c38e0f3f61996b4ac6", func := "onair/onairlaw12.MediaColumns", spec := "mediaColumns", inPlace := ["internal/abi.NoEscape"], unfollowed := true, recurses := true, apart := false }
def MediaColumnsSaid : Prop := mediaColumnsRow.holds Try.pinned (OpenSpec.ofChange mediaColumnsSpec)

/-- ITS FALSE NEIGHBOUR: 'it returns false'. Refute it at one input. -/
def mediaColumnsWrong : ChangeSpec := { name := "mediaColumns", fn := fun _ => fun
  | [d] => { results := [.lit (.bool false)], args := [d] }
  | _ => none }
def MediaColumnsWrongFalsely : Prop := mediaColumnsRow.holds Try.pinned (OpenSpec.ofChange mediaColumnsWrong)

/- THE SECOND FORM. 'bulk': how many values and letters a reading holds, each counted each time it is reached (what is shared counts as often as it is met; a slice's spare places count too). A statement '..UptoSaid' is the law's where the arguments, and the package variables that the reading takes, are together of bulk at most 1048576: NARROWER than '..Said'. Prove '..Said' where nothing that the law and all that it calls make is longer than what came in: it says more and counts as full. Else prove '..UptoSaid'. A law counts once. -/
mutual
def uptoBulk {H : Type} : DataW H → Nat
  | .lit (.string bytes) => bytes.length + 1
  | .lit _ => 1
  | .nil => 1
  | .ptr d => uptoBulk d + 1
  | .slice elems spare => uptoBulkAll elems + uptoBulkAll spare + 1
  | .agg parts => uptoBulkAll parts + 1
  | .iface _ d => uptoBulk d + 1
  | .map entries => uptoBulkEntries entries + 1
  | .held _ => 1
def uptoBulkAll {H : Type} : List (DataW H) → Nat
  | [] => 0
  | d :: r => uptoBulk d + uptoBulkAll r
def uptoBulkEntries {H : Type} : List (Lit × DataW H) → Nat
  | [] => 0
  | x :: r => uptoBulkEntry x + uptoBulkEntries r
def uptoBulkEntry {H : Type} : Lit × DataW H → Nat
  | (.string bytes, d) => bytes.length + uptoBulk d + 1
  | (_, d) => uptoBulk d + 1
 end
def uptoSmall : (H : Type) → List (DataW H) → Bool := fun _ ds => decide (uptoBulkAll ds ≤ 1048576)
def OpenSpec.upto (s : _root_.Go.ChangeSpec) : _root_.Go.OpenSpec := { _root_.Go.OpenSpec.ofChange s with cond := some uptoSmall }

/-- 'onairlaw12.MediaMatchesReference', WHERE WHAT IT READS IS OF BULK AT MOST 1048576: true; the input reads as it did. -/
def mediaMatchesReferenceUptoRow : OpenClaim := { program := "ytfplajafekpccaa", sum := "1825e639a9b09dad59878f92c64c41f8661ffb421933d2c38e0f3f61996b4ac6", func := "onair/onairlaw12.MediaMatchesReference", spec := "mediaMatchesReference", inPlace := ["internal/abi.NoEscape"], unfollowed := true, recurses := true, apart := false, narrowed := true }
def MediaMatchesReferenceUptoSaid : Prop := mediaMatchesReferenceUptoRow.holds Try.pinned (OpenSpec.upto mediaMatchesReferenceSpec)

/-- 'onairlaw12.MediaEncodeMatchesReference', WHERE WHAT IT READS IS OF BULK AT MOST 1048576: true; the input reads as it did. -/
def mediaEncodeMatchesReferenceUptoRow : OpenClaim := { program := "ytfplajafekpccaa", sum := "1825e639a9b09dad59878f92c64c41f8661ffb421933d2c38e0f3f61996b4ac6", func := "onair/onairlaw12.MediaEncodeMatchesReference", spec := "mediaEncodeMatchesReference", inPlace := ["internal/abi.NoEscape"], unfollowed := true, recurses := true, apart := false, narrowed := true }
def MediaEncodeMatchesReferenceUptoSaid : Prop := mediaEncodeMatchesReferenceUptoRow.holds Try.pinned (OpenSpec.upto mediaEncodeMatchesReferenceSpec)

/-- 'onairlaw12.MediaDecodeMatchesReference', WHERE WHAT IT READS IS OF BULK AT MOST 1048576: true; the input reads as it did. -/
def mediaDecodeMatchesReferenceUptoRow : OpenClaim := { program := "ytfplajafekpccaa", sum := "1825e639a9b09dad59878f92c64c41f8661ffb421933d2c38e0f3f61996b4ac6", func := "onair/onairlaw12.MediaDecodeMatchesReference", spec := "mediaDecodeMatchesReference", inPlace := ["internal/abi.NoEscape"], unfollowed := true, recurses := true, apart := false, narrowed := true }
def MediaDecodeMatchesReferenceUptoSaid : Prop := mediaDecodeMatchesReferenceUptoRow.holds Try.pinned (OpenSpec.upto mediaDecodeMatchesReferenceSpec)

/-- 'onairlaw12.MediaFound', WHERE WHAT IT READS IS OF BULK AT MOST 1048576: true; the input reads as it did. -/
def mediaFoundUptoRow : OpenClaim := { program := "ytfplajafekpccaa", sum := "1825e639a9b09dad59878f92c64c41f8661ffb421933d2c38e0f3f61996b4ac6", func := "onair/onairlaw12.MediaFound", spec := "mediaFound", inPlace := ["internal/abi.NoEscape"], unfollowed := true, recurses := true, apart := false, narrowed := true }
def MediaFoundUptoSaid : Prop := mediaFoundUptoRow.holds Try.pinned (OpenSpec.upto mediaFoundSpec)

/-- 'onairlaw12.MediaRoundTrip', WHERE WHAT IT READS IS OF BULK AT MOST 1048576: true; the input reads as it did. -/
def mediaRoundTripUptoRow : OpenClaim := { program := "ytfplajafekpccaa", sum := "1825e639a9b09dad59878f92c64c41f8661ffb421933d2c38e0f3f61996b4ac6", func := "onair/onairlaw12.MediaRoundTrip", spec := "mediaRoundTrip", inPlace := ["internal/abi.NoEscape"], unfollowed := true, recurses := true, apart := false, narrowed := true }
def MediaRoundTripUptoSaid : Prop := mediaRoundTripUptoRow.holds Try.pinned (OpenSpec.upto mediaRoundTripSpec)

/-- 'onairlaw12.MediaDecodedAgain', WHERE WHAT IT READS IS OF BULK AT MOST 1048576: true; the input reads as it did. -/
def mediaDecodedAgainUptoRow : OpenClaim := { program := "ytfplajafekpccaa", sum := "1825e639a9b09dad59878f92c64c41f8661ffb421933d2c38e0f3f61996b4ac6", func := "onair/onairlaw12.MediaDecodedAgain", spec := "mediaDecodedAgain", inPlace := ["internal/abi.NoEscape"], unfollowed := true, recurses := true, apart := false, narrowed := true }
def MediaDecodedAgainUptoSaid : Prop := mediaDecodedAgainUptoRow.holds Try.pinned (OpenSpec.upto mediaDecodedAgainSpec)

/-- 'onairlaw12.MediaPrefixes', WHERE WHAT IT READS IS OF BULK AT MOST 1048576: true; the input reads as it did. -/
def mediaPrefixesUptoRow : OpenClaim := { program := "ytfplajafekpccaa", sum := "1825e639a9b09dad59878f92c64c41f8661ffb421933d2c38e0f3f61996b4ac6", func := "onair/onairlaw12.MediaPrefixes", spec := "mediaPrefixes", inPlace := ["internal/abi.NoEscape"], unfollowed := true, recurses := true, apart := false, narrowed := true }
def MediaPrefixesUptoSaid : Prop := mediaPrefixesUptoRow.holds Try.pinned (OpenSpec.upto mediaPrefixesSpec)

/-- 'onairlaw12.MediaColumns', WHERE WHAT IT READS IS OF BULK AT MOST 1048576: true; the input reads as it did. -/
def mediaColumnsUptoRow : OpenClaim := { program := "ytfplajafekpccaa", sum := "1825e639a9b09dad59878f92c64c41f8661ffb421933d2c38e0f3f61996b4ac6", func := "onair/onairlaw12.MediaColumns", spec := "mediaColumns", inPlace := ["internal/abi.NoEscape"], unfollowed := true, recurses := true, apart := false, narrowed := true }
def MediaColumnsUptoSaid : Prop := mediaColumnsUptoRow.holds Try.pinned (OpenSpec.upto mediaColumnsSpec)

end Rows
end Go.Proofs.Ytfplajafekpccaa
