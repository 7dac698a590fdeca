/-
  Orders: the encoding of a drop order.
  Orders: the encoding of a drop order's message.
-/
import Derived.Deep.CutBlock
import Derived.WalkMore
import Derived.LoopTactic
import Derived.Test.YtjkiidhnmljmbaaGreatDoorOrBB
import Derived.Test.YtjkiidhnmljmbaaGreatDoorOrAC
set_option linter.unusedVariables false
set_option linter.unusedSimpArgs false
namespace Go.Proofs.YtjkiidhnmljmbaaGreatDoor
open Go.RowKit Onair
/-- The encodings of numbers, one behind the other. -/
def encI (l : List Int) : List UInt8 := l.flatMap putL
theorem encI_snoc (l : List Int) (j : Nat) (x : Int) (h : l[j]? = some x) : encI (l.take (j + 1)) = encI (l.take j) ++ putL x := by
  rw [List.take_add_one, h]
  simp [encI]
theorem encI_len (l : List Int) : (encI l).length ≤ 9 * l.length := by
  induction l with
  | nil => exact Nat.le_refl _
  | cons x l ih =>
    have := putL_len x
    simp only [encI, List.flatMap_cons, List.length_append, List.length_cons] at *
    omega
set_option maxRecDepth 100000 in
theorem putO_any (B b : Nat) (l : List UInt8) (x : Int) (w : World) (h : Bld B b l w) (hlen : l.length ≤ 1000000000) (hBw : B ≤ w.heap.size) :
    Calls Tryz.prog 67 #[.int .i64 x, .pointer (some ⟨b, 0, none⟩)] w fun e w' => (∃ v, e = .returned v) ∧ Bld B b (l ++ putL x) w' ∧ Below B w w' ∧ Keeps b w w' := by
  have H := Lib.hid h
  clear h
  have hpl := putL_len x
  go_enter Tryz.func67, Tryz.ntmps67
  go_wp2_with fail
  refine (putInt_any x w).mono ?_
  rintro e w1 ⟨rfl, hb1⟩
  have H1 := Lib.hid (H.out.below hb1)
  have HB1 := Lib.hid hb1
  have hsz := hb1.size
  clear hb1
  go_wp2_with fail
  refine (writeString_any B b l ⟨(putL x).toArray⟩ w1 H1.out (by show l.length + (putL x).toArray.size ≤ _; rw [List.size_toArray]; omega) (by omega)).mono ?_
  rintro e w2 ⟨⟨v, rfl⟩, h2, hb2, hk2⟩
  have H2 := Lib.hid h2
  have HB2 : Hid (Below B w w2) := (HB1.out.mono hBw).trans hb2
  have HK2 : Hid (Keeps b w w2) := (Keeps.below HB1.out).trans hk2
  clear h2 hb2 hk2
  go_wp2_with fail
  go_end0
  exact ⟨⟨_, rfl⟩, H2.out, HB2.out, HK2.out⟩
/-- The encoding of an order that drops entry 1. -/
def encDr (s f : Int) : List UInt8 := encI [s, -1, f, 2] ++ encI [1]
end Go.Proofs.YtjkiidhnmljmbaaGreatDoor
namespace Go.Proofs.YtjkiidhnmljmbaaGreatDoor
open Go.RowKit Onair
/-- The encoding of a message with a drop order. -/
def encMs (tn sq f : Int) : List UInt8 := encI [1, tn, sq, 0, 0] ++ putSL (encDr sq f)
theorem putSL_lenO (t : List UInt8) (h : t.length ≤ 65536) : (putSL t).length ≤ 9 + t.length := by
  unfold putSL
  rw [if_neg (by omega), List.length_append]
  have := putL_len (t.length : Int)
  omega
end Go.Proofs.YtjkiidhnmljmbaaGreatDoor
