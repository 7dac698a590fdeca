/-
  Orders: the encoding of a drop order.
  Orders: the encoding of a drop order's message.
-/
import Derived.Deep.CutBlock
import Derived.WalkMore
import Derived.LoopTactic
import Derived.Test.YtjkiidhnmljmbaaDoorOrBB
import Derived.Test.YtjkiidhnmljmbaaDoorOrAC
set_option linter.unusedVariables false
set_option linter.unusedSimpArgs false
namespace Go.Proofs.YtjkiidhnmljmbaaDoor
open Go.RowKit Onair
theorem BldAt.belowO {T e : TypeId} {B b : Nat} {p : Value} {bs : List Value} {w w' : World} (h : Lib.BuilderAt T e B b p bs w) (hb : Below w.heap.size w w') : Lib.BuilderAt T e B b p bs w' := BldAt.below h hb
/-- The encodings of numbers, one behind the other. -/
def encI (l : List Int) : List UInt8 := l.flatMap putL
theorem encI_snoc (l : List Int) (j : Nat) (x : Int) (h : l[j]? = some x) : encI (l.take (j + 1)) = encI (l.take j) ++ putL x := by
  rw [List.take_add_one, h]
  simp [encI]
theorem encI_len (l : List Int) : (encI l).length ≤ 9 * l.length := by
  induction l with
  | nil => exact Nat.le_refl _
  | cons x l ih =>
    have := putL_len x
    simp only [encI, List.flatMap_cons, List.length_append, List.length_cons] at *
    omega
set_option maxRecDepth 100000 in
theorem putO_any (B b : Nat) (l : List UInt8) (x : Int) (w : World) (h : Bld B b l w) (hlen : l.length ≤ 1000000000) (hBw : B ≤ w.heap.size) :
    Calls Tryd.prog 58 #[.int .i64 x, .pointer (some ⟨b, 0, none⟩)] w fun e w' => (∃ v, e = .returned v) ∧ Bld B b (l ++ putL x) w' ∧ Below B w w' ∧ Keeps b w w' := by
  have H := Lib.hid h
  clear h
  have hpl := putL_len x
  go_enter Tryd.func58, Tryd.ntmps58
  go_wp2_with fail
  refine (putInt_any x w).mono ?_
  rintro e w1 ⟨rfl, hb1⟩
  have H1 := Lib.hid (H.out.below hb1)
  have HB1 := Lib.hid hb1
  have hsz := hb1.size
  clear hb1
  go_wp2_with fail
  refine (writeString_any B b l ⟨(putL x).toArray⟩ w1 H1.out (by show l.length + (putL x).toArray.size ≤ _; rw [List.size_toArray]; omega) (by omega)).mono ?_
  rintro e w2 ⟨⟨v, rfl⟩, h2, hb2, hk2⟩
  have H2 := Lib.hid h2
  have HB2 : Hid (Below B w w2) := (HB1.out.mono hBw).trans hb2
  have HK2 : Hid (Keeps b w w2) := (Keeps.below HB1.out).trans hk2
  clear h2 hb2 hk2
  go_wp2_with fail
  go_end0
  exact ⟨⟨_, rfl⟩, H2.out, HB2.out, HK2.out⟩
set_option maxRecDepth 100000 in
theorem numbers_drop (g : Nat) (W : World) (h : W.cell? ⟨g, 3, none⟩ = some (.int .i64 2)) : Calls Tryd.prog 59 #[.pointer (some ⟨g, 0, none⟩)] W fun e w' => ∃ nb, e = .returned (.slice (some ⟨nb, 0, none⟩) 1 1) ∧ Blk w' nb 87 [.pointer (some ⟨g, 4, none⟩)] ∧ W.heap.size ≤ nb ∧ Below W.heap.size W w' := by
  go_enter Tryd.func59, Tryd.ntmps59
  go_wp2_with fail
  go_ret
  exact ⟨_, rfl, Blk.new W _ _, Nat.le_refl _, (Below.refl _ _).alloc (Nat.le_refl _) _⟩
/-- The encoding of an order that drops entry 1. -/
def encDr (s f : Int) : List UInt8 := encI [s, -1, f, 2] ++ encI [1]
set_option maxHeartbeats 4000000 in
set_option maxRecDepth 100000 in
theorem encD_any (s f : Int) (W : World) (s0 : 0 ≤ s) (s1 : s ≤ 200) (f0 : 0 ≤ f) (f1 : f ≤ 100000000) :
    Calls Tryd.prog 31 #[.agg (drA s f)] W fun e w' => e = .returned (.tuple #[.string ⟨(encDr s f).toArray⟩, .int .i64 0]) ∧ Below W.heap.size W w' := by
  have hmf : ∀ (fn : Fn) (first cap : Array Value) (w : World), (Instr.makeFunc fn first cap).run Tryd.prog w = .ok (.func fn first cap) w := fun _ _ _ _ => rfl
  obtain ⟨N, hN⟩ : ∃ N, W.heap.size = N := ⟨_, rfl⟩
  obtain ⟨w1, hw1⟩ : ∃ w1, W.alloc (.cells (drA s f) 30) = w1 := ⟨_, rfl⟩
  have hb1 : Below N W w1 := by rw [← hw1, ← hN]; exact (Below.refl _ W).alloc (Nat.le_refl _) _
  have hk1 : Blk w1 N 30 (drA s f).toList := by rw [← hw1, ← hN]; exact Blk.new W _ _
  have HSZ := Lib.hid (show (Tryd.prog.info? 30).map (·.size) = some 26 from by kernel_rfl)
  have HR1 := Lib.hid hk1.range
  have HK1 := Lib.hid hk1
  have HN := Lib.hid hN
  have HB1 := Lib.hid hb1
  have HVL := Lib.hid (fun W' => valid_drop s f W' s0 s1 f0 f1)
  dsimp only [drA, ordA] at hw1
  dsimp only [drA, ordA]
  clear hb1 hk1
  go_enter Tryd.func31, Tryd.ntmps31
  go_wp2_with (refine wpList_load_mid rfl 30 (.tmp 1) rfl N 0 rfl (drA s f).toList _ HR1.out Tryd.underlying30 rfl HSZ.out ?_)
  refine (HVL.out _).mono ?_
  rintro e w2 ⟨rfl, hb2⟩
  have HK2 := Lib.hid (HK1.out.kept (hb2.block N HK1.out.lt))
  have HB2 : Hid (Below N W w2) := HB1.out.trans (hb2.mono (bnl9 HN.out HB1.out))
  obtain ⟨b, hb⟩ : ∃ b, w2.heap.size = b := ⟨_, rfl⟩
  have HNb : Hid (N < b) := (by rw [← hb]; exact HK2.out.lt : N < b)
  obtain ⟨w3, hw3⟩ : ∃ w3, w2.alloc (.cells #[.pointer none, .slice none 0 0] 68) = w3 := ⟨_, rfl⟩
  have hbl3 : Bld b b [] w3 := by rw [← hw3, ← hb]; exact Lib.fresh_isBuilder _ _ w2
  have hb3 : Below b w2 w3 := by rw [← hw3, ← hb]; exact (Below.refl _ w2).alloc (Nat.le_refl _) _
  have hz3 : w3.heap.size = b + 1 := by rw [← hw3, World.size_alloc, hb]
  have hk3 := HK2.out.kept (hb3.block N HNb.out)
  have c0 := hk3.cell 0
  have c1 := hk3.cell 1
  have c2 := hk3.cell 2
  have c3 := hk3.cell 3
  obtain ⟨w4, hw4⟩ : ∃ w4, w3.alloc (.cells #[.int .i64 s, .int .i64 (-1), .int .i64 f, .int .i64 2] 3) = w4 := ⟨_, rfl⟩
  have hk4 : Blk w4 (b + 1) 3 [.int .i64 s, .int .i64 (-1), .int .i64 f, .int .i64 2] := by rw [← hw4, ← hz3]; exact Blk.new w3 _ _
  have hb4 : Below w3.heap.size w3 w4 := by rw [← hw4]; exact (Below.refl _ w3).alloc (Nat.le_refl _) _
  have HBL4 := Lib.hid (hbl3.below hb4)
  have HB4 : Hid (Below b w2 w4) := hb3.trans (hb4.mono (by omega))
  have HK4 := Lib.hid hk4
  have HZ4 : Hid (b ≤ w4.heap.size) := (by have := hb4.size; omega : b ≤ w4.heap.size)
  have HBB := Lib.hid hb
  dsimp only [drA, ordA, Array.toList] at c0 c1 c2 c3
  simp only [List.getElem?_cons_zero, List.getElem?_cons_succ] at c0 c1 c2 c3
  clear hb2 HR1 HVL hbl3 hb3 hk3 hk4 hb4
  go_wp2_with fail
  clear c0 c1 c2 c3 hw3 hw4 hz3 hb hw1
  go_loopw [28] (fun vi wr => ∃ (j : Nat), j ≤ 4 ∧ vi = .int .i64 j ∧ Hid (Bld b b (encI ([s, -1, f, 2].take j)) wr) ∧ Hid (Blk wr (b + 1) 3 [.int .i64 s, .int .i64 (-1), .int .i64 f, .int .i64 2]) ∧ Hid (Below b w2 wr)) (fun v _ => 4 - (intOf v).toNat)
  case atStart => exact ⟨0, by omega, rfl, HBL4, HK4, HB4⟩
  case round =>
    clear HBL4 HK4 HB4 HZ4
    obtain ⟨j, hj, rfl, HBL, HK, HB⟩ := hrel
    have hbz : b ≤ wr.heap.size := by have := HK.out.lt; omega
    by_cases h : j < 4
    · have q1 : (j : Int) < 4 := by omega
      obtain ⟨x, hx⟩ : ∃ x, [s, -1, f, 2][j]? = some x := ⟨([s, -1, f, 2] : List Int)[j]'h, List.getElem?_eq_getElem _⟩
      have cx : wr.cell? ⟨b + 1, j, none⟩ = some (.int .i64 x) := by
        rw [HK.out.cell j]
        rcases (show j = 0 ∨ j = 1 ∨ j = 2 ∨ j = 3 from by omega) with rfl | rfl | rfl | rfl <;> (simp at hx; subst hx; rfl)
      have HX := Lib.hid (encI_snoc _ j x hx)
      have hle : (encI ([s, -1, f, 2].take j)).length ≤ 1000000000 := by
        have := encI_len ([s, -1, f, 2].take j)
        have := List.length_take_le j ([s, -1, f, 2] : List Int)
        omega
      clear hx
      go_wp2_with fail
      refine (putO_any b b _ x wr HBL.out hle hbz).mono ?_
      rintro e w5 ⟨⟨v, rfl⟩, h5, hb5, hk5⟩
      rw [← HX.out] at h5
      have HBL5 := Lib.hid h5
      have HB5 := Lib.hid (HB.out.trans hb5)
      have HK5 := Lib.hid (hk5 _ _ _ (by decide) (by omega) HK.out)
      clear h5 hb5 hk5 cx hle
      go_wp2_with fail
      go_roundw
      case rel => exact ⟨j + 1, by omega, by go_num, HBL5, HK5, HB5⟩
      case measure => simp [intOf]; omega
    · have q1 : ¬ (j : Int) < 4 := by omega
      obtain rfl : j = 4 := by omega
      have hk9 := HK2.out.kept (HB.out.block N HNb.out)
      have c3 := hk9.cell 3
      have HK9 := Lib.hid hk9
      dsimp only [drA, ordA, Array.toList] at c3
      simp only [List.getElem?_cons_zero, List.getElem?_cons_succ] at c3
      clear h hk9
      go_wp2_with fail
      refine (numbers_drop N wr c3).mono ?_
      rintro e w6 ⟨nb, rfl, hkn, hnb, hb6⟩
      have HBL6 : Hid (Bld b b (encI [s, -1, f, 2] ++ encI ([1].take 0)) w6) := (by have := HBL.out.below hb6; simpa [encI] using this : Bld b b (encI [s, -1, f, 2] ++ encI ([1].take 0)) w6)
      have HB6 : Hid (Below b w2 w6) := HB.out.trans (hb6.mono hbz)
      have HKN := Lib.hid hkn
      have HNB : Hid (b < nb) := (by have := HK.out.lt; omega : b < nb)
      clear HBL HB HK HK9 hkn hnb hb6 c3 hbz hj
      go_wp2_with fail
      go_loopw [38] (fun vi wr => ∃ (j : Nat), j ≤ 1 ∧ vi = .int .i64 j ∧ Hid (Bld b b (encI [s, -1, f, 2] ++ encI ([1].take j)) wr) ∧ Hid (Blk wr nb 87 [.pointer (some ⟨N, 4, none⟩)]) ∧ Hid (Below b w2 wr)) (fun v _ => 1 - (intOf v).toNat)
      case atStart => exact ⟨0, by omega, rfl, HBL6, HKN, HB6⟩
      case round =>
        clear HBL6 HKN HB6
        obtain ⟨j, hj, rfl, HBL, HK, HB⟩ := hrel
        have hbz : b ≤ wr.heap.size := by have := HK.out.lt; have := HNB.out; omega
        have hk9 := HK2.out.kept (HB.out.block N HNb.out)
        have c3 := hk9.cell 3
        have c4 := hk9.cell 4
        dsimp only [drA, ordA, Array.toList] at c3 c4
        simp only [List.getElem?_cons_zero, List.getElem?_cons_succ] at c3 c4
        clear hk9
        by_cases h : j < 1
        · obtain rfl : j = 0 := by omega
          have n0 := HK.out.cell 0
          simp only [List.getElem?_cons_zero] at n0
          have hle : (encI [s, -1, f, 2] ++ encI ([1].take 0)).length ≤ 1000000000 := by
            have := encI_len [s, -1, f, 2]
            rw [List.length_append]
            show _ + 0 ≤ _
            simp only [List.length_cons, List.length_nil] at this
            omega
          clear h
          go_wp2_with fail
          refine (putO_any b b _ 1 wr HBL.out hle hbz).mono ?_
          rintro e w5 ⟨⟨v, rfl⟩, h5, hb5, hk5⟩
          have HBL5 : Hid (Bld b b (encI [s, -1, f, 2] ++ encI ([1].take 1)) w5) := (by rw [List.append_assoc] at h5; simpa [encI] using h5 : Bld b b (encI [s, -1, f, 2] ++ encI ([1].take 1)) w5)
          have HB5 := Lib.hid (HB.out.trans hb5)
          have HK5 := Lib.hid (hk5 _ _ _ (by decide) (by have := HNB.out; omega) HK.out)
          clear h5 hb5 hk5 hle c3 c4 n0
          go_wp2_with fail
          go_roundw
          case rel => exact ⟨1, by omega, rfl, HBL5, HK5, HB5⟩
          case measure => simp [intOf]
        · have q1 : ¬ (j : Int) < 1 := by omega
          obtain rfl : j = 1 := by omega
          have HST := Lib.hid (string_keeps b b (encDr s f) wr HBL.out (by intro e; have := (List.append_eq_nil_iff.1 e).2; revert this; decide))
          clear h
          go_wp2_with fail
          refine HST.out.mono ?_
          rintro e w7 ⟨rfl, hb7, _⟩
          have HB7 : Hid (Below N W w7) := HB2.out.trans ((HB.out.trans hb7).mono (Nat.le_of_lt HNb.out))
          clear hb7
          go_wp2_with fail
          go_ret2
          exact ⟨rfl, by rw [HN.out]; exact HB7.out⟩
end Go.Proofs.YtjkiidhnmljmbaaDoor
namespace Go.Proofs.YtjkiidhnmljmbaaDoor
open Go.RowKit Onair
/-- The encoding of a message with a drop order. -/
def encMs (tn sq f : Int) : List UInt8 := encI [1, tn, sq, 0, 0] ++ putSL (encDr sq f)
theorem putSL_lenO (t : List UInt8) (h : t.length ≤ 65536) : (putSL t).length ≤ 9 + t.length := by
  unfold putSL
  rw [if_neg (by omega), List.length_append]
  have := putL_len (t.length : Int)
  omega
theorem encDr_len (s f : Int) : (encDr s f).length ≤ 45 := by
  have h1 := encI_len [s, -1, f, 2]
  have h2 := encI_len [1]
  unfold encDr
  rw [List.length_append]
  simp only [List.length_cons, List.length_nil] at h1 h2
  omega
set_option maxHeartbeats 4000000 in
set_option maxRecDepth 100000 in
theorem encode_ord (tn sq f : Int) (W : World) (t0 : 0 ≤ tn) (t1 : tn < 3) (s0 : 1 ≤ sq) (s1 : sq ≤ 200) (f0 : 0 ≤ f) (f1 : f ≤ 100000000) :
    Calls Tryd.prog 11 #[.agg (msgA 1 tn sq 0 0 sq (-1) f 2 1)] W fun e w' => e = .returned (.tuple #[.string ⟨(encMs tn sq f).toArray⟩, .int .i64 0]) ∧ Below W.heap.size W w' := by
  obtain ⟨N, hN⟩ : ∃ N, W.heap.size = N := ⟨_, rfl⟩
  obtain ⟨w1, hw1⟩ : ∃ w1, W.alloc (.cells (msgA 1 tn sq 0 0 sq (-1) f 2 1) 32) = w1 := ⟨_, rfl⟩
  have hb1 : Below N W w1 := by rw [← hw1, ← hN]; exact (Below.refl _ W).alloc (Nat.le_refl _) _
  have hk1 : Blk w1 N 32 (msgA 1 tn sq 0 0 sq (-1) f 2 1).toList := by rw [← hw1, ← hN]; exact Blk.new W _ _
  have HSM := Lib.hid (show (Tryd.prog.info? 32).map (·.size) = some 31 from by kernel_rfl)
  have HSZ := Lib.hid (show (Tryd.prog.info? 30).map (·.size) = some 26 from by kernel_rfl)
  have HR1 := Lib.hid hk1.range
  have HK1 := Lib.hid hk1
  have HN := Lib.hid hN
  have HB1 := Lib.hid hb1
  have HVL := Lib.hid (fun W' => valid_ord tn sq f W' t0 t1 s0 s1 f0 f1)
  have HEN := Lib.hid (fun W' => encD_any sq f W' (by omega) s1 f0 f1)
  have HDL := Lib.hid (encDr_len sq f)
  dsimp only [msgA] at hw1
  dsimp only [msgA]
  clear hb1 hk1
  go_enter Tryd.func11, Tryd.ntmps11
  go_wp2_with (refine wpList_load_mid rfl 32 (.tmp 1) rfl N 0 rfl (msgA 1 tn sq 0 0 sq (-1) f 2 1).toList _ HR1.out Tryd.underlying32 rfl HSM.out ?_)
  refine (HVL.out _).mono ?_
  rintro e w2 ⟨rfl, hb2⟩
  have HK2 := Lib.hid (HK1.out.kept (hb2.block N HK1.out.lt))
  have HB2 : Hid (Below N W w2) := HB1.out.trans (hb2.mono (bnl9 HN.out HB1.out))
  obtain ⟨b, hb⟩ : ∃ b, w2.heap.size = b := ⟨_, rfl⟩
  have HNb : Hid (N < b) := (by rw [← hb]; exact HK2.out.lt : N < b)
  obtain ⟨w3, hw3⟩ : ∃ w3, w2.alloc (.cells #[.pointer none, .slice none 0 0] 68) = w3 := ⟨_, rfl⟩
  have hbl3 : Bld b b [] w3 := by rw [← hw3, ← hb]; exact Lib.fresh_isBuilder _ _ w2
  have hb3 : Below b w2 w3 := by rw [← hw3, ← hb]; exact (Below.refl _ w2).alloc (Nat.le_refl _) _
  have hz3 : b ≤ w3.heap.size := by rw [← hw3, World.size_alloc, hb]; omega
  have hk3 := HK2.out.kept (hb3.block N HNb.out)
  have c0 := hk3.cell 0
  have c1 := hk3.cell 1
  have c2 := hk3.cell 2
  have c3 := hk3.cell 3
  have c4 := hk3.cell 4
  have HBL3 : Hid (Bld b b (encI ([1, tn, sq, 0, 0].take 0)) w3) := hbl3
  have HB3 := Lib.hid hb3
  have HZ3 := Lib.hid hz3
  have HBB := Lib.hid hb
  dsimp only [msgA, Array.toList] at c0 c1 c2 c3 c4
  simp only [List.getElem?_cons_zero, List.getElem?_cons_succ] at c0 c1 c2 c3 c4
  clear hb2 HR1 HVL hbl3 hb3 hk3 hz3
  go_wp2_with fail
  clear c0 c1 c2 c3 c4 hw3 hb hw1
  go_loopw [27] (fun vi wr => ∃ (j : Nat), j ≤ 5 ∧ vi = .int .i64 j ∧ Hid (Bld b b (encI ([1, tn, sq, 0, 0].take j)) wr) ∧ Hid (b ≤ wr.heap.size) ∧ Hid (Below b w2 wr)) (fun v _ => 5 - (intOf v).toNat)
  case atStart => exact ⟨0, by omega, rfl, HBL3, HZ3, HB3⟩
  case round =>
    clear HBL3 HB3 HZ3
    obtain ⟨j, hj, rfl, HBL, HZ, HB⟩ := hrel
    by_cases h : j < 5
    · have q1 : (j : Int) < 5 := by omega
      have hle : (encI ([1, tn, sq, 0, 0].take j)).length ≤ 45 := by
        have := encI_len ([1, tn, sq, 0, 0].take j)
        have := List.length_take_le j ([1, tn, sq, 0, 0] : List Int)
        have h5 : ([1, tn, sq, 0, 0] : List Int).length = 5 := rfl
        omega
      rcases (show j = 0 ∨ j = 1 ∨ j = 2 ∨ j = 3 ∨ j = 4 from by omega) with rfl | rfl | rfl | rfl | rfl
      · have HX := Lib.hid (encI_snoc [1, tn, sq, 0, 0] 0 (1) rfl)
        have hidx : ∀ W', (Instr.index 69 (.agg #[.int .i64 1, .int .i64 tn, .int .i64 sq, .int .i64 0, .int .i64 0]) (.int .i64 0)).run Tryd.prog W' = .ok (.int .i64 (1)) W' := fun W' => by kernel_rfl
        go_wp2_with fail
        clear hidx
        refine (putInt_any (1) wr).mono ?_
        rintro e w5 ⟨rfl, hb5⟩
        have HBL5 := Lib.hid (HBL.out.below hb5)
        have HB5 : Hid (Below b w2 w5) := HB.out.trans (hb5.mono HZ.out)
        have HZ5 : Hid (b ≤ w5.heap.size) := (by have := hb5.size; have := HZ.out; omega : b ≤ w5.heap.size)
        obtain ⟨y, hy⟩ : ∃ y : ByteArray, (⟨(putL (1)).toArray⟩ : ByteArray) = y := ⟨_, rfl⟩
        have hyl : y.data.toList = putL (1) := by rw [← hy]
        have hys : y.size ≤ 9 := by rw [← blen, hyl]; exact putL_len _
        rw [hy]
        have HYL := Lib.hid hyl
        clear hb5 hy hyl
        go_wp2_with fail
        refine (writeString_any b b _ y w5 HBL5.out (by omega) HZ5.out).mono ?_
        rintro e w6 ⟨⟨v, rfl⟩, h6, hb6, _⟩
        rw [HYL.out, ← HX.out] at h6
        have HBL6 := Lib.hid h6
        have HB6 := Lib.hid (HB5.out.trans hb6)
        have HZ6 : Hid (b ≤ w6.heap.size) := (by have := hb6.size; have := HZ5.out; omega : b ≤ w6.heap.size)
        clear h6 hb6 hle
        go_wp2_with fail
        go_roundw
        case rel => exact ⟨1, by omega, rfl, HBL6, HZ6, HB6⟩
        case measure => simp [intOf]
      · have HX := Lib.hid (encI_snoc [1, tn, sq, 0, 0] 1 (tn) rfl)
        have hidx : ∀ W', (Instr.index 69 (.agg #[.int .i64 1, .int .i64 tn, .int .i64 sq, .int .i64 0, .int .i64 0]) (.int .i64 1)).run Tryd.prog W' = .ok (.int .i64 (tn)) W' := fun W' => by kernel_rfl
        go_wp2_with fail
        clear hidx
        refine (putInt_any (tn) wr).mono ?_
        rintro e w5 ⟨rfl, hb5⟩
        have HBL5 := Lib.hid (HBL.out.below hb5)
        have HB5 : Hid (Below b w2 w5) := HB.out.trans (hb5.mono HZ.out)
        have HZ5 : Hid (b ≤ w5.heap.size) := (by have := hb5.size; have := HZ.out; omega : b ≤ w5.heap.size)
        obtain ⟨y, hy⟩ : ∃ y : ByteArray, (⟨(putL (tn)).toArray⟩ : ByteArray) = y := ⟨_, rfl⟩
        have hyl : y.data.toList = putL (tn) := by rw [← hy]
        have hys : y.size ≤ 9 := by rw [← blen, hyl]; exact putL_len _
        rw [hy]
        have HYL := Lib.hid hyl
        clear hb5 hy hyl
        go_wp2_with fail
        refine (writeString_any b b _ y w5 HBL5.out (by omega) HZ5.out).mono ?_
        rintro e w6 ⟨⟨v, rfl⟩, h6, hb6, _⟩
        rw [HYL.out, ← HX.out] at h6
        have HBL6 := Lib.hid h6
        have HB6 := Lib.hid (HB5.out.trans hb6)
        have HZ6 : Hid (b ≤ w6.heap.size) := (by have := hb6.size; have := HZ5.out; omega : b ≤ w6.heap.size)
        clear h6 hb6 hle
        go_wp2_with fail
        go_roundw
        case rel => exact ⟨2, by omega, rfl, HBL6, HZ6, HB6⟩
        case measure => simp [intOf]
      · have HX := Lib.hid (encI_snoc [1, tn, sq, 0, 0] 2 (sq) rfl)
        have hidx : ∀ W', (Instr.index 69 (.agg #[.int .i64 1, .int .i64 tn, .int .i64 sq, .int .i64 0, .int .i64 0]) (.int .i64 2)).run Tryd.prog W' = .ok (.int .i64 (sq)) W' := fun W' => by kernel_rfl
        go_wp2_with fail
        clear hidx
        refine (putInt_any (sq) wr).mono ?_
        rintro e w5 ⟨rfl, hb5⟩
        have HBL5 := Lib.hid (HBL.out.below hb5)
        have HB5 : Hid (Below b w2 w5) := HB.out.trans (hb5.mono HZ.out)
        have HZ5 : Hid (b ≤ w5.heap.size) := (by have := hb5.size; have := HZ.out; omega : b ≤ w5.heap.size)
        obtain ⟨y, hy⟩ : ∃ y : ByteArray, (⟨(putL (sq)).toArray⟩ : ByteArray) = y := ⟨_, rfl⟩
        have hyl : y.data.toList = putL (sq) := by rw [← hy]
        have hys : y.size ≤ 9 := by rw [← blen, hyl]; exact putL_len _
        rw [hy]
        have HYL := Lib.hid hyl
        clear hb5 hy hyl
        go_wp2_with fail
        refine (writeString_any b b _ y w5 HBL5.out (by omega) HZ5.out).mono ?_
        rintro e w6 ⟨⟨v, rfl⟩, h6, hb6, _⟩
        rw [HYL.out, ← HX.out] at h6
        have HBL6 := Lib.hid h6
        have HB6 := Lib.hid (HB5.out.trans hb6)
        have HZ6 : Hid (b ≤ w6.heap.size) := (by have := hb6.size; have := HZ5.out; omega : b ≤ w6.heap.size)
        clear h6 hb6 hle
        go_wp2_with fail
        go_roundw
        case rel => exact ⟨3, by omega, rfl, HBL6, HZ6, HB6⟩
        case measure => simp [intOf]
      · have HX := Lib.hid (encI_snoc [1, tn, sq, 0, 0] 3 (0) rfl)
        have hidx : ∀ W', (Instr.index 69 (.agg #[.int .i64 1, .int .i64 tn, .int .i64 sq, .int .i64 0, .int .i64 0]) (.int .i64 3)).run Tryd.prog W' = .ok (.int .i64 (0)) W' := fun W' => by kernel_rfl
        go_wp2_with fail
        clear hidx
        refine (putInt_any (0) wr).mono ?_
        rintro e w5 ⟨rfl, hb5⟩
        have HBL5 := Lib.hid (HBL.out.below hb5)
        have HB5 : Hid (Below b w2 w5) := HB.out.trans (hb5.mono HZ.out)
        have HZ5 : Hid (b ≤ w5.heap.size) := (by have := hb5.size; have := HZ.out; omega : b ≤ w5.heap.size)
        obtain ⟨y, hy⟩ : ∃ y : ByteArray, (⟨(putL (0)).toArray⟩ : ByteArray) = y := ⟨_, rfl⟩
        have hyl : y.data.toList = putL (0) := by rw [← hy]
        have hys : y.size ≤ 9 := by rw [← blen, hyl]; exact putL_len _
        rw [hy]
        have HYL := Lib.hid hyl
        clear hb5 hy hyl
        go_wp2_with fail
        refine (writeString_any b b _ y w5 HBL5.out (by omega) HZ5.out).mono ?_
        rintro e w6 ⟨⟨v, rfl⟩, h6, hb6, _⟩
        rw [HYL.out, ← HX.out] at h6
        have HBL6 := Lib.hid h6
        have HB6 := Lib.hid (HB5.out.trans hb6)
        have HZ6 : Hid (b ≤ w6.heap.size) := (by have := hb6.size; have := HZ5.out; omega : b ≤ w6.heap.size)
        clear h6 hb6 hle
        go_wp2_with fail
        go_roundw
        case rel => exact ⟨4, by omega, rfl, HBL6, HZ6, HB6⟩
        case measure => simp [intOf]
      · have HX := Lib.hid (encI_snoc [1, tn, sq, 0, 0] 4 (0) rfl)
        have hidx : ∀ W', (Instr.index 69 (.agg #[.int .i64 1, .int .i64 tn, .int .i64 sq, .int .i64 0, .int .i64 0]) (.int .i64 4)).run Tryd.prog W' = .ok (.int .i64 (0)) W' := fun W' => by kernel_rfl
        go_wp2_with fail
        clear hidx
        refine (putInt_any (0) wr).mono ?_
        rintro e w5 ⟨rfl, hb5⟩
        have HBL5 := Lib.hid (HBL.out.below hb5)
        have HB5 : Hid (Below b w2 w5) := HB.out.trans (hb5.mono HZ.out)
        have HZ5 : Hid (b ≤ w5.heap.size) := (by have := hb5.size; have := HZ.out; omega : b ≤ w5.heap.size)
        obtain ⟨y, hy⟩ : ∃ y : ByteArray, (⟨(putL (0)).toArray⟩ : ByteArray) = y := ⟨_, rfl⟩
        have hyl : y.data.toList = putL (0) := by rw [← hy]
        have hys : y.size ≤ 9 := by rw [← blen, hyl]; exact putL_len _
        rw [hy]
        have HYL := Lib.hid hyl
        clear hb5 hy hyl
        go_wp2_with fail
        refine (writeString_any b b _ y w5 HBL5.out (by omega) HZ5.out).mono ?_
        rintro e w6 ⟨⟨v, rfl⟩, h6, hb6, _⟩
        rw [HYL.out, ← HX.out] at h6
        have HBL6 := Lib.hid h6
        have HB6 := Lib.hid (HB5.out.trans hb6)
        have HZ6 : Hid (b ≤ w6.heap.size) := (by have := hb6.size; have := HZ5.out; omega : b ≤ w6.heap.size)
        clear h6 hb6 hle
        go_wp2_with fail
        go_roundw
        case rel => exact ⟨5, by omega, rfl, HBL6, HZ6, HB6⟩
        case measure => simp [intOf]
    · have q1 : ¬ (j : Int) < 5 := by omega
      obtain rfl : j = 5 := by omega
      have hk9 := HK2.out.kept (HB.out.block N HNb.out)
      have c0 := hk9.cell 0
      have HR9 : Hid (wr.rangeAt N 5 (drA sq f).toList) := hk9.rangeO 5 rfl
      dsimp only [msgA, Array.toList] at c0
      simp only [List.getElem?_cons_zero, List.getElem?_cons_succ] at c0
      have hle : (encI ([1, tn, sq, 0, 0].take 5)).length ≤ 45 := by
        have := encI_len ([1, tn, sq, 0, 0].take 5)
        have := List.length_take_le 5 ([1, tn, sq, 0, 0] : List Int)
        have h5 : ([1, tn, sq, 0, 0] : List Int).length = 5 := rfl
        omega
      clear h hk9
      go_wp2_with (refine wpList_load_mid rfl 30 (.tmp 42) rfl N 5 rfl (drA sq f).toList _ HR9.out Tryd.underlying30 rfl HSZ.out ?_)
      refine (HEN.out _).mono ?_
      rintro e w6 ⟨rfl, hb6⟩
      have HBL6 := Lib.hid (HBL.out.below hb6)
      have HB6 : Hid (Below b w2 w6) := HB.out.trans (hb6.mono HZ.out)
      have HZ6 : Hid (b ≤ w6.heap.size) := (by have := hb6.size; have := HZ.out; omega : b ≤ w6.heap.size)
      have HPS := Lib.hid (fun w => putString_any ⟨(encDr sq f).toArray⟩ w (by have := HDL.out; unfold maxLen; show (encDr sq f).toArray.size ≤ _; rw [List.size_toArray]; omega))
      obtain ⟨z, hz⟩ : ∃ z : ByteArray, (⟨(encDr sq f).toArray⟩ : ByteArray) = z := ⟨_, rfl⟩
      have hzl : z.data.toList = encDr sq f := by rw [← hz]
      rw [hz] at HPS ⊢
      have HZL := Lib.hid hzl
      clear hb6 HBL HB HZ hz hzl
      go_wp2_with fail
      refine (HPS.out _).mono ?_
      rintro e w7 ⟨rfl, hb7⟩
      have HBL7 := Lib.hid (HBL6.out.below hb7)
      have HB7 : Hid (Below b w2 w7) := HB6.out.trans (hb7.mono HZ6.out)
      have HZ7 : Hid (b ≤ w7.heap.size) := (by have := hb7.size; have := HZ6.out; omega : b ≤ w7.heap.size)
      rw [HZL.out]
      obtain ⟨y, hy⟩ : ∃ y : ByteArray, (⟨(putSL (encDr sq f)).toArray⟩ : ByteArray) = y := ⟨_, rfl⟩
      have hyl : y.data.toList = putSL (encDr sq f) := by rw [← hy]
      have hys : y.size ≤ 100 := by
        have h1 := putSL_lenO (encDr sq f) (by have := HDL.out; omega)
        have h2 := HDL.out
        rw [← blen, hyl]
        omega
      rw [hy]
      have HYL := Lib.hid hyl
      clear hb7 HBL6 HB6 HZ6 hy hyl
      go_wp2_with fail
      refine (writeString_any b b _ y w7 HBL7.out (by omega) HZ7.out).mono ?_
      rintro e w8 ⟨⟨v, rfl⟩, h8, hb8, _⟩
      rw [HYL.out] at h8
      have HB8 := Lib.hid (HB7.out.trans hb8)
      have HST := Lib.hid (string_keeps b b (encMs tn sq f) w8 h8 (by intro e; have := (List.append_eq_nil_iff.1 (show putL 1 ++ encI [tn, sq, 0, 0] = [] from (List.append_eq_nil_iff.1 e).1)).1; revert this; decide))
      clear h8 hb8 HBL7 HB7 HZ7 hle
      go_wp2_with fail
      refine HST.out.mono ?_
      rintro e w9 ⟨rfl, hb9, _⟩
      have HB9 : Hid (Below N W w9) := HB2.out.trans ((HB8.out.trans hb9).mono (Nat.le_of_lt HNb.out))
      clear hb9
      go_wp2_with fail
      go_ret2
      exact ⟨rfl, by rw [HN.out]; exact HB9.out⟩
end Go.Proofs.YtjkiidhnmljmbaaDoor
