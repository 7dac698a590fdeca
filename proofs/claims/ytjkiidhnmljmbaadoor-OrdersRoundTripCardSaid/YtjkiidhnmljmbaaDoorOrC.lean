/-
  Orders: valid and takes, of a drop order's message and of an acknowledgment.
-/
import Derived.Test.YtjkiidhnmljmbaaDoorOrB
set_option linter.unusedVariables false
set_option linter.unusedSimpArgs false
namespace Go.Proofs.YtjkiidhnmljmbaaDoor
open Go.RowKit
set_option maxHeartbeats 4000000 in
set_option maxRecDepth 100000 in
theorem valid_ord (to sq f : Int) (W : World) (t0 : 0 ≤ to) (t1 : to < 3) (s0 : 1 ≤ sq) (s1 : sq ≤ 200) (f0 : 0 ≤ f) (f1 : f ≤ 100000000) : Calls Tryd.prog 28 #[.agg (msgA 1 to sq 0 0 sq (-1) f 2 1)] W fun en w' => en = .returned (.bool true) ∧ Below W.heap.size W w' := by
  obtain ⟨N, hN⟩ : ∃ N, W.heap.size = N := ⟨_, rfl⟩
  obtain ⟨w1, hw1⟩ : ∃ w1, W.alloc (.cells (msgA 1 to sq 0 0 sq (-1) f 2 1) 32) = w1 := ⟨_, rfl⟩
  have hb1 : Below N W w1 := by rw [← hw1, ← hN]; exact (Below.refl _ W).alloc (Nat.le_refl _) _
  have hk1 : Blk w1 N 32 (msgA 1 to sq 0 0 sq (-1) f 2 1).toList := by rw [← hw1, ← hN]; exact Blk.new W _ _
  have HSZ := Lib.hid (show (Tryd.prog.info? 30).map (·.size) = some 26 from by kernel_rfl)
  have HR : Hid (w1.rangeAt N 5 (drA sq f).toList) := hk1.rangeO 5 rfl
  have HEX : Hid (∀ W', Calls Tryd.prog 41 #[.int .i64 to] W' fun e w' => e = .returned (.bool true) ∧ W' = w') := fun W' => by
    have := exists_any to W'
    rw [decide_eq_true (show 0 ≤ to ∧ to < 3 from ⟨by omega, by omega⟩)] at this
    exact this
  have HV := Lib.hid (fun W' => valid_drop sq f W' (by omega) s1 f0 f1)
  have HN := Lib.hid hN
  have HB1 := Lib.hid hb1
  have c0 := hk1.cell 0
  have c1 := hk1.cell 1
  have c2 := hk1.cell 2
  have c3 := hk1.cell 3
  have c4 := hk1.cell 4
  have c5 := hk1.cell 5
  have q1 : sq ≥ 1 := s0
  dsimp only [msgA, drA, ordA, Array.toList, List.getElem?_cons_zero, List.getElem?_cons_succ] at c0 c1 c2 c3 c4 c5
  dsimp only [msgA, drA, ordA] at hw1
  dsimp only [msgA]
  clear hb1 hk1
  go_enter Tryd.func28, Tryd.ntmps28
  go_wp2_with fail
  refine (HEX.out _).mono ?_
  rintro e w' ⟨rfl, rfl⟩
  go_wp2_with (refine wpList_load_midG rfl 30 (.tmp 38) rfl N 5 rfl (drA sq f).toList _ HR.out Tryd.underlying30 rfl HSZ.out ?_)
  refine (HV.out _).mono ?_
  rintro e w' ⟨rfl, hb⟩
  go_wp2_with fail
  go_ret
  exact ⟨rfl, by rw [HN.out]; exact HB1.out.trans (hb.mono (bnl9 HN.out HB1.out))⟩
set_option maxHeartbeats 4000000 in
set_option maxRecDepth 100000 in
theorem valid_ack (to sq : Int) (W : World) (t0 : 0 ≤ to) (t1 : to < 3) (s0 : 0 ≤ sq) (s1 : sq ≤ 200) : Calls Tryd.prog 28 #[.agg (msgA 2 to sq 0 0 0 0 0 0 0)] W fun en w' => en = .returned (.bool true) ∧ Below W.heap.size W w' := by
  obtain ⟨N, hN⟩ : ∃ N, W.heap.size = N := ⟨_, rfl⟩
  obtain ⟨w1, hw1⟩ : ∃ w1, W.alloc (.cells (msgA 2 to sq 0 0 0 0 0 0 0) 32) = w1 := ⟨_, rfl⟩
  have hb1 : Below N W w1 := by rw [← hw1, ← hN]; exact (Below.refl _ W).alloc (Nat.le_refl _) _
  have hk1 : Blk w1 N 32 (msgA 2 to sq 0 0 0 0 0 0 0).toList := by rw [← hw1, ← hN]; exact Blk.new W _ _
  have HSZ := Lib.hid (show (Tryd.prog.info? 30).map (·.size) = some 26 from by kernel_rfl)
  have HR : Hid (w1.rangeAt N 5 (ordA 0 0 0 0 0).toList) := hk1.rangeO 5 rfl
  have HEX : Hid (∀ W', Calls Tryd.prog 41 #[.int .i64 to] W' fun e w' => e = .returned (.bool true) ∧ W' = w') := fun W' => by
    have := exists_any to W'
    rw [decide_eq_true (show 0 ≤ to ∧ to < 3 from ⟨by omega, by omega⟩)] at this
    exact this
  have HV := Lib.hid (fun W' => zero_zero W')
  have HN := Lib.hid hN
  have HB1 := Lib.hid hb1
  have c0 := hk1.cell 0
  have c1 := hk1.cell 1
  have c2 := hk1.cell 2
  have c3 := hk1.cell 3
  have c4 := hk1.cell 4
  have c5 := hk1.cell 5
  have q1 : sq ≥ 0 := s0
  dsimp only [msgA, drA, ordA, Array.toList, List.getElem?_cons_zero, List.getElem?_cons_succ] at c0 c1 c2 c3 c4 c5
  dsimp only [msgA, drA, ordA] at hw1
  dsimp only [msgA]
  clear hb1 hk1
  go_enter Tryd.func28, Tryd.ntmps28
  go_wp2_with fail
  refine (HEX.out _).mono ?_
  rintro e w' ⟨rfl, rfl⟩
  go_wp2_with (refine wpList_load_midG rfl 30 (.tmp 63) rfl N 5 rfl (ordA 0 0 0 0 0).toList _ HR.out Tryd.underlying30 rfl HSZ.out ?_)
  refine (HV.out _).mono ?_
  rintro e w' ⟨rfl, hb⟩
  go_wp2_with fail
  go_ret
  exact ⟨rfl, by rw [HN.out]; exact HB1.out.trans (hb.mono (bnl9 HN.out HB1.out))⟩
set_option maxHeartbeats 4000000 in
set_option maxRecDepth 100000 in
theorem takes_ord (to sq f : Int) (W : World) (t0 : 0 ≤ to) (t1 : to < 3) (s0 : 1 ≤ sq) (s1 : sq ≤ 200) (f0 : 0 ≤ f) (f1 : f ≤ 100000000) : Calls Tryd.prog 49 #[.agg #[.int .i64 to], .agg (msgA 1 to sq 0 0 sq (-1) f 2 1), .int .i64 1] W fun en w' => en = .returned (.bool true) ∧ Below W.heap.size W w' := by
  obtain ⟨N, hN⟩ : ∃ N, W.heap.size = N := ⟨_, rfl⟩
  obtain ⟨w1, hw1⟩ : ∃ w1, W.alloc (.cells #[.int .i64 to] 94) = w1 := ⟨_, rfl⟩
  have hb1 : Below N W w1 := by rw [← hw1, ← hN]; exact (Below.refl _ W).alloc (Nat.le_refl _) _
  have hk1 : Blk w1 N 94 [.int .i64 to] := by rw [← hw1, ← hN]; exact Blk.new W _ _
  obtain ⟨L, hL⟩ : ∃ L, w1.heap.size = L := ⟨_, rfl⟩
  obtain ⟨w2, hw2⟩ : ∃ w2, w1.alloc (.cells (msgA 1 to sq 0 0 sq (-1) f 2 1) 32) = w2 := ⟨_, rfl⟩
  have hb2 : Below L w1 w2 := by rw [← hw2, ← hL]; exact (Below.refl _ w1).alloc (Nat.le_refl _) _
  have hk2 : Blk w2 L 32 (msgA 1 to sq 0 0 sq (-1) f 2 1).toList := by rw [← hw2, ← hL]; exact Blk.new w1 _ _
  have hNL : N < L := by rw [← hL]; exact hk1.lt
  have hk3 := hk1.kept (hb2.block N hNL)
  have HSZ := Lib.hid (show (Tryd.prog.info? 32).map (·.size) = some 31 from by kernel_rfl)
  have HR := Lib.hid hk2.range
  have HV := Lib.hid (fun W' => valid_ord to sq f W' t0 t1 s0 s1 f0 f1)
  have HN := Lib.hid hN
  have HB := Lib.hid (hb1.trans (hb2.mono (Nat.le_of_lt hNL)))
  have n1 : N ≠ L := by omega
  have n2 : L ≠ N := by omega
  have c0 := hk2.cell 0
  have c1 := hk2.cell 1
  have d0 := hk3.cell 0
  dsimp only [msgA, drA, ordA, Array.toList, List.getElem?_cons_zero, List.getElem?_cons_succ] at c0 c1 d0
  dsimp only [msgA, drA, ordA] at hw2
  dsimp only [msgA]
  clear hb1 hb2 hk1 hk2 hk3 hNL
  go_enter Tryd.func49, Tryd.ntmps49
  go_wp2_with (refine wpList_load_midG rfl 32 (.tmp 4) rfl L 0 rfl (msgA 1 to sq 0 0 sq (-1) f 2 1).toList _ HR.out Tryd.underlying32 rfl HSZ.out ?_)
  refine (HV.out _).mono ?_
  rintro e w' ⟨rfl, hb⟩
  go_wp2_with fail
  go_ret
  exact ⟨rfl, by rw [HN.out]; exact HB.out.trans (hb.mono (bnl9 HN.out HB.out))⟩
set_option maxHeartbeats 4000000 in
set_option maxRecDepth 100000 in
theorem takes_ack (to sq : Int) (W : World) (t0 : 0 ≤ to) (t1 : to < 3) (s0 : 0 ≤ sq) (s1 : sq ≤ 200) : Calls Tryd.prog 49 #[.agg #[.int .i64 to], .agg (msgA 2 to sq 0 0 0 0 0 0 0), .int .i64 2] W fun en w' => en = .returned (.bool true) ∧ Below W.heap.size W w' := by
  obtain ⟨N, hN⟩ : ∃ N, W.heap.size = N := ⟨_, rfl⟩
  obtain ⟨w1, hw1⟩ : ∃ w1, W.alloc (.cells #[.int .i64 to] 94) = w1 := ⟨_, rfl⟩
  have hb1 : Below N W w1 := by rw [← hw1, ← hN]; exact (Below.refl _ W).alloc (Nat.le_refl _) _
  have hk1 : Blk w1 N 94 [.int .i64 to] := by rw [← hw1, ← hN]; exact Blk.new W _ _
  obtain ⟨L, hL⟩ : ∃ L, w1.heap.size = L := ⟨_, rfl⟩
  obtain ⟨w2, hw2⟩ : ∃ w2, w1.alloc (.cells (msgA 2 to sq 0 0 0 0 0 0 0) 32) = w2 := ⟨_, rfl⟩
  have hb2 : Below L w1 w2 := by rw [← hw2, ← hL]; exact (Below.refl _ w1).alloc (Nat.le_refl _) _
  have hk2 : Blk w2 L 32 (msgA 2 to sq 0 0 0 0 0 0 0).toList := by rw [← hw2, ← hL]; exact Blk.new w1 _ _
  have hNL : N < L := by rw [← hL]; exact hk1.lt
  have hk3 := hk1.kept (hb2.block N hNL)
  have HSZ := Lib.hid (show (Tryd.prog.info? 32).map (·.size) = some 31 from by kernel_rfl)
  have HR := Lib.hid hk2.range
  have HV := Lib.hid (fun W' => valid_ack to sq W' t0 t1 s0 s1)
  have HN := Lib.hid hN
  have HB := Lib.hid (hb1.trans (hb2.mono (Nat.le_of_lt hNL)))
  have n1 : N ≠ L := by omega
  have n2 : L ≠ N := by omega
  have c0 := hk2.cell 0
  have c1 := hk2.cell 1
  have d0 := hk3.cell 0
  dsimp only [msgA, drA, ordA, Array.toList, List.getElem?_cons_zero, List.getElem?_cons_succ] at c0 c1 d0
  dsimp only [msgA, drA, ordA] at hw2
  dsimp only [msgA]
  clear hb1 hb2 hk1 hk2 hk3 hNL
  go_enter Tryd.func49, Tryd.ntmps49
  go_wp2_with (refine wpList_load_midG rfl 32 (.tmp 4) rfl L 0 rfl (msgA 2 to sq 0 0 0 0 0 0 0).toList _ HR.out Tryd.underlying32 rfl HSZ.out ?_)
  refine (HV.out _).mono ?_
  rintro e w' ⟨rfl, hb⟩
  go_wp2_with fail
  go_ret
  exact ⟨rfl, by rw [HN.out]; exact HB.out.trans (hb.mono (bnl9 HN.out HB.out))⟩
end Go.Proofs.YtjkiidhnmljmbaaDoor
