/-
  Orders: own, message, zero, valid, takes, for drop orders and acknowledgments.
-/
import Derived.WalkKit
import Derived.LoopTactic
import Derived.WalkSpells
import Derived.WalkLawsBesides
import Derived.RegionTactic
import Derived.IntWalk
import Derived.Outline
import Derived.Lib.Hide
import Derived.Deep.MidRow
import Derived.Test.YtjkiidhnmljmbaaDoorOrA
set_option linter.unusedVariables false
set_option linter.unusedSimpArgs false
namespace Go.Proofs.YtjkiidhnmljmbaaDoor
open Go.RowKit
/-- The cells of a message and of its order. -/
def msgA (kd to sq fr n s ch f k e : Int) : Array Value := #[.int .i64 kd, .int .i64 to, .int .i64 sq, .int .i64 fr, .int .i64 n, .int .i64 s, .int .i64 ch, .int .i64 f, .int .i64 k, .int .i64 e, .int .i64 0, .int .i64 0, .int .i64 0, .int .i64 0, .int .i64 0, .int .i64 0, .int .i64 0, .slice none 0 0, .int .i64 0, .int .i64 0, .int .i64 0, .int .i64 0, .int .i64 0, .int .i64 0, .int .i64 0, .int .i64 0, .int .i64 0, .int .i64 0, .int .i64 0, .int .i64 0, .string ⟨#[]⟩]
theorem Blk.rangeO {W : World} {g : Nat} {t : TypeId} {l cs : List Value} (h : Blk W g t l) (o : Nat) (hc : (l.drop o).take cs.length = cs) : W.rangeAt g o cs := fun j v hj => by
  have hl := (List.getElem?_eq_some_iff.1 hj).1
  rw [h.cell, ← hj, ← hc, List.getElem?_take, if_pos hl, List.getElem?_drop]
set_option maxHeartbeats 4000000 in
set_option maxRecDepth 100000 in
theorem own_any (s ch f k e : Int) (W : World) : Calls Tryd.prog 44 #[.agg (ordA s ch f k e)] W fun en w' => en = .returned (.agg (ordA s ch f k e)) ∧ Below W.heap.size W w' := by
  obtain ⟨N, hN⟩ : ∃ N, W.heap.size = N := ⟨_, rfl⟩
  obtain ⟨w1, hw1⟩ : ∃ w1, W.alloc (.cells (ordA s ch f k e) 30) = w1 := ⟨_, rfl⟩
  have hb1 : Below N W w1 := by rw [← hw1, ← hN]; exact (Below.refl _ W).alloc (Nat.le_refl _) _
  have hk1 : Blk w1 N 30 (ordA s ch f k e).toList := by rw [← hw1, ← hN]; exact Blk.new W _ _
  obtain ⟨M, hM⟩ : ∃ M, w1.heap.size = M := ⟨_, rfl⟩
  obtain ⟨w2, hw2⟩ : ∃ w2, w1.alloc (.cells (ordA 0 0 0 0 0) 30) = w2 := ⟨_, rfl⟩
  have hb2 : Below M w1 w2 := by rw [← hw2, ← hM]; exact (Below.refl _ w1).alloc (Nat.le_refl _) _
  have hk2 : Blk w2 M 30 (ordA 0 0 0 0 0).toList := by rw [← hw2, ← hM]; exact Blk.new w1 _ _
  have hNM : N < M := by rw [← hM]; exact hk1.lt
  have hk3 : Blk w2 N 30 (ordA s ch f k e).toList := hk1.kept (hb2.block N hNM)
  obtain ⟨w3, hw3⟩ : ∃ w3, w2.setCell ⟨N, 12, none⟩ (.slice none 0 0) = w3 := ⟨_, rfl⟩
  have hk4 : Blk w3 N 30 (ordA s ch f k e).toList := by rw [← hw3]; exact hk3.set 12 (.slice none 0 0)
  have hk5 : Blk w3 M 30 (ordA 0 0 0 0 0).toList := by rw [← hw3]; exact hk2.other ⟨N, 12, none⟩ (show N ≠ M by omega) _
  have hb3 : Below N W w3 := by rw [← hw3]; exact (hb1.trans (hb2.mono (Nat.le_of_lt hNM))).setCell (p := ⟨N, 12, none⟩) (Nat.le_refl _) _
  have HSZ := Lib.hid (show (Tryd.prog.info? 30).map (·.size) = some 26 from by kernel_rfl)
  have HO1 : Hid ((ordA s ch f k e).all (·.oneCell') = true) := (by first | rfl | (unfold ordA; simp [Value.oneCell']) : (ordA s ch f k e).all (·.oneCell') = true)
  have HO2 : Hid ((ordA 0 0 0 0 0).toList.toArray.size = (ordA s ch f k e).size) := rfl
  have HN := Lib.hid hN
  have HB3 := Lib.hid hb3
  have HLE : Hid (N ≤ M) := Nat.le_of_lt hNM
  have HR4 := Lib.hid hk4.range
  have HK5 := Lib.hid hk5
  have n1 : N ≠ M := by omega
  have n2 : M ≠ N := by omega
  have c12 := hk3.cell 12
  have z12 := hk3.frozen 12
  dsimp only [msgA, drA, ordA, Array.toList, List.getElem?_cons_zero, List.getElem?_cons_succ] at c12
  dsimp only [ordA] at hw1 hw2 ⊢
  clear hb1 hb2 hk1 hk2 hk3 hk4 hk5 hNM hb3
  go_enter Tryd.func44, Tryd.ntmps44
  go_wp2_with (first | (refine wpList_load_mid rfl 30 (.tmp 1) rfl N 0 rfl (ordA s ch f k e).toList _ HR4.out Tryd.underlying30 rfl HSZ.out ?_) | (refine wpList_store_row rfl 30 (.tmp 2) (.tmp 9) rfl M (ordA s ch f k e) rfl rfl 30 _ HK5.out HSZ.out HO2.out HO1.out ?_))
  refine bodyPost_ret (results_cell_row Tryd.results44 _ _ M 30 (ordA s ch f k e) (0, 0) _ rfl (setRow_heap _ _ _ _ _ _ HK5.out) Tryd.underlying30 rfl HSZ.out) rfl ?_
  exact ⟨rfl, by rw [HN.out]; exact below_setRow HB3.out HLE.out _⟩
set_option maxHeartbeats 4000000 in
set_option maxRecDepth 100000 in
theorem message_any (to kd sq : Int) (W : World) : Calls Tryd.prog 47 #[.agg #[.int .i64 to], .int .i64 kd, .int .i64 sq] W fun en w' => en = .returned (.agg (msgA kd to sq 0 0 0 0 0 0 0)) ∧ Below W.heap.size W w' := by
  obtain ⟨N, hN⟩ : ∃ N, W.heap.size = N := ⟨_, rfl⟩
  obtain ⟨w1, hw1⟩ : ∃ w1, W.alloc (.cells #[.int .i64 to] 94) = w1 := ⟨_, rfl⟩
  have hb1 : Below N W w1 := by rw [← hw1, ← hN]; exact (Below.refl _ W).alloc (Nat.le_refl _) _
  have hk1 : Blk w1 N 94 [.int .i64 to] := by rw [← hw1, ← hN]; exact Blk.new W _ _
  obtain ⟨M, hM⟩ : ∃ M, w1.heap.size = M := ⟨_, rfl⟩
  obtain ⟨w2, hw2⟩ : ∃ w2, w1.alloc (.cells (msgA 0 0 0 0 0 0 0 0 0 0) 32) = w2 := ⟨_, rfl⟩
  have hb2 : Below M w1 w2 := by rw [← hw2, ← hM]; exact (Below.refl _ w1).alloc (Nat.le_refl _) _
  have hk2 : Blk w2 M 32 (msgA 0 0 0 0 0 0 0 0 0 0).toList := by rw [← hw2, ← hM]; exact Blk.new w1 _ _
  have hNM : N < M := by rw [← hM]; exact hk1.lt
  have hk3 := hk1.kept (hb2.block N hNM)
  have HSZ := Lib.hid (show (Tryd.prog.info? 32).map (·.size) = some 31 from by kernel_rfl)
  have HO1 : Hid ((msgA kd to sq 0 0 0 0 0 0 0).all (·.oneCell') = true) := (by first | rfl | (unfold msgA; simp [Value.oneCell']) : (msgA kd to sq 0 0 0 0 0 0 0).all (·.oneCell') = true)
  have HO2 : Hid ((msgA 0 0 0 0 0 0 0 0 0 0).toList.toArray.size = (msgA kd to sq 0 0 0 0 0 0 0).size) := rfl
  have HN := Lib.hid hN
  have HB := Lib.hid (hb1.trans (hb2.mono (Nat.le_of_lt hNM)))
  have HLE : Hid (N ≤ M) := Nat.le_of_lt hNM
  have HK2 := Lib.hid hk2
  have n1 : N ≠ M := by omega
  have n2 : M ≠ N := by omega
  have c0 := hk3.cell 0
  dsimp only [msgA, drA, ordA, Array.toList, List.getElem?_cons_zero, List.getElem?_cons_succ] at c0
  dsimp only [msgA] at hw2
  clear hb1 hb2 hk1 hk2 hk3 hNM
  go_enter Tryd.func47, Tryd.ntmps47
  go_wp2_with (refine wpList_store_row rfl 32 (.tmp 6) (.tmp 11) rfl M (msgA kd to sq 0 0 0 0 0 0 0) rfl rfl 32 _ HK2.out HSZ.out HO2.out HO1.out ?_)
  refine bodyPost_ret (results_cell_row Tryd.results47 _ _ M 32 (msgA kd to sq 0 0 0 0 0 0 0) (0, 0) _ rfl (setRow_heap _ _ _ _ _ _ HK2.out) Tryd.underlying32 rfl HSZ.out) rfl ?_
  exact ⟨rfl, by rw [HN.out]; exact below_setRow HB.out HLE.out _⟩
set_option maxHeartbeats 4000000 in
set_option maxRecDepth 100000 in
theorem zero_zero (W : World) : Calls Tryd.prog 55 #[.agg (ordA 0 0 0 0 0)] W fun en w' => en = .returned (.bool true) ∧ Below W.heap.size W w' := by
  obtain ⟨N, hN⟩ : ∃ N, W.heap.size = N := ⟨_, rfl⟩
  obtain ⟨w1, hw1⟩ : ∃ w1, W.alloc (.cells (ordA 0 0 0 0 0) 30) = w1 := ⟨_, rfl⟩
  have hb1 : Below N W w1 := by rw [← hw1, ← hN]; exact (Below.refl _ W).alloc (Nat.le_refl _) _
  have hk1 : Blk w1 N 30 (ordA 0 0 0 0 0).toList := by rw [← hw1, ← hN]; exact Blk.new W _ _
  obtain ⟨M, hM⟩ : ∃ M, w1.heap.size = M := ⟨_, rfl⟩
  obtain ⟨w2, hw2⟩ : ∃ w2, w1.alloc (.cells #[.int .i64 0, .int .i64 0, .int .i64 0, .int .i64 0, .int .i64 0, .int .i64 0, .slice none 0 0] 24) = w2 := ⟨_, rfl⟩
  have hb2 : Below M w1 w2 := by rw [← hw2, ← hM]; exact (Below.refl _ w1).alloc (Nat.le_refl _) _
  have hk2 : Blk w2 M 24 [.int .i64 0, .int .i64 0, .int .i64 0, .int .i64 0, .int .i64 0, .int .i64 0, .slice none 0 0] := by rw [← hw2, ← hM]; exact Blk.new w1 _ _
  have hNM : N < M := by rw [← hM]; exact hk1.lt
  have n1 : N ≠ M := by omega
  have n2 : M ≠ N := by omega
  have HLE : Hid (N ≤ M) := Nat.le_of_lt hNM
  have HBX : Hid (Below N W w2) := hb1.trans (hb2.mono (Nat.le_of_lt hNM))
  obtain ⟨w3, hw3⟩ : ∃ w3, (((((((w2.setCell ⟨M, 0, none⟩ (.int .i64 0)).setCell ⟨M, 1, none⟩ (.int .i64 0)).setCell ⟨M, 2, none⟩ (.int .i64 0)).setCell ⟨M, 3, none⟩ (.int .i64 0)).setCell ⟨M, 4, none⟩ (.int .i64 0)).setCell ⟨M, 5, none⟩ (.int .i64 0)).setCell ⟨M, 6, none⟩ (.slice none 0 0)) = w3 := ⟨_, rfl⟩
  have hb3 : Below N W w3 := by rw [← hw3]; exact (((((((HBX.out.setCell (p := ⟨M, 0, none⟩) HLE.out _).setCell (p := ⟨M, 1, none⟩) HLE.out _).setCell (p := ⟨M, 2, none⟩) HLE.out _).setCell (p := ⟨M, 3, none⟩) HLE.out _).setCell (p := ⟨M, 4, none⟩) HLE.out _).setCell (p := ⟨M, 5, none⟩) HLE.out _).setCell (p := ⟨M, 6, none⟩) HLE.out _)
  have hk3 : Blk w3 M 24 [.int .i64 0, .int .i64 0, .int .i64 0, .int .i64 0, .int .i64 0, .int .i64 0, .slice none 0 0] := by rw [← hw3]; exact (((((((hk2.set 0 (.int .i64 0)).set 1 (.int .i64 0)).set 2 (.int .i64 0)).set 3 (.int .i64 0)).set 4 (.int .i64 0)).set 5 (.int .i64 0)).set 6 (.slice none 0 0))
  have hk4 : Blk w3 N 30 (ordA 0 0 0 0 0).toList := by
    rw [← hw3]
    have := hk1.kept (hb2.block N hNM)
    iterate 7 refine Blk.other ?_ _ (show M ≠ N by omega) _
    exact this
  obtain ⟨L, hL⟩ : ∃ L, w3.heap.size = L := ⟨_, rfl⟩
  obtain ⟨w4, hw4⟩ : ∃ w4, w3.alloc (.cells #[.int .i64 0, .int .i64 0, .int .i64 0, .int .i64 0, .int .i64 0, .int .i64 0] 144) = w4 := ⟨_, rfl⟩
  have hb4 : Below L w3 w4 := by rw [← hw4, ← hL]; exact (Below.refl _ w3).alloc (Nat.le_refl _) _
  have hk5 : Blk w4 L 144 [.int .i64 0, .int .i64 0, .int .i64 0, .int .i64 0, .int .i64 0, .int .i64 0] := by rw [← hw4, ← hL]; exact Blk.new w3 _ _
  have hNL : N < L := by rw [← hL]; exact hk4.lt
  have hk6 := hk4.kept (hb4.block N hNL)
  have HB4 : Hid (Below N W w4) := hb3.trans (hb4.mono (Nat.le_of_lt hNL))
  have HLL : Hid (N ≤ L) := Nat.le_of_lt hNL
  have n3 : N ≠ L := by omega
  have n4 : L ≠ N := by omega
  have heq : ∀ V : World, (Op.equalIn 10000 144 (.agg #[.int .i64 0, .int .i64 0, .int .i64 0, .int .i64 0, .int .i64 0, .int .i64 0]) (.agg #[.int .i64 0, .int .i64 0, .int .i64 0, .int .i64 0, .int .i64 0, .int .i64 0])).run Tryd.prog V = .ok true V := fun V => by kernel_rfl
  have HN := Lib.hid hN
  have c6 := hk1.cell 6
  have c7 := hk1.cell 7
  have c8 := hk1.cell 8
  have c9 := hk1.cell 9
  have c10 := hk1.cell 10
  have c11 := hk1.cell 11
  have c12 := hk1.cell 12
  have e0 := hk3.cell 0
  have e1 := hk3.cell 1
  have e2 := hk3.cell 2
  have e3 := hk3.cell 3
  have e4 := hk3.cell 4
  have e5 := hk3.cell 5
  have e6 := hk3.cell 6

  have z0 := hk2.frozen 0
  have z1 := hk2.frozen 1
  have z2 := hk2.frozen 2
  have z3 := hk2.frozen 3
  have z4 := hk2.frozen 4
  have z5 := hk2.frozen 5
  have z6 := hk2.frozen 6
  have b0 := hk2.cell 0
  have b1 := hk2.cell 1
  have b2 := hk2.cell 2
  have b3 := hk2.cell 3
  have b4 := hk2.cell 4
  have b5 := hk2.cell 5
  have b6 := hk2.cell 6
  have d0 := hk4.cell 0
  have d1 := hk4.cell 1
  have d2 := hk4.cell 2
  have d3 := hk4.cell 3
  have d4 := hk4.cell 4
  have d5 := hk4.cell 5
  have g0 := hk6.cell 0
  have g1 := hk6.cell 1
  have g2 := hk6.cell 2
  have g3 := hk6.cell 3
  have g4 := hk6.cell 4
  have g5 := hk6.cell 5
  have g6 := hk6.cell 6
  have g7 := hk6.cell 7
  have g8 := hk6.cell 8
  have g9 := hk6.cell 9
  have g10 := hk6.cell 10
  have g11 := hk6.cell 11
  have g12 := hk6.cell 12
  have g13 := hk6.cell 13
  have g14 := hk6.cell 14
  have g15 := hk6.cell 15
  have g16 := hk6.cell 16
  have g17 := hk6.cell 17
  have g18 := hk6.cell 18
  have g19 := hk6.cell 19
  have g20 := hk6.cell 20
  have g21 := hk6.cell 21
  have g22 := hk6.cell 22
  have g23 := hk6.cell 23
  have g24 := hk6.cell 24
  have g25 := hk6.cell 25
  have y0 := hk5.frozen 0
  have y1 := hk5.frozen 1
  have y2 := hk5.frozen 2
  have y3 := hk5.frozen 3
  have y4 := hk5.frozen 4
  have y5 := hk5.frozen 5
  have x0 := hk5.cell 0
  have x1 := hk5.cell 1
  have x2 := hk5.cell 2
  have x3 := hk5.cell 3
  have x4 := hk5.cell 4
  have x5 := hk5.cell 5
  dsimp only [msgA, drA, ordA, Array.toList, List.getElem?_cons_zero, List.getElem?_cons_succ] at c6 c7 c8 c9 c10 c11 c12 e0 e1 e2 e3 e4 e5 e6 b0 b1 b2 b3 b4 b5 b6 d0 d1 d2 d3 d4 d5 g0 g1 g2 g3 g4 g5 g6 g7 g8 g9 g10 g11 g12 g13 g14 g15 g16 g17 g18 g19 g20 g21 g22 g23 g24 g25 x0 x1 x2 x3 x4 x5
  dsimp only [ordA] at hw1 ⊢
  clear hb1 hb2 hk1 hk2 hk3 hk4 hk5 hk6 hNM hb3 hb4 hNL
  go_enter Tryd.func55, Tryd.ntmps55
  go_wp2_with fail
  go_ret
  exact ⟨rfl, by rw [HN.out]; exact ((((((HB4.out.setCell (p := ⟨L, 0, none⟩) HLL.out _).setCell (p := ⟨L, 1, none⟩) HLL.out _).setCell (p := ⟨L, 2, none⟩) HLL.out _).setCell (p := ⟨L, 3, none⟩) HLL.out _).setCell (p := ⟨L, 4, none⟩) HLL.out _).setCell (p := ⟨L, 5, none⟩) HLL.out _)⟩
end Go.Proofs.YtjkiidhnmljmbaaDoor
