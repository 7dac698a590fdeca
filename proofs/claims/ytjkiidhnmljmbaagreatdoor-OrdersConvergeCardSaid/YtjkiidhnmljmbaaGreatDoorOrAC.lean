/- Orders: the orders that drop an entry: their cells, and that they are valid. -/
import Derived.WalkKit
import Derived.WalkSpells
import Derived.RegionTactic
import Derived.IntWalk
import Derived.Outline
import Derived.Lib.Hide
import Derived.Deep.MidRow
import Derived.LoopTactic
import Derived.WalkLawsBesides
import Derived.Test.YtjkiidhnmljmbaaGreatDoorTb
import Derived.Test.YtjkiidhnmljmbaaGreatDoorProg
set_option linter.unusedVariables false
set_option linter.unusedSimpArgs false
set_option maxRecDepth 100000
set_option maxHeartbeats 4000000
namespace Go.Proofs.YtjkiidhnmljmbaaGreatDoor
open Go.RowKit
def ordA (s ch f k e : Int) : Array Value := (aD s ch f k e)
def drA (s f : Int) : Array Value := ordA s (-1) f 2 1
theorem exists_any (n : Int) (w : World) : Calls Tryz.prog 62 #[.int .i64 n] w fun e w' => e = .returned (.bool (decide (0 ≤ n ∧ n < 3))) ∧ w = w' := by
 rcases (show n < 0 ∨ (0 ≤ n ∧ n < 3) ∨ (0 ≤ n ∧ ¬ n < 3) from by omega) with h | ⟨h, h2⟩ | ⟨h, h2⟩
 ·have q : decide (0 ≤ n ∧ n < 3) = false := decide_eq_false (by omega)
  have q2 : ¬ n ≥ 0 := by omega
  rw [q]
  go_enter Tryz.func62, Tryz.ntmps62
  go_wp2_with fail
  go_ret;exact ⟨rfl, rfl⟩
 ·have q : decide (0 ≤ n ∧ n < 3) = true := decide_eq_true (by omega)
  have q2 : n ≥ 0 := by omega
  rw [q]
  go_enter Tryz.func62, Tryz.ntmps62
  go_wp2_with fail
  go_ret;exact ⟨rfl, rfl⟩
 ·have q : decide (0 ≤ n ∧ n < 3) = false := decide_eq_false (by omega)
  have q2 : n ≥ 0 := by omega
  rw [q]
  go_enter Tryz.func62, Tryz.ntmps62
  go_wp2_with fail
  go_ret;exact ⟨rfl, rfl⟩
theorem isID_one (w : World) : Calls Tryz.prog 86 #[.int .i64 1] w fun e w' => e = .returned (.bool true) ∧ w = w' := by
 go_enter Tryz.func86, Tryz.ntmps86
 go_wp2_with fail
 go_ret;exact ⟨rfl, rfl⟩
theorem bnl9 {N : Nat} {w W : World} (hN : w.heap.size = N) (hb : Below N w W) : N ≤ W.heap.size := hN ▸ hb.size
theorem below_setRow {B : Nat} {w W : World} (h : Below B w W) {g : Nat} (hg : B ≤ g) (cs : Array Value) : Below B w (W.setRow g cs) :=
 ⟨h.os, h.tape, h.output, Nat.le_trans h.size (by rw [size_setRow]; exact Nat.le_refl _), fun k hk => (heap_setRow_other W g k cs (by omega)).trans (h.block k hk)⟩
theorem Blk.range {W : World} {g : Nat} {t : TypeId} {l : List Value} (h : Blk W g t l) : W.rangeAt g 0 l := fun j v hj => by
 rw [Nat.zero_add, h.cell j];exact hj
theorem wpList_load_midG {P : Program} {ops : Array Oper} {rest : List Oper} {op : Oper} {a : Act} {w : World} {Q : Exit → Act → World → Prop} (hw : Region.wanted op (yielded ops a.tmps) = true) (ty : TypeId) (x : Operand) (ho : op.op = .load ty x)
  (b o : Nat) (hx : a.eval x = .pointer (some ⟨b, o, none⟩)) (cs : List Value) (d : TypeDesc) (hc : w.rangeAt b o cs)
  (hu : P.underlying ty = some d) (hd : d.isRow = true) (hi : (P.info? ty).map (·.size) = some cs.length)
  (h : wpList P ops Q rest (a.put op.dst (.agg cs.toArray)) w) : wpList P ops Q (op :: rest) a w := by
 unfold wpList
 rw [if_pos hw]
 exact .inl (wp_load_mid ty x ho b o hx cs d hc hu hd hi h)
theorem drop_any (s f : Int) (W : World) : Calls Tryz.prog 26 #[.int .i64 s, .int .i64 f] W fun e w' => e = .returned (.agg (drA s f)) ∧ Below W.heap.size W w' := by
 obtain ⟨N, w1, hN, hw1, hb1, k1⟩ := bx W (ordA 0 0 0 0 0) (ordA 0 0 0 0 0).toList 30 rfl
 have HN := Lib.hid hN;have HB1 := Lib.hid hb1;have HK := Lib.hid k1
 have hsz : (Tryz.prog.info? 30).map (·.size) = some 26 := by kernel_rfl
 have HSZ := Lib.hid hsz
 dsimp only [ordA] at hw1
 have HO1 : Hid ((drA s f).all (·.oneCell') = true) := (by first | rfl | (unfold drA ordA; simp [Value.oneCell']) : (drA s f).all (·.oneCell') = true)
 have HO2 : Hid ((ordA 0 0 0 0 0).toList.toArray.size = (drA s f).size) := rfl
 clear hb1 k1 hsz
 go_enter Tryz.func26, Tryz.ntmps26
 go_wp2_with (refine wpList_store_row rfl 30 (.tmp 4) (.tmp 7) rfl N (drA s f) rfl rfl 30 _ HK.out HSZ.out HO2.out HO1.out ?_)
 refine bodyPost_ret (results_cell_row Tryz.results26 _ _ N 30 (drA s f) (0, 0) _ rfl (setRow_heap _ _ _ _ _ _ HK.out) Tryz.underlying30 rfl HSZ.out) rfl ?_
 exact ⟨rfl, by rw [HN.out]; exact below_setRow HB1.out (Nat.le_refl _) _⟩
theorem blank_drop (s ch f k : Int) (W : World) : Calls Tryz.prog 87 #[.agg (ordA s ch f k 0)] W fun e w' => e = .returned (.bool true) ∧ Below W.heap.size W w' := by
 obtain ⟨N, w1, hN, hw1, hb1, hk2⟩ := bx W (ordA s ch f k 0) (ordA s ch f k 0).toList 30 rfl
 obtain ⟨M, w2, hM, hw2, hb2, hk3⟩ := bx w1 #[.int .i64 0, .int .i64 0, .int .i64 0, .int .i64 0, .int .i64 0, .int .i64 0, .slice none 0 0] [.int .i64 0, .int .i64 0, .int .i64 0, .int .i64 0, .int .i64 0, .int .i64 0, .slice none 0 0] 24 rfl
 have hNM : N < M := by rw [← hM]; exact hk2.lt
 have hk4 := hk2.kept (hb2.block N (by rw [← hM] at hNM ⊢; exact hNM))
 have HN := Lib.hid hN;have HB1 := Lib.hid hb1;have HB2 := Lib.hid hb2;have HK3 := Lib.hid hk3;have HNM := Lib.hid hNM
 have n1 : N ≠ M := by omega
 have n2 : M ≠ N := by omega
 have c0 := hk2.cell 0
 have c1 := hk2.cell 1
 have c2 := hk2.cell 2
 have c3 := hk2.cell 3
 have c4 := hk2.cell 4
 have c5 := hk2.cell 5
 have c6 := hk2.cell 6
 have c7 := hk2.cell 7
 have c8 := hk2.cell 8
 have c9 := hk2.cell 9
 have c10 := hk2.cell 10
 have c11 := hk2.cell 11
 have c12 := hk2.cell 12
 have c13 := hk2.cell 13
 have c14 := hk2.cell 14
 have c15 := hk2.cell 15
 have c16 := hk2.cell 16
 have c17 := hk2.cell 17
 have c18 := hk2.cell 18
 have c19 := hk2.cell 19
 have c20 := hk2.cell 20
 have c21 := hk2.cell 21
 have c22 := hk2.cell 22
 have c23 := hk2.cell 23
 have c24 := hk2.cell 24
 have c25 := hk2.cell 25
 have d0 := hk4.cell 0
 have d1 := hk4.cell 1
 have d2 := hk4.cell 2
 have d3 := hk4.cell 3
 have d4 := hk4.cell 4
 have d5 := hk4.cell 5
 have d6 := hk4.cell 6
 have d7 := hk4.cell 7
 have d8 := hk4.cell 8
 have d9 := hk4.cell 9
 have d10 := hk4.cell 10
 have d11 := hk4.cell 11
 have d12 := hk4.cell 12
 have d13 := hk4.cell 13
 have d14 := hk4.cell 14
 have d15 := hk4.cell 15
 have d16 := hk4.cell 16
 have d17 := hk4.cell 17
 have d18 := hk4.cell 18
 have d19 := hk4.cell 19
 have d20 := hk4.cell 20
 have d21 := hk4.cell 21
 have d22 := hk4.cell 22
 have d23 := hk4.cell 23
 have d24 := hk4.cell 24
 have d25 := hk4.cell 25
 have e0 := hk3.cell 0
 have e1 := hk3.cell 1
 have e2 := hk3.cell 2
 have e3 := hk3.cell 3
 have e4 := hk3.cell 4
 have e5 := hk3.cell 5
 have e6 := hk3.cell 6
 have z0 := hk3.frozen 0
 have z1 := hk3.frozen 1
 have z2 := hk3.frozen 2
 have z3 := hk3.frozen 3
 have z4 := hk3.frozen 4
 have z5 := hk3.frozen 5
 have z6 := hk3.frozen 6
 dsimp only [ordA, Array.toList, List.getElem?_cons_zero, List.getElem?_cons_succ] at c0 c1 c2 c3 c4 c5 c6 c7 c8 c9 c10 c11 c12 c13 c14 c15 c16 c17 c18 c19 c20 c21 c22 c23 c24 c25 d0 d1 d2 d3 d4 d5 d6 d7 d8 d9 d10 d11 d12 d13 d14 d15 d16 d17 d18 d19 d20 d21 d22 d23 d24 d25 e0 e1 e2 e3 e4 e5 e6 hw1
 dsimp only [ordA]
 clear hb1 hb2 hk2 hk3 hk4 hNM
 have HLE : Hid (N ≤ M) := Nat.le_of_lt HNM.out
 have HBX : Hid (Below N W w2) := HB1.out.trans (HB2.out.mono HLE.out)
 go_enter Tryz.func87, Tryz.ntmps87
 go_wp2_with fail
 go_ret
 exact ⟨rfl, by rw [HN.out]; exact (bwS HBX.out HLE.out)⟩
theorem valid_drop (s f : Int) (W : World) (s0 : 0 ≤ s) (s1 : s ≤ 200) (f0 : 0 ≤ f) (f1 : f ≤ 100000000) : Calls Tryz.prog 63 #[.agg (drA s f)] W fun e w' => e = .returned (.bool true) ∧ Below W.heap.size W w' := by
 obtain ⟨N, w1, hN, hw1, hb1, hk2⟩ := bx W (drA s f) (drA s f).toList 30 rfl
 obtain ⟨M, w2, hM, hw2, hb2, hk3⟩ := bx w1 (ordA 0 0 0 0 0) (ordA 0 0 0 0 0).toList 30 rfl
 have hNM : N < M := by rw [← hM]; exact hk2.lt
 have hsz : (Tryz.prog.info? 30).map (·.size) = some 26 := by kernel_rfl
 obtain ⟨w3, hw3⟩ : ∃ w3, w2.setRow M (drA s f) = w3 := ⟨_, rfl⟩
 have hk4 : Blk w3 M 30 (drA s f).toList := by rw [← hw3]; exact hk3.setRow _
 have hk5 : Blk w3 N 30 (drA s f).toList := (hk2.kept (hb2.block N (by omega))).kept (by rw [← hw3]; exact heap_setRow_other _ _ _ _ (by omega))
 have hb3 : Below N W w3 := by rw [← hw3]; exact below_setRow (hb1.trans (hb2.mono (Nat.le_of_lt hNM))) (Nat.le_of_lt hNM) _
 have HSZ := Lib.hid hsz
 have HO1 : Hid ((drA s f).all (·.oneCell') = true) := (by first | rfl | (unfold drA ordA; simp [Value.oneCell']) : (drA s f).all (·.oneCell') = true)
 have HO2 : Hid ((ordA 0 0 0 0 0).toList.toArray.size = (drA s f).size) := rfl
 have HB3 := Lib.hid hb3;have HN := Lib.hid hN
 have HLE : Hid (N ≤ M) := Nat.le_of_lt hNM
 have HK2 := Lib.hid hk2;have HK3 := Lib.hid hk3;have HK4 := Lib.hid hk4;have HW3 := Lib.hid hw3
 have n1 : N ≠ M := by omega
 have n2 : M ≠ N := by omega
 obtain ⟨w5, hw5⟩ : ∃ w5, w3.setCell ⟨M, 4, none⟩ (.int .i64 0) = w5 := ⟨_, rfl⟩
 have hk6 : Blk w5 M 30 (ordA s (-1) f 2 0).toList := by rw [← hw5]; exact hk4.set 4 (.int .i64 0)
 have HBL := Lib.hid (fun W => blank_drop s (-1) f 2 W)
 have HB4 : Hid (Below N W w5) := by rw [← hw5]; exact hb3.setCell (p := ⟨M, 4, none⟩) (Nat.le_of_lt hNM) _
 have c0 := hk2.cell 0
 have c1 := hk2.cell 1
 have c2 := hk2.cell 2
 have d3 := hk5.cell 3
 have d4 : w5.cell? ⟨N, 4, none⟩ = some (.int .i64 1) := by rw [← hw5]; exact (hk5.other ⟨M, 4, none⟩ (show M ≠ N by omega) (.int .i64 0)).cell 4
 have y4 := hk4.cell 4
 have z4 := hk4.frozen 4
 have HR6 := Lib.hid hk6.range
 have q1 : ¬ s < 0 := by omega
 have q2 : ¬ s > 200 := by omega
 have q3 : ¬ f < 0 := by omega
 have q4 : ¬ f > 100000000 := by omega
 dsimp only [drA, ordA, Array.toList, List.getElem?_cons_zero, List.getElem?_cons_succ] at c0 c1 c2 d3 d4 y4 hw1 hw2
 dsimp only [drA, ordA]
 clear hb1 hb2 hk2 hk3 hk4 hk5 hk6 hNM hsz hb3 hw3
 go_enter Tryz.func63, Tryz.ntmps63
 go_wp2_with (first | (refine wpList_load_mid rfl 30 (.tmp 1) rfl N 0 rfl (drA s f).toList _ HK2.out.range Tryz.underlying30 rfl HSZ.out ?_) | (refine wpList_store_row rfl 30 (.tmp 3) (.tmp 30) rfl M (drA s f) rfl rfl 30 _ HK3.out HSZ.out HO2.out HO1.out ?_; rw [HW3.out]))
 refine (isID_one _).mono ?_
 rintro e w' ⟨rfl, rfl⟩
 go_wp2_with (refine wpList_load_midG rfl 30 (.tmp 3) rfl M 0 rfl (ordA s (-1) f 2 0).toList _ HR6.out Tryz.underlying30 rfl HSZ.out ?_)
 refine (HBL.out _).mono ?_
 rintro e w' ⟨rfl, hb⟩
 go_wp2_with fail
 go_ret
 exact ⟨rfl, by rw [HN.out]; exact HB4.out.trans (hb.mono (Nat.le_trans (bnl9 HN.out HB4.out) (Nat.le_refl _)))⟩
def msgA (kd to sq fr n s ch f k e : Int) : Array Value := #[.int .i64 kd, .int .i64 to, .int .i64 sq, .int .i64 fr, .int .i64 n, .int .i64 s, .int .i64 ch, .int .i64 f, .int .i64 k, .int .i64 e, .int .i64 0, .int .i64 0, .int .i64 0, .int .i64 0, .int .i64 0, .int .i64 0, .int .i64 0, .slice none 0 0, .int .i64 0, .int .i64 0, .int .i64 0, .int .i64 0, .int .i64 0, .int .i64 0, .int .i64 0, .int .i64 0, .int .i64 0, .int .i64 0, .int .i64 0, .int .i64 0, .string ⟨#[]⟩]
theorem Blk.rangeO {W : World} {g : Nat} {t : TypeId} {l cs : List Value} (h : Blk W g t l) (o : Nat) (hc : (l.drop o).take cs.length = cs) : W.rangeAt g o cs := fun j v hj => by
 have hl := (List.getElem?_eq_some_iff.1 hj).1
 rw [h.cell, ← hj, ← hc, List.getElem?_take, if_pos hl, List.getElem?_drop]
theorem own_any (s ch f k e : Int) (W : World) : Calls Tryz.prog 56 #[.agg (ordA s ch f k e)] W fun en w' => en = .returned (.agg (ordA s ch f k e)) ∧ Below W.heap.size W w' := by
 obtain ⟨N, w1, hN, hw1, hb1, hk1⟩ := bx W (ordA s ch f k e) (ordA s ch f k e).toList 30 rfl
 obtain ⟨M, w2, hM, hw2, hb2, hk2⟩ := bx w1 (ordA 0 0 0 0 0) (ordA 0 0 0 0 0).toList 30 rfl
 have hNM : N < M := by rw [← hM]; exact hk1.lt
 have hk3 : Blk w2 N 30 (ordA s ch f k e).toList := hk1.kept (hb2.block N hNM)
 obtain ⟨w3, hw3⟩ : ∃ w3, w2.setCell ⟨N, 12, none⟩ (.slice none 0 0) = w3 := ⟨_, rfl⟩
 have hk4 : Blk w3 N 30 (ordA s ch f k e).toList := by rw [← hw3]; exact hk3.set 12 (.slice none 0 0)
 have hk5 : Blk w3 M 30 (ordA 0 0 0 0 0).toList := by rw [← hw3]; exact hk2.other ⟨N, 12, none⟩ (show N ≠ M by omega) _
 have hb3 : Below N W w3 := by rw [← hw3]; exact (hb1.trans (hb2.mono (Nat.le_of_lt hNM))).setCell (p := ⟨N, 12, none⟩) (Nat.le_refl _) _
 have HSZ := szO
 have HO1 : Hid ((ordA s ch f k e).all (·.oneCell') = true) := (by first | rfl | (unfold ordA; simp [Value.oneCell']) : (ordA s ch f k e).all (·.oneCell') = true)
 have HO2 : Hid ((ordA 0 0 0 0 0).toList.toArray.size = (ordA s ch f k e).size) := rfl
 have HN := Lib.hid hN;have HB3 := Lib.hid hb3
 have HLE : Hid (N ≤ M) := Nat.le_of_lt hNM
 have HR4 := Lib.hid hk4.range;have HK5 := Lib.hid hk5
 have n1 : N ≠ M := by omega
 have n2 : M ≠ N := by omega
 have c12 := hk3.cell 12
 have z12 := hk3.frozen 12
 dsimp only [msgA, drA, ordA, Array.toList, List.getElem?_cons_zero, List.getElem?_cons_succ] at c12
 dsimp only [ordA] at hw1 hw2 ⊢
 clear hb1 hb2 hk1 hk2 hk3 hk4 hk5 hNM hb3
 go_enter Tryz.func56, Tryz.ntmps56
 go_wp2_with (first | (refine wpList_load_mid rfl 30 (.tmp 1) rfl N 0 rfl (ordA s ch f k e).toList _ HR4.out Tryz.underlying30 rfl HSZ.out ?_) | (refine wpList_store_row rfl 30 (.tmp 2) (.tmp 9) rfl M (ordA s ch f k e) rfl rfl 30 _ HK5.out HSZ.out HO2.out HO1.out ?_))
 refine bodyPost_ret (results_cell_row Tryz.results56 _ _ M 30 (ordA s ch f k e) (0, 0) _ rfl (setRow_heap _ _ _ _ _ _ HK5.out) Tryz.underlying30 rfl HSZ.out) rfl ?_
 exact ⟨rfl, by rw [HN.out]; exact below_setRow HB3.out HLE.out _⟩
theorem message_any (to kd sq : Int) (W : World) : Calls Tryz.prog 60 #[.agg #[.int .i64 to], .int .i64 kd, .int .i64 sq] W fun en w' => en = .returned (.agg (msgA kd to sq 0 0 0 0 0 0 0)) ∧ Below W.heap.size W w' := by
 obtain ⟨N, w1, hN, hw1, hb1, hk1⟩ := bx W #[.int .i64 to] [.int .i64 to] 112 rfl
 obtain ⟨M, w2, hM, hw2, hb2, hk2⟩ := bx w1 (msgA 0 0 0 0 0 0 0 0 0 0) (msgA 0 0 0 0 0 0 0 0 0 0).toList 32 rfl
 have hNM : N < M := by rw [← hM]; exact hk1.lt
 have hk3 := hk1.kept (hb2.block N hNM)
 have HSZ := szM
 have HO1 : Hid ((msgA kd to sq 0 0 0 0 0 0 0).all (·.oneCell') = true) := (by first | rfl | (unfold msgA; simp [Value.oneCell']) : (msgA kd to sq 0 0 0 0 0 0 0).all (·.oneCell') = true)
 have HO2 : Hid ((msgA 0 0 0 0 0 0 0 0 0 0).toList.toArray.size = (msgA kd to sq 0 0 0 0 0 0 0).size) := rfl
 have HN := Lib.hid hN
 have HB := Lib.hid (hb1.trans (hb2.mono (Nat.le_of_lt hNM)))
 have HLE : Hid (N ≤ M) := Nat.le_of_lt hNM
 have HK2 := Lib.hid hk2
 have n1 : N ≠ M := by omega
 have n2 : M ≠ N := by omega
 have c0 := hk3.cell 0
 dsimp only [msgA, drA, ordA, Array.toList, List.getElem?_cons_zero, List.getElem?_cons_succ] at c0
 dsimp only [msgA] at hw2
 clear hb1 hb2 hk1 hk2 hk3 hNM
 go_enter Tryz.func60, Tryz.ntmps60
 go_wp2_with (refine wpList_store_row rfl 32 (.tmp 6) (.tmp 11) rfl M (msgA kd to sq 0 0 0 0 0 0 0) rfl rfl 32 _ HK2.out HSZ.out HO2.out HO1.out ?_)
 refine bodyPost_ret (results_cell_row Tryz.results60 _ _ M 32 (msgA kd to sq 0 0 0 0 0 0 0) (0, 0) _ rfl (setRow_heap _ _ _ _ _ _ HK2.out) Tryz.underlying32 rfl HSZ.out) rfl ?_
 exact ⟨rfl, by rw [HN.out]; exact below_setRow HB.out HLE.out _⟩
theorem zero_zero (W : World) : Calls Tryz.prog 64 #[.agg (ordA 0 0 0 0 0)] W fun en w' => en = .returned (.bool true) ∧ Below W.heap.size W w' := by
 obtain ⟨N, w1, hN, hw1, hb1, hk1⟩ := bx W (ordA 0 0 0 0 0) (ordA 0 0 0 0 0).toList 30 rfl
 obtain ⟨M, w2, hM, hw2, hb2, hk2⟩ := bx w1 #[.int .i64 0, .int .i64 0, .int .i64 0, .int .i64 0, .int .i64 0, .int .i64 0, .slice none 0 0] [.int .i64 0, .int .i64 0, .int .i64 0, .int .i64 0, .int .i64 0, .int .i64 0, .slice none 0 0] 24 rfl
 have hNM : N < M := by rw [← hM]; exact hk1.lt
 have n1 : N ≠ M := by omega
 have n2 : M ≠ N := by omega
 have HLE : Hid (N ≤ M) := Nat.le_of_lt hNM
 have HBX : Hid (Below N W w2) := hb1.trans (hb2.mono (Nat.le_of_lt hNM))
 obtain ⟨w3, hw3⟩ : ∃ w3, (((((((w2.setCell ⟨M, 0, none⟩ (.int .i64 0)).setCell ⟨M, 1, none⟩ (.int .i64 0)).setCell ⟨M, 2, none⟩ (.int .i64 0)).setCell ⟨M, 3, none⟩ (.int .i64 0)).setCell ⟨M, 4, none⟩ (.int .i64 0)).setCell ⟨M, 5, none⟩ (.int .i64 0)).setCell ⟨M, 6, none⟩ (.slice none 0 0)) = w3 := ⟨_, rfl⟩
 have hb3 : Below N W w3 := by rw [← hw3]; exact (bwS HBX.out HLE.out)
 have hk3 : Blk w3 M 24 [.int .i64 0, .int .i64 0, .int .i64 0, .int .i64 0, .int .i64 0, .int .i64 0, .slice none 0 0] := by rw [← hw3]; exact (((((((hk2.set 0 (.int .i64 0)).set 1 (.int .i64 0)).set 2 (.int .i64 0)).set 3 (.int .i64 0)).set 4 (.int .i64 0)).set 5 (.int .i64 0)).set 6 (.slice none 0 0))
 have hk4 : Blk w3 N 30 (ordA 0 0 0 0 0).toList := by
  rw [← hw3]
  have := hk1.kept (hb2.block N hNM)
  iterate 7 refine Blk.other ?_ _ (show M ≠ N by omega) _
  exact this
 obtain ⟨L, w4, hL, hw4, hb4, hk5⟩ := bx w3 #[.int .i64 0, .int .i64 0, .int .i64 0, .int .i64 0, .int .i64 0, .int .i64 0] [.int .i64 0, .int .i64 0, .int .i64 0, .int .i64 0, .int .i64 0, .int .i64 0] 162 rfl
 have hNL : N < L := by rw [← hL]; exact hk4.lt
 have hk6 := hk4.kept (hb4.block N hNL)
 have HB4 : Hid (Below N W w4) := hb3.trans (hb4.mono (Nat.le_of_lt hNL))
 have HLL : Hid (N ≤ L) := Nat.le_of_lt hNL
 have n3 : N ≠ L := by omega
 have n4 : L ≠ N := by omega
 have heq : ∀ V : World, (Op.equalIn 10000 162 (.agg #[.int .i64 0, .int .i64 0, .int .i64 0, .int .i64 0, .int .i64 0, .int .i64 0]) (.agg #[.int .i64 0, .int .i64 0, .int .i64 0, .int .i64 0, .int .i64 0, .int .i64 0])).run Tryz.prog V = .ok true V := fun V => by kernel_rfl
 have HN := Lib.hid hN
 have c6 := hk1.cell 6
 have c7 := hk1.cell 7
 have c8 := hk1.cell 8
 have c9 := hk1.cell 9
 have c10 := hk1.cell 10
 have c11 := hk1.cell 11
 have c12 := hk1.cell 12
 have e0 := hk3.cell 0
 have e1 := hk3.cell 1
 have e2 := hk3.cell 2
 have e3 := hk3.cell 3
 have e4 := hk3.cell 4
 have e5 := hk3.cell 5
 have e6 := hk3.cell 6

 have z0 := hk2.frozen 0
 have z1 := hk2.frozen 1
 have z2 := hk2.frozen 2
 have z3 := hk2.frozen 3
 have z4 := hk2.frozen 4
 have z5 := hk2.frozen 5
 have z6 := hk2.frozen 6
 have b0 := hk2.cell 0
 have b1 := hk2.cell 1
 have b2 := hk2.cell 2
 have b3 := hk2.cell 3
 have b4 := hk2.cell 4
 have b5 := hk2.cell 5
 have b6 := hk2.cell 6
 have d0 := hk4.cell 0
 have d1 := hk4.cell 1
 have d2 := hk4.cell 2
 have d3 := hk4.cell 3
 have d4 := hk4.cell 4
 have d5 := hk4.cell 5
 have g0 := hk6.cell 0
 have g1 := hk6.cell 1
 have g2 := hk6.cell 2
 have g3 := hk6.cell 3
 have g4 := hk6.cell 4
 have g5 := hk6.cell 5
 have g6 := hk6.cell 6
 have g7 := hk6.cell 7
 have g8 := hk6.cell 8
 have g9 := hk6.cell 9
 have g10 := hk6.cell 10
 have g11 := hk6.cell 11
 have g12 := hk6.cell 12
 have g13 := hk6.cell 13
 have g14 := hk6.cell 14
 have g15 := hk6.cell 15
 have g16 := hk6.cell 16
 have g17 := hk6.cell 17
 have g18 := hk6.cell 18
 have g19 := hk6.cell 19
 have g20 := hk6.cell 20
 have g21 := hk6.cell 21
 have g22 := hk6.cell 22
 have g23 := hk6.cell 23
 have g24 := hk6.cell 24
 have g25 := hk6.cell 25
 have y0 := hk5.frozen 0
 have y1 := hk5.frozen 1
 have y2 := hk5.frozen 2
 have y3 := hk5.frozen 3
 have y4 := hk5.frozen 4
 have y5 := hk5.frozen 5
 have x0 := hk5.cell 0
 have x1 := hk5.cell 1
 have x2 := hk5.cell 2
 have x3 := hk5.cell 3
 have x4 := hk5.cell 4
 have x5 := hk5.cell 5
 dsimp only [msgA, drA, ordA, Array.toList, List.getElem?_cons_zero, List.getElem?_cons_succ] at c6 c7 c8 c9 c10 c11 c12 e0 e1 e2 e3 e4 e5 e6 b0 b1 b2 b3 b4 b5 b6 d0 d1 d2 d3 d4 d5 g0 g1 g2 g3 g4 g5 g6 g7 g8 g9 g10 g11 g12 g13 g14 g15 g16 g17 g18 g19 g20 g21 g22 g23 g24 g25 x0 x1 x2 x3 x4 x5
 dsimp only [ordA] at hw1 ⊢
 clear hb1 hb2 hk1 hk2 hk3 hk4 hk5 hk6 hNM hb3 hb4 hNL
 go_enter Tryz.func64, Tryz.ntmps64
 go_wp2_with fail
 go_ret
 exact ⟨rfl, by rw [HN.out]; exact ((((((HB4.out.setCell (p := ⟨L, 0, none⟩) HLL.out _).setCell (p := ⟨L, 1, none⟩) HLL.out _).setCell (p := ⟨L, 2, none⟩) HLL.out _).setCell (p := ⟨L, 3, none⟩) HLL.out _).setCell (p := ⟨L, 4, none⟩) HLL.out _).setCell (p := ⟨L, 5, none⟩) HLL.out _)⟩
theorem valid_ord (to sq f : Int) (W : World) (t0 : 0 ≤ to) (t1 : to < 3) (s0 : 1 ≤ sq) (s1 : sq ≤ 200) (f0 : 0 ≤ f) (f1 : f ≤ 100000000) : Calls Tryz.prog 28 #[.agg (msgA 1 to sq 0 0 sq (-1) f 2 1)] W fun en w' => en = .returned (.bool true) ∧ Below W.heap.size W w' := by
 obtain ⟨N, w1, hN, hw1, hb1, hk1⟩ := bx W (msgA 1 to sq 0 0 sq (-1) f 2 1) (msgA 1 to sq 0 0 sq (-1) f 2 1).toList 32 rfl
 have HSZ := szO
 have HR : Hid (w1.rangeAt N 5 (drA sq f).toList) := hk1.rangeO 5 rfl
 have HEX : Hid (∀ W', Calls Tryz.prog 62 #[.int .i64 to] W' fun e w' => e = .returned (.bool true) ∧ W' = w') := fun W' => by
  have := exists_any to W'
  rw [decide_eq_true (show 0 ≤ to ∧ to < 3 from ⟨by omega, by omega⟩)] at this;exact this
 have HV := Lib.hid (fun W' => valid_drop sq f W' (by omega) s1 f0 f1)
 have HN := Lib.hid hN;have HB1 := Lib.hid hb1
 have c0 := hk1.cell 0
 have c1 := hk1.cell 1
 have c2 := hk1.cell 2
 have c3 := hk1.cell 3
 have c4 := hk1.cell 4
 have c5 := hk1.cell 5
 have q1 : sq ≥ 1 := s0
 dsimp only [msgA, drA, ordA, Array.toList, List.getElem?_cons_zero, List.getElem?_cons_succ] at c0 c1 c2 c3 c4 c5
 dsimp only [msgA, drA, ordA] at hw1
 dsimp only [msgA]
 clear hb1 hk1
 go_enter Tryz.func28, Tryz.ntmps28
 go_wp2_with fail
 refine (HEX.out _).mono ?_
 rintro e w' ⟨rfl, rfl⟩
 go_wp2_with (refine wpList_load_midG rfl 30 (.tmp 38) rfl N 5 rfl (drA sq f).toList _ HR.out Tryz.underlying30 rfl HSZ.out ?_)
 refine (HV.out _).mono ?_
 rintro e w' ⟨rfl, hb⟩
 go_wp2_with fail
 go_ret
 exact ⟨rfl, by rw [HN.out]; exact HB1.out.trans (hb.mono (bnl9 HN.out HB1.out))⟩
theorem valid_ack (to sq : Int) (W : World) (t0 : 0 ≤ to) (t1 : to < 3) (s0 : 0 ≤ sq) (s1 : sq ≤ 200) : Calls Tryz.prog 28 #[.agg (msgA 2 to sq 0 0 0 0 0 0 0)] W fun en w' => en = .returned (.bool true) ∧ Below W.heap.size W w' := by
 obtain ⟨N, w1, hN, hw1, hb1, hk1⟩ := bx W (msgA 2 to sq 0 0 0 0 0 0 0) (msgA 2 to sq 0 0 0 0 0 0 0).toList 32 rfl
 have HSZ := szO
 have HR : Hid (w1.rangeAt N 5 (ordA 0 0 0 0 0).toList) := hk1.rangeO 5 rfl
 have HEX : Hid (∀ W', Calls Tryz.prog 62 #[.int .i64 to] W' fun e w' => e = .returned (.bool true) ∧ W' = w') := fun W' => by
  have := exists_any to W'
  rw [decide_eq_true (show 0 ≤ to ∧ to < 3 from ⟨by omega, by omega⟩)] at this;exact this
 have HV := Lib.hid (fun W' => zero_zero W')
 have HN := Lib.hid hN;have HB1 := Lib.hid hb1
 have c0 := hk1.cell 0
 have c1 := hk1.cell 1
 have c2 := hk1.cell 2
 have c3 := hk1.cell 3
 have c4 := hk1.cell 4
 have c5 := hk1.cell 5
 have q1 : sq ≥ 0 := s0
 dsimp only [msgA, drA, ordA, Array.toList, List.getElem?_cons_zero, List.getElem?_cons_succ] at c0 c1 c2 c3 c4 c5
 dsimp only [msgA, drA, ordA] at hw1
 dsimp only [msgA]
 clear hb1 hk1
 go_enter Tryz.func28, Tryz.ntmps28
 go_wp2_with fail
 refine (HEX.out _).mono ?_
 rintro e w' ⟨rfl, rfl⟩
 go_wp2_with (refine wpList_load_midG rfl 30 (.tmp 63) rfl N 5 rfl (ordA 0 0 0 0 0).toList _ HR.out Tryz.underlying30 rfl HSZ.out ?_)
 refine (HV.out _).mono ?_
 rintro e w' ⟨rfl, hb⟩
 go_wp2_with fail
 go_ret
 exact ⟨rfl, by rw [HN.out]; exact HB1.out.trans (hb.mono (bnl9 HN.out HB1.out))⟩
theorem takes_ord (to sq f : Int) (W : World) (t0 : 0 ≤ to) (t1 : to < 3) (s0 : 1 ≤ sq) (s1 : sq ≤ 200) (f0 : 0 ≤ f) (f1 : f ≤ 100000000) : Calls Tryz.prog 61 #[.agg #[.int .i64 to], .agg (msgA 1 to sq 0 0 sq (-1) f 2 1), .int .i64 1] W fun en w' => en = .returned (.bool true) ∧ Below W.heap.size W w' := by
 obtain ⟨N, w1, hN, hw1, hb1, hk1⟩ := bx W #[.int .i64 to] [.int .i64 to] 112 rfl
 obtain ⟨L, w2, hL, hw2, hb2, hk2⟩ := bx w1 (msgA 1 to sq 0 0 sq (-1) f 2 1) (msgA 1 to sq 0 0 sq (-1) f 2 1).toList 32 rfl
 have hNL : N < L := by rw [← hL]; exact hk1.lt
 have hk3 := hk1.kept (hb2.block N hNL)
 have HSZ := szM
 have HR := Lib.hid hk2.range
 have HV := Lib.hid (fun W' => valid_ord to sq f W' t0 t1 s0 s1 f0 f1)
 have HN := Lib.hid hN
 have HB := Lib.hid (hb1.trans (hb2.mono (Nat.le_of_lt hNL)))
 have n1 : N ≠ L := by omega
 have n2 : L ≠ N := by omega
 have c0 := hk2.cell 0
 have c1 := hk2.cell 1
 have d0 := hk3.cell 0
 dsimp only [msgA, drA, ordA, Array.toList, List.getElem?_cons_zero, List.getElem?_cons_succ] at c0 c1 d0
 dsimp only [msgA, drA, ordA] at hw2
 dsimp only [msgA]
 clear hb1 hb2 hk1 hk2 hk3 hNL
 go_enter Tryz.func61, Tryz.ntmps61
 go_wp2_with (refine wpList_load_midG rfl 32 (.tmp 4) rfl L 0 rfl (msgA 1 to sq 0 0 sq (-1) f 2 1).toList _ HR.out Tryz.underlying32 rfl HSZ.out ?_)
 refine (HV.out _).mono ?_
 rintro e w' ⟨rfl, hb⟩
 go_wp2_with fail
 go_ret
 exact ⟨rfl, by rw [HN.out]; exact HB.out.trans (hb.mono (bnl9 HN.out HB.out))⟩
theorem takes_ack (to sq : Int) (W : World) (t0 : 0 ≤ to) (t1 : to < 3) (s0 : 0 ≤ sq) (s1 : sq ≤ 200) : Calls Tryz.prog 61 #[.agg #[.int .i64 to], .agg (msgA 2 to sq 0 0 0 0 0 0 0), .int .i64 2] W fun en w' => en = .returned (.bool true) ∧ Below W.heap.size W w' := by
 obtain ⟨N, w1, hN, hw1, hb1, hk1⟩ := bx W #[.int .i64 to] [.int .i64 to] 112 rfl
 obtain ⟨L, w2, hL, hw2, hb2, hk2⟩ := bx w1 (msgA 2 to sq 0 0 0 0 0 0 0) (msgA 2 to sq 0 0 0 0 0 0 0).toList 32 rfl
 have hNL : N < L := by rw [← hL]; exact hk1.lt
 have hk3 := hk1.kept (hb2.block N hNL)
 have HSZ := szM
 have HR := Lib.hid hk2.range
 have HV := Lib.hid (fun W' => valid_ack to sq W' t0 t1 s0 s1)
 have HN := Lib.hid hN
 have HB := Lib.hid (hb1.trans (hb2.mono (Nat.le_of_lt hNL)))
 have n1 : N ≠ L := by omega
 have n2 : L ≠ N := by omega
 have c0 := hk2.cell 0
 have c1 := hk2.cell 1
 have d0 := hk3.cell 0
 dsimp only [msgA, drA, ordA, Array.toList, List.getElem?_cons_zero, List.getElem?_cons_succ] at c0 c1 d0
 dsimp only [msgA, drA, ordA] at hw2
 dsimp only [msgA]
 clear hb1 hb2 hk1 hk2 hk3 hNL
 go_enter Tryz.func61, Tryz.ntmps61
 go_wp2_with (refine wpList_load_midG rfl 32 (.tmp 4) rfl L 0 rfl (msgA 2 to sq 0 0 0 0 0 0 0).toList _ HR.out Tryz.underlying32 rfl HSZ.out ?_)
 refine (HV.out _).mono ?_
 rintro e w' ⟨rfl, hb⟩
 go_wp2_with fail
 go_ret
 exact ⟨rfl, by rw [HN.out]; exact HB.out.trans (hb.mono (bnl9 HN.out HB.out))⟩
end Go.Proofs.YtjkiidhnmljmbaaGreatDoor
