/-
  Orders: the orders that drop an entry: their cells, and that they are valid.
-/
import Derived.WalkKit
import Derived.WalkSpells
import Derived.RegionTactic
import Derived.IntWalk
import Derived.Outline
import Derived.Lib.Hide
import Derived.Deep.MidRow
import Derived.LoopTactic
import Derived.WalkLawsBesides
import Derived.Test.YtjkiidhnmljmbaaDoorProg
import Derived.Test.YtjkiidhnmljmbaaDoorBas
set_option linter.unusedVariables false
set_option linter.unusedSimpArgs false
namespace Go.Proofs.YtjkiidhnmljmbaaDoor
open Go.RowKit
/-- The cells of an order of kind k: its number, its frame, its entry; all else is zero but the channel. -/
def ordA (s ch f k e : Int) : Array Value := #[.int .i64 s, .int .i64 ch, .int .i64 f, .int .i64 k, .int .i64 e, .int .i64 0, .int .i64 0, .int .i64 0, .int .i64 0, .int .i64 0, .int .i64 0, .int .i64 0, .slice none 0 0, .int .i64 0, .int .i64 0, .int .i64 0, .int .i64 0, .int .i64 0, .int .i64 0, .int .i64 0, .int .i64 0, .int .i64 0, .int .i64 0, .int .i64 0, .int .i64 0, .string ⟨#[]⟩]
/-- An order that drops entry 1. -/
def drA (s f : Int) : Array Value := ordA s (-1) f 2 1
set_option maxRecDepth 100000 in
theorem exists_any (n : Int) (w : World) : Calls Tryd.prog 41 #[.int .i64 n] w fun e w' => e = .returned (.bool (decide (0 ≤ n ∧ n < 3))) ∧ w = w' := by
  rcases (show n < 0 ∨ (0 ≤ n ∧ n < 3) ∨ (0 ≤ n ∧ ¬ n < 3) from by omega) with h | ⟨h, h2⟩ | ⟨h, h2⟩
  · have q : decide (0 ≤ n ∧ n < 3) = false := decide_eq_false (by omega)
    have q2 : ¬ n ≥ 0 := by omega
    rw [q]
    go_enter Tryd.func41, Tryd.ntmps41
    go_wp2_with fail
    go_ret
    exact ⟨rfl, rfl⟩
  · have q : decide (0 ≤ n ∧ n < 3) = true := decide_eq_true (by omega)
    have q2 : n ≥ 0 := by omega
    rw [q]
    go_enter Tryd.func41, Tryd.ntmps41
    go_wp2_with fail
    go_ret
    exact ⟨rfl, rfl⟩
  · have q : decide (0 ≤ n ∧ n < 3) = false := decide_eq_false (by omega)
    have q2 : n ≥ 0 := by omega
    rw [q]
    go_enter Tryd.func41, Tryd.ntmps41
    go_wp2_with fail
    go_ret
    exact ⟨rfl, rfl⟩
set_option maxRecDepth 100000 in
theorem isID_one (w : World) : Calls Tryd.prog 66 #[.int .i64 1] w fun e w' => e = .returned (.bool true) ∧ w = w' := by
  go_enter Tryd.func66, Tryd.ntmps66
  go_wp2_with fail
  go_ret
  exact ⟨rfl, rfl⟩
theorem bnl9 {N : Nat} {w W : World} (hN : w.heap.size = N) (hb : Below N w W) : N ≤ W.heap.size := hN ▸ hb.size
theorem below_setRow {B : Nat} {w W : World} (h : Below B w W) {g : Nat} (hg : B ≤ g) (cs : Array Value) : Below B w (W.setRow g cs) :=
  ⟨h.os, h.tape, h.output, Nat.le_trans h.size (by rw [size_setRow]; exact Nat.le_refl _), fun k hk => (heap_setRow_other W g k cs (by omega)).trans (h.block k hk)⟩
theorem Blk.range {W : World} {g : Nat} {t : TypeId} {l : List Value} (h : Blk W g t l) : W.rangeAt g 0 l := fun j v hj => by
  rw [Nat.zero_add, h.cell j]
  exact hj
theorem wpList_load_midG {P : Program} {ops : Array Oper} {rest : List Oper} {op : Oper} {a : Act} {w : World} {Q : Exit → Act → World → Prop} (hw : Region.wanted op (yielded ops a.tmps) = true) (ty : TypeId) (x : Operand) (ho : op.op = .load ty x)
    (b o : Nat) (hx : a.eval x = .pointer (some ⟨b, o, none⟩)) (cs : List Value) (d : TypeDesc) (hc : w.rangeAt b o cs)
    (hu : P.underlying ty = some d) (hd : d.isRow = true) (hi : (P.info? ty).map (·.size) = some cs.length)
    (h : wpList P ops Q rest (a.put op.dst (.agg cs.toArray)) w) : wpList P ops Q (op :: rest) a w := by
  unfold wpList
  rw [if_pos hw]
  exact .inl (wp_load_mid ty x ho b o hx cs d hc hu hd hi h)
set_option maxHeartbeats 4000000 in
set_option maxRecDepth 100000 in
theorem drop_any (s f : Int) (W : World) : Calls Tryd.prog 19 #[.int .i64 s, .int .i64 f] W fun e w' => e = .returned (.agg (drA s f)) ∧ Below W.heap.size W w' := by
  obtain ⟨N, hN⟩ : ∃ N, W.heap.size = N := ⟨_, rfl⟩
  obtain ⟨w1, hw1⟩ : ∃ w1, W.alloc (.cells (ordA 0 0 0 0 0) 30) = w1 := ⟨_, rfl⟩
  have hb1 : Below N W w1 := by rw [← hw1, ← hN]; exact (Below.refl _ W).alloc (Nat.le_refl _) _
  have k1 : Blk w1 N 30 (ordA 0 0 0 0 0).toList := by rw [← hw1, ← hN]; exact Blk.new W _ _
  have HN := Lib.hid hN
  have HB1 := Lib.hid hb1
  have HK := Lib.hid k1
  have hsz : (Tryd.prog.info? 30).map (·.size) = some 26 := by kernel_rfl
  have HSZ := Lib.hid hsz
  dsimp only [ordA] at hw1
  have HO1 : Hid ((drA s f).all (·.oneCell') = true) := (by first | rfl | (unfold drA ordA; simp [Value.oneCell']) : (drA s f).all (·.oneCell') = true)
  have HO2 : Hid ((ordA 0 0 0 0 0).toList.toArray.size = (drA s f).size) := rfl
  clear hb1 k1 hsz
  go_enter Tryd.func19, Tryd.ntmps19
  go_wp2_with (refine wpList_store_row rfl 30 (.tmp 4) (.tmp 7) rfl N (drA s f) rfl rfl 30 _ HK.out HSZ.out HO2.out HO1.out ?_)
  refine bodyPost_ret (results_cell_row Tryd.results19 _ _ N 30 (drA s f) (0, 0) _ rfl (setRow_heap _ _ _ _ _ _ HK.out) Tryd.underlying30 rfl HSZ.out) rfl ?_
  exact ⟨rfl, by rw [HN.out]; exact below_setRow HB1.out (Nat.le_refl _) _⟩
set_option maxHeartbeats 4000000 in
set_option maxRecDepth 100000 in
theorem blank_drop (s ch f k : Int) (W : World) : Calls Tryd.prog 67 #[.agg (ordA s ch f k 0)] W fun e w' => e = .returned (.bool true) ∧ Below W.heap.size W w' := by
  obtain ⟨N, hN⟩ : ∃ N, W.heap.size = N := ⟨_, rfl⟩
  obtain ⟨w1, hw1⟩ : ∃ w1, W.alloc (.cells (ordA s ch f k 0) 30) = w1 := ⟨_, rfl⟩
  have hb1 : Below N W w1 := by rw [← hw1, ← hN]; exact (Below.refl _ W).alloc (Nat.le_refl _) _
  have hk2 : Blk w1 N 30 (ordA s ch f k 0).toList := by rw [← hw1, ← hN]; exact Blk.new W _ _
  obtain ⟨M, hM⟩ : ∃ M, w1.heap.size = M := ⟨_, rfl⟩
  obtain ⟨w2, hw2⟩ : ∃ w2, w1.alloc (.cells #[.int .i64 0, .int .i64 0, .int .i64 0, .int .i64 0, .int .i64 0, .int .i64 0, .slice none 0 0] 24) = w2 := ⟨_, rfl⟩
  have hb2 : Below M w1 w2 := by rw [← hw2, ← hM]; exact (Below.refl _ w1).alloc (Nat.le_refl _) _
  have hk3 : Blk w2 M 24 [.int .i64 0, .int .i64 0, .int .i64 0, .int .i64 0, .int .i64 0, .int .i64 0, .slice none 0 0] := by rw [← hw2, ← hM]; exact Blk.new w1 _ _
  have hNM : N < M := by rw [← hM]; exact hk2.lt
  have hk4 := hk2.kept (hb2.block N (by rw [← hM] at hNM ⊢; exact hNM))
  have HN := Lib.hid hN
  have HB1 := Lib.hid hb1
  have HB2 := Lib.hid hb2
  have HK3 := Lib.hid hk3
  have HNM := Lib.hid hNM
  have n1 : N ≠ M := by omega
  have n2 : M ≠ N := by omega
  have c0 := hk2.cell 0
  have c1 := hk2.cell 1
  have c2 := hk2.cell 2
  have c3 := hk2.cell 3
  have c4 := hk2.cell 4
  have c5 := hk2.cell 5
  have c6 := hk2.cell 6
  have c7 := hk2.cell 7
  have c8 := hk2.cell 8
  have c9 := hk2.cell 9
  have c10 := hk2.cell 10
  have c11 := hk2.cell 11
  have c12 := hk2.cell 12
  have c13 := hk2.cell 13
  have c14 := hk2.cell 14
  have c15 := hk2.cell 15
  have c16 := hk2.cell 16
  have c17 := hk2.cell 17
  have c18 := hk2.cell 18
  have c19 := hk2.cell 19
  have c20 := hk2.cell 20
  have c21 := hk2.cell 21
  have c22 := hk2.cell 22
  have c23 := hk2.cell 23
  have c24 := hk2.cell 24
  have c25 := hk2.cell 25
  have d0 := hk4.cell 0
  have d1 := hk4.cell 1
  have d2 := hk4.cell 2
  have d3 := hk4.cell 3
  have d4 := hk4.cell 4
  have d5 := hk4.cell 5
  have d6 := hk4.cell 6
  have d7 := hk4.cell 7
  have d8 := hk4.cell 8
  have d9 := hk4.cell 9
  have d10 := hk4.cell 10
  have d11 := hk4.cell 11
  have d12 := hk4.cell 12
  have d13 := hk4.cell 13
  have d14 := hk4.cell 14
  have d15 := hk4.cell 15
  have d16 := hk4.cell 16
  have d17 := hk4.cell 17
  have d18 := hk4.cell 18
  have d19 := hk4.cell 19
  have d20 := hk4.cell 20
  have d21 := hk4.cell 21
  have d22 := hk4.cell 22
  have d23 := hk4.cell 23
  have d24 := hk4.cell 24
  have d25 := hk4.cell 25
  have e0 := hk3.cell 0
  have e1 := hk3.cell 1
  have e2 := hk3.cell 2
  have e3 := hk3.cell 3
  have e4 := hk3.cell 4
  have e5 := hk3.cell 5
  have e6 := hk3.cell 6
  have z0 := hk3.frozen 0
  have z1 := hk3.frozen 1
  have z2 := hk3.frozen 2
  have z3 := hk3.frozen 3
  have z4 := hk3.frozen 4
  have z5 := hk3.frozen 5
  have z6 := hk3.frozen 6
  dsimp only [ordA, Array.toList, List.getElem?_cons_zero, List.getElem?_cons_succ] at c0 c1 c2 c3 c4 c5 c6 c7 c8 c9 c10 c11 c12 c13 c14 c15 c16 c17 c18 c19 c20 c21 c22 c23 c24 c25 d0 d1 d2 d3 d4 d5 d6 d7 d8 d9 d10 d11 d12 d13 d14 d15 d16 d17 d18 d19 d20 d21 d22 d23 d24 d25 e0 e1 e2 e3 e4 e5 e6 hw1
  dsimp only [ordA]
  clear hb1 hb2 hk2 hk3 hk4 hNM
  have HLE : Hid (N ≤ M) := Nat.le_of_lt HNM.out
  have HBX : Hid (Below N W w2) := HB1.out.trans (HB2.out.mono HLE.out)
  go_enter Tryd.func67, Tryd.ntmps67
  go_wp2_with fail
  go_ret
  exact ⟨rfl, by rw [HN.out]; exact (((((((HBX.out.setCell (p := ⟨M, 0, none⟩) HLE.out _).setCell (p := ⟨M, 1, none⟩) HLE.out _).setCell (p := ⟨M, 2, none⟩) HLE.out _).setCell (p := ⟨M, 3, none⟩) HLE.out _).setCell (p := ⟨M, 4, none⟩) HLE.out _).setCell (p := ⟨M, 5, none⟩) HLE.out _).setCell (p := ⟨M, 6, none⟩) HLE.out _)⟩
set_option maxHeartbeats 4000000 in
set_option maxRecDepth 100000 in
theorem valid_drop (s f : Int) (W : World) (s0 : 0 ≤ s) (s1 : s ≤ 200) (f0 : 0 ≤ f) (f1 : f ≤ 100000000) : Calls Tryd.prog 43 #[.agg (drA s f)] W fun e w' => e = .returned (.bool true) ∧ Below W.heap.size W w' := by
  obtain ⟨N, hN⟩ : ∃ N, W.heap.size = N := ⟨_, rfl⟩
  obtain ⟨w1, hw1⟩ : ∃ w1, W.alloc (.cells (drA s f) 30) = w1 := ⟨_, rfl⟩
  have hb1 : Below N W w1 := by rw [← hw1, ← hN]; exact (Below.refl _ W).alloc (Nat.le_refl _) _
  have hk2 : Blk w1 N 30 (drA s f).toList := by rw [← hw1, ← hN]; exact Blk.new W _ _
  obtain ⟨M, hM⟩ : ∃ M, w1.heap.size = M := ⟨_, rfl⟩
  obtain ⟨w2, hw2⟩ : ∃ w2, w1.alloc (.cells (ordA 0 0 0 0 0) 30) = w2 := ⟨_, rfl⟩
  have hb2 : Below M w1 w2 := by rw [← hw2, ← hM]; exact (Below.refl _ w1).alloc (Nat.le_refl _) _
  have hk3 : Blk w2 M 30 (ordA 0 0 0 0 0).toList := by rw [← hw2, ← hM]; exact Blk.new w1 _ _
  have hNM : N < M := by rw [← hM]; exact hk2.lt
  have hsz : (Tryd.prog.info? 30).map (·.size) = some 26 := by kernel_rfl
  obtain ⟨w3, hw3⟩ : ∃ w3, w2.setRow M (drA s f) = w3 := ⟨_, rfl⟩
  have hk4 : Blk w3 M 30 (drA s f).toList := by rw [← hw3]; exact hk3.setRow _
  have hk5 : Blk w3 N 30 (drA s f).toList := (hk2.kept (hb2.block N (by omega))).kept (by rw [← hw3]; exact heap_setRow_other _ _ _ _ (by omega))
  have hb3 : Below N W w3 := by rw [← hw3]; exact below_setRow (hb1.trans (hb2.mono (Nat.le_of_lt hNM))) (Nat.le_of_lt hNM) _
  have HSZ := Lib.hid hsz
  have HO1 : Hid ((drA s f).all (·.oneCell') = true) := (by first | rfl | (unfold drA ordA; simp [Value.oneCell']) : (drA s f).all (·.oneCell') = true)
  have HO2 : Hid ((ordA 0 0 0 0 0).toList.toArray.size = (drA s f).size) := rfl
  have HB3 := Lib.hid hb3
  have HN := Lib.hid hN
  have HLE : Hid (N ≤ M) := Nat.le_of_lt hNM
  have HK2 := Lib.hid hk2
  have HK3 := Lib.hid hk3
  have HK4 := Lib.hid hk4
  have HW3 := Lib.hid hw3
  have n1 : N ≠ M := by omega
  have n2 : M ≠ N := by omega
  obtain ⟨w5, hw5⟩ : ∃ w5, w3.setCell ⟨M, 4, none⟩ (.int .i64 0) = w5 := ⟨_, rfl⟩
  have hk6 : Blk w5 M 30 (ordA s (-1) f 2 0).toList := by rw [← hw5]; exact hk4.set 4 (.int .i64 0)
  have HBL := Lib.hid (fun W => blank_drop s (-1) f 2 W)
  have HB4 : Hid (Below N W w5) := by rw [← hw5]; exact hb3.setCell (p := ⟨M, 4, none⟩) (Nat.le_of_lt hNM) _
  have c0 := hk2.cell 0
  have c1 := hk2.cell 1
  have c2 := hk2.cell 2
  have d3 := hk5.cell 3
  have d4 : w5.cell? ⟨N, 4, none⟩ = some (.int .i64 1) := by rw [← hw5]; exact (hk5.other ⟨M, 4, none⟩ (show M ≠ N by omega) (.int .i64 0)).cell 4
  have y4 := hk4.cell 4
  have z4 := hk4.frozen 4
  have HR6 := Lib.hid hk6.range
  have q1 : ¬ s < 0 := by omega
  have q2 : ¬ s > 200 := by omega
  have q3 : ¬ f < 0 := by omega
  have q4 : ¬ f > 100000000 := by omega
  dsimp only [drA, ordA, Array.toList, List.getElem?_cons_zero, List.getElem?_cons_succ] at c0 c1 c2 d3 d4 y4 hw1 hw2
  dsimp only [drA, ordA]
  clear hb1 hb2 hk2 hk3 hk4 hk5 hk6 hNM hsz hb3 hw3
  go_enter Tryd.func43, Tryd.ntmps43
  go_wp2_with (first | (refine wpList_load_mid rfl 30 (.tmp 1) rfl N 0 rfl (drA s f).toList _ HK2.out.range Tryd.underlying30 rfl HSZ.out ?_) | (refine wpList_store_row rfl 30 (.tmp 3) (.tmp 30) rfl M (drA s f) rfl rfl 30 _ HK3.out HSZ.out HO2.out HO1.out ?_; rw [HW3.out]))
  refine (isID_one _).mono ?_
  rintro e w' ⟨rfl, rfl⟩
  go_wp2_with (refine wpList_load_midG rfl 30 (.tmp 3) rfl M 0 rfl (ordA s (-1) f 2 0).toList _ HR6.out Tryd.underlying30 rfl HSZ.out ?_)
  refine (HBL.out _).mono ?_
  rintro e w' ⟨rfl, hb⟩
  go_wp2_with fail
  go_ret
  exact ⟨rfl, by rw [HN.out]; exact HB4.out.trans (hb.mono (Nat.le_trans (bnl9 HN.out HB4.out) (Nat.le_refl _)))⟩
end Go.Proofs.YtjkiidhnmljmbaaDoor
