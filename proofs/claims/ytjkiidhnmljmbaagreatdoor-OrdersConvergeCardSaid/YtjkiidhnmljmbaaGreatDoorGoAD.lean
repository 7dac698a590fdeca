/- Orders of every kind: the cells of an order; the small tests of numbers. -/
import Derived.Laws.StructEq
import Derived.Test.YtjkiidhnmljmbaaGreatDoorOrAC
set_option linter.unusedVariables false
set_option linter.unusedSimpArgs false
set_option maxRecDepth 100000
set_option maxHeartbeats 4000000
namespace Go.Proofs.YtjkiidhnmljmbaaGreatDoor
open Go.RowKit
structure ClD where
 kind : Int
 item : Int
 frm : Int
 til : Int
 regs : Int
 n : Int
 a : Int
 b : Int
def ClD.l (c : ClD) : List Value := [.int .i64 c.kind, .int .i64 c.item, .int .i64 c.frm, .int .i64 c.til, .int .i64 c.regs, .int .i64 c.n, .int .i64 c.a, .int .i64 c.b]
structure GOd where
 s : Int
 ch : Int
 f : Int
 k : Int
 e : Int
 n : Int
 nid : Int
 item : Int
 frs : Int
 ear : Int
 lat : Int
 book : Int
 ao : Option Addr
 an : Nat
 ac : Nat
 cl : ClD
 qid : Int
 qf : Int
 qt : Int
 qp : Int
 txt : ByteArray
def GOd.l (o : GOd) : List Value := [.int .i64 o.s, .int .i64 o.ch, .int .i64 o.f, .int .i64 o.k, .int .i64 o.e, .int .i64 o.n, .int .i64 o.nid, .int .i64 o.item, .int .i64 o.frs, .int .i64 o.ear, .int .i64 o.lat, .int .i64 o.book, .slice o.ao o.an o.ac] ++ o.cl.l ++ [.int .i64 o.qid, .int .i64 o.qf, .int .i64 o.qt, .int .i64 o.qp, .string o.txt]
abbrev lT (tn x : Int) (o : GOd) : List Value := [.int .i64 1, .int .i64 tn, .int .i64 x, .int .i64 0, .int .i64 0, .int .i64 o.s, .int .i64 o.ch, .int .i64 o.f, .int .i64 o.k, .int .i64 o.e, .int .i64 o.n, .int .i64 o.nid, .int .i64 o.item, .int .i64 o.frs, .int .i64 o.ear, .int .i64 o.lat, .int .i64 o.book, .slice o.ao o.an o.ac, .int .i64 o.cl.kind, .int .i64 o.cl.item, .int .i64 o.cl.frm, .int .i64 o.cl.til, .int .i64 o.cl.regs, .int .i64 o.cl.n, .int .i64 o.cl.a, .int .i64 o.cl.b, .int .i64 o.qid, .int .i64 o.qf, .int .i64 o.qt, .int .i64 o.qp, .string o.txt]
abbrev aT (tn x : Int) (o : GOd) : Array Value := #[.int .i64 1, .int .i64 tn, .int .i64 x, .int .i64 0, .int .i64 0, .int .i64 o.s, .int .i64 o.ch, .int .i64 o.f, .int .i64 o.k, .int .i64 o.e, .int .i64 o.n, .int .i64 o.nid, .int .i64 o.item, .int .i64 o.frs, .int .i64 o.ear, .int .i64 o.lat, .int .i64 o.book, .slice o.ao o.an o.ac, .int .i64 o.cl.kind, .int .i64 o.cl.item, .int .i64 o.cl.frm, .int .i64 o.cl.til, .int .i64 o.cl.regs, .int .i64 o.cl.n, .int .i64 o.cl.a, .int .i64 o.cl.b, .int .i64 o.qid, .int .i64 o.qf, .int .i64 o.qt, .int .i64 o.qp, .string o.txt]
abbrev lO (o : GOd) : List Value := [.int .i64 o.s, .int .i64 o.ch, .int .i64 o.f, .int .i64 o.k, .int .i64 o.e, .int .i64 o.n, .int .i64 o.nid, .int .i64 o.item, .int .i64 o.frs, .int .i64 o.ear, .int .i64 o.lat, .int .i64 o.book, .slice o.ao o.an o.ac, .int .i64 o.cl.kind, .int .i64 o.cl.item, .int .i64 o.cl.frm, .int .i64 o.cl.til, .int .i64 o.cl.regs, .int .i64 o.cl.n, .int .i64 o.cl.a, .int .i64 o.cl.b, .int .i64 o.qid, .int .i64 o.qf, .int .i64 o.qt, .int .i64 o.qp, .string o.txt]
abbrev aO (o : GOd) : Array Value := #[.int .i64 o.s, .int .i64 o.ch, .int .i64 o.f, .int .i64 o.k, .int .i64 o.e, .int .i64 o.n, .int .i64 o.nid, .int .i64 o.item, .int .i64 o.frs, .int .i64 o.ear, .int .i64 o.lat, .int .i64 o.book, .slice o.ao o.an o.ac, .int .i64 o.cl.kind, .int .i64 o.cl.item, .int .i64 o.cl.frm, .int .i64 o.cl.til, .int .i64 o.cl.regs, .int .i64 o.cl.n, .int .i64 o.cl.a, .int .i64 o.cl.b, .int .i64 o.qid, .int .i64 o.qf, .int .i64 o.qt, .int .i64 o.qp, .string o.txt]
theorem GOd.len (o : GOd) : o.l.length = 26 := rfl
theorem gIsID (n : Int) (w : World) : Calls Tryz.prog 86 #[.int .i64 n] w fun e w' => e = .returned (.bool (decide (1 ≤ n ∧ n ≤ 1000000))) ∧ w = w' := by
 rcases (show ¬ 1 ≤ n ∨ (1 ≤ n ∧ n ≤ 1000000) ∨ (1 ≤ n ∧ ¬ n ≤ 1000000) from by omega) with h | ⟨h, h2⟩ | ⟨h, h2⟩
 ·have q : decide (1 ≤ n ∧ n ≤ 1000000) = false := decide_eq_false (by omega)
  rw [q]
  have q2 : ¬ n ≥ 1 := h
  clear q
  go_enter Tryz.func86, Tryz.ntmps86
  go_wp2_with fail
  go_ret;exact ⟨rfl, rfl⟩
 ·have q : decide (1 ≤ n ∧ n ≤ 1000000) = true := decide_eq_true ⟨h, h2⟩
  rw [q]
  have q2 : n ≥ 1 := h
  clear q
  go_enter Tryz.func86, Tryz.ntmps86
  go_wp2_with fail
  go_ret;exact ⟨rfl, rfl⟩
 ·have q : decide (1 ≤ n ∧ n ≤ 1000000) = false := decide_eq_false (by omega)
  rw [q]
  have q2 : n ≥ 1 := h
  clear q
  go_enter Tryz.func86, Tryz.ntmps86
  go_wp2_with fail
  go_ret;exact ⟨rfl, rfl⟩
theorem gWithin (n lo hi : Int) (w : World) : Calls Tryz.prog 105 #[.int .i64 n, .int .i64 lo, .int .i64 hi] w fun e w' => e = .returned (.bool (decide (lo ≤ n ∧ n ≤ hi))) ∧ w = w' := by
 rcases (show ¬ lo ≤ n ∨ (lo ≤ n ∧ n ≤ hi) ∨ (lo ≤ n ∧ ¬ n ≤ hi) from by omega) with h | ⟨h, h2⟩ | ⟨h, h2⟩
 ·rw [show decide (lo ≤ n ∧ n ≤ hi) = false from decide_eq_false (by omega)]
  go_enter Tryz.func105, Tryz.ntmps105
  go_wp2_with fail
  go_ret;exact ⟨rfl, rfl⟩
 ·rw [show decide (lo ≤ n ∧ n ≤ hi) = true from decide_eq_true ⟨h, h2⟩]
  go_enter Tryz.func105, Tryz.ntmps105
  go_wp2_with fail
  go_ret;exact ⟨rfl, rfl⟩
 ·rw [show decide (lo ≤ n ∧ n ≤ hi) = false from decide_eq_false (by omega)]
  go_enter Tryz.func105, Tryz.ntmps105
  go_wp2_with fail
  go_ret;exact ⟨rfl, rfl⟩
theorem gIsTime (n : Int) (w : World) : Calls Tryz.prog 106 #[.int .i64 n] w fun e w' => e = .returned (.bool (decide ((0 ≤ n ∧ n ≤ 86340) ∧ n % 60 = 0))) ∧ w = w' := by
 by_cases h : 0 ≤ n ∧ n ≤ 86340
 ·have q0 : 0 ≤ n := h.1
  have HW : Hid (∀ w, Calls Tryz.prog 105 #[.int .i64 n, .int .i64 0, .int .i64 86340] w fun e w' => e = .returned (.bool true) ∧ w = w') := fun w => by
   have := gWithin n 0 86340 w
   rw [decide_eq_true h] at this;exact this
  rw [show decide ((0 ≤ n ∧ n ≤ 86340) ∧ n % 60 = 0) = decide (n % 60 = 0) from by simp [h]]
  clear h
  go_enter Tryz.func106, Tryz.ntmps106
  go_wp2_with fail
  refine (HW.out _).mono ?_
  rintro e w' ⟨rfl, rfl⟩
  go_wp2_with fail
  go_ret
  exact ⟨by first | rfl | simp, rfl⟩
 ·have HW : Hid (∀ w, Calls Tryz.prog 105 #[.int .i64 n, .int .i64 0, .int .i64 86340] w fun e w' => e = .returned (.bool false) ∧ w = w') := fun w => by
   have := gWithin n 0 86340 w
   rw [decide_eq_false h] at this;exact this
  rw [show decide ((0 ≤ n ∧ n ≤ 86340) ∧ n % 60 = 0) = false from decide_eq_false (fun h' => h h'.1)];clear h
  go_enter Tryz.func106, Tryz.ntmps106
  go_wp2_with fail
  refine (HW.out _).mono ?_
  rintro e w' ⟨rfl, rfl⟩
  go_wp2_with fail
  go_ret;exact ⟨rfl, rfl⟩
theorem gIsItem (c : ClD) (W : World) : Calls Tryz.prog 104 #[.agg c.l.toArray] W fun e w' => e = .returned (.bool (decide ((1 ≤ c.item ∧ c.item ≤ 4611686018427387903) ∧ (1 ≤ c.regs ∧ c.regs ≤ 255)))) ∧ Below W.heap.size W w' := by
 obtain ⟨N, w1, hN, hw1, hb1, hk1⟩ := bx W c.l.toArray c.l 26 rfl
 have HN := Lib.hid hN;have HB1 := Lib.hid hb1
 have c1 := hk1.cell 1
 have c4 := hk1.cell 4
 simp only [ClD.l, List.getElem?_cons_zero, List.getElem?_cons_succ] at c1 c4
 dsimp only [ClD.l] at hw1
 dsimp only [ClD.l]
 have HA := Lib.hid (gWithin c.item 1 4611686018427387903 w1)
 have HB := Lib.hid (gWithin c.regs 1 255 w1)
 clear hb1 hk1
 by_cases h1 : 1 ≤ c.item ∧ c.item ≤ 4611686018427387903
 ·rw [show decide ((1 ≤ c.item ∧ c.item ≤ 4611686018427387903) ∧ (1 ≤ c.regs ∧ c.regs ≤ 255)) = decide (1 ≤ c.regs ∧ c.regs ≤ 255) from by simp [h1]]
  rw [decide_eq_true h1] at HA
  obtain ⟨bb, hbb⟩ : ∃ bb, decide (1 ≤ c.regs ∧ c.regs ≤ 255) = bb := ⟨_, rfl⟩
  rw [hbb] at HB ⊢
  clear h1 hbb
  go_enter Tryz.func104, Tryz.ntmps104
  go_wp2_with fail
  refine HA.out.mono ?_
  rintro e w' ⟨rfl, rfl⟩
  go_wp2_with fail
  refine HB.out.mono ?_
  rintro e w' ⟨rfl, rfl⟩
  go_wp2_with fail
  go_ret
  exact ⟨rfl, by rw [HN.out]; exact HB1.out⟩
 ·rw [show decide ((1 ≤ c.item ∧ c.item ≤ 4611686018427387903) ∧ (1 ≤ c.regs ∧ c.regs ≤ 255)) = false from decide_eq_false (fun h => h1 h.1)]
  rw [decide_eq_false h1] at HA;clear h1
  go_enter Tryz.func104, Tryz.ntmps104
  go_wp2_with fail
  refine HA.out.mono ?_
  rintro e w' ⟨rfl, rfl⟩
  go_wp2_with fail
  go_ret
  exact ⟨rfl, by rw [HN.out]; exact HB1.out⟩
def ClD.used (c : ClD) : ClD :=
 if c.kind = 1 ∨ c.kind = 2 then ⟨c.kind, c.item, c.frm, c.til, c.regs, 0, 0, 0⟩ else
 if c.kind = 3 ∨ c.kind = 4 then ⟨c.kind, c.item, 0, 0, c.regs, c.n, 0, 0⟩ else
 if c.kind = 5 then ⟨c.kind, 0, 0, 0, 0, c.n, c.a, c.b⟩ else
 if c.kind = 6 then ⟨c.kind, 0, c.frm, c.til, 0, 0, c.a, 0⟩ else ⟨0, 0, 0, 0, 0, 0, 0, 0⟩
theorem gUsed (c : ClD) (W : World) : Calls Tryz.prog 103 #[.agg c.l.toArray] W fun e w' => e = .returned (.agg c.used.l.toArray) ∧ Below W.heap.size W w' := by
 obtain ⟨kind, item, frm, til, regs, n, a, b⟩ := c
 rcases (show kind = 1 ∨ kind = 2 ∨ kind = 3 ∨ kind = 4 ∨ kind = 5 ∨ kind = 6 ∨ (kind ≠ 1 ∧ kind ≠ 2 ∧ kind ≠ 3 ∧ kind ≠ 4 ∧ kind ≠ 5 ∧ kind ≠ 6) from by omega) with rfl | rfl | rfl | rfl | rfl | rfl | ⟨h1, h2, h3, h4, h5, h6⟩
 ·show Calls Tryz.prog 103 #[.agg (aC 1 item frm til regs n a b)] W _
  obtain ⟨N, w1, hN, hw1, hb1, hk1⟩ := bx W (aC 1 item frm til regs n a b) (aC 1 item frm til regs n a b).toList 26 rfl
  obtain ⟨M, w2, hM, hw2, hb2, hk3⟩ := bx w1 aZc aZc.toList 26 rfl
  have hNM : N < M := by rw [← hM]; exact hk1.lt
  have hk2 : Blk w2 N 26 (aC 1 item frm til regs n a b).toList := hk1.kept (hb2.block N hNM)
  have HN := Lib.hid hN;have HK := Lib.hid hk3
  have HLE : Hid (N ≤ M) := Nat.le_of_lt hNM
  have HB : Hid (Below N W w2) := hb1.trans (hb2.mono (Nat.le_of_lt hNM))
  have HSZ := Lib.hid (show (Tryz.prog.info? 26).map (·.size) = some 8 from by kernel_rfl)
  have HO1 : Hid ((aC 1 item frm til regs 0 0 0).all (·.oneCell') = true) := (by simp [Value.oneCell'] : (aC 1 item frm til regs 0 0 0).all (·.oneCell') = true)
  have HO2 : Hid (aZc.toList.toArray.size = (aC 1 item frm til regs 0 0 0).size) := rfl
  have c0 := hk2.cell 0
  have c1 := hk2.cell 1
  have c2 := hk2.cell 2
  have c3 := hk2.cell 3
  have c4 := hk2.cell 4
  have c5 := hk2.cell 5
  have c6 := hk2.cell 6
  have c7 := hk2.cell 7
  simp only [gz, gs] at c0 c1 c2 c3 c4 c5 c6 c7
  clear hb1 hb2 hk1 hk2 hk3 hNM
  go_enter Tryz.func103, Tryz.ntmps103
  go_wp2_with (refine wpList_store_row rfl 26 (.tmp 2) (.tmp 18) rfl M (aC 1 item frm til regs 0 0 0) rfl rfl 26 _ HK.out HSZ.out HO2.out HO1.out ?_)
  refine bodyPost_ret (results_cell_row Tryz.results103 _ _ M 26 (aC 1 item frm til regs 0 0 0) (0, 0) _ rfl (setRow_heap _ _ _ _ _ _ HK.out) Tryz.underlying26 rfl HSZ.out) rfl ?_
  exact ⟨rfl, by first | exact below_setRow HB.out HLE.out _ | (rw [HN.out]; exact below_setRow HB.out HLE.out _)⟩
 ·show Calls Tryz.prog 103 #[.agg (aC 2 item frm til regs n a b)] W _
  obtain ⟨N, w1, hN, hw1, hb1, hk1⟩ := bx W (aC 2 item frm til regs n a b) (aC 2 item frm til regs n a b).toList 26 rfl
  obtain ⟨M, w2, hM, hw2, hb2, hk3⟩ := bx w1 aZc aZc.toList 26 rfl
  have hNM : N < M := by rw [← hM]; exact hk1.lt
  have hk2 : Blk w2 N 26 (aC 2 item frm til regs n a b).toList := hk1.kept (hb2.block N hNM)
  have HN := Lib.hid hN;have HK := Lib.hid hk3
  have HLE : Hid (N ≤ M) := Nat.le_of_lt hNM
  have HB : Hid (Below N W w2) := hb1.trans (hb2.mono (Nat.le_of_lt hNM))
  have HSZ := Lib.hid (show (Tryz.prog.info? 26).map (·.size) = some 8 from by kernel_rfl)
  have HO1 : Hid ((aC 2 item frm til regs 0 0 0).all (·.oneCell') = true) := (by simp [Value.oneCell'] : (aC 2 item frm til regs 0 0 0).all (·.oneCell') = true)
  have HO2 : Hid (aZc.toList.toArray.size = (aC 2 item frm til regs 0 0 0).size) := rfl
  have c0 := hk2.cell 0
  have c1 := hk2.cell 1
  have c2 := hk2.cell 2
  have c3 := hk2.cell 3
  have c4 := hk2.cell 4
  have c5 := hk2.cell 5
  have c6 := hk2.cell 6
  have c7 := hk2.cell 7
  simp only [gz, gs] at c0 c1 c2 c3 c4 c5 c6 c7
  clear hb1 hb2 hk1 hk2 hk3 hNM
  go_enter Tryz.func103, Tryz.ntmps103
  go_wp2_with (refine wpList_store_row rfl 26 (.tmp 2) (.tmp 18) rfl M (aC 2 item frm til regs 0 0 0) rfl rfl 26 _ HK.out HSZ.out HO2.out HO1.out ?_)
  refine bodyPost_ret (results_cell_row Tryz.results103 _ _ M 26 (aC 2 item frm til regs 0 0 0) (0, 0) _ rfl (setRow_heap _ _ _ _ _ _ HK.out) Tryz.underlying26 rfl HSZ.out) rfl ?_
  exact ⟨rfl, by first | exact below_setRow HB.out HLE.out _ | (rw [HN.out]; exact below_setRow HB.out HLE.out _)⟩
 ·show Calls Tryz.prog 103 #[.agg (aC 3 item frm til regs n a b)] W _
  obtain ⟨N, w1, hN, hw1, hb1, hk1⟩ := bx W (aC 3 item frm til regs n a b) (aC 3 item frm til regs n a b).toList 26 rfl
  obtain ⟨M, w2, hM, hw2, hb2, hk3⟩ := bx w1 aZc aZc.toList 26 rfl
  have hNM : N < M := by rw [← hM]; exact hk1.lt
  have hk2 : Blk w2 N 26 (aC 3 item frm til regs n a b).toList := hk1.kept (hb2.block N hNM)
  have HN := Lib.hid hN;have HK := Lib.hid hk3
  have HLE : Hid (N ≤ M) := Nat.le_of_lt hNM
  have HB : Hid (Below N W w2) := hb1.trans (hb2.mono (Nat.le_of_lt hNM))
  have HSZ := Lib.hid (show (Tryz.prog.info? 26).map (·.size) = some 8 from by kernel_rfl)
  have HO1 : Hid ((aC 3 item 0 0 regs n 0 0).all (·.oneCell') = true) := (by simp [Value.oneCell'] : (aC 3 item 0 0 regs n 0 0).all (·.oneCell') = true)
  have HO2 : Hid (aZc.toList.toArray.size = (aC 3 item 0 0 regs n 0 0).size) := rfl
  have c0 := hk2.cell 0
  have c1 := hk2.cell 1
  have c2 := hk2.cell 2
  have c3 := hk2.cell 3
  have c4 := hk2.cell 4
  have c5 := hk2.cell 5
  have c6 := hk2.cell 6
  have c7 := hk2.cell 7
  simp only [gz, gs] at c0 c1 c2 c3 c4 c5 c6 c7
  clear hb1 hb2 hk1 hk2 hk3 hNM
  go_enter Tryz.func103, Tryz.ntmps103
  go_wp2_with (refine wpList_store_row rfl 26 (.tmp 2) (.tmp 30) rfl M (aC 3 item 0 0 regs n 0 0) rfl rfl 26 _ HK.out HSZ.out HO2.out HO1.out ?_)
  refine bodyPost_ret (results_cell_row Tryz.results103 _ _ M 26 (aC 3 item 0 0 regs n 0 0) (0, 0) _ rfl (setRow_heap _ _ _ _ _ _ HK.out) Tryz.underlying26 rfl HSZ.out) rfl ?_
  exact ⟨rfl, by first | exact below_setRow HB.out HLE.out _ | (rw [HN.out]; exact below_setRow HB.out HLE.out _)⟩
 ·show Calls Tryz.prog 103 #[.agg (aC 4 item frm til regs n a b)] W _
  obtain ⟨N, w1, hN, hw1, hb1, hk1⟩ := bx W (aC 4 item frm til regs n a b) (aC 4 item frm til regs n a b).toList 26 rfl
  obtain ⟨M, w2, hM, hw2, hb2, hk3⟩ := bx w1 aZc aZc.toList 26 rfl
  have hNM : N < M := by rw [← hM]; exact hk1.lt
  have hk2 : Blk w2 N 26 (aC 4 item frm til regs n a b).toList := hk1.kept (hb2.block N hNM)
  have HN := Lib.hid hN;have HK := Lib.hid hk3
  have HLE : Hid (N ≤ M) := Nat.le_of_lt hNM
  have HB : Hid (Below N W w2) := hb1.trans (hb2.mono (Nat.le_of_lt hNM))
  have HSZ := Lib.hid (show (Tryz.prog.info? 26).map (·.size) = some 8 from by kernel_rfl)
  have HO1 : Hid ((aC 4 item 0 0 regs n 0 0).all (·.oneCell') = true) := (by simp [Value.oneCell'] : (aC 4 item 0 0 regs n 0 0).all (·.oneCell') = true)
  have HO2 : Hid (aZc.toList.toArray.size = (aC 4 item 0 0 regs n 0 0).size) := rfl
  have c0 := hk2.cell 0
  have c1 := hk2.cell 1
  have c2 := hk2.cell 2
  have c3 := hk2.cell 3
  have c4 := hk2.cell 4
  have c5 := hk2.cell 5
  have c6 := hk2.cell 6
  have c7 := hk2.cell 7
  simp only [gz, gs] at c0 c1 c2 c3 c4 c5 c6 c7
  clear hb1 hb2 hk1 hk2 hk3 hNM
  go_enter Tryz.func103, Tryz.ntmps103
  go_wp2_with (refine wpList_store_row rfl 26 (.tmp 2) (.tmp 30) rfl M (aC 4 item 0 0 regs n 0 0) rfl rfl 26 _ HK.out HSZ.out HO2.out HO1.out ?_)
  refine bodyPost_ret (results_cell_row Tryz.results103 _ _ M 26 (aC 4 item 0 0 regs n 0 0) (0, 0) _ rfl (setRow_heap _ _ _ _ _ _ HK.out) Tryz.underlying26 rfl HSZ.out) rfl ?_
  exact ⟨rfl, by first | exact below_setRow HB.out HLE.out _ | (rw [HN.out]; exact below_setRow HB.out HLE.out _)⟩
 ·show Calls Tryz.prog 103 #[.agg (aC 5 item frm til regs n a b)] W _
  obtain ⟨N, w1, hN, hw1, hb1, hk1⟩ := bx W (aC 5 item frm til regs n a b) (aC 5 item frm til regs n a b).toList 26 rfl
  obtain ⟨M, w2, hM, hw2, hb2, hk3⟩ := bx w1 aZc aZc.toList 26 rfl
  have hNM : N < M := by rw [← hM]; exact hk1.lt
  have hk2 : Blk w2 N 26 (aC 5 item frm til regs n a b).toList := hk1.kept (hb2.block N hNM)
  have HN := Lib.hid hN;have HK := Lib.hid hk3
  have HLE : Hid (N ≤ M) := Nat.le_of_lt hNM
  have HB : Hid (Below N W w2) := hb1.trans (hb2.mono (Nat.le_of_lt hNM))
  have HSZ := Lib.hid (show (Tryz.prog.info? 26).map (·.size) = some 8 from by kernel_rfl)
  have HO1 : Hid ((aC 5 0 0 0 0 n a b).all (·.oneCell') = true) := (by simp [Value.oneCell'] : (aC 5 0 0 0 0 n a b).all (·.oneCell') = true)
  have HO2 : Hid (aZc.toList.toArray.size = (aC 5 0 0 0 0 n a b).size) := rfl
  have c0 := hk2.cell 0
  have c1 := hk2.cell 1
  have c2 := hk2.cell 2
  have c3 := hk2.cell 3
  have c4 := hk2.cell 4
  have c5 := hk2.cell 5
  have c6 := hk2.cell 6
  have c7 := hk2.cell 7
  simp only [gz, gs] at c0 c1 c2 c3 c4 c5 c6 c7
  clear hb1 hb2 hk1 hk2 hk3 hNM
  go_enter Tryz.func103, Tryz.ntmps103
  go_wp2_with (refine wpList_store_row rfl 26 (.tmp 2) (.tmp 41) rfl M (aC 5 0 0 0 0 n a b) rfl rfl 26 _ HK.out HSZ.out HO2.out HO1.out ?_)
  refine bodyPost_ret (results_cell_row Tryz.results103 _ _ M 26 (aC 5 0 0 0 0 n a b) (0, 0) _ rfl (setRow_heap _ _ _ _ _ _ HK.out) Tryz.underlying26 rfl HSZ.out) rfl ?_
  exact ⟨rfl, by first | exact below_setRow HB.out HLE.out _ | (rw [HN.out]; exact below_setRow HB.out HLE.out _)⟩
 ·show Calls Tryz.prog 103 #[.agg (aC 6 item frm til regs n a b)] W _
  obtain ⟨N, w1, hN, hw1, hb1, hk1⟩ := bx W (aC 6 item frm til regs n a b) (aC 6 item frm til regs n a b).toList 26 rfl
  obtain ⟨M, w2, hM, hw2, hb2, hk3⟩ := bx w1 aZc aZc.toList 26 rfl
  have hNM : N < M := by rw [← hM]; exact hk1.lt
  have hk2 : Blk w2 N 26 (aC 6 item frm til regs n a b).toList := hk1.kept (hb2.block N hNM)
  have HN := Lib.hid hN;have HK := Lib.hid hk3
  have HLE : Hid (N ≤ M) := Nat.le_of_lt hNM
  have HB : Hid (Below N W w2) := hb1.trans (hb2.mono (Nat.le_of_lt hNM))
  have HSZ := Lib.hid (show (Tryz.prog.info? 26).map (·.size) = some 8 from by kernel_rfl)
  have HO1 : Hid ((aC 6 0 frm til 0 0 a 0).all (·.oneCell') = true) := (by simp [Value.oneCell'] : (aC 6 0 frm til 0 0 a 0).all (·.oneCell') = true)
  have HO2 : Hid (aZc.toList.toArray.size = (aC 6 0 frm til 0 0 a 0).size) := rfl
  have c0 := hk2.cell 0
  have c1 := hk2.cell 1
  have c2 := hk2.cell 2
  have c3 := hk2.cell 3
  have c4 := hk2.cell 4
  have c5 := hk2.cell 5
  have c6 := hk2.cell 6
  have c7 := hk2.cell 7
  simp only [gz, gs] at c0 c1 c2 c3 c4 c5 c6 c7
  clear hb1 hb2 hk1 hk2 hk3 hNM
  go_enter Tryz.func103, Tryz.ntmps103
  go_wp2_with (refine wpList_store_row rfl 26 (.tmp 2) (.tmp 52) rfl M (aC 6 0 frm til 0 0 a 0) rfl rfl 26 _ HK.out HSZ.out HO2.out HO1.out ?_)
  refine bodyPost_ret (results_cell_row Tryz.results103 _ _ M 26 (aC 6 0 frm til 0 0 a 0) (0, 0) _ rfl (setRow_heap _ _ _ _ _ _ HK.out) Tryz.underlying26 rfl HSZ.out) rfl ?_
  exact ⟨rfl, by first | exact below_setRow HB.out HLE.out _ | (rw [HN.out]; exact below_setRow HB.out HLE.out _)⟩
 ·have he : (⟨kind, item, frm, til, regs, n, a, b⟩ : ClD).used = ⟨0, 0, 0, 0, 0, 0, 0, 0⟩ := by
   unfold ClD.used
   simp only
   rw [if_neg (by omega), if_neg (by omega), if_neg (by omega), if_neg (by omega)]
  rw [he]
  show Calls Tryz.prog 103 #[.agg (aC kind item frm til regs n a b)] W _
  clear he
  have q1 : (kind == 1) = false := beq_eq_false_iff_ne.2 h1
  have q2 : (kind == 2) = false := beq_eq_false_iff_ne.2 h2
  have q3 : (kind == 3) = false := beq_eq_false_iff_ne.2 h3
  have q4 : (kind == 4) = false := beq_eq_false_iff_ne.2 h4
  have q5 : (kind == 5) = false := beq_eq_false_iff_ne.2 h5
  have q6 : (kind == 6) = false := beq_eq_false_iff_ne.2 h6
  obtain ⟨N, w1, hN, hw1, hb1, hk1⟩ := bx W (aC kind item frm til regs n a b) (aC kind item frm til regs n a b).toList 26 rfl
  obtain ⟨M, w2, hM, hw2, hb2, hk3⟩ := bx w1 aZc aZc.toList 26 rfl
  have hNM : N < M := by rw [← hM]; exact hk1.lt
  have hk2 : Blk w2 N 26 (aC kind item frm til regs n a b).toList := hk1.kept (hb2.block N hNM)
  have HN := Lib.hid hN;have HK := Lib.hid hk3
  have HLE : Hid (N ≤ M) := Nat.le_of_lt hNM
  have HB : Hid (Below N W w2) := hb1.trans (hb2.mono (Nat.le_of_lt hNM))
  have HSZ := Lib.hid (show (Tryz.prog.info? 26).map (·.size) = some 8 from by kernel_rfl)
  have HO1 : Hid (aZc.all (·.oneCell') = true) := (by simp [Value.oneCell'] : aZc.all (·.oneCell') = true)
  have HO2 : Hid (aZc.toList.toArray.size = aZc.size) := rfl
  have c0 := hk2.cell 0
  have c1 := hk2.cell 1
  have c2 := hk2.cell 2
  have c3 := hk2.cell 3
  have c4 := hk2.cell 4
  have c5 := hk2.cell 5
  have c6 := hk2.cell 6
  have c7 := hk2.cell 7
  simp only [gz, gs] at c0 c1 c2 c3 c4 c5 c6 c7
  clear hb1 hb2 hk1 hk2 hk3 hNM
  go_enter Tryz.func103, Tryz.ntmps103
  go_wp2_with (refine wpList_store_row rfl 26 (.tmp 2) (.tmp 53) rfl M aZc rfl rfl 26 _ HK.out HSZ.out HO2.out HO1.out ?_)
  refine bodyPost_ret (results_cell_row Tryz.results103 _ _ M 26 aZc (0, 0) _ rfl (setRow_heap _ _ _ _ _ _ HK.out) Tryz.underlying26 rfl HSZ.out) rfl ?_
  exact ⟨rfl, by first | exact below_setRow HB.out HLE.out _ | (rw [HN.out]; exact below_setRow HB.out HLE.out _)⟩
theorem eqClause (a b : ClD) (w : World) : (Op.equalIn 10000 26 (.agg a.l.toArray) (.agg b.l.toArray)).run Tryz.prog w = .ok (a.kind == b.kind && (a.item == b.item && (a.frm == b.frm && (a.til == b.til && (a.regs == b.regs && (a.n == b.n && (a.a == b.a && a.b == b.b))))))) w := by
 have u3 := Tryz.underlying3
 have hS : Tryz.prog.underlying 26 = some (.struct (Tryz.prog.fieldsOf 26)) := by kernel_rfl
 have hp : Tryz.prog.stoodInHeld 26 = false := by kernel_rfl
 rw [show (10000 : Nat) = 9999 + 1 from rfl, run_equalIn_agg w 9999 26 _ _ hS hp]
 simp only [Program.fieldsOf, Tryz.underlying26, ClD.l]
 go_simp
 repeat' split
 all_goals simp_all
end Go.Proofs.YtjkiidhnmljmbaaGreatDoor
