/- Orders of every kind: orders.zero. -/
import Derived.ChangeKeysEq
import Derived.Test.YtjkiidhnmljmbaaGreatDoorGoI
set_option linter.unusedVariables false
set_option linter.unusedSimpArgs false
set_option maxRecDepth 100000
set_option maxHeartbeats 8000000
namespace Go.Proofs.YtjkiidhnmljmbaaGreatDoor
open Go.RowKit
theorem eqArr6 (a b c d e f : Int) (w : World) : (Op.equalIn 10000 162 (.agg #[.int .i64 a, .int .i64 b, .int .i64 c, .int .i64 d, .int .i64 e, .int .i64 f]) (.agg #[.int .i64 0, .int .i64 0, .int .i64 0, .int .i64 0, .int .i64 0, .int .i64 0])).run Tryz.prog w = .ok (a == 0 && (b == 0 && (c == 0 && (d == 0 && (e == 0 && f == 0))))) w := by
 have u3 := Tryz.underlying3
 have hcs : Tryz.prog.cellsOf 3 = 1 := by kernel_rfl
 obtain ⟨i, hi⟩ : ∃ i, Tryz.prog.info? 3 = some i := Option.isSome_iff_exists.1 (by kernel_rfl)
 rw [show (10000 : Nat) = 9999 + 1 from rfl, run_equalIn_array w 9999 _ _ Tryz.underlying162 hi, hcs]
 rw [show List.range 6 = [0, 1, 2, 3, 4, 5] from rfl]
 simp only [Op.eqItems]
 go_simp
 repeat' split
 all_goals simp_all
def GOd.zeroB (o : GOd) : Bool := decide (o.nid = 0) && decide (o.item = 0) && decide (o.frs = 0) && decide (o.ear = 0) && decide (o.lat = 0) && decide (o.book = 0) && decide (o.an = 0) && ((o.s == 0 && (o.ch == 0 && (o.f == 0 && (o.k == 0 && (o.e == 0 && o.n == 0))))) && (o.cl.eqB ⟨0, 0, 0, 0, 0, 0, 0, 0⟩ && cueEq o.qid o.qf o.qt o.qp o.txt 0 0 0 0 ⟨#[]⟩))
theorem gZero (o : GOd) (W : World) : Calls Tryz.prog 64 #[.agg o.l.toArray] W fun e w' => e = .returned (.bool o.zeroB) ∧ Below W.heap.size W w' := by
 obtain ⟨s, ch, f, k, e, n, nid, item, frs, ear, lat, book, ao, an, ac, cl, qid, qf, qt, qp, txt⟩ := o
 have heq0 := fun V : World => eqArr6 s ch f k e n V
 have heq1 := fun V : World => eqClause cl ⟨0, 0, 0, 0, 0, 0, 0, 0⟩ V
 have heq2 := fun V : World => eqCue qid qf qt qp txt 0 0 0 0 ⟨#[]⟩ V
 obtain ⟨sp, hsp⟩ : ∃ sp, (GOd.mk s ch f k e n nid item frs ear lat book ao an ac cl qid qf qt qp txt).zeroB = sp := ⟨_, rfl⟩
 rw [hsp]
 simp only [GOd.zeroB] at hsp
 obtain ⟨ba, hba⟩ : ∃ ba, (s == 0 && (ch == 0 && (f == 0 && (k == 0 && (e == 0 && n == 0))))) = ba := ⟨_, rfl⟩
 obtain ⟨bc, hbc⟩ : ∃ bc, cl.eqB ⟨0, 0, 0, 0, 0, 0, 0, 0⟩ = bc := ⟨_, rfl⟩
 obtain ⟨bq, hbq⟩ : ∃ bq, cueEq qid qf qt qp txt 0 0 0 0 ⟨#[]⟩ = bq := ⟨_, rfl⟩
 have hbc2 := hbc
 simp only [ClD.eqB] at hbc2
 rw [hba] at heq0;rw [hbc2] at heq1;rw [hbq] at heq2;rw [hba, hbc, hbq] at hsp;clear hba hbc hbc2 hbq
 obtain ⟨c1, c2, c3, c4, c5, c6, c7, c8⟩ := cl
 dsimp only [ClD.l] at heq1
 dsimp only [cueL] at heq2
 obtain ⟨N, w1, hN, hw1, hb1, hk1⟩ := bx W #[.int .i64 s, .int .i64 ch, .int .i64 f, .int .i64 k, .int .i64 e, .int .i64 n, .int .i64 nid, .int .i64 item, .int .i64 frs, .int .i64 ear, .int .i64 lat, .int .i64 book, .slice ao an ac, .int .i64 c1, .int .i64 c2, .int .i64 c3, .int .i64 c4, .int .i64 c5, .int .i64 c6, .int .i64 c7, .int .i64 c8, .int .i64 qid, .int .i64 qf, .int .i64 qt, .int .i64 qp, .string txt] [.int .i64 s, .int .i64 ch, .int .i64 f, .int .i64 k, .int .i64 e, .int .i64 n, .int .i64 nid, .int .i64 item, .int .i64 frs, .int .i64 ear, .int .i64 lat, .int .i64 book, .slice ao an ac, .int .i64 c1, .int .i64 c2, .int .i64 c3, .int .i64 c4, .int .i64 c5, .int .i64 c6, .int .i64 c7, .int .i64 c8, .int .i64 qid, .int .i64 qf, .int .i64 qt, .int .i64 qp, .string txt] 30 rfl
 obtain ⟨M, w2, hM, hw2, hb2, hk2⟩ := bx w1 #[.int .i64 0, .int .i64 0, .int .i64 0, .int .i64 0, .int .i64 0, .int .i64 0, .slice none 0 0] [.int .i64 0, .int .i64 0, .int .i64 0, .int .i64 0, .int .i64 0, .int .i64 0, .slice none 0 0] 24 rfl
 have hNM : N < M := by rw [← hM]; exact hk1.lt
 have n1 : N ≠ M := by omega
 have n2 : M ≠ N := by omega
 have HLE : Hid (N ≤ M) := Nat.le_of_lt hNM
 obtain ⟨w3, hw3⟩ : ∃ w3, (((((((w2.setCell ⟨M, 0, none⟩ (.int .i64 nid)).setCell ⟨M, 1, none⟩ (.int .i64 item)).setCell ⟨M, 2, none⟩ (.int .i64 frs)).setCell ⟨M, 3, none⟩ (.int .i64 ear)).setCell ⟨M, 4, none⟩ (.int .i64 lat)).setCell ⟨M, 5, none⟩ (.int .i64 book)).setCell ⟨M, 6, none⟩ (.slice ao an ac)) = w3 := ⟨_, rfl⟩
 have hb3 : Below N W w3 := by rw [← hw3]; exact ((((((((hb1.trans (hb2.mono (Nat.le_of_lt hNM))).setCell (p := ⟨M, 0, none⟩) HLE.out _).setCell (p := ⟨M, 1, none⟩) HLE.out _).setCell (p := ⟨M, 2, none⟩) HLE.out _).setCell (p := ⟨M, 3, none⟩) HLE.out _).setCell (p := ⟨M, 4, none⟩) HLE.out _).setCell (p := ⟨M, 5, none⟩) HLE.out _).setCell (p := ⟨M, 6, none⟩) HLE.out _)
 have hk3 : Blk w3 M 24 [.int .i64 nid, .int .i64 item, .int .i64 frs, .int .i64 ear, .int .i64 lat, .int .i64 book, .slice ao an ac] := by rw [← hw3]; exact (((((((hk2.set 0 (.int .i64 nid)).set 1 (.int .i64 item)).set 2 (.int .i64 frs)).set 3 (.int .i64 ear)).set 4 (.int .i64 lat)).set 5 (.int .i64 book)).set 6 (.slice ao an ac))
 have hk4 : Blk w3 N 30 [.int .i64 s, .int .i64 ch, .int .i64 f, .int .i64 k, .int .i64 e, .int .i64 n, .int .i64 nid, .int .i64 item, .int .i64 frs, .int .i64 ear, .int .i64 lat, .int .i64 book, .slice ao an ac, .int .i64 c1, .int .i64 c2, .int .i64 c3, .int .i64 c4, .int .i64 c5, .int .i64 c6, .int .i64 c7, .int .i64 c8, .int .i64 qid, .int .i64 qf, .int .i64 qt, .int .i64 qp, .string txt] := by
  rw [← hw3]
  have := hk1.kept (hb2.block N hNM)
  iterate 7 refine Blk.other ?_ _ (show M ≠ N by omega) _
  exact this
 obtain ⟨L, w4, hL, hw4, hb4, hk5⟩ := bx w3 #[.int .i64 0, .int .i64 0, .int .i64 0, .int .i64 0, .int .i64 0, .int .i64 0] [.int .i64 0, .int .i64 0, .int .i64 0, .int .i64 0, .int .i64 0, .int .i64 0] 162 rfl
 have hNL : N < L := by rw [← hL]; exact hk4.lt
 have hk6 := hk4.kept (hb4.block N hNL)
 have HB4 : Hid (Below N W w4) := hb3.trans (hb4.mono (Nat.le_of_lt hNL))
 have HB3 := Lib.hid hb3
 have HLL : Hid (N ≤ L) := Nat.le_of_lt hNL
 have n3 : N ≠ L := by omega
 have n4 : L ≠ N := by omega
 have HN := Lib.hid hN
 have a6 : w1.cell? ⟨N, 6, none⟩ = some (.int .i64 nid) := hk1.cell 6
 have a7 : w1.cell? ⟨N, 7, none⟩ = some (.int .i64 item) := hk1.cell 7
 have a8 : w1.cell? ⟨N, 8, none⟩ = some (.int .i64 frs) := hk1.cell 8
 have a9 : w1.cell? ⟨N, 9, none⟩ = some (.int .i64 ear) := hk1.cell 9
 have a10 : w1.cell? ⟨N, 10, none⟩ = some (.int .i64 lat) := hk1.cell 10
 have a11 : w1.cell? ⟨N, 11, none⟩ = some (.int .i64 book) := hk1.cell 11
 have a12 : w1.cell? ⟨N, 12, none⟩ = some (.slice ao an ac) := hk1.cell 12
 have e0 : w3.cell? ⟨M, 0, none⟩ = some (.int .i64 nid) := hk3.cell 0
 have e1 : w3.cell? ⟨M, 1, none⟩ = some (.int .i64 item) := hk3.cell 1
 have e2 : w3.cell? ⟨M, 2, none⟩ = some (.int .i64 frs) := hk3.cell 2
 have e3 : w3.cell? ⟨M, 3, none⟩ = some (.int .i64 ear) := hk3.cell 3
 have e4 : w3.cell? ⟨M, 4, none⟩ = some (.int .i64 lat) := hk3.cell 4
 have e5 : w3.cell? ⟨M, 5, none⟩ = some (.int .i64 book) := hk3.cell 5
 have e6 : w3.cell? ⟨M, 6, none⟩ = some (.slice ao an ac) := hk3.cell 6
 have z0 := hk2.frozen 0
 have z1 := hk2.frozen 1
 have z2 := hk2.frozen 2
 have z3 := hk2.frozen 3
 have z4 := hk2.frozen 4
 have z5 := hk2.frozen 5
 have z6 := hk2.frozen 6
 have b0 : w2.cell? ⟨M, 0, none⟩ = some (.int .i64 0) := hk2.cell 0
 have b1 : w2.cell? ⟨M, 1, none⟩ = some (.int .i64 0) := hk2.cell 1
 have b2 : w2.cell? ⟨M, 2, none⟩ = some (.int .i64 0) := hk2.cell 2
 have b3 : w2.cell? ⟨M, 3, none⟩ = some (.int .i64 0) := hk2.cell 3
 have b4 : w2.cell? ⟨M, 4, none⟩ = some (.int .i64 0) := hk2.cell 4
 have b5 : w2.cell? ⟨M, 5, none⟩ = some (.int .i64 0) := hk2.cell 5
 have b6 : w2.cell? ⟨M, 6, none⟩ = some (.slice none 0 0) := hk2.cell 6
 have d0 : w3.cell? ⟨N, 0, none⟩ = some (.int .i64 s) := hk4.cell 0
 have d1 : w3.cell? ⟨N, 1, none⟩ = some (.int .i64 ch) := hk4.cell 1
 have d2 : w3.cell? ⟨N, 2, none⟩ = some (.int .i64 f) := hk4.cell 2
 have d3 : w3.cell? ⟨N, 3, none⟩ = some (.int .i64 k) := hk4.cell 3
 have d4 : w3.cell? ⟨N, 4, none⟩ = some (.int .i64 e) := hk4.cell 4
 have d5 : w3.cell? ⟨N, 5, none⟩ = some (.int .i64 n) := hk4.cell 5
 have g13 : w4.cell? ⟨N, 13, none⟩ = some (.int .i64 c1) := hk6.cell 13
 have g14 : w4.cell? ⟨N, 14, none⟩ = some (.int .i64 c2) := hk6.cell 14
 have g15 : w4.cell? ⟨N, 15, none⟩ = some (.int .i64 c3) := hk6.cell 15
 have g16 : w4.cell? ⟨N, 16, none⟩ = some (.int .i64 c4) := hk6.cell 16
 have g17 : w4.cell? ⟨N, 17, none⟩ = some (.int .i64 c5) := hk6.cell 17
 have g18 : w4.cell? ⟨N, 18, none⟩ = some (.int .i64 c6) := hk6.cell 18
 have g19 : w4.cell? ⟨N, 19, none⟩ = some (.int .i64 c7) := hk6.cell 19
 have g20 : w4.cell? ⟨N, 20, none⟩ = some (.int .i64 c8) := hk6.cell 20
 have g21 : w4.cell? ⟨N, 21, none⟩ = some (.int .i64 qid) := hk6.cell 21
 have g22 : w4.cell? ⟨N, 22, none⟩ = some (.int .i64 qf) := hk6.cell 22
 have g23 : w4.cell? ⟨N, 23, none⟩ = some (.int .i64 qt) := hk6.cell 23
 have g24 : w4.cell? ⟨N, 24, none⟩ = some (.int .i64 qp) := hk6.cell 24
 have g25 : w4.cell? ⟨N, 25, none⟩ = some (.string txt) := hk6.cell 25
 have y0 := hk5.frozen 0
 have x0 : w4.cell? ⟨L, 0, none⟩ = some (.int .i64 0) := hk5.cell 0
 have y1 := hk5.frozen 1
 have x1 : w4.cell? ⟨L, 1, none⟩ = some (.int .i64 0) := hk5.cell 1
 have y2 := hk5.frozen 2
 have x2 : w4.cell? ⟨L, 2, none⟩ = some (.int .i64 0) := hk5.cell 2
 have y3 := hk5.frozen 3
 have x3 : w4.cell? ⟨L, 3, none⟩ = some (.int .i64 0) := hk5.cell 3
 have y4 := hk5.frozen 4
 have x4 : w4.cell? ⟨L, 4, none⟩ = some (.int .i64 0) := hk5.cell 4
 have y5 := hk5.frozen 5
 have x5 : w4.cell? ⟨L, 5, none⟩ = some (.int .i64 0) := hk5.cell 5
 show Calls Tryz.prog 64 #[.agg #[.int .i64 s, .int .i64 ch, .int .i64 f, .int .i64 k, .int .i64 e, .int .i64 n, .int .i64 nid, .int .i64 item, .int .i64 frs, .int .i64 ear, .int .i64 lat, .int .i64 book, .slice ao an ac, .int .i64 c1, .int .i64 c2, .int .i64 c3, .int .i64 c4, .int .i64 c5, .int .i64 c6, .int .i64 c7, .int .i64 c8, .int .i64 qid, .int .i64 qf, .int .i64 qt, .int .i64 qp, .string txt]] W _
 clear hb1 hb2 hk1 hk2 hk3 hk4 hk5 hk6 hNM hb3 hb4 hNL;have HSP := Lib.hid hsp;clear hsp
 cases q_nid : (nid != 0)
 ·have p_nid : nid = 0 := by simpa using q_nid
  subst p_nid
  cases q_item : (item != 0)
  ·have p_item : item = 0 := by simpa using q_item
   subst p_item
   cases q_frs : (frs != 0)
   ·have p_frs : frs = 0 := by simpa using q_frs
    subst p_frs
    cases q_ear : (ear != 0)
    ·have p_ear : ear = 0 := by simpa using q_ear
     subst p_ear
     cases q_lat : (lat != 0)
     ·have p_lat : lat = 0 := by simpa using q_lat
      subst p_lat
      cases q_book : (book != 0)
      ·have p_book : book = 0 := by simpa using q_book
       subst p_book
       cases q_an : ((an : Int) != 0)
       ·have p_an : an = 0 := by simpa using q_an
        subst p_an
        cases ba
        ·have HV : Hid (sp = false) := HSP.out.symm.trans (by simp [])
         go_enter Tryz.func64, Tryz.ntmps64
         go_wp2_with fail
         go_ret
         exact ⟨ret_bool HV.out.symm, by first | exact ((((((HB4.out.setCell (p := ⟨L, 0, none⟩) HLL.out _).setCell (p := ⟨L, 1, none⟩) HLL.out _).setCell (p := ⟨L, 2, none⟩) HLL.out _).setCell (p := ⟨L, 3, none⟩) HLL.out _).setCell (p := ⟨L, 4, none⟩) HLL.out _).setCell (p := ⟨L, 5, none⟩) HLL.out _) | (rw [HN.out]; exact ((((((HB4.out.setCell (p := ⟨L, 0, none⟩) HLL.out _).setCell (p := ⟨L, 1, none⟩) HLL.out _).setCell (p := ⟨L, 2, none⟩) HLL.out _).setCell (p := ⟨L, 3, none⟩) HLL.out _).setCell (p := ⟨L, 4, none⟩) HLL.out _).setCell (p := ⟨L, 5, none⟩) HLL.out _))⟩
        ·cases bc
         ·have HV : Hid (sp = false) := HSP.out.symm.trans (by simp [])
          go_enter Tryz.func64, Tryz.ntmps64
          go_wp2_with fail
          go_ret
          exact ⟨ret_bool HV.out.symm, by first | exact ((((((HB4.out.setCell (p := ⟨L, 0, none⟩) HLL.out _).setCell (p := ⟨L, 1, none⟩) HLL.out _).setCell (p := ⟨L, 2, none⟩) HLL.out _).setCell (p := ⟨L, 3, none⟩) HLL.out _).setCell (p := ⟨L, 4, none⟩) HLL.out _).setCell (p := ⟨L, 5, none⟩) HLL.out _) | (rw [HN.out]; exact ((((((HB4.out.setCell (p := ⟨L, 0, none⟩) HLL.out _).setCell (p := ⟨L, 1, none⟩) HLL.out _).setCell (p := ⟨L, 2, none⟩) HLL.out _).setCell (p := ⟨L, 3, none⟩) HLL.out _).setCell (p := ⟨L, 4, none⟩) HLL.out _).setCell (p := ⟨L, 5, none⟩) HLL.out _))⟩
         ·cases bq
          ·have HV : Hid (sp = false) := HSP.out.symm.trans (by simp [])
           go_enter Tryz.func64, Tryz.ntmps64
           go_wp2_with fail
           go_ret
           exact ⟨ret_bool HV.out.symm, by first | exact ((((((HB4.out.setCell (p := ⟨L, 0, none⟩) HLL.out _).setCell (p := ⟨L, 1, none⟩) HLL.out _).setCell (p := ⟨L, 2, none⟩) HLL.out _).setCell (p := ⟨L, 3, none⟩) HLL.out _).setCell (p := ⟨L, 4, none⟩) HLL.out _).setCell (p := ⟨L, 5, none⟩) HLL.out _) | (rw [HN.out]; exact ((((((HB4.out.setCell (p := ⟨L, 0, none⟩) HLL.out _).setCell (p := ⟨L, 1, none⟩) HLL.out _).setCell (p := ⟨L, 2, none⟩) HLL.out _).setCell (p := ⟨L, 3, none⟩) HLL.out _).setCell (p := ⟨L, 4, none⟩) HLL.out _).setCell (p := ⟨L, 5, none⟩) HLL.out _))⟩
          ·have HV : Hid (sp = true) := HSP.out.symm.trans (by simp [])
           go_enter Tryz.func64, Tryz.ntmps64
           go_wp2_with fail
           go_ret
           exact ⟨ret_bool HV.out.symm, by first | exact ((((((HB4.out.setCell (p := ⟨L, 0, none⟩) HLL.out _).setCell (p := ⟨L, 1, none⟩) HLL.out _).setCell (p := ⟨L, 2, none⟩) HLL.out _).setCell (p := ⟨L, 3, none⟩) HLL.out _).setCell (p := ⟨L, 4, none⟩) HLL.out _).setCell (p := ⟨L, 5, none⟩) HLL.out _) | (rw [HN.out]; exact ((((((HB4.out.setCell (p := ⟨L, 0, none⟩) HLL.out _).setCell (p := ⟨L, 1, none⟩) HLL.out _).setCell (p := ⟨L, 2, none⟩) HLL.out _).setCell (p := ⟨L, 3, none⟩) HLL.out _).setCell (p := ⟨L, 4, none⟩) HLL.out _).setCell (p := ⟨L, 5, none⟩) HLL.out _))⟩
       ·have p_an : ¬ an = 0 := by simpa using q_an
        have HV : Hid (sp = false) := HSP.out.symm.trans (by simp [p_an])
        go_enter Tryz.func64, Tryz.ntmps64
        go_wp2_with fail
        go_ret;exact rb HV HB3 HN
      ·have p_book : ¬ book = 0 := by simpa using q_book
       have HV : Hid (sp = false) := HSP.out.symm.trans (by simp [p_book])
       go_enter Tryz.func64, Tryz.ntmps64
       go_wp2_with fail
       go_ret;exact rb HV HB3 HN
     ·have p_lat : ¬ lat = 0 := by simpa using q_lat
      have HV : Hid (sp = false) := HSP.out.symm.trans (by simp [p_lat])
      go_enter Tryz.func64, Tryz.ntmps64
      go_wp2_with fail
      go_ret;exact rb HV HB3 HN
    ·have p_ear : ¬ ear = 0 := by simpa using q_ear
     have HV : Hid (sp = false) := HSP.out.symm.trans (by simp [p_ear])
     go_enter Tryz.func64, Tryz.ntmps64
     go_wp2_with fail
     go_ret;exact rb HV HB3 HN
   ·have p_frs : ¬ frs = 0 := by simpa using q_frs
    have HV : Hid (sp = false) := HSP.out.symm.trans (by simp [p_frs])
    go_enter Tryz.func64, Tryz.ntmps64
    go_wp2_with fail
    go_ret;exact rb HV HB3 HN
  ·have p_item : ¬ item = 0 := by simpa using q_item
   have HV : Hid (sp = false) := HSP.out.symm.trans (by simp [p_item])
   go_enter Tryz.func64, Tryz.ntmps64
   go_wp2_with fail
   go_ret;exact rb HV HB3 HN
 ·have p_nid : ¬ nid = 0 := by simpa using q_nid
  have HV : Hid (sp = false) := HSP.out.symm.trans (by simp [p_nid])
  go_enter Tryz.func64, Tryz.ntmps64
  go_wp2_with fail
  go_ret;exact rb HV HB3 HN
structure MOd where
 kd : Int
 tn : Int
 sq : Int
 fr : Int
 n : Int
 o : GOd
def MOd.l (m : MOd) : List Value := [.int .i64 m.kd, .int .i64 m.tn, .int .i64 m.sq, .int .i64 m.fr, .int .i64 m.n] ++ m.o.l
abbrev lM (o : MOd) : List Value := [.int .i64 o.kd, .int .i64 o.tn, .int .i64 o.sq, .int .i64 o.fr, .int .i64 o.n, .int .i64 o.o.s, .int .i64 o.o.ch, .int .i64 o.o.f, .int .i64 o.o.k, .int .i64 o.o.e, .int .i64 o.o.n, .int .i64 o.o.nid, .int .i64 o.o.item, .int .i64 o.o.frs, .int .i64 o.o.ear, .int .i64 o.o.lat, .int .i64 o.o.book, .slice o.o.ao o.o.an o.o.ac, .int .i64 o.o.cl.kind, .int .i64 o.o.cl.item, .int .i64 o.o.cl.frm, .int .i64 o.o.cl.til, .int .i64 o.o.cl.regs, .int .i64 o.o.cl.n, .int .i64 o.o.cl.a, .int .i64 o.o.cl.b, .int .i64 o.o.qid, .int .i64 o.o.qf, .int .i64 o.o.qt, .int .i64 o.o.qp, .string o.o.txt]
abbrev aM (o : MOd) : Array Value := #[.int .i64 o.kd, .int .i64 o.tn, .int .i64 o.sq, .int .i64 o.fr, .int .i64 o.n, .int .i64 o.o.s, .int .i64 o.o.ch, .int .i64 o.o.f, .int .i64 o.o.k, .int .i64 o.o.e, .int .i64 o.o.n, .int .i64 o.o.nid, .int .i64 o.o.item, .int .i64 o.o.frs, .int .i64 o.o.ear, .int .i64 o.o.lat, .int .i64 o.o.book, .slice o.o.ao o.o.an o.o.ac, .int .i64 o.o.cl.kind, .int .i64 o.o.cl.item, .int .i64 o.o.cl.frm, .int .i64 o.o.cl.til, .int .i64 o.o.cl.regs, .int .i64 o.o.cl.n, .int .i64 o.o.cl.a, .int .i64 o.o.cl.b, .int .i64 o.o.qid, .int .i64 o.o.qf, .int .i64 o.o.qt, .int .i64 o.o.qp, .string o.o.txt]
theorem MOd.oneC (m : MOd) : m.l.toArray.all (·.oneCell') = true := by
 simp [MOd.l, GOd.l, ClD.l, Value.oneCell']
def okM (m : MOd) (al : List (Int × Int)) : Bool := decide (0 ≤ m.tn ∧ m.tn < 3) && (
 if m.kd = 1 then decide (m.sq ≥ 1) && (decide (m.sq ≤ 200) && ((m.fr == 0) && ((m.n == 0) && ((m.o.s == m.sq) && okB m.o al))))
 else if m.kd = 2 then decide (m.sq ≥ 0) && (decide (m.sq ≤ 200) && ((m.fr == 0) && ((m.n == 0) && m.o.zeroB)))
 else if m.kd = 3 then (m.sq == 0) && (decide (m.fr ≥ 0) && (decide (m.fr ≤ 100000000) && (decide (m.n ≥ 0) && (decide (m.n ≤ 200) && m.o.zeroB))))
 else false)
theorem gOValid_1 (m : MOd) (al : List (Int × Int)) (W : World) (hn : al.length = m.o.an) (hlm : m.o.an ≤ 1000000) (hr : RdA W m.o.ao al) (hts : m.o.txt.size ≤ maxLen) (ht : 0 ≤ m.tn ∧ m.tn < 3) (hk : m.kd = 1) : Calls Tryz.prog 28 #[.agg m.l.toArray] W fun e w' => e = .returned (.bool (decide (m.sq ≥ 1) && (decide (m.sq ≤ 200) && ((m.fr == 0) && ((m.n == 0) && ((m.o.s == m.sq) && okB m.o al)))))) ∧ Below W.heap.size W w' := by
 obtain ⟨N, w1, hN, hw1, hb1, hk1⟩ := bx W (aM m) m.l 32 rfl
 have HSZ := szO
 have HR : Hid (w1.rangeAt N 5 m.o.l) := hk1.rangeO 5 rfl
 have HN := Lib.hid hN;have HB1 := Lib.hid hb1
 have c0 : w1.cell? ⟨N, 0, none⟩ = some (.int .i64 m.kd) := hk1.cell 0
 have c1 : w1.cell? ⟨N, 1, none⟩ = some (.int .i64 m.tn) := hk1.cell 1
 have c2 : w1.cell? ⟨N, 2, none⟩ = some (.int .i64 m.sq) := hk1.cell 2
 have c3 : w1.cell? ⟨N, 3, none⟩ = some (.int .i64 m.fr) := hk1.cell 3
 have c4 : w1.cell? ⟨N, 4, none⟩ = some (.int .i64 m.n) := hk1.cell 4
 have c5 : w1.cell? ⟨N, 5, none⟩ = some (.int .i64 m.o.s) := hk1.cell 5
 show Calls Tryz.prog 28 #[.agg (aM m)] W _
 rw [hk] at c0
 have HEX : Hid (∀ W', Calls Tryz.prog 62 #[.int .i64 m.tn] W' fun e w' => e = .returned (.bool true) ∧ W' = w') := fun W' => by
  have := exists_any m.tn W'
  rw [decide_eq_true ht] at this;exact this
 obtain ⟨sp, hsp⟩ : ∃ sp, (decide (m.sq ≥ 1) && (decide (m.sq ≤ 200) && ((m.fr == 0) && ((m.n == 0) && ((m.o.s == m.sq) && okB m.o al))))) = sp := ⟨_, rfl⟩
 rw [hsp];have HSP := Lib.hid hsp
 have HC := Lib.hid (gValid m.o al w1 hn hlm (hr.kept (hN ▸ hb1)) hts)
 clear hsp hb1 hk1 hk ht
 go_enter Tryz.func28, Tryz.ntmps28
 go_wp2_with fail
 refine (HEX.out _).mono ?_
 rintro e w' ⟨rfl, rfl⟩
 rcases (show ¬ (m.sq ≥ 1) ∨ (m.sq ≥ 1) from by omega) with p0 | p0
 ·have HV : Hid (sp = false) := HSP.out.symm.trans (by simp [p0])
  go_wp2_with fail
  go_ret;exact rb HV HB1 HN
 rcases (show ¬ (m.sq ≤ 200) ∨ (m.sq ≤ 200) from by omega) with p1 | p1
 ·have HV : Hid (sp = false) := HSP.out.symm.trans (by simp [p0, p1])
  go_wp2_with fail
  go_ret;exact rb HV HB1 HN
 cases p2 : (m.fr == 0)
 ·have HV : Hid (sp = false) := HSP.out.symm.trans (by simp only [p0, p1, p2]; simp)
  go_wp2_with fail
  go_ret;exact rb HV HB1 HN
 cases p3 : (m.n == 0)
 ·have HV : Hid (sp = false) := HSP.out.symm.trans (by simp only [p0, p1, p2, p3]; simp)
  go_wp2_with fail
  go_ret;exact rb HV HB1 HN
 cases p4 : (m.o.s == m.sq)
 ·have HV : Hid (sp = false) := HSP.out.symm.trans (by simp only [p0, p1, p2, p3, p4]; simp)
  go_wp2_with fail
  go_ret;exact rb HV HB1 HN
 have HV : Hid (sp = (okB m.o al)) := HSP.out.symm.trans (by simp only [p0, p1, p2, p3, p4]; simp)
 go_wp2_with (refine wpList_load_midG rfl 30 (.tmp 38) rfl N 5 rfl m.o.l _ HR.out Tryz.underlying30 rfl HSZ.out ?_)
 refine HC.out.mono ?_
 rintro e w' ⟨rfl, hb⟩
 go_wp2_with fail
 go_ret
 exact ⟨ret_bool HV.out.symm, by first | exact HB1.out.trans (hb.mono (bnl9 HN.out HB1.out)) | (rw [HN.out]; exact HB1.out.trans (hb.mono (bnl9 HN.out HB1.out)))⟩
theorem gOValid_2 (m : MOd) (W : World) (ht : 0 ≤ m.tn ∧ m.tn < 3) (hk : m.kd = 2) : Calls Tryz.prog 28 #[.agg m.l.toArray] W fun e w' => e = .returned (.bool (decide (m.sq ≥ 0) && (decide (m.sq ≤ 200) && ((m.fr == 0) && ((m.n == 0) && m.o.zeroB))))) ∧ Below W.heap.size W w' := by
 obtain ⟨N, w1, hN, hw1, hb1, hk1⟩ := bx W (aM m) m.l 32 rfl
 have HSZ := szO
 have HR : Hid (w1.rangeAt N 5 m.o.l) := hk1.rangeO 5 rfl
 have HN := Lib.hid hN;have HB1 := Lib.hid hb1
 have c0 : w1.cell? ⟨N, 0, none⟩ = some (.int .i64 m.kd) := hk1.cell 0
 have c1 : w1.cell? ⟨N, 1, none⟩ = some (.int .i64 m.tn) := hk1.cell 1
 have c2 : w1.cell? ⟨N, 2, none⟩ = some (.int .i64 m.sq) := hk1.cell 2
 have c3 : w1.cell? ⟨N, 3, none⟩ = some (.int .i64 m.fr) := hk1.cell 3
 have c4 : w1.cell? ⟨N, 4, none⟩ = some (.int .i64 m.n) := hk1.cell 4
 have c5 : w1.cell? ⟨N, 5, none⟩ = some (.int .i64 m.o.s) := hk1.cell 5
 show Calls Tryz.prog 28 #[.agg (aM m)] W _
 rw [hk] at c0
 have HEX : Hid (∀ W', Calls Tryz.prog 62 #[.int .i64 m.tn] W' fun e w' => e = .returned (.bool true) ∧ W' = w') := fun W' => by
  have := exists_any m.tn W'
  rw [decide_eq_true ht] at this;exact this
 obtain ⟨sp, hsp⟩ : ∃ sp, (decide (m.sq ≥ 0) && (decide (m.sq ≤ 200) && ((m.fr == 0) && ((m.n == 0) && m.o.zeroB)))) = sp := ⟨_, rfl⟩
 rw [hsp];have HSP := Lib.hid hsp
 have HC := Lib.hid (gZero m.o w1)
 clear hsp hb1 hk1 hk ht
 go_enter Tryz.func28, Tryz.ntmps28
 go_wp2_with fail
 refine (HEX.out _).mono ?_
 rintro e w' ⟨rfl, rfl⟩
 rcases (show ¬ (m.sq ≥ 0) ∨ (m.sq ≥ 0) from by omega) with p0 | p0
 ·have HV : Hid (sp = false) := HSP.out.symm.trans (by simp [p0])
  go_wp2_with fail
  go_ret;exact rb HV HB1 HN
 rcases (show ¬ (m.sq ≤ 200) ∨ (m.sq ≤ 200) from by omega) with p1 | p1
 ·have HV : Hid (sp = false) := HSP.out.symm.trans (by simp [p0, p1])
  go_wp2_with fail
  go_ret;exact rb HV HB1 HN
 cases p2 : (m.fr == 0)
 ·have HV : Hid (sp = false) := HSP.out.symm.trans (by simp only [p0, p1, p2]; simp)
  go_wp2_with fail
  go_ret;exact rb HV HB1 HN
 cases p3 : (m.n == 0)
 ·have HV : Hid (sp = false) := HSP.out.symm.trans (by simp only [p0, p1, p2, p3]; simp)
  go_wp2_with fail
  go_ret;exact rb HV HB1 HN
 have HV : Hid (sp = (m.o.zeroB)) := HSP.out.symm.trans (by simp only [p0, p1, p2, p3]; simp)
 go_wp2_with (refine wpList_load_midG rfl 30 (.tmp 63) rfl N 5 rfl m.o.l _ HR.out Tryz.underlying30 rfl HSZ.out ?_)
 refine HC.out.mono ?_
 rintro e w' ⟨rfl, hb⟩
 go_wp2_with fail
 go_ret
 exact ⟨ret_bool HV.out.symm, by first | exact HB1.out.trans (hb.mono (bnl9 HN.out HB1.out)) | (rw [HN.out]; exact HB1.out.trans (hb.mono (bnl9 HN.out HB1.out)))⟩
theorem gOValid_3 (m : MOd) (W : World) (ht : 0 ≤ m.tn ∧ m.tn < 3) (hk : m.kd = 3) : Calls Tryz.prog 28 #[.agg m.l.toArray] W fun e w' => e = .returned (.bool ((m.sq == 0) && (decide (m.fr ≥ 0) && (decide (m.fr ≤ 100000000) && (decide (m.n ≥ 0) && (decide (m.n ≤ 200) && m.o.zeroB)))))) ∧ Below W.heap.size W w' := by
 obtain ⟨N, w1, hN, hw1, hb1, hk1⟩ := bx W (aM m) m.l 32 rfl
 have HSZ := szO
 have HR : Hid (w1.rangeAt N 5 m.o.l) := hk1.rangeO 5 rfl
 have HN := Lib.hid hN;have HB1 := Lib.hid hb1
 have c0 : w1.cell? ⟨N, 0, none⟩ = some (.int .i64 m.kd) := hk1.cell 0
 have c1 : w1.cell? ⟨N, 1, none⟩ = some (.int .i64 m.tn) := hk1.cell 1
 have c2 : w1.cell? ⟨N, 2, none⟩ = some (.int .i64 m.sq) := hk1.cell 2
 have c3 : w1.cell? ⟨N, 3, none⟩ = some (.int .i64 m.fr) := hk1.cell 3
 have c4 : w1.cell? ⟨N, 4, none⟩ = some (.int .i64 m.n) := hk1.cell 4
 have c5 : w1.cell? ⟨N, 5, none⟩ = some (.int .i64 m.o.s) := hk1.cell 5
 show Calls Tryz.prog 28 #[.agg (aM m)] W _
 rw [hk] at c0
 have HEX : Hid (∀ W', Calls Tryz.prog 62 #[.int .i64 m.tn] W' fun e w' => e = .returned (.bool true) ∧ W' = w') := fun W' => by
  have := exists_any m.tn W'
  rw [decide_eq_true ht] at this;exact this
 obtain ⟨sp, hsp⟩ : ∃ sp, ((m.sq == 0) && (decide (m.fr ≥ 0) && (decide (m.fr ≤ 100000000) && (decide (m.n ≥ 0) && (decide (m.n ≤ 200) && m.o.zeroB))))) = sp := ⟨_, rfl⟩
 rw [hsp];have HSP := Lib.hid hsp
 have HC := Lib.hid (gZero m.o w1)
 clear hsp hb1 hk1 hk ht
 go_enter Tryz.func28, Tryz.ntmps28
 go_wp2_with fail
 refine (HEX.out _).mono ?_
 rintro e w' ⟨rfl, rfl⟩
 cases p0 : (m.sq == 0)
 ·have HV : Hid (sp = false) := HSP.out.symm.trans (by simp only [p0]; simp)
  go_wp2_with fail
  go_ret;exact rb HV HB1 HN
 rcases (show ¬ (m.fr ≥ 0) ∨ (m.fr ≥ 0) from by omega) with p1 | p1
 ·have HV : Hid (sp = false) := HSP.out.symm.trans (by simp [p0, p1])
  go_wp2_with fail
  go_ret;exact rb HV HB1 HN
 rcases (show ¬ (m.fr ≤ 100000000) ∨ (m.fr ≤ 100000000) from by omega) with p2 | p2
 ·have HV : Hid (sp = false) := HSP.out.symm.trans (by simp [p0, p1, p2])
  go_wp2_with fail
  go_ret;exact rb HV HB1 HN
 rcases (show ¬ (m.n ≥ 0) ∨ (m.n ≥ 0) from by omega) with p3 | p3
 ·have HV : Hid (sp = false) := HSP.out.symm.trans (by simp [p0, p1, p2, p3])
  go_wp2_with fail
  go_ret;exact rb HV HB1 HN
 rcases (show ¬ (m.n ≤ 200) ∨ (m.n ≤ 200) from by omega) with p4 | p4
 ·have HV : Hid (sp = false) := HSP.out.symm.trans (by simp [p0, p1, p2, p3, p4])
  go_wp2_with fail
  go_ret;exact rb HV HB1 HN
 have HV : Hid (sp = (m.o.zeroB)) := HSP.out.symm.trans (by simp only [p0, p1, p2, p3, p4]; simp)
 go_wp2_with (refine wpList_load_midG rfl 30 (.tmp 93) rfl N 5 rfl m.o.l _ HR.out Tryz.underlying30 rfl HSZ.out ?_)
 refine HC.out.mono ?_
 rintro e w' ⟨rfl, hb⟩
 go_wp2_with fail
 go_ret
 exact ⟨ret_bool HV.out.symm, by first | exact HB1.out.trans (hb.mono (bnl9 HN.out HB1.out)) | (rw [HN.out]; exact HB1.out.trans (hb.mono (bnl9 HN.out HB1.out)))⟩
theorem gOValid_to (m : MOd) (W : World) (ht : ¬ (0 ≤ m.tn ∧ m.tn < 3)) : Calls Tryz.prog 28 #[.agg m.l.toArray] W fun e w' => e = .returned (.bool false) ∧ Below W.heap.size W w' := by
 obtain ⟨N, w1, hN, hw1, hb1, hk1⟩ := bx W (aM m) m.l 32 rfl
 have HSZ := szO
 have HR : Hid (w1.rangeAt N 5 m.o.l) := hk1.rangeO 5 rfl
 have HN := Lib.hid hN;have HB1 := Lib.hid hb1
 have c0 : w1.cell? ⟨N, 0, none⟩ = some (.int .i64 m.kd) := hk1.cell 0
 have c1 : w1.cell? ⟨N, 1, none⟩ = some (.int .i64 m.tn) := hk1.cell 1
 have c2 : w1.cell? ⟨N, 2, none⟩ = some (.int .i64 m.sq) := hk1.cell 2
 have c3 : w1.cell? ⟨N, 3, none⟩ = some (.int .i64 m.fr) := hk1.cell 3
 have c4 : w1.cell? ⟨N, 4, none⟩ = some (.int .i64 m.n) := hk1.cell 4
 have c5 : w1.cell? ⟨N, 5, none⟩ = some (.int .i64 m.o.s) := hk1.cell 5
 show Calls Tryz.prog 28 #[.agg (aM m)] W _
 have HEX : Hid (∀ W', Calls Tryz.prog 62 #[.int .i64 m.tn] W' fun e w' => e = .returned (.bool false) ∧ W' = w') := fun W' => by
  have := exists_any m.tn W'
  rw [decide_eq_false ht] at this;exact this
 clear hb1 hk1 ht
 go_enter Tryz.func28, Tryz.ntmps28
 go_wp2_with fail
 refine (HEX.out _).mono ?_
 rintro e w' ⟨rfl, rfl⟩
 go_wp2_with fail
 go_ret
 exact ⟨rfl, by first | exact HB1.out | (rw [HN.out]; exact HB1.out)⟩
theorem gOValid_no (m : MOd) (W : World) (ht : 0 ≤ m.tn ∧ m.tn < 3) (k1 : m.kd ≠ 1) (k2 : m.kd ≠ 2) (k3 : m.kd ≠ 3) : Calls Tryz.prog 28 #[.agg m.l.toArray] W fun e w' => e = .returned (.bool false) ∧ Below W.heap.size W w' := by
 obtain ⟨N, w1, hN, hw1, hb1, hk1⟩ := bx W (aM m) m.l 32 rfl
 have HSZ := szO
 have HR : Hid (w1.rangeAt N 5 m.o.l) := hk1.rangeO 5 rfl
 have HN := Lib.hid hN;have HB1 := Lib.hid hb1
 have c0 : w1.cell? ⟨N, 0, none⟩ = some (.int .i64 m.kd) := hk1.cell 0
 have c1 : w1.cell? ⟨N, 1, none⟩ = some (.int .i64 m.tn) := hk1.cell 1
 have c2 : w1.cell? ⟨N, 2, none⟩ = some (.int .i64 m.sq) := hk1.cell 2
 have c3 : w1.cell? ⟨N, 3, none⟩ = some (.int .i64 m.fr) := hk1.cell 3
 have c4 : w1.cell? ⟨N, 4, none⟩ = some (.int .i64 m.n) := hk1.cell 4
 have c5 : w1.cell? ⟨N, 5, none⟩ = some (.int .i64 m.o.s) := hk1.cell 5
 show Calls Tryz.prog 28 #[.agg (aM m)] W _
 have HEX : Hid (∀ W', Calls Tryz.prog 62 #[.int .i64 m.tn] W' fun e w' => e = .returned (.bool true) ∧ W' = w') := fun W' => by
  have := exists_any m.tn W'
  rw [decide_eq_true ht] at this;exact this
 have g1 : (m.kd == 1) = false := beq_eq_false_iff_ne.2 k1
 have g2 : (m.kd == 2) = false := beq_eq_false_iff_ne.2 k2
 have g3 : (m.kd == 3) = false := beq_eq_false_iff_ne.2 k3
 clear hb1 hk1 ht k1 k2 k3
 go_enter Tryz.func28, Tryz.ntmps28
 go_wp2_with fail
 refine (HEX.out _).mono ?_
 rintro e w' ⟨rfl, rfl⟩
 go_wp2_with fail
 go_ret
 exact ⟨rfl, by first | exact HB1.out | (rw [HN.out]; exact HB1.out)⟩
theorem gOValid (m : MOd) (al : List (Int × Int)) (W : World) (hn : al.length = m.o.an) (hlm : m.o.an ≤ 1000000) (hr : RdA W m.o.ao al) (hts : m.o.txt.size ≤ maxLen) : Calls Tryz.prog 28 #[.agg m.l.toArray] W fun e w' => e = .returned (.bool (okM m al)) ∧ Below W.heap.size W w' := by
 by_cases ht : 0 ≤ m.tn ∧ m.tn < 3
 ·by_cases k1 : m.kd = 1
  ·refine (gOValid_1 m al W hn hlm hr hts ht k1).mono fun e w' he => ⟨he.1.trans (ret_bool ?_), he.2⟩
   rw [okM, decide_eq_true ht, if_pos k1]; rfl
  by_cases k2 : m.kd = 2
  ·refine (gOValid_2 m W ht k2).mono fun e w' he => ⟨he.1.trans (ret_bool ?_), he.2⟩
   rw [okM, decide_eq_true ht, if_neg k1, if_pos k2]; rfl
  by_cases k3 : m.kd = 3
  ·refine (gOValid_3 m W ht k3).mono fun e w' he => ⟨he.1.trans (ret_bool ?_), he.2⟩
   rw [okM, decide_eq_true ht, if_neg k1, if_neg k2, if_pos k3]; rfl
  ·refine (gOValid_no m W ht k1 k2 k3).mono fun e w' he => ⟨he.1.trans (ret_bool ?_), he.2⟩
   rw [okM, decide_eq_true ht, if_neg k1, if_neg k2, if_neg k3]; rfl
 ·refine (gOValid_to m W ht).mono fun e w' he => ⟨he.1.trans (ret_bool ?_), he.2⟩
  rw [okM, decide_eq_false ht]; rfl
theorem gTakes (m : MOd) (al : List (Int × Int)) (ln kd : Int) (W : World) (hn : al.length = m.o.an) (hlm : m.o.an ≤ 1000000) (hr : RdA W m.o.ao al) (hts : m.o.txt.size ≤ maxLen) : Calls Tryz.prog 61 #[.agg #[.int .i64 ln], .agg m.l.toArray, .int .i64 kd] W fun e w' => e = .returned (.bool ((m.kd == kd) && ((m.tn == ln) && okM m al))) ∧ Below W.heap.size W w' := by
 obtain ⟨N, w1, hN, hw1, hb1, hk1⟩ := bx W #[.int .i64 ln] [.int .i64 ln] 112 rfl
 obtain ⟨L, w2, hL, hw2, hb2, hk2⟩ := bx w1 (aM m) m.l 32 rfl
 have hNL : N < L := by rw [← hL]; exact hk1.lt
 have hk3 := hk1.kept (hb2.block N hNL)
 have hb12 : Below N W w2 := hb1.trans (hb2.mono (Nat.le_of_lt hNL))
 have HSZ := szM
 have HR := Lib.hid hk2.range
 have HV := Lib.hid (gOValid m al w2 hn hlm (hr.kept (hN ▸ hb12)) hts)
 have HN := Lib.hid hN;have HB := Lib.hid hb12
 have n1 : N ≠ L := by omega
 have n2 : L ≠ N := by omega
 have c0 : w2.cell? ⟨L, 0, none⟩ = some (.int .i64 m.kd) := hk2.cell 0
 have c1 : w2.cell? ⟨L, 1, none⟩ = some (.int .i64 m.tn) := hk2.cell 1
 have d0 : w2.cell? ⟨N, 0, none⟩ = some (.int .i64 ln) := hk3.cell 0
 show Calls Tryz.prog 61 #[.agg #[.int .i64 ln], .agg (aM m), .int .i64 kd] W _
 obtain ⟨ok, hok⟩ : ∃ ok, okM m al = ok := ⟨_, rfl⟩
 rw [hok] at HV ⊢
 clear hb1 hb2 hk1 hk2 hk3 hNL hb12 hok
 cases p1 : (m.kd == kd)
 ·go_enter Tryz.func61, Tryz.ntmps61
  go_wp2_with fail
  go_ret
  exact ⟨rfl, by first | exact HB.out | (rw [HN.out]; exact HB.out)⟩
 cases p2 : (m.tn == ln)
 ·go_enter Tryz.func61, Tryz.ntmps61
  go_wp2_with fail
  go_ret
  exact ⟨rfl, by first | exact HB.out | (rw [HN.out]; exact HB.out)⟩
 go_enter Tryz.func61, Tryz.ntmps61
 go_wp2_with (refine wpList_load_midG rfl 32 (.tmp 4) rfl L 0 rfl m.l _ HR.out Tryz.underlying32 rfl HSZ.out ?_)
 refine HV.out.mono ?_
 rintro e w' ⟨rfl, hb⟩
 go_wp2_with fail
 go_ret
 exact ⟨rfl, by first | exact HB.out.trans (hb.mono (bnl9 HN.out HB.out)) | (rw [HN.out]; exact HB.out.trans (hb.mono (bnl9 HN.out HB.out)))⟩
end Go.Proofs.YtjkiidhnmljmbaaGreatDoor
