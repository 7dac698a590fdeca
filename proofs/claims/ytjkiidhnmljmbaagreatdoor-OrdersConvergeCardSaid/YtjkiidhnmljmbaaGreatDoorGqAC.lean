/- Clauses: the reference's Valid. -/
import Derived.WalkKit
import Derived.LoopTactic
import Derived.WalkSpells
import Derived.WalkLawsBesides
import Derived.RegionTactic
import Derived.BigRegion
import Derived.Deep.QuietTactic
import Derived.Deep.RegionHeld3
import Derived.BigQuiet
import Derived.IntWalk
import Derived.Outline
import Derived.Test.YtjkiidhnmljmbaaGreatDoorGoEF
import Derived.Test.YtjkiidhnmljmbaaGreatDoorGoCP
set_option linter.unusedVariables false
set_option linter.unusedSimpArgs false
set_option maxRecDepth 100000
set_option maxHeartbeats 8000000
namespace Go.Proofs.YtjkiidhnmljmbaaGreatDoor
open Go.RowKit
theorem gWithin6 (n lo hi : Int) (w : World) : Calls Tryz.prog 108 #[.int .i64 n, .int .i64 lo, .int .i64 hi] w fun e w' => e = .returned (.bool (decide (lo ≤ n ∧ n ≤ hi))) ∧ w = w' := by
 rcases (show ¬ n ≥ lo ∨ (n ≥ lo ∧ n ≤ hi) ∨ (n ≥ lo ∧ ¬ n ≤ hi) from by omega) with h | ⟨h, h2⟩ | ⟨h, h2⟩
 ·rw [show decide (lo ≤ n ∧ n ≤ hi) = false from decide_eq_false (by omega)]
  go_enter Tryz.func108, Tryz.ntmps108
  go_wp2_with fail
  go_ret;exact ⟨rfl, rfl⟩
 ·rw [show decide (lo ≤ n ∧ n ≤ hi) = true from decide_eq_true ⟨h, h2⟩]
  go_enter Tryz.func108, Tryz.ntmps108
  go_wp2_with fail
  go_ret;exact ⟨rfl, rfl⟩
 ·rw [show decide (lo ≤ n ∧ n ≤ hi) = false from decide_eq_false (by omega)]
  go_enter Tryz.func108, Tryz.ntmps108
  go_wp2_with fail
  go_ret;exact ⟨rfl, rfl⟩
theorem gRef06_1 (item frm til regs n a b : Int) (W : World) : Calls Tryz.prog 95 #[.agg (aC 1 item frm til regs n a b)] W fun e w' => e = .returned (.bool (decide (1 ≤ item ∧ item ≤ 4611686018427387903) && (decide (1 ≤ regs ∧ regs ≤ 255) && (decide (frm ≥ 0) && (decide (frm < til) && (decide (til ≤ 10000000000) && ((n == 0) && ((a == 0) && (b == 0))))))))) ∧ Below W.heap.size W w' := by
 obtain ⟨N, w1, hN, hw1, hb1, hk1⟩ := bx W (aC 1 item frm til regs n a b) (lC 1 item frm til regs n a b) 26 rfl
 have k0 : w1.cell? ⟨N, 0, none⟩ = some (.int .i64 1) := hk1.cell 0
 have k1 : w1.cell? ⟨N, 1, none⟩ = some (.int .i64 item) := hk1.cell 1
 have k2 : w1.cell? ⟨N, 2, none⟩ = some (.int .i64 frm) := hk1.cell 2
 have k3 : w1.cell? ⟨N, 3, none⟩ = some (.int .i64 til) := hk1.cell 3
 have k4 : w1.cell? ⟨N, 4, none⟩ = some (.int .i64 regs) := hk1.cell 4
 have k5 : w1.cell? ⟨N, 5, none⟩ = some (.int .i64 n) := hk1.cell 5
 have k6 : w1.cell? ⟨N, 6, none⟩ = some (.int .i64 a) := hk1.cell 6
 have k7 : w1.cell? ⟨N, 7, none⟩ = some (.int .i64 b) := hk1.cell 7
 obtain ⟨sp, hsp⟩ : ∃ sp, ((decide (1 ≤ item ∧ item ≤ 4611686018427387903) && (decide (1 ≤ regs ∧ regs ≤ 255) && (decide (frm ≥ 0) && (decide (frm < til) && (decide (til ≤ 10000000000) && ((n == 0) && ((a == 0) && (b == 0))))))))) = sp := ⟨_, rfl⟩
 rw [hsp];have HSP := Lib.hid hsp;have HN := Lib.hid hN;have HB1 := Lib.hid hb1;clear hb1 hk1 hsp
 go_enter Tryz.func95, Tryz.ntmps95
 go_wp2_with fail
 refine (gWithin6 item 1 4611686018427387903 _).mono ?_
 rintro e z ⟨rfl, rfl⟩
 cases p0 : (decide (1 ≤ item ∧ item ≤ 4611686018427387903))
 ·have HV : Hid (sp = false) := HSP.out.symm.trans (by rw [p0]; simp)
  go_wp2_with fail
  go_ret;exact rb HV HB1 HN
 ·go_wp2_with fail
  refine (gWithin6 regs 1 255 _).mono ?_
  rintro e z ⟨rfl, rfl⟩
  cases p1 : (decide (1 ≤ regs ∧ regs ≤ 255))
  ·have HV : Hid (sp = false) := HSP.out.symm.trans (by rw [p0, p1]; simp)
   go_wp2_with fail
   go_ret;exact rb HV HB1 HN
  ·rcases (show ¬ (frm ≥ 0) ∨ (frm ≥ 0) from by omega) with h2 | h2
   ·have p2 : decide (frm ≥ 0) = false := decide_eq_false h2
    have HV : Hid (sp = false) := HSP.out.symm.trans (by rw [p0, p1, p2]; simp)
    go_wp2_with fail
    go_ret;exact rb HV HB1 HN
   ·have p2 : decide (frm ≥ 0) = true := decide_eq_true h2
    rcases (show ¬ (frm < til) ∨ (frm < til) from by omega) with h3 | h3
    ·have p3 : decide (frm < til) = false := decide_eq_false h3
     have HV : Hid (sp = false) := HSP.out.symm.trans (by rw [p0, p1, p2, p3]; simp)
     go_wp2_with fail
     go_ret;exact rb HV HB1 HN
    ·have p3 : decide (frm < til) = true := decide_eq_true h3
     rcases (show ¬ (til ≤ 10000000000) ∨ (til ≤ 10000000000) from by omega) with h4 | h4
     ·have p4 : decide (til ≤ 10000000000) = false := decide_eq_false h4
      have HV : Hid (sp = false) := HSP.out.symm.trans (by rw [p0, p1, p2, p3, p4]; simp)
      go_wp2_with fail
      go_ret;exact rb HV HB1 HN
     ·have p4 : decide (til ≤ 10000000000) = true := decide_eq_true h4
      cases p5 : (n == 0)
      ·have HV : Hid (sp = false) := HSP.out.symm.trans (by rw [p0, p1, p2, p3, p4, p5]; simp)
       go_wp2_with fail
       go_ret;exact rb HV HB1 HN
      ·cases p6 : (a == 0)
       ·have HV : Hid (sp = false) := HSP.out.symm.trans (by rw [p0, p1, p2, p3, p4, p5, p6]; simp)
        go_wp2_with fail
        go_ret;exact rb HV HB1 HN
       ·cases p7 : (b == 0)
        ·have HV : Hid (sp = false) := HSP.out.symm.trans (by rw [p0, p1, p2, p3, p4, p5, p6, p7]; simp)
         go_wp2_with fail
         go_ret;exact rb HV HB1 HN
        ·have HV : Hid (sp = true) := HSP.out.symm.trans (by rw [p0, p1, p2, p3, p4, p5, p6, p7]; simp)
         go_wp2_with fail
         go_ret;exact rb HV HB1 HN
theorem gRef06_2 (item frm til regs n a b : Int) (W : World) : Calls Tryz.prog 95 #[.agg (aC 2 item frm til regs n a b)] W fun e w' => e = .returned (.bool (decide (1 ≤ item ∧ item ≤ 4611686018427387903) && (decide (1 ≤ regs ∧ regs ≤ 255) && (decide (frm ≥ 0) && (decide (frm < til) && (decide (til ≤ 10000000000) && ((n == 0) && ((a == 0) && (b == 0))))))))) ∧ Below W.heap.size W w' := by
 obtain ⟨N, w1, hN, hw1, hb1, hk1⟩ := bx W (aC 2 item frm til regs n a b) (lC 2 item frm til regs n a b) 26 rfl
 have k0 : w1.cell? ⟨N, 0, none⟩ = some (.int .i64 2) := hk1.cell 0
 have k1 : w1.cell? ⟨N, 1, none⟩ = some (.int .i64 item) := hk1.cell 1
 have k2 : w1.cell? ⟨N, 2, none⟩ = some (.int .i64 frm) := hk1.cell 2
 have k3 : w1.cell? ⟨N, 3, none⟩ = some (.int .i64 til) := hk1.cell 3
 have k4 : w1.cell? ⟨N, 4, none⟩ = some (.int .i64 regs) := hk1.cell 4
 have k5 : w1.cell? ⟨N, 5, none⟩ = some (.int .i64 n) := hk1.cell 5
 have k6 : w1.cell? ⟨N, 6, none⟩ = some (.int .i64 a) := hk1.cell 6
 have k7 : w1.cell? ⟨N, 7, none⟩ = some (.int .i64 b) := hk1.cell 7
 obtain ⟨sp, hsp⟩ : ∃ sp, ((decide (1 ≤ item ∧ item ≤ 4611686018427387903) && (decide (1 ≤ regs ∧ regs ≤ 255) && (decide (frm ≥ 0) && (decide (frm < til) && (decide (til ≤ 10000000000) && ((n == 0) && ((a == 0) && (b == 0))))))))) = sp := ⟨_, rfl⟩
 rw [hsp];have HSP := Lib.hid hsp;have HN := Lib.hid hN;have HB1 := Lib.hid hb1;clear hb1 hk1 hsp
 go_enter Tryz.func95, Tryz.ntmps95
 go_wp2_with fail
 refine (gWithin6 item 1 4611686018427387903 _).mono ?_
 rintro e z ⟨rfl, rfl⟩
 cases p0 : (decide (1 ≤ item ∧ item ≤ 4611686018427387903))
 ·have HV : Hid (sp = false) := HSP.out.symm.trans (by rw [p0]; simp)
  go_wp2_with fail
  go_ret;exact rb HV HB1 HN
 ·go_wp2_with fail
  refine (gWithin6 regs 1 255 _).mono ?_
  rintro e z ⟨rfl, rfl⟩
  cases p1 : (decide (1 ≤ regs ∧ regs ≤ 255))
  ·have HV : Hid (sp = false) := HSP.out.symm.trans (by rw [p0, p1]; simp)
   go_wp2_with fail
   go_ret;exact rb HV HB1 HN
  ·rcases (show ¬ (frm ≥ 0) ∨ (frm ≥ 0) from by omega) with h2 | h2
   ·have p2 : decide (frm ≥ 0) = false := decide_eq_false h2
    have HV : Hid (sp = false) := HSP.out.symm.trans (by rw [p0, p1, p2]; simp)
    go_wp2_with fail
    go_ret;exact rb HV HB1 HN
   ·have p2 : decide (frm ≥ 0) = true := decide_eq_true h2
    rcases (show ¬ (frm < til) ∨ (frm < til) from by omega) with h3 | h3
    ·have p3 : decide (frm < til) = false := decide_eq_false h3
     have HV : Hid (sp = false) := HSP.out.symm.trans (by rw [p0, p1, p2, p3]; simp)
     go_wp2_with fail
     go_ret;exact rb HV HB1 HN
    ·have p3 : decide (frm < til) = true := decide_eq_true h3
     rcases (show ¬ (til ≤ 10000000000) ∨ (til ≤ 10000000000) from by omega) with h4 | h4
     ·have p4 : decide (til ≤ 10000000000) = false := decide_eq_false h4
      have HV : Hid (sp = false) := HSP.out.symm.trans (by rw [p0, p1, p2, p3, p4]; simp)
      go_wp2_with fail
      go_ret;exact rb HV HB1 HN
     ·have p4 : decide (til ≤ 10000000000) = true := decide_eq_true h4
      cases p5 : (n == 0)
      ·have HV : Hid (sp = false) := HSP.out.symm.trans (by rw [p0, p1, p2, p3, p4, p5]; simp)
       go_wp2_with fail
       go_ret;exact rb HV HB1 HN
      ·cases p6 : (a == 0)
       ·have HV : Hid (sp = false) := HSP.out.symm.trans (by rw [p0, p1, p2, p3, p4, p5, p6]; simp)
        go_wp2_with fail
        go_ret;exact rb HV HB1 HN
       ·cases p7 : (b == 0)
        ·have HV : Hid (sp = false) := HSP.out.symm.trans (by rw [p0, p1, p2, p3, p4, p5, p6, p7]; simp)
         go_wp2_with fail
         go_ret;exact rb HV HB1 HN
        ·have HV : Hid (sp = true) := HSP.out.symm.trans (by rw [p0, p1, p2, p3, p4, p5, p6, p7]; simp)
         go_wp2_with fail
         go_ret;exact rb HV HB1 HN
theorem gRef06_3 (item frm til regs n a b : Int) (W : World) : Calls Tryz.prog 95 #[.agg (aC 3 item frm til regs n a b)] W fun e w' => e = .returned (.bool (decide (1 ≤ item ∧ item ≤ 4611686018427387903) && (decide (1 ≤ regs ∧ regs ≤ 255) && (decide (0 ≤ n ∧ n ≤ 1000) && ((frm == 0) && ((til == 0) && ((a == 0) && (b == 0)))))))) ∧ Below W.heap.size W w' := by
 obtain ⟨N, w1, hN, hw1, hb1, hk1⟩ := bx W (aC 3 item frm til regs n a b) (lC 3 item frm til regs n a b) 26 rfl
 have k0 : w1.cell? ⟨N, 0, none⟩ = some (.int .i64 3) := hk1.cell 0
 have k1 : w1.cell? ⟨N, 1, none⟩ = some (.int .i64 item) := hk1.cell 1
 have k2 : w1.cell? ⟨N, 2, none⟩ = some (.int .i64 frm) := hk1.cell 2
 have k3 : w1.cell? ⟨N, 3, none⟩ = some (.int .i64 til) := hk1.cell 3
 have k4 : w1.cell? ⟨N, 4, none⟩ = some (.int .i64 regs) := hk1.cell 4
 have k5 : w1.cell? ⟨N, 5, none⟩ = some (.int .i64 n) := hk1.cell 5
 have k6 : w1.cell? ⟨N, 6, none⟩ = some (.int .i64 a) := hk1.cell 6
 have k7 : w1.cell? ⟨N, 7, none⟩ = some (.int .i64 b) := hk1.cell 7
 obtain ⟨sp, hsp⟩ : ∃ sp, ((decide (1 ≤ item ∧ item ≤ 4611686018427387903) && (decide (1 ≤ regs ∧ regs ≤ 255) && (decide (0 ≤ n ∧ n ≤ 1000) && ((frm == 0) && ((til == 0) && ((a == 0) && (b == 0)))))))) = sp := ⟨_, rfl⟩
 rw [hsp];have HSP := Lib.hid hsp;have HN := Lib.hid hN;have HB1 := Lib.hid hb1;clear hb1 hk1 hsp
 go_enter Tryz.func95, Tryz.ntmps95
 go_wp2_with fail
 refine (gWithin6 item 1 4611686018427387903 _).mono ?_
 rintro e z ⟨rfl, rfl⟩
 cases p0 : (decide (1 ≤ item ∧ item ≤ 4611686018427387903))
 ·have HV : Hid (sp = false) := HSP.out.symm.trans (by rw [p0]; simp)
  go_wp2_with fail
  go_ret;exact rb HV HB1 HN
 ·go_wp2_with fail
  refine (gWithin6 regs 1 255 _).mono ?_
  rintro e z ⟨rfl, rfl⟩
  cases p1 : (decide (1 ≤ regs ∧ regs ≤ 255))
  ·have HV : Hid (sp = false) := HSP.out.symm.trans (by rw [p0, p1]; simp)
   go_wp2_with fail
   go_ret;exact rb HV HB1 HN
  ·go_wp2_with fail
   refine (gWithin6 n 0 1000 _).mono ?_
   rintro e z ⟨rfl, rfl⟩
   cases p2 : (decide (0 ≤ n ∧ n ≤ 1000))
   ·have HV : Hid (sp = false) := HSP.out.symm.trans (by rw [p0, p1, p2]; simp)
    go_wp2_with fail
    go_ret;exact rb HV HB1 HN
   ·cases p3 : (frm == 0)
    ·have HV : Hid (sp = false) := HSP.out.symm.trans (by rw [p0, p1, p2, p3]; simp)
     go_wp2_with fail
     go_ret;exact rb HV HB1 HN
    ·cases p4 : (til == 0)
     ·have HV : Hid (sp = false) := HSP.out.symm.trans (by rw [p0, p1, p2, p3, p4]; simp)
      go_wp2_with fail
      go_ret;exact rb HV HB1 HN
     ·cases p5 : (a == 0)
      ·have HV : Hid (sp = false) := HSP.out.symm.trans (by rw [p0, p1, p2, p3, p4, p5]; simp)
       go_wp2_with fail
       go_ret;exact rb HV HB1 HN
      ·cases p6 : (b == 0)
       ·have HV : Hid (sp = false) := HSP.out.symm.trans (by rw [p0, p1, p2, p3, p4, p5, p6]; simp)
        go_wp2_with fail
        go_ret;exact rb HV HB1 HN
       ·have HV : Hid (sp = true) := HSP.out.symm.trans (by rw [p0, p1, p2, p3, p4, p5, p6]; simp)
        go_wp2_with fail
        go_ret;exact rb HV HB1 HN
theorem gRef06_4 (item frm til regs n a b : Int) (W : World) : Calls Tryz.prog 95 #[.agg (aC 4 item frm til regs n a b)] W fun e w' => e = .returned (.bool (decide (1 ≤ item ∧ item ≤ 4611686018427387903) && (decide (1 ≤ regs ∧ regs ≤ 255) && (decide (0 ≤ n ∧ n ≤ 10000000000) && ((frm == 0) && ((til == 0) && ((a == 0) && (b == 0)))))))) ∧ Below W.heap.size W w' := by
 obtain ⟨N, w1, hN, hw1, hb1, hk1⟩ := bx W (aC 4 item frm til regs n a b) (lC 4 item frm til regs n a b) 26 rfl
 have k0 : w1.cell? ⟨N, 0, none⟩ = some (.int .i64 4) := hk1.cell 0
 have k1 : w1.cell? ⟨N, 1, none⟩ = some (.int .i64 item) := hk1.cell 1
 have k2 : w1.cell? ⟨N, 2, none⟩ = some (.int .i64 frm) := hk1.cell 2
 have k3 : w1.cell? ⟨N, 3, none⟩ = some (.int .i64 til) := hk1.cell 3
 have k4 : w1.cell? ⟨N, 4, none⟩ = some (.int .i64 regs) := hk1.cell 4
 have k5 : w1.cell? ⟨N, 5, none⟩ = some (.int .i64 n) := hk1.cell 5
 have k6 : w1.cell? ⟨N, 6, none⟩ = some (.int .i64 a) := hk1.cell 6
 have k7 : w1.cell? ⟨N, 7, none⟩ = some (.int .i64 b) := hk1.cell 7
 obtain ⟨sp, hsp⟩ : ∃ sp, ((decide (1 ≤ item ∧ item ≤ 4611686018427387903) && (decide (1 ≤ regs ∧ regs ≤ 255) && (decide (0 ≤ n ∧ n ≤ 10000000000) && ((frm == 0) && ((til == 0) && ((a == 0) && (b == 0)))))))) = sp := ⟨_, rfl⟩
 rw [hsp];have HSP := Lib.hid hsp;have HN := Lib.hid hN;have HB1 := Lib.hid hb1;clear hb1 hk1 hsp
 go_enter Tryz.func95, Tryz.ntmps95
 go_wp2_with fail
 refine (gWithin6 item 1 4611686018427387903 _).mono ?_
 rintro e z ⟨rfl, rfl⟩
 cases p0 : (decide (1 ≤ item ∧ item ≤ 4611686018427387903))
 ·have HV : Hid (sp = false) := HSP.out.symm.trans (by rw [p0]; simp)
  go_wp2_with fail
  go_ret;exact rb HV HB1 HN
 ·go_wp2_with fail
  refine (gWithin6 regs 1 255 _).mono ?_
  rintro e z ⟨rfl, rfl⟩
  cases p1 : (decide (1 ≤ regs ∧ regs ≤ 255))
  ·have HV : Hid (sp = false) := HSP.out.symm.trans (by rw [p0, p1]; simp)
   go_wp2_with fail
   go_ret;exact rb HV HB1 HN
  ·go_wp2_with fail
   refine (gWithin6 n 0 10000000000 _).mono ?_
   rintro e z ⟨rfl, rfl⟩
   cases p2 : (decide (0 ≤ n ∧ n ≤ 10000000000))
   ·have HV : Hid (sp = false) := HSP.out.symm.trans (by rw [p0, p1, p2]; simp)
    go_wp2_with fail
    go_ret;exact rb HV HB1 HN
   ·cases p3 : (frm == 0)
    ·have HV : Hid (sp = false) := HSP.out.symm.trans (by rw [p0, p1, p2, p3]; simp)
     go_wp2_with fail
     go_ret;exact rb HV HB1 HN
    ·cases p4 : (til == 0)
     ·have HV : Hid (sp = false) := HSP.out.symm.trans (by rw [p0, p1, p2, p3, p4]; simp)
      go_wp2_with fail
      go_ret;exact rb HV HB1 HN
     ·cases p5 : (a == 0)
      ·have HV : Hid (sp = false) := HSP.out.symm.trans (by rw [p0, p1, p2, p3, p4, p5]; simp)
       go_wp2_with fail
       go_ret;exact rb HV HB1 HN
      ·cases p6 : (b == 0)
       ·have HV : Hid (sp = false) := HSP.out.symm.trans (by rw [p0, p1, p2, p3, p4, p5, p6]; simp)
        go_wp2_with fail
        go_ret;exact rb HV HB1 HN
       ·have HV : Hid (sp = true) := HSP.out.symm.trans (by rw [p0, p1, p2, p3, p4, p5, p6]; simp)
        go_wp2_with fail
        go_ret;exact rb HV HB1 HN
theorem gRef06_5 (item frm til regs n a b : Int) (W : World) : Calls Tryz.prog 95 #[.agg (aC 5 item frm til regs n a b)] W fun e w' => e = .returned (.bool (decide (1 ≤ a ∧ a ≤ 200) && (decide (1 ≤ b ∧ b ≤ 200) && ((a != b) && (decide (0 ≤ n ∧ n ≤ 86400) && ((item == 0) && ((frm == 0) && ((til == 0) && (regs == 0))))))))) ∧ Below W.heap.size W w' := by
 obtain ⟨N, w1, hN, hw1, hb1, hk1⟩ := bx W (aC 5 item frm til regs n a b) (lC 5 item frm til regs n a b) 26 rfl
 have k0 : w1.cell? ⟨N, 0, none⟩ = some (.int .i64 5) := hk1.cell 0
 have k1 : w1.cell? ⟨N, 1, none⟩ = some (.int .i64 item) := hk1.cell 1
 have k2 : w1.cell? ⟨N, 2, none⟩ = some (.int .i64 frm) := hk1.cell 2
 have k3 : w1.cell? ⟨N, 3, none⟩ = some (.int .i64 til) := hk1.cell 3
 have k4 : w1.cell? ⟨N, 4, none⟩ = some (.int .i64 regs) := hk1.cell 4
 have k5 : w1.cell? ⟨N, 5, none⟩ = some (.int .i64 n) := hk1.cell 5
 have k6 : w1.cell? ⟨N, 6, none⟩ = some (.int .i64 a) := hk1.cell 6
 have k7 : w1.cell? ⟨N, 7, none⟩ = some (.int .i64 b) := hk1.cell 7
 obtain ⟨sp, hsp⟩ : ∃ sp, ((decide (1 ≤ a ∧ a ≤ 200) && (decide (1 ≤ b ∧ b ≤ 200) && ((a != b) && (decide (0 ≤ n ∧ n ≤ 86400) && ((item == 0) && ((frm == 0) && ((til == 0) && (regs == 0))))))))) = sp := ⟨_, rfl⟩
 rw [hsp];have HSP := Lib.hid hsp;have HN := Lib.hid hN;have HB1 := Lib.hid hb1;clear hb1 hk1 hsp
 go_enter Tryz.func95, Tryz.ntmps95
 go_wp2_with fail
 refine (gWithin6 item 1 4611686018427387903 _).mono ?_
 rintro e z ⟨rfl, rfl⟩
 cases r0 : (decide (1 ≤ item ∧ item ≤ 4611686018427387903))
 ·go_wp2_with fail
  refine (gWithin6 a 1 200 _).mono ?_
  rintro e z ⟨rfl, rfl⟩
  cases p0 : (decide (1 ≤ a ∧ a ≤ 200))
  ·have HV : Hid (sp = false) := HSP.out.symm.trans (by rw [p0]; simp)
   go_wp2_with fail
   go_ret;exact rb HV HB1 HN
  ·go_wp2_with fail
   refine (gWithin6 b 1 200 _).mono ?_
   rintro e z ⟨rfl, rfl⟩
   cases p1 : (decide (1 ≤ b ∧ b ≤ 200))
   ·have HV : Hid (sp = false) := HSP.out.symm.trans (by rw [p0, p1]; simp)
    go_wp2_with fail
    go_ret;exact rb HV HB1 HN
   ·cases p2 : (a != b)
    ·have HV : Hid (sp = false) := HSP.out.symm.trans (by rw [p0, p1, p2]; simp)
     go_wp2_with fail
     go_ret;exact rb HV HB1 HN
    ·go_wp2_with fail
     refine (gWithin6 n 0 86400 _).mono ?_
     rintro e z ⟨rfl, rfl⟩
     cases p3 : (decide (0 ≤ n ∧ n ≤ 86400))
     ·have HV : Hid (sp = false) := HSP.out.symm.trans (by rw [p0, p1, p2, p3]; simp)
      go_wp2_with fail
      go_ret;exact rb HV HB1 HN
     ·cases p4 : (item == 0)
      ·have HV : Hid (sp = false) := HSP.out.symm.trans (by rw [p0, p1, p2, p3, p4]; simp)
       go_wp2_with fail
       go_ret;exact rb HV HB1 HN
      ·cases p5 : (frm == 0)
       ·have HV : Hid (sp = false) := HSP.out.symm.trans (by rw [p0, p1, p2, p3, p4, p5]; simp)
        go_wp2_with fail
        go_ret;exact rb HV HB1 HN
       ·cases p6 : (til == 0)
        ·have HV : Hid (sp = false) := HSP.out.symm.trans (by rw [p0, p1, p2, p3, p4, p5, p6]; simp)
         go_wp2_with fail
         go_ret;exact rb HV HB1 HN
        ·cases p7 : (regs == 0)
         ·have HV : Hid (sp = false) := HSP.out.symm.trans (by rw [p0, p1, p2, p3, p4, p5, p6, p7]; simp)
          go_wp2_with fail
          go_ret;exact rb HV HB1 HN
         ·have HV : Hid (sp = true) := HSP.out.symm.trans (by rw [p0, p1, p2, p3, p4, p5, p6, p7]; simp)
          go_wp2_with fail
          go_ret;exact rb HV HB1 HN
 ·go_wp2_with fail
  refine (gWithin6 regs 1 255 _).mono ?_
  rintro e z ⟨rfl, rfl⟩
  obtain ⟨r1, hr1⟩ : ∃ r1, decide (1 ≤ regs ∧ regs ≤ 255) = r1 := ⟨_, rfl⟩
  rw [hr1]
  go_wp2_with fail
  refine (gWithin6 a 1 200 _).mono ?_
  rintro e z ⟨rfl, rfl⟩
  cases p0 : (decide (1 ≤ a ∧ a ≤ 200))
  ·have HV : Hid (sp = false) := HSP.out.symm.trans (by rw [p0]; simp)
   go_wp2_with fail
   go_ret;exact rb HV HB1 HN
  ·go_wp2_with fail
   refine (gWithin6 b 1 200 _).mono ?_
   rintro e z ⟨rfl, rfl⟩
   cases p1 : (decide (1 ≤ b ∧ b ≤ 200))
   ·have HV : Hid (sp = false) := HSP.out.symm.trans (by rw [p0, p1]; simp)
    go_wp2_with fail
    go_ret;exact rb HV HB1 HN
   ·cases p2 : (a != b)
    ·have HV : Hid (sp = false) := HSP.out.symm.trans (by rw [p0, p1, p2]; simp)
     go_wp2_with fail
     go_ret;exact rb HV HB1 HN
    ·go_wp2_with fail
     refine (gWithin6 n 0 86400 _).mono ?_
     rintro e z ⟨rfl, rfl⟩
     cases p3 : (decide (0 ≤ n ∧ n ≤ 86400))
     ·have HV : Hid (sp = false) := HSP.out.symm.trans (by rw [p0, p1, p2, p3]; simp)
      go_wp2_with fail
      go_ret;exact rb HV HB1 HN
     ·cases p4 : (item == 0)
      ·have HV : Hid (sp = false) := HSP.out.symm.trans (by rw [p0, p1, p2, p3, p4]; simp)
       go_wp2_with fail
       go_ret;exact rb HV HB1 HN
      ·cases p5 : (frm == 0)
       ·have HV : Hid (sp = false) := HSP.out.symm.trans (by rw [p0, p1, p2, p3, p4, p5]; simp)
        go_wp2_with fail
        go_ret;exact rb HV HB1 HN
       ·cases p6 : (til == 0)
        ·have HV : Hid (sp = false) := HSP.out.symm.trans (by rw [p0, p1, p2, p3, p4, p5, p6]; simp)
         go_wp2_with fail
         go_ret;exact rb HV HB1 HN
        ·cases p7 : (regs == 0)
         ·have HV : Hid (sp = false) := HSP.out.symm.trans (by rw [p0, p1, p2, p3, p4, p5, p6, p7]; simp)
          go_wp2_with fail
          go_ret;exact rb HV HB1 HN
         ·have HV : Hid (sp = true) := HSP.out.symm.trans (by rw [p0, p1, p2, p3, p4, p5, p6, p7]; simp)
          go_wp2_with fail
          go_ret;exact rb HV HB1 HN
theorem gRef06_6 (item frm til regs n a b : Int) (W : World) : Calls Tryz.prog 95 #[.agg (aC 6 item frm til regs n a b)] W fun e w' => e = .returned (.bool (decide (0 ≤ frm ∧ frm ≤ 86340) && (decide (0 ≤ til ∧ til ≤ 86340) && ((frm % 60 == 0) && ((til % 60 == 0) && ((frm != til) && (decide (1 ≤ a ∧ a ≤ 3) && ((item == 0) && ((regs == 0) && ((n == 0) && (b == 0))))))))))) ∧ Below W.heap.size W w' := by
 obtain ⟨N, w1, hN, hw1, hb1, hk1⟩ := bx W (aC 6 item frm til regs n a b) (lC 6 item frm til regs n a b) 26 rfl
 have k0 : w1.cell? ⟨N, 0, none⟩ = some (.int .i64 6) := hk1.cell 0
 have k1 : w1.cell? ⟨N, 1, none⟩ = some (.int .i64 item) := hk1.cell 1
 have k2 : w1.cell? ⟨N, 2, none⟩ = some (.int .i64 frm) := hk1.cell 2
 have k3 : w1.cell? ⟨N, 3, none⟩ = some (.int .i64 til) := hk1.cell 3
 have k4 : w1.cell? ⟨N, 4, none⟩ = some (.int .i64 regs) := hk1.cell 4
 have k5 : w1.cell? ⟨N, 5, none⟩ = some (.int .i64 n) := hk1.cell 5
 have k6 : w1.cell? ⟨N, 6, none⟩ = some (.int .i64 a) := hk1.cell 6
 have k7 : w1.cell? ⟨N, 7, none⟩ = some (.int .i64 b) := hk1.cell 7
 obtain ⟨sp, hsp⟩ : ∃ sp, ((decide (0 ≤ frm ∧ frm ≤ 86340) && (decide (0 ≤ til ∧ til ≤ 86340) && ((frm % 60 == 0) && ((til % 60 == 0) && ((frm != til) && (decide (1 ≤ a ∧ a ≤ 3) && ((item == 0) && ((regs == 0) && ((n == 0) && (b == 0))))))))))) = sp := ⟨_, rfl⟩
 rw [hsp];have HSP := Lib.hid hsp;have HN := Lib.hid hN;have HB1 := Lib.hid hb1;clear hb1 hk1 hsp
 go_enter Tryz.func95, Tryz.ntmps95
 go_wp2_with fail
 refine (gWithin6 item 1 4611686018427387903 _).mono ?_
 rintro e z ⟨rfl, rfl⟩
 cases r0 : (decide (1 ≤ item ∧ item ≤ 4611686018427387903))
 ·go_wp2_with fail
  refine (gWithin6 frm 0 86340 _).mono ?_
  rintro e z ⟨rfl, rfl⟩
  cases p0 : (decide (0 ≤ frm ∧ frm ≤ 86340))
  ·have HV : Hid (sp = false) := HSP.out.symm.trans (by rw [p0]; simp)
   go_wp2_with fail
   go_ret;exact rb HV HB1 HN
  ·have u0 : 0 ≤ frm := (of_decide_eq_true p0).1
   go_wp2_with fail
   refine (gWithin6 til 0 86340 _).mono ?_
   rintro e z ⟨rfl, rfl⟩
   cases p1 : (decide (0 ≤ til ∧ til ≤ 86340))
   ·have HV : Hid (sp = false) := HSP.out.symm.trans (by rw [p0, p1]; simp)
    go_wp2_with fail
    go_ret;exact rb HV HB1 HN
   ·have u1 : 0 ≤ til := (of_decide_eq_true p1).1
    cases p2 : (frm % 60 == 0)
    ·have HV : Hid (sp = false) := HSP.out.symm.trans (by rw [p0, p1, p2]; simp)
     go_wp2_with fail
     go_ret;exact rb HV HB1 HN
    ·cases p3 : (til % 60 == 0)
     ·have HV : Hid (sp = false) := HSP.out.symm.trans (by rw [p0, p1, p2, p3]; simp)
      go_wp2_with fail
      go_ret;exact rb HV HB1 HN
     ·cases p4 : (frm != til)
      ·have HV : Hid (sp = false) := HSP.out.symm.trans (by rw [p0, p1, p2, p3, p4]; simp)
       go_wp2_with fail
       go_ret;exact rb HV HB1 HN
      ·go_wp2_with fail
       refine (gWithin6 a 1 3 _).mono ?_
       rintro e z ⟨rfl, rfl⟩
       cases p5 : (decide (1 ≤ a ∧ a ≤ 3))
       ·have HV : Hid (sp = false) := HSP.out.symm.trans (by rw [p0, p1, p2, p3, p4, p5]; simp)
        go_wp2_with fail
        go_ret;exact rb HV HB1 HN
       ·cases p6 : (item == 0)
        ·have HV : Hid (sp = false) := HSP.out.symm.trans (by rw [p0, p1, p2, p3, p4, p5, p6]; simp)
         go_wp2_with fail
         go_ret;exact rb HV HB1 HN
        ·cases p7 : (regs == 0)
         ·have HV : Hid (sp = false) := HSP.out.symm.trans (by rw [p0, p1, p2, p3, p4, p5, p6, p7]; simp)
          go_wp2_with fail
          go_ret;exact rb HV HB1 HN
         ·cases p8 : (n == 0)
          ·have HV : Hid (sp = false) := HSP.out.symm.trans (by rw [p0, p1, p2, p3, p4, p5, p6, p7, p8]; simp)
           go_wp2_with fail
           go_ret;exact rb HV HB1 HN
          ·cases p9 : (b == 0)
           ·have HV : Hid (sp = false) := HSP.out.symm.trans (by rw [p0, p1, p2, p3, p4, p5, p6, p7, p8, p9]; simp)
            go_wp2_with fail
            go_ret;exact rb HV HB1 HN
           ·have HV : Hid (sp = true) := HSP.out.symm.trans (by rw [p0, p1, p2, p3, p4, p5, p6, p7, p8, p9]; simp)
            go_wp2_with fail
            go_ret;exact rb HV HB1 HN
 ·go_wp2_with fail
  refine (gWithin6 regs 1 255 _).mono ?_
  rintro e z ⟨rfl, rfl⟩
  obtain ⟨r1, hr1⟩ : ∃ r1, decide (1 ≤ regs ∧ regs ≤ 255) = r1 := ⟨_, rfl⟩
  rw [hr1]
  go_wp2_with fail
  refine (gWithin6 frm 0 86340 _).mono ?_
  rintro e z ⟨rfl, rfl⟩
  cases p0 : (decide (0 ≤ frm ∧ frm ≤ 86340))
  ·have HV : Hid (sp = false) := HSP.out.symm.trans (by rw [p0]; simp)
   go_wp2_with fail
   go_ret;exact rb HV HB1 HN
  ·have u0 : 0 ≤ frm := (of_decide_eq_true p0).1
   go_wp2_with fail
   refine (gWithin6 til 0 86340 _).mono ?_
   rintro e z ⟨rfl, rfl⟩
   cases p1 : (decide (0 ≤ til ∧ til ≤ 86340))
   ·have HV : Hid (sp = false) := HSP.out.symm.trans (by rw [p0, p1]; simp)
    go_wp2_with fail
    go_ret;exact rb HV HB1 HN
   ·have u1 : 0 ≤ til := (of_decide_eq_true p1).1
    cases p2 : (frm % 60 == 0)
    ·have HV : Hid (sp = false) := HSP.out.symm.trans (by rw [p0, p1, p2]; simp)
     go_wp2_with fail
     go_ret;exact rb HV HB1 HN
    ·cases p3 : (til % 60 == 0)
     ·have HV : Hid (sp = false) := HSP.out.symm.trans (by rw [p0, p1, p2, p3]; simp)
      go_wp2_with fail
      go_ret;exact rb HV HB1 HN
     ·cases p4 : (frm != til)
      ·have HV : Hid (sp = false) := HSP.out.symm.trans (by rw [p0, p1, p2, p3, p4]; simp)
       go_wp2_with fail
       go_ret;exact rb HV HB1 HN
      ·go_wp2_with fail
       refine (gWithin6 a 1 3 _).mono ?_
       rintro e z ⟨rfl, rfl⟩
       cases p5 : (decide (1 ≤ a ∧ a ≤ 3))
       ·have HV : Hid (sp = false) := HSP.out.symm.trans (by rw [p0, p1, p2, p3, p4, p5]; simp)
        go_wp2_with fail
        go_ret;exact rb HV HB1 HN
       ·cases p6 : (item == 0)
        ·have HV : Hid (sp = false) := HSP.out.symm.trans (by rw [p0, p1, p2, p3, p4, p5, p6]; simp)
         go_wp2_with fail
         go_ret;exact rb HV HB1 HN
        ·cases p7 : (regs == 0)
         ·have HV : Hid (sp = false) := HSP.out.symm.trans (by rw [p0, p1, p2, p3, p4, p5, p6, p7]; simp)
          go_wp2_with fail
          go_ret;exact rb HV HB1 HN
         ·cases p8 : (n == 0)
          ·have HV : Hid (sp = false) := HSP.out.symm.trans (by rw [p0, p1, p2, p3, p4, p5, p6, p7, p8]; simp)
           go_wp2_with fail
           go_ret;exact rb HV HB1 HN
          ·cases p9 : (b == 0)
           ·have HV : Hid (sp = false) := HSP.out.symm.trans (by rw [p0, p1, p2, p3, p4, p5, p6, p7, p8, p9]; simp)
            go_wp2_with fail
            go_ret;exact rb HV HB1 HN
           ·have HV : Hid (sp = true) := HSP.out.symm.trans (by rw [p0, p1, p2, p3, p4, p5, p6, p7, p8, p9]; simp)
            go_wp2_with fail
            go_ret;exact rb HV HB1 HN
theorem gRef06_no (kind item frm til regs n a b : Int) (W : World) (k1 : (kind == 1) = false) (k2 : (kind == 2) = false) (k3 : (kind == 3) = false) (k4 : (kind == 4) = false) (k5 : (kind == 5) = false) (k6 : (kind == 6) = false) : Calls Tryz.prog 95 #[.agg (aC kind item frm til regs n a b)] W fun e w' => e = .returned (.bool false) ∧ Below W.heap.size W w' := by
 obtain ⟨N, w1, hN, hw1, hb1, hk1⟩ := bx W (aC kind item frm til regs n a b) (lC kind item frm til regs n a b) 26 rfl
 have k0 : w1.cell? ⟨N, 0, none⟩ = some (.int .i64 kind) := hk1.cell 0
 have k1 : w1.cell? ⟨N, 1, none⟩ = some (.int .i64 item) := hk1.cell 1
 have k2 : w1.cell? ⟨N, 2, none⟩ = some (.int .i64 frm) := hk1.cell 2
 have k3 : w1.cell? ⟨N, 3, none⟩ = some (.int .i64 til) := hk1.cell 3
 have k4 : w1.cell? ⟨N, 4, none⟩ = some (.int .i64 regs) := hk1.cell 4
 have k5 : w1.cell? ⟨N, 5, none⟩ = some (.int .i64 n) := hk1.cell 5
 have k6 : w1.cell? ⟨N, 6, none⟩ = some (.int .i64 a) := hk1.cell 6
 have k7 : w1.cell? ⟨N, 7, none⟩ = some (.int .i64 b) := hk1.cell 7
 obtain ⟨sp, hsp⟩ : ∃ sp, (false) = sp := ⟨_, rfl⟩
 rw [hsp];have HSP := Lib.hid hsp;have HN := Lib.hid hN;have HB1 := Lib.hid hb1;clear hb1 hk1 hsp
 have HF : Hid (false = sp) := HSP.out
 clear HSP
 go_enter Tryz.func95, Tryz.ntmps95
 go_wp2_with fail
 refine (gWithin6 item 1 4611686018427387903 _).mono ?_
 rintro e z ⟨rfl, rfl⟩
 cases r0 : (decide (1 ≤ item ∧ item ≤ 4611686018427387903))
 ·go_wp2_with fail
  go_ret
  exact ⟨ret_bool HF.out, by first | exact HB1.out | (rw [HN.out]; exact HB1.out)⟩
 ·go_wp2_with fail
  refine (gWithin6 regs 1 255 _).mono ?_
  rintro e z ⟨rfl, rfl⟩
  obtain ⟨r1, hr1⟩ : ∃ r1, decide (1 ≤ regs ∧ regs ≤ 255) = r1 := ⟨_, rfl⟩
  rw [hr1]
  go_wp2_with fail
  go_ret
  exact ⟨ret_bool HF.out, by first | exact HB1.out | (rw [HN.out]; exact HB1.out)⟩
theorem gRef06 (c : ClD) (W : World) : Calls Tryz.prog 95 #[.agg c.l.toArray] W fun e w' => e = .returned (.bool c.ok) ∧ Below W.heap.size W w' := by
 obtain ⟨kind, item, frm, til, regs, n, a, b⟩ := c
 have fin : ∀ (x : Bool), x = (⟨kind, item, frm, til, regs, n, a, b⟩ : ClD).ok → (Calls Tryz.prog 95 #[.agg (aC kind item frm til regs n a b)] W fun e w' => e = .returned (.bool x) ∧ Below W.heap.size W w') → Calls Tryz.prog 95 #[.agg (⟨kind, item, frm, til, regs, n, a, b⟩ : ClD).l.toArray] W fun e w' => e = .returned (.bool (⟨kind, item, frm, til, regs, n, a, b⟩ : ClD).ok) ∧ Below W.heap.size W w' := fun x hx h => by subst hx; exact h
 rcases (show kind = 1 ∨ kind = 2 ∨ kind = 3 ∨ kind = 4 ∨ kind = 5 ∨ kind = 6 ∨ (kind ≠ 1 ∧ kind ≠ 2 ∧ kind ≠ 3 ∧ kind ≠ 4 ∧ kind ≠ 5 ∧ kind ≠ 6) from by omega) with rfl | rfl | rfl | rfl | rfl | rfl | ⟨h1, h2, h3, h4, h5, h6⟩
 ·refine fin _ ?_ (gRef06_1 item frm til regs n a b W)
  rw [Bool.eq_iff_iff]
  simp [ClD.ok, ClD.eqB, ClD.used]
  omega
 ·refine fin _ ?_ (gRef06_2 item frm til regs n a b W)
  rw [Bool.eq_iff_iff]
  simp [ClD.ok, ClD.eqB, ClD.used]
  omega
 ·refine fin _ ?_ (gRef06_3 item frm til regs n a b W)
  rw [Bool.eq_iff_iff]
  simp [ClD.ok, ClD.eqB, ClD.used]
  omega
 ·refine fin _ ?_ (gRef06_4 item frm til regs n a b W)
  rw [Bool.eq_iff_iff]
  simp [ClD.ok, ClD.eqB, ClD.used]
  omega
 ·refine fin _ ?_ (gRef06_5 item frm til regs n a b W)
  rw [Bool.eq_iff_iff]
  simp [ClD.ok, ClD.eqB, ClD.used]
  omega
 ·refine fin _ ?_ (gRef06_6 item frm til regs n a b W)
  rw [Bool.eq_iff_iff]
  simp [ClD.ok, ClD.eqB, ClD.used]
  omega
 ·refine fin false ?_ (gRef06_no kind item frm til regs n a b W (beq_eq_false_iff_ne.2 h1) (beq_eq_false_iff_ne.2 h2) (beq_eq_false_iff_ne.2 h3) (beq_eq_false_iff_ne.2 h4) (beq_eq_false_iff_ne.2 h5) (beq_eq_false_iff_ne.2 h6))
  symm
  rw [Bool.eq_false_iff]
  unfold ClD.ok
  simp [h1, h2, h3, h4, h5, h6]
end Go.Proofs.YtjkiidhnmljmbaaGreatDoor
namespace Go.Proofs.YtjkiidhnmljmbaaGreatDoor
namespace Cp
section
open Go.RowKit
theorem cue_cells {W : World} {g : Nat} {t : TypeId} {c : Cue} (h : Blk W g t c.cells) : W.cell? ⟨g, 0, none⟩ = some (.int .i64 c.id) ∧ W.cell? ⟨g, 1, none⟩ = some (.int .i64 c.fr) ∧ W.cell? ⟨g, 2, none⟩ = some (.int .i64 c.to) ∧ W.cell? ⟨g, 3, none⟩ = some (.int .i64 c.pr) ∧ W.cell? ⟨g, 4, none⟩ = some (.string c.tx) :=
 ⟨h.cell 0, h.cell 1, h.cell 2, h.cell 3, h.cell 4⟩
theorem drewN_below {B : Nat} {a w : World} (h : Below B a w) (n : Nat) : Below B a (w.drewN n) := h.trans ⟨rfl, rfl, rfl, Nat.le_refl _, fun _ _ => rfl⟩
structure LS (w wr : World) (v : Value) (L : List (List UInt8)) : Prop where
 own : wr.ownsRow w.heap.size 9 1 v L.length (scells L)
 bel : Below w.heap.size w wr
theorem LS.app {w wr w' : World} {v v' : Value} {L : List (List UInt8)} {x : List UInt8} (h : LS w wr v L) (ho : w'.ownsRow w.heap.size 9 1 v' (L.length + 1) (scells L ++ [.string ⟨x.toArray⟩])) (hf : Fr (fun k => v.ownBlock = some k) wr w') : LS w w' v' (L ++ [x]) :=
 ⟨by rw [List.length_append, show scells (L ++ [x]) = scells L ++ [.string ⟨x.toArray⟩] from by simp [scells]]; exact ho, h.bel.trans (hf.below _ h.bel.size (own_ge h.own))⟩
def RdS (W : World) (oa : Option Addr) (l : List (List UInt8)) : Prop :=
 l = [] ∨ ∃ g off, oa = some ⟨g, off, none⟩ ∧ g < W.heap.size ∧ ∀ i (c : List UInt8), l[i]? = some c → W.cell? ⟨g, off + i, none⟩ = some (.string ⟨c.toArray⟩)
theorem RdS.kept {W W' : World} {oa : Option Addr} {l : List (List UInt8)} (h : RdS W oa l) (hb : Below W.heap.size W W') : RdS W' oa l := by
 rcases h with h | ⟨g, off, rfl, hg, hc⟩
 ·exact .inl h
 ·exact .inr ⟨g, off, rfl, Nat.lt_of_lt_of_le hg hb.size, fun i c hi => (hb.cell (p := ⟨g, _, none⟩) hg).trans (hc i c hi)⟩
theorem RdS.at {W : World} {oa : Option Addr} {l : List (List UInt8)} (h : RdS W oa l) (i : Nat) (hi : i < l.length) : ∃ g off, oa = some ⟨g, off, none⟩ ∧ W.cell? ⟨g, off + i, none⟩ = some (.string ⟨l[i].toArray⟩) := by
 rcases h with rfl | ⟨g, off, rfl, hg, hc⟩
 ·simp at hi
 ·exact ⟨g, off, rfl, hc i _ (List.getElem?_eq_getElem hi)⟩
theorem own_rds {W : World} {B : Nat} {oa : Option Addr} {n cap : Nat} {l : List (List UInt8)} (h : W.ownsRow B 9 1 (.slice oa n cap) l.length (scells l)) : n = l.length ∧ RdS W oa l := by
 have h' := h
 rcases h.2 with ⟨he, h0⟩ | ⟨g, cap', cur, he, q1, q2, q3⟩
 ·simp at he
  have : l = [] := List.eq_nil_of_length_eq_zero h0
  exact ⟨by rw [he.2.1, h0], .inl this⟩
 ·simp at he
  obtain ⟨rfl, rfl, rfl⟩ := he
  refine ⟨rfl, .inr ⟨g, 0, rfl, (Array.getElem?_eq_some_iff.1 q2).1, fun i c hi => ?_⟩⟩
  have hil : i < l.length := (List.getElem?_eq_some_iff.1 hi).1
  rw [Nat.zero_add, h'.cellAt _ (by omega)]
  simp [scells, hi]
end
section
open Go.RowKit
theorem byte_at (s : ByteArray) (k : Nat) (h : k < s.size) : (s.extract k (k + 1)).data.toList = [s[k]] := by
 have h' : k < s.data.toList.length := by rw [dlen]; exact h
 rw [ByteArray.data_extract, Array.toList_extract, List.extract_eq_take_drop, Nat.add_sub_cancel_left, List.drop_eq_getElem_cons h', List.take_succ_cons, List.take_zero]
 rfl
theorem data_mk (V : ByteArray) (l : List UInt8) (h : V.data.toList = l) : V = ⟨l.toArray⟩ := by
 apply ByteArray.ext
 apply Array.ext'
 exact h
theorem wscan_letter2 (s : ByteArray) (k : Nat) (hk : k < s.size) (hc : ¬ s[k] = 32) : wscan (s.data.toList.take (k + 1)) = ((wscan (s.data.toList.take k)).1, (wscan (s.data.toList.take k)).2 ++ [s[k]]) := by
 have e := wscan_letter (s.data.toList.take k) s[k] hc
 rwa [← take_snoc s k hk] at e
theorem wscan_space2 (s : ByteArray) (k : Nat) (hk : k < s.size) (hc : s[k] = 32) : wscan (s.data.toList.take (k + 1)) = (wfin (wscan (s.data.toList.take k)), []) := by
 have e := wscan_space (s.data.toList.take k) s[k] hc
 rwa [← take_snoc s k hk] at e
theorem refWords_any (w : World) (s : ByteArray) (hs : s.size ≤ 1000) :
  Calls Tryz.prog 113 #[.string s] w fun e w' => ∃ oa' cap', e = .returned (.slice oa' (wordsL s.data.toList).length cap') ∧ w'.ownsRow w.heap.size 9 1 (.slice oa' (wordsL s.data.toList).length cap') (wordsL s.data.toList).length (scells (wordsL s.data.toList)) ∧ Below w.heap.size w w' := by
 go_enter Tryz.func113, Tryz.ntmps113
 go_wp2_with fail
 go_loopw [3, 4, 5] (fun v t i wr => ∃ (k : Nat) (L : List (List UInt8)) (V : ByteArray), k ≤ s.size ∧ i = .int .i64 k ∧ t = .string V ∧ Hid (wscan (s.data.toList.take k) = (L, V.data.toList)) ∧ Hid (LS w wr v L)) (fun _ _ i _ => s.size - (intOf i).toNat)
 case atStart => exact ⟨0, [], _, Nat.zero_le _, rfl, rfl, by show _ = _; simp [wscan], ⟨World.ownsRow_nil _ _ _ _, Below.refl _ _⟩⟩
 case round =>
  obtain ⟨k, L, V, hk, rfl, rfl, HL, HO⟩ := hrel
  have hLl : L.length ≤ 1000 := by
   have h1 := wscan_count (s.data.toList.take k)
   have h2 : (s.data.toList.take k).length ≤ k := List.length_take_le _ _
   rw [HL.out] at h1
   simp only at h1
   omega
  have hVl : V.size ≤ 1000 := by
   have h1 := (wordsL_len (s.data.toList.take k)).2
   have h2 : (s.data.toList.take k).length ≤ k := List.length_take_le _ _
   rw [HL.out, dlen] at h1
   omega
  obtain ⟨oL, cL, rfl⟩ := own_slice HO.out.own
  have hVe := str_empty V
  have HVD : Hid (V = ⟨#[]⟩ ↔ V.data.toList = []) := by
   constructor
   ·intro h; rw [h]
   ·intro h; exact data_mk V [] h
  by_cases hks : k = s.size
  ·have hk' : ¬ (k : Int) < s.size := by omega
   have HW : Hid (wordsL s.data.toList = wfin (L, V.data.toList)) := by
    show _ = _
    have := HL.out
    rw [hks, take_all] at this
    unfold wordsL
    rw [this]
   clear hks HL
   by_cases hV : V = ⟨#[]⟩
   ·have HW2 : Hid (wordsL s.data.toList = L) := by
     show _ = _
     rw [HW.out, wfin_nil (HVD.out.1 hV)]
    have e1 := hVe.2 hV
    have e2 : (V.toList == ([] : List UInt8)) = true := by rw [e1]; rfl
    clear hV hVe
    go_wp2_with fail
    go_ret;rw [HW2.out];exact ⟨_, _, rfl, HO.out.own, HO.out.bel⟩
   ·have HW2 : Hid (wordsL s.data.toList = L ++ [V.data.toList]) := by
     show _ = _
     rw [HW.out, wfin_cons (fun e => hV (HVD.out.2 e))]
    have e1 : ¬ V.toList = [] := fun e => hV (hVe.1 e)
    have e2 : (V.toList == ([] : List UInt8)) = false := by rw [beq_eq_false_iff_ne]; exact e1
    have e3 : V.toList.isEmpty = false := by rw [List.isEmpty_eq_false_iff]; exact e1
    obtain ⟨v', w2, hrun, ho2, hf2, hk2⟩ := app_str wr w.heap.size _ L.length _ V HO.out.own (by omega) HO.out.bel.size 187
    have HO2 := Lib.hid (HO.out.app (x := V.data.toList) (by rw [← data_mk V _ rfl]; exact ho2) hf2)
    obtain ⟨oM, cM, rfl⟩ := own_slice ho2
    clear hV hVe ho2 hf2 hk2
    go_wp2_with (at_builtin; refine wpList_append_run _ rfl _ _ 187 rfl _ _ _ _ rfl rfl hrun ?_)
    go_ret;rw [HW2.out]
    exact ⟨_, _, by rw [List.length_append]; rfl, by have := HO2.out.own; rw [List.length_append] at this ⊢; exact this, HO2.out.bel⟩
  ·have hk' : (k : Int) < s.size := by omega
   have hk2 : k < s.size := by omega
   have hb := byte_ne (s[k]'hk2)
   clear hks
   by_cases hsp : s[k]'hk2 = 32
   ·rw [decide_eq_true hsp] at hb
    have hws := wscan_space2 s k hk2 hsp
    rw [HL.out] at hws;clear hsp HL
    by_cases hV : V = ⟨#[]⟩
    ·rw [wfin_nil (HVD.out.1 hV)] at hws
     have HW := Lib.hid hws
     have e1 := hVe.2 hV
     have e2 : (V.toList == ([] : List UInt8)) = true := by rw [e1]; rfl
     clear hV hVe hws
     go_wp2_with fail
     go_roundw
     case rel => exact ⟨k + 1, L, _, by omega, by go_num, rfl, HW, HO⟩
     case measure => simp [intOf]; omega
    ·rw [wfin_cons (fun e => hV (HVD.out.2 e))] at hws
     have HW := Lib.hid hws
     have e1 : ¬ V.toList = [] := fun e => hV (hVe.1 e)
     have e2 : (V.toList == ([] : List UInt8)) = false := by rw [beq_eq_false_iff_ne]; exact e1
     have e3 : V.toList.isEmpty = false := by rw [List.isEmpty_eq_false_iff]; exact e1
     obtain ⟨v', w2, hrun, ho2, hf2, hk2'⟩ := app_str wr w.heap.size _ L.length _ V HO.out.own (by omega) HO.out.bel.size 187
     have HO2 := Lib.hid (HO.out.app (x := V.data.toList) (by rw [← data_mk V _ rfl]; exact ho2) hf2)
     obtain ⟨oM, cM, rfl⟩ := own_slice ho2
     clear hV hVe ho2 hf2 hk2' hws
     go_wp2_with (at_builtin; refine wpList_append_run _ rfl _ _ 187 rfl _ _ _ _ rfl rfl hrun ?_)
     go_roundw
     case rel => exact ⟨k + 1, _, _, by omega, by go_num, rfl, HW, HO2⟩
     case measure => simp [intOf]; omega
   ·rw [decide_eq_false hsp] at hb
    have hws := wscan_letter2 s k hk2 hsp
    rw [HL.out] at hws
    obtain ⟨U, hU⟩ : ∃ U, s.extract k (k + 1) = U := ⟨_, rfl⟩
    have HW : Hid (wscan (s.data.toList.take (k + 1)) = (L, (V ++ U).data.toList)) := by
     show _ = _
     rw [hws, ← hU, ByteArray.data_append, Array.toList_append, byte_at s k hk2]
    have hUs : U.size ≤ 1 := by rw [← hU, ByteArray.size_extract]; omega
    clear hsp hws HL hVe
    have hkk : (k : Int) + 1 ≤ s.size := by omega
    go_wp2_with fail
    go_roundw
    case rel => exact ⟨k + 1, L, _, by omega, by go_num, rfl, HW, HO⟩
    case measure => simp [intOf]; omega
theorem ref_word_len (l : List UInt8) : ∀ w ∈ wordsL l, w.length ≤ l.length := by
 intro w hw
 have h1 := join_len l
 have h2 : w.length ≤ (joinSp (wordsL l)).length := by
  clear h1
  generalize wordsL l = ws at hw
  induction ws using snocRec with
  | h0 => simp at hw
  | hs ws v ih =>
   by_cases e : ws = []
   ·subst e
    simp at hw
    subst hw;exact Nat.le_refl _
   ·rw [joinSp_snoc _ _ e, List.length_append, List.length_cons]
    rcases List.mem_append.1 hw with h | h
    ·have := ih h
     omega
    ·simp at h
     subst h
     omega
 omega
theorem LS.set {w wr : World} {g cap : Nat} {rs : List (List UInt8)} {r x : List UInt8} (h : LS w wr (.slice (some ⟨g, 0, none⟩) (rs.length + 1) cap) (rs ++ [r])) :
  LS w (wr.setCell ⟨g, rs.length, none⟩ (.string ⟨(r ++ 32 :: x).toArray⟩)).drew (.slice (some ⟨g, 0, none⟩) (rs.length + 1) cap) (rs ++ [r ++ 32 :: x]) := by
 have ho := h.own
 rw [List.length_append] at ho
 refine ⟨?_, ((h.bel.setCell (p := ⟨g, rs.length, none⟩) (own_ge h.own g rfl) _)).drew⟩
 rw [List.length_append]
 have := (ho.stored rs.length (.string ⟨(r ++ 32 :: x).toArray⟩)).1
 rw [show (scells (rs ++ [r])).set rs.length (.string ⟨(r ++ 32 :: x).toArray⟩) = scells (rs ++ [r ++ 32 :: x]) from by simp [scells, List.set_append]] at this
 exact this.drew
theorem LS.drewN {w wr : World} {v : Value} {L : List (List UInt8)} (h : LS w wr v L) (n : Nat) : LS w (wr.drewN n) v L :=
 ⟨ownsRow_keptF h.own (fun _ _ => rfl), drewN_below h.bel n⟩
theorem narrow_take (ws : List (List UInt8)) (k : Nat) (hk : k < ws.length) : narrowB (ws.take (k + 1)) = (narrowB (ws.take k) && decide (ws[k].length ≤ 32)) := by
 rw [List.take_succ_eq_append_getElem hk, narrow_snoc]
theorem narrow_short (ws : List (List UInt8)) (k : Nat) (h : narrowB (ws.take k) = false) : narrowB ws = false := by
 rw [← List.take_append_drop k ws]
 unfold narrowB at *
 rw [List.all_append, h, Bool.false_and]
theorem rows_take (ws : List (List UInt8)) (k : Nat) (hk : k < ws.length) : rowsOf (ws.take (k + 1)) = rstep (rowsOf (ws.take k)) ws[k] := by
 rw [List.take_succ_eq_append_getElem hk, rowsOf_snoc]
theorem refRows_any (s : ByteArray) (w : World) (hsz : s.size ≤ maxLen) :
  Calls Tryz.prog 109 #[.string s] w fun e w' => ∃ v, e = .returned (.tuple #[v, .bool (fitsB s.data.toList)]) ∧ w'.ownsRow w.heap.size 9 1 v (rowsR s.data.toList).length (scells (rowsR s.data.toList)) ∧ Below w.heap.size w w' := by
 unfold maxLen at hsz
 by_cases hz : s.size ≤ 200
 ·have hz' : ¬ (200 : Int) < s.size := by omega
  go_enter Tryz.func109, Tryz.ntmps109
  go_wp2_with fail
  go_loop [4] (fun i => ∃ k : Nat, k ≤ s.size ∧ i = .int .i64 k ∧ Hid (printB (s.data.toList.take k) = true)) (fun i => s.size - (intOf i).toNat)
  case atStart => exact ⟨0, Nat.zero_le _, rfl, (rfl : printB [] = true)⟩
  case round =>
   obtain ⟨k, hk, rfl, HP⟩ := hrel
   by_cases hks : k = s.size
   ·have HS : Hid (printB s.data.toList = true) := by
     have := HP.out
     rwa [hks, take_all] at this
    have hlt : ¬ (k : Int) < s.size := by omega
    clear hks HP
    go_wp2_with fail
    refine (refWords_any w s (by omega)).mono ?_
    have hwn : (wordsL s.data.toList).length ≤ 200 := by
     have h1 := wscan_count s.data.toList
     rw [dlen] at h1
     unfold wordsL wfin
     split
     ·omega
     ·rename_i h2
      rw [if_neg h2] at h1;rw [List.length_append]
      simp
      omega
    have hwl := wordsL_mem s.data.toList
    obtain ⟨A, hA⟩ : ∃ A, wordsL s.data.toList = A := ⟨_, rfl⟩
    rw [hA] at hwn ⊢
    have hf : fitsB s.data.toList = (narrowB A && decide (1 ≤ (rowsOf A).length ∧ (rowsOf A).length ≤ 4)) := by
     unfold fitsB
     rw [HS.out, dlen, decide_eq_true hz, hA]
     rfl
    have HF := Lib.hid hf
    have HRR : Hid (rowsR s.data.toList = if fitsB s.data.toList = true then rowsOf A else []) := by show _ = _; unfold rowsR; rw [hA]
    have HWS : Hid (∀ x ∈ A, x.length ≤ 200) := fun x hx => by
     have h1 : x.length ≤ s.data.toList.length := ref_word_len s.data.toList x (by rw [hA]; exact hx)
     rw [dlen] at h1
     omega
    clear hf hA hwl;rintro e w2 ⟨ol, cl, rfl, ho2, hb2⟩
    have HL2 := Lib.hid (own_rds ho2).2
    have HB2 := Lib.hid hb2;clear ho2 hb2
    go_wp2_with fail
    go_loopw [6, 7] (fun v i wr => ∃ (k : Nat) (R : List (List UInt8)), k ≤ A.length ∧ i = .int .i64 k ∧ Hid (rowsOf (A.take k) = R) ∧ Hid (narrowB (A.take k) = true) ∧ Hid (LS w2 wr v R)) (fun _ i _ => A.length - (intOf i).toNat)
    case atStart => exact ⟨0, [], Nat.zero_le _, rfl, by show _ = _; rfl, (rfl : narrowB [] = true), ⟨World.ownsRow_nil _ _ _ _, Below.refl _ _⟩⟩
    case round =>
     obtain ⟨k, R, hk, rfl, HR, HN, HO⟩ := hrel
     have hRl : R.length ≤ 200 := by
      rw [← HR.out]
      have h1 := rowsOf_len (A.take k)
      have h2 : (A.take k).length ≤ k := List.length_take_le _ _
      omega
     obtain ⟨oR, cR, rfl⟩ := own_slice HO.out.own
     by_cases hkA : k = A.length
     ·have hk' : ¬ (k : Int) < A.length := by omega
      have HRA : Hid (rowsOf A = R) := by
       have := HR.out
       rwa [hkA, List.take_length] at this
      have HNA : Hid (narrowB A = true) := by
       have := HN.out
       rwa [hkA, List.take_length] at this
      clear hkA HR HN
      by_cases hr : 1 ≤ R.length ∧ R.length ≤ 4
      ·have HFT : Hid (fitsB s.data.toList = true) := by show _ = _; rw [HF.out, HNA.out, HRA.out, decide_eq_true hr]; rfl
       have h1 : ¬ (R.length : Int) < 1 := by omega
       have h2 : ¬ (4 : Int) < R.length := by omega
       clear hr
       go_wp2_with fail
       go_ret2
       refine ⟨.slice oR R.length cR, by rw [HFT.out]; rfl, ?_, HB2.out.trans (HO.out.bel.mono HB2.out.size)⟩
       rw [HRR.out, if_pos HFT.out, HRA.out];exact own_base HO.out.own HB2.out.size
      ·have HFT : Hid (fitsB s.data.toList = false) := by show _ = _; rw [HF.out, HNA.out, HRA.out, decide_eq_false hr]; rfl
       rcases (show (R.length : Int) < 1 ∨ (¬ (R.length : Int) < 1 ∧ (4 : Int) < R.length) from by omega) with q1 | ⟨q1, q2⟩
       all_goals
        clear hr
        go_wp2_with fail
        go_ret2
        refine ⟨.slice none 0 0, by rw [HFT.out]; rfl, ?_, HB2.out.trans (HO.out.bel.mono HB2.out.size)⟩
        rw [HRR.out, if_neg (by rw [HFT.out]; decide)]
        exact World.ownsRow_nil _ _ _ _
     ·have hk' : (k : Int) < A.length := by omega
      have hk2 : k < A.length := by omega
      obtain ⟨g, off, rfl, c0⟩ := (HL2.out.kept HO.out.bel).at k hk2
      have hxw := HWS.out _ (List.getElem_mem hk2)
      have HNT := Lib.hid (narrow_take A k hk2)
      have HRT := Lib.hid (rows_take A k hk2)
      rw [HN.out, Bool.true_and] at HNT;rw [HR.out] at HRT
      generalize A[k] = x at c0 hxw HNT HRT
      obtain ⟨X, hX⟩ : ∃ X : ByteArray, (⟨x.toArray⟩ : ByteArray) = X := ⟨_, rfl⟩
      have hXs : X.size = x.length := by rw [← hX]; rfl
      rw [hX] at c0;have HX := Lib.hid hX;clear hkA hX
      by_cases hx32 : x.length ≤ 32
      ·have hx' : ¬ (32 : Int) < X.size := by omega
       rw [decide_eq_true hx32] at HNT
       have hX32 : X.size ≤ 32 := by omega
       rcases List.eq_nil_or_concat R with hR | ⟨rs, r, hR⟩
       ·subst hR
        have HRT2 : Hid (rowsOf (A.take (k + 1)) = [x]) := HRT.out
        go_wp2_with fail
        go_quiet (fail)
        have HO2 := Lib.hid (HO.out.drewN nq)
        have d0 : (wr.drewN nq).cell? ⟨g, off + k, none⟩ = some (.string X) := c0
        clear c0
        generalize wr.drewN nq = w3 at HO2 d0 ⊢
        obtain ⟨v', w4, hrun, ho4, hf4, hk4⟩ := app_str w3 w2.heap.size _ ([] : List (List UInt8)).length _ X HO2.out.own (by simp) HO2.out.bel.size 187
        have HO4 := Lib.hid (HO2.out.app (x := x) (by rw [HX.out]; exact ho4) hf4)
        obtain ⟨oM, cM, rfl⟩ := own_slice ho4
        rw [List.length_nil] at hrun;clear ho4 hf4 hk4 hx32
        go_wp2_with (at_builtin; refine wpList_append_run _ rfl _ _ 187 rfl _ _ _ _ rfl rfl hrun ?_)
        go_roundw
        case rel => exact ⟨k + 1, [x], by omega, by go_num, HRT2, HNT, HO4⟩
        case measure => simp [intOf]; omega
       ·rw [List.concat_eq_append] at hR
        subst hR
        obtain ⟨gr, rfl⟩ : ∃ gr, oR = some ⟨gr, 0, none⟩ := by
         rcases HO.out.own.2 with ⟨he, h0⟩ | ⟨gg, cap', cur, he, _⟩
         ·simp at h0
         ·simp at he
          exact ⟨gg, he.1⟩
        have hrl : (rs ++ [r]).length = rs.length + 1 := by simp
        rw [hrl] at HO hRl ⊢
        have r0 : wr.cell? ⟨gr, rs.length, none⟩ = some (.string ⟨r.toArray⟩) := by
         have ho := HO.out.own
         rw [hrl] at ho;rw [ho.cellAt rs.length (by omega)]
         simp [scells]
        have fr0 : wr.frozen? ⟨gr, rs.length, none⟩ = false := by
         have ho := HO.out.own
         rw [hrl] at ho;exact ho.frozenAt rs.length
        have hrw := rowsOf_wide _ HN.out r (by rw [HR.out]; simp)
        obtain ⟨Y, hY⟩ : ∃ Y : ByteArray, (⟨r.toArray⟩ : ByteArray) = Y := ⟨_, rfl⟩
        have hYs : Y.size = r.length := by rw [← hY]; rfl
        rw [hY] at r0;have HY := Lib.hid hY
        have hY32 : Y.size ≤ 32 := by omega
        have h0 : (0 : Int) ≤ rs.length := by omega
        have h1 : (rs.length : Int) < ((rs.length + 1 : Nat) : Int) := by omega
        have h1' : (rs.length : Int) < (rs.length : Int) + 1 := by omega
        have hw2 : IntKind.i64.wrap ((Y.size : Int) + 1) = (Y.size : Int) + 1 := IntWalk.i64_in _ (by omega)
        have hw3 : IntKind.i64.wrap ((Y.size : Int) + 1 + (X.size : Int)) = (Y.size : Int) + 1 + (X.size : Int) := IntWalk.i64_in _ (by omega)
        by_cases hfit : r.length + 1 + x.length ≤ 32
        ·have hle : (Y.size : Int) + 1 + (X.size : Int) ≤ 32 := by omega
         have hle2 : decide ((Y.size : Int) + 1 + (X.size : Int) ≤ 32) = true := decide_eq_true hle
         have HRT2 : Hid (rowsOf (A.take (k + 1)) = rs ++ [r ++ 32 :: x]) := by show _ = _; rw [HRT.out, rstep_fit _ _ _ hfit]
         clear hY hfit hYs hrw
         go_wp2_with fail
         go_quiet (fail)
         have HO2 := Lib.hid (HO.out.drewN nq)
         have d0 : (wr.drewN nq).cell? ⟨g, off + k, none⟩ = some (.string X) := c0
         have e0 : (wr.drewN nq).cell? ⟨gr, rs.length, none⟩ = some (.string Y) := r0
         have f0 : (wr.drewN nq).frozen? ⟨gr, rs.length, none⟩ = false := fr0
         clear c0 r0 fr0
         generalize wr.drewN nq = w3 at HO2 d0 e0 f0 ⊢
         have HO4 := Lib.hid (HO2.out.set (x := x))
         rw [show (⟨(r ++ 32 :: x).toArray⟩ : ByteArray) = Y ++ ⟨#[32]⟩ ++ X from by
          rw [← HY.out, ← HX.out]
          apply ByteArray.ext
          simp] at HO4
         go_wp2_with fail
         go_region
         go_wp2_with fail
         go_roundw
         case rel => exact ⟨k + 1, _, by omega, by go_num, HRT2, HNT, HO4⟩
         case measure => simp [intOf]; omega
        ·have hle : ¬ (Y.size : Int) + 1 + (X.size : Int) ≤ 32 := by omega
         have hle2 : decide ((Y.size : Int) + 1 + (X.size : Int) ≤ 32) = false := decide_eq_false hle
         have HRT2 : Hid (rowsOf (A.take (k + 1)) = rs ++ [r] ++ [x]) := by show _ = _; rw [HRT.out, rstep_new _ _ _ hfit]
         clear hY hfit hYs hrw
         go_wp2_with fail
         go_quiet (fail)
         have HO2 := Lib.hid (HO.out.drewN nq)
         have d0 : (wr.drewN nq).cell? ⟨g, off + k, none⟩ = some (.string X) := c0
         clear c0 r0 fr0
         generalize wr.drewN nq = w3 at HO2 d0 ⊢
         obtain ⟨v', w4, hrun, ho4, hf4, hk4⟩ := app_str w3 w2.heap.size _ (rs ++ [r]).length _ X HO2.out.own (by omega) HO2.out.bel.size 187
         have HO4 := Lib.hid (HO2.out.app (x := x) (by rw [HX.out]; exact ho4) hf4)
         obtain ⟨oM, cM, rfl⟩ := own_slice ho4
         rw [hrl] at hrun HO4;clear ho4 hf4 hk4 hx32
         go_wp2_with (at_builtin; refine wpList_append_run _ rfl _ _ 187 rfl _ _ _ _ rfl rfl hrun ?_)
         go_roundw
         case rel => exact ⟨k + 1, _, by omega, by go_num, HRT2, HNT, HO4⟩
         case measure => simp [intOf]; omega
      ·have hx' : (32 : Int) < X.size := by omega
       rw [decide_eq_false hx32] at HNT
       have HFT : Hid (fitsB s.data.toList = false) := by show _ = _; rw [HF.out, narrow_short A _ HNT.out]; rfl
       clear hx32
       go_wp2_with fail
       go_ret2
       refine ⟨.slice none 0 0, by rw [HFT.out]; rfl, ?_, HB2.out.trans (HO.out.bel.mono HB2.out.size)⟩
       rw [HRR.out, if_neg (by rw [HFT.out]; decide)]
       exact World.ownsRow_nil _ _ _ _
   ·have hlt : (k : Int) < s.size := by omega
    have hlt2 : k < s.size := by omega
    clear hks
    have hpt := printB_take s k hlt2
    rw [HP.out, Bool.true_and] at hpt
    have c1 : (32 ≤ s[k] ∧ s[k] ≤ 126) ↔ (32 ≤ (s[k].toNat : Int) ∧ (s[k].toNat : Int) ≤ 126) := by
     rw [UInt8.le_iff_toNat_le, UInt8.le_iff_toNat_le]
     simp
     omega
    by_cases hr : 32 ≤ (s[k].toNat : Int) ∧ (s[k].toNat : Int) ≤ 126
    ·rw [decide_eq_true (c1.2 hr)] at hpt
     have HPT := Lib.hid hpt
     obtain ⟨hr1, hr2⟩ := hr
     clear hpt c1
     go_wp2_with fail
     go_round
     case rel => exact ⟨k + 1, by omega, by go_num, HPT⟩
     case measure => simp [intOf]; omega
    ·rw [decide_eq_false (fun h => hr (c1.1 h))] at hpt
     have HPT := Lib.hid (printB_short s (k + 1) hpt)
     have HFT : Hid (fitsB s.data.toList = false) := by show _ = _; unfold fitsB; rw [HPT.out, Bool.and_false, Bool.false_and, Bool.false_and]
     have HRR : Hid (rowsR s.data.toList = []) := by show _ = _; unfold rowsR; rw [if_neg (by rw [HFT.out]; decide)]
     clear hpt c1
     rcases (show ¬ 32 ≤ (s[k].toNat : Int) ∨ (32 ≤ (s[k].toNat : Int) ∧ 126 < (s[k].toNat : Int)) from by omega) with q1 | ⟨q1, q2⟩
     all_goals
      clear hr
      go_wp2_with fail
      go_ret2
      refine ⟨.slice none 0 0, by rw [HFT.out]; rfl, ?_, Below.refl _ _⟩
      rw [HRR.out];exact World.ownsRow_nil _ _ _ _
 ·have hz' : (200 : Int) < s.size := by omega
  have HFT : Hid (fitsB s.data.toList = false) := by show _ = _; unfold fitsB; rw [dlen, decide_eq_false hz, Bool.false_and, Bool.false_and, Bool.false_and]
  have HRR : Hid (rowsR s.data.toList = []) := by show _ = _; unfold rowsR; rw [if_neg (by rw [HFT.out]; decide)]
  clear hz
  go_enter Tryz.func109, Tryz.ntmps109
  go_wp2_with fail
  go_ret2
  refine ⟨.slice none 0 0, by rw [HFT.out]; rfl, ?_, Below.refl _ _⟩
  rw [HRR.out];exact World.ownsRow_nil _ _ _ _
end
section
open Go.RowKit
theorem refValid_any (c : Cue) (w : World) (hc : c.tx.size ≤ maxLen) :
  Calls Tryz.prog 96 #[.agg #[.int .i64 c.id, .int .i64 c.fr, .int .i64 c.to, .int .i64 c.pr, .string c.tx]] w fun e w' => e = .returned (.bool (validB c)) ∧ Below w.heap.size w w' := by
 have hbx : Blk (w.alloc (.cells #[.int .i64 c.id, .int .i64 c.fr, .int .i64 c.to, .int .i64 c.pr, .string c.tx] 28)) w.heap.size 28 c.cells := Blk.new w 28 c.cells
 have HBX := Lib.hid hbx;clear hbx
 obtain ⟨i, f, t, p, s⟩ := c
 have sz : s.size ≤ maxLen := hc
 clear hc
 try simp only at *
 by_cases h1 : 1 ≤ i ∧ i ≤ 4611686018427387903
 ·obtain ⟨h1, h1'⟩ := h1
  by_cases h2 : t = 0
  ·subst h2
   have hv : validB ⟨i, f, 0, p, s⟩ = (decide (f = 0) && decide (p = 0) && decide (s = ⟨#[]⟩)) := by
    unfold validB
    rw [if_pos rfl, decide_eq_true h1, decide_eq_true h1']
    rfl
   rw [hv];clear hv
   have hse := str_empty s
   by_cases hf : f = 0
   ·subst hf
    by_cases hp : p = 0
    ·subst hp
     by_cases hs : s = ⟨#[]⟩
     ·subst hs
      clear hse
      go_enter Tryz.func96, Tryz.ntmps96
      go_wp2_with fail
      go_ret
      exact ⟨rfl, (Below.refl _ w).alloc (Nat.le_refl _) _⟩
     ·have hs' : ¬ s.toList = [] := fun e => hs (hse.1 e)
      have hs2 : (s.toList == ([] : List UInt8)) = false := by rw [beq_eq_false_iff_ne]; exact hs'
      have hs3 : s.toList.isEmpty = false := by rw [List.isEmpty_eq_false_iff]; exact hs'
      have HS := Lib.hid hs;clear hs hse
      go_enter Tryz.func96, Tryz.ntmps96
      go_wp2_with fail
      go_ret
      exact ⟨by rw [decide_eq_false HS.out]; rfl, (Below.refl _ w).alloc (Nat.le_refl _) _⟩
    ·have HS := Lib.hid hp
     have hp2 : (p == 0) = false := by rw [beq_eq_false_iff_ne]; exact hp
     clear hse
     go_enter Tryz.func96, Tryz.ntmps96
     go_wp2_with fail
     go_ret
     exact ⟨by rw [decide_eq_false HS.out]; rfl, (Below.refl _ w).alloc (Nat.le_refl _) _⟩
   ·have HS := Lib.hid hf
    have hf2 : (f == 0) = false := by rw [beq_eq_false_iff_ne]; exact hf
    clear hse
    go_enter Tryz.func96, Tryz.ntmps96
    go_wp2_with fail
    go_ret
    exact ⟨by rw [decide_eq_false HS.out]; rfl, (Below.refl _ w).alloc (Nat.le_refl _) _⟩
  ·have h2' : (t == 0) = false := by rw [beq_eq_false_iff_ne]; exact h2
   have hv : validB ⟨i, f, t, p, s⟩ = (decide (0 ≤ f) && decide (f < t) && decide (t ≤ 100000000) && decide (0 ≤ p) && decide (p ≤ 3) && fitsB s.data.toList) := by
    unfold validB
    rw [if_neg h2, decide_eq_true h1, decide_eq_true h1']
    rfl
   obtain ⟨vb, hvb⟩ : ∃ vb, validB ⟨i, f, t, p, s⟩ = vb := ⟨_, rfl⟩
   obtain ⟨ft, hft⟩ : ∃ ft, fitsB s.data.toList = ft := ⟨_, rfl⟩
   rw [hvb, hft] at hv;rw [hvb];have HV0 := Lib.hid hv;have HFT := Lib.hid hft;clear hv h2 hvb hft
   go_enter Tryz.func96, Tryz.ntmps96
   go_wp2_with fail
   refine (refRows_any s _ sz).mono ?_
   rw [HFT.out];rintro e w2 ⟨v, rfl, _, hb⟩
   obtain ⟨b0, b1, b2, b3, b4⟩ := cue_cells (HBX.out.kept (hb.block _ HBX.out.lt))
   have HB := Lib.hid (bstep ((Below.refl _ w).alloc (Nat.le_refl _) _) hb)
   clear hb
   by_cases hf : 0 ≤ f ∧ f < t ∧ t ≤ 100000000
   ·obtain ⟨hf1, hf2, hf3⟩ := hf
    by_cases hp : 0 ≤ p ∧ p ≤ 3
    ·obtain ⟨hp1, hp2⟩ := hp
     have HV : Hid (vb = ft) := by
      show _ = _
      rw [HV0.out, decide_eq_true hf1, decide_eq_true hf2, decide_eq_true hf3, decide_eq_true hp1, decide_eq_true hp2]
      rfl
     go_wp2_with fail
     go_ret
     exact ⟨by rw [HV.out]; rfl, HB.out⟩
    ·have HV : Hid (vb = false) := by
      show _ = _
      rw [HV0.out, Bool.eq_false_iff]
      intro h
      simp at h
      exact hp ⟨h.1.1.2, h.1.2⟩
     rcases (show p < 0 ∨ (0 ≤ p ∧ 3 < p) from by omega) with q1 | ⟨q1, q2⟩
     all_goals
      clear hp
      go_wp2_with fail
      go_ret
      exact ⟨by rw [HV.out]; rfl, HB.out⟩
   ·have HV : Hid (vb = false) := by
     show _ = _
     rw [HV0.out, Bool.eq_false_iff]
     intro h
     simp at h
     exact hf ⟨h.1.1.1.1.1, h.1.1.1.1.2, h.1.1.1.2⟩
    rcases (show f < 0 ∨ (0 ≤ f ∧ t ≤ f) ∨ (0 ≤ f ∧ f < t ∧ 100000000 < t) from by omega) with q1 | ⟨q1, q2⟩ | ⟨q1, q2, q3⟩
    all_goals
     clear hf
     go_wp2_with fail
     go_ret
     exact ⟨by rw [HV.out]; rfl, HB.out⟩
 ·have HP : Hid (validB ⟨i, f, t, p, s⟩ = false) := by
   show _ = _
   unfold validB
   rw [Bool.eq_false_iff]
   intro h
   simp only [Bool.and_eq_true, decide_eq_true_eq] at h
   exact h1 h.1
  rcases (show i < 1 ∨ (1 ≤ i ∧ 4611686018427387903 < i) from by omega) with q1 | ⟨q1, q2⟩
  all_goals
   clear h1
   go_enter Tryz.func96, Tryz.ntmps96
   go_wp2_with fail
   go_ret
   exact ⟨by rw [HP.out]; rfl, (Below.refl _ w).alloc (Nat.le_refl _) _⟩
end
end Cp
end Go.Proofs.YtjkiidhnmljmbaaGreatDoor
