/- Orders of every kind: replan.Valid. -/
import Derived.Test.YtjkiidhnmljmbaaGreatDoorGoGH
import Derived.Test.YtjkiidhnmljmbaaGreatDoorGoCP
set_option linter.unusedVariables false
set_option linter.unusedSimpArgs false
set_option maxRecDepth 100000
set_option maxHeartbeats 8000000
namespace Go.Proofs.YtjkiidhnmljmbaaGreatDoor
open Go.RowKit
def headB (o : GOd) : Bool := decide (0 ≤ o.s ∧ o.s ≤ 200 ∧ -1 ≤ o.ch ∧ o.ch < 40 ∧ 0 ≤ o.f ∧ o.f ≤ 100000000)
def GOd.noE (o : GOd) : GOd := { o with e := 0 }
def GOd.noN (o : GOd) : GOd := { o with n := 0, e := 0 }
def GOd.noW (o : GOd) : GOd := { o with nid := 0, item := 0, frs := 0, ear := 0, lat := 0, book := 0, ao := none, an := 0, ac := 0 }
def GOd.noC (o : GOd) : GOd := { o with cl := ⟨0, 0, 0, 0, 0, 0, 0, 0⟩ }
def GOd.noQ (o : GOd) : GOd := { o with qid := 0, qf := 0, qt := 0, qp := 0, txt := ⟨#[]⟩ }
def okB (o : GOd) (al : List (Int × Int)) : Bool := headB o && (
 if o.k = 1 then decide (-100000000 ≤ o.n ∧ o.n ≤ 100000000) && (idB o.e && o.noN.blankB)
 else if o.k = 2 then idB o.e && o.noE.blankB
 else if o.k = 3 then insB o.nid o.item o.frs o.ear o.lat o.book al && o.noW.blankB
 else if o.k = 4 then o.cl.ok && o.noC.blankB
 else if o.k = 5 then Cp.validB ⟨o.qid, o.qf, o.qt, o.qp, o.txt⟩ && o.noQ.blankB
 else false)
theorem GOd.oneC (o : GOd) : o.l.toArray.all (·.oneCell') = true := by
 simp [GOd.l, ClD.l, Value.oneCell']
theorem cellsO {W : World} {N : Nat} {o : GOd} (h : Blk W N 30 o.l) : W.cell? ⟨N, 0, none⟩ = some (.int .i64 o.s) ∧ W.cell? ⟨N, 1, none⟩ = some (.int .i64 o.ch) ∧ W.cell? ⟨N, 2, none⟩ = some (.int .i64 o.f) ∧ W.cell? ⟨N, 3, none⟩ = some (.int .i64 o.k) ∧ W.cell? ⟨N, 4, none⟩ = some (.int .i64 o.e) ∧ W.cell? ⟨N, 5, none⟩ = some (.int .i64 o.n) := ⟨h.cell 0, h.cell 1, h.cell 2, h.cell 3, h.cell 4, h.cell 5⟩
theorem gValid_head (o : GOd) (W : World) (h : headB o = false) : Calls Tryz.prog 63 #[.agg o.l.toArray] W fun e w' => e = .returned (.bool false) ∧ Below W.heap.size W w' := by
 obtain ⟨N, w1, hN, hw1, hb1, hk2⟩ := bx W (aO o) o.l 30 rfl
 obtain ⟨c0, c1, c2, c3, c4, c5⟩ := cellsO hk2
 have HN := Lib.hid hN;have HB1 := Lib.hid hb1
 show Calls Tryz.prog 63 #[.agg (aO o)] W _
 have h' : ¬ (0 ≤ o.s ∧ o.s ≤ 200 ∧ -1 ≤ o.ch ∧ o.ch < 40 ∧ 0 ≤ o.f ∧ o.f ≤ 100000000) := by simpa [headB] using h
 clear h hk2 hb1
 rcases (show o.s < 0 ∨ (¬ o.s < 0 ∧ o.s > 200) ∨ (¬ o.s < 0 ∧ ¬ o.s > 200 ∧ o.ch < -1) ∨ (¬ o.s < 0 ∧ ¬ o.s > 200 ∧ ¬ o.ch < -1 ∧ o.ch ≥ 40) ∨ (¬ o.s < 0 ∧ ¬ o.s > 200 ∧ ¬ o.ch < -1 ∧ ¬ o.ch ≥ 40 ∧ o.f < 0) ∨ (¬ o.s < 0 ∧ ¬ o.s > 200 ∧ ¬ o.ch < -1 ∧ ¬ o.ch ≥ 40 ∧ ¬ o.f < 0 ∧ o.f > 100000000) from by omega) with h1 | ⟨h1, h2⟩ | ⟨h1, h2, h3⟩ | ⟨h1, h2, h3, h4⟩ | ⟨h1, h2, h3, h4, h5⟩ | ⟨h1, h2, h3, h4, h5, h6⟩
 ·clear h'
  go_enter Tryz.func63, Tryz.ntmps63
  go_wp2_with fail
  go_ret
  exact ⟨rfl, by first | exact HB1.out | (rw [HN.out]; exact HB1.out)⟩
 ·clear h'
  go_enter Tryz.func63, Tryz.ntmps63
  go_wp2_with fail
  go_ret
  exact ⟨rfl, by first | exact HB1.out | (rw [HN.out]; exact HB1.out)⟩
 ·clear h'
  go_enter Tryz.func63, Tryz.ntmps63
  go_wp2_with fail
  go_ret
  exact ⟨rfl, by first | exact HB1.out | (rw [HN.out]; exact HB1.out)⟩
 ·clear h'
  go_enter Tryz.func63, Tryz.ntmps63
  go_wp2_with fail
  go_ret
  exact ⟨rfl, by first | exact HB1.out | (rw [HN.out]; exact HB1.out)⟩
 ·clear h'
  go_enter Tryz.func63, Tryz.ntmps63
  go_wp2_with fail
  go_ret
  exact ⟨rfl, by first | exact HB1.out | (rw [HN.out]; exact HB1.out)⟩
 ·clear h'
  go_enter Tryz.func63, Tryz.ntmps63
  go_wp2_with fail
  go_ret
  exact ⟨rfl, by first | exact HB1.out | (rw [HN.out]; exact HB1.out)⟩
theorem gValid_2 (o : GOd) (W : World) (h : headB o = true) (hk : o.k = 2) : Calls Tryz.prog 63 #[.agg o.l.toArray] W fun e w' => e = .returned (.bool (idB o.e && o.noE.blankB)) ∧ Below W.heap.size W w' := by
 obtain ⟨N, w1, hN, hw1, hb1, hk2⟩ := bx W (aO o) o.l 30 rfl
 obtain ⟨c0, c1, c2, c3, c4, c5⟩ := cellsO hk2
 have HN := Lib.hid hN;have HB1 := Lib.hid hb1
 show Calls Tryz.prog 63 #[.agg (aO o)] W _
 have h' : 0 ≤ o.s ∧ o.s ≤ 200 ∧ -1 ≤ o.ch ∧ o.ch < 40 ∧ 0 ≤ o.f ∧ o.f ≤ 100000000 := by simpa [headB] using h
 clear h
 obtain ⟨h1, h2, h3, h4, h5, h6⟩ := h'
 obtain ⟨M, w2, hM, hw2, hb2, hk3⟩ := bx w1 aZo lZo 30 rfl
 have hNM : N < M := by rw [← hM]; exact hk2.lt
 obtain ⟨w3, hw3⟩ : ∃ w3, w2.setRow M o.l.toArray = w3 := ⟨_, rfl⟩
 have hk4 : Blk w3 M 30 o.l := by rw [← hw3]; exact hk3.setRow _
 have hk5 : Blk w3 N 30 o.l := (hk2.kept (hb2.block N (by omega))).kept (by rw [← hw3]; exact heap_setRow_other _ _ _ _ (by omega))
 have hb3 : Below N W w3 := by rw [← hw3]; exact below_setRow (hb1.trans (hb2.mono (Nat.le_of_lt hNM))) (Nat.le_of_lt hNM) _
 have HSZ := szO
 have HO1 : Hid (o.l.toArray.all (·.oneCell') = true) := o.oneC
 have HO2 : Hid (aZo.size = o.l.toArray.size) := rfl
 have HLE : Hid (N ≤ M) := Nat.le_of_lt hNM
 have HR2 := Lib.hid hk2.range;have HK3 := Lib.hid hk3;have HW3 := Lib.hid hw3
 have n1 : N ≠ M := by omega
 have n2 : M ≠ N := by omega
 have q1 : ¬ o.s < 0 := by omega
 have q2 : ¬ o.s > 200 := by omega
 have q3 : ¬ o.ch < -1 := by omega
 have q4 : ¬ o.ch ≥ 40 := by omega
 have q5 : ¬ o.f < 0 := by omega
 have q6 : ¬ o.f > 100000000 := by omega
 have d3 : w3.cell? ⟨N, 3, none⟩ = some (.int .i64 o.k) := hk5.cell 3
 rw [hk] at d3
 obtain ⟨sp, hsp⟩ : ∃ sp, (idB o.e && o.noE.blankB) = sp := ⟨_, rfl⟩
 rw [hsp];have HSP := Lib.hid hsp;clear hsp
 obtain ⟨v1, hv1⟩ : ∃ x, w3.setCell ⟨M, 4, none⟩ (.int .i64 0) = x := ⟨_, rfl⟩
 have hk6 : Blk v1 M 30 o.noE.l := by rw [← hv1]; exact (hk4.set 4 (.int .i64 0))
 have hk7 : Blk v1 N 30 o.l := by rw [← hv1]; exact (hk5.other ⟨M, 4, none⟩ n2 (.int .i64 0))
 have HB4 : Hid (Below N W v1) := by rw [← hv1]; exact (hb3.setCell (p := ⟨M, 4, none⟩) (Nat.le_of_lt hNM) _)
 have y4 : w3.cell? ⟨M, 4, none⟩ = some (.int .i64 o.e) := hk4.cell 4
 have z4 := hk4.frozen 4
 have kx1 := hk4.set 4 (.int .i64 0)
 rw [hv1] at kx1;clear kx1;have HR6 := Lib.hid hk6.range;have HK6 := Lib.hid hk6;have HK7 := Lib.hid hk7
 have HBL := Lib.hid (fun W => gBlank o.noE W)
 have d4 : v1.cell? ⟨N, 4, none⟩ = some (.int .i64 o.e) := hk7.cell 4
 clear hb1 hk2 hb2 hk3 hNM hk4 hk5 hb3 hw3 hk6 hk7 h1 h2 h3 h4 h5 h6 hk
 go_enter Tryz.func63, Tryz.ntmps63
 go_wp2_with (first | (refine wpList_load_mid rfl 30 (.tmp 1) rfl N 0 rfl o.l _ HR2.out Tryz.underlying30 rfl HSZ.out ?_) | (refine wpList_store_row rfl 30 (.tmp 3) (.tmp 30) rfl M o.l.toArray rfl rfl 30 _ HK3.out HSZ.out HO2.out HO1.out ?_; rw [HW3.out]))
 refine (gIsID o.e _).mono ?_
 rintro e w' ⟨rfl, rfl⟩
 have HB9 := HB4
 have HR9 := HR6
 by_cases hi : 1 ≤ o.e ∧ o.e ≤ 1000000
 ·have HV : Hid (sp = o.noE.blankB) := HSP.out.symm.trans (by rw [idB, decide_eq_true hi]; rfl)
  rw [decide_eq_true hi]
  go_wp2_with (refine wpList_load_midG rfl 30 (.tmp 3) rfl M 0 rfl o.noE.l _ HR9.out Tryz.underlying30 rfl HSZ.out ?_)
  refine (HBL.out _).mono ?_
  rintro e w' ⟨rfl, hb⟩
  go_wp2_with fail
  go_ret
  exact ⟨ret_bool HV.out.symm, by first | exact (HB9.out.trans (hb.mono (bnl9 HN.out HB9.out))) | (rw [HN.out]; exact (HB9.out.trans (hb.mono (bnl9 HN.out HB9.out))))⟩
 ·have HV : Hid (sp = false) := HSP.out.symm.trans (by rw [idB, decide_eq_false hi]; rfl)
  rw [decide_eq_false hi]
  go_wp2_with fail
  go_ret;exact rb HV HB9 HN
theorem gValid_1 (o : GOd) (W : World) (h : headB o = true) (hk : o.k = 1) : Calls Tryz.prog 63 #[.agg o.l.toArray] W fun e w' => e = .returned (.bool (decide (-100000000 ≤ o.n ∧ o.n ≤ 100000000) && (idB o.e && o.noN.blankB))) ∧ Below W.heap.size W w' := by
 obtain ⟨N, w1, hN, hw1, hb1, hk2⟩ := bx W (aO o) o.l 30 rfl
 obtain ⟨c0, c1, c2, c3, c4, c5⟩ := cellsO hk2
 have HN := Lib.hid hN;have HB1 := Lib.hid hb1
 show Calls Tryz.prog 63 #[.agg (aO o)] W _
 have h' : 0 ≤ o.s ∧ o.s ≤ 200 ∧ -1 ≤ o.ch ∧ o.ch < 40 ∧ 0 ≤ o.f ∧ o.f ≤ 100000000 := by simpa [headB] using h
 clear h
 obtain ⟨h1, h2, h3, h4, h5, h6⟩ := h'
 obtain ⟨M, w2, hM, hw2, hb2, hk3⟩ := bx w1 aZo lZo 30 rfl
 have hNM : N < M := by rw [← hM]; exact hk2.lt
 obtain ⟨w3, hw3⟩ : ∃ w3, w2.setRow M o.l.toArray = w3 := ⟨_, rfl⟩
 have hk4 : Blk w3 M 30 o.l := by rw [← hw3]; exact hk3.setRow _
 have hk5 : Blk w3 N 30 o.l := (hk2.kept (hb2.block N (by omega))).kept (by rw [← hw3]; exact heap_setRow_other _ _ _ _ (by omega))
 have hb3 : Below N W w3 := by rw [← hw3]; exact below_setRow (hb1.trans (hb2.mono (Nat.le_of_lt hNM))) (Nat.le_of_lt hNM) _
 have HSZ := szO
 have HO1 : Hid (o.l.toArray.all (·.oneCell') = true) := o.oneC
 have HO2 : Hid (aZo.size = o.l.toArray.size) := rfl
 have HLE : Hid (N ≤ M) := Nat.le_of_lt hNM
 have HR2 := Lib.hid hk2.range;have HK3 := Lib.hid hk3;have HW3 := Lib.hid hw3
 have n1 : N ≠ M := by omega
 have n2 : M ≠ N := by omega
 have q1 : ¬ o.s < 0 := by omega
 have q2 : ¬ o.s > 200 := by omega
 have q3 : ¬ o.ch < -1 := by omega
 have q4 : ¬ o.ch ≥ 40 := by omega
 have q5 : ¬ o.f < 0 := by omega
 have q6 : ¬ o.f > 100000000 := by omega
 have d3 : w3.cell? ⟨N, 3, none⟩ = some (.int .i64 o.k) := hk5.cell 3
 rw [hk] at d3
 obtain ⟨sp, hsp⟩ : ∃ sp, (decide (-100000000 ≤ o.n ∧ o.n ≤ 100000000) && (idB o.e && o.noN.blankB)) = sp := ⟨_, rfl⟩
 rw [hsp];have HSP := Lib.hid hsp;clear hsp
 obtain ⟨v1, hv1⟩ : ∃ x, w3.setCell ⟨M, 5, none⟩ (.int .i64 0) = x := ⟨_, rfl⟩
 obtain ⟨v2, hv2⟩ : ∃ x, v1.setCell ⟨M, 4, none⟩ (.int .i64 0) = x := ⟨_, rfl⟩
 have hk6 : Blk v2 M 30 o.noN.l := by rw [← hv2, ← hv1]; exact ((hk4.set 5 (.int .i64 0)).set 4 (.int .i64 0))
 have hk7 : Blk v2 N 30 o.l := by rw [← hv2, ← hv1]; exact ((hk5.other ⟨M, 5, none⟩ n2 (.int .i64 0)).other ⟨M, 4, none⟩ n2 (.int .i64 0))
 have HB4 : Hid (Below N W v2) := by rw [← hv2, ← hv1]; exact ((hb3.setCell (p := ⟨M, 5, none⟩) (Nat.le_of_lt hNM) _).setCell (p := ⟨M, 4, none⟩) (Nat.le_of_lt hNM) _)
 have y5 : w3.cell? ⟨M, 5, none⟩ = some (.int .i64 o.n) := hk4.cell 5
 have z5 := hk4.frozen 5
 have kx1 := hk4.set 5 (.int .i64 0)
 rw [hv1] at kx1
 have y4 : v1.cell? ⟨M, 4, none⟩ = some (.int .i64 o.e) := kx1.cell 4
 have z4 := kx1.frozen 4
 have kx2 := kx1.set 4 (.int .i64 0)
 rw [hv2] at kx2;clear kx1 kx2;have HR6 := Lib.hid hk6.range;have HK6 := Lib.hid hk6;have HK7 := Lib.hid hk7
 have HBL := Lib.hid (fun W => gBlank o.noN W)
 have d4 : v2.cell? ⟨N, 4, none⟩ = some (.int .i64 o.e) := hk7.cell 4
 have d5 : w3.cell? ⟨N, 5, none⟩ = some (.int .i64 o.n) := hk5.cell 5
 have HB3 := Lib.hid hb3;clear hb1 hk2 hb2 hk3 hNM hk4 hk5 hb3 hw3 hk6 hk7 h1 h2 h3 h4 h5 h6 hk
 rcases (show o.n < -100000000 ∨ (¬ o.n < -100000000 ∧ o.n > 100000000) ∨ (¬ o.n < -100000000 ∧ ¬ o.n > 100000000) from by omega) with g1 | ⟨g1, g2⟩ | ⟨g1, g2⟩
 ·have HV : Hid (sp = false) := HSP.out.symm.trans (by rw [decide_eq_false (by omega)]; rfl)
  go_enter Tryz.func63, Tryz.ntmps63
  go_wp2_with (first | (refine wpList_load_mid rfl 30 (.tmp 1) rfl N 0 rfl o.l _ HR2.out Tryz.underlying30 rfl HSZ.out ?_) | (refine wpList_store_row rfl 30 (.tmp 3) (.tmp 30) rfl M o.l.toArray rfl rfl 30 _ HK3.out HSZ.out HO2.out HO1.out ?_; rw [HW3.out]))
  go_ret;exact rb HV HB3 HN
 ·have HV : Hid (sp = false) := HSP.out.symm.trans (by rw [decide_eq_false (by omega)]; rfl)
  go_enter Tryz.func63, Tryz.ntmps63
  go_wp2_with (first | (refine wpList_load_mid rfl 30 (.tmp 1) rfl N 0 rfl o.l _ HR2.out Tryz.underlying30 rfl HSZ.out ?_) | (refine wpList_store_row rfl 30 (.tmp 3) (.tmp 30) rfl M o.l.toArray rfl rfl 30 _ HK3.out HSZ.out HO2.out HO1.out ?_; rw [HW3.out]))
  go_ret;exact rb HV HB3 HN
 ·have HSP : Hid ((idB o.e && o.noN.blankB) = sp) := (show (idB o.e && o.noN.blankB) = sp from by rw [← HSP.out, decide_eq_true (show -100000000 ≤ o.n ∧ o.n ≤ 100000000 by omega)]; rfl)
  go_enter Tryz.func63, Tryz.ntmps63
  go_wp2_with (first | (refine wpList_load_mid rfl 30 (.tmp 1) rfl N 0 rfl o.l _ HR2.out Tryz.underlying30 rfl HSZ.out ?_) | (refine wpList_store_row rfl 30 (.tmp 3) (.tmp 30) rfl M o.l.toArray rfl rfl 30 _ HK3.out HSZ.out HO2.out HO1.out ?_; rw [HW3.out]))
  refine (gIsID o.e _).mono ?_
  rintro e w' ⟨rfl, rfl⟩
  have HB9 := HB4
  have HR9 := HR6
  by_cases hi : 1 ≤ o.e ∧ o.e ≤ 1000000
  ·have HV : Hid (sp = o.noN.blankB) := HSP.out.symm.trans (by rw [idB, decide_eq_true hi]; rfl)
   rw [decide_eq_true hi]
   go_wp2_with (refine wpList_load_midG rfl 30 (.tmp 3) rfl M 0 rfl o.noN.l _ HR9.out Tryz.underlying30 rfl HSZ.out ?_)
   refine (HBL.out _).mono ?_
   rintro e w' ⟨rfl, hb⟩
   go_wp2_with fail
   go_ret
   exact ⟨ret_bool HV.out.symm, by first | exact (HB9.out.trans (hb.mono (bnl9 HN.out HB9.out))) | (rw [HN.out]; exact (HB9.out.trans (hb.mono (bnl9 HN.out HB9.out))))⟩
  ·have HV : Hid (sp = false) := HSP.out.symm.trans (by rw [idB, decide_eq_false hi]; rfl)
   rw [decide_eq_false hi]
   go_wp2_with fail
   go_ret;exact rb HV HB9 HN
theorem gValid_4 (o : GOd) (W : World) (h : headB o = true) (hk : o.k = 4) : Calls Tryz.prog 63 #[.agg o.l.toArray] W fun e w' => e = .returned (.bool (o.cl.ok && o.noC.blankB)) ∧ Below W.heap.size W w' := by
 obtain ⟨N, w1, hN, hw1, hb1, hk2⟩ := bx W (aO o) o.l 30 rfl
 obtain ⟨c0, c1, c2, c3, c4, c5⟩ := cellsO hk2
 have HN := Lib.hid hN;have HB1 := Lib.hid hb1
 show Calls Tryz.prog 63 #[.agg (aO o)] W _
 have h' : 0 ≤ o.s ∧ o.s ≤ 200 ∧ -1 ≤ o.ch ∧ o.ch < 40 ∧ 0 ≤ o.f ∧ o.f ≤ 100000000 := by simpa [headB] using h
 clear h
 obtain ⟨h1, h2, h3, h4, h5, h6⟩ := h'
 obtain ⟨M, w2, hM, hw2, hb2, hk3⟩ := bx w1 aZo lZo 30 rfl
 have hNM : N < M := by rw [← hM]; exact hk2.lt
 obtain ⟨w3, hw3⟩ : ∃ w3, w2.setRow M o.l.toArray = w3 := ⟨_, rfl⟩
 have hk4 : Blk w3 M 30 o.l := by rw [← hw3]; exact hk3.setRow _
 have hk5 : Blk w3 N 30 o.l := (hk2.kept (hb2.block N (by omega))).kept (by rw [← hw3]; exact heap_setRow_other _ _ _ _ (by omega))
 have hb3 : Below N W w3 := by rw [← hw3]; exact below_setRow (hb1.trans (hb2.mono (Nat.le_of_lt hNM))) (Nat.le_of_lt hNM) _
 have HSZ := szO
 have HO1 : Hid (o.l.toArray.all (·.oneCell') = true) := o.oneC
 have HO2 : Hid (aZo.size = o.l.toArray.size) := rfl
 have HLE : Hid (N ≤ M) := Nat.le_of_lt hNM
 have HR2 := Lib.hid hk2.range;have HK3 := Lib.hid hk3;have HW3 := Lib.hid hw3
 have n1 : N ≠ M := by omega
 have n2 : M ≠ N := by omega
 have q1 : ¬ o.s < 0 := by omega
 have q2 : ¬ o.s > 200 := by omega
 have q3 : ¬ o.ch < -1 := by omega
 have q4 : ¬ o.ch ≥ 40 := by omega
 have q5 : ¬ o.f < 0 := by omega
 have q6 : ¬ o.f > 100000000 := by omega
 have d3 : w3.cell? ⟨N, 3, none⟩ = some (.int .i64 o.k) := hk5.cell 3
 rw [hk] at d3
 obtain ⟨sp, hsp⟩ : ∃ sp, (o.cl.ok && o.noC.blankB) = sp := ⟨_, rfl⟩
 rw [hsp];have HSP := Lib.hid hsp;clear hsp
 obtain ⟨v1, hv1⟩ : ∃ x, w3.setCell ⟨M, 13, none⟩ (.int .i64 0) = x := ⟨_, rfl⟩
 obtain ⟨v2, hv2⟩ : ∃ x, v1.setCell ⟨M, 14, none⟩ (.int .i64 0) = x := ⟨_, rfl⟩
 obtain ⟨v3, hv3⟩ : ∃ x, v2.setCell ⟨M, 15, none⟩ (.int .i64 0) = x := ⟨_, rfl⟩
 obtain ⟨v4, hv4⟩ : ∃ x, v3.setCell ⟨M, 16, none⟩ (.int .i64 0) = x := ⟨_, rfl⟩
 obtain ⟨v5, hv5⟩ : ∃ x, v4.setCell ⟨M, 17, none⟩ (.int .i64 0) = x := ⟨_, rfl⟩
 obtain ⟨v6, hv6⟩ : ∃ x, v5.setCell ⟨M, 18, none⟩ (.int .i64 0) = x := ⟨_, rfl⟩
 obtain ⟨v7, hv7⟩ : ∃ x, v6.setCell ⟨M, 19, none⟩ (.int .i64 0) = x := ⟨_, rfl⟩
 obtain ⟨v8, hv8⟩ : ∃ x, v7.setCell ⟨M, 20, none⟩ (.int .i64 0) = x := ⟨_, rfl⟩
 have hk6 : Blk v8 M 30 o.noC.l := by rw [← hv8, ← hv7, ← hv6, ← hv5, ← hv4, ← hv3, ← hv2, ← hv1]; exact ((((((((hk4.set 13 (.int .i64 0)).set 14 (.int .i64 0)).set 15 (.int .i64 0)).set 16 (.int .i64 0)).set 17 (.int .i64 0)).set 18 (.int .i64 0)).set 19 (.int .i64 0)).set 20 (.int .i64 0))
 have hk7 : Blk v8 N 30 o.l := by rw [← hv8, ← hv7, ← hv6, ← hv5, ← hv4, ← hv3, ← hv2, ← hv1]; exact ((((((((hk5.other ⟨M, 13, none⟩ n2 (.int .i64 0)).other ⟨M, 14, none⟩ n2 (.int .i64 0)).other ⟨M, 15, none⟩ n2 (.int .i64 0)).other ⟨M, 16, none⟩ n2 (.int .i64 0)).other ⟨M, 17, none⟩ n2 (.int .i64 0)).other ⟨M, 18, none⟩ n2 (.int .i64 0)).other ⟨M, 19, none⟩ n2 (.int .i64 0)).other ⟨M, 20, none⟩ n2 (.int .i64 0))
 have HB4 : Hid (Below N W v8) := by rw [← hv8, ← hv7, ← hv6, ← hv5, ← hv4, ← hv3, ← hv2, ← hv1]; exact ((((((((hb3.setCell (p := ⟨M, 13, none⟩) (Nat.le_of_lt hNM) _).setCell (p := ⟨M, 14, none⟩) (Nat.le_of_lt hNM) _).setCell (p := ⟨M, 15, none⟩) (Nat.le_of_lt hNM) _).setCell (p := ⟨M, 16, none⟩) (Nat.le_of_lt hNM) _).setCell (p := ⟨M, 17, none⟩) (Nat.le_of_lt hNM) _).setCell (p := ⟨M, 18, none⟩) (Nat.le_of_lt hNM) _).setCell (p := ⟨M, 19, none⟩) (Nat.le_of_lt hNM) _).setCell (p := ⟨M, 20, none⟩) (Nat.le_of_lt hNM) _)
 have y13 : w3.cell? ⟨M, 13, none⟩ = some (.int .i64 o.cl.kind) := hk4.cell 13
 have z13 := hk4.frozen 13
 have kx1 := hk4.set 13 (.int .i64 0)
 rw [hv1] at kx1
 have y14 : v1.cell? ⟨M, 14, none⟩ = some (.int .i64 o.cl.item) := kx1.cell 14
 have z14 := kx1.frozen 14
 have kx2 := kx1.set 14 (.int .i64 0)
 rw [hv2] at kx2
 have y15 : v2.cell? ⟨M, 15, none⟩ = some (.int .i64 o.cl.frm) := kx2.cell 15
 have z15 := kx2.frozen 15
 have kx3 := kx2.set 15 (.int .i64 0)
 rw [hv3] at kx3
 have y16 : v3.cell? ⟨M, 16, none⟩ = some (.int .i64 o.cl.til) := kx3.cell 16
 have z16 := kx3.frozen 16
 have kx4 := kx3.set 16 (.int .i64 0)
 rw [hv4] at kx4
 have y17 : v4.cell? ⟨M, 17, none⟩ = some (.int .i64 o.cl.regs) := kx4.cell 17
 have z17 := kx4.frozen 17
 have kx5 := kx4.set 17 (.int .i64 0)
 rw [hv5] at kx5
 have y18 : v5.cell? ⟨M, 18, none⟩ = some (.int .i64 o.cl.n) := kx5.cell 18
 have z18 := kx5.frozen 18
 have kx6 := kx5.set 18 (.int .i64 0)
 rw [hv6] at kx6
 have y19 : v6.cell? ⟨M, 19, none⟩ = some (.int .i64 o.cl.a) := kx6.cell 19
 have z19 := kx6.frozen 19
 have kx7 := kx6.set 19 (.int .i64 0)
 rw [hv7] at kx7
 have y20 : v7.cell? ⟨M, 20, none⟩ = some (.int .i64 o.cl.b) := kx7.cell 20
 have z20 := kx7.frozen 20
 have kx8 := kx7.set 20 (.int .i64 0)
 rw [hv8] at kx8;clear kx1 kx2 kx3 kx4 kx5 kx6 kx7 kx8;have HR6 := Lib.hid hk6.range;have HK6 := Lib.hid hk6;have HK7 := Lib.hid hk7
 have HBL := Lib.hid (fun W => gBlank o.noC W)
 have d13 : v8.cell? ⟨N, 13, none⟩ = some (.int .i64 o.cl.kind) := hk7.cell 13
 have d14 : v8.cell? ⟨N, 14, none⟩ = some (.int .i64 o.cl.item) := hk7.cell 14
 have d15 : v8.cell? ⟨N, 15, none⟩ = some (.int .i64 o.cl.frm) := hk7.cell 15
 have d16 : v8.cell? ⟨N, 16, none⟩ = some (.int .i64 o.cl.til) := hk7.cell 16
 have d17 : v8.cell? ⟨N, 17, none⟩ = some (.int .i64 o.cl.regs) := hk7.cell 17
 have d18 : v8.cell? ⟨N, 18, none⟩ = some (.int .i64 o.cl.n) := hk7.cell 18
 have d19 : v8.cell? ⟨N, 19, none⟩ = some (.int .i64 o.cl.a) := hk7.cell 19
 have d20 : v8.cell? ⟨N, 20, none⟩ = some (.int .i64 o.cl.b) := hk7.cell 20
 have HC := Lib.hid (gRValid o.cl v8)
 have HV0 : Hid (sp = (o.cl.ok && o.noC.blankB)) := HSP.out.symm
 obtain ⟨tb, htb⟩ : ∃ tb, o.cl.ok = tb := ⟨_, rfl⟩
 rw [htb] at HV0 HC;clear htb HSP;clear hb1 hk2 hb2 hk3 hNM hk4 hk5 hb3 hw3 hk6 hk7 h1 h2 h3 h4 h5 h6 hk
 go_enter Tryz.func63, Tryz.ntmps63
 go_wp2_with (first | (refine wpList_load_mid rfl 30 (.tmp 1) rfl N 0 rfl o.l _ HR2.out Tryz.underlying30 rfl HSZ.out ?_) | (refine wpList_store_row rfl 30 (.tmp 3) (.tmp 30) rfl M o.l.toArray rfl rfl 30 _ HK3.out HSZ.out HO2.out HO1.out ?_; rw [HW3.out]))
 refine HC.out.mono ?_
 rintro e w' ⟨rfl, hbc⟩
 have HB9 : Hid (Below N W w') := HB4.out.trans (hbc.mono (bnl9 HN.out HB4.out))
 have HR9 := Lib.hid (HK6.out.kept (hbc.block M HK6.out.lt)).range
 clear hbc HC d13 d14 d15 d16 d17 d18 d19 d20
 cases tb
 ·have HV : Hid (sp = false) := HV0.out.trans (by rfl)
  go_wp2_with fail
  go_ret;exact rb HV HB9 HN
 ·have HV : Hid (sp = o.noC.blankB) := HV0.out.trans (by rfl)
  go_wp2_with (refine wpList_load_midG rfl 30 (.tmp 3) rfl M 0 rfl o.noC.l _ HR9.out Tryz.underlying30 rfl HSZ.out ?_)
  refine (HBL.out _).mono ?_
  rintro e w' ⟨rfl, hb⟩
  go_wp2_with fail
  go_ret
  exact ⟨ret_bool HV.out.symm, by first | exact (HB9.out.trans (hb.mono (bnl9 HN.out HB9.out))) | (rw [HN.out]; exact (HB9.out.trans (hb.mono (bnl9 HN.out HB9.out))))⟩
theorem gValid_3 (o : GOd) (al : List (Int × Int)) (hn : al.length = o.an) (hlm : o.an ≤ 1000000) (W : World) (hr : RdA W o.ao al) (h : headB o = true) (hk : o.k = 3) : Calls Tryz.prog 63 #[.agg o.l.toArray] W fun e w' => e = .returned (.bool (insB o.nid o.item o.frs o.ear o.lat o.book al && o.noW.blankB)) ∧ Below W.heap.size W w' := by
 obtain ⟨N, w1, hN, hw1, hb1, hk2⟩ := bx W (aO o) o.l 30 rfl
 obtain ⟨c0, c1, c2, c3, c4, c5⟩ := cellsO hk2
 have HN := Lib.hid hN;have HB1 := Lib.hid hb1
 show Calls Tryz.prog 63 #[.agg (aO o)] W _
 have h' : 0 ≤ o.s ∧ o.s ≤ 200 ∧ -1 ≤ o.ch ∧ o.ch < 40 ∧ 0 ≤ o.f ∧ o.f ≤ 100000000 := by simpa [headB] using h
 clear h
 obtain ⟨h1, h2, h3, h4, h5, h6⟩ := h'
 obtain ⟨M, w2, hM, hw2, hb2, hk3⟩ := bx w1 aZo lZo 30 rfl
 have hNM : N < M := by rw [← hM]; exact hk2.lt
 obtain ⟨w3, hw3⟩ : ∃ w3, w2.setRow M o.l.toArray = w3 := ⟨_, rfl⟩
 have hk4 : Blk w3 M 30 o.l := by rw [← hw3]; exact hk3.setRow _
 have hk5 : Blk w3 N 30 o.l := (hk2.kept (hb2.block N (by omega))).kept (by rw [← hw3]; exact heap_setRow_other _ _ _ _ (by omega))
 have hb3 : Below N W w3 := by rw [← hw3]; exact below_setRow (hb1.trans (hb2.mono (Nat.le_of_lt hNM))) (Nat.le_of_lt hNM) _
 have HSZ := szO
 have HO1 : Hid (o.l.toArray.all (·.oneCell') = true) := o.oneC
 have HO2 : Hid (aZo.size = o.l.toArray.size) := rfl
 have HLE : Hid (N ≤ M) := Nat.le_of_lt hNM
 have HR2 := Lib.hid hk2.range;have HK3 := Lib.hid hk3;have HW3 := Lib.hid hw3
 have n1 : N ≠ M := by omega
 have n2 : M ≠ N := by omega
 have q1 : ¬ o.s < 0 := by omega
 have q2 : ¬ o.s > 200 := by omega
 have q3 : ¬ o.ch < -1 := by omega
 have q4 : ¬ o.ch ≥ 40 := by omega
 have q5 : ¬ o.f < 0 := by omega
 have q6 : ¬ o.f > 100000000 := by omega
 have d3 : w3.cell? ⟨N, 3, none⟩ = some (.int .i64 o.k) := hk5.cell 3
 rw [hk] at d3
 obtain ⟨sp, hsp⟩ : ∃ sp, (insB o.nid o.item o.frs o.ear o.lat o.book al && o.noW.blankB) = sp := ⟨_, rfl⟩
 rw [hsp];have HSP := Lib.hid hsp;clear hsp
 obtain ⟨v1, hv1⟩ : ∃ x, w3.setCell ⟨M, 6, none⟩ (.int .i64 0) = x := ⟨_, rfl⟩
 obtain ⟨v2, hv2⟩ : ∃ x, v1.setCell ⟨M, 7, none⟩ (.int .i64 0) = x := ⟨_, rfl⟩
 obtain ⟨v3, hv3⟩ : ∃ x, v2.setCell ⟨M, 8, none⟩ (.int .i64 0) = x := ⟨_, rfl⟩
 obtain ⟨v4, hv4⟩ : ∃ x, v3.setCell ⟨M, 9, none⟩ (.int .i64 0) = x := ⟨_, rfl⟩
 obtain ⟨v5, hv5⟩ : ∃ x, v4.setCell ⟨M, 10, none⟩ (.int .i64 0) = x := ⟨_, rfl⟩
 obtain ⟨v6, hv6⟩ : ∃ x, v5.setCell ⟨M, 11, none⟩ (.int .i64 0) = x := ⟨_, rfl⟩
 obtain ⟨v7, hv7⟩ : ∃ x, v6.setCell ⟨M, 12, none⟩ (.slice none 0 0) = x := ⟨_, rfl⟩
 have hk6 : Blk v7 M 30 o.noW.l := by rw [← hv7, ← hv6, ← hv5, ← hv4, ← hv3, ← hv2, ← hv1]; exact (((((((hk4.set 6 (.int .i64 0)).set 7 (.int .i64 0)).set 8 (.int .i64 0)).set 9 (.int .i64 0)).set 10 (.int .i64 0)).set 11 (.int .i64 0)).set 12 (.slice none 0 0))
 have hk7 : Blk v7 N 30 o.l := by rw [← hv7, ← hv6, ← hv5, ← hv4, ← hv3, ← hv2, ← hv1]; exact (((((((hk5.other ⟨M, 6, none⟩ n2 (.int .i64 0)).other ⟨M, 7, none⟩ n2 (.int .i64 0)).other ⟨M, 8, none⟩ n2 (.int .i64 0)).other ⟨M, 9, none⟩ n2 (.int .i64 0)).other ⟨M, 10, none⟩ n2 (.int .i64 0)).other ⟨M, 11, none⟩ n2 (.int .i64 0)).other ⟨M, 12, none⟩ n2 (.slice none 0 0))
 have HB4 : Hid (Below N W v7) := by rw [← hv7, ← hv6, ← hv5, ← hv4, ← hv3, ← hv2, ← hv1]; exact (((((((hb3.setCell (p := ⟨M, 6, none⟩) (Nat.le_of_lt hNM) _).setCell (p := ⟨M, 7, none⟩) (Nat.le_of_lt hNM) _).setCell (p := ⟨M, 8, none⟩) (Nat.le_of_lt hNM) _).setCell (p := ⟨M, 9, none⟩) (Nat.le_of_lt hNM) _).setCell (p := ⟨M, 10, none⟩) (Nat.le_of_lt hNM) _).setCell (p := ⟨M, 11, none⟩) (Nat.le_of_lt hNM) _).setCell (p := ⟨M, 12, none⟩) (Nat.le_of_lt hNM) _)
 have y6 : w3.cell? ⟨M, 6, none⟩ = some (.int .i64 o.nid) := hk4.cell 6
 have z6 := hk4.frozen 6
 have kx1 := hk4.set 6 (.int .i64 0)
 rw [hv1] at kx1
 have y7 : v1.cell? ⟨M, 7, none⟩ = some (.int .i64 o.item) := kx1.cell 7
 have z7 := kx1.frozen 7
 have kx2 := kx1.set 7 (.int .i64 0)
 rw [hv2] at kx2
 have y8 : v2.cell? ⟨M, 8, none⟩ = some (.int .i64 o.frs) := kx2.cell 8
 have z8 := kx2.frozen 8
 have kx3 := kx2.set 8 (.int .i64 0)
 rw [hv3] at kx3
 have y9 : v3.cell? ⟨M, 9, none⟩ = some (.int .i64 o.ear) := kx3.cell 9
 have z9 := kx3.frozen 9
 have kx4 := kx3.set 9 (.int .i64 0)
 rw [hv4] at kx4
 have y10 : v4.cell? ⟨M, 10, none⟩ = some (.int .i64 o.lat) := kx4.cell 10
 have z10 := kx4.frozen 10
 have kx5 := kx4.set 10 (.int .i64 0)
 rw [hv5] at kx5
 have y11 : v5.cell? ⟨M, 11, none⟩ = some (.int .i64 o.book) := kx5.cell 11
 have z11 := kx5.frozen 11
 have kx6 := kx5.set 11 (.int .i64 0)
 rw [hv6] at kx6
 have y12 : v6.cell? ⟨M, 12, none⟩ = some (.slice o.ao o.an o.ac) := kx6.cell 12
 have z12 := kx6.frozen 12
 have kx7 := kx6.set 12 (.slice none 0 0)
 rw [hv7] at kx7;clear kx1 kx2 kx3 kx4 kx5 kx6 kx7;have HR6 := Lib.hid hk6.range;have HK6 := Lib.hid hk6;have HK7 := Lib.hid hk7
 have HBL := Lib.hid (fun W => gBlank o.noW W)
 have d6 : v7.cell? ⟨N, 6, none⟩ = some (.int .i64 o.nid) := hk7.cell 6
 have d7 : v7.cell? ⟨N, 7, none⟩ = some (.int .i64 o.item) := hk7.cell 7
 have d8 : v7.cell? ⟨N, 8, none⟩ = some (.int .i64 o.frs) := hk7.cell 8
 have d9 : v7.cell? ⟨N, 9, none⟩ = some (.int .i64 o.ear) := hk7.cell 9
 have d10 : v7.cell? ⟨N, 10, none⟩ = some (.int .i64 o.lat) := hk7.cell 10
 have d11 : v7.cell? ⟨N, 11, none⟩ = some (.int .i64 o.book) := hk7.cell 11
 have d12 : v7.cell? ⟨N, 12, none⟩ = some (.slice o.ao o.an o.ac) := hk7.cell 12
 have HC := Lib.hid (gInsertable o.nid o.item o.frs o.ear o.lat o.book o.ao o.an o.ac al v7 hn hlm (hr.kept (hN ▸ HB4.out)))
 have HV0 : Hid (sp = (insB o.nid o.item o.frs o.ear o.lat o.book al && o.noW.blankB)) := HSP.out.symm
 obtain ⟨tb, htb⟩ : ∃ tb, insB o.nid o.item o.frs o.ear o.lat o.book al = tb := ⟨_, rfl⟩
 rw [htb] at HV0 HC;clear htb HSP;clear hb1 hk2 hb2 hk3 hNM hk4 hk5 hb3 hw3 hk6 hk7 h1 h2 h3 h4 h5 h6 hk
 go_enter Tryz.func63, Tryz.ntmps63
 go_wp2_with (first | (refine wpList_load_mid rfl 30 (.tmp 1) rfl N 0 rfl o.l _ HR2.out Tryz.underlying30 rfl HSZ.out ?_) | (refine wpList_store_row rfl 30 (.tmp 3) (.tmp 30) rfl M o.l.toArray rfl rfl 30 _ HK3.out HSZ.out HO2.out HO1.out ?_; rw [HW3.out]))
 refine HC.out.mono ?_
 rintro e w' ⟨rfl, hbc⟩
 have HB9 : Hid (Below N W w') := HB4.out.trans (hbc.mono (bnl9 HN.out HB4.out))
 have HR9 := Lib.hid (HK6.out.kept (hbc.block M HK6.out.lt)).range
 clear hbc HC d6 d7 d8 d9 d10 d11 d12
 cases tb
 ·have HV : Hid (sp = false) := HV0.out.trans (by rfl)
  go_wp2_with fail
  go_ret;exact rb HV HB9 HN
 ·have HV : Hid (sp = o.noW.blankB) := HV0.out.trans (by rfl)
  go_wp2_with (refine wpList_load_midG rfl 30 (.tmp 3) rfl M 0 rfl o.noW.l _ HR9.out Tryz.underlying30 rfl HSZ.out ?_)
  refine (HBL.out _).mono ?_
  rintro e w' ⟨rfl, hb⟩
  go_wp2_with fail
  go_ret
  exact ⟨ret_bool HV.out.symm, by first | exact (HB9.out.trans (hb.mono (bnl9 HN.out HB9.out))) | (rw [HN.out]; exact (HB9.out.trans (hb.mono (bnl9 HN.out HB9.out))))⟩
theorem gValid_5 (o : GOd) (hts : o.txt.size ≤ maxLen) (W : World) (h : headB o = true) (hk : o.k = 5) : Calls Tryz.prog 63 #[.agg o.l.toArray] W fun e w' => e = .returned (.bool (Cp.validB ⟨o.qid, o.qf, o.qt, o.qp, o.txt⟩ && o.noQ.blankB)) ∧ Below W.heap.size W w' := by
 obtain ⟨N, w1, hN, hw1, hb1, hk2⟩ := bx W (aO o) o.l 30 rfl
 obtain ⟨c0, c1, c2, c3, c4, c5⟩ := cellsO hk2
 have HN := Lib.hid hN;have HB1 := Lib.hid hb1
 show Calls Tryz.prog 63 #[.agg (aO o)] W _
 have h' : 0 ≤ o.s ∧ o.s ≤ 200 ∧ -1 ≤ o.ch ∧ o.ch < 40 ∧ 0 ≤ o.f ∧ o.f ≤ 100000000 := by simpa [headB] using h
 clear h
 obtain ⟨h1, h2, h3, h4, h5, h6⟩ := h'
 obtain ⟨M, w2, hM, hw2, hb2, hk3⟩ := bx w1 aZo lZo 30 rfl
 have hNM : N < M := by rw [← hM]; exact hk2.lt
 obtain ⟨w3, hw3⟩ : ∃ w3, w2.setRow M o.l.toArray = w3 := ⟨_, rfl⟩
 have hk4 : Blk w3 M 30 o.l := by rw [← hw3]; exact hk3.setRow _
 have hk5 : Blk w3 N 30 o.l := (hk2.kept (hb2.block N (by omega))).kept (by rw [← hw3]; exact heap_setRow_other _ _ _ _ (by omega))
 have hb3 : Below N W w3 := by rw [← hw3]; exact below_setRow (hb1.trans (hb2.mono (Nat.le_of_lt hNM))) (Nat.le_of_lt hNM) _
 have HSZ := szO
 have HO1 : Hid (o.l.toArray.all (·.oneCell') = true) := o.oneC
 have HO2 : Hid (aZo.size = o.l.toArray.size) := rfl
 have HLE : Hid (N ≤ M) := Nat.le_of_lt hNM
 have HR2 := Lib.hid hk2.range;have HK3 := Lib.hid hk3;have HW3 := Lib.hid hw3
 have n1 : N ≠ M := by omega
 have n2 : M ≠ N := by omega
 have q1 : ¬ o.s < 0 := by omega
 have q2 : ¬ o.s > 200 := by omega
 have q3 : ¬ o.ch < -1 := by omega
 have q4 : ¬ o.ch ≥ 40 := by omega
 have q5 : ¬ o.f < 0 := by omega
 have q6 : ¬ o.f > 100000000 := by omega
 have d3 : w3.cell? ⟨N, 3, none⟩ = some (.int .i64 o.k) := hk5.cell 3
 rw [hk] at d3
 obtain ⟨sp, hsp⟩ : ∃ sp, (Cp.validB ⟨o.qid, o.qf, o.qt, o.qp, o.txt⟩ && o.noQ.blankB) = sp := ⟨_, rfl⟩
 rw [hsp];have HSP := Lib.hid hsp;clear hsp
 obtain ⟨v1, hv1⟩ : ∃ x, w3.setCell ⟨M, 21, none⟩ (.int .i64 0) = x := ⟨_, rfl⟩
 obtain ⟨v2, hv2⟩ : ∃ x, v1.setCell ⟨M, 22, none⟩ (.int .i64 0) = x := ⟨_, rfl⟩
 obtain ⟨v3, hv3⟩ : ∃ x, v2.setCell ⟨M, 23, none⟩ (.int .i64 0) = x := ⟨_, rfl⟩
 obtain ⟨v4, hv4⟩ : ∃ x, v3.setCell ⟨M, 24, none⟩ (.int .i64 0) = x := ⟨_, rfl⟩
 obtain ⟨v5, hv5⟩ : ∃ x, v4.setCell ⟨M, 25, none⟩ (.string ⟨#[]⟩) = x := ⟨_, rfl⟩
 have hk6 : Blk v5 M 30 o.noQ.l := by rw [← hv5, ← hv4, ← hv3, ← hv2, ← hv1]; exact (((((hk4.set 21 (.int .i64 0)).set 22 (.int .i64 0)).set 23 (.int .i64 0)).set 24 (.int .i64 0)).set 25 (.string ⟨#[]⟩))
 have hk7 : Blk v5 N 30 o.l := by rw [← hv5, ← hv4, ← hv3, ← hv2, ← hv1]; exact (((((hk5.other ⟨M, 21, none⟩ n2 (.int .i64 0)).other ⟨M, 22, none⟩ n2 (.int .i64 0)).other ⟨M, 23, none⟩ n2 (.int .i64 0)).other ⟨M, 24, none⟩ n2 (.int .i64 0)).other ⟨M, 25, none⟩ n2 (.string ⟨#[]⟩))
 have HB4 : Hid (Below N W v5) := by rw [← hv5, ← hv4, ← hv3, ← hv2, ← hv1]; exact (((((hb3.setCell (p := ⟨M, 21, none⟩) (Nat.le_of_lt hNM) _).setCell (p := ⟨M, 22, none⟩) (Nat.le_of_lt hNM) _).setCell (p := ⟨M, 23, none⟩) (Nat.le_of_lt hNM) _).setCell (p := ⟨M, 24, none⟩) (Nat.le_of_lt hNM) _).setCell (p := ⟨M, 25, none⟩) (Nat.le_of_lt hNM) _)
 have y21 : w3.cell? ⟨M, 21, none⟩ = some (.int .i64 o.qid) := hk4.cell 21
 have z21 := hk4.frozen 21
 have kx1 := hk4.set 21 (.int .i64 0)
 rw [hv1] at kx1
 have y22 : v1.cell? ⟨M, 22, none⟩ = some (.int .i64 o.qf) := kx1.cell 22
 have z22 := kx1.frozen 22
 have kx2 := kx1.set 22 (.int .i64 0)
 rw [hv2] at kx2
 have y23 : v2.cell? ⟨M, 23, none⟩ = some (.int .i64 o.qt) := kx2.cell 23
 have z23 := kx2.frozen 23
 have kx3 := kx2.set 23 (.int .i64 0)
 rw [hv3] at kx3
 have y24 : v3.cell? ⟨M, 24, none⟩ = some (.int .i64 o.qp) := kx3.cell 24
 have z24 := kx3.frozen 24
 have kx4 := kx3.set 24 (.int .i64 0)
 rw [hv4] at kx4
 have y25 : v4.cell? ⟨M, 25, none⟩ = some (.string o.txt) := kx4.cell 25
 have z25 := kx4.frozen 25
 have kx5 := kx4.set 25 (.string ⟨#[]⟩)
 rw [hv5] at kx5;clear kx1 kx2 kx3 kx4 kx5;have HR6 := Lib.hid hk6.range;have HK6 := Lib.hid hk6;have HK7 := Lib.hid hk7
 have HBL := Lib.hid (fun W => gBlank o.noQ W)
 have d21 : v5.cell? ⟨N, 21, none⟩ = some (.int .i64 o.qid) := hk7.cell 21
 have d22 : v5.cell? ⟨N, 22, none⟩ = some (.int .i64 o.qf) := hk7.cell 22
 have d23 : v5.cell? ⟨N, 23, none⟩ = some (.int .i64 o.qt) := hk7.cell 23
 have d24 : v5.cell? ⟨N, 24, none⟩ = some (.int .i64 o.qp) := hk7.cell 24
 have d25 : v5.cell? ⟨N, 25, none⟩ = some (.string o.txt) := hk7.cell 25
 have HC := Lib.hid (Cp.valid_any ⟨o.qid, o.qf, o.qt, o.qp, o.txt⟩ v5 hts)
 have HV0 : Hid (sp = (Cp.validB ⟨o.qid, o.qf, o.qt, o.qp, o.txt⟩ && o.noQ.blankB)) := HSP.out.symm
 obtain ⟨tb, htb⟩ : ∃ tb, Cp.validB ⟨o.qid, o.qf, o.qt, o.qp, o.txt⟩ = tb := ⟨_, rfl⟩
 rw [htb] at HV0 HC;clear htb HSP;clear hb1 hk2 hb2 hk3 hNM hk4 hk5 hb3 hw3 hk6 hk7 h1 h2 h3 h4 h5 h6 hk
 go_enter Tryz.func63, Tryz.ntmps63
 go_wp2_with (first | (refine wpList_load_mid rfl 30 (.tmp 1) rfl N 0 rfl o.l _ HR2.out Tryz.underlying30 rfl HSZ.out ?_) | (refine wpList_store_row rfl 30 (.tmp 3) (.tmp 30) rfl M o.l.toArray rfl rfl 30 _ HK3.out HSZ.out HO2.out HO1.out ?_; rw [HW3.out]))
 refine HC.out.mono ?_
 rintro e w' ⟨rfl, hbc⟩
 have HB9 : Hid (Below N W w') := HB4.out.trans (hbc.mono (bnl9 HN.out HB4.out))
 have HR9 := Lib.hid (HK6.out.kept (hbc.block M HK6.out.lt)).range
 clear hbc HC d21 d22 d23 d24 d25
 cases tb
 ·have HV : Hid (sp = false) := HV0.out.trans (by rfl)
  go_wp2_with fail
  go_ret;exact rb HV HB9 HN
 ·have HV : Hid (sp = o.noQ.blankB) := HV0.out.trans (by rfl)
  go_wp2_with (refine wpList_load_midG rfl 30 (.tmp 3) rfl M 0 rfl o.noQ.l _ HR9.out Tryz.underlying30 rfl HSZ.out ?_)
  refine (HBL.out _).mono ?_
  rintro e w' ⟨rfl, hb⟩
  go_wp2_with fail
  go_ret
  exact ⟨ret_bool HV.out.symm, by first | exact (HB9.out.trans (hb.mono (bnl9 HN.out HB9.out))) | (rw [HN.out]; exact (HB9.out.trans (hb.mono (bnl9 HN.out HB9.out))))⟩
theorem gValid_no (o : GOd) (W : World) (h : headB o = true) (k1 : o.k ≠ 1) (k2 : o.k ≠ 2) (k3 : o.k ≠ 3) (k4 : o.k ≠ 4) (k5 : o.k ≠ 5) : Calls Tryz.prog 63 #[.agg o.l.toArray] W fun e w' => e = .returned (.bool false) ∧ Below W.heap.size W w' := by
 obtain ⟨N, w1, hN, hw1, hb1, hk2⟩ := bx W (aO o) o.l 30 rfl
 obtain ⟨c0, c1, c2, c3, c4, c5⟩ := cellsO hk2
 have HN := Lib.hid hN;have HB1 := Lib.hid hb1
 show Calls Tryz.prog 63 #[.agg (aO o)] W _
 have h' : 0 ≤ o.s ∧ o.s ≤ 200 ∧ -1 ≤ o.ch ∧ o.ch < 40 ∧ 0 ≤ o.f ∧ o.f ≤ 100000000 := by simpa [headB] using h
 clear h
 obtain ⟨h1, h2, h3, h4, h5, h6⟩ := h'
 obtain ⟨M, w2, hM, hw2, hb2, hk3⟩ := bx w1 aZo lZo 30 rfl
 have hNM : N < M := by rw [← hM]; exact hk2.lt
 obtain ⟨w3, hw3⟩ : ∃ w3, w2.setRow M o.l.toArray = w3 := ⟨_, rfl⟩
 have hk4 : Blk w3 M 30 o.l := by rw [← hw3]; exact hk3.setRow _
 have hk5 : Blk w3 N 30 o.l := (hk2.kept (hb2.block N (by omega))).kept (by rw [← hw3]; exact heap_setRow_other _ _ _ _ (by omega))
 have hb3 : Below N W w3 := by rw [← hw3]; exact below_setRow (hb1.trans (hb2.mono (Nat.le_of_lt hNM))) (Nat.le_of_lt hNM) _
 have HSZ := szO
 have HO1 : Hid (o.l.toArray.all (·.oneCell') = true) := o.oneC
 have HO2 : Hid (aZo.size = o.l.toArray.size) := rfl
 have HLE : Hid (N ≤ M) := Nat.le_of_lt hNM
 have HR2 := Lib.hid hk2.range;have HK3 := Lib.hid hk3;have HW3 := Lib.hid hw3
 have n1 : N ≠ M := by omega
 have n2 : M ≠ N := by omega
 have q1 : ¬ o.s < 0 := by omega
 have q2 : ¬ o.s > 200 := by omega
 have q3 : ¬ o.ch < -1 := by omega
 have q4 : ¬ o.ch ≥ 40 := by omega
 have q5 : ¬ o.f < 0 := by omega
 have q6 : ¬ o.f > 100000000 := by omega
 have d3 : w3.cell? ⟨N, 3, none⟩ = some (.int .i64 o.k) := hk5.cell 3
 have HB3 := Lib.hid hb3
 have g1 : (o.k == 1) = false := beq_eq_false_iff_ne.2 k1
 have g2 : (o.k == 2) = false := beq_eq_false_iff_ne.2 k2
 have g3 : (o.k == 3) = false := beq_eq_false_iff_ne.2 k3
 have g4 : (o.k == 4) = false := beq_eq_false_iff_ne.2 k4
 have g5 : (o.k == 5) = false := beq_eq_false_iff_ne.2 k5
 clear hb1 hk2 hb2 hk3 hNM hk4 hk5 hb3 hw3 h1 h2 h3 h4 h5 h6 k1 k2 k3 k4 k5
 go_enter Tryz.func63, Tryz.ntmps63
 go_wp2_with (first | (refine wpList_load_mid rfl 30 (.tmp 1) rfl N 0 rfl o.l _ HR2.out Tryz.underlying30 rfl HSZ.out ?_) | (refine wpList_store_row rfl 30 (.tmp 3) (.tmp 30) rfl M o.l.toArray rfl rfl 30 _ HK3.out HSZ.out HO2.out HO1.out ?_; rw [HW3.out]))
 go_ret
 exact ⟨rfl, by first | exact HB3.out | (rw [HN.out]; exact HB3.out)⟩
theorem gValid (o : GOd) (al : List (Int × Int)) (W : World) (hn : al.length = o.an) (hlm : o.an ≤ 1000000) (hr : RdA W o.ao al) (hts : o.txt.size ≤ maxLen) : Calls Tryz.prog 63 #[.agg o.l.toArray] W fun e w' => e = .returned (.bool (okB o al)) ∧ Below W.heap.size W w' := by
 by_cases h : headB o = true
 ·by_cases k1 : o.k = 1
  ·refine (gValid_1 o W h k1).mono fun e w' he => ⟨he.1.trans (ret_bool ?_), he.2⟩
   rw [okB, h, if_pos k1]; rfl
  by_cases k2 : o.k = 2
  ·refine (gValid_2 o W h k2).mono fun e w' he => ⟨he.1.trans (ret_bool ?_), he.2⟩
   rw [okB, h, if_neg k1, if_pos k2]; rfl
  by_cases k3 : o.k = 3
  ·refine (gValid_3 o al hn hlm W hr h k3).mono fun e w' he => ⟨he.1.trans (ret_bool ?_), he.2⟩
   rw [okB, h, if_neg k1, if_neg k2, if_pos k3]; rfl
  by_cases k4 : o.k = 4
  ·refine (gValid_4 o W h k4).mono fun e w' he => ⟨he.1.trans (ret_bool ?_), he.2⟩
   rw [okB, h, if_neg k1, if_neg k2, if_neg k3, if_pos k4]; rfl
  by_cases k5 : o.k = 5
  ·refine (gValid_5 o hts W h k5).mono fun e w' he => ⟨he.1.trans (ret_bool ?_), he.2⟩
   rw [okB, h, if_neg k1, if_neg k2, if_neg k3, if_neg k4, if_pos k5]; rfl
  ·refine (gValid_no o W h k1 k2 k3 k4 k5).mono fun e w' he => ⟨he.1.trans (ret_bool ?_), he.2⟩
   rw [okB, h, if_neg k1, if_neg k2, if_neg k3, if_neg k4, if_neg k5]; rfl
 ·have h2 : headB o = false := by simpa using h
  refine (gValid_head o W h2).mono fun e w' he => ⟨he.1.trans (ret_bool ?_), he.2⟩
  rw [okB, h2]; rfl
end Go.Proofs.YtjkiidhnmljmbaaGreatDoor
