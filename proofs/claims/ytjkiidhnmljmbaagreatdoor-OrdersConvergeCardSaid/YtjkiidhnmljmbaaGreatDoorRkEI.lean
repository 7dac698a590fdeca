/- The reference's Valid of messages. -/
import Derived.Test.YtjkiidhnmljmbaaGreatDoorRkFG
set_option linter.unusedVariables false
set_option linter.unusedSimpArgs false
set_option maxRecDepth 100000
set_option maxHeartbeats 8000000
namespace Go.Proofs.YtjkiidhnmljmbaaGreatDoor
open Go.RowKit
theorem same_zero (o : GOd) (al : List (Int × Int)) (hn : al.length = o.an) : sameOB o al zeroO [] = o.zeroB := by
 rw [Bool.eq_iff_iff]
 have h1 : (al = []) ↔ o.an = 0 := by rw [← hn]; exact List.length_eq_zero_iff.symm
 simp only [sameOB, sameE, GOd.zeroB, zeroO, o4, List.getD_nil, Bool.and_eq_true, beq_iff_eq, decide_eq_true_eq, h1]
 constructor
 ·rintro ⟨⟨a1, a2, a3, a4, a5, a6, a7⟩, b1, b2, b3, b4, b5, b6, b7, b8⟩
  simp_all
 ·rintro ⟨⟨⟨⟨⟨⟨⟨a1, a2⟩, a3⟩, a4⟩, a5⟩, a6⟩, a7⟩, ⟨b1, b2, b3, b4, b5, b6⟩, b7, b8⟩
  simp_all
theorem ref20_head (m : MOd) (W : World) (ht : ¬ (0 ≤ m.tn ∧ m.tn < 3)) : Calls Tryz.prog 34 #[.agg m.l.toArray] W fun e w' => e = .returned (.bool false) ∧ Below W.heap.size W w' := by
 obtain ⟨N, w1, hN, hw1, hb1, hk1⟩ := bx W (aM m) m.l 32 rfl
 have HSZ := szO
 have HN := Lib.hid hN;have HB1 := Lib.hid hb1;have HK1 := Lib.hid hk1
 have c1 : w1.cell? ⟨N, 1, none⟩ = some (.int .i64 m.tn) := hk1.cell 1
 show Calls Tryz.prog 34 #[.agg (aM m)] W _
 clear hb1 hk1
 rcases (show m.tn < 0 ∨ (¬ m.tn < 0 ∧ m.tn > 2) from by omega) with h | ⟨h, h2⟩
 all_goals
  clear ht
  go_enter Tryz.func34, Tryz.ntmps34
  go_wp2_with fail
  go_ret
  exact ⟨rfl, by first | exact HB1.out | (rw [HN.out]; exact HB1.out)⟩
theorem ref20_1 (m : MOd) (al : List (Int × Int)) (W : World) (hn : al.length = m.o.an) (hlm : m.o.an ≤ 1000000) (hr : RdA W m.o.ao al) (hts : m.o.txt.size ≤ maxLen) (ht : 0 ≤ m.tn ∧ m.tn < 3) (hk : m.kd = 1) : Calls Tryz.prog 34 #[.agg m.l.toArray] W fun e w' => e = .returned (.bool (okB m.o al && (decide (m.sq ≥ 1) && ((m.sq == m.o.s) && ((m.fr == 0) && (m.n == 0)))))) ∧ Below W.heap.size W w' := by
 obtain ⟨N, w1, hN, hw1, hb1, hk1⟩ := bx W (aM m) m.l 32 rfl
 have HSZ := szO
 have HN := Lib.hid hN;have HB1 := Lib.hid hb1;have HK1 := Lib.hid hk1
 have c1 : w1.cell? ⟨N, 1, none⟩ = some (.int .i64 m.tn) := hk1.cell 1
 show Calls Tryz.prog 34 #[.agg (aM m)] W _
 obtain ⟨sp, hsp⟩ : ∃ sp, (okB m.o al && (decide (m.sq ≥ 1) && ((m.sq == m.o.s) && ((m.fr == 0) && (m.n == 0))))) = sp := ⟨_, rfl⟩
 rw [hsp]
 have q1 : ¬ m.tn < 0 := by omega
 have q2 : ¬ m.tn > 2 := by omega
 have HKD := Lib.hid hk;clear hk
 have HSO := Lib.hid (gSameOrder m.o zeroO al [] w1 hn rfl hlm (Nat.zero_le _) (hr.kept (hN ▸ hb1)) (.inl rfl))
 rw [same_zero m.o al hn] at HSO
 replace HSO : Hid (Calls Tryz.prog 47 #[.agg m.o.l.toArray, .agg aZo] w1 fun e w' => e = .returned (.bool m.o.zeroB) ∧ Below w1.heap.size w1 w') := HSO
 have HVL : Hid (∀ w', Below w1.heap.size w1 w' → Calls Tryz.prog 69 #[.agg m.o.l.toArray] w' fun e w'' => e = .returned (.bool (okB m.o al)) ∧ Below w'.heap.size w' w'') := fun w' hw => gRef15 m.o al w' hn hlm ((hr.kept (hN ▸ hb1)).kept hw) hts
 obtain ⟨zb, hzb⟩ : ∃ zb, m.o.zeroB = zb := ⟨_, rfl⟩
 obtain ⟨ob, hob⟩ : ∃ ob, okB m.o al = ob := ⟨_, rfl⟩
 rw [hzb] at HSO;rw [hob] at HVL
 try rw [hzb] at hsp
 try rw [hob] at hsp
 have HSP := Lib.hid hsp;clear hb1 hk1 hr hn hlm hts hzb hob hsp
 go_enter Tryz.func34, Tryz.ntmps34
 go_wp2_with (refine wpList_load_mid rfl 30 (.tmp 13) rfl N 5 rfl m.o.l _ (HK1.out.rangeO 5 rfl) Tryz.underlying30 rfl HSZ.out ?_)
 refine HSO.out.mono ?_
 rintro e w2 ⟨rfl, hb2⟩
 have HK2 := Lib.hid (HK1.out.kept (hb2.block _ HK1.out.lt))
 have HB2 := Lib.hid hb2;clear hb2 c1
 go_wp2_with (refine wpList_load_mid rfl 30 (.tmp 17) rfl N 5 rfl m.o.l _ (HK2.out.rangeO 5 rfl) Tryz.underlying30 rfl HSZ.out ?_)
 refine (HVL.out _ HB2.out).mono ?_
 rintro e w3 ⟨rfl, hb3⟩
 have hk3 := HK2.out.kept (hb3.block _ HK2.out.lt)
 have d0 : w3.cell? ⟨N, 0, none⟩ = some (.int .i64 m.kd) := hk3.cell 0
 have d2 : w3.cell? ⟨N, 2, none⟩ = some (.int .i64 m.sq) := hk3.cell 2
 have d3 : w3.cell? ⟨N, 3, none⟩ = some (.int .i64 m.fr) := hk3.cell 3
 have d4 : w3.cell? ⟨N, 4, none⟩ = some (.int .i64 m.n) := hk3.cell 4
 have d5 : w3.cell? ⟨N, 5, none⟩ = some (.int .i64 m.o.s) := hk3.cell 5
 have HB4 : Hid (Below W.heap.size W w3) := by
  have h1 : Below W.heap.size W w1 := by rw [HN.out]; exact HB1.out
  exact (h1.trans (HB2.out.mono h1.size)).trans (hb3.mono (Nat.le_trans h1.size HB2.out.size))
 clear hb3 hk3;rw [HKD.out] at d0
 cases ob with
 | false =>
  have HV : Hid (sp = false) := HSP.out.symm.trans (by simp)
  go_wp2_with fail
  go_ret
  exact ⟨ret_bool (by first | exact HV.out.symm | exact (decide_eq_false (by omega)).trans HV.out.symm), by first | exact HB4.out | (have := HB4.out; rw [HN.out] at this; exact this)⟩
 | true =>
  rcases (show ¬ (m.sq ≥ 1) ∨ (m.sq ≥ 1) from by omega) with p0 | p0
  ·have HV : Hid (sp = false) := HSP.out.symm.trans (by simp [p0])
   go_wp2_with fail
   go_ret
   exact ⟨ret_bool (by first | exact HV.out.symm | exact (decide_eq_false (by omega)).trans HV.out.symm), by first | exact HB4.out | (have := HB4.out; rw [HN.out] at this; exact this)⟩
  cases p1 : (m.sq == m.o.s)
  ·have HV : Hid (sp = false) := HSP.out.symm.trans (by simp only [p0, p1]; simp)
   go_wp2_with fail
   go_ret
   exact ⟨ret_bool (by first | exact HV.out.symm | exact (decide_eq_false (by omega)).trans HV.out.symm), by first | exact HB4.out | (have := HB4.out; rw [HN.out] at this; exact this)⟩
  cases p2 : (m.fr == 0)
  ·have HV : Hid (sp = false) := HSP.out.symm.trans (by simp only [p0, p1, p2]; simp)
   go_wp2_with fail
   go_ret
   exact ⟨ret_bool (by first | exact HV.out.symm | exact (decide_eq_false (by omega)).trans HV.out.symm), by first | exact HB4.out | (have := HB4.out; rw [HN.out] at this; exact this)⟩
  cases p3 : (m.n == 0)
  ·have HV : Hid (sp = false) := HSP.out.symm.trans (by simp only [p0, p1, p2, p3]; simp)
   go_wp2_with fail
   go_ret
   exact ⟨ret_bool (by first | exact HV.out.symm | exact (decide_eq_false (by omega)).trans HV.out.symm), by first | exact HB4.out | (have := HB4.out; rw [HN.out] at this; exact this)⟩
  have HV : Hid (sp = true) := HSP.out.symm.trans (by simp only [p0, p1, p2, p3]; first | rfl | simp)
  go_wp2_with fail
  go_ret
  exact ⟨ret_bool (by first | exact HV.out.symm | exact (decide_eq_false (by omega)).trans HV.out.symm), by first | exact HB4.out | (have := HB4.out; rw [HN.out] at this; exact this)⟩
theorem ref20_2 (m : MOd) (al : List (Int × Int)) (W : World) (hn : al.length = m.o.an) (hlm : m.o.an ≤ 1000000) (hr : RdA W m.o.ao al) (hts : m.o.txt.size ≤ maxLen) (ht : 0 ≤ m.tn ∧ m.tn < 3) (hk : m.kd = 2) : Calls Tryz.prog 34 #[.agg m.l.toArray] W fun e w' => e = .returned (.bool (m.o.zeroB && (decide (m.sq ≥ 0) && (decide (m.sq ≤ 200) && ((m.fr == 0) && (m.n == 0)))))) ∧ Below W.heap.size W w' := by
 obtain ⟨N, w1, hN, hw1, hb1, hk1⟩ := bx W (aM m) m.l 32 rfl
 have HSZ := szO
 have HN := Lib.hid hN;have HB1 := Lib.hid hb1;have HK1 := Lib.hid hk1
 have c1 : w1.cell? ⟨N, 1, none⟩ = some (.int .i64 m.tn) := hk1.cell 1
 show Calls Tryz.prog 34 #[.agg (aM m)] W _
 obtain ⟨sp, hsp⟩ : ∃ sp, (m.o.zeroB && (decide (m.sq ≥ 0) && (decide (m.sq ≤ 200) && ((m.fr == 0) && (m.n == 0))))) = sp := ⟨_, rfl⟩
 rw [hsp]
 have q1 : ¬ m.tn < 0 := by omega
 have q2 : ¬ m.tn > 2 := by omega
 have HKD := Lib.hid hk;clear hk
 have HSO := Lib.hid (gSameOrder m.o zeroO al [] w1 hn rfl hlm (Nat.zero_le _) (hr.kept (hN ▸ hb1)) (.inl rfl))
 rw [same_zero m.o al hn] at HSO
 replace HSO : Hid (Calls Tryz.prog 47 #[.agg m.o.l.toArray, .agg aZo] w1 fun e w' => e = .returned (.bool m.o.zeroB) ∧ Below w1.heap.size w1 w') := HSO
 have HVL : Hid (∀ w', Below w1.heap.size w1 w' → Calls Tryz.prog 69 #[.agg m.o.l.toArray] w' fun e w'' => e = .returned (.bool (okB m.o al)) ∧ Below w'.heap.size w' w'') := fun w' hw => gRef15 m.o al w' hn hlm ((hr.kept (hN ▸ hb1)).kept hw) hts
 obtain ⟨zb, hzb⟩ : ∃ zb, m.o.zeroB = zb := ⟨_, rfl⟩
 obtain ⟨ob, hob⟩ : ∃ ob, okB m.o al = ob := ⟨_, rfl⟩
 rw [hzb] at HSO;rw [hob] at HVL
 try rw [hzb] at hsp
 try rw [hob] at hsp
 have HSP := Lib.hid hsp;clear hb1 hk1 hr hn hlm hts hzb hob hsp
 go_enter Tryz.func34, Tryz.ntmps34
 go_wp2_with (refine wpList_load_mid rfl 30 (.tmp 13) rfl N 5 rfl m.o.l _ (HK1.out.rangeO 5 rfl) Tryz.underlying30 rfl HSZ.out ?_)
 refine HSO.out.mono ?_
 rintro e w2 ⟨rfl, hb2⟩
 have HK2 := Lib.hid (HK1.out.kept (hb2.block _ HK1.out.lt))
 have HB2 := Lib.hid hb2;clear hb2 c1
 go_wp2_with (refine wpList_load_mid rfl 30 (.tmp 17) rfl N 5 rfl m.o.l _ (HK2.out.rangeO 5 rfl) Tryz.underlying30 rfl HSZ.out ?_)
 refine (HVL.out _ HB2.out).mono ?_
 rintro e w3 ⟨rfl, hb3⟩
 have hk3 := HK2.out.kept (hb3.block _ HK2.out.lt)
 have d0 : w3.cell? ⟨N, 0, none⟩ = some (.int .i64 m.kd) := hk3.cell 0
 have d2 : w3.cell? ⟨N, 2, none⟩ = some (.int .i64 m.sq) := hk3.cell 2
 have d3 : w3.cell? ⟨N, 3, none⟩ = some (.int .i64 m.fr) := hk3.cell 3
 have d4 : w3.cell? ⟨N, 4, none⟩ = some (.int .i64 m.n) := hk3.cell 4
 have d5 : w3.cell? ⟨N, 5, none⟩ = some (.int .i64 m.o.s) := hk3.cell 5
 have HB4 : Hid (Below W.heap.size W w3) := by
  have h1 : Below W.heap.size W w1 := by rw [HN.out]; exact HB1.out
  exact (h1.trans (HB2.out.mono h1.size)).trans (hb3.mono (Nat.le_trans h1.size HB2.out.size))
 clear hb3 hk3;rw [HKD.out] at d0
 cases zb with
 | false =>
  have HV : Hid (sp = false) := HSP.out.symm.trans (by simp)
  go_wp2_with fail
  go_ret
  exact ⟨ret_bool (by first | exact HV.out.symm | exact (decide_eq_false (by omega)).trans HV.out.symm), by first | exact HB4.out | (have := HB4.out; rw [HN.out] at this; exact this)⟩
 | true =>
  rcases (show ¬ (m.sq ≥ 0) ∨ (m.sq ≥ 0) from by omega) with p0 | p0
  ·have HV : Hid (sp = false) := HSP.out.symm.trans (by simp [p0])
   go_wp2_with fail
   go_ret
   exact ⟨ret_bool (by first | exact HV.out.symm | exact (decide_eq_false (by omega)).trans HV.out.symm), by first | exact HB4.out | (have := HB4.out; rw [HN.out] at this; exact this)⟩
  rcases (show ¬ (m.sq ≤ 200) ∨ (m.sq ≤ 200) from by omega) with p1 | p1
  ·have HV : Hid (sp = false) := HSP.out.symm.trans (by simp [p0, p1])
   go_wp2_with fail
   go_ret
   exact ⟨ret_bool (by first | exact HV.out.symm | exact (decide_eq_false (by omega)).trans HV.out.symm), by first | exact HB4.out | (have := HB4.out; rw [HN.out] at this; exact this)⟩
  cases p2 : (m.fr == 0)
  ·have HV : Hid (sp = false) := HSP.out.symm.trans (by simp only [p0, p1, p2]; simp)
   go_wp2_with fail
   go_ret
   exact ⟨ret_bool (by first | exact HV.out.symm | exact (decide_eq_false (by omega)).trans HV.out.symm), by first | exact HB4.out | (have := HB4.out; rw [HN.out] at this; exact this)⟩
  cases p3 : (m.n == 0)
  ·have HV : Hid (sp = false) := HSP.out.symm.trans (by simp only [p0, p1, p2, p3]; simp)
   go_wp2_with fail
   go_ret
   exact ⟨ret_bool (by first | exact HV.out.symm | exact (decide_eq_false (by omega)).trans HV.out.symm), by first | exact HB4.out | (have := HB4.out; rw [HN.out] at this; exact this)⟩
  have HV : Hid (sp = true) := HSP.out.symm.trans (by simp only [p0, p1, p2, p3]; first | rfl | simp)
  go_wp2_with fail
  go_ret
  exact ⟨ret_bool (by first | exact HV.out.symm | exact (decide_eq_false (by omega)).trans HV.out.symm), by first | exact HB4.out | (have := HB4.out; rw [HN.out] at this; exact this)⟩
theorem ref20_3 (m : MOd) (al : List (Int × Int)) (W : World) (hn : al.length = m.o.an) (hlm : m.o.an ≤ 1000000) (hr : RdA W m.o.ao al) (hts : m.o.txt.size ≤ maxLen) (ht : 0 ≤ m.tn ∧ m.tn < 3) (hk : m.kd = 3) : Calls Tryz.prog 34 #[.agg m.l.toArray] W fun e w' => e = .returned (.bool (m.o.zeroB && ((m.sq == 0) && (decide (m.fr ≥ 0) && (decide (m.fr ≤ 100000000) && (decide (m.n ≥ 0) && decide (m.n ≤ 200))))))) ∧ Below W.heap.size W w' := by
 obtain ⟨N, w1, hN, hw1, hb1, hk1⟩ := bx W (aM m) m.l 32 rfl
 have HSZ := szO
 have HN := Lib.hid hN;have HB1 := Lib.hid hb1;have HK1 := Lib.hid hk1
 have c1 : w1.cell? ⟨N, 1, none⟩ = some (.int .i64 m.tn) := hk1.cell 1
 show Calls Tryz.prog 34 #[.agg (aM m)] W _
 obtain ⟨sp, hsp⟩ : ∃ sp, (m.o.zeroB && ((m.sq == 0) && (decide (m.fr ≥ 0) && (decide (m.fr ≤ 100000000) && (decide (m.n ≥ 0) && decide (m.n ≤ 200)))))) = sp := ⟨_, rfl⟩
 rw [hsp]
 have q1 : ¬ m.tn < 0 := by omega
 have q2 : ¬ m.tn > 2 := by omega
 have HKD := Lib.hid hk;clear hk
 have HSO := Lib.hid (gSameOrder m.o zeroO al [] w1 hn rfl hlm (Nat.zero_le _) (hr.kept (hN ▸ hb1)) (.inl rfl))
 rw [same_zero m.o al hn] at HSO
 replace HSO : Hid (Calls Tryz.prog 47 #[.agg m.o.l.toArray, .agg aZo] w1 fun e w' => e = .returned (.bool m.o.zeroB) ∧ Below w1.heap.size w1 w') := HSO
 have HVL : Hid (∀ w', Below w1.heap.size w1 w' → Calls Tryz.prog 69 #[.agg m.o.l.toArray] w' fun e w'' => e = .returned (.bool (okB m.o al)) ∧ Below w'.heap.size w' w'') := fun w' hw => gRef15 m.o al w' hn hlm ((hr.kept (hN ▸ hb1)).kept hw) hts
 obtain ⟨zb, hzb⟩ : ∃ zb, m.o.zeroB = zb := ⟨_, rfl⟩
 obtain ⟨ob, hob⟩ : ∃ ob, okB m.o al = ob := ⟨_, rfl⟩
 rw [hzb] at HSO;rw [hob] at HVL
 try rw [hzb] at hsp
 try rw [hob] at hsp
 have HSP := Lib.hid hsp;clear hb1 hk1 hr hn hlm hts hzb hob hsp
 go_enter Tryz.func34, Tryz.ntmps34
 go_wp2_with (refine wpList_load_mid rfl 30 (.tmp 13) rfl N 5 rfl m.o.l _ (HK1.out.rangeO 5 rfl) Tryz.underlying30 rfl HSZ.out ?_)
 refine HSO.out.mono ?_
 rintro e w2 ⟨rfl, hb2⟩
 have HK2 := Lib.hid (HK1.out.kept (hb2.block _ HK1.out.lt))
 have HB2 := Lib.hid hb2;clear hb2 c1
 go_wp2_with (refine wpList_load_mid rfl 30 (.tmp 17) rfl N 5 rfl m.o.l _ (HK2.out.rangeO 5 rfl) Tryz.underlying30 rfl HSZ.out ?_)
 refine (HVL.out _ HB2.out).mono ?_
 rintro e w3 ⟨rfl, hb3⟩
 have hk3 := HK2.out.kept (hb3.block _ HK2.out.lt)
 have d0 : w3.cell? ⟨N, 0, none⟩ = some (.int .i64 m.kd) := hk3.cell 0
 have d2 : w3.cell? ⟨N, 2, none⟩ = some (.int .i64 m.sq) := hk3.cell 2
 have d3 : w3.cell? ⟨N, 3, none⟩ = some (.int .i64 m.fr) := hk3.cell 3
 have d4 : w3.cell? ⟨N, 4, none⟩ = some (.int .i64 m.n) := hk3.cell 4
 have d5 : w3.cell? ⟨N, 5, none⟩ = some (.int .i64 m.o.s) := hk3.cell 5
 have HB4 : Hid (Below W.heap.size W w3) := by
  have h1 : Below W.heap.size W w1 := by rw [HN.out]; exact HB1.out
  exact (h1.trans (HB2.out.mono h1.size)).trans (hb3.mono (Nat.le_trans h1.size HB2.out.size))
 clear hb3 hk3;rw [HKD.out] at d0
 cases zb with
 | false =>
  have HV : Hid (sp = false) := HSP.out.symm.trans (by simp)
  go_wp2_with fail
  go_ret
  exact ⟨ret_bool (by first | exact HV.out.symm | exact (decide_eq_false (by omega)).trans HV.out.symm), by first | exact HB4.out | (have := HB4.out; rw [HN.out] at this; exact this)⟩
 | true =>
  cases p0 : (m.sq == 0)
  ·have HV : Hid (sp = false) := HSP.out.symm.trans (by simp only [p0]; simp)
   go_wp2_with fail
   go_ret
   exact ⟨ret_bool (by first | exact HV.out.symm | exact (decide_eq_false (by omega)).trans HV.out.symm), by first | exact HB4.out | (have := HB4.out; rw [HN.out] at this; exact this)⟩
  rcases (show ¬ (m.fr ≥ 0) ∨ (m.fr ≥ 0) from by omega) with p1 | p1
  ·have HV : Hid (sp = false) := HSP.out.symm.trans (by simp [p0, p1])
   go_wp2_with fail
   go_ret
   exact ⟨ret_bool (by first | exact HV.out.symm | exact (decide_eq_false (by omega)).trans HV.out.symm), by first | exact HB4.out | (have := HB4.out; rw [HN.out] at this; exact this)⟩
  rcases (show ¬ (m.fr ≤ 100000000) ∨ (m.fr ≤ 100000000) from by omega) with p2 | p2
  ·have HV : Hid (sp = false) := HSP.out.symm.trans (by simp [p0, p1, p2])
   go_wp2_with fail
   go_ret
   exact ⟨ret_bool (by first | exact HV.out.symm | exact (decide_eq_false (by omega)).trans HV.out.symm), by first | exact HB4.out | (have := HB4.out; rw [HN.out] at this; exact this)⟩
  rcases (show ¬ (m.n ≥ 0) ∨ (m.n ≥ 0) from by omega) with p3 | p3
  ·have HV : Hid (sp = false) := HSP.out.symm.trans (by simp [p0, p1, p2, p3])
   go_wp2_with fail
   go_ret
   exact ⟨ret_bool (by first | exact HV.out.symm | exact (decide_eq_false (by omega)).trans HV.out.symm), by first | exact HB4.out | (have := HB4.out; rw [HN.out] at this; exact this)⟩
  rcases (show ¬ (m.n ≤ 200) ∨ (m.n ≤ 200) from by omega) with p4 | p4
  ·have HV : Hid (sp = false) := HSP.out.symm.trans (by simp [p0, p1, p2, p3, p4])
   go_wp2_with fail
   go_ret
   exact ⟨ret_bool (by first | exact HV.out.symm | exact (decide_eq_false (by omega)).trans HV.out.symm), by first | exact HB4.out | (have := HB4.out; rw [HN.out] at this; exact this)⟩
  have HV : Hid (sp = true) := HSP.out.symm.trans (by simp only [p0, p1, p2, p3, p4]; first | rfl | simp)
  go_wp2_with fail
  go_ret
  exact ⟨ret_bool (by first | exact HV.out.symm | exact (decide_eq_false (by omega)).trans HV.out.symm), by first | exact HB4.out | (have := HB4.out; rw [HN.out] at this; exact this)⟩
theorem ref20_x (m : MOd) (al : List (Int × Int)) (W : World) (hn : al.length = m.o.an) (hlm : m.o.an ≤ 1000000) (hr : RdA W m.o.ao al) (hts : m.o.txt.size ≤ maxLen) (ht : 0 ≤ m.tn ∧ m.tn < 3) (h1 : m.kd ≠ 1) (h2 : m.kd ≠ 2) (h3 : m.kd ≠ 3) : Calls Tryz.prog 34 #[.agg m.l.toArray] W fun e w' => e = .returned (.bool false) ∧ Below W.heap.size W w' := by
 obtain ⟨N, w1, hN, hw1, hb1, hk1⟩ := bx W (aM m) m.l 32 rfl
 have HSZ := szO
 have HN := Lib.hid hN;have HB1 := Lib.hid hb1;have HK1 := Lib.hid hk1
 have c1 : w1.cell? ⟨N, 1, none⟩ = some (.int .i64 m.tn) := hk1.cell 1
 show Calls Tryz.prog 34 #[.agg (aM m)] W _
 have hsp : True := trivial
 have q1 : ¬ m.tn < 0 := by omega
 have q2 : ¬ m.tn > 2 := by omega
 have q3 : (m.kd == 1) = false := beq_eq_false_iff_ne.2 h1
 have q4 : (m.kd == 2) = false := beq_eq_false_iff_ne.2 h2
 have q5 : (m.kd == 3) = false := beq_eq_false_iff_ne.2 h3
 clear h1 h2 h3
 have HSO := Lib.hid (gSameOrder m.o zeroO al [] w1 hn rfl hlm (Nat.zero_le _) (hr.kept (hN ▸ hb1)) (.inl rfl))
 rw [same_zero m.o al hn] at HSO
 replace HSO : Hid (Calls Tryz.prog 47 #[.agg m.o.l.toArray, .agg aZo] w1 fun e w' => e = .returned (.bool m.o.zeroB) ∧ Below w1.heap.size w1 w') := HSO
 have HVL : Hid (∀ w', Below w1.heap.size w1 w' → Calls Tryz.prog 69 #[.agg m.o.l.toArray] w' fun e w'' => e = .returned (.bool (okB m.o al)) ∧ Below w'.heap.size w' w'') := fun w' hw => gRef15 m.o al w' hn hlm ((hr.kept (hN ▸ hb1)).kept hw) hts
 obtain ⟨zb, hzb⟩ : ∃ zb, m.o.zeroB = zb := ⟨_, rfl⟩
 obtain ⟨ob, hob⟩ : ∃ ob, okB m.o al = ob := ⟨_, rfl⟩
 rw [hzb] at HSO;rw [hob] at HVL;have HSP := Lib.hid hsp;clear hb1 hk1 hr hn hlm hts hzb hob hsp
 go_enter Tryz.func34, Tryz.ntmps34
 go_wp2_with (refine wpList_load_mid rfl 30 (.tmp 13) rfl N 5 rfl m.o.l _ (HK1.out.rangeO 5 rfl) Tryz.underlying30 rfl HSZ.out ?_)
 refine HSO.out.mono ?_
 rintro e w2 ⟨rfl, hb2⟩
 have HK2 := Lib.hid (HK1.out.kept (hb2.block _ HK1.out.lt))
 have HB2 := Lib.hid hb2;clear hb2 c1
 go_wp2_with (refine wpList_load_mid rfl 30 (.tmp 17) rfl N 5 rfl m.o.l _ (HK2.out.rangeO 5 rfl) Tryz.underlying30 rfl HSZ.out ?_)
 refine (HVL.out _ HB2.out).mono ?_
 rintro e w3 ⟨rfl, hb3⟩
 have hk3 := HK2.out.kept (hb3.block _ HK2.out.lt)
 have d0 : w3.cell? ⟨N, 0, none⟩ = some (.int .i64 m.kd) := hk3.cell 0
 have d2 : w3.cell? ⟨N, 2, none⟩ = some (.int .i64 m.sq) := hk3.cell 2
 have d3 : w3.cell? ⟨N, 3, none⟩ = some (.int .i64 m.fr) := hk3.cell 3
 have d4 : w3.cell? ⟨N, 4, none⟩ = some (.int .i64 m.n) := hk3.cell 4
 have d5 : w3.cell? ⟨N, 5, none⟩ = some (.int .i64 m.o.s) := hk3.cell 5
 have HB4 : Hid (Below W.heap.size W w3) := by
  have h1 : Below W.heap.size W w1 := by rw [HN.out]; exact HB1.out
  exact (h1.trans (HB2.out.mono h1.size)).trans (hb3.mono (Nat.le_trans h1.size HB2.out.size))
 clear hb3 hk3
 go_wp2_with fail
 go_ret
 exact ⟨rfl, by first | exact HB4.out | (have := HB4.out; rw [HN.out] at this; exact this)⟩
theorem gRef20 (m : MOd) (al : List (Int × Int)) (W : World) (hn : al.length = m.o.an) (hlm : m.o.an ≤ 1000000) (hr : RdA W m.o.ao al) (hts : m.o.txt.size ≤ maxLen) : Calls Tryz.prog 34 #[.agg m.l.toArray] W fun e w' => e = .returned (.bool (okM m al)) ∧ Below W.heap.size W w' := by
 by_cases ht : 0 ≤ m.tn ∧ m.tn < 3
 ·by_cases k1 : m.kd = 1
  ·refine (ref20_1 m al W hn hlm hr hts ht k1).mono fun e w' he => ⟨he.1.trans (ret_bool ?_), he.2⟩
   unfold okM
   rw [decide_eq_true ht, if_pos k1, Bool.true_and, Bool.eq_iff_iff]
   simp only [Bool.and_eq_true, decide_eq_true_eq, beq_iff_eq]
   constructor
   ·rintro ⟨a, b, c, d, e⟩
    have hh : m.o.s ≤ 200 := by
     unfold okB headB at a
     simp only [Bool.and_eq_true, decide_eq_true_eq] at a
     exact a.1.2.1
    exact ⟨b, by omega, d, e, c.symm, a⟩
   ·rintro ⟨b, b2, d, e, c, a⟩
    exact ⟨a, b, c.symm, d, e⟩
  ·by_cases k2 : m.kd = 2
   ·refine (ref20_2 m al W hn hlm hr hts ht k2).mono fun e w' he => ⟨he.1.trans (ret_bool ?_), he.2⟩
    unfold okM
    rw [decide_eq_true ht, if_neg k1, if_pos k2, Bool.true_and, Bool.eq_iff_iff]
    simp only [Bool.and_eq_true, decide_eq_true_eq, beq_iff_eq]
    constructor
    ·rintro ⟨a, b, c, d, e⟩; exact ⟨b, c, d, e, a⟩
    ·rintro ⟨b, c, d, e, a⟩; exact ⟨a, b, c, d, e⟩
   ·by_cases k3 : m.kd = 3
    ·refine (ref20_3 m al W hn hlm hr hts ht k3).mono fun e w' he => ⟨he.1.trans (ret_bool ?_), he.2⟩
     unfold okM
     rw [decide_eq_true ht, if_neg k1, if_neg k2, if_pos k3, Bool.true_and, Bool.eq_iff_iff]
     simp only [Bool.and_eq_true, decide_eq_true_eq, beq_iff_eq]
     constructor
     ·rintro ⟨a, b, c, d, e, f⟩; exact ⟨b, c, d, e, f, a⟩
     ·rintro ⟨b, c, d, e, f, a⟩; exact ⟨a, b, c, d, e, f⟩
    ·refine (ref20_x m al W hn hlm hr hts ht k1 k2 k3).mono fun e w' he => ⟨he.1.trans (ret_bool ?_), he.2⟩
     unfold okM
     rw [if_neg k1, if_neg k2, if_neg k3, Bool.and_false]
 ·refine (ref20_head m W ht).mono fun e w' he => ⟨he.1.trans (ret_bool ?_), he.2⟩
  unfold okM
  rw [decide_eq_false ht]
  rfl
open Go.RowKit Onair
end Go.Proofs.YtjkiidhnmljmbaaGreatDoor
