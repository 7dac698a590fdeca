/-
  The reference's Valid of messages.
  The reference's Encode of messages.
-/
import Derived.Test.YtjkiidhnmljmbaaGreatDoorGqDF
import Derived.Test.YtjkiidhnmljmbaaGreatDoorLits
import Derived.Test.YtjkiidhnmljmbaaGreatDoorGoJK
import Derived.Test.YtjkiidhnmljmbaaGreatDoorGoPQ
import Derived.Test.YtjkiidhnmljmbaaGreatDoorRkFG
set_option linter.unusedVariables false
set_option linter.unusedSimpArgs false
namespace Go.Proofs.YtjkiidhnmljmbaaGreatDoor
open Go.RowKit
theorem same_zero (o : GOd) (al : List (Int × Int)) (hn : al.length = o.an) : sameOB o al zeroO [] = o.zeroB := by
  rw [Bool.eq_iff_iff]
  have h1 : (al = []) ↔ o.an = 0 := by rw [← hn]; exact List.length_eq_zero_iff.symm
  simp only [sameOB, sameE, GOd.zeroB, zeroO, o4, List.getD_nil, Bool.and_eq_true, beq_iff_eq, decide_eq_true_eq, h1]
  constructor
  · rintro ⟨⟨a1, a2, a3, a4, a5, a6, a7⟩, b1, b2, b3, b4, b5, b6, b7, b8⟩
    simp_all
  · rintro ⟨⟨⟨⟨⟨⟨⟨a1, a2⟩, a3⟩, a4⟩, a5⟩, a6⟩, a7⟩, ⟨b1, b2, b3, b4, b5, b6⟩, b7, b8⟩
    simp_all
set_option maxHeartbeats 8000000 in
set_option maxRecDepth 100000 in
theorem ref20_head (m : MOd) (W : World) (ht : ¬ (0 ≤ m.tn ∧ m.tn < 3)) : Calls Tryz.prog 34 #[.agg m.l.toArray] W fun e w' => e = .returned (.bool false) ∧ Below W.heap.size W w' := by
  obtain ⟨N, hN⟩ : ∃ N, W.heap.size = N := ⟨_, rfl⟩
  obtain ⟨w1, hw1⟩ : ∃ w1, W.alloc (.cells (aM m) 32) = w1 := ⟨_, rfl⟩
  have hb1 : Below N W w1 := by rw [← hw1, ← hN]; exact (Below.refl _ W).alloc (Nat.le_refl _) _
  have hk1 : Blk w1 N 32 m.l := by rw [← hw1, ← hN]; exact Blk.new W _ m.l
  have HSZ := Lib.hid (show (Tryz.prog.info? 30).map (·.size) = some 26 from by kernel_rfl)
  have HN := Lib.hid hN
  have HB1 := Lib.hid hb1
  have HK1 := Lib.hid hk1
  have c1 : w1.cell? ⟨N, 1, none⟩ = some (.int .i64 m.tn) := hk1.cell 1
  show Calls Tryz.prog 34 #[.agg (aM m)] W _
  clear hb1 hk1
  rcases (show m.tn < 0 ∨ (¬ m.tn < 0 ∧ m.tn > 2) from by omega) with h | ⟨h, h2⟩
  all_goals
    clear ht
    go_enter Tryz.func34, Tryz.ntmps34
    go_wp2_with fail
    go_ret
    exact ⟨rfl, by first | exact HB1.out | (rw [HN.out]; exact HB1.out)⟩
set_option maxHeartbeats 8000000 in
set_option maxRecDepth 100000 in
theorem ref20_1 (m : MOd) (al : List (Int × Int)) (W : World) (hn : al.length = m.o.an) (hlm : m.o.an ≤ 1000000) (hr : RdA W m.o.ao al) (hts : m.o.txt.size ≤ maxLen) (ht : 0 ≤ m.tn ∧ m.tn < 3) (hk : m.kd = 1) : Calls Tryz.prog 34 #[.agg m.l.toArray] W fun e w' => e = .returned (.bool (okB m.o al && (decide (m.sq ≥ 1) && ((m.sq == m.o.s) && ((m.fr == 0) && (m.n == 0)))))) ∧ Below W.heap.size W w' := by
  obtain ⟨N, hN⟩ : ∃ N, W.heap.size = N := ⟨_, rfl⟩
  obtain ⟨w1, hw1⟩ : ∃ w1, W.alloc (.cells (aM m) 32) = w1 := ⟨_, rfl⟩
  have hb1 : Below N W w1 := by rw [← hw1, ← hN]; exact (Below.refl _ W).alloc (Nat.le_refl _) _
  have hk1 : Blk w1 N 32 m.l := by rw [← hw1, ← hN]; exact Blk.new W _ m.l
  have HSZ := Lib.hid (show (Tryz.prog.info? 30).map (·.size) = some 26 from by kernel_rfl)
  have HN := Lib.hid hN
  have HB1 := Lib.hid hb1
  have HK1 := Lib.hid hk1
  have c1 : w1.cell? ⟨N, 1, none⟩ = some (.int .i64 m.tn) := hk1.cell 1
  show Calls Tryz.prog 34 #[.agg (aM m)] W _
  obtain ⟨sp, hsp⟩ : ∃ sp, (okB m.o al && (decide (m.sq ≥ 1) && ((m.sq == m.o.s) && ((m.fr == 0) && (m.n == 0))))) = sp := ⟨_, rfl⟩
  rw [hsp]
  have q1 : ¬ m.tn < 0 := by omega
  have q2 : ¬ m.tn > 2 := by omega
  have HKD := Lib.hid hk
  clear hk
  have HSO := Lib.hid (gSameOrder m.o zeroO al [] w1 hn rfl hlm (Nat.zero_le _) (hr.kept (hN ▸ hb1)) (.inl rfl))
  rw [same_zero m.o al hn] at HSO
  replace HSO : Hid (Calls Tryz.prog 47 #[.agg m.o.l.toArray, .agg zOa] w1 fun e w' => e = .returned (.bool m.o.zeroB) ∧ Below w1.heap.size w1 w') := HSO
  have HVL : Hid (∀ w', Below w1.heap.size w1 w' → Calls Tryz.prog 69 #[.agg m.o.l.toArray] w' fun e w'' => e = .returned (.bool (okB m.o al)) ∧ Below w'.heap.size w' w'') := fun w' hw => gRef15 m.o al w' hn hlm ((hr.kept (hN ▸ hb1)).kept hw) hts
  obtain ⟨zb, hzb⟩ : ∃ zb, m.o.zeroB = zb := ⟨_, rfl⟩
  obtain ⟨ob, hob⟩ : ∃ ob, okB m.o al = ob := ⟨_, rfl⟩
  rw [hzb] at HSO
  rw [hob] at HVL
  try rw [hzb] at hsp
  try rw [hob] at hsp
  have HSP := Lib.hid hsp
  clear hb1 hk1 hr hn hlm hts hzb hob hsp
  go_enter Tryz.func34, Tryz.ntmps34
  go_wp2_with (refine wpList_load_mid rfl 30 (.tmp 13) rfl N 5 rfl m.o.l _ (HK1.out.rangeO 5 rfl) Tryz.underlying30 rfl HSZ.out ?_)
  refine HSO.out.mono ?_
  rintro e w2 ⟨rfl, hb2⟩
  have HK2 := Lib.hid (HK1.out.kept (hb2.block _ HK1.out.lt))
  have HB2 := Lib.hid hb2
  clear hb2 c1
  go_wp2_with (refine wpList_load_mid rfl 30 (.tmp 17) rfl N 5 rfl m.o.l _ (HK2.out.rangeO 5 rfl) Tryz.underlying30 rfl HSZ.out ?_)
  refine (HVL.out _ HB2.out).mono ?_
  rintro e w3 ⟨rfl, hb3⟩
  have hk3 := HK2.out.kept (hb3.block _ HK2.out.lt)
  have d0 : w3.cell? ⟨N, 0, none⟩ = some (.int .i64 m.kd) := hk3.cell 0
  have d2 : w3.cell? ⟨N, 2, none⟩ = some (.int .i64 m.sq) := hk3.cell 2
  have d3 : w3.cell? ⟨N, 3, none⟩ = some (.int .i64 m.fr) := hk3.cell 3
  have d4 : w3.cell? ⟨N, 4, none⟩ = some (.int .i64 m.n) := hk3.cell 4
  have d5 : w3.cell? ⟨N, 5, none⟩ = some (.int .i64 m.o.s) := hk3.cell 5
  have HB4 : Hid (Below W.heap.size W w3) := by
    have h1 : Below W.heap.size W w1 := by rw [HN.out]; exact HB1.out
    exact (h1.trans (HB2.out.mono h1.size)).trans (hb3.mono (Nat.le_trans h1.size HB2.out.size))
  clear hb3 hk3
  rw [HKD.out] at d0
  cases ob with
  | false =>
    have HV : Hid (sp = false) := HSP.out.symm.trans (by simp)
    go_wp2_with fail
    go_ret
    exact ⟨ret_bool (by first | exact HV.out.symm | exact (decide_eq_false (by omega)).trans HV.out.symm), by first | exact HB4.out | (have := HB4.out; rw [HN.out] at this; exact this)⟩
  | true =>
    rcases (show ¬ (m.sq ≥ 1) ∨ (m.sq ≥ 1) from by omega) with p0 | p0
    · have HV : Hid (sp = false) := HSP.out.symm.trans (by simp [p0])
      go_wp2_with fail
      go_ret
      exact ⟨ret_bool (by first | exact HV.out.symm | exact (decide_eq_false (by omega)).trans HV.out.symm), by first | exact HB4.out | (have := HB4.out; rw [HN.out] at this; exact this)⟩
    cases p1 : (m.sq == m.o.s)
    · have HV : Hid (sp = false) := HSP.out.symm.trans (by simp only [p0, p1]; simp)
      go_wp2_with fail
      go_ret
      exact ⟨ret_bool (by first | exact HV.out.symm | exact (decide_eq_false (by omega)).trans HV.out.symm), by first | exact HB4.out | (have := HB4.out; rw [HN.out] at this; exact this)⟩
    cases p2 : (m.fr == 0)
    · have HV : Hid (sp = false) := HSP.out.symm.trans (by simp only [p0, p1, p2]; simp)
      go_wp2_with fail
      go_ret
      exact ⟨ret_bool (by first | exact HV.out.symm | exact (decide_eq_false (by omega)).trans HV.out.symm), by first | exact HB4.out | (have := HB4.out; rw [HN.out] at this; exact this)⟩
    cases p3 : (m.n == 0)
    · have HV : Hid (sp = false) := HSP.out.symm.trans (by simp only [p0, p1, p2, p3]; simp)
      go_wp2_with fail
      go_ret
      exact ⟨ret_bool (by first | exact HV.out.symm | exact (decide_eq_false (by omega)).trans HV.out.symm), by first | exact HB4.out | (have := HB4.out; rw [HN.out] at this; exact this)⟩
    have HV : Hid (sp = true) := HSP.out.symm.trans (by simp only [p0, p1, p2, p3]; first | rfl | simp)
    go_wp2_with fail
    go_ret
    exact ⟨ret_bool (by first | exact HV.out.symm | exact (decide_eq_false (by omega)).trans HV.out.symm), by first | exact HB4.out | (have := HB4.out; rw [HN.out] at this; exact this)⟩
set_option maxHeartbeats 8000000 in
set_option maxRecDepth 100000 in
theorem ref20_2 (m : MOd) (al : List (Int × Int)) (W : World) (hn : al.length = m.o.an) (hlm : m.o.an ≤ 1000000) (hr : RdA W m.o.ao al) (hts : m.o.txt.size ≤ maxLen) (ht : 0 ≤ m.tn ∧ m.tn < 3) (hk : m.kd = 2) : Calls Tryz.prog 34 #[.agg m.l.toArray] W fun e w' => e = .returned (.bool (m.o.zeroB && (decide (m.sq ≥ 0) && (decide (m.sq ≤ 200) && ((m.fr == 0) && (m.n == 0)))))) ∧ Below W.heap.size W w' := by
  obtain ⟨N, hN⟩ : ∃ N, W.heap.size = N := ⟨_, rfl⟩
  obtain ⟨w1, hw1⟩ : ∃ w1, W.alloc (.cells (aM m) 32) = w1 := ⟨_, rfl⟩
  have hb1 : Below N W w1 := by rw [← hw1, ← hN]; exact (Below.refl _ W).alloc (Nat.le_refl _) _
  have hk1 : Blk w1 N 32 m.l := by rw [← hw1, ← hN]; exact Blk.new W _ m.l
  have HSZ := Lib.hid (show (Tryz.prog.info? 30).map (·.size) = some 26 from by kernel_rfl)
  have HN := Lib.hid hN
  have HB1 := Lib.hid hb1
  have HK1 := Lib.hid hk1
  have c1 : w1.cell? ⟨N, 1, none⟩ = some (.int .i64 m.tn) := hk1.cell 1
  show Calls Tryz.prog 34 #[.agg (aM m)] W _
  obtain ⟨sp, hsp⟩ : ∃ sp, (m.o.zeroB && (decide (m.sq ≥ 0) && (decide (m.sq ≤ 200) && ((m.fr == 0) && (m.n == 0))))) = sp := ⟨_, rfl⟩
  rw [hsp]
  have q1 : ¬ m.tn < 0 := by omega
  have q2 : ¬ m.tn > 2 := by omega
  have HKD := Lib.hid hk
  clear hk
  have HSO := Lib.hid (gSameOrder m.o zeroO al [] w1 hn rfl hlm (Nat.zero_le _) (hr.kept (hN ▸ hb1)) (.inl rfl))
  rw [same_zero m.o al hn] at HSO
  replace HSO : Hid (Calls Tryz.prog 47 #[.agg m.o.l.toArray, .agg zOa] w1 fun e w' => e = .returned (.bool m.o.zeroB) ∧ Below w1.heap.size w1 w') := HSO
  have HVL : Hid (∀ w', Below w1.heap.size w1 w' → Calls Tryz.prog 69 #[.agg m.o.l.toArray] w' fun e w'' => e = .returned (.bool (okB m.o al)) ∧ Below w'.heap.size w' w'') := fun w' hw => gRef15 m.o al w' hn hlm ((hr.kept (hN ▸ hb1)).kept hw) hts
  obtain ⟨zb, hzb⟩ : ∃ zb, m.o.zeroB = zb := ⟨_, rfl⟩
  obtain ⟨ob, hob⟩ : ∃ ob, okB m.o al = ob := ⟨_, rfl⟩
  rw [hzb] at HSO
  rw [hob] at HVL
  try rw [hzb] at hsp
  try rw [hob] at hsp
  have HSP := Lib.hid hsp
  clear hb1 hk1 hr hn hlm hts hzb hob hsp
  go_enter Tryz.func34, Tryz.ntmps34
  go_wp2_with (refine wpList_load_mid rfl 30 (.tmp 13) rfl N 5 rfl m.o.l _ (HK1.out.rangeO 5 rfl) Tryz.underlying30 rfl HSZ.out ?_)
  refine HSO.out.mono ?_
  rintro e w2 ⟨rfl, hb2⟩
  have HK2 := Lib.hid (HK1.out.kept (hb2.block _ HK1.out.lt))
  have HB2 := Lib.hid hb2
  clear hb2 c1
  go_wp2_with (refine wpList_load_mid rfl 30 (.tmp 17) rfl N 5 rfl m.o.l _ (HK2.out.rangeO 5 rfl) Tryz.underlying30 rfl HSZ.out ?_)
  refine (HVL.out _ HB2.out).mono ?_
  rintro e w3 ⟨rfl, hb3⟩
  have hk3 := HK2.out.kept (hb3.block _ HK2.out.lt)
  have d0 : w3.cell? ⟨N, 0, none⟩ = some (.int .i64 m.kd) := hk3.cell 0
  have d2 : w3.cell? ⟨N, 2, none⟩ = some (.int .i64 m.sq) := hk3.cell 2
  have d3 : w3.cell? ⟨N, 3, none⟩ = some (.int .i64 m.fr) := hk3.cell 3
  have d4 : w3.cell? ⟨N, 4, none⟩ = some (.int .i64 m.n) := hk3.cell 4
  have d5 : w3.cell? ⟨N, 5, none⟩ = some (.int .i64 m.o.s) := hk3.cell 5
  have HB4 : Hid (Below W.heap.size W w3) := by
    have h1 : Below W.heap.size W w1 := by rw [HN.out]; exact HB1.out
    exact (h1.trans (HB2.out.mono h1.size)).trans (hb3.mono (Nat.le_trans h1.size HB2.out.size))
  clear hb3 hk3
  rw [HKD.out] at d0
  cases zb with
  | false =>
    have HV : Hid (sp = false) := HSP.out.symm.trans (by simp)
    go_wp2_with fail
    go_ret
    exact ⟨ret_bool (by first | exact HV.out.symm | exact (decide_eq_false (by omega)).trans HV.out.symm), by first | exact HB4.out | (have := HB4.out; rw [HN.out] at this; exact this)⟩
  | true =>
    rcases (show ¬ (m.sq ≥ 0) ∨ (m.sq ≥ 0) from by omega) with p0 | p0
    · have HV : Hid (sp = false) := HSP.out.symm.trans (by simp [p0])
      go_wp2_with fail
      go_ret
      exact ⟨ret_bool (by first | exact HV.out.symm | exact (decide_eq_false (by omega)).trans HV.out.symm), by first | exact HB4.out | (have := HB4.out; rw [HN.out] at this; exact this)⟩
    rcases (show ¬ (m.sq ≤ 200) ∨ (m.sq ≤ 200) from by omega) with p1 | p1
    · have HV : Hid (sp = false) := HSP.out.symm.trans (by simp [p0, p1])
      go_wp2_with fail
      go_ret
      exact ⟨ret_bool (by first | exact HV.out.symm | exact (decide_eq_false (by omega)).trans HV.out.symm), by first | exact HB4.out | (have := HB4.out; rw [HN.out] at this; exact this)⟩
    cases p2 : (m.fr == 0)
    · have HV : Hid (sp = false) := HSP.out.symm.trans (by simp only [p0, p1, p2]; simp)
      go_wp2_with fail
      go_ret
      exact ⟨ret_bool (by first | exact HV.out.symm | exact (decide_eq_false (by omega)).trans HV.out.symm), by first | exact HB4.out | (have := HB4.out; rw [HN.out] at this; exact this)⟩
    cases p3 : (m.n == 0)
    · have HV : Hid (sp = false) := HSP.out.symm.trans (by simp only [p0, p1, p2, p3]; simp)
      go_wp2_with fail
      go_ret
      exact ⟨ret_bool (by first | exact HV.out.symm | exact (decide_eq_false (by omega)).trans HV.out.symm), by first | exact HB4.out | (have := HB4.out; rw [HN.out] at this; exact this)⟩
    have HV : Hid (sp = true) := HSP.out.symm.trans (by simp only [p0, p1, p2, p3]; first | rfl | simp)
    go_wp2_with fail
    go_ret
    exact ⟨ret_bool (by first | exact HV.out.symm | exact (decide_eq_false (by omega)).trans HV.out.symm), by first | exact HB4.out | (have := HB4.out; rw [HN.out] at this; exact this)⟩
set_option maxHeartbeats 8000000 in
set_option maxRecDepth 100000 in
theorem ref20_3 (m : MOd) (al : List (Int × Int)) (W : World) (hn : al.length = m.o.an) (hlm : m.o.an ≤ 1000000) (hr : RdA W m.o.ao al) (hts : m.o.txt.size ≤ maxLen) (ht : 0 ≤ m.tn ∧ m.tn < 3) (hk : m.kd = 3) : Calls Tryz.prog 34 #[.agg m.l.toArray] W fun e w' => e = .returned (.bool (m.o.zeroB && ((m.sq == 0) && (decide (m.fr ≥ 0) && (decide (m.fr ≤ 100000000) && (decide (m.n ≥ 0) && decide (m.n ≤ 200))))))) ∧ Below W.heap.size W w' := by
  obtain ⟨N, hN⟩ : ∃ N, W.heap.size = N := ⟨_, rfl⟩
  obtain ⟨w1, hw1⟩ : ∃ w1, W.alloc (.cells (aM m) 32) = w1 := ⟨_, rfl⟩
  have hb1 : Below N W w1 := by rw [← hw1, ← hN]; exact (Below.refl _ W).alloc (Nat.le_refl _) _
  have hk1 : Blk w1 N 32 m.l := by rw [← hw1, ← hN]; exact Blk.new W _ m.l
  have HSZ := Lib.hid (show (Tryz.prog.info? 30).map (·.size) = some 26 from by kernel_rfl)
  have HN := Lib.hid hN
  have HB1 := Lib.hid hb1
  have HK1 := Lib.hid hk1
  have c1 : w1.cell? ⟨N, 1, none⟩ = some (.int .i64 m.tn) := hk1.cell 1
  show Calls Tryz.prog 34 #[.agg (aM m)] W _
  obtain ⟨sp, hsp⟩ : ∃ sp, (m.o.zeroB && ((m.sq == 0) && (decide (m.fr ≥ 0) && (decide (m.fr ≤ 100000000) && (decide (m.n ≥ 0) && decide (m.n ≤ 200)))))) = sp := ⟨_, rfl⟩
  rw [hsp]
  have q1 : ¬ m.tn < 0 := by omega
  have q2 : ¬ m.tn > 2 := by omega
  have HKD := Lib.hid hk
  clear hk
  have HSO := Lib.hid (gSameOrder m.o zeroO al [] w1 hn rfl hlm (Nat.zero_le _) (hr.kept (hN ▸ hb1)) (.inl rfl))
  rw [same_zero m.o al hn] at HSO
  replace HSO : Hid (Calls Tryz.prog 47 #[.agg m.o.l.toArray, .agg zOa] w1 fun e w' => e = .returned (.bool m.o.zeroB) ∧ Below w1.heap.size w1 w') := HSO
  have HVL : Hid (∀ w', Below w1.heap.size w1 w' → Calls Tryz.prog 69 #[.agg m.o.l.toArray] w' fun e w'' => e = .returned (.bool (okB m.o al)) ∧ Below w'.heap.size w' w'') := fun w' hw => gRef15 m.o al w' hn hlm ((hr.kept (hN ▸ hb1)).kept hw) hts
  obtain ⟨zb, hzb⟩ : ∃ zb, m.o.zeroB = zb := ⟨_, rfl⟩
  obtain ⟨ob, hob⟩ : ∃ ob, okB m.o al = ob := ⟨_, rfl⟩
  rw [hzb] at HSO
  rw [hob] at HVL
  try rw [hzb] at hsp
  try rw [hob] at hsp
  have HSP := Lib.hid hsp
  clear hb1 hk1 hr hn hlm hts hzb hob hsp
  go_enter Tryz.func34, Tryz.ntmps34
  go_wp2_with (refine wpList_load_mid rfl 30 (.tmp 13) rfl N 5 rfl m.o.l _ (HK1.out.rangeO 5 rfl) Tryz.underlying30 rfl HSZ.out ?_)
  refine HSO.out.mono ?_
  rintro e w2 ⟨rfl, hb2⟩
  have HK2 := Lib.hid (HK1.out.kept (hb2.block _ HK1.out.lt))
  have HB2 := Lib.hid hb2
  clear hb2 c1
  go_wp2_with (refine wpList_load_mid rfl 30 (.tmp 17) rfl N 5 rfl m.o.l _ (HK2.out.rangeO 5 rfl) Tryz.underlying30 rfl HSZ.out ?_)
  refine (HVL.out _ HB2.out).mono ?_
  rintro e w3 ⟨rfl, hb3⟩
  have hk3 := HK2.out.kept (hb3.block _ HK2.out.lt)
  have d0 : w3.cell? ⟨N, 0, none⟩ = some (.int .i64 m.kd) := hk3.cell 0
  have d2 : w3.cell? ⟨N, 2, none⟩ = some (.int .i64 m.sq) := hk3.cell 2
  have d3 : w3.cell? ⟨N, 3, none⟩ = some (.int .i64 m.fr) := hk3.cell 3
  have d4 : w3.cell? ⟨N, 4, none⟩ = some (.int .i64 m.n) := hk3.cell 4
  have d5 : w3.cell? ⟨N, 5, none⟩ = some (.int .i64 m.o.s) := hk3.cell 5
  have HB4 : Hid (Below W.heap.size W w3) := by
    have h1 : Below W.heap.size W w1 := by rw [HN.out]; exact HB1.out
    exact (h1.trans (HB2.out.mono h1.size)).trans (hb3.mono (Nat.le_trans h1.size HB2.out.size))
  clear hb3 hk3
  rw [HKD.out] at d0
  cases zb with
  | false =>
    have HV : Hid (sp = false) := HSP.out.symm.trans (by simp)
    go_wp2_with fail
    go_ret
    exact ⟨ret_bool (by first | exact HV.out.symm | exact (decide_eq_false (by omega)).trans HV.out.symm), by first | exact HB4.out | (have := HB4.out; rw [HN.out] at this; exact this)⟩
  | true =>
    cases p0 : (m.sq == 0)
    · have HV : Hid (sp = false) := HSP.out.symm.trans (by simp only [p0]; simp)
      go_wp2_with fail
      go_ret
      exact ⟨ret_bool (by first | exact HV.out.symm | exact (decide_eq_false (by omega)).trans HV.out.symm), by first | exact HB4.out | (have := HB4.out; rw [HN.out] at this; exact this)⟩
    rcases (show ¬ (m.fr ≥ 0) ∨ (m.fr ≥ 0) from by omega) with p1 | p1
    · have HV : Hid (sp = false) := HSP.out.symm.trans (by simp [p0, p1])
      go_wp2_with fail
      go_ret
      exact ⟨ret_bool (by first | exact HV.out.symm | exact (decide_eq_false (by omega)).trans HV.out.symm), by first | exact HB4.out | (have := HB4.out; rw [HN.out] at this; exact this)⟩
    rcases (show ¬ (m.fr ≤ 100000000) ∨ (m.fr ≤ 100000000) from by omega) with p2 | p2
    · have HV : Hid (sp = false) := HSP.out.symm.trans (by simp [p0, p1, p2])
      go_wp2_with fail
      go_ret
      exact ⟨ret_bool (by first | exact HV.out.symm | exact (decide_eq_false (by omega)).trans HV.out.symm), by first | exact HB4.out | (have := HB4.out; rw [HN.out] at this; exact this)⟩
    rcases (show ¬ (m.n ≥ 0) ∨ (m.n ≥ 0) from by omega) with p3 | p3
    · have HV : Hid (sp = false) := HSP.out.symm.trans (by simp [p0, p1, p2, p3])
      go_wp2_with fail
      go_ret
      exact ⟨ret_bool (by first | exact HV.out.symm | exact (decide_eq_false (by omega)).trans HV.out.symm), by first | exact HB4.out | (have := HB4.out; rw [HN.out] at this; exact this)⟩
    rcases (show ¬ (m.n ≤ 200) ∨ (m.n ≤ 200) from by omega) with p4 | p4
    · have HV : Hid (sp = false) := HSP.out.symm.trans (by simp [p0, p1, p2, p3, p4])
      go_wp2_with fail
      go_ret
      exact ⟨ret_bool (by first | exact HV.out.symm | exact (decide_eq_false (by omega)).trans HV.out.symm), by first | exact HB4.out | (have := HB4.out; rw [HN.out] at this; exact this)⟩
    have HV : Hid (sp = true) := HSP.out.symm.trans (by simp only [p0, p1, p2, p3, p4]; first | rfl | simp)
    go_wp2_with fail
    go_ret
    exact ⟨ret_bool (by first | exact HV.out.symm | exact (decide_eq_false (by omega)).trans HV.out.symm), by first | exact HB4.out | (have := HB4.out; rw [HN.out] at this; exact this)⟩
set_option maxHeartbeats 8000000 in
set_option maxRecDepth 100000 in
theorem ref20_x (m : MOd) (al : List (Int × Int)) (W : World) (hn : al.length = m.o.an) (hlm : m.o.an ≤ 1000000) (hr : RdA W m.o.ao al) (hts : m.o.txt.size ≤ maxLen) (ht : 0 ≤ m.tn ∧ m.tn < 3) (h1 : m.kd ≠ 1) (h2 : m.kd ≠ 2) (h3 : m.kd ≠ 3) : Calls Tryz.prog 34 #[.agg m.l.toArray] W fun e w' => e = .returned (.bool false) ∧ Below W.heap.size W w' := by
  obtain ⟨N, hN⟩ : ∃ N, W.heap.size = N := ⟨_, rfl⟩
  obtain ⟨w1, hw1⟩ : ∃ w1, W.alloc (.cells (aM m) 32) = w1 := ⟨_, rfl⟩
  have hb1 : Below N W w1 := by rw [← hw1, ← hN]; exact (Below.refl _ W).alloc (Nat.le_refl _) _
  have hk1 : Blk w1 N 32 m.l := by rw [← hw1, ← hN]; exact Blk.new W _ m.l
  have HSZ := Lib.hid (show (Tryz.prog.info? 30).map (·.size) = some 26 from by kernel_rfl)
  have HN := Lib.hid hN
  have HB1 := Lib.hid hb1
  have HK1 := Lib.hid hk1
  have c1 : w1.cell? ⟨N, 1, none⟩ = some (.int .i64 m.tn) := hk1.cell 1
  show Calls Tryz.prog 34 #[.agg (aM m)] W _
  have hsp : True := trivial
  have q1 : ¬ m.tn < 0 := by omega
  have q2 : ¬ m.tn > 2 := by omega
  have q3 : (m.kd == 1) = false := beq_eq_false_iff_ne.2 h1
  have q4 : (m.kd == 2) = false := beq_eq_false_iff_ne.2 h2
  have q5 : (m.kd == 3) = false := beq_eq_false_iff_ne.2 h3
  clear h1 h2 h3
  have HSO := Lib.hid (gSameOrder m.o zeroO al [] w1 hn rfl hlm (Nat.zero_le _) (hr.kept (hN ▸ hb1)) (.inl rfl))
  rw [same_zero m.o al hn] at HSO
  replace HSO : Hid (Calls Tryz.prog 47 #[.agg m.o.l.toArray, .agg zOa] w1 fun e w' => e = .returned (.bool m.o.zeroB) ∧ Below w1.heap.size w1 w') := HSO
  have HVL : Hid (∀ w', Below w1.heap.size w1 w' → Calls Tryz.prog 69 #[.agg m.o.l.toArray] w' fun e w'' => e = .returned (.bool (okB m.o al)) ∧ Below w'.heap.size w' w'') := fun w' hw => gRef15 m.o al w' hn hlm ((hr.kept (hN ▸ hb1)).kept hw) hts
  obtain ⟨zb, hzb⟩ : ∃ zb, m.o.zeroB = zb := ⟨_, rfl⟩
  obtain ⟨ob, hob⟩ : ∃ ob, okB m.o al = ob := ⟨_, rfl⟩
  rw [hzb] at HSO
  rw [hob] at HVL
  have HSP := Lib.hid hsp
  clear hb1 hk1 hr hn hlm hts hzb hob hsp
  go_enter Tryz.func34, Tryz.ntmps34
  go_wp2_with (refine wpList_load_mid rfl 30 (.tmp 13) rfl N 5 rfl m.o.l _ (HK1.out.rangeO 5 rfl) Tryz.underlying30 rfl HSZ.out ?_)
  refine HSO.out.mono ?_
  rintro e w2 ⟨rfl, hb2⟩
  have HK2 := Lib.hid (HK1.out.kept (hb2.block _ HK1.out.lt))
  have HB2 := Lib.hid hb2
  clear hb2 c1
  go_wp2_with (refine wpList_load_mid rfl 30 (.tmp 17) rfl N 5 rfl m.o.l _ (HK2.out.rangeO 5 rfl) Tryz.underlying30 rfl HSZ.out ?_)
  refine (HVL.out _ HB2.out).mono ?_
  rintro e w3 ⟨rfl, hb3⟩
  have hk3 := HK2.out.kept (hb3.block _ HK2.out.lt)
  have d0 : w3.cell? ⟨N, 0, none⟩ = some (.int .i64 m.kd) := hk3.cell 0
  have d2 : w3.cell? ⟨N, 2, none⟩ = some (.int .i64 m.sq) := hk3.cell 2
  have d3 : w3.cell? ⟨N, 3, none⟩ = some (.int .i64 m.fr) := hk3.cell 3
  have d4 : w3.cell? ⟨N, 4, none⟩ = some (.int .i64 m.n) := hk3.cell 4
  have d5 : w3.cell? ⟨N, 5, none⟩ = some (.int .i64 m.o.s) := hk3.cell 5
  have HB4 : Hid (Below W.heap.size W w3) := by
    have h1 : Below W.heap.size W w1 := by rw [HN.out]; exact HB1.out
    exact (h1.trans (HB2.out.mono h1.size)).trans (hb3.mono (Nat.le_trans h1.size HB2.out.size))
  clear hb3 hk3
  go_wp2_with fail
  go_ret
  exact ⟨rfl, by first | exact HB4.out | (have := HB4.out; rw [HN.out] at this; exact this)⟩
theorem gRef20 (m : MOd) (al : List (Int × Int)) (W : World) (hn : al.length = m.o.an) (hlm : m.o.an ≤ 1000000) (hr : RdA W m.o.ao al) (hts : m.o.txt.size ≤ maxLen) : Calls Tryz.prog 34 #[.agg m.l.toArray] W fun e w' => e = .returned (.bool (okM m al)) ∧ Below W.heap.size W w' := by
  by_cases ht : 0 ≤ m.tn ∧ m.tn < 3
  · by_cases k1 : m.kd = 1
    · refine (ref20_1 m al W hn hlm hr hts ht k1).mono fun e w' he => ⟨he.1.trans (ret_bool ?_), he.2⟩
      unfold okM
      rw [decide_eq_true ht, if_pos k1, Bool.true_and, Bool.eq_iff_iff]
      simp only [Bool.and_eq_true, decide_eq_true_eq, beq_iff_eq]
      constructor
      · rintro ⟨a, b, c, d, e⟩
        have hh : m.o.s ≤ 200 := by
          unfold okB headB at a
          simp only [Bool.and_eq_true, decide_eq_true_eq] at a
          exact a.1.2.1
        exact ⟨b, by omega, d, e, c.symm, a⟩
      · rintro ⟨b, b2, d, e, c, a⟩
        exact ⟨a, b, c.symm, d, e⟩
    · by_cases k2 : m.kd = 2
      · refine (ref20_2 m al W hn hlm hr hts ht k2).mono fun e w' he => ⟨he.1.trans (ret_bool ?_), he.2⟩
        unfold okM
        rw [decide_eq_true ht, if_neg k1, if_pos k2, Bool.true_and, Bool.eq_iff_iff]
        simp only [Bool.and_eq_true, decide_eq_true_eq, beq_iff_eq]
        constructor
        · rintro ⟨a, b, c, d, e⟩; exact ⟨b, c, d, e, a⟩
        · rintro ⟨b, c, d, e, a⟩; exact ⟨a, b, c, d, e⟩
      · by_cases k3 : m.kd = 3
        · refine (ref20_3 m al W hn hlm hr hts ht k3).mono fun e w' he => ⟨he.1.trans (ret_bool ?_), he.2⟩
          unfold okM
          rw [decide_eq_true ht, if_neg k1, if_neg k2, if_pos k3, Bool.true_and, Bool.eq_iff_iff]
          simp only [Bool.and_eq_true, decide_eq_true_eq, beq_iff_eq]
          constructor
          · rintro ⟨a, b, c, d, e, f⟩; exact ⟨b, c, d, e, f, a⟩
          · rintro ⟨b, c, d, e, f, a⟩; exact ⟨a, b, c, d, e, f⟩
        · refine (ref20_x m al W hn hlm hr hts ht k1 k2 k3).mono fun e w' he => ⟨he.1.trans (ret_bool ?_), he.2⟩
          unfold okM
          rw [if_neg k1, if_neg k2, if_neg k3, Bool.and_false]
  · refine (ref20_head m W ht).mono fun e w' he => ⟨he.1.trans (ret_bool ?_), he.2⟩
    unfold okM
    rw [decide_eq_false ht]
    rfl
end Go.Proofs.YtjkiidhnmljmbaaGreatDoor
namespace Go.Proofs.YtjkiidhnmljmbaaGreatDoor
open Go.RowKit Onair
set_option maxHeartbeats 8000000 in
set_option maxRecDepth 100000 in
theorem ref20Enc_no (m : MOd) (al : List (Int × Int)) (W : World) (hn : al.length = m.o.an) (hlm : m.o.an ≤ 100) (hr : RdA W m.o.ao al) (hts : m.o.txt.size ≤ 65536) (hok : okM m al = false) : Calls Tryz.prog 9 #[.agg m.l.toArray] W fun e w' => e = .returned (.tuple #[.string ⟨#[]⟩, .int .i64 200]) ∧ Below W.heap.size W w' := by
  have hts2 : m.o.txt.size ≤ maxLen := by unfold maxLen; omega
  obtain ⟨N, hN⟩ : ∃ N, W.heap.size = N := ⟨_, rfl⟩
  obtain ⟨w1, hw1⟩ : ∃ w1, W.alloc (.cells (aM m) 32) = w1 := ⟨_, rfl⟩
  have hb1 : Below N W w1 := by rw [← hw1, ← hN]; exact (Below.refl _ W).alloc (Nat.le_refl _) _
  have hk1 : Blk w1 N 32 m.l := by rw [← hw1, ← hN]; exact Blk.new W _ m.l
  have HVL := Lib.hid (gRef20 m al w1 hn (by omega) (hr.kept (hN ▸ hb1)) hts2)
  rw [hok] at HVL
  have HSM := Lib.hid (show (Tryz.prog.info? 32).map (·.size) = some 31 from by kernel_rfl)
  have HSZ := Lib.hid (show (Tryz.prog.info? 30).map (·.size) = some 26 from by kernel_rfl)
  have HN := Lib.hid hN
  have HB1 := Lib.hid hb1
  have HK1 := Lib.hid hk1
  show Calls Tryz.prog 9 #[.agg (aM m)] W _
  have HNA := Lib.hid hn
  have HOK := Lib.hid hok
  have HRA := Lib.hid hr
  clear hb1 hk1 hr hn hok
  go_enter Tryz.func9, Tryz.ntmps9
  go_wp2_with (refine wpList_load_mid rfl 32 (.tmp 1) rfl N 0 rfl m.l _ HK1.out.range Tryz.underlying32 rfl HSM.out ?_)
  refine HVL.out.mono ?_
  rintro e w2 ⟨rfl, hb2⟩
  clear hN hw1
  have HB2 : Hid (Below W.heap.size W w2) := by rw [HN.out]; exact HB1.out.trans (hb2.mono (bnl9 HN.out HB1.out))
  clear hb2
  go_wp2_with fail
  go_ret2
  exact ⟨rfl, by first | exact HB2.out | (have := HB2.out; rw [HN.out] at this; exact this)⟩
set_option maxHeartbeats 8000000 in
set_option maxRecDepth 100000 in
theorem ref20Enc_ok (m : MOd) (al : List (Int × Int)) (W : World) (hn : al.length = m.o.an) (hlm : m.o.an ≤ 100) (hr : RdA W m.o.ao al) (hts : m.o.txt.size ≤ 65536) (hok : okM m al = true) : Calls Tryz.prog 9 #[.agg m.l.toArray] W fun e w' => e = .returned (.tuple #[.string ⟨(encM m al).toArray⟩, .int .i64 0]) ∧ Below W.heap.size W w' := by
  have hts2 : m.o.txt.size ≤ maxLen := by unfold maxLen; omega
  obtain ⟨N, hN⟩ : ∃ N, W.heap.size = N := ⟨_, rfl⟩
  obtain ⟨w1, hw1⟩ : ∃ w1, W.alloc (.cells (aM m) 32) = w1 := ⟨_, rfl⟩
  have hb1 : Below N W w1 := by rw [← hw1, ← hN]; exact (Below.refl _ W).alloc (Nat.le_refl _) _
  have hk1 : Blk w1 N 32 m.l := by rw [← hw1, ← hN]; exact Blk.new W _ m.l
  have HVL := Lib.hid (gRef20 m al w1 hn (by omega) (hr.kept (hN ▸ hb1)) hts2)
  rw [hok] at HVL
  have HSM := Lib.hid (show (Tryz.prog.info? 32).map (·.size) = some 31 from by kernel_rfl)
  have HSZ := Lib.hid (show (Tryz.prog.info? 30).map (·.size) = some 26 from by kernel_rfl)
  have HN := Lib.hid hN
  have HB1 := Lib.hid hb1
  have HK1 := Lib.hid hk1
  show Calls Tryz.prog 9 #[.agg (aM m)] W _
  have HNA := Lib.hid hn
  have HOK := Lib.hid hok
  have HRA := Lib.hid hr
  clear hb1 hk1 hr hn hok
  go_enter Tryz.func9, Tryz.ntmps9
  go_wp2_with (refine wpList_load_mid rfl 32 (.tmp 1) rfl N 0 rfl m.l _ HK1.out.range Tryz.underlying32 rfl HSM.out ?_)
  refine HVL.out.mono ?_
  rintro e w2 ⟨rfl, hb2⟩
  clear hN hw1
  have hk2 : Blk w2 N 32 m.l := HK1.out.kept (hb2.block _ HK1.out.lt)
  have hB2 : Below N W w2 := HB1.out.trans (hb2.mono (bnl9 HN.out HB1.out))
  obtain ⟨G, hG⟩ : ∃ G, w2.heap.size = G := ⟨_, rfl⟩
  have hNG : N < G := by rw [← hG]; exact hk2.lt
  obtain ⟨w3, hw3⟩ : ∃ w3, w2.alloc (.cells #[.int .i64 m.kd, .int .i64 m.tn, .int .i64 m.sq, .int .i64 m.fr, .int .i64 m.n] 3) = w3 := ⟨_, rfl⟩
  have hk3 : Blk w3 G 3 (iC [m.kd, m.tn, m.sq, m.fr, m.n]) := by rw [← hw3, ← hG]; exact Blk.new w2 _ (iC [m.kd, m.tn, m.sq, m.fr, m.n])
  have hb3 : Below G w2 w3 := by rw [← hw3, ← hG]; exact (Below.refl _ w2).alloc (Nat.le_refl _) _
  have hk4 : Blk w3 N 32 m.l := hk2.kept (hb3.block N hNG)
  have HRD := Lib.hid (rdin_of (own_new hk3 (Nat.le_refl G) (by simp) (by simp)) rfl)
  have HB3 : Hid (Below N W w3) := hB2.trans (hb3.mono (Nat.le_of_lt hNG))
  have HK4 := Lib.hid hk4
  have c0 : w2.cell? ⟨N, 0, none⟩ = some (.int .i64 m.kd) := hk2.cell 0
  have c1 : w2.cell? ⟨N, 1, none⟩ = some (.int .i64 m.tn) := hk2.cell 1
  have c2 : w2.cell? ⟨N, 2, none⟩ = some (.int .i64 m.sq) := hk2.cell 2
  have c3 : w2.cell? ⟨N, 3, none⟩ = some (.int .i64 m.fr) := hk2.cell 3
  have c4 : w2.cell? ⟨N, 4, none⟩ = some (.int .i64 m.n) := hk2.cell 4
  clear hb2 hk2 hB2 hk3 hb3 hk4
  go_wp2_with fail
  clear c0 c1 c2 c3 c4 hG hw3
  refine (rkNumbers w3 _ 5 5 [m.kd, m.tn, m.sq, m.fr, m.n] rfl (by decide) HRD.out).mono ?_
  rintro e w4 ⟨rfl, hb4⟩
  have HB4 : Hid (Below N W w4) := HB3.out.trans (hb4.mono (bnl9 HN.out HB3.out))
  have HK5 := Lib.hid (HK4.out.kept (hb4.block _ HK4.out.lt))
  have d0 : w4.cell? ⟨N, 0, none⟩ = some (.int .i64 m.kd) := HK5.out.cell 0
  obtain ⟨S, hS⟩ : ∃ S : ByteArray, (⟨(encI [m.kd, m.tn, m.sq, m.fr, m.n]).toArray⟩ : ByteArray) = S := ⟨_, rfl⟩
  have hsz : S.size ≤ 45 := by rw [← hS, bytes_size]; exact encI_len [m.kd, m.tn, m.sq, m.fr, m.n]
  rw [hS]
  have HS := Lib.hid hS
  clear hb4 hS HRD HB3 HK4
  by_cases hk : m.kd = 1
  · obtain ⟨ho, -⟩ := okM_ord HOK.out hk
    have HM : Hid (encM m al = encI [m.kd, m.tn, m.sq, m.fr, m.n] ++ putSL (encG m.o al)) := (by unfold encM; rw [if_pos hk] : encM m al = encI [m.kd, m.tn, m.sq, m.fr, m.n] ++ putSL (encG m.o al))
    rw [hk] at d0
    clear hk
    go_wp2_with (refine wpList_load_mid rfl 30 (.tmp 30) rfl N 5 rfl m.o.l _ (HK5.out.rangeO 5 rfl) Tryz.underlying30 rfl HSZ.out ?_)
    refine (ref15Enc_ok m.o al w4 HNA.out hlm (HRA.out.kept (by rw [HN.out]; exact HB4.out)) hts ho).mono ?_
    rintro e w5 ⟨rfl, hb5⟩
    have HB5 : Hid (Below N W w5) := HB4.out.trans (hb5.mono (bnl9 HN.out HB4.out))
    clear hb5 ho d0
    go_wp2_with fail
    refine (refPutString_any ⟨(encG m.o al).toArray⟩ w5 (by
      rw [bytes_size]
      have := encG_len m.o al (by rw [HNA.out]; omega)
      unfold maxLen
      omega)).mono ?_
    rintro e w6 ⟨rfl, hb6⟩
    have HB6 : Hid (Below N W w6) := HB5.out.trans (hb6.mono (bnl9 HN.out HB5.out))
    obtain ⟨T, hT⟩ : ∃ T : ByteArray, (⟨(putSL (⟨(encG m.o al).toArray⟩ : ByteArray).data.toList).toArray⟩ : ByteArray) = T := ⟨_, rfl⟩
    have hsT : T.size ≤ 70000 := by rw [← hT, bytes_size]; exact putSL_small _
    rw [hT]
    have HT := Lib.hid hT
    have q3 : ¬ (S.size + T.size > 9223372036854775807) := by omega
    have q4 : ¬ (9223372036854775807 < S.size + T.size) := by omega
    clear hT hb6 hsz hsT
    go_wp2_with fail
    go_ret2
    exact ⟨by rw [HM.out, ← HS.out, ← HT.out, bytes_app]; rfl, by first | exact HB6.out | (rw [HN.out]; exact HB6.out)⟩
  · have HM : Hid (encM m al = encI [m.kd, m.tn, m.sq, m.fr, m.n]) := (by unfold encM; rw [if_neg hk, List.append_nil] : encM m al = encI [m.kd, m.tn, m.sq, m.fr, m.n])
    have q1 : (m.kd == 1) = false := beq_eq_false_iff_ne.2 hk
    clear hk hsz
    go_wp2_with fail
    go_ret2
    exact ⟨by rw [HM.out, ← HS.out]; rfl, by first | exact HB4.out | (rw [HN.out]; exact HB4.out)⟩
end Go.Proofs.YtjkiidhnmljmbaaGreatDoor
