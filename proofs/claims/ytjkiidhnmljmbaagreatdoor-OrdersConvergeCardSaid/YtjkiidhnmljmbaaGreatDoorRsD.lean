/- The reference's sender: Receive. -/
import Derived.Deep.CutBlock
import Derived.Test.YtjkiidhnmljmbaaGreatDoorRsC
import Derived.Test.YtjkiidhnmljmbaaGreatDoorRkEI
set_option linter.unusedVariables false
set_option linter.unusedSimpArgs false
set_option maxRecDepth 100000
set_option maxHeartbeats 8000000
namespace Go.Proofs.YtjkiidhnmljmbaaGreatDoor
open Go.RowKit
attribute [local go_sem] Oper.semAt_some
theorem clrG_p (R : List PG) (f j : Nat) : (clrG R f j).map pOf = R.map pOf := by
 refine List.ext_getElem? fun i => ?_
 rw [List.getElem?_map, List.getElem?_map, clrG_get]
 cases R[i]? with
 | none => rfl
 | some q =>
  simp only [Option.map_some, pOf]
  split <;> rfl
theorem clrG_t (R : List PG) (f j : Nat) (q : PG) (hf : f ≤ j) (hq : R[j]? = some q) : (clrG R f (j + 1)).map tOf = ((clrG R f j).map tOf).set j (-1) := by
 rw [clrG_succ R f j q hf hq, List.map_set]
 rfl
theorem refSRecv_no (W : World) (ba : Nat) (tn : Int) (vL vS : Value) (R : List PG) (k : Nat) (mo : MOd) (al : List (Int × Int)) (h : SaG W ba tn vL vS (R.map pOf) k (R.map tOf)) (hk : k ≤ R.length) (hR : R.length ≤ 900) (hna : al.length = mo.o.an) (hlm : mo.o.an ≤ 1000000) (hr : RdA W mo.o.ao al) (hts : mo.o.txt.size ≤ maxLen) (hbad : okM mo al = false ∨ (okM mo al = true ∧ (mo.kd ≠ 2 ∨ (mo.kd = 2 ∧ (mo.tn ≠ tn ∨ (mo.tn = tn ∧ (mo.sq > (R.length : Int)))))))) :
  Calls Tryz.prog 54 #[.pointer (some ⟨ba, 0, none⟩), .agg mo.l.toArray] W fun e w' => (∃ v, e = .returned v) ∧ Below W.heap.size W w' := by
 obtain ⟨N, hN⟩ : ∃ N, W.heap.size = N := ⟨_, rfl⟩
 obtain ⟨n, hn⟩ : ∃ n, R.length = n := ⟨_, rfl⟩
 have hml : (R.map pOf).length = n := by rw [List.length_map, hn]
 have hmt : (R.map tOf).length = n := by rw [List.length_map, hn]
 obtain ⟨oL, cL, rfl⟩ := own_slice h.ownL
 obtain ⟨oS, cS, rfl⟩ := own_slice h.ownS
 rw [hml, hmt] at h
 obtain ⟨w1, hw1⟩ : ∃ w1, W.alloc (.cells (aM mo) 32) = w1 := ⟨_, rfl⟩
 have hb1 : Below N W w1 := by rw [← hw1, ← hN]; exact (Below.refl _ W).alloc (Nat.le_refl _) _
 have hk1 : Blk w1 N 32 mo.l := by rw [← hw1, ← hN]; exact Blk.new W _ mo.l
 have hs1 := h.below (by rw [hN]; exact hb1)
 have HSZ := szM
 have HR1 := Lib.hid hk1.range;have HK1 := Lib.hid hk1;have HS1 := Lib.hid hs1;have HN := Lib.hid hN;have HB1 := Lib.hid hb1
 have HVL := Lib.hid (gRef20 mo al w1 hna hlm (hr.kept (hN ▸ hb1)) hts)
 have HLN := Lib.hid hn;rw [hn] at hk hR
 have HNB : Hid (ba < N) := (by rw [← hN]; exact h.blk.lt : ba < N)
 have HLT : Hid (∀ c, SaS ba (.slice oL n cL) (.slice oS n cS) c → c < N) := fun c e => by rw [← hN]; exact h.lt c e
 rw [hn] at hbad
 rcases hbad with hv | ⟨hv, hb | ⟨hkd, hb | ⟨htn, hb⟩⟩⟩
 ·rw [hv] at HVL
  clear hv
  show Calls Tryz.prog 54 #[.pointer (some ⟨ba, 0, none⟩), .agg (aM mo)] W _
  clear hb1 hk1 hs1 h hr hn hml hmt
  go_enter Tryz.func54, Tryz.ntmps54
  go_wp2_with (refine wpList_load_mid rfl 32 (.tmp 3) rfl N 0 rfl mo.l _ HR1.out Tryz.underlying32 rfl HSZ.out ?_)
  refine HVL.out.mono ?_
  rintro e w2 ⟨rfl, hb2⟩
  have HS2 := Lib.hid (HS1.out.below hb2)
  have HK2 := Lib.hid (HK1.out.kept (hb2.block N HK1.out.lt))
  have HB2 : Hid (Below N W w2) := HB1.out.trans (hb2.mono (bnl9 HN.out HB1.out))
  have d0 : w2.cell? ⟨N, 0, none⟩ = some (.int .i64 mo.kd) := HK2.out.cell 0
  have d1 : w2.cell? ⟨N, 1, none⟩ = some (.int .i64 mo.tn) := HK2.out.cell 1
  have d2 : w2.cell? ⟨N, 2, none⟩ = some (.int .i64 mo.sq) := HK2.out.cell 2
  have c0 := HS2.out.blk.cell 0
  have c1 := HS2.out.blk.cell 1
  simp only [gz, gs] at c0 c1
  clear hb2 HVL HS1 HK1 HR1 HB1 hN hw1
  go_upto_region 2 with (fail)
  refine wp_region_held_drew (S := fun W => W.cell? ⟨N, 0, none⟩ = some (.int .i64 mo.kd) ∧ W.cell? ⟨N, 1, none⟩ = some (.int .i64 mo.tn) ∧ W.cell? ⟨N, 2, none⟩ = some (.int .i64 mo.sq) ∧ W.cell? ⟨ba, 0, none⟩ = some (.int .i64 tn) ∧ W.cell? ⟨ba, 1, none⟩ = some (.slice oL n cL)) (by kernel_rfl) ?_ (fun hHeld => ?_)
  ·exact ⟨d0, d1, d2, c0, c1⟩
  refine tk 0 (some 8) ?_;refine tk 1 (some 9) ?_;refine tk 2 (some 10) ?_;refine tkU 3 (some 11) ?_;refine tkU 4 (some 12) ?_;refine tkU 5 (some 13) ?_;refine tk 6 (some 14) ?_;refine tk 7 (some 15) ?_;refine tkU 8 (some 16) ?_;refine tkU 9 (some 17) ?_;refine tkU 10 (some 18) ?_
  refine tkU 11 (some 19) ?_;refine tkU 12 (some 20) ?_;refine tkU 13 (some 21) ?_;refine tkU 14 (some 22) ?_;refine tk 15 (some 23) ?_;refine tk 16 (some 24) ?_;refine tkU 17 (some 25) ?_;refine tkU 18 (some 26) ?_;refine tkU 19 (some 27) ?_;refine tkU 20 (some 28) ?_;refine tkU 21 (some 29) ?_
  refine tkU 22 (some 30) ?_;refine tkU 23 (some 31) ?_;refine tkU 24 (some 32) ?_;refine tk 25 (some 33) ?_;refine wpAnyH_done (by kernel_rfl) ?_ _;clear hHeld
  go_wp2_with fail
  try rw [Exit.noGoto_ret]
  first | (refine bodyPost_ret (results_none rfl _ _ _) rfl ?_) | (refine bodyPost_end (results_none rfl _ _ _) rfl ?_)
  exact ⟨⟨_, rfl⟩, by rw [HN.out]; exact HB2.out.drew⟩
 ·rw [hv] at HVL
  clear hv
  have g1 : (mo.kd != 2) = true := by simpa using hb
  clear hb
  show Calls Tryz.prog 54 #[.pointer (some ⟨ba, 0, none⟩), .agg (aM mo)] W _
  clear hb1 hk1 hs1 h hr hn hml hmt
  go_enter Tryz.func54, Tryz.ntmps54
  go_wp2_with (refine wpList_load_mid rfl 32 (.tmp 3) rfl N 0 rfl mo.l _ HR1.out Tryz.underlying32 rfl HSZ.out ?_)
  refine HVL.out.mono ?_
  rintro e w2 ⟨rfl, hb2⟩
  have HS2 := Lib.hid (HS1.out.below hb2)
  have HK2 := Lib.hid (HK1.out.kept (hb2.block N HK1.out.lt))
  have HB2 : Hid (Below N W w2) := HB1.out.trans (hb2.mono (bnl9 HN.out HB1.out))
  have d0 : w2.cell? ⟨N, 0, none⟩ = some (.int .i64 mo.kd) := HK2.out.cell 0
  have d1 : w2.cell? ⟨N, 1, none⟩ = some (.int .i64 mo.tn) := HK2.out.cell 1
  have d2 : w2.cell? ⟨N, 2, none⟩ = some (.int .i64 mo.sq) := HK2.out.cell 2
  have c0 := HS2.out.blk.cell 0
  have c1 := HS2.out.blk.cell 1
  simp only [gz, gs] at c0 c1
  clear hb2 HVL HS1 HK1 HR1 HB1 hN hw1
  go_upto_region 2 with (fail)
  refine wp_region_held_drew (S := fun W => W.cell? ⟨N, 0, none⟩ = some (.int .i64 mo.kd) ∧ W.cell? ⟨N, 1, none⟩ = some (.int .i64 mo.tn) ∧ W.cell? ⟨N, 2, none⟩ = some (.int .i64 mo.sq) ∧ W.cell? ⟨ba, 0, none⟩ = some (.int .i64 tn) ∧ W.cell? ⟨ba, 1, none⟩ = some (.slice oL n cL)) (by kernel_rfl) ?_ (fun hHeld => ?_)
  ·exact ⟨d0, d1, d2, c0, c1⟩
  refine tk 0 (some 8) ?_;refine tk 1 (some 9) ?_;refine tk 2 (some 10) ?_;refine tk 3 (some 11) ?_;refine tk 4 (some 12) ?_
  refine tk 5 (some 13) (v := .bool true) ?_ (hy := by (intro w hSw; (try dsimp only at hSw); go_simp; (first | done | (with_reducible rfl) | exact g1 | simpa using g1)))
  refine tk 6 (some 14) ?_;refine tk 7 (some 15) ?_;refine tkU 8 (some 16) ?_;refine tkU 9 (some 17) ?_;refine tkU 10 (some 18) ?_;refine tkU 11 (some 19) ?_;refine tkU 12 (some 20) ?_;refine tkU 13 (some 21) ?_;refine tkU 14 (some 22) ?_;refine tk 15 (some 23) ?_;refine tk 16 (some 24) ?_
  refine tkU 17 (some 25) ?_;refine tkU 18 (some 26) ?_;refine tkU 19 (some 27) ?_;refine tkU 20 (some 28) ?_;refine tkU 21 (some 29) ?_;refine tkU 22 (some 30) ?_;refine tkU 23 (some 31) ?_;refine tkU 24 (some 32) ?_;refine tk 25 (some 33) ?_;refine wpAnyH_done (by kernel_rfl) ?_ _;clear hHeld
  go_wp2_with fail
  try rw [Exit.noGoto_ret]
  first | (refine bodyPost_ret (results_none rfl _ _ _) rfl ?_) | (refine bodyPost_end (results_none rfl _ _ _) rfl ?_)
  exact ⟨⟨_, rfl⟩, by rw [HN.out]; exact HB2.out.drew⟩
 ·rw [hv] at HVL
  clear hv
  have g1 : (mo.kd != 2) = false := by simpa using hkd
  have g2 : (mo.tn != tn) = true := by simpa using hb
  clear hb hkd
  show Calls Tryz.prog 54 #[.pointer (some ⟨ba, 0, none⟩), .agg (aM mo)] W _
  clear hb1 hk1 hs1 h hr hn hml hmt
  go_enter Tryz.func54, Tryz.ntmps54
  go_wp2_with (refine wpList_load_mid rfl 32 (.tmp 3) rfl N 0 rfl mo.l _ HR1.out Tryz.underlying32 rfl HSZ.out ?_)
  refine HVL.out.mono ?_
  rintro e w2 ⟨rfl, hb2⟩
  have HS2 := Lib.hid (HS1.out.below hb2)
  have HK2 := Lib.hid (HK1.out.kept (hb2.block N HK1.out.lt))
  have HB2 : Hid (Below N W w2) := HB1.out.trans (hb2.mono (bnl9 HN.out HB1.out))
  have d0 : w2.cell? ⟨N, 0, none⟩ = some (.int .i64 mo.kd) := HK2.out.cell 0
  have d1 : w2.cell? ⟨N, 1, none⟩ = some (.int .i64 mo.tn) := HK2.out.cell 1
  have d2 : w2.cell? ⟨N, 2, none⟩ = some (.int .i64 mo.sq) := HK2.out.cell 2
  have c0 := HS2.out.blk.cell 0
  have c1 := HS2.out.blk.cell 1
  simp only [gz, gs] at c0 c1
  clear hb2 HVL HS1 HK1 HR1 HB1 hN hw1
  go_upto_region 2 with (fail)
  refine wp_region_held_drew (S := fun W => W.cell? ⟨N, 0, none⟩ = some (.int .i64 mo.kd) ∧ W.cell? ⟨N, 1, none⟩ = some (.int .i64 mo.tn) ∧ W.cell? ⟨N, 2, none⟩ = some (.int .i64 mo.sq) ∧ W.cell? ⟨ba, 0, none⟩ = some (.int .i64 tn) ∧ W.cell? ⟨ba, 1, none⟩ = some (.slice oL n cL)) (by kernel_rfl) ?_ (fun hHeld => ?_)
  ·exact ⟨d0, d1, d2, c0, c1⟩
  refine tk 0 (some 8) ?_;refine tk 1 (some 9) ?_;refine tk 2 (some 10) ?_;refine tk 3 (some 11) ?_;refine tk 4 (some 12) ?_
  refine tk 5 (some 13) (v := .bool false) ?_ (hy := by (intro w hSw; (try dsimp only at hSw); go_simp; (first | done | (with_reducible rfl) | exact g1 | simpa using g1)))
  refine tk 6 (some 14) ?_;refine tk 7 (some 15) ?_;refine tk 8 (some 16) ?_;refine tk 9 (some 17) ?_;refine tk 10 (some 18) ?_;refine tk 11 (some 19) ?_;refine tk 12 (some 20) ?_;refine tk 13 (some 21) ?_
  refine tk 14 (some 22) (v := .bool true) ?_ (hy := by (intro w hSw; (try dsimp only at hSw); go_simp; (first | done | (with_reducible rfl) | exact g2 | simpa using g2)))
  refine tk 15 (some 23) ?_;refine tk 16 (some 24) ?_;refine tkU 17 (some 25) ?_;refine tkU 18 (some 26) ?_;refine tkU 19 (some 27) ?_;refine tkU 20 (some 28) ?_;refine tkU 21 (some 29) ?_;refine tkU 22 (some 30) ?_;refine tkU 23 (some 31) ?_;refine tkU 24 (some 32) ?_;refine tk 25 (some 33) ?_
  refine wpAnyH_done (by kernel_rfl) ?_ _;clear hHeld
  go_wp2_with fail
  try rw [Exit.noGoto_ret]
  first | (refine bodyPost_ret (results_none rfl _ _ _) rfl ?_) | (refine bodyPost_end (results_none rfl _ _ _) rfl ?_)
  exact ⟨⟨_, rfl⟩, by rw [HN.out]; exact HB2.out.drew⟩
 ·rw [hv] at HVL
  clear hv
  have g1 : (mo.kd != 2) = false := by simpa using hkd
  have g2 : (mo.tn != tn) = false := by simpa using htn
  have g3 : decide (mo.sq > (n : Int)) = true := decide_eq_true hb
  clear hb hkd htn
  show Calls Tryz.prog 54 #[.pointer (some ⟨ba, 0, none⟩), .agg (aM mo)] W _
  clear hb1 hk1 hs1 h hr hn hml hmt
  go_enter Tryz.func54, Tryz.ntmps54
  go_wp2_with (refine wpList_load_mid rfl 32 (.tmp 3) rfl N 0 rfl mo.l _ HR1.out Tryz.underlying32 rfl HSZ.out ?_)
  refine HVL.out.mono ?_
  rintro e w2 ⟨rfl, hb2⟩
  have HS2 := Lib.hid (HS1.out.below hb2)
  have HK2 := Lib.hid (HK1.out.kept (hb2.block N HK1.out.lt))
  have HB2 : Hid (Below N W w2) := HB1.out.trans (hb2.mono (bnl9 HN.out HB1.out))
  have d0 : w2.cell? ⟨N, 0, none⟩ = some (.int .i64 mo.kd) := HK2.out.cell 0
  have d1 : w2.cell? ⟨N, 1, none⟩ = some (.int .i64 mo.tn) := HK2.out.cell 1
  have d2 : w2.cell? ⟨N, 2, none⟩ = some (.int .i64 mo.sq) := HK2.out.cell 2
  have c0 := HS2.out.blk.cell 0
  have c1 := HS2.out.blk.cell 1
  simp only [gz, gs] at c0 c1
  clear hb2 HVL HS1 HK1 HR1 HB1 hN hw1
  go_upto_region 2 with (fail)
  refine wp_region_held_drew (S := fun W => W.cell? ⟨N, 0, none⟩ = some (.int .i64 mo.kd) ∧ W.cell? ⟨N, 1, none⟩ = some (.int .i64 mo.tn) ∧ W.cell? ⟨N, 2, none⟩ = some (.int .i64 mo.sq) ∧ W.cell? ⟨ba, 0, none⟩ = some (.int .i64 tn) ∧ W.cell? ⟨ba, 1, none⟩ = some (.slice oL n cL)) (by kernel_rfl) ?_ (fun hHeld => ?_)
  ·exact ⟨d0, d1, d2, c0, c1⟩
  refine tk 0 (some 8) ?_;refine tk 1 (some 9) ?_;refine tk 2 (some 10) ?_;refine tk 3 (some 11) ?_;refine tk 4 (some 12) ?_
  refine tk 5 (some 13) (v := .bool false) ?_ (hy := by (intro w hSw; (try dsimp only at hSw); go_simp; (first | done | (with_reducible rfl) | exact g1 | simpa using g1)))
  refine tk 6 (some 14) ?_;refine tk 7 (some 15) ?_;refine tk 8 (some 16) ?_;refine tk 9 (some 17) ?_;refine tk 10 (some 18) ?_;refine tk 11 (some 19) ?_;refine tk 12 (some 20) ?_;refine tk 13 (some 21) ?_
  refine tk 14 (some 22) (v := .bool false) ?_ (hy := by (intro w hSw; (try dsimp only at hSw); go_simp; (first | done | (with_reducible rfl) | exact g2 | simpa using g2)))
  refine tk 15 (some 23) ?_;refine tk 16 (some 24) ?_;refine tk 17 (some 25) ?_;refine tk 18 (some 26) ?_;refine tk 19 (some 27) ?_;refine tk 20 (some 28) ?_;refine tk 21 (some 29) ?_;refine tk 22 (some 30) ?_;refine tk 23 (some 31) ?_
  refine tk 24 (some 32) (v := .bool true) ?_ (hy := by (intro w hSw; (try dsimp only at hSw); go_simp; (first | done | (with_reducible rfl) | exact g3 | simpa using g3)))
  refine tk 25 (some 33) ?_;refine wpAnyH_done (by kernel_rfl) ?_ _;clear hHeld
  go_wp2_with fail
  try rw [Exit.noGoto_ret]
  first | (refine bodyPost_ret (results_none rfl _ _ _) rfl ?_) | (refine bodyPost_end (results_none rfl _ _ _) rfl ?_)
  exact ⟨⟨_, rfl⟩, by rw [HN.out]; exact HB2.out.drew⟩
theorem refSRecv_up (W : World) (ba : Nat) (tn : Int) (vL vS : Value) (R : List PG) (k : Nat) (mo : MOd) (al : List (Int × Int)) (h : SaG W ba tn vL vS (R.map pOf) k (R.map tOf)) (hk : k ≤ R.length) (hR : R.length ≤ 900) (hna : al.length = mo.o.an) (hlm : mo.o.an ≤ 1000000) (hr : RdA W mo.o.ao al) (hts : mo.o.txt.size ≤ maxLen) (hv : okM mo al = true) (hkd : mo.kd = 2) (htn : mo.tn = tn) (sq : Nat) (hms : mo.sq = (sq : Int)) (hsq : sq ≤ R.length) (hup : k ≤ sq) :
  Calls Tryz.prog 54 #[.pointer (some ⟨ba, 0, none⟩), .agg mo.l.toArray] W fun e w' => (∃ v, e = .returned v) ∧ SaG w' ba tn vL vS (R.map pOf) sq (R.map tOf) ∧ Fr (fun c => c = ba) W w' := by
 have hml0 : (R.map pOf).length = R.length := List.length_map _
 have hmt0 : (R.map tOf).length = R.length := List.length_map _
 obtain ⟨N, hN⟩ : ∃ N, W.heap.size = N := ⟨_, rfl⟩
 obtain ⟨n, hn⟩ : ∃ n, R.length = n := ⟨_, rfl⟩
 have hml : (R.map pOf).length = n := by rw [List.length_map, hn]
 have hmt : (R.map tOf).length = n := by rw [List.length_map, hn]
 obtain ⟨oL, cL, rfl⟩ := own_slice h.ownL
 obtain ⟨oS, cS, rfl⟩ := own_slice h.ownS
 rw [hml, hmt] at h
 obtain ⟨w1, hw1⟩ : ∃ w1, W.alloc (.cells (aM mo) 32) = w1 := ⟨_, rfl⟩
 have hb1 : Below N W w1 := by rw [← hw1, ← hN]; exact (Below.refl _ W).alloc (Nat.le_refl _) _
 have hk1 : Blk w1 N 32 mo.l := by rw [← hw1, ← hN]; exact Blk.new W _ mo.l
 have hs1 := h.below (by rw [hN]; exact hb1)
 have HSZ := szM
 have HR1 := Lib.hid hk1.range;have HK1 := Lib.hid hk1;have HS1 := Lib.hid hs1;have HN := Lib.hid hN;have HB1 := Lib.hid hb1
 have HVL := Lib.hid (gRef20 mo al w1 hna hlm (hr.kept (hN ▸ hb1)) hts)
 have HLN := Lib.hid hn;rw [hn] at hk hR
 have HNB : Hid (ba < N) := (by rw [← hN]; exact h.blk.lt : ba < N)
 have HLT : Hid (∀ c, SaS ba (.slice oL n cL) (.slice oS n cS) c → c < N) := fun c e => by rw [← hN]; exact h.lt c e
 rw [hml, hmt];rw [hn] at hsq;clear hml0 hmt0
 have g1 : (mo.kd != 2) = false := by simpa using hkd
 have g2 : (mo.tn != tn) = false := by simpa using htn
 have g3 : decide (mo.sq > (n : Int)) = false := decide_eq_false (by rw [hms]; omega)
 have HMS := Lib.hid hms;rw [hv] at HVL;clear hkd htn hv hms
 show Calls Tryz.prog 54 #[.pointer (some ⟨ba, 0, none⟩), .agg (aM mo)] W _
 clear hb1 hk1 hs1 h hr hn hml hmt
 go_enter Tryz.func54, Tryz.ntmps54
 go_wp2_with (refine wpList_load_mid rfl 32 (.tmp 3) rfl N 0 rfl mo.l _ HR1.out Tryz.underlying32 rfl HSZ.out ?_)
 refine HVL.out.mono ?_
 rintro e w2 ⟨rfl, hb2⟩
 have HS2 := Lib.hid (HS1.out.below hb2)
 have HK2 := Lib.hid (HK1.out.kept (hb2.block N HK1.out.lt))
 have HB2 : Hid (Below N W w2) := HB1.out.trans (hb2.mono (bnl9 HN.out HB1.out))
 have d0 : w2.cell? ⟨N, 0, none⟩ = some (.int .i64 mo.kd) := HK2.out.cell 0
 have d1 : w2.cell? ⟨N, 1, none⟩ = some (.int .i64 mo.tn) := HK2.out.cell 1
 have d2 : w2.cell? ⟨N, 2, none⟩ = some (.int .i64 mo.sq) := HK2.out.cell 2
 have c0 := HS2.out.blk.cell 0
 have c1 := HS2.out.blk.cell 1
 simp only [gz, gs] at c0 c1
 clear hb2 HVL HS1 HK1 HR1 HB1 hN hw1
 go_upto_region 2 with (fail)
 refine wp_region_held_drew (S := fun W => W.cell? ⟨N, 0, none⟩ = some (.int .i64 mo.kd) ∧ W.cell? ⟨N, 1, none⟩ = some (.int .i64 mo.tn) ∧ W.cell? ⟨N, 2, none⟩ = some (.int .i64 mo.sq) ∧ W.cell? ⟨ba, 0, none⟩ = some (.int .i64 tn) ∧ W.cell? ⟨ba, 1, none⟩ = some (.slice oL n cL)) (by kernel_rfl) ?_ (fun hHeld => ?_)
 ·exact ⟨d0, d1, d2, c0, c1⟩
 refine tk 0 (some 8) ?_;refine tk 1 (some 9) ?_;refine tk 2 (some 10) ?_;refine tk 3 (some 11) ?_;refine tk 4 (some 12) ?_
 refine tk 5 (some 13) (v := .bool false) ?_ (hy := by (intro w hSw; (try dsimp only at hSw); go_simp; (first | done | (with_reducible rfl) | exact g1 | simpa using g1)))
 refine tk 6 (some 14) ?_;refine tk 7 (some 15) ?_;refine tk 8 (some 16) ?_;refine tk 9 (some 17) ?_;refine tk 10 (some 18) ?_;refine tk 11 (some 19) ?_;refine tk 12 (some 20) ?_;refine tk 13 (some 21) ?_
 refine tk 14 (some 22) (v := .bool false) ?_ (hy := by (intro w hSw; (try dsimp only at hSw); go_simp; (first | done | (with_reducible rfl) | exact g2 | simpa using g2)))
 refine tk 15 (some 23) ?_;refine tk 16 (some 24) ?_;refine tk 17 (some 25) ?_;refine tk 18 (some 26) ?_;refine tk 19 (some 27) ?_;refine tk 20 (some 28) ?_;refine tk 21 (some 29) ?_;refine tk 22 (some 30) ?_;refine tk 23 (some 31) ?_
 refine tk 24 (some 32) (v := .bool false) ?_ (hy := by (intro w hSw; (try dsimp only at hSw); go_simp; (first | done | (with_reducible rfl) | exact g3 | simpa using g3)))
 refine tk 25 (some 33) ?_;refine wpAnyH_done (by kernel_rfl) ?_ _;clear hHeld
 have HK3 := Lib.hid (HK2.out.drew)
 have HS3 := Lib.hid (HS2.out.below (Below.refl _ _).drew)
 have HB3 : Hid (Below N W w2.drew) := HB2.out.drew
 clear HK2 HS2 HB2 d0 d1 d2 c0 c1;generalize w2.drew = w3 at HK3 HS3 HB3 ⊢
 have d2 : w3.cell? ⟨N, 2, none⟩ = some (.int .i64 mo.sq) := HK3.out.cell 2
 have c2 := HS3.out.blk.cell 2
 simp only [gz, gs] at c2
 go_upto_region 3 with (fail)
 refine wp_region_held_drew (S := fun W => W.cell? ⟨N, 2, none⟩ = some (.int .i64 mo.sq) ∧ W.cell? ⟨ba, 2, none⟩ = some (.int .i64 k)) (by kernel_rfl) ?_ (fun hHeld => ?_)
 ·exact ⟨d2, c2⟩
 refine tk 0 (some 34) ?_;refine tk 1 (some 35) ?_;refine tk 2 (some 36) ?_;refine tk 3 (some 37) ?_;refine tk 4 (some 38) ?_;refine tk 5 (some 39) ?_
 refine tk 6 (some 40) (v := .bool false) ?_ (hy := by (intro w hSw; (try dsimp only at hSw); go_simp; (first | done | (with_reducible rfl) | exact (decide_eq_false (show ¬ mo.sq < (k : Int) by have := HMS.out; omega)) | simpa using (decide_eq_false (show ¬ mo.sq < (k : Int) by have := HMS.out; omega)))))
 refine wpAnyH_done (by kernel_rfl) ?_ _;clear hHeld
 have HK4 := Lib.hid (HK3.out.drew)
 have HS4 := Lib.hid (HS3.out.below (Below.refl _ _).drew)
 have HB4 : Hid (Below N W w3.drew) := HB3.out.drew
 clear HK3 HS3 HB3 d2 c2;generalize w3.drew = w4 at HK4 HS4 HB4 ⊢
 have d2 : w4.cell? ⟨N, 2, none⟩ = some (.int .i64 sq) := by rw [← HMS.out]; exact HK4.out.cell 2
 have c2 := HS4.out.blk.cell 2
 simp only [gz, gs] at c2
 have z2 := HS4.out.blk.frozen 2
 go_wp2_with fail
 try rw [Exit.noGoto_ret]
 first | (refine bodyPost_ret (results_none rfl _ _ _) rfl ?_) | (refine bodyPost_end (results_none rfl _ _ _) rfl ?_)
 exact ⟨⟨_, rfl⟩, HS4.out.ack sq, (Fr.under (fun c => c = ba) (by rw [HN.out]; exact HB4.out)).setCell ⟨ba, 2, none⟩ _ (.inl rfl)⟩
theorem refSRecv_down (W : World) (ba : Nat) (tn : Int) (vL vS : Value) (R : List PG) (k : Nat) (mo : MOd) (al : List (Int × Int)) (h : SaG W ba tn vL vS (R.map pOf) k (R.map tOf)) (hk : k ≤ R.length) (hR : R.length ≤ 900) (hna : al.length = mo.o.an) (hlm : mo.o.an ≤ 1000000) (hr : RdA W mo.o.ao al) (hts : mo.o.txt.size ≤ maxLen) (hv : okM mo al = true) (hkd : mo.kd = 2) (htn : mo.tn = tn) (sq : Nat) (hms : mo.sq = (sq : Int)) (hsq : sq ≤ R.length) (hdn : sq < k) :
  Calls Tryz.prog 54 #[.pointer (some ⟨ba, 0, none⟩), .agg mo.l.toArray] W fun e w' => (∃ v, e = .returned v) ∧ SaG w' ba tn vL vS ((clrG R sq R.length).map pOf) sq ((clrG R sq R.length).map tOf) ∧ Fr (fun c => c = ba ∨ vS.ownBlock = some c) W w' := by
 obtain ⟨N, hN⟩ : ∃ N, W.heap.size = N := ⟨_, rfl⟩
 obtain ⟨n, hn⟩ : ∃ n, R.length = n := ⟨_, rfl⟩
 have hml : (R.map pOf).length = n := by rw [List.length_map, hn]
 have hmt : (R.map tOf).length = n := by rw [List.length_map, hn]
 obtain ⟨oL, cL, rfl⟩ := own_slice h.ownL
 obtain ⟨oS, cS, rfl⟩ := own_slice h.ownS
 rw [hml, hmt] at h
 obtain ⟨w1, hw1⟩ : ∃ w1, W.alloc (.cells (aM mo) 32) = w1 := ⟨_, rfl⟩
 have hb1 : Below N W w1 := by rw [← hw1, ← hN]; exact (Below.refl _ W).alloc (Nat.le_refl _) _
 have hk1 : Blk w1 N 32 mo.l := by rw [← hw1, ← hN]; exact Blk.new W _ mo.l
 have hs1 := h.below (by rw [hN]; exact hb1)
 have HSZ := szM
 have HR1 := Lib.hid hk1.range;have HK1 := Lib.hid hk1;have HS1 := Lib.hid hs1;have HN := Lib.hid hN;have HB1 := Lib.hid hb1
 have HVL := Lib.hid (gRef20 mo al w1 hna hlm (hr.kept (hN ▸ hb1)) hts)
 have HLN := Lib.hid hn;rw [hn] at hk hR
 have HNB : Hid (ba < N) := (by rw [← hN]; exact h.blk.lt : ba < N)
 have HLT : Hid (∀ c, SaS ba (.slice oL n cL) (.slice oS n cS) c → c < N) := fun c e => by rw [← hN]; exact h.lt c e
 rw [hml, hmt, hn];rw [hn] at hsq
 obtain ⟨p0, hp0⟩ : ∃ p, (R.map tOf)[0]? = some p := ⟨(R.map tOf)[0]'(by omega), List.getElem?_eq_getElem _⟩
 obtain ⟨gS, rfl, -, -, -⟩ := h.tAt p0 hp0
 clear hp0 p0
 have g1 : (mo.kd != 2) = false := by simpa using hkd
 have g2 : (mo.tn != tn) = false := by simpa using htn
 have g3 : decide (mo.sq > (n : Int)) = false := decide_eq_false (by rw [hms]; omega)
 have HMS := Lib.hid hms;rw [hv] at HVL;clear hkd htn hv hms
 show Calls Tryz.prog 54 #[.pointer (some ⟨ba, 0, none⟩), .agg (aM mo)] W _
 clear hb1 hk1 hs1 h hr hn hml hmt
 go_enter Tryz.func54, Tryz.ntmps54
 go_wp2_with (refine wpList_load_mid rfl 32 (.tmp 3) rfl N 0 rfl mo.l _ HR1.out Tryz.underlying32 rfl HSZ.out ?_)
 refine HVL.out.mono ?_
 rintro e w2 ⟨rfl, hb2⟩
 have HS2 := Lib.hid (HS1.out.below hb2)
 have HK2 := Lib.hid (HK1.out.kept (hb2.block N HK1.out.lt))
 have HB2 : Hid (Below N W w2) := HB1.out.trans (hb2.mono (bnl9 HN.out HB1.out))
 have d0 : w2.cell? ⟨N, 0, none⟩ = some (.int .i64 mo.kd) := HK2.out.cell 0
 have d1 : w2.cell? ⟨N, 1, none⟩ = some (.int .i64 mo.tn) := HK2.out.cell 1
 have d2 : w2.cell? ⟨N, 2, none⟩ = some (.int .i64 mo.sq) := HK2.out.cell 2
 have c0 := HS2.out.blk.cell 0
 have c1 := HS2.out.blk.cell 1
 simp only [gz, gs] at c0 c1
 clear hb2 HVL HS1 HK1 HR1 HB1 hN hw1
 go_upto_region 2 with (fail)
 refine wp_region_held_drew (S := fun W => W.cell? ⟨N, 0, none⟩ = some (.int .i64 mo.kd) ∧ W.cell? ⟨N, 1, none⟩ = some (.int .i64 mo.tn) ∧ W.cell? ⟨N, 2, none⟩ = some (.int .i64 mo.sq) ∧ W.cell? ⟨ba, 0, none⟩ = some (.int .i64 tn) ∧ W.cell? ⟨ba, 1, none⟩ = some (.slice oL n cL)) (by kernel_rfl) ?_ (fun hHeld => ?_)
 ·exact ⟨d0, d1, d2, c0, c1⟩
 refine tk 0 (some 8) ?_;refine tk 1 (some 9) ?_;refine tk 2 (some 10) ?_;refine tk 3 (some 11) ?_;refine tk 4 (some 12) ?_
 refine tk 5 (some 13) (v := .bool false) ?_ (hy := by (intro w hSw; (try dsimp only at hSw); go_simp; (first | done | (with_reducible rfl) | exact g1 | simpa using g1)))
 refine tk 6 (some 14) ?_;refine tk 7 (some 15) ?_;refine tk 8 (some 16) ?_;refine tk 9 (some 17) ?_;refine tk 10 (some 18) ?_;refine tk 11 (some 19) ?_;refine tk 12 (some 20) ?_;refine tk 13 (some 21) ?_
 refine tk 14 (some 22) (v := .bool false) ?_ (hy := by (intro w hSw; (try dsimp only at hSw); go_simp; (first | done | (with_reducible rfl) | exact g2 | simpa using g2)))
 refine tk 15 (some 23) ?_;refine tk 16 (some 24) ?_;refine tk 17 (some 25) ?_;refine tk 18 (some 26) ?_;refine tk 19 (some 27) ?_;refine tk 20 (some 28) ?_;refine tk 21 (some 29) ?_;refine tk 22 (some 30) ?_;refine tk 23 (some 31) ?_
 refine tk 24 (some 32) (v := .bool false) ?_ (hy := by (intro w hSw; (try dsimp only at hSw); go_simp; (first | done | (with_reducible rfl) | exact g3 | simpa using g3)))
 refine tk 25 (some 33) ?_;refine wpAnyH_done (by kernel_rfl) ?_ _;clear hHeld
 have HK3 := Lib.hid (HK2.out.drew)
 have HS3 := Lib.hid (HS2.out.below (Below.refl _ _).drew)
 have HB3 : Hid (Below N W w2.drew) := HB2.out.drew
 clear HK2 HS2 HB2 d0 d1 d2 c0 c1;generalize w2.drew = w3 at HK3 HS3 HB3 ⊢
 have d2 : w3.cell? ⟨N, 2, none⟩ = some (.int .i64 mo.sq) := HK3.out.cell 2
 have c2 := HS3.out.blk.cell 2
 simp only [gz, gs] at c2
 go_upto_region 3 with (fail)
 refine wp_region_held_drew (S := fun W => W.cell? ⟨N, 2, none⟩ = some (.int .i64 mo.sq) ∧ W.cell? ⟨ba, 2, none⟩ = some (.int .i64 k)) (by kernel_rfl) ?_ (fun hHeld => ?_)
 ·exact ⟨d2, c2⟩
 refine tk 0 (some 34) ?_;refine tk 1 (some 35) ?_;refine tk 2 (some 36) ?_;refine tk 3 (some 37) ?_;refine tk 4 (some 38) ?_;refine tk 5 (some 39) ?_
 refine tk 6 (some 40) (v := .bool true) ?_ (hy := by (intro w hSw; (try dsimp only at hSw); go_simp; (first | done | (with_reducible rfl) | exact (decide_eq_true (show mo.sq < (k : Int) by have := HMS.out; omega)) | simpa using (decide_eq_true (show mo.sq < (k : Int) by have := HMS.out; omega)))))
 refine wpAnyH_done (by kernel_rfl) ?_ _;clear hHeld
 have HK4 := Lib.hid (HK3.out.drew)
 have HS4 := Lib.hid (HS3.out.below (Below.refl _ _).drew)
 have HB4 : Hid (Below N W w3.drew) := HB3.out.drew
 clear HK3 HS3 HB3 d2 c2;generalize w3.drew = w4 at HK4 HS4 HB4 ⊢
 have d2 : w4.cell? ⟨N, 2, none⟩ = some (.int .i64 sq) := by rw [← HMS.out]; exact HK4.out.cell 2
 go_wp2_with fail
 clear d2
 have HF4 : Hid (Fr (fun c => c = gS) W w4) := Fr.under _ (by rw [HN.out]; exact HB4.out)
 have hgN : gS ≠ N := fun e => by have := HLT.out gS (.inr (.inr rfl)); omega
 have HS5 : Hid (SaG w4 ba tn (.slice oL n cL) (.slice (some ⟨gS, 0, none⟩) n cS) (R.map pOf) k ((clrG R sq sq).map tOf)) := (by rw [clrG_start]; exact HS4.out : SaG w4 ba tn (.slice oL n cL) (.slice (some ⟨gS, 0, none⟩) n cS) (R.map pOf) k ((clrG R sq sq).map tOf))
 go_loopw [5] (fun vi wr => ∃ i, sq ≤ i ∧ i ≤ n ∧ vi = .int .i64 i ∧ Hid (SaG wr ba tn (.slice oL n cL) (.slice (some ⟨gS, 0, none⟩) n cS) (R.map pOf) k ((clrG R sq i).map tOf)) ∧ Hid (Blk wr N 32 mo.l) ∧ Hid (Fr (fun c => c = gS) W wr)) (fun v _ => n - (intOf v).toNat)
 case atStart => exact ⟨sq, Nat.le_refl _, hsq, rfl, HS5, HK4, HF4⟩
 case round =>
  clear HS4 HS5 HK4 HF4
  obtain ⟨i, hi1, hi2, rfl, HS, HMK, HFR⟩ := hrel
  have c1 := HS.out.blk.cell 1
  have c3 := HS.out.blk.cell 3
  simp only [gz, gs] at c1 c3
  by_cases h : i < n
  ·have q1 : (i : Int) < (n : Int) := by omega
   have q2 : (0 : Int) ≤ (i : Int) := by omega
   have hni : IntKind.i64.wrap ((i : Int) + 1) = (i : Int) + 1 := IntWalk.i64_in _ (by omega)
   obtain ⟨q, hq⟩ : ∃ q, R[i]? = some q := ⟨R[i]'(by rw [HLN.out]; exact h), List.getElem?_eq_getElem _⟩
   obtain ⟨gS', e1, -, x1, z1⟩ := HS.out.tAt (tOf q) (by rw [List.getElem?_map, clrG_at, hq]; rfl)
   cases e1
   have HSU := Lib.hid (clrG_t R sq i q hi1 hq)
   clear hq
   go_wp2_with fail
   go_roundw
   case rel => exact ⟨i + 1, by omega, by omega, by go_num, by rw [HSU.out]; exact HS.out.setT i (-1), HMK.out.other ⟨gS, i, none⟩ (show gS ≠ N from hgN) _, HFR.out.setCell ⟨gS, i, none⟩ _ (.inl rfl)⟩
   case measure => simp [intOf]; omega
  ·have e : i = n := by omega
   subst e
   have q1 : ¬ (i : Int) < (i : Int) := by omega
   clear h c3
   have c2 := HS.out.blk.cell 2
   have z2 := HS.out.blk.frozen 2
   simp only [gz, gs] at c2
   have d2 : wr.cell? ⟨N, 2, none⟩ = some (.int .i64 sq) := by rw [← HMS.out]; exact HMK.out.cell 2
   go_wp2_with fail
   try rw [Exit.noGoto_ret]
   first | (refine bodyPost_ret (results_none rfl _ _ _) rfl ?_) | (refine bodyPost_end (results_none rfl _ _ _) rfl ?_)
   exact ⟨⟨_, rfl⟩, by rw [clrG_p]; exact HS.out.ack sq, (HFR.out.mono (fun c e => Or.inr (by rw [e]; rfl))).setCell ⟨ba, 2, none⟩ _ (.inl (.inl rfl))⟩
end Go.Proofs.YtjkiidhnmljmbaaGreatDoor
