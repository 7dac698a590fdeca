/-
  The law OrdersCodeMatchesReference: the walk.
-/
import Derived.Test.YtjkiidhnmljmbaaGreatDoorOrXz
import Derived.Test.YtjkiidhnmljmbaaGreatDoorLits
import Derived.Test.YtjkiidhnmljmbaaGreatDoorGpAB
import Derived.Test.YtjkiidhnmljmbaaGreatDoorGpM
import Derived.Test.YtjkiidhnmljmbaaGreatDoorRkEI
import Derived.Test.YtjkiidhnmljmbaaGreatDoorRkJ
set_option linter.unusedVariables false
set_option linter.unusedSimpArgs false
namespace Go.Proofs.YtjkiidhnmljmbaaGreatDoor
open Go.RowKit Onair
theorem store_msgK (m : MOd) (q : GOd) : setsL m.l 5 q.l = ({ m with o := q } : MOd).l := by kernel_rfl
/-- What the reading of a message leaves: the message, its alternatives, the error. -/
def decM : OutM → MOd
  | .ok m _ => m
  | _ => zeroM
def decA : OutM → List (Int × Int)
  | .ok _ al => al
  | _ => []
def decC : OutM → Int
  | .short => 10
  | .mean => 200
  | .ok _ _ => 0
theorem decM_len (l : List UInt8) : (decA (msgR l)).length = (decM (msgR l)).o.an ∧ (decM (msgR l)).o.an ≤ 1000000 := by
  cases h : msgR l with
  | short => exact ⟨rfl, Nat.zero_le _⟩
  | mean => exact ⟨rfl, Nat.zero_le _⟩
  | ok m al =>
    obtain ⟨_, _, h3, _, _, _, h7⟩ := msgR_back h
    exact ⟨h3.symm, by show m.o.an ≤ 1000000; omega⟩
theorem decM_post {W : World} {R : OutM} {e : Ending} {w' : World} (h : MDecPost W R e w') : ∃ oa ac, e = .returned (.tuple #[.agg ((decM R).withA oa ac).l.toArray, .int .i64 (decC R)]) ∧ RdA w' oa (decA R) ∧ Below W.heap.size W w' := by
  obtain ⟨hb, h⟩ := h
  cases R with
  | short => exact ⟨none, 0, h, .inl rfl, hb⟩
  | mean => exact ⟨none, 0, h, .inl rfl, hb⟩
  | ok m al =>
    obtain ⟨oa, ac, h1, h2, _⟩ := h
    exact ⟨oa, ac, h1, h2, hb⟩
theorem min_cutK (s : ByteArray) (k : Nat) : ∃ (m : Nat) (T : ByteArray), m ≤ s.size ∧ T.size ≤ k ∧ min (s.size : Int) (k : Int) = (m : Int) ∧ (if (k : Int) < (s.size : Int) then (k : Int) else (s.size : Int)) = (m : Int) ∧ s.extract 0 m = T := by
  refine ⟨min s.size k, s.extract 0 (min s.size k), Nat.min_le_left _ _, ?_, ?_, ?_, rfl⟩
  · rw [ByteArray.size_extract]
    omega
  · omega
  · split <;> omega
set_option maxHeartbeats 16000000 in
set_option maxRecDepth 100000 in
theorem walkCode (W : World) (m : MOd) (al : List (Int × Int)) (s : ByteArray) (hs : s.size ≤ maxLen) (hmn : al.length = m.o.an) (hmc : m.o.an ≤ m.o.ac) (hmm : m.o.ac ≤ maxLen) (hmr : RdA W m.o.ao al) (hmt : m.o.txt.size ≤ maxLen) (hse : ∃ es em er eb, Sent W es em er eb) :
    Calls Tryz.prog 3 #[.agg m.l.toArray, .string s] W fun e w' => e = .returned (.bool true) ∧ Below W.heap.size W w' := by
  obtain ⟨es, em, er, eb, hse⟩ := hse
  obtain ⟨cn, T, m1, m6, m4, m5, m7⟩ := min_cutK s 500
  have HT : Hid (T.size ≤ maxLen) := (by unfold maxLen; omega : T.size ≤ maxLen)
  have m4' : min (s.size : Int) 500 = (cn : Int) := m4
  have m5' : (if (500 : Int) < (s.size : Int) then (500 : Int) else (s.size : Int)) = (cn : Int) := m5
  have p1 : (0 : Int) ≤ (cn : Int) := by omega
  have p2 : (cn : Int) ≤ (s.size : Int) := by omega
  obtain ⟨N, hN⟩ : ∃ N, W.heap.size = N := ⟨_, rfl⟩
  obtain ⟨w1, hw1⟩ : ∃ w1, W.alloc (.cells (aM m) 32) = w1 := ⟨_, rfl⟩
  have hb1 : Below N W w1 := by rw [← hw1, ← hN]; exact (Below.refl _ W).alloc (Nat.le_refl _) _
  have hk1 : Blk w1 N 32 m.l := by rw [← hw1, ← hN]; exact Blk.new W _ m.l
  have HSA := Lib.hid (sane_any es em er eb w1 (hse.below (hN ▸ hb1)))
  have HSE : Hid (∀ w', Below N W w' → Sent w' es em er eb) := fun w' h => hse.below (hN ▸ h)
  have HCM := Lib.hid (fun W' => gCut m.o W' hmc hmm hmt)
  have HSZ := Lib.hid (show (Tryz.prog.info? 30).map (·.size) = some 26 from by kernel_rfl)
  have HSG := Lib.hid (show (Tryz.prog.info? 32).map (·.size) = some 31 from by kernel_rfl)
  have HN := Lib.hid hN
  have HB := Lib.hid hb1
  obtain ⟨m2, hm2⟩ : ∃ m2, ({ m with o := m.o.cutO } : MOd) = m2 := ⟨_, rfl⟩
  obtain ⟨al1, hal1⟩ : ∃ al1, al.take 9 = al1 := ⟨_, rfl⟩
  have hma := cut_alts hmn hmr
  have hmf := cut_facts m.o
  have hmo : m.o.cutO = m2.o := by rw [← hm2]
  rw [hal1, hmo] at hma
  rw [hmo] at hmf HCM
  have HM1 : Hid (setsL m.l 5 m2.o.l = m2.l) := (by rw [← hmo, store_msgK, ← hm2] : setsL m.l 5 m2.o.l = m2.l)
  have HOM : Hid (m2.o.l.toArray.all (·.oneCell') = true) := m2.o.oneC
  have HA1 : Hid (al1.length = m2.o.an) := hma.1
  have HR1 : Hid (∀ w', Below N W w' → RdA w' m2.o.ao al1) := fun w' h => hma.2.kept (hN ▸ h)
  have HT1 : Hid (m2.o.txt.size ≤ 300) := hmf.2.2.1
  have HX1 : Hid (m2.o.an ≤ 9) := hmf.1
  have HK1 := Lib.hid hk1
  show Calls Tryz.prog 3 #[.agg (aM m), .string s] W _
  clear hb1 hk1 hse hmn hmc hmm hmr hmt hm2 hal1 hma hmf hmo m4 m5 m6 hs
  go_enter Tryz.func3, Tryz.ntmps3
  go_wp2_with fail
  refine HSA.out.mono ?_
  rintro e w2 ⟨rfl, hb2⟩
  have HK := Lib.hid (HK1.out.kept (hb2.block _ HK1.out.lt))
  have HQ : Hid (Below N W w2) := HB.out.trans (hb2.mono (bnl9 HN.out HB.out))
  clear hb2 hw1 hN HSA HK1 HB
  go_wp2_with (refine wpList_load_mid rfl 30 (.tmp 16) rfl N 5 rfl m.o.l _ (HK.out.rangeO 5 rfl) Tryz.underlying30 rfl HSZ.out ?_)
  refine (HCM.out _).mono ?_
  rintro e w3 ⟨rfl, hb3⟩
  have HK := Lib.hid (HK.out.kept (hb3.block _ HK.out.lt))
  have HQ : Hid (Below N W w3) := HQ.out.trans (hb3.mono (bnl9 HN.out HQ.out))
  clear hb3 HCM
  go_upto_region 3 with (refine wpList_store_mid rfl 30 (.tmp 19) (.tmp 18) rfl N 5 m2.o.l.toArray rfl rfl (HK.out.there 5 26 (Nat.le_refl 31)) HSZ.out HOM.out ?_)
  have hks := Blk.sets m2.o.l 5 HK.out
  rw [HM1.out] at hks
  have HK := Lib.hid hks
  have HQ := Lib.hid (below_setCells HQ.out (bnl9 HN.out HQ.out) N 5 m2.o.l (by omega))
  clear hks HOM HM1
  generalize World.setCells _ _ _ _ = w4 at HK HQ ⊢
  obtain ⟨A, ec, hE1, hE2⟩ : ∃ (A : ByteArray) (ec : Int), Hid (∀ w', Below N W w' → Calls Tryz.prog 8 #[.agg m2.l.toArray] w' fun e w'' => e = .returned (.tuple #[.string A, .int .i64 ec]) ∧ Below w'.heap.size w' w'') ∧ Hid (∀ w', Below N W w' → Calls Tryz.prog 9 #[.agg m2.l.toArray] w' fun e w'' => e = .returned (.tuple #[.string A, .int .i64 ec]) ∧ Below w'.heap.size w' w'') := by
    have h1 : m2.o.an ≤ 1000000 := by have := HX1.out; omega
    have h2 : m2.o.an ≤ 100 := by have := HX1.out; omega
    have h3 : m2.o.txt.size ≤ maxLen := by have := HT1.out; unfold maxLen; omega
    have h4 : m2.o.txt.size ≤ 65536 := by have := HT1.out; omega
    cases hok : okM m2 al1 with
    | false => exact ⟨⟨#[]⟩, 200, fun w' hb => gOEnc_no m2 al1 w' hok HA1.out h1 (HR1.out _ hb) h3, fun w' hb => ref20Enc_no m2 al1 w' HA1.out h2 (HR1.out _ hb) h4 hok⟩
    | true => exact ⟨⟨(encM m2 al1).toArray⟩, 0, fun w' hb => gOEnc_ok m2 al1 w' hok HA1.out h1 (HR1.out _ hb) h3, fun w' hb => ref20Enc_ok m2 al1 w' HA1.out h2 (HR1.out _ hb) h4 hok⟩
  go_wp2_with (refine wpList_load_mid rfl 32 (.tmp 2) rfl N 0 rfl m2.l _ HK.out.range Tryz.underlying32 rfl HSG.out ?_)
  refine (hE1.out _ HQ.out).mono ?_
  rintro e w5 ⟨rfl, hb5⟩
  have HK := Lib.hid (HK.out.kept (hb5.block _ HK.out.lt))
  have HQ : Hid (Below N W w5) := HQ.out.trans (hb5.mono (bnl9 HN.out HQ.out))
  clear hb5 hE1 m4' m5' p1 p2 m1 m7
  go_wp2_with (refine wpList_load_mid rfl 32 (.tmp 2) rfl N 0 rfl m2.l _ HK.out.range Tryz.underlying32 rfl HSG.out ?_)
  refine (hE2.out _ HQ.out).mono ?_
  rintro e w6 ⟨rfl, hb6⟩
  have HQ : Hid (Below N W w6) := HQ.out.trans (hb6.mono (bnl9 HN.out HQ.out))
  clear hb6 hE2 HK
  obtain ⟨R, hR⟩ : ∃ R, msgR T.data.toList = R := ⟨_, rfl⟩
  have hdl := decM_len T.data.toList
  have HD1 := Lib.hid (gODec T w6 es em er eb HT.out (HSE.out _ HQ.out))
  have HD2 := Lib.hid (fun w => ref20Dec T w HT.out)
  rw [hR] at HD1 HD2 hdl
  obtain ⟨X, hX⟩ : ∃ X, decM R = X := ⟨_, rfl⟩
  obtain ⟨xa, hxa⟩ : ∃ xa, decA R = xa := ⟨_, rfl⟩
  obtain ⟨xc, hxc⟩ : ∃ xc, decC R = xc := ⟨_, rfl⟩
  rw [hX, hxa] at hdl
  have HDL := Lib.hid hdl
  have HXX := Lib.hid hX
  have HXA := Lib.hid hxa
  have HXC := Lib.hid hxc
  clear hR hdl hX hxa hxc
  go_wp2_with fail
  refine HD1.out.mono ?_
  rintro e w7 hp
  obtain ⟨oa, ac, rfl, hra, hb7⟩ := decM_post hp
  rw [HXX.out, HXC.out]
  rw [HXA.out] at hra
  have HQ7 : Hid (Below N W w7) := HQ.out.trans (hb7.mono (bnl9 HN.out HQ.out))
  clear hp hb7 HD1
  obtain ⟨L1, hL⟩ : ∃ L1, w7.heap.size = L1 := ⟨_, rfl⟩
  obtain ⟨w8, hwb⟩ : ∃ w8, w7.alloc (.cells zMa 32) = w8 := ⟨_, rfl⟩
  obtain ⟨w9, hwc⟩ : ∃ w9, w8.setRow L1 (X.withA oa ac).l.toArray = w9 := ⟨_, rfl⟩
  have hbl : Below w7.heap.size w7 w9 := by rw [← hwc, ← hwb, ← hL]; exact below_setRow ((Below.refl _ w7).alloc (Nat.le_refl _) _) (Nat.le_refl _) _
  have HKB : Hid (Blk w8 L1 32 zMl) := (by rw [← hwb, ← hL]; exact Blk.new w7 _ zMl : Blk w8 L1 32 zMl)
  have HKL1 : Hid (Blk w9 L1 32 (X.withA oa ac).l) := (by rw [← hwc]; exact HKB.out.setRow (X.withA oa ac).l : Blk w9 L1 32 (X.withA oa ac).l)
  have HWC := Lib.hid hwc
  have HOC : Hid ((X.withA oa ac).l.toArray.all (·.oneCell') = true) := (X.withA oa ac).oneC
  have HOZ : Hid (zMa.size = (X.withA oa ac).l.toArray.size) := rfl
  clear hwc
  go_upto_region 7 with (refine wpList_store_row rfl 32 (.tmp 10) (.tmp 38) rfl L1 (X.withA oa ac).l.toArray rfl rfl 32 _ HKB.out HSG.out HOZ.out HOC.out ?_; rw [HWC.out])
  clear hL hwb HWC HKB
  have HRA := Lib.hid (hra.kept hbl)
  have HQ : Hid (Below N W w9) := HQ7.out.trans (hbl.mono (bnl9 HN.out HQ7.out))
  clear hra hbl
  go_wp2_with fail
  refine (HD2.out _).mono ?_
  rintro e x7 hp
  obtain ⟨ob, bc, rfl, hrb, hb7⟩ := decM_post hp
  rw [HXX.out, HXC.out]
  rw [HXA.out] at hrb
  have hra := HRA.out.kept hb7
  have HK9 := Lib.hid (HKL1.out.kept (hb7.block _ HKL1.out.lt))
  have HQ7 : Hid (Below N W x7) := HQ.out.trans (hb7.mono (bnl9 HN.out HQ.out))
  clear hp hb7 HD2 HKL1
  obtain ⟨L2, hL⟩ : ∃ L2, x7.heap.size = L2 := ⟨_, rfl⟩
  obtain ⟨x8, hwb⟩ : ∃ x8, x7.alloc (.cells zMa 32) = x8 := ⟨_, rfl⟩
  obtain ⟨x9, hwc⟩ : ∃ x9, x8.setRow L2 (X.withA ob bc).l.toArray = x9 := ⟨_, rfl⟩
  have hbl : Below x7.heap.size x7 x9 := by rw [← hwc, ← hwb, ← hL]; exact below_setRow ((Below.refl _ x7).alloc (Nat.le_refl _) _) (Nat.le_refl _) _
  have HKB : Hid (Blk x8 L2 32 zMl) := (by rw [← hwb, ← hL]; exact Blk.new x7 _ zMl : Blk x8 L2 32 zMl)
  have HKL2 : Hid (Blk x9 L2 32 (X.withA ob bc).l) := (by rw [← hwc]; exact HKB.out.setRow (X.withA ob bc).l : Blk x9 L2 32 (X.withA ob bc).l)
  have HWC := Lib.hid hwc
  have HOC : Hid ((X.withA ob bc).l.toArray.all (·.oneCell') = true) := (X.withA ob bc).oneC
  have HOZ : Hid (zMa.size = (X.withA ob bc).l.toArray.size) := rfl
  clear hwc
  go_upto_region 8 with (refine wpList_store_row rfl 32 (.tmp 12) (.tmp 43) rfl L2 (X.withA ob bc).l.toArray rfl rfl 32 _ HKB.out HSG.out HOZ.out HOC.out ?_; rw [HWC.out])
  clear hL hwb HWC HKB
  have HRA := Lib.hid (hra.kept hbl)
  have HRB := Lib.hid (hrb.kept hbl)
  have HKL1 := Lib.hid (HK9.out.kept (hbl.block _ HK9.out.lt))
  have HQ : Hid (Below N W x9) := HQ7.out.trans (hbl.mono (bnl9 HN.out HQ7.out))
  have HSM := Lib.hid (gSameMsg (X.withA oa ac) (X.withA ob bc) xa xa x9 HDL.out.1 HDL.out.1 HDL.out.2 HDL.out.2 HRA.out HRB.out)
  have HTR : Hid (sameMB (X.withA oa ac) xa (X.withA ob bc) xa = true) := ((sameMB_iff (X.withA oa ac) (X.withA ob bc) xa xa HDL.out.1 HDL.out.1).2 ⟨rfl, rfl⟩ : sameMB (X.withA oa ac) xa (X.withA ob bc) xa = true)
  clear hra hrb hbl HK9
  go_wp2_with (first | (refine wpList_load_mid rfl 32 (.tmp 10) rfl L1 0 rfl (X.withA oa ac).l _ HKL1.out.range Tryz.underlying32 rfl HSG.out ?_) | (refine wpList_load_mid rfl 32 (.tmp 12) rfl L2 0 rfl (X.withA ob bc).l _ HKL2.out.range Tryz.underlying32 rfl HSG.out ?_))
  refine HSM.out.mono ?_
  rintro e z1 ⟨rfl, hbz⟩
  rw [HTR.out]
  have HQ : Hid (Below N W z1) := HQ.out.trans (hbz.mono (bnl9 HN.out HQ.out))
  have r1 : decide (A = A) = true := decide_eq_true rfl
  have r2 : (ec == ec) = true := beq_self_eq_true ec
  have r3 : (xc == xc) = true := beq_self_eq_true xc
  clear hbz
  go_wp2_with fail
  go_ret
  exact ⟨rfl, by rw [HN.out]; exact HQ.out⟩
end Go.Proofs.YtjkiidhnmljmbaaGreatDoor
