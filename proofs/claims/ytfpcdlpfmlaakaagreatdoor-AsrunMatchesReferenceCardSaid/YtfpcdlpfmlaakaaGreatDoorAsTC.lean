/-
  The reference's Chain, Stored, Head, Room.
-/
import Derived.WalkKit
import Derived.LoopTactic
import Derived.WalkSpells
import Derived.WalkLawsBesides
import Derived.RegionTactic
import Derived.BigRegion
import Derived.IntWalk
import Derived.Outline
import Derived.Deep.QuietTactic
import Derived.BigQuiet
import Derived.Lib.Hide
import Derived.Test.YtfpcdlpfmlaakaaGreatDoorAsTA
import Derived.Test.YtfpcdlpfmlaakaaGreatDoorSBC
import Derived.Test.YtfpcdlpfmlaakaaGreatDoorDgN
import Derived.Test.YtfpcdlpfmlaakaaGreatDoorWrR
import Derived.Test.YtfpcdlpfmlaakaaGreatDoorEnVa
import Derived.Test.YtfpcdlpfmlaakaaGreatDoorAsSane
set_option linter.unusedVariables false
set_option linter.unusedSimpArgs false
namespace Go.Proofs.YtfpcdlpfmlaakaaGreatDoor
open Go.RowKit Onair
attribute [local go_sem ↓] Go.wp_at_zero Go.wp_at_succ
theorem chainS_cat (a b : ByteArray) : (⟨#[2]⟩ : ByteArray) ++ a ++ b = chainS a b := by
  apply ByteArray.ext
  simp [chainS]
set_option maxHeartbeats 1000000 in
theorem refChain_any (a b : ByteArray) (w : World) (ha : a.size ≤ 100000) (hb : b.size ≤ 100000) :
    Calls Tryz.prog 66 #[.string a, .string b] w fun e w' => e = .returned (.string (chainB a b)) ∧ Below w.heap.size w w' := by
  have hls := chainS_cat a b
  have hlz := chainS_size a b
  have HH := Lib.hid (refSum_any (chainS a b) w (by omega))
  have HV : Hid (chainB a b = shaB (chainS a b)) := rfl
  generalize chainS a b = T at hls hlz HH HV
  go_enter Tryz.func66, Tryz.ntmps66
  go_wp2_with fail
  refine HH.out.mono ?_
  rintro e w2 ⟨rfl, hb2⟩
  have HB2 := Lib.hid hb2
  clear hb2
  go_wp2_with fail
  go_ret
  exact ⟨by rw [HV.out]; rfl, HB2.out⟩
theorem stored_cat (head E P C : ByteArray) (r : Rec) (hE : E = encB r) (hP : P = ⟨(putSL E.data.toList).toArray⟩) (hC : C = chainB head E) : (⟨#[1]⟩ : ByteArray) ++ P ++ C = ⟨(storedL head r).toArray⟩ := by
  subst hE hP hC
  apply ByteArray.ext
  simp [storedL, encB_data]
set_option maxHeartbeats 2000000 in
theorem refStored_any (head : ByteArray) (r : Rec) (w : World) (hh : head.size ≤ 40) :
    Calls Tryz.prog 53 #[.string head, .agg (recA r)] w fun e w' => e = .returned (.tuple #[.string ⟨(storedL head r).toArray⟩, .string (chainB head (encB r))]) ∧ Below w.heap.size w w' := by
  obtain ⟨N, hN⟩ : ∃ N, w.heap.size = N := ⟨_, rfl⟩
  have HNN := Lib.hid hN
  have hes := encB_size r
  have hsl := encSL_len r
  have HE := Lib.hid (fun W => refEncoded_any r W)
  obtain ⟨E, hE⟩ : ∃ E, encB r = E := ⟨_, rfl⟩
  have hEd : encL r = E.data.toList := by rw [← hE, encB_data]
  rw [hE] at hes HE
  rw [hEd] at hsl
  have HC := Lib.hid (fun W => refChain_any head E W (by omega) (by omega))
  have HP := Lib.hid (fun W => refPutString_any E W (by unfold maxLen; omega))
  obtain ⟨C, hC⟩ : ∃ C, chainB head E = C := ⟨_, rfl⟩
  have hcs := chainB_size head E
  rw [hC] at HC hcs
  obtain ⟨P, hP⟩ : ∃ P : ByteArray, (⟨(putSL E.data.toList).toArray⟩ : ByteArray) = P := ⟨_, rfl⟩
  have hps : P.size ≤ 63 := by
    rw [← hP]
    show (putSL E.data.toList).toArray.size ≤ 63
    rw [List.size_toArray]
    exact hsl.1
  rw [hP] at HP
  generalize Onair.putSE E.data.toList = pe at HP
  have HT := Lib.hid (stored_cat head E P C r hE.symm hP.symm hC.symm)
  have HC2 : Hid (chainB head (encB r) = C) := (show _ = _ from by rw [hE]; exact hC)
  have hm1 : ¬ (1 + P.size > 9223372036854775807) := by omega
  have hm2 : ¬ (9223372036854775807 < 1 + P.size) := by omega
  have hm3 : ¬ (1 + P.size + C.size > 9223372036854775807) := by omega
  have hm4 : ¬ (9223372036854775807 < 1 + P.size + C.size) := by omega
  have hz : ((⟨#[1]⟩ : ByteArray) ++ P).size = 1 + P.size := by rw [ByteArray.size_append]; rfl
  obtain ⟨r0, r1, r2, r3, r4, r5⟩ := r
  dsimp only [recA] at HE ⊢
  clear hE hEd hsl hC hP hes hcs hps hN
  go_enter Tryz.func53, Tryz.ntmps53
  go_upto_region 1 with (fail)
  rw [HNN.out]
  refine gen_world (fun W9 => Below N w W9 ∧ Blk W9 N 62 [.int .i64 r0, .int .i64 r1, .int .i64 r2, .int .i64 r3, .int .i64 r4, .int .i64 r5]) ⟨?_, ?_⟩ ?_
  · have := (Below.refl w.heap.size w).alloc (Nat.le_refl _) (.cells #[.int .i64 r0, .int .i64 r1, .int .i64 r2, .int .i64 r3, .int .i64 r4, .int .i64 r5] 62)
    rw [HNN.out] at this
    exact this
  · have := Blk.new w 62 [.int .i64 r0, .int .i64 r1, .int .i64 r2, .int .i64 r3, .int .i64 r4, .int .i64 r5]
    rw [HNN.out] at this
    exact this
  rintro w1 ⟨hb1, hk1⟩
  have HB1 := Lib.hid hb1
  have HK1 := Lib.hid hk1
  have c0 := hk1.cell 0
  have c1 := hk1.cell 1
  have c2 := hk1.cell 2
  have c3 := hk1.cell 3
  have c4 := hk1.cell 4
  have c5 := hk1.cell 5
  simp only [List.getElem?_cons_zero, List.getElem?_cons_succ] at c0 c1 c2 c3 c4 c5
  clear hb1 hk1
  go_wp2_with fail
  refine (HE.out _).mono ?_
  rintro e w2 ⟨rfl, hb2⟩
  have HB2 : Hid (Below N w w2) := HB1.out.trans (hb2.mono (bnl HNN.out HB1.out))
  have HK2 := Lib.hid (HK1.out.kept (hb2.block N HK1.out.lt))
  clear hb2 HB1 HK1 c0 c1 c2 c3 c4 c5
  go_wp2_with fail
  refine (HC.out _).mono ?_
  rintro e w3 ⟨rfl, hb3⟩
  have HB3 : Hid (Below N w w3) := HB2.out.trans (hb3.mono (bnl HNN.out HB2.out))
  have HK3 := Lib.hid (HK2.out.kept (hb3.block N HK2.out.lt))
  have c0 := HK3.out.cell 0
  have c1 := HK3.out.cell 1
  have c2 := HK3.out.cell 2
  have c3 := HK3.out.cell 3
  have c4 := HK3.out.cell 4
  have c5 := HK3.out.cell 5
  simp only [List.getElem?_cons_zero, List.getElem?_cons_succ] at c0 c1 c2 c3 c4 c5
  clear hb3 HB2 HK2
  go_wp2_with fail
  refine (HE.out _).mono ?_
  rintro e w4 ⟨rfl, hb4⟩
  have HB4 : Hid (Below N w w4) := HB3.out.trans (hb4.mono (bnl HNN.out HB3.out))
  clear hb4 HB3 HK3 c0 c1 c2 c3 c4 c5
  go_wp2_with fail
  refine (HP.out _).mono ?_
  rintro e w5 ⟨rfl, hb5⟩
  have HB5 : Hid (Below N w w5) := HB4.out.trans (hb5.mono (bnl HNN.out HB4.out))
  clear hb5 HB4
  go_wp2_with fail
  go_ret2
  exact ⟨by rw [HC2.out, ← HT.out]; rfl, by rw [HNN.out]; exact HB5.out⟩
theorem headR_take (l : List Rec) (k : Nat) (r : Rec) (h : l[k]? = some r) : headR (l.take (k + 1)) = chainB (headR (l.take k)) (encB r) := by
  unfold headR
  rw [List.take_add_one, h]
  exact headF_snoc _ _ _
set_option maxHeartbeats 4000000 in
set_option maxRecDepth 100000 in
theorem refHead_any (l : List Rec) (oa : Option Addr) (n c : Nat) (w : World) (hn : l.length = n) (hb : n ≤ 1000000) (hr : RdR w oa l) :
    Calls Tryz.prog 25 #[.slice oa n c] w fun e w' => e = .returned (.string (headR l)) ∧ Below w.heap.size w w' := by
  obtain ⟨N, hN⟩ : ∃ N, w.heap.size = N := ⟨_, rfl⟩
  have HN := Lib.hid hN
  have HR : Hid (∀ W, Below N w W → RdR W oa l) := fun W hW => hr.kept (by rw [hN]; exact hW)
  have HL := Lib.hid hn
  obtain ⟨O, hmk, hcv⟩ := mk_zero
  have hcv' := hcv w
  rw [hN] at hcv'
  have hmk' := hmk w
  rw [hN] at hmk'
  have HB0 : Hid (Below N w (w.alloc O)) := (show Below N w (w.alloc O) from by rw [← hN]; exact (Below.refl _ w).alloc (Nat.le_refl _) _)
  have hz32 := zero32_size
  have HH0 : Hid (headR (l.take 0) = zero32) := (show _ = _ from by rw [List.take_zero]; rfl)
  generalize zero32 = Z at hcv' hz32 HH0
  clear hr hn hmk hcv
  go_enter Tryz.func25, Tryz.ntmps25
  go_upto_region 1 with (fail)
  go_wp2_with fail
  generalize w.alloc O = w1 at hmk' hcv' HB0 ⊢
  go_loopw [3, 4] (fun hv iv wr => ∃ (k : Nat) (hd : ByteArray), k ≤ n ∧ iv = .int .i64 k ∧ hv = .string hd ∧ hd.size = 32 ∧ Hid (headR (l.take k) = hd) ∧ Hid (Below N w wr)) (fun _ i _ => n - (intOf i).toNat)
  case atStart => exact ⟨0, Z, Nat.zero_le _, rfl, rfl, hz32, HH0, HB0⟩
  case round =>
    clear HB0 HH0 hmk' hcv' hz32 hN
    obtain ⟨k, hd, hk, rfl, rfl, hz, HH, HB⟩ := hrel
    by_cases h : k < n
    · have q1 : (k : Int) < (n : Int) := by omega
      have q2 : (0 : Int) ≤ (k : Int) := by omega
      obtain ⟨r, hr⟩ : ∃ r, l[k]? = some r := ⟨l[k]'(by rw [HL.out]; exact h), List.getElem?_eq_getElem _⟩
      obtain ⟨ba, xa, rfl, hba, a0, a1, a2, a3, a4, a5⟩ := (HR.out wr HB.out).at k r hr
      have HE := Lib.hid (fun W => refEncoded_any r W)
      have hes := encB_size r
      have HT := Lib.hid (headR_take l k r hr)
      obtain ⟨E, hE⟩ : ∃ E, encB r = E := ⟨_, rfl⟩
      rw [hE] at HE hes HT
      have HC := Lib.hid (fun W => refChain_any hd E W (by omega) (by omega))
      rw [HH.out] at HT
      obtain ⟨C, hC⟩ : ∃ C, chainB hd E = C := ⟨_, rfl⟩
      have hcs := chainB_size hd E
      rw [hC] at HC hcs HT
      clear hE hC hr h HH hes
      obtain ⟨r0, r1, r2, r3, r4, r5⟩ := r
      dsimp only [recA] at HE a0 a1 a2 a3 a4 a5
      go_wp2_with fail
      refine (HE.out _).mono ?_
      rintro e w2 ⟨rfl, hb2⟩
      have HB2 : Hid (Below N w w2) := HB.out.trans (hb2.mono (bnl HN.out HB.out))
      clear hb2 HB HE a0 a1 a2 a3 a4 a5
      go_wp2_with fail
      refine (HC.out _).mono ?_
      rintro e w3 ⟨rfl, hb3⟩
      have HB3 : Hid (Below N w w3) := HB2.out.trans (hb3.mono (bnl HN.out HB2.out))
      clear hb3 HB2 HC
      go_wp2_with fail
      go_roundw
      case rel => exact ⟨k + 1, C, by omega, by go_num, rfl, hcs, HT, HB3⟩
      case measure => simp [intOf]; omega
    · have hkn : k = n := by omega
      have HE : Hid (headR l = hd) := (show _ = _ from by
        have := HH.out
        rwa [hkn, List.take_of_length_le (by rw [HL.out]; exact Nat.le_refl _)] at this)
      have q1 : ¬ (k : Int) < (n : Int) := by omega
      clear h hkn HH
      go_wp2_with fail
      go_ret
      exact ⟨by rw [HE.out]; rfl, by rw [HN.out]; exact HB.out⟩
set_option maxRecDepth 100000 in
theorem refRoom_any (W : World) (N b bl : Nat) (F : Nat → Prop) (vr : Value) (D : DS) (R : List Rec) (br : Bool) (n i : Nat) (hi : Inv D n i) (hE : endN R ≤ 4611686018427387903) (h : RDX W N b F D) (hl : LkAt W N bl b vr R br) :
    Calls Tryz.prog 19 #[.pointer (some ⟨bl, 0, none⟩)] W fun e w' => e = .returned (.int .i64 ((n : Int) - (endN R : Nat))) ∧ ∃ k, w' = W.drewN k := by
  obtain ⟨h0, gs, cs, rest, vl, h1, h2⟩ := h
  have hm := h1.max
  have c0 := hl.blk.cell 0
  have c2 := hl.blk.cell 2
  have d0 := h1.blk.cell 0
  simp only [List.getElem?_cons_zero, List.getElem?_cons_succ] at c0 c2 d0
  have hln := hi.lend
  rw [hln] at d0 hm
  generalize endN R = E at hE c2 ⊢
  have q := IntWalk.i64_in ((n : Int) - (E : Int)) (by omega)
  have q2 : wrap64 ((n : Int) - (E : Int)) = (n : Int) - (E : Int) := (IntWalk.i64_left _).symm.trans q
  clear h1 h2 hl hi h0 hln
  go_enter Tryz.func19, Tryz.ntmps19
  go_wp2_with fail
  go_quiet (fail)
  all_goals
    go_wp2_with fail
    go_ret
    exact ⟨rfl, _, rfl⟩
end Go.Proofs.YtfpcdlpfmlaakaaGreatDoor
