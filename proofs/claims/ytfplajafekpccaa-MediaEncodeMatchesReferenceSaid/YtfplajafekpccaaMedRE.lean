/-
  The walk of the reference implementation of package media: Encode.
-/
import Derived.WalkKit
import Derived.LoopTactic
import Derived.WalkSpells
import Derived.WalkLawsBesides
import Derived.RegionTactic
import Derived.BigRegion
import Derived.Deep.QuietTactic
import Derived.Deep.RegionHeld3
import Derived.BigQuiet
import Derived.IntWalk
import Derived.Outline
import Derived.Test.YtfplajafekpccaaMedRA
import Derived.Test.YtfplajafekpccaaOB
import Derived.Test.YtfplajafekpccaaWireRefS
set_option linter.unusedVariables false
set_option linter.unusedSimpArgs false
namespace Go.Proofs.Ytfplajafekpccaa
open Go.RowKit Onair
/-- 'append(b, s...)' of a string whose run is known. -/
theorem wpList_append_str {P : Program} (w : World) {ops : Array Oper} {rest : List Oper} {o : Oper} {a : Act} {Q : Exit → Act → World → Prop}
    (hg : o.guard = none) (s x : Operand) (t u : TypeId) (hop : o.op = Op.call { callee := Callee.builtin Builtin.append, args := #[s, x], argTypes := #[t, u] })
    (v y v' : Value) (w' : World) (hs : a.eval s = v) (hx : a.eval x = y) (hrun : (Builtin.append_ #[t, u] o.type #[v, y]).run P w = .ok v' w') (hK : wpList P ops Q rest (a.put o.dst v') w') : wpList P ops Q (o :: rest) a w := by
  refine wpList_plain hg fun K hK' => ?_
  unfold Oper.wp
  simp [execOp, hop, resolve, invoke, builtin, hs, hx, hrun, Result.andThen]
  exact hK' _ _ hK
theorem putE_ok {n : Int} (h : okInt n = true) : putE n = 0 := by unfold putE; rw [if_pos h]
theorem putSE_ok {l : List UInt8} (h : l.length ≤ 65536) : putSE l = 0 := by unfold putSE; rw [if_neg (by omega)]
set_option maxHeartbeats 4000000 in
set_option maxRecDepth 100000 in
theorem refEncode_any (i : Int) (oa : Option Addr) (cap : Nat) (l : List Pic) (W : World) (hl : l.length ≤ maxLen) (hok : ∀ p ∈ l, POk p) (h : RdP W oa l) :
    Calls Try.prog 25 #[.agg #[.int .i64 i, .slice oa l.length cap]] W fun e w' => e = .returned (.tuple #[.string ⟨(encR i l).toArray⟩, .int .i64 (encE i l)]) ∧ Below W.heap.size W w' := by
  obtain ⟨r, hr0⟩ : ∃ r, W.heap.size = r := ⟨_, rfl⟩
  have H0 := Lib.hid (AM.new W r i oa cap l hr0 h)
  have HR0 := Lib.hid hr0
  have HOK := Lib.hid hok
  have HV := Lib.hid (refValid_any i oa cap l _ hl hok H0.out.rd)
  clear h hok hr0
  unfold maxLen at hl
  obtain ⟨n, hn⟩ : ∃ n, l.length = n := ⟨_, rfl⟩
  rw [hn] at hl H0 HV ⊢
  have HN := Lib.hid hn
  clear hn
  go_enter Try.func25, Try.ntmps25
  go_wp2_with fail
  refine HV.out.mono ?_
  rintro e w2 ⟨rfl, hb2⟩
  have H2 := Lib.hid (H0.out.below hb2)
  rw [HR0.out]
  clear hb2 H0 HV
  have c0 := H2.out.blk.cell 0
  have c1 := H2.out.blk.cell 1
  simp only [List.getElem?_cons_zero, List.getElem?_cons_succ, HN.out] at c0 c1
  cases hv : validA i l
  · have E1 := Lib.hid (encR_no hv)
    have E2 := Lib.hid (encE_no hv)
    clear hv
    go_wp2_with fail
    go_ret2
    rw [E1.out, E2.out]
    exact ⟨rfl, H2.out.bel⟩
  · have E1 := Lib.hid (encR_ok hv)
    have E2 := Lib.hid (encE_ok hv)
    obtain ⟨v1, v2, v3, v4, v5⟩ := validA_parts hv
    rw [HN.out] at v2 v3 v4
    have V5 := Lib.hid v5
    have hln := encA_len hv
    have V2 := Lib.hid v2
    clear hv v5 v2
    have p1 := putE_ok v1
    clear v1
    go_wp2_with fail
    refine (refPut_any i w2).mono ?_
    rw [p1]
    clear p1
    rintro e w3 ⟨rfl, hb3⟩
    have H3 := Lib.hid (H2.out.below hb3)
    clear hb3 H2 c0 c1
    have c1 := H3.out.blk.cell 1
    simp only [List.getElem?_cons_zero, List.getElem?_cons_succ, HN.out] at c1
    have p1 := putE_ok V2.out
    go_wp2_with fail
    refine (refPut_any n w3).mono ?_
    rw [p1]
    clear p1 V2
    rintro e w4 ⟨rfl, hb4⟩
    have H4 := Lib.hid (H3.out.below hb4)
    clear hb4 H3 c1
    have hl1 := putL_len i
    have hl2 := putL_len n
    obtain ⟨T, hT⟩ : ∃ T : ByteArray, (⟨(putL i).toArray⟩ : ByteArray) ++ ⟨(putL n).toArray⟩ = T := ⟨_, rfl⟩
    have hTl : T.data.toList = putL i ++ putL n := by rw [← hT]; simp
    have hTs : T.size ≤ 18 := by rw [← blen, hTl, List.length_append]; omega
    obtain ⟨v, w5, hcv, ho5, hb5⟩ := OB.new w4 T (by unfold maxLen; omega)
    have H5 := Lib.hid (H4.out.below hb5)
    have HTL := Lib.hid hTl
    have HO5 := Lib.hid ho5
    have HB5 := Lib.hid hb5
    clear hb5 ho5 hTl
    go_wp2_with fail
    clear hT hcv
    go_loopw [8, 9] (fun u x wr => ∃ (j : Nat) (X : List UInt8), j ≤ n ∧ x = .int .i64 j ∧ Hid (putL i ++ putL n ++ encPs (l.take j) = X) ∧ Hid (OB w4.heap.size wr u X) ∧ Hid (Below w4.heap.size w4 wr)) (fun _ x _ => n - (intOf x).toNat)
    case atStart => exact ⟨0, T.data.toList, Nat.zero_le _, rfl, by show _ = _; rw [HTL.out]; simp [encPs], HO5, HB5⟩
    case round =>
      clear HO5 HB5 H5 HTL hTs
      obtain ⟨j, X, hj, rfl, HX, HO, HB⟩ := hrel
      obtain ⟨gv, cv, ev⟩ := HO.out.slice
      subst ev
      have H6 := Lib.hid (H4.out.below HB.out)
      have c1 := H6.out.blk.cell 1
      simp only [List.getElem?_cons_zero, List.getElem?_cons_succ, HN.out] at c1
      by_cases hjn : j = n
      · have q1 : ¬ (j : Int) < n := by omega
        have HE : Hid (encA i l = X) := by
          show _ = _
          rw [← HX.out, hjn, ← HN.out, List.take_length]
          rfl
        have hcv := HO.out.back
        clear hjn
        go_wp2_with fail
        go_ret2
        rw [E1.out, E2.out, HE.out]
        exact ⟨rfl, H6.out.bel⟩
      · have q1 : (j : Int) < n := by omega
        have hXl : X.length ≤ 1000000 := by
          rw [← HX.out, List.length_append, List.length_append]
          have h1 := encPs_len (l.take j) (List.all_eq_true.2 fun p hp => List.all_eq_true.1 V5.out p (List.mem_of_mem_take hp))
          rw [List.length_take] at h1
          omega
        obtain ⟨c, hc⟩ : ∃ c, l[j]? = some c := ⟨_, List.getElem?_eq_getElem (by rw [HN.out]; omega)⟩
        obtain ⟨g, off, e', d0, d1, d2⟩ := H6.out.rd.at j c hc
        subst e'
        have hcok := List.all_eq_true.1 V5.out c (List.mem_of_getElem? hc)
        obtain ⟨o1, o2, o3, o4⟩ := okPic_parts hcok
        have hel := encP_len c ((okPic_iff c).1 hcok).1
        have HX2 : Hid (putL i ++ putL n ++ encPs (l.take (j + 1)) = X ++ encP c) := by
          show _ = _
          rw [encPs_snoc l j c hc, ← HX.out]
          simp [List.append_assoc]
        have hsz : c.data.size ≤ 400 := ((okPic_iff c).1 hcok).1
        have P1 := Lib.hid (putE_ok o1)
        have P2 := Lib.hid (putE_ok o2)
        have P3 := Lib.hid (putSE_ok o3)
        clear hc hjn hcok o1 o2 o3 o4
        obtain ⟨ck, cd, cp⟩ := c
        dsimp only at *
        have h7 : Below wr.heap.size wr (wr.alloc (.cells #[.bool ck, .string cd, .int .i64 cp] 42)) := (Below.refl _ wr).alloc (Nat.le_refl _) _
        have HB7 := Lib.hid (HB.out.trans (h7.mono HB.out.size))
        have HO7 := Lib.hid (HO.out.below h7)
        have HK7 : Hid (Blk (wr.alloc (.cells #[.bool ck, .string cd, .int .i64 cp] 42)) wr.heap.size 42 [.bool ck, .string cd, .int .i64 cp]) := Blk.new wr _ _
        obtain ⟨w7, hw7⟩ : ∃ w7, wr.alloc (.cells #[.bool ck, .string cd, .int .i64 cp] 42) = w7 := ⟨_, rfl⟩
        rw [hw7] at HB7 HO7
        obtain ⟨kp, hkp⟩ : ∃ kp, wr.heap.size = kp := ⟨_, rfl⟩
        have HK8 : Hid (Blk w7 kp 42 [.bool ck, .string cd, .int .i64 cp]) := by rw [← hw7, ← hkp]; exact HK7.out
        have HW7 := Lib.hid hw7
        have HKP := Lib.hid hkp
        clear h7 HK7 hw7 hkp
        cases ck
        · go_wp2_with fail
          rw [HW7.out, HKP.out]
          refine (refPut_any 0 w7).mono ?_
          simp only [flagI, if_pos, if_neg, Bool.false_eq_true, if_false, if_true] at P1
          rw [P1.out]
          rintro e w8 ⟨rfl, hb8⟩
          have HB8 := Lib.hid (HB7.out.trans (hb8.mono HB7.out.size))
          have HO8 := Lib.hid (HO7.out.below hb8)
          have HK9 := Lib.hid (HK8.out.kept (hb8.block _ HK8.out.lt))
          have x1 := HK9.out.cell 1
          have x2 := HK9.out.cell 2
          simp only [List.getElem?_cons_zero, List.getElem?_cons_succ] at x1 x2
          clear hb8 d0 d1 d2 c1
          go_wp2_with fail
          refine (refPut_any cp w8).mono ?_
          rw [P2.out]
          rintro e w9 ⟨rfl, hb9⟩
          have HB9 := Lib.hid (HB8.out.trans (hb9.mono HB8.out.size))
          have HO9 := Lib.hid (HO8.out.below hb9)
          have HK10 := Lib.hid (HK9.out.kept (hb9.block _ HK9.out.lt))
          clear x1 x2
          have x1 := HK10.out.cell 1
          simp only [List.getElem?_cons_zero, List.getElem?_cons_succ] at x1
          clear hb9
          go_wp2_with fail
          refine (refPutString_any cd w9 (by unfold maxLen; omega)).mono ?_
          rw [P3.out]
          rintro e w10 ⟨rfl, hb10⟩
          have HB10 := Lib.hid (HB9.out.trans (hb10.mono HB9.out.size))
          have HO10 := Lib.hid (HO9.out.below hb10)
          clear hb10 x1
          obtain ⟨S1, hS1⟩ : ∃ S1 : ByteArray, (⟨(putL 0).toArray⟩ : ByteArray) ++ ⟨(putL cp).toArray⟩ = S1 := ⟨_, rfl⟩
          have z1 := putL_len 0
          have z2 := putL_len cp
          have z3 := putSL_len cd.data.toList (by rw [blen]; omega)
          rw [blen] at z3
          have z4 : S1.size ≤ 18 := by rw [← blen, ← hS1]; simp; omega
          obtain ⟨S2, hS2⟩ : ∃ S2 : ByteArray, S1 ++ ⟨(putSL cd.data.toList).toArray⟩ = S2 := ⟨_, rfl⟩
          have hSl : S2.data.toList = encP ⟨false, cd, cp⟩ := by
            rw [← hS2, ← hS1]
            simp [encP, flagI]
          have hSs : S2.size ≤ 450 := by rw [← blen, hSl]; exact hel
          obtain ⟨v2, w11, hrun, ho11, hb11⟩ := HO10.out.app S2 (by omega) HB10.out.size 53
          rw [hSl] at ho11
          have HO11 := Lib.hid ho11
          have HB11 := Lib.hid (HB10.out.trans hb11)
          clear hSl ho11 hb11
          go_wp2_with (at_builtin; refine wpList_append_str _ rfl _ _ 53 9 rfl _ _ _ _ rfl rfl hrun ?_)
          go_roundw
          case rel => exact ⟨j + 1, _, by omega, by go_num, HX2, HO11, HB11⟩
          case measure => simp [intOf]; omega
        · go_wp2_with fail
          rw [HW7.out, HKP.out]
          refine (refPut_any 1 w7).mono ?_
          simp only [flagI, if_pos, if_neg, Bool.false_eq_true, if_false, if_true] at P1
          rw [P1.out]
          rintro e w8 ⟨rfl, hb8⟩
          have HB8 := Lib.hid (HB7.out.trans (hb8.mono HB7.out.size))
          have HO8 := Lib.hid (HO7.out.below hb8)
          have HK9 := Lib.hid (HK8.out.kept (hb8.block _ HK8.out.lt))
          have x1 := HK9.out.cell 1
          have x2 := HK9.out.cell 2
          simp only [List.getElem?_cons_zero, List.getElem?_cons_succ] at x1 x2
          clear hb8 d0 d1 d2 c1
          go_wp2_with fail
          refine (refPut_any cp w8).mono ?_
          rw [P2.out]
          rintro e w9 ⟨rfl, hb9⟩
          have HB9 := Lib.hid (HB8.out.trans (hb9.mono HB8.out.size))
          have HO9 := Lib.hid (HO8.out.below hb9)
          have HK10 := Lib.hid (HK9.out.kept (hb9.block _ HK9.out.lt))
          clear x1 x2
          have x1 := HK10.out.cell 1
          simp only [List.getElem?_cons_zero, List.getElem?_cons_succ] at x1
          clear hb9
          go_wp2_with fail
          refine (refPutString_any cd w9 (by unfold maxLen; omega)).mono ?_
          rw [P3.out]
          rintro e w10 ⟨rfl, hb10⟩
          have HB10 := Lib.hid (HB9.out.trans (hb10.mono HB9.out.size))
          have HO10 := Lib.hid (HO9.out.below hb10)
          clear hb10 x1
          obtain ⟨S1, hS1⟩ : ∃ S1 : ByteArray, (⟨(putL 1).toArray⟩ : ByteArray) ++ ⟨(putL cp).toArray⟩ = S1 := ⟨_, rfl⟩
          have z1 := putL_len 1
          have z2 := putL_len cp
          have z3 := putSL_len cd.data.toList (by rw [blen]; omega)
          rw [blen] at z3
          have z4 : S1.size ≤ 18 := by rw [← blen, ← hS1]; simp; omega
          obtain ⟨S2, hS2⟩ : ∃ S2 : ByteArray, S1 ++ ⟨(putSL cd.data.toList).toArray⟩ = S2 := ⟨_, rfl⟩
          have hSl : S2.data.toList = encP ⟨true, cd, cp⟩ := by
            rw [← hS2, ← hS1]
            simp [encP, flagI]
          have hSs : S2.size ≤ 450 := by rw [← blen, hSl]; exact hel
          obtain ⟨v2, w11, hrun, ho11, hb11⟩ := HO10.out.app S2 (by omega) HB10.out.size 53
          rw [hSl] at ho11
          have HO11 := Lib.hid ho11
          have HB11 := Lib.hid (HB10.out.trans hb11)
          clear hSl ho11 hb11
          go_wp2_with (at_builtin; refine wpList_append_str _ rfl _ _ 53 9 rfl _ _ _ _ rfl rfl hrun ?_)
          go_roundw
          case rel => exact ⟨j + 1, _, by omega, by go_num, HX2, HO11, HB11⟩
          case measure => simp [intOf]; omega
end Go.Proofs.Ytfplajafekpccaa
