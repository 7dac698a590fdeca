/-
  The walk of the law AsrunGrows.
-/
import Derived.Laws.StructEq
import Derived.Test.YtfpcdlpfmlaakaaDoorAsRe
import Derived.Test.YtfpcdlpfmlaakaaDoorAsO
import Derived.Test.YtfpcdlpfmlaakaaDoorDgK
set_option linter.unusedVariables false
set_option linter.unusedSimpArgs false
namespace Go.Proofs.YtfpcdlpfmlaakaaDoor
open Go.RowKit Onair
attribute [local go_sem ↓] Go.wp_at_zero Go.wp_at_succ
theorem extension_x (W : World) (N b bl : Nat) (F G : Nat → Prop) (s : LS) (m : Nat) (hn : s.R.length ≤ 10000) (hm : m ≤ s.R.length) (ht : TabAt W) (h : LX W N b bl F G s) :
    Calls Tryd.prog 41 #[.pointer (some ⟨bl, 0, none⟩), .int .i64 (m : Int)] W fun e w' => ∃ oa cap, e = .returned (.tuple #[.slice oa (extP (entR s.R) m).length cap, .int .i64 0]) ∧ (extP (entR s.R) m).length ≤ cap ∧ cap ≤ 9223372036854775807 ∧ RdS w' oa (extP (entR s.R) m) ∧ Below W.heap.size W w' := by
  obtain ⟨bd, bv, vp, vr, ve, h1, h2, h3, h4⟩ := h.ex
  exact extension_any W N b bl vr ve s.R s.br m hn hm ht h2
theorem extension_o (W : World) (N b bl : Nat) (F G : Nat → Prop) (s : LS) (hn : s.R.length ≤ 10000) (h : LX W N b bl F G s) :
    Calls Tryd.prog 41 #[.pointer (some ⟨bl, 0, none⟩), .int .i64 ((s.R.length : Int) + 1)] W fun e w' => e = .returned (.tuple #[.slice none 0 0, .int .i64 2]) ∧ W = w' := by
  obtain ⟨bd, bv, vp, vr, ve, h1, h2, h3, h4⟩ := h.ex
  exact extension_out W N b bl vr ve s.R s.br hn h2
theorem entR_take (R : List Rec) (k : Nat) : (entR R).take k = entR (R.take k) := by
  have e : entR R = entR (R.take k) ++ entF (headF zero32 (R.take k)) (R.drop k) := by
    have := entF_append zero32 (R.take k) (R.drop k)
    rw [List.take_append_drop] at this
    exact this
  have hl : (entR (R.take k)).length = min k R.length := by rw [entR_len, List.length_take]
  by_cases hk : k ≤ R.length
  · rw [e, List.take_left' (by rw [hl]; omega)]
  · rw [List.take_of_length_le (by rw [entR_len]; omega), List.take_of_length_le (l := R) (by omega)]
theorem manyL_take (l : List Qd) (k : Nat) : manyL ((l.take 14).take k) = (manyL l).take k := by
  unfold manyL
  rw [List.map_take, List.map_take, List.map_take, List.take_take, List.take_take, List.take_take]
  congr 1
  omega
theorem bn_le {N : Nat} {w W : World} (hN : w.heap.size = N) (hb : Below N w W) : N ≤ W.heap.size := hN ▸ hb.size
set_option maxHeartbeats 8000000 in
set_option maxRecDepth 100000 in
theorem walkGrows (w : World) (oa : Option Addr) (c : Nat) (l : List Qd) (m : Int) (hlc : l.length ≤ c) (hcm : c ≤ maxLen) (hI : ∀ q ∈ l, QdI q) (hr : RdQ w oa l) (m0 : -9223372036854775808 ≤ m) (m1 : m ≤ 9223372036854775807) (ht : TabAt w) :
    Calls Tryd.prog 10 #[.slice oa l.length c, .int .i64 m] w fun e w' => e = .returned (.bool true) ∧ Below w.heap.size w w' := by
  unfold maxLen at hcm
  obtain ⟨N, hN⟩ : ∃ N, w.heap.size = N := ⟨_, rfl⟩
  have hg := ht.lt
  rw [hN] at hg
  have HTB : Hid (∀ W, Below N w W → TabAt W) := fun W hW => ht.below (by rw [hN]; exact hW)
  have HG := Lib.hid hg
  have HSN := Lib.hid (sane_any w ht ht.lt)
  have HNN := Lib.hid hN
  have HR := Lib.hid hr
  have HI := Lib.hid hI
  -- the lists
  obtain ⟨n, hn⟩ : ∃ n, l.length = n := ⟨_, rfl⟩
  obtain ⟨A, hA⟩ : ∃ A, l.take 14 = A := ⟨_, rfl⟩
  obtain ⟨a, ha⟩ : ∃ a, A.length = a := ⟨_, rfl⟩
  have hmin : a = min n 14 := by rw [← ha, ← hA, List.length_take, hn]; omega
  have hmn : min (n : Int) 14 = (a : Int) := by omega
  have hpk := pickI_bd m ((a : Int) + 1) (by omega)
  obtain ⟨k, hk⟩ : ∃ k : Nat, pickI m ((a : Int) + 1) = (k : Int) := ⟨(pickI m ((a : Int) + 1)).toNat, by omega⟩
  have hka : k ≤ a := by rw [hk] at hpk; omega
  have han : a ≤ n := by omega
  have ha14 : a ≤ 14 := by omega
  have HPK := Lib.hid (fun W => pick_any m ((a : Int) + 1) W m0 m1 (by omega) (by omega))
  rw [hk] at HPK
  obtain ⟨T, hT⟩ : ∃ T, manyL l = T := ⟨_, rfl⟩
  have hTA : manyL A = T := by rw [← hA, ← hT]; unfold manyL; rw [List.take_take]; rfl
  have hTl : T.length = a := by rw [← hT, hmin]; unfold manyL; rw [List.length_map, List.length_take, hn]; omega
  have hTk : manyL (A.take k) = T.take k := by rw [← hA, ← hT]; exact manyL_take l k
  have hTv : ∀ r ∈ T, validR r = true := by rw [← hT]; exact manyL_valid l
  have hIA : ∀ q ∈ A, QdI q := fun q hq => HI.out q (by rw [← hA] at hq; exact List.mem_of_mem_take hq)
  have HLA : Hid (∀ W, Below N w W → Calls Tryd.prog 19 #[.slice oa a c] W (LogP W T)) := fun W hW => by
    have := log_any oa c A W (by rw [ha]; unfold maxLen; omega) hIA (by rw [← hA]; exact (hr.below (by rw [hN]; exact hW)).take 14) (HTB.out W hW) (by have := hW.size; omega)
    rw [ha, hTA] at this
    exact this
  have HLK : Hid (∀ W, Below N w W → Calls Tryd.prog 19 #[.slice oa k c] W (LogP W (T.take k))) := fun W hW => by
    have := log_any oa c (A.take k) W (by rw [List.length_take]; unfold maxLen; omega) (fun q hq => hIA q (List.mem_of_mem_take hq)) (by rw [← hA]; exact ((hr.below (by rw [hN]; exact hW)).take 14).take k) (HTB.out W hW) (by have := hW.size; omega)
    rw [show (A.take k).length = k by rw [List.length_take]; omega, hTk] at this
    exact this
  have hSl : (T.take k).length = k := by rw [List.length_take]; omega
  have HTL := Lib.hid hTl
  have HSL := Lib.hid hSl
  have hcI : (n : Int) ≤ (c : Int) := by omega
  have haI : (a : Int) ≤ (c : Int) := by omega
  have hkI : (k : Int) ≤ (c : Int) := by omega
  have hkaI : (k : Int) ≤ (a : Int) := by omega
  have hk0 : (0 : Int) ≤ (k : Int) := by omega
  have ha0 : (0 : Int) ≤ (a : Int) := by omega
  rw [hn]
  clear hr hI hIA hn hA ha hT hTA hTl hTk hSl hg ht hN hpk hk hmin
  go_enter Tryd.func10, Tryd.ntmps10
  go_wp2_with fail
  refine HSN.out.mono ?_
  rintro e w1 ⟨rfl, hb1⟩
  have HB1 : Hid (Below N w w1) := by rw [← HNN.out]; exact hb1
  clear hb1 HSN
  go_wp2_with fail
  refine (HPK.out _).mono ?_
  rintro e w' ⟨rfl, rfl⟩
  clear HPK
  go_wp2_with fail
  refine (HLK.out w1 HB1.out).mono ?_
  rintro e w2 ⟨b1, bl1, F1, G1, D1, o1, c1, rfl, hx1, _, _, hb2⟩
  have HX2 := Lib.hid hx1
  have HB2 : Hid (Below N w w2) := HB1.out.trans (hb2.mono (bn_le HNN.out HB1.out))
  have hSl := HSL.out
  rw [HSL.out]
  clear hx1 hb2 HLK HB1
  obtain ⟨N1, hN1⟩ : ∃ N1, w1.heap.size = N1 := ⟨_, rfl⟩
  rw [hN1] at HX2
  clear hSl hN1
  go_wp2_with fail
  refine (HLA.out w2 HB2.out).mono ?_
  rintro e w3 ⟨b2, bl2, F2, G2, D2, o2, c2, rfl, hx2, _, _, hb3⟩
  have HY3 := Lib.hid hx2
  have HX3 := Lib.hid (HX2.out.below hb3)
  have HB3 : Hid (Below N w w3) := HB2.out.trans (hb3.mono (bn_le HNN.out HB2.out))
  rw [HTL.out]
  obtain ⟨N2, hN2⟩ : ∃ N2, w2.heap.size = N2 := ⟨_, rfl⟩
  rw [hN2] at HY3
  clear hx2 hb3 HLA HB2 HX2 hN2
  have hex := extension_x w3 N2 b2 bl2 F2 G2 ⟨D2, T, false⟩ k (by show T.length ≤ _; rw [HTL.out]; omega) (by show k ≤ T.length; rw [HTL.out]; exact hka) (HTB.out _ HB3.out) HY3.out
  dsimp only at hex
  obtain ⟨X, hX⟩ : ∃ X, extP (entR T) k = X := ⟨_, rfl⟩
  rw [hX] at hex
  obtain ⟨xl, hxl⟩ : ∃ xl, X.length = xl := ⟨_, rfl⟩
  rw [hxl] at hex
  have HEX := Lib.hid hex
  have HXE := Lib.hid hX
  have HXL := Lib.hid hxl
  have hXs : xl ≤ 1000000 := by
    have h := extP_short (entR T) k (by rw [entR_len, HTL.out]; exact hka)
    have h2 := binN_le (entR T).length
    rw [hX, hxl] at h
    rw [entR_len, HTL.out] at h h2
    omega
  clear hex hX hxl
  go_wp2_with fail
  refine HEX.out.mono ?_
  rintro e w4 ⟨ox, cx, rfl, hx1, hx2, hx3, hb4⟩
  have HXR := Lib.hid hx3
  have HX4 := Lib.hid (HX3.out.below hb4)
  have HY4 := Lib.hid (HY3.out.below hb4)
  have HB4 : Hid (Below N w w4) := HB3.out.trans (hb4.mono (bn_le HNN.out HB3.out))
  have hxo := extension_o w4 N2 b2 bl2 F2 G2 ⟨D2, T, false⟩ (by show T.length ≤ _; rw [HTL.out]; omega) HY4.out
  dsimp only at hxo
  rw [HTL.out] at hxo
  have HXO := Lib.hid hxo
  clear hx3 hb4 HX3 HY3 HB3 HEX hxo
  go_wp2_with fail
  refine HXO.out.mono ?_
  rintro e w' ⟨rfl, rfl⟩
  clear HXO
  have hra := root_x w4 N1 b1 bl1 F1 G1 ⟨D1, T.take k, false⟩ (by show (T.take k).length ≤ _; rw [HSL.out]; omega) (HTB.out _ HB4.out) HX4.out
  dsimp only at hra
  obtain ⟨rA, hrA⟩ : ∃ z, rootL (entR (T.take k)) = z := ⟨_, rfl⟩
  obtain ⟨rB, hrB⟩ : ∃ z, rootL (entR T) = z := ⟨_, rfl⟩
  rw [hrA] at hra
  have HRA := Lib.hid hra
  have hver : verXB rA k rB a X = true := by
    have h := ext_ver (entR T) k (by rw [entR_len, HTL.out]; exact hka)
    rw [entR_take, hrA, hrB, entR_len, HTL.out] at h
    have e : (if k = 0 then [] else extL (entR T) k true) = X := HXE.out
    rw [e] at h
    exact h
  have HVER := Lib.hid hver
  have HRBE := Lib.hid hrB
  clear hra hrA hrB hver
  go_wp2_with fail
  refine HRA.out.mono ?_
  rintro e w5 ⟨rfl, hb5⟩
  have HX5 := Lib.hid (HX4.out.below hb5)
  have HY5 := Lib.hid (HY4.out.below hb5)
  have HXR5 := Lib.hid (HXR.out.kept hb5)
  have HB5 : Hid (Below N w w5) := HB4.out.trans (hb5.mono (bn_le HNN.out HB4.out))
  have hrb := root_x w5 N2 b2 bl2 F2 G2 ⟨D2, T, false⟩ (by show T.length ≤ _; rw [HTL.out]; omega) (HTB.out _ HB5.out) HY5.out
  dsimp only at hrb
  rw [HRBE.out] at hrb
  have HRB := Lib.hid hrb
  clear hb5 HX4 HY4 HXR HB4 hrb HRA
  go_wp2_with fail
  refine HRB.out.mono ?_
  rintro e w6 ⟨rfl, hb6⟩
  have HX6 := Lib.hid (HX5.out.below hb6)
  have HY6 := Lib.hid (HY5.out.below hb6)
  have HXR6 := Lib.hid (HXR5.out.kept hb6)
  have HB6 : Hid (Below N w w6) := HB5.out.trans (hb6.mono (bn_le HNN.out HB5.out))
  have hv := verx_in rA rB a k ox X cx w6 hka (by omega) (by rw [HXL.out]; exact hXs) (by rw [HXL.out]; exact hx1) hx2 HXR6.out (HTB.out _ HB6.out)
  rw [HVER.out, HXL.out] at hv
  have HV := Lib.hid hv
  clear hb6 HX5 HY5 HXR5 HB5 hv HRB HXR6
  go_wp2_with fail
  refine HV.out.mono ?_
  rintro e w7 ⟨rfl, hb7⟩
  have HX7 := Lib.hid (HX6.out.below hb7)
  have HY7 := Lib.hid (HY6.out.below hb7)
  have HB7 : Hid (Below N w w7) := HB6.out.trans (hb7.mono (bn_le HNN.out HB6.out))
  clear hb7 HX6 HY6 HB6 HV
  go_wp2_with fail
  go_loopw [16] (fun i wr => ∃ (j : Nat), j ≤ k ∧ i = .int .i64 j ∧ Hid (LX wr N1 b1 bl1 F1 G1 ⟨D1, T.take k, false⟩) ∧ Hid (LX wr N2 b2 bl2 F2 G2 ⟨D2, T, false⟩) ∧ Hid (Below N w wr)) (fun i _ => k - (intOf i).toNat)
  case atStart => exact ⟨0, Nat.zero_le _, rfl, HX7, HY7, HB7⟩
  case round =>
    obtain ⟨j, hj, rfl, HXr, HYr, HBr⟩ := hrel
    clear HX7 HY7 HB7
    by_cases h : j < k
    · have q1 : (j : Int) < (k : Int) := by omega
      obtain ⟨r, hr⟩ : ∃ r, T[j]? = some r := ⟨T[j]'(by rw [HTL.out]; omega), List.getElem?_eq_getElem _⟩
      have hrk : (T.take k)[j]? = some r := by rw [List.getElem?_take, if_pos h]; exact hr
      obtain ⟨x, hx⟩ : ∃ x, (entR T)[j]? = some x := ⟨(entR T)[j]'(by rw [entR_len, HTL.out]; omega), List.getElem?_eq_getElem _⟩
      have hxk : (entR (T.take k))[j]? = some x := by rw [← entR_take, List.getElem?_take, if_pos h]; exact hx
      have hp1 := prove_x wr N1 b1 bl1 F1 G1 ⟨D1, T.take k, false⟩ j r x (by show (T.take k).length ≤ _; rw [HSL.out]; omega) (HTB.out _ HBr.out) HXr.out hrk hxk
      have HPB : Hid (∀ W, Below N w W → LX W N2 b2 bl2 F2 G2 ⟨D2, T, false⟩ → Calls Tryd.prog 20 #[.pointer (some ⟨bl2, 0, none⟩), .int .i64 (j : Int)] W (ProP W r j T.length (x.extract 0 32) (proofL (entR T) j))) := fun W hW hY => prove_x W N2 b2 bl2 F2 G2 ⟨D2, T, false⟩ j r x (by show T.length ≤ _; rw [HTL.out]; omega) (HTB.out _ hW) hY hr hx
      dsimp only at hp1
      rw [HSL.out] at hp1
      rw [HTL.out] at HPB
      obtain ⟨sl, hsl⟩ : ∃ sl, x.extract 0 32 = sl := ⟨_, rfl⟩
      rw [hsl] at hp1 HPB
      have HP1 := Lib.hid hp1
      clear hr hrk hx hxk hp1 hsl h
      obtain ⟨r0, r1, r2, r3, r4, r5⟩ := r
      go_wp2_with fail
      refine HP1.out.mono ?_
      rintro e w8 ⟨op, cp, he, _, hb8⟩
      dsimp only [proA] at he
      subst he
      have HX8 := Lib.hid (HXr.out.below hb8)
      have HY8 := Lib.hid (HYr.out.below hb8)
      have HB8 : Hid (Below N w w8) := HBr.out.trans (hb8.mono (bn_le HNN.out HBr.out))
      obtain ⟨M, hM⟩ : ∃ M, w8.heap.size = M := ⟨_, rfl⟩
      have HM := Lib.hid hM
      clear hb8 HXr HYr HBr HP1 hM
      go_upto_region 16 with (fail)
      rw [HM.out]
      refine gen_world (fun W9 => LX W9 N1 b1 bl1 F1 G1 ⟨D1, T.take k, false⟩ ∧ LX W9 N2 b2 bl2 F2 G2 ⟨D2, T, false⟩ ∧ Below N w W9 ∧ Blk W9 M 45 [.int .i64 r0, .int .i64 r1, .int .i64 r2, .int .i64 r3, .int .i64 r4, .int .i64 r5, .int .i64 (j : Int), .int .i64 (k : Int), .string sl, .slice op (proofL (entR (T.take k)) j).length cp]) ⟨?_, ?_, ?_, ?_⟩ ?_
      · exact HX8.out.below ((Below.refl _ _).alloc (Nat.le_refl _) _)
      · exact HY8.out.below ((Below.refl _ _).alloc (Nat.le_refl _) _)
      · exact HB8.out.alloc (bn_le HNN.out HB8.out) _
      · have := Blk.new w8 45 [.int .i64 r0, .int .i64 r1, .int .i64 r2, .int .i64 r3, .int .i64 r4, .int .i64 r5, .int .i64 (j : Int), .int .i64 (k : Int), .string sl, .slice op (proofL (entR (T.take k)) j).length cp]
        rw [HM.out] at this
        exact this
      rintro w9 ⟨q1', q2', q3', q4'⟩
      have HX9 := Lib.hid q1'
      have HY9 := Lib.hid q2'
      have HB9 := Lib.hid q3'
      have HK9 := Lib.hid q4'
      clear q1' q2' q3' q4' HX8 HY8 HB8 HM
      have HP2 := Lib.hid (HPB.out w9 HB9.out HY9.out)
      clear HPB
      go_wp2_with fail
      refine HP2.out.mono ?_
      rintro e wa ⟨op2, cp2, he, _, hba⟩
      dsimp only [proA] at he
      subst he
      have HXa := Lib.hid (HX9.out.below hba)
      have HYa := Lib.hid (HY9.out.below hba)
      have HBa : Hid (Below N w wa) := HB9.out.trans (hba.mono (bn_le HNN.out HB9.out))
      have hKa := HK9.out.kept (hba.block M HK9.out.lt)
      have HKa := Lib.hid hKa
      have hMa := hKa.lt
      obtain ⟨M2, hM2⟩ : ∃ M2, wa.heap.size = M2 := ⟨_, rfl⟩
      have HM2 := Lib.hid hM2
      rw [hM2] at hMa
      clear hba HX9 HY9 HB9 HK9 HP2 hKa hM2
      go_upto_region 17 with (fail)
      rw [HM2.out]
      refine gen_world (fun W9 => LX W9 N1 b1 bl1 F1 G1 ⟨D1, T.take k, false⟩ ∧ LX W9 N2 b2 bl2 F2 G2 ⟨D2, T, false⟩ ∧ Below N w W9 ∧ Blk W9 M 45 [.int .i64 r0, .int .i64 r1, .int .i64 r2, .int .i64 r3, .int .i64 r4, .int .i64 r5, .int .i64 (j : Int), .int .i64 (k : Int), .string sl, .slice op (proofL (entR (T.take k)) j).length cp] ∧ Blk W9 M2 45 [.int .i64 r0, .int .i64 r1, .int .i64 r2, .int .i64 r3, .int .i64 r4, .int .i64 r5, .int .i64 (j : Int), .int .i64 (a : Int), .string sl, .slice op2 (proofL (entR T) j).length cp2]) ⟨?_, ?_, ?_, ?_, ?_⟩ ?_
      · exact HXa.out.below ((Below.refl _ _).alloc (Nat.le_refl _) _)
      · exact HYa.out.below ((Below.refl _ _).alloc (Nat.le_refl _) _)
      · exact HBa.out.alloc (bn_le HNN.out HBa.out) _
      · exact HKa.out.alloc _
      · have := Blk.new wa 45 [.int .i64 r0, .int .i64 r1, .int .i64 r2, .int .i64 r3, .int .i64 r4, .int .i64 r5, .int .i64 (j : Int), .int .i64 (a : Int), .string sl, .slice op2 (proofL (entR T) j).length cp2]
        rw [HM2.out] at this
        exact this
      rintro wb ⟨q1', q2', q3', q4', q5'⟩
      have HXb := Lib.hid q1'
      have HYb := Lib.hid q2'
      have HBb := Lib.hid q3'
      have k0 := q4'.cell 0
      have k1 := q4'.cell 1
      have k2 := q4'.cell 2
      have k3 := q4'.cell 3
      have k4 := q4'.cell 4
      have k5 := q4'.cell 5
      have k8 := q4'.cell 8
      have l0 := q5'.cell 0
      have l1 := q5'.cell 1
      have l2 := q5'.cell 2
      have l3 := q5'.cell 3
      have l4 := q5'.cell 4
      have l5 := q5'.cell 5
      have l8 := q5'.cell 8
      simp only [List.getElem?_cons_zero, List.getElem?_cons_succ] at k0 k1 k2 k3 k4 k5 k8 l0 l1 l2 l3 l4 l5 l8
      clear q1' q2' q3' q4' q5' HXa HYa HBa HKa HM2
      go_wp2_with fail
      go_roundw
      case rel => exact ⟨j + 1, by omega, by go_num, HXb, HYb, HBb⟩
      case measure => simp [intOf]; omega
    · have q1 : ¬ (j : Int) < (k : Int) := by omega
      clear h
      go_wp2_with fail
      go_ret
      exact ⟨rfl, by rw [HNN.out]; exact HBr.out⟩
end Go.Proofs.YtfpcdlpfmlaakaaDoor
