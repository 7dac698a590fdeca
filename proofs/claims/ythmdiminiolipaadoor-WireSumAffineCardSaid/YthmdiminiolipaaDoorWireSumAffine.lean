/-
  The walk of the law WireSumAffine.
-/
import Derived.WalkKit
import Derived.LoopTactic
import Derived.OwnWalk
import Derived.WalkSpells
import Derived.WalkLawsBesides
import Derived.RegionTactic
import Derived.BigRegion
import Derived.Deep.QuietTactic
import Derived.BigQuiet
import Derived.ChangeAlike
import Derived.Laws.BitsAllLaws
import Derived.Laws.OwnMore
import Derived.Lib.Hide
import Derived.IntWalk
import Derived.WalkSmall
import Derived.Test.YthmdiminiolipaaDoorWireSane
import Derived.Test.YthmdiminiolipaaDoorWireHelp
import Derived.Test.YthmdiminiolipaaDoorWireCrc
import Derived.Test.YthmdiminiolipaaDoorWireBytes
set_option linter.unusedVariables false
set_option linter.unusedSimpArgs false
namespace Go.Proofs.YthmdiminiolipaaDoor
open Go.RowKit Onair
theorem run_min_int4 {P : Program} (w : World) (ts : Array TypeId) (t : TypeId) (k k' k'' k3 : IntKind) (x y z u : Int) (n : Int) (hn : (if u < (if z < (if y < x then y else x) then z else (if y < x then y else x)) then u else (if z < (if y < x then y else x) then z else (if y < x then y else x))) = n) :
    (Builtin.min_ ts t #[.int k x, .int k' y, .int k'' z, .int k3 u]).run P w = .ok (.int k n) w := by
  rw [← hn]
  simp [Builtin.min_, Builtin.min2]
/-- The first k bytes are the exclusive or of the three strings' bytes; the others, up to n, are zero. -/
def xor3 (a b c : ByteArray) (k n : Nat) : List UInt8 := (List.range n).map fun i => if i < k then UInt8.ofNat ((a.data.toList[i]?.getD 0).toNat ^^^ (b.data.toList[i]?.getD 0).toNat ^^^ (c.data.toList[i]?.getD 0).toNat) else 0
theorem xor3_len (a b c : ByteArray) (k n : Nat) (h : k ≤ n) : (xor3 a b c k n).length = n := by simp [xor3]
theorem xor3_zero (a b c : ByteArray) (n j : Nat) (h : j < n) : (xor3 a b c 0 n)[j]?.getD 0 = 0 := by simp [xor3, h]
theorem xor3_get (a b c : ByteArray) (k i : Nat) (h : i < k) (ha : k ≤ a.size) (hb : k ≤ b.size) (hc : k ≤ c.size) : ((xor3 a b c k k)[i]'(by simp [xor3]; exact h)).toNat = ((a.extract 0 k).data.toList[i]'(by simp; omega)).toNat ^^^ ((b.extract 0 k).data.toList[i]'(by simp; omega)).toNat ^^^ ((c.extract 0 k).data.toList[i]'(by simp; omega)).toNat := by
  have e : ∀ (s : ByteArray) (hs : k ≤ s.size), (s.extract 0 k).data.toList[i]'(by simp; omega) = s[i] := by
    intro s hs
    simp only [ByteArray.data_extract, Array.toList_extract, List.extract_eq_take_drop, List.drop_zero, Nat.sub_zero, List.getElem_take]
    rfl
  rw [e a ha, e b hb, e c hc]
  simp only [xor3, List.getElem_map, List.getElem_range, if_pos h]
  rw [getL a i (by omega), getL b i (by omega), getL c i (by omega), UInt8.toNat_ofNat_of_lt']
  exact Nat.xor_lt_two_pow (n := 8) (Nat.xor_lt_two_pow (n := 8) a[i].toNat_lt b[i].toNat_lt) c[i].toNat_lt
theorem xor3_set (a b c : ByteArray) (k n : Nat) (h : k < n) (ha : k < a.size) (hb : k < b.size) (hc : k < c.size) (x : Nat) (hx : a[k].toNat ^^^ b[k].toNat ^^^ c[k].toNat = x) : (xor3 a b c k n).set k (UInt8.ofNat x) = xor3 a b c (k + 1) n := by
  apply List.ext_getElem?
  intro i
  by_cases hi : i < n
  · by_cases e : i = k
    · subst e
      rw [List.getElem?_set_self (by rw [xor3_len a b c i n (by omega)]; exact hi)]
      simp only [xor3, List.getElem?_map, List.getElem?_range hi, Option.map_some, if_pos (Nat.lt_succ_self i)]
      rw [getL a i ha, getL b i hb, getL c i hc, hx]
    · rw [List.getElem?_set_ne (by omega)]
      simp only [xor3, List.getElem?_map, List.getElem?_range hi, Option.map_some]
      by_cases h2 : i < k
      · rw [if_pos h2, if_pos (by omega)]
      · rw [if_neg h2, if_neg (by omega)]
  · rw [List.getElem?_eq_none (by simp [xor3]; omega), List.getElem?_eq_none (by simp [xor3]; omega)]
set_option maxHeartbeats 4000000 in
set_option maxRecDepth 100000 in
theorem walkSumAffine (a b c : ByteArray) (w : World) (ha : a.size ≤ maxLen) (hb : b.size ≤ maxLen) (hc : c.size ≤ maxLen) (ht : TabAt w) :
    Calls Tryd.prog 9 #[.string a, .string b, .string c] w fun e w' => e = .returned (.bool true) ∧ Below w.heap.size w w' := by
  unfold maxLen at ha hb hc
  have HT := Lib.hid ht
  have h0 := ht.lt
  clear ht
  obtain ⟨n, hna, hnb, hnc, hn2, hmin⟩ : ∃ n : Nat, n ≤ a.size ∧ n ≤ b.size ∧ n ≤ c.size ∧ n ≤ 200 ∧ (∀ (W : World) (ts : Array TypeId) (t : TypeId), (Builtin.min_ ts t #[.int .i64 (a.size : Int), .int .i64 (b.size : Int), .int .i64 (c.size : Int), .int .i64 200]).run Tryd.prog W = .ok (.int .i64 (n : Int)) W) := by
    refine ⟨min a.size (min b.size (min c.size 200)), by omega, by omega, by omega, by omega, fun W ts t => run_min_int4 W ts t _ _ _ _ _ _ _ _ _ ?_⟩
    repeat' split
    all_goals omega
  obtain ⟨i0, hi, hz0, hz1, hz2⟩ := info_parts Tryd.infoU8
  go_enter Tryd.func9, Tryd.ntmps9
  go_wp2_with fail
  refine (sane_any _ HT.out).mono ?_
  rintro e w1 ⟨rfl, hb1⟩
  have HB1 := Lib.hid hb1
  have hzz := hb1.size
  clear hb1
  obtain ⟨w2, hrun, hown, hgrow⟩ := run_make_full (P := Tryd.prog) w1 w1.heap.size 38 5 i0 (.int .u8 0) 1 Tryd.underlying38 hi hz0 hz1 .i64 .i64 n (by rw [hz2]; omega) (by unfold maxLen; omega) (Nat.le_refl _)
  have HB2 : Hid (Below w1.heap.size w1 w2) := (Below.refl _ _).grown hgrow (Nat.le_refl _) (fun k e => by cases e)
  have HI2 : Hid (BytesIn w2 w1.heap.size (xor3 a b c 0 n)) := by
    refine ⟨fun j hj => ?_, fun j hj => hown.frozenAt j⟩
    rw [xor3_len a b c 0 n (Nat.zero_le _)] at hj
    rw [hown.cellAt j (by omega), made0 n j hj, xor3_zero a b c n j hj]
    rfl
  have hsz2 : w1.heap.size < w2.heap.size ∨ n = 0 := by
    by_cases h : n = 0
    · exact .inr h
    · left
      have := HI2.out.1 0 (by rw [xor3_len a b c 0 n (Nat.zero_le _)]; omega)
      exact block_lt this
  clear hown hgrow hi hz0 hz1 hz2
  go_wp2_with fail
  clear hrun hmin
  go_loopw [10] (fun i wr => ∃ k : Nat, k ≤ n ∧ i = .int .i64 k ∧ Hid (Below w1.heap.size w1 wr) ∧ Hid (BytesIn wr w1.heap.size (xor3 a b c k n))) (fun i _ => n - (intOf i).toNat)
  case atStart => exact ⟨0, Nat.zero_le _, rfl, HB2, HI2⟩
  case round =>
    obtain ⟨k, hk, rfl, HBr, HIr⟩ := hrel
    clear HB2 HI2
    by_cases hkn : k = n
    · subst hkn
      have hkk : ¬ (k : Int) < k := by omega
      have hcv := conv_q HIr.out k k (xor3_len a b c k k (Nat.le_refl _))
      obtain ⟨X, hX⟩ : ∃ X : ByteArray, ByteArray.mk (xor3 a b c k k).toArray = X := ⟨_, rfl⟩
      rw [hX] at hcv
      have hXl : X.data.toList = xor3 a b c k k := by rw [← hX]
      have hXz : X.size ≤ 200 := by rw [← hX]; show (xor3 a b c k k).length ≤ 200; rw [xor3_len a b c k k (Nat.le_refl _)]; exact hn2
      obtain ⟨A, hA⟩ : ∃ A : ByteArray, a.extract 0 k = A := ⟨_, rfl⟩
      obtain ⟨B, hB⟩ : ∃ B : ByteArray, b.extract 0 k = B := ⟨_, rfl⟩
      obtain ⟨C, hC⟩ : ∃ C : ByteArray, c.extract 0 k = C := ⟨_, rfl⟩
      have hAz : A.size ≤ 200 := by rw [← hA]; simp; omega
      have hBz : B.size ≤ 200 := by rw [← hB]; simp; omega
      have hCz : C.size ≤ 200 := by rw [← hC]; simp; omega
      have hsum := sum3 X.data.toList A.data.toList B.data.toList C.data.toList (by rw [hXl, xor3_len a b c k k (Nat.le_refl _), len_data, ← hA]; simp; omega) (by rw [hXl, xor3_len a b c k k (Nat.le_refl _), len_data, ← hB]; simp; omega) (by rw [hXl, xor3_len a b c k k (Nat.le_refl _), len_data, ← hC]; simp; omega) (by
        intro i hi
        have hik : i < k := by rw [hXl, xor3_len a b c k k (Nat.le_refl _)] at hi; exact hi
        have e1 : X.data.toList[i] = (xor3 a b c k k)[i]'(by rw [xor3_len a b c k k (Nat.le_refl _)]; exact hik) := by simp only [hXl]
        rw [e1]
        simp only [← hA, ← hB, ← hC]
        exact xor3_get a b c k i hik hna hnb hnc)
      have vX : sumL X.data.toList = ((4294967295 - crc X.data.toList : Nat) : Int) := rfl
      have vA : sumL A.data.toList = ((4294967295 - crc A.data.toList : Nat) : Int) := rfl
      have vB : sumL B.data.toList = ((4294967295 - crc B.data.toList : Nat) : Int) := rfl
      have vC : sumL C.data.toList = ((4294967295 - crc C.data.toList : Nat) : Int) := rfl
      obtain ⟨sA, eA⟩ : ∃ s, 4294967295 - crc A.data.toList = s := ⟨_, rfl⟩
      obtain ⟨sB, eB⟩ : ∃ s, 4294967295 - crc B.data.toList = s := ⟨_, rfl⟩
      obtain ⟨sC, eC⟩ : ∃ s, 4294967295 - crc C.data.toList = s := ⟨_, rfl⟩
      obtain ⟨sX, eX⟩ : ∃ s, 4294967295 - crc X.data.toList = s := ⟨_, rfl⟩
      obtain ⟨sAB, eAB⟩ : ∃ s, sA ^^^ sB = s := ⟨_, rfl⟩
      rw [eA] at vA
      rw [eB] at vB
      rw [eC] at vC
      rw [eX] at vX
      rw [eX, eA, eB, eC, eAB] at hsum
      have lA : sA < 4294967296 := by omega
      have lB : sB < 4294967296 := by omega
      have lC : sC < 4294967296 := by omega
      have lAB : sAB < 4294967296 := eAB ▸ xor_lt32 lA lB
      have fAB := i64_xor_nat sA sB sAB lA lB eAB
      have fX := i64_xor_nat sAB sC sX lAB lC hsum.symm
      have HTr : Hid (TabAt wr) := (HT.out.below HB1.out h0).below HBr.out (by omega)
      have VX := Lib.hid vX
      have VA := Lib.hid vA
      have VB := Lib.hid vB
      have VC := Lib.hid vC
      have hee : ((sX : Int) == sX) = true := by simp
      have hsX : X.size ≤ 1000 := by omega
      have hsA : A.size ≤ 1000 := by omega
      have hsB : B.size ≤ 1000 := by omega
      have hsC : C.size ≤ 1000 := by omega
      clear hX hXl vX vA vB vC eA eB eC eX eAB hsum
      have h1k : (k : Int) ≤ a.size := by omega
      have h2k : (k : Int) ≤ b.size := by omega
      have h3k : (k : Int) ≤ c.size := by omega
      go_wp2_with fail
      go_quiet ((go_at_call 21; first | with_reducible exact sum_q X _ _ _ hsX HTr.out VX.out | with_reducible exact sum_q A _ _ _ hsA HTr.out VA.out | with_reducible exact sum_q B _ _ _ hsB HTr.out VB.out | with_reducible exact sum_q C _ _ _ hsC HTr.out VC.out))
      go_wp2_with fail
      go_ret
      exact ⟨rfl, below_drewN (bstep HB1.out HBr.out) _⟩
    · have hkn' : (k : Int) < n := by omega
      have hl := xor3_len a b c k n hk
      have hca := (HIr.out.1 k (by omega))
      have hcf := (HIr.out.2 k (by omega))
      have ha' : (k : Int) < a.size := by omega
      have hb' : (k : Int) < b.size := by omega
      have hc' : (k : Int) < c.size := by omega
      have ha2 : k < a.size := by omega
      have hb2 : k < b.size := by omega
      have hc2 : k < c.size := by omega
      obtain ⟨x1, e1⟩ : ∃ x, a[k].toNat ^^^ b[k].toNat = x := ⟨_, rfl⟩
      obtain ⟨x2, e2⟩ : ∃ x, x1 ^^^ c[k].toNat = x := ⟨_, rfl⟩
      have l1 : x1 < 256 := e1 ▸ Nat.xor_lt_two_pow (n := 8) a[k].toNat_lt b[k].toNat_lt
      have l2 : x2 < 256 := e2 ▸ Nat.xor_lt_two_pow (n := 8) l1 c[k].toNat_lt
      have f1 : bits BinOp.xor IntKind.u8 (a[k].toNat : Int) (b[k].toNat : Int) = (x1 : Int) := by rw [u8_xor_nat _ _ a[k].toNat_lt b[k].toNat_lt, e1]
      have f2 : bits BinOp.xor IntKind.u8 (x1 : Int) (c[k].toNat : Int) = (x2 : Int) := by rw [u8_xor_nat _ _ l1 c[k].toNat_lt, e2]
      have HN : Hid (BytesIn (wr.setCell ⟨w1.heap.size, k, none⟩ (.int .u8 (x2 : Int))) w1.heap.size (xor3 a b c (k + 1) n)) := by
        have h := bytesIn_set HIr.out k (by omega) (UInt8.ofNat x2)
        rw [UInt8.toNat_ofNat_of_lt' (by omega), xor3_set a b c k n (by omega) ha2 hb2 hc2 x2 (by rw [← e2, ← e1])] at h
        exact h
      have HBn : Hid (Below w1.heap.size w1 (wr.setCell ⟨w1.heap.size, k, none⟩ (.int .u8 (x2 : Int)))) := HBr.out.setCell (p := ⟨w1.heap.size, k, none⟩) (Nat.le_refl _) _
      clear e1 e2 hl
      go_wp2_with fail
      go_region
      go_wp2_with fail
      go_roundw
      case rel => exact ⟨k + 1, by omega, by go_num, HBn.out.drew, bytesIn_drew HN.out⟩
      case measure => simp [intOf]; omega
end Go.Proofs.YthmdiminiolipaaDoor
