/-
  The walk of the law WireMatchesReference.
-/
import Derived.WalkKit
import Derived.LoopTactic
import Derived.OwnWalk
import Derived.WalkSpells
import Derived.WalkLawsBesides
import Derived.Lib.Hide
import Derived.IntWalk
import Derived.Test.YthmdiminiolipaaDoorWireSane
import Derived.Test.YthmdiminiolipaaDoorWireHelp
import Derived.Test.YthmdiminiolipaaDoorWireRefC
set_option linter.unusedVariables false
set_option linter.unusedSimpArgs false
namespace Go.Proofs.YthmdiminiolipaaDoor
open Go.RowKit Onair
/-- A new block of two integers: what it holds, kept while only new blocks are written. -/
def TwoAt (W : World) (B : Nat) (x y : Int) : Prop := W.cell? ⟨B, 0, none⟩ = some (.int .i64 x) ∧ W.cell? ⟨B, 1, none⟩ = some (.int .i64 y) ∧ B < W.heap.size
theorem TwoAt.step {W W' : World} {B : Nat} {x y : Int} (h : TwoAt W B x y) (hb : Below W.heap.size W W') : TwoAt W' B x y :=
  ⟨(hb.cell (p := ⟨B, 0, none⟩) h.2.2).trans h.1, (hb.cell (p := ⟨B, 1, none⟩) h.2.2).trans h.2.1, Nat.lt_of_lt_of_le h.2.2 hb.size⟩
theorem TwoAt.get {W : World} {B : Nat} {x y : Int} (h : TwoAt W B x y) (j : Nat) (hj : j < 2) : ∃ z, (z = x ∨ z = y) ∧ W.cell? ⟨B, j, none⟩ = some (.int .i64 z) := by
  rcases (show j = 0 ∨ j = 1 by omega) with rfl | rfl
  · exact ⟨x, .inl rfl, h.1⟩
  · exact ⟨y, .inr rfl, h.2.1⟩
theorem TwoAt.new (W : World) (x y : Int) : TwoAt (W.alloc (.cells #[.int .i64 x, .int .i64 y] 3)) W.heap.size x y := by
  refine ⟨by go_simp, by go_simp, by simp⟩
set_option maxHeartbeats 4000000 in
set_option maxRecDepth 100000 in
theorem walkMatches (n : Int) (s : ByteArray) (at_ : Int) (w : World) (hs : s.size ≤ maxLen) (hn0 : -9223372036854775808 ≤ n) (hn1 : n ≤ 9223372036854775807) (ha0 : -9223372036854775808 ≤ at_) (ha1 : at_ ≤ 9223372036854775807) (ht : TabAt w) :
    Calls Tryd.prog 3 #[.int .i64 n, .string s, .int .i64 at_] w fun e w' => e = .returned (.bool true) ∧ Below w.heap.size w w' := by
  unfold maxLen at hs
  have HT := Lib.hid ht
  have h0 := ht.lt
  clear ht
  obtain ⟨ms, T, hs1, hs2, hs3, hs4, hs5⟩ := min_cut s 300
  rw [show ((300 : Nat) : Int) = 300 from rfl] at hs4
  have HS3 := Lib.hid hs3
  have hT3 : T.size ≤ 300 := by omega
  clear hs3
  go_enter Tryd.func3, Tryd.ntmps3
  go_wp2_with fail
  refine (sane_any _ HT.out).mono ?_
  rintro e w1 ⟨rfl, hb1⟩
  go_wp2_with fail
  refine (number_any _ _ hn0 hn1).mono ?_
  obtain ⟨x, hx⟩ : ∃ x, numF n = x := ⟨_, rfl⟩
  rw [hx]
  clear hx
  rintro e w2 ⟨rfl, hb2⟩
  go_wp2_with fail
  have HB2 : Hid (Below w.heap.size w (w2.alloc (.cells #[.int .i64 n, .int .i64 x] 3))) := (bstep hb1 hb2).alloc (bstep hb1 hb2).size _
  have HI2 : Hid (TwoAt (w2.alloc (.cells #[.int .i64 n, .int .i64 x] 3)) w2.heap.size n x) := TwoAt.new w2 n x
  clear hb1 hb2 hs1 hs2 hs4 hs5
  go_loopw [44] (fun i wr => ∃ j : Nat, j ≤ 2 ∧ i = .int .i64 j ∧ Hid (Below w.heap.size w wr) ∧ Hid (TwoAt wr w2.heap.size n x)) (fun i _ => 2 - (intOf i).toNat)
  case atStart => exact ⟨0, by omega, rfl, HB2, HI2⟩
  case round =>
    obtain ⟨j, hj, rfl, HBr, HCr⟩ := hrel
    clear HB2 HI2
    by_cases hj2 : j = 2
    · subst hj2
      go_wp2_with fail
      refine (pick_any _ _ _ ha0 ha1 (by omega) (by omega)).mono ?_
      obtain ⟨p, hp⟩ : ∃ p, pickI at_ (T.size + 2) = p := ⟨_, rfl⟩
      rw [hp]
      clear hp
      rintro e w' ⟨rfl, rfl⟩
      go_wp2_with fail
      have HB3 : Hid (Below w.heap.size w (wr.alloc (.cells #[.int .i64 at_, .int .i64 p] 3))) := HBr.out.alloc HBr.out.size _
      have HI3 : Hid (TwoAt (wr.alloc (.cells #[.int .i64 at_, .int .i64 p] 3)) wr.heap.size at_ p) := TwoAt.new wr at_ p
      obtain ⟨wo, hwo⟩ : ∃ wo : World, wo = wr := ⟨_, rfl⟩
      rw [← hwo] at HB3 HI3 HBr ⊢
      clear hwo HCr
      go_loopw [75] (fun i wr => ∃ j : Nat, j ≤ 2 ∧ i = .int .i64 j ∧ Hid (Below w.heap.size w wr) ∧ Hid (TwoAt wr wo.heap.size at_ p)) (fun i _ => 2 - (intOf i).toNat)
      case atStart => exact ⟨0, by omega, rfl, HB3, HI3⟩
      case round =>
        obtain ⟨j, hj, rfl, HBq, HCq⟩ := hrel
        clear HB3 HI3 HBr
        by_cases hj2 : j = 2
        · subst hj2
          go_wp2_with fail
          refine (putString_any _ _ (small_len _ (by omega))).mono ?_
          obtain ⟨A, hA⟩ : ∃ A : ByteArray, ByteArray.mk (putSL T.data.toList).toArray = A := ⟨_, rfl⟩
          obtain ⟨pe, hpe⟩ : ∃ pe, putSE T.data.toList = pe := ⟨_, rfl⟩
          rw [hA, hpe]
          rintro e w3 ⟨rfl, hb3⟩
          have HA := Lib.hid hA
          have HPE := Lib.hid hpe
          clear hA hpe
          go_wp2_with fail
          refine (refPutString_any _ _ (small_len _ (by omega))).mono ?_
          rw [HA.out, HPE.out]
          rintro e w4 ⟨rfl, hb4⟩
          have HB5 := Lib.hid (bstep (bstep HBq.out hb3) hb4)
          have HT4 := Lib.hid (HT.out.below HB5.out h0)
          clear hb3 hb4
          have q1 : (A.toList == A.toList) = true := by simp
          have q2 : (pe == pe) = true := by simp
          go_wp2_with fail
          refine (sum_any _ _ (small_len _ (by omega)) HT4.out).mono ?_
          obtain ⟨sm, hsm⟩ : ∃ sm, sumL T.data.toList = sm := ⟨_, rfl⟩
          rw [hsm]
          have HSM := Lib.hid hsm
          clear hsm
          rintro e w' ⟨rfl, rfl⟩
          go_wp2_with fail
          refine (refSum_any _ _ (small_len _ (by omega))).mono ?_
          rw [HSM.out]
          rintro e w' ⟨rfl, rfl⟩
          have q3 : (sm == sm) = true := by simp
          go_wp2_with fail
          go_ret
          exact ⟨rfl, HB5.out⟩
        · have hj3 : (j : Int) < 2 := by omega
          obtain ⟨z, _, hzc⟩ := HCq.out.get j (by omega)
          obtain ⟨i1, i2, i3, hi⟩ : ∃ a b c, intR T.data.toList z = (a, b, c) := ⟨_, _, _, rfl⟩
          obtain ⟨t1, t2, t3, hst⟩ : ∃ a b c, strR T.data.toList z = (a, b, c) := ⟨_, _, _, rfl⟩
          have HI := Lib.hid hi
          have HS := Lib.hid hst
          clear hi hst
          go_wp2_with fail
          refine (int_any _ _ _ (small_len _ (by omega))).mono ?_
          rw [HI.out]
          rintro e w' ⟨rfl, rfl⟩
          go_wp2_with fail
          refine (refInt_any _ _ _ (small_len _ (by omega))).mono ?_
          rw [HI.out]
          rintro e w3 ⟨rfl, hb3⟩
          go_wp2_with fail
          refine (string_any _ _ _ (small_len _ (by omega))).mono ?_
          rw [HS.out]
          obtain ⟨A, hA⟩ : ∃ A : ByteArray, ByteArray.mk t1.toArray = A := ⟨_, rfl⟩
          rw [hA]
          rintro e w' ⟨rfl, rfl⟩
          go_wp2_with fail
          refine (refString_any _ _ _ (small_len _ (by omega))).mono ?_
          rw [HS.out, hA]
          rintro e w4 ⟨rfl, hb4⟩
          have HB5 : Hid (Below w.heap.size w w4) := bstep (bstep HBq.out hb3) hb4
          have HC5 : Hid (TwoAt w4 wo.heap.size at_ p) := (HCq.out.step hb3).step hb4
          clear hb3 hb4 hA HBq HCq hzc
          have q1 : (A.toList == A.toList) = true := by simp
          have q2 : (A.toList != A.toList) = false := by simp
          have q3 : (i1 == i1) = true := by simp
          have q4 : (i1 != i1) = false := by simp
          have q5 : (i2 != i2) = false := by simp
          have q6 : (i3 != i3) = false := by simp
          have q7 : (t2 != t2) = false := by simp
          have q8 : (t3 != t3) = false := by simp
          go_wp2_with fail
          go_roundw
          case rel => exact ⟨j + 1, by omega, by go_num, HB5, HC5⟩
          case measure => simp [intOf]; omega
    · have hj3 : (j : Int) < 2 := by omega
      obtain ⟨z, _, hzc⟩ := HCr.out.get j (by omega)
      obtain ⟨A, hA⟩ : ∃ A : ByteArray, ByteArray.mk (putL z).toArray = A := ⟨_, rfl⟩
      obtain ⟨pe, hpe⟩ : ∃ pe, putE z = pe := ⟨_, rfl⟩
      have HA := Lib.hid hA
      have HPE := Lib.hid hpe
      clear hA hpe
      go_wp2_with fail
      refine (putInt_any _ _).mono ?_
      rw [HA.out, HPE.out]
      rintro e w3 ⟨rfl, hb3⟩
      go_wp2_with fail
      refine (refPut_any _ _).mono ?_
      rw [HA.out, HPE.out]
      rintro e w4 ⟨rfl, hb4⟩
      have HB5 : Hid (Below w.heap.size w w4) := bstep (bstep HBr.out hb3) hb4
      have HC5 : Hid (TwoAt w4 w2.heap.size n x) := (HCr.out.step hb3).step hb4
      clear hb3 hb4 HBr HCr hzc
      have q1 : (A.toList == A.toList) = true := by simp
      have q2 : (A.toList != A.toList) = false := by simp
      have q4 : (pe != pe) = false := by simp
      go_wp2_with fail
      go_roundw
      case rel => exact ⟨j + 1, by omega, by go_num, HB5, HC5⟩
      case measure => simp [intOf]; omega
end Go.Proofs.YthmdiminiolipaaDoor
