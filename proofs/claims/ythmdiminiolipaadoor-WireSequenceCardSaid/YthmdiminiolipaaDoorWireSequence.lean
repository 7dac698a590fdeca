/-
  The walk of the law WireSequence.
-/
import Derived.WalkKit
import Derived.LoopTactic
import Derived.OwnWalk
import Derived.WalkSpells
import Derived.WalkLawsBesides
import Derived.RegionTactic
import Derived.Deep.RegionHeld3
import Derived.Deep.DeepCutAuto
import Derived.ChangeAlike
import Derived.Lib.Hide
import Derived.IntWalk
import Derived.Test.YthmdiminiolipaaDoorWireSane
import Derived.Test.YthmdiminiolipaaDoorWireHelp
import Derived.Test.YthmdiminiolipaaDoorWireLaws
set_option linter.unusedVariables false
set_option linter.unusedSimpArgs false
namespace Go.Proofs.YthmdiminiolipaaDoor
open Go.RowKit Onair
/-- The strings, cut to 100 bytes. -/
def cutT (ts : Nat → ByteArray) (i : Nat) : List UInt8 := ((ts i).extract 0 (min 100 (ts i).size)).data.toList
theorem cutT_len (ts : Nat → ByteArray) (i : Nat) : (cutT ts i).length ≤ 100 := by
  unfold cutT; rw [len_data]; simp; omega
theorem min_cut' (s : ByteArray) (b : Nat) : ∃ (m : Nat) (T : ByteArray), m ≤ s.size ∧ m ≤ b ∧ T.size = m ∧ (if (b : Int) < (s.size : Int) then (b : Int) else (s.size : Int)) = (m : Int) ∧ s.extract 0 m = T ∧ T = s.extract 0 (min b s.size) := by
  refine ⟨min b s.size, s.extract 0 (min b s.size), by omega, by omega, by simp, ?_, rfl, rfl⟩
  split <;> omega
set_option maxHeartbeats 4000000 in
set_option maxRecDepth 100000 in
theorem walkSeqN (bl ol ll cl bt ot lt ct : Nat) (zs : Nat → Int) (ts : Nat → ByteArray) (w : World) (hll : ll ≤ cl) (hlt : lt ≤ ct) (hcl : cl ≤ maxLen) (hct : ct ≤ maxLen)
    (hlc : ∀ i, i < ll → w.cell? ⟨bl, ol + i, none⟩ = some (.int .i64 (zs i))) (hz0 : ∀ i, -9223372036854775808 ≤ zs i) (hz1 : ∀ i, zs i ≤ 9223372036854775807)
    (htc : ∀ i, i < lt → w.cell? ⟨bt, ot + i, none⟩ = some (.string (ts i))) (hts : ∀ i, (ts i).size ≤ maxLen) (hbl : bl < w.heap.size) (hbt : bt < w.heap.size) (ht : TabAt w) :
    Calls Tryd.prog 6 #[.slice (some ⟨bl, ol, none⟩) ll cl, .slice (some ⟨bt, ot, none⟩) lt ct] w fun e w' => e = .returned (.bool true) ∧ Below w.heap.size w w' := by
  unfold maxLen at hcl hct
  have HT := Lib.hid ht
  have HLC := Lib.hid hlc
  have HTC := Lib.hid htc
  have HZ0 := Lib.hid hz0
  have HZ1 := Lib.hid hz1
  have HTS := Lib.hid hts
  clear ht hlc htc hz0 hz1 hts
  obtain ⟨m1, hm1, hm2, hin⟩ : ∃ m : Nat, m ≤ ll ∧ m ≤ lt ∧ (if lt < ll then (lt : Int) else (ll : Int)) = (m : Int) := ⟨min ll lt, by omega, by omega, by split <;> omega⟩
  obtain ⟨n, hn1, hn3, hout⟩ : ∃ n : Nat, n ≤ m1 ∧ n ≤ 20 ∧ (if (20 : Int) < (m1 : Int) then (20 : Int) else (m1 : Int)) = (n : Int) := ⟨min m1 20, by omega, by omega, by split <;> omega⟩
  go_enter Tryd.func6, Tryd.ntmps6
  go_wp2_with fail
  refine (sane_any _ HT.out).mono ?_
  rintro e w1 ⟨rfl, hb1⟩
  have HB1 := Lib.hid hb1
  clear hb1
  go_wp2_with fail
  clear hin hout
  have hnl : n ≤ ll := by omega
  have hnt : n ≤ lt := by omega
  clear hn1 hm1 hm2
  go_loopw [7, 8] (fun v i wr => ∃ (k : Nat) (S : ByteArray), k ≤ n ∧ i = .int .i64 k ∧ v = .string S ∧ Hid (S.data.toList = seqL (fun i => numF (zs i)) (cutT ts) k) ∧ S.size ≤ 300 * k ∧ Hid (Below w.heap.size w wr)) (fun _ i _ => n - (intOf i).toNat)
  case atStart => exact ⟨0, _, by omega, rfl, rfl, rfl, by decide, HB1⟩
  case round =>
    obtain ⟨k, S, hk, rfl, rfl, HS, hSz, HBr⟩ := hrel
    clear HB1
    by_cases hkn : k = n
    · subst hkn
      have hkk : ¬ (k : Int) < k := by omega
      go_wp2_with fail
      go_loopw [13, 14] (fun v i wr => ∃ (j : Nat), j ≤ k ∧ i = .int .i64 j ∧ v = .int .i64 ((seqL (fun i => numF (zs i)) (cutT ts) j).length : Int) ∧ Hid (Below w.heap.size w wr)) (fun _ i _ => k - (intOf i).toNat)
      case atStart => exact ⟨0, by omega, rfl, rfl, HBr⟩
      case round =>
        obtain ⟨j, hj, rfl, rfl, HBq⟩ := hrel
        clear HBr
        have hlen : ∀ i, i ≤ k → (seqL (fun i => numF (zs i)) (cutT ts) i).length ≤ S.size := by
          intro i hi
          obtain ⟨r, hr⟩ := seqL_split (fun i => numF (zs i)) (cutT ts) i k hi
          rw [← len_data S, HS.out, hr, List.length_append]
          omega
        have hlen2 : ∀ i, i < k → (seqL (fun i => numF (zs i)) (cutT ts) i ++ putL (numF (zs i))).length ≤ S.size := by
          intro i hi
          have := hlen (i + 1) hi
          rw [seqL_succ, List.length_append] at this
          omega
        by_cases hjk : j = k
        · subst hjk
          have hjj : ¬ (j : Int) < j := by omega
          have hLz : (seqL (fun i => numF (zs i)) (cutT ts) j).length = S.size := by rw [← HS.out, len_data]
          rw [hLz]
          clear hlen hlen2 hLz
          have hee : ((S.size : Int) == S.size) = true := by simp
          go_wp2_with fail
          refine (int_any _ _ _ (small_len _ (by omega))).mono ?_
          have he := seq_end S.data.toList
          rw [len_data] at he
          rw [he]
          clear he
          rintro e w' ⟨rfl, rfl⟩
          go_wp2_with fail
          go_ret
          exact ⟨rfl, HBq.out⟩
        · have hjk' : (j : Int) < k := by omega
          have hl1 := hlen j hj
          have hl2 := hlen2 j (by omega)
          have hl3 := hlen (j + 1) (by omega)
          have HI := Lib.hid (seq_int (fun i => numF (zs i)) (cutT ts) j k (by omega) (numF_ok (zs j)))
          have HSt := Lib.hid (seq_str (fun i => numF (zs i)) (cutT ts) j k (by omega) (by have := cutT_len ts j; omega))
          clear hlen hlen2
          obtain ⟨p0, hp0⟩ : ∃ p, (seqL (fun i => numF (zs i)) (cutT ts) j).length = p := ⟨_, rfl⟩
          obtain ⟨p1, hp1⟩ : ∃ p, (seqL (fun i => numF (zs i)) (cutT ts) j ++ putL (numF (zs j))).length = p := ⟨_, rfl⟩
          obtain ⟨p2, hp2⟩ : ∃ p, (seqL (fun i => numF (zs i)) (cutT ts) (j + 1)).length = p := ⟨_, rfl⟩
          have HP2 := Lib.hid hp2
          rw [hp0] at hl1 HI ⊢
          rw [hp1] at hl2 HI HSt
          rw [hp2] at hl3 HSt
          clear hp0 hp1 hp2
          rw [← HS.out] at HI HSt
          go_wp2_with fail
          refine (int_any _ _ _ (small_len _ (by omega))).mono ?_
          rw [HI.out]
          rintro e w' ⟨rfl, rfl⟩
          go_wp2_with fail
          refine (string_any _ _ _ (small_len _ (by omega))).mono ?_
          rw [HSt.out]
          obtain ⟨mT, T, hT1, hT2, hT3, hT4, hT5, hT6⟩ := min_cut' (ts j) 100
          rw [show ((100 : Nat) : Int) = 100 from rfl] at hT4
          rw [show ByteArray.mk (cutT ts j).toArray = T from by rw [hT6]; exact bmk _]
          clear hT6
          rintro e w' ⟨rfl, rfl⟩
          have hc1 : wr.cell? ⟨bl, ol + j, none⟩ = some (.int .i64 (zs j)) := (HBq.out.cell (p := ⟨bl, ol + j, none⟩) hbl).trans (HLC.out j (by omega))
          have hc2 : wr.cell? ⟨bt, ot + j, none⟩ = some (.string (ts j)) := (HBq.out.cell (p := ⟨bt, ot + j, none⟩) hbt).trans (HTC.out j (by omega))
          have hzq := HBq.out.size
          have hi1 : (j : Int) < ll := by omega
          have hi2 : (j : Int) < lt := by omega
          have hbl3 : bl < wr.heap.size := by omega
          have hbt3 : bt < wr.heap.size := by omega
          have hTs := HTS.out j
          unfold maxLen at hTs
          have q1 : (numF (zs j) == numF (zs j)) = true := by simp
          have q2 : (T.toList == T.toList) = true := by simp
          have q3 : (numF (zs j) != numF (zs j)) = false := by simp
          have q4 : (T.toList != T.toList) = false := by simp
          have hz0 := HZ0.out j
          have hz1 := HZ1.out j
          go_wp2_with fail
          go_region_held3 (fun w' => w'.cell? ⟨bl, ol + j, none⟩ = some (.int .i64 (zs j)) ∧ w'.cell? ⟨bt, ot + j, none⟩ = some (.string (ts j))) (first | go_keep | exact ⟨(hb4.cell (p := ⟨bl, ol + j, none⟩) hbl3).trans hc1, (hb4.cell (p := ⟨bt, ot + j, none⟩) hbt3).trans hc2⟩)
            (first | (go_at_call 11; refine (number_any _ _ hz0 hz1).mono ?_; rintro e w4 ⟨rfl, hb4⟩))
          have HB4 : Hid (Below w.heap.size w w4) := bstep HBq.out.drew hb4
          clear hb4 hc1 hc2 hT1 hT2 hT3 hT4 hT5 HBq
          go_wp2_with fail
          go_roundw
          case rel => exact ⟨j + 1, by omega, by go_num, by rw [HP2.out], HB4⟩
          case measure => simp [intOf]; omega
    · have hkn' : (k : Int) < n := by omega
      have hc1 : wr.cell? ⟨bl, ol + k, none⟩ = some (.int .i64 (zs k)) := (HBr.out.cell (p := ⟨bl, ol + k, none⟩) hbl).trans (HLC.out k (by omega))
      have hi1 : (k : Int) < ll := by omega
      have hi2 : (k : Int) < lt := by omega
      go_wp2_with fail
      refine (number_any _ _ (HZ0.out k) (HZ1.out k)).mono ?_
      obtain ⟨x, hx⟩ : ∃ x, numF (zs k) = x := ⟨_, rfl⟩
      have hox := numF_ok (zs k)
      rw [hx] at hox ⊢
      have HX := Lib.hid hx
      have HOX := Lib.hid hox
      clear hx hox
      rintro e w2 ⟨rfl, hb2⟩
      go_wp2_with fail
      refine (putInt_any _ _).mono ?_
      rw [show putE x = 0 from by unfold putE; rw [HOX.out]; rfl]
      obtain ⟨A, hA⟩ : ∃ A : ByteArray, ByteArray.mk (putL x).toArray = A := ⟨_, rfl⟩
      rw [hA]
      have HA : Hid (A.data.toList = putL x) := by rw [← hA]; exact rfl
      have hA9 : A.size ≤ 9 := by rw [← hA]; exact putL_len x
      clear hA
      rintro e w3 ⟨rfl, hb3⟩
      have hB3 := bstep (bstep HBr.out hb2) hb3
      have HB3 := Lib.hid hB3
      have hz3 := hB3.size
      have hc2 : w3.cell? ⟨bt, ot + k, none⟩ = some (.string (ts k)) := (HB3.out.cell (p := ⟨bt, ot + k, none⟩) hbt).trans (HTC.out k (by omega))
      clear hb2 hb3 HBr hc1 hB3
      obtain ⟨mT, T, hT1, hT2, hT3, hT4, hT5, hT6⟩ := min_cut' (ts k) 100
      rw [show ((100 : Nat) : Int) = 100 from rfl] at hT4
      have hTs := HTS.out k
      unfold maxLen at hTs
      have HT6 : Hid (T.data.toList = cutT ts k) := by rw [hT6]; exact rfl
      clear hT6
      have hTz : T.size ≤ 100 := by omega
      go_wp2_with fail
      have hbt3 : bt < w3.heap.size := by omega
      go_region_held3 (fun w' => w'.cell? ⟨bt, ot + k, none⟩ = some (.string (ts k))) (first | go_keep | exact (hb4.cell (p := ⟨bt, ot + k, none⟩) hbt3).trans hc2)
        (first | (go_at_call 19; refine (putString_any T _ (small_len _ (by omega))).mono ?_; rintro e w4 ⟨rfl, hb4⟩))
      rw [show putSE T.data.toList = 0 from by unfold putSE; rw [len_data, if_neg (by omega)]]
      obtain ⟨C, hC⟩ : ∃ C : ByteArray, ByteArray.mk (putSL T.data.toList).toArray = C := ⟨_, rfl⟩
      rw [hC]
      have HC : Hid (C.data.toList = putSL T.data.toList) := by rw [← hC]; exact rfl
      have hCz : C.size ≤ 109 := by
        rw [← hC]
        show (putSL T.data.toList).length ≤ 109
        have := putSL_len T.data.toList (by rw [len_data]; omega)
        rw [len_data] at this
        omega
      have HB4 : Hid (Below w.heap.size w w4) := bstep HB3.out.drew hb4
      clear hC hb4 hc2 hT1 hT2 hT3 hT4 hT5 HB3
      have HS2 : Hid ((S ++ A ++ C).data.toList = seqL (fun i => numF (zs i)) (cutT ts) (k + 1)) := by
        show _ = _
        rw [seqL_succ, ← HS.out, HX.out, ← HA.out, ← HT6.out, ← HC.out]
        simp
      have hz4 : (S ++ A ++ C).size ≤ 300 * (k + 1) := by simp; omega
      go_wp2_with fail
      go_roundw
      case rel => exact ⟨k + 1, _, by omega, by go_num, rfl, HS2, hz4, HB4⟩
      case measure => simp [intOf]; omega
set_option maxHeartbeats 4000000 in
set_option maxRecDepth 100000 in
theorem walkSeq0 (al at_ : Option Addr) (ll cl lt ct : Nat) (w : World) (hcl : ll ≤ maxLen) (hct : lt ≤ maxLen) (h : ll = 0 ∨ lt = 0) (ht : TabAt w) :
    Calls Tryd.prog 6 #[.slice al ll cl, .slice at_ lt ct] w fun e w' => e = .returned (.bool true) ∧ Below w.heap.size w w' := by
  unfold maxLen at hcl hct
  have HT := Lib.hid ht
  clear ht
  obtain ⟨m1, hm1, hin⟩ : ∃ m : Nat, m = 0 ∧ (if lt < ll then (lt : Int) else (ll : Int)) = (m : Int) := ⟨0, rfl, by split <;> omega⟩
  have hout : (if (20 : Int) < (m1 : Int) then (20 : Int) else (m1 : Int)) = 0 := by split <;> omega
  have hm0 : m1 ≤ 0 := by omega
  clear hm1 h
  go_enter Tryd.func6, Tryd.ntmps6
  go_wp2_with fail
  refine (sane_any _ HT.out).mono ?_
  rintro e w1 ⟨rfl, hb1⟩
  have HB1 := Lib.hid hb1
  clear hb1
  go_wp2_with fail
  clear hin hout
  go_loopw [7, 8] (fun v i wr => i = .int .i64 0 ∧ v = .string ⟨#[]⟩ ∧ Hid (Below w.heap.size w wr)) (fun _ _ _ => 0)
  case atStart => exact ⟨rfl, rfl, HB1⟩
  case round =>
    obtain ⟨rfl, rfl, HBr⟩ := hrel
    go_wp2_with fail
    go_loopw [13, 14] (fun v i wr => i = .int .i64 0 ∧ v = .int .i64 0 ∧ Hid (Below w.heap.size w wr)) (fun _ _ _ => 0)
    case atStart => exact ⟨rfl, rfl, HBr⟩
    case round =>
      obtain ⟨rfl, rfl, HBq⟩ := hrel
      go_wp2_with fail
      refine (int_any _ _ _ (small_len _ (by decide))).mono ?_
      rw [show intR (ByteArray.mk #[]).data.toList 0 = (0, 0, 10) from by decide]
      rintro e w' ⟨rfl, rfl⟩
      go_wp2_with fail
      go_ret
      exact ⟨rfl, HBq.out⟩
theorem walkSequence (ol ot : Option Addr) (ll cl lt ct : Nat) (zs : Nat → Int) (ts : Nat → ByteArray) (w : World) (hll : ll ≤ cl) (hlt : lt ≤ ct) (hcl : cl ≤ maxLen) (hct : ct ≤ maxLen)
    (hz : ∀ i, -9223372036854775808 ≤ zs i ∧ zs i ≤ 9223372036854775807) (hts : ∀ i, (ts i).size ≤ maxLen)
    (hl : ll = 0 ∨ ∃ b off, ol = some ⟨b, off, none⟩ ∧ b < w.heap.size ∧ ∀ i, i < ll → w.cell? ⟨b, off + i, none⟩ = some (.int .i64 (zs i)))
    (hs : lt = 0 ∨ ∃ b off, ot = some ⟨b, off, none⟩ ∧ b < w.heap.size ∧ ∀ i, i < lt → w.cell? ⟨b, off + i, none⟩ = some (.string (ts i))) (ht : TabAt w) :
    Calls Tryd.prog 6 #[.slice ol ll cl, .slice ot lt ct] w fun e w' => e = .returned (.bool true) ∧ Below w.heap.size w w' := by
  rcases hl with h0 | ⟨bl, fl, rfl, hbl, hlc⟩
  · exact walkSeq0 _ _ _ _ _ _ w (Nat.le_trans hll hcl) (Nat.le_trans hlt hct) (.inl h0) ht
  · rcases hs with h0 | ⟨bt, ft, rfl, hbt, htc⟩
    · exact walkSeq0 _ _ _ _ _ _ w (Nat.le_trans hll hcl) (Nat.le_trans hlt hct) (.inr h0) ht
    · exact walkSeqN bl fl ll cl bt ft lt ct zs ts w hll hlt hcl hct hlc (fun i => (hz i).1) (fun i => (hz i).2) htc hts hbl hbt ht
end Go.Proofs.YthmdiminiolipaaDoor
