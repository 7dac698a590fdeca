/-
  The walk of the law CaptionFits.
-/
import Derived.WalkKit
import Derived.LoopTactic
import Derived.WalkSpells
import Derived.WalkLawsBesides
import Derived.RegionTactic
import Derived.BigRegion
import Derived.Deep.QuietTactic
import Derived.BigQuiet
import Derived.IntWalk
import Derived.Outline
import Derived.Lib.BufferRead
import Derived.Test.YtjmfhdnckgelaaaCapSane
import Derived.Test.YtjmfhdnckgelaaaCapFitP
set_option linter.unusedVariables false
set_option linter.unusedSimpArgs false
namespace Go.Proofs.Ytjmfhdnckgelaaa
open Go.RowKit Go.ChangeShapes Go.WideShapes
theorem conv_one (wr : World) (c : UInt8) : (convert 42 9 (.slice (some ⟨wr.heap.size, 0, none⟩) 1 1)).run Try.prog (wr.alloc (.cells #[.int .u8 (c.toNat : Int)] 5)) = .ok (.string ⟨#[c]⟩) (wr.alloc (.cells #[.int .u8 (c.toNat : Int)] 5)) := by
  have h : Blk (wr.alloc (.cells #[.int .u8 (c.toNat : Int)] 5)) wr.heap.size 5 [.int .u8 (c.toNat : Int)] := Blk.new wr _ _
  exact run_convert_bytes_back (P := Try.prog) _ 42 9 5 ⟨wr.heap.size, 0, none⟩ 1 [c] Try.underlying42 Try.underlying5 Try.underlying9 (fun j hj => by
    have hj0 : j = 0 := by simp at hj; exact hj
    subst hj0
    rw [show ((⟨wr.heap.size, 0, none⟩ : Addr).add 0) = ⟨wr.heap.size, 0, none⟩ from rfl, h.cell]
    rfl)
theorem add_data (a b : ByteArray) : (a ++ b).data.toList = a.data.toList ++ b.data.toList := by simp
/-- The text at the head of the outer loop. -/
def textAt (w : List UInt8) (n i : Nat) : List UInt8 := if i < n then wordsSp w i else joinSp (List.replicate n w)
set_option maxHeartbeats 8000000 in
set_option maxRecDepth 100000 in
theorem walkFits0 (n0 s0 : Int) (l0 c : UInt8) (W : World) (hn0 : -9223372036854775808 ≤ n0) (hn1 : n0 ≤ 9223372036854775807) (hs0 : -9223372036854775808 ≤ s0) (hs1 : s0 ≤ 9223372036854775807)
    (hcc : (¬ (l0.toNat : Int) ≤ 32 ∧ (l0.toNat : Int) ≤ 126 ∧ c = l0) ∨ ((l0.toNat : Int) ≤ 32 ∧ c = 120) ∨ (¬ (l0.toNat : Int) ≤ 32 ∧ 126 < (l0.toNat : Int) ∧ c = 120)) (hc1 : 32 < c) (hc2 : c ≤ 126) :
    Calls Try.prog 6 #[.int .i64 n0, .int .i64 s0, .int .u8 (l0.toNat : Int)] W fun e w' => e = .returned (.bool true) ∧ Below W.heap.size W w' := by
  obtain ⟨M, hM⟩ : ∃ M : Int, (if n0 < 1 then (1 : Int) else n0) = M := ⟨_, rfl⟩
  obtain ⟨n, hn⟩ : ∃ n : Nat, (if (40 : Int) < M then (40 : Int) else M) = (n : Int) := ⟨(if (40 : Int) < M then (40 : Int) else M).toNat, by split at hM <;> split <;> omega⟩
  have hnb : 1 ≤ n ∧ n ≤ 40 := by split at hM <;> split at hn <;> omega
  obtain ⟨K, hK⟩ : ∃ K : Int, (if s0 < 1 then (1 : Int) else s0) = K := ⟨_, rfl⟩
  obtain ⟨z, hz⟩ : ∃ z : Nat, (if (40 : Int) < K then (40 : Int) else K) = (z : Int) := ⟨(if (40 : Int) < K then (40 : Int) else K).toNat, by split at hK <;> split <;> omega⟩
  have hzb : 1 ≤ z ∧ z ≤ 40 := by split at hK <;> split at hz <;> omega
  obtain ⟨hnb1, hnb2⟩ := hnb
  obtain ⟨hzb1, hzb2⟩ := hzb
  have HC1 := Lib.hid hc1
  have HC2 := Lib.hid hc2
  clear hc1 hc2
  obtain ⟨w, hw⟩ : ∃ w, List.replicate z c = w := ⟨_, rfl⟩
  have hwl : w.length = z := by rw [← hw]; simp
  have HW := Lib.hid hw
  have HWL := Lib.hid hwl
  clear hw hwl
  have h120 : ((120 : UInt8).toNat : Int) = 120 := rfl
  have hcv := fun wr : World => conv_one wr c
  obtain ⟨r, hr⟩ : ∃ r : Nat, rowCap z = r := ⟨_, rfl⟩
  have hrI : (33 : Int) / ((z : Int) + 1) = (r : Int) := by rw [← hr]; exact (Int.natCast_ediv 33 (z + 1)).symm
  have hrb : r ≤ 33 := by rw [← hr]; unfold rowCap; exact Nat.div_le_self _ _
  have hr0 : z ≤ 32 → 1 ≤ r := fun h => by rw [← hr]; exact rowCap_pos z h
  have HR0 := Lib.hid hr0
  have HSF := Lib.hid (same_fits c z n hzb1 hnb1 HC1.out HC2.out)
  rw [HW.out, hr] at HSF
  clear hr hr0
  rcases hcc with ⟨q1, q2, rfl⟩ | ⟨q1, rfl⟩ | ⟨q1, q2, rfl⟩
  all_goals
    try simp only [h120] at hcv
    go_enter Try.func6, Try.ntmps6
    go_wp2_with fail
    refine (sane_any _).mono ?_
    rintro e w1 ⟨rfl, hb1⟩
    have HB1 := Lib.hid hb1
    clear hb1
    go_wp2_with fail
    clear hM hn hK hz h120 q1
    go_loopw [8, 9] (fun t i wr => ∃ (k : Nat) (S : ByteArray), k ≤ n ∧ i = .int .i64 k ∧ t = .string S ∧ S.size ≤ 1700 ∧ Hid (S.data.toList = textAt w n k) ∧ Hid (Below W.heap.size W wr)) (fun _ i _ => n - (intOf i).toNat)
    case atStart => exact ⟨0, _, Nat.zero_le _, rfl, rfl, by decide, by show _ = _; unfold textAt; rw [if_pos (by omega)]; rfl, HB1⟩
    case round =>
      clear HB1
      obtain ⟨k, S, hk, rfl, rfl, hSz, HS, HB⟩ := hrel
      by_cases hkn : k < n
      · have hkn' : (k : Int) < n := by omega
        have HS2 : Hid (S.data.toList = wordsSp w k) := by
          have := HS.out
          unfold textAt at this
          rwa [if_pos hkn] at this
        clear HS
        obtain ⟨wo, rfl⟩ : ∃ wo : World, wo = wr := ⟨_, rfl⟩
        go_wp2_with fail
        go_loopw [8, 10] (fun t i wr => ∃ (m : Nat) (S' : ByteArray), m ≤ z ∧ i = .int .i64 m ∧ t = .string S' ∧ Hid (S'.data.toList = wordsSp w k ++ w.take m) ∧ Hid (Below W.heap.size W wr)) (fun _ i _ => z - (intOf i).toNat)
        case atStart => exact ⟨0, _, Nat.zero_le _, rfl, rfl, by show _ = _; rw [List.take_zero, List.append_nil]; exact HS2.out, HB⟩
        case round =>
          clear HS2 HB
          obtain ⟨m, S', hm, rfl, rfl, HS', HB'⟩ := hrel
          have hSz' : S'.size ≤ 1680 := by
            have h1 := congrArg List.length HS'.out
            rw [dlen, List.length_append, wordsSp_len, HWL.out, List.length_take] at h1
            have h2 : k * (z + 1) ≤ 39 * 41 := Nat.mul_le_mul (by omega) (by omega)
            omega
          by_cases hmz : m < z
          · have hmz' : (m : Int) < z := by omega
            have hcw := hcv wr
            have HS3 : ∀ c : UInt8, List.replicate z c = w → Hid ((S' ++ ⟨#[c]⟩).data.toList = wordsSp w k ++ w.take (m + 1)) := fun c e => by
              show _ = _
              rw [add_data, HS'.out, List.append_assoc, ← e, List.take_replicate, List.take_replicate, show min (m + 1) z = min m z + 1 by omega, List.replicate_succ']
            have HS4 := HS3 _ HW.out
            clear HS3
            go_wp2_with fail
            go_roundw
            case rel => exact ⟨m + 1, _, by omega, by go_num, rfl, HS4, Lib.hid (HB'.out.alloc HB'.out.size _)⟩
            case measure => simp [intOf]; omega
          · obtain rfl : m = z := by omega
            have hmz' : ¬ (m : Int) < m := by omega
            have HS5 : Hid (S'.data.toList = wordsSp w k ++ w) := by
              have := HS'.out
              rwa [List.take_of_length_le (by rw [HWL.out]; exact Nat.le_refl _)] at this
            clear HS'
            by_cases hlast : k + 1 < n
            · have hlast' : (k : Int) + 1 < n := by omega
              have HS6 : Hid ((S' ++ ⟨#[32]⟩).data.toList = textAt w n (k + 1)) := by
                show _ = _
                unfold textAt
                rw [if_pos hlast, add_data, HS5.out, wordsSp_succ]
              have hsz6 : (S' ++ ⟨#[32]⟩).size ≤ 1700 := by
                rw [ByteArray.size_append]
                show S'.size + 1 ≤ 1700
                omega
              go_wp2_with fail
              go_roundw
              case rel => exact ⟨k + 1, _, by omega, by go_num, rfl, hsz6, HS6, HB'⟩
              case measure => simp [intOf]; omega
            · have hlast' : ¬ (k : Int) + 1 < n := by omega
              have HS6 : Hid (S'.data.toList = textAt w n (k + 1)) := by
                show _ = _
                unfold textAt
                rw [if_neg hlast, HS5.out, wordsSp_join, show k + 1 = n by omega]
              go_wp2_with fail
              go_roundw
              case rel => exact ⟨k + 1, _, by omega, by go_num, rfl, by omega, HS6, HB'⟩
              case measure => simp [intOf]; omega
      · obtain rfl : k = n := by omega
        have hkn' : ¬ (k : Int) < k := by omega
        have HT : Hid (S.data.toList = joinSp (List.replicate k w)) := by
          have := HS.out
          unfold textAt at this
          rwa [if_neg hkn] at this
        clear HS
        go_wp2_with fail
        refine (rows_any S _ (small_len S (by omega))).mono ?_
        obtain ⟨f1, f2⟩ := HSF.out
        rw [← HT.out] at f1 f2
        have HF1 := Lib.hid f1
        have HF2 := Lib.hid f2
        clear f1 f2
        cases hf : fitsB S.data.toList
        · have h3 : ¬ (z ≤ 32 ∧ k ≤ 4 * r ∧ S.size ≤ 200) := fun h => by
            have := HF1.out
            rw [hf, decide_eq_true h.1, decide_eq_true h.2.1, dlen, decide_eq_true h.2.2] at this
            exact absurd this (by decide)
          clear hf
          rintro e w2 ⟨v, rfl, ho2, hb2⟩
          have HB2 := Lib.hid (bstep HB.out hb2)
          obtain ⟨o2, c2, rfl⟩ := own_slice ho2
          clear ho2 hb2
          generalize (rowsR S.data.toList).length = N
          rcases (show ¬ (z : Int) ≤ 32 ∨ ((z : Int) ≤ 32 ∧ ¬ (k : Int) ≤ 4 * r) ∨ ((z : Int) ≤ 32 ∧ (k : Int) ≤ 4 * r ∧ ¬ (S.size : Int) ≤ 200) from by omega) with e1 | ⟨e1, e2⟩ | ⟨e1, e2, e3⟩
          all_goals
            clear h3
            try have e4 : decide ((S.size : Int) ≤ 200) = false := decide_eq_false e3
            go_wp2_with fail
            go_ret
            exact ⟨rfl, HB2.out⟩
        · have h3 : z ≤ 32 ∧ k ≤ 4 * r ∧ S.size ≤ 200 := by
            have := HF1.out
            rw [hf, dlen] at this
            have := this.symm
            simp only [Bool.and_eq_true, decide_eq_true_eq] at this
            exact ⟨this.1.1, this.1.2, this.2⟩
          have hN := HF2.out hf
          obtain ⟨e1, e2, e3⟩ := h3
          have hr1 := HR0.out e1
          have e1' : (z : Int) ≤ 32 := by omega
          have e2' : (k : Int) ≤ 4 * r := by omega
          have e3' : (S.size : Int) ≤ 200 := by omega
          have hr1' : 1 ≤ (r : Int) := by omega
          clear hf
          rintro e w2 ⟨v, rfl, ho2, hb2⟩
          have HB2 := Lib.hid (bstep HB.out hb2)
          obtain ⟨o2, c2, rfl⟩ := own_slice ho2
          clear ho2 hb2
          generalize (rowsR S.data.toList).length = N at hN ⊢
          have hNb : N ≤ 100 := by
            rw [hN]
            have : (k + r - 1) / r ≤ k + r - 1 := Nat.div_le_self _ _
            omega
          have hN' : ((N : Int) == ((k : Int) + r - 1) / r) = true := by
            rw [beq_iff_eq, hN]
            have : ((k : Int) + r - 1) = ((k + r - 1 : Nat) : Int) := by omega
            rw [this]
            rfl
          clear hN
          go_wp2_with fail
          go_ret
          exact ⟨rfl, HB2.out⟩
theorem walkFits (n0 s0 b : Int) (W : World) (hn0 : -9223372036854775808 ≤ n0) (hn1 : n0 ≤ 9223372036854775807) (hs0 : -9223372036854775808 ≤ s0) (hs1 : s0 ≤ 9223372036854775807) (hb : (Lit.int .u8 b).wf = true) :
    Calls Try.prog 6 #[.int .i64 n0, .int .i64 s0, .int .u8 b] W fun e w' => e = .returned (.bool true) ∧ Below W.heap.size W w' := by
  have hb' := bounds_u8 hb
  obtain ⟨l0, rfl⟩ : ∃ l0 : UInt8, (l0.toNat : Int) = b := ⟨UInt8.ofNat b.toNat, by rw [UInt8.toNat_ofNat', Nat.mod_eq_of_lt (by omega)]; omega⟩
  by_cases h1 : (l0.toNat : Int) ≤ 32
  · exact walkFits0 n0 s0 l0 120 W hn0 hn1 hs0 hs1 (.inr (.inl ⟨h1, rfl⟩)) (by decide) (by decide)
  · by_cases h2 : (l0.toNat : Int) ≤ 126
    · refine walkFits0 n0 s0 l0 l0 W hn0 hn1 hs0 hs1 (.inl ⟨h1, h2, rfl⟩) ?_ ?_
      · rw [UInt8.lt_iff_toNat_lt]
        show 32 < l0.toNat
        omega
      · rw [UInt8.le_iff_toNat_le]
        show l0.toNat ≤ 126
        omega
    · exact walkFits0 n0 s0 l0 120 W hn0 hn1 hs0 hs1 (.inr (.inr ⟨h1, by omega, rfl⟩)) (by decide) (by decide)
end Go.Proofs.Ytjmfhdnckgelaaa
