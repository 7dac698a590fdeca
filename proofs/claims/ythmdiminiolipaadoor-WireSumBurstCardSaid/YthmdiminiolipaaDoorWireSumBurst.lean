/-
  The walk of the law WireSumBurst.
-/
import Derived.WalkKit
import Derived.LoopTactic
import Derived.OwnWalk
import Derived.WalkSpells
import Derived.WalkLawsBesides
import Derived.RegionTactic
import Derived.BigRegion
import Derived.Deep.QuietTactic
import Derived.BigQuiet
import Derived.ChangeAlike
import Derived.Laws.BitsAllLaws
import Derived.Lib.Hide
import Derived.IntWalk
import Derived.WalkSmall
import Derived.Test.YthmdiminiolipaaDoorWireSane
import Derived.Test.YthmdiminiolipaaDoorWireHelp
import Derived.Test.YthmdiminiolipaaDoorWireBytes
import Derived.Test.YthmdiminiolipaaDoorWireBurst
set_option linter.unusedVariables false
set_option linter.unusedSimpArgs false
namespace Go.Proofs.YthmdiminiolipaaDoor
open Go.RowKit Onair
theorem testBit_shift (m k : Nat) : m.testBit k = (m / 2 ^ k % 2 == 1) := by
  rw [Nat.testBit_eq_decide_div_mod_eq]
  by_cases h : m / 2 ^ k % 2 = 1 <;> simp [h]
set_option maxHeartbeats 4000000 in
set_option maxRecDepth 100000 in
theorem walkSumBurst (s : ByteArray) (at_ b : Int) (w : World) (hs : s.size ≤ maxLen) (ha0 : -9223372036854775808 ≤ at_) (ha1 : at_ ≤ 9223372036854775807) (hb0 : 0 ≤ b) (hb1 : b ≤ 4294967295) (ht : TabAt w) :
    Calls Tryd.prog 8 #[.string s, .int .i64 at_, .int .u32 b] w fun e w' => e = .returned (.bool true) ∧ Below w.heap.size w w' := by
  unfold maxLen at hs
  have HT := Lib.hid ht
  have h0 := ht.lt
  clear ht
  obtain ⟨m, rfl⟩ : ∃ m : Nat, b = m := ⟨b.toNat, by omega⟩
  obtain ⟨ms, T, hs1, hs2, hs3, hs4, hs5⟩ := min_cut s 300
  rw [show ((300 : Nat) : Int) = 300 from rfl] at hs4
  go_enter Tryd.func8, Tryd.ntmps8
  go_wp2_with fail
  refine (sane_any _ HT.out).mono ?_
  rintro e w1 ⟨rfl, hb1'⟩
  have HB1 := Lib.hid hb1'
  have hzz := hb1'.size
  clear hb1'
  obtain ⟨cap, w2, hcv, hcap, hby, hbb⟩ := conv_string_bytes w1 T
  have HBY := Lib.hid hby
  have HBB := Lib.hid hbb
  clear hby hbb
  rw [hs3] at hcv hcap
  have HS3 := Lib.hid hs3
  clear hs3
  by_cases hT0 : ms = 0
  · have hz : ((ms : Int) == 0) = true := by rw [beq_iff_eq]; omega
    clear hT0
    go_wp2_with fail
    go_ret
    exact ⟨rfl, bstep HB1.out HBB.out⟩
  · have hz : ((ms : Int) == 0) = false := by rw [beq_eq_false_iff_ne]; omega
    by_cases hm0 : m = 0
    · subst hm0
      go_wp2_with fail
      go_ret
      exact ⟨rfl, bstep HB1.out HBB.out⟩
    · have hmz : ((m : Int) == 0) = false := by rw [beq_eq_false_iff_ne]; omega
      have hT1 : 1 ≤ ms := by omega
      clear hT0 hm0
      go_wp2_with fail
      refine (pick_any _ _ _ ha0 ha1 (by omega) (by omega)).mono ?_
      have hp1 := pickI_bd at_ (8 * ms) (by omega)
      obtain ⟨f, hf⟩ : ∃ k1 : Nat, pickI at_ (8 * ms) = (k1 : Int) := ⟨(pickI at_ (8 * ms)).toNat, by omega⟩
      rw [hf] at hp1 ⊢
      clear hf
      obtain ⟨hp10, hp11⟩ := hp1
      rintro e w' ⟨rfl, rfl⟩
      go_wp2_with fail
      clear hcv
      have hb0d : decide (m % 2 ^ 0 ≠ 0) = false := by simp [Nat.mod_one]
      go_loopw [10, 11] (fun c i wr => ∃ k : Nat, k ≤ 32 ∧ f + k ≤ 8 * ms ∧ i = .int .i64 k ∧ c = .bool (decide (m % 2 ^ k ≠ 0)) ∧ Hid (Below w1.heap.size w1 wr) ∧ Hid (BytesIn wr w1.heap.size (flipL T.data.toList f m k))) (fun _ i _ => 32 - (intOf i).toNat)
      case atStart => exact ⟨0, by omega, by omega, rfl, by rw [hb0d], HBB, HBY⟩
      case round =>
        obtain ⟨k, hk, hfk, rfl, rfl, HBr, HIr⟩ := hrel
        clear hb0d HBY HBB
        have hlen := flipL_len T.data.toList f m k
        rw [len_data, HS3.out] at hlen
        by_cases hgo : k < 32 ∧ f + k < 8 * ms
        · obtain ⟨hk32, hft⟩ := hgo
          have hk32' : (k : Int) < 32 := by omega
          have hft' : (f : Int) + k < 8 * (ms : Int) := by omega
          obtain ⟨cB, hcB⟩ : ∃ c, decide (m % 2 ^ k ≠ 0) = c := ⟨_, rfl⟩
          rw [hcB]
          have HCB := Lib.hid hcB
          clear hcB
          obtain ⟨y, hy⟩ : ∃ y : Nat, (m : Int) / 2 ^ k = (y : Int) := ⟨m / 2 ^ k, by simp⟩
          have hym : y = m / 2 ^ k := by
            have h3 : (m : Int) / 2 ^ k = ((m / 2 ^ k : Nat) : Int) := by simp
            rw [h3] at hy
            omega
          by_cases hbit : m.testBit k = true
          · have hbt : ((y : Int) % 2 == 1) = true := by
              have h := testBit_shift m k
              rw [hbit, ← hym] at h
              have h2 : y % 2 = 1 := by simpa using h.symm
              rw [beq_iff_eq]; omega
            clear hym
            obtain ⟨p, hp⟩ : ∃ p, (f + k) / 8 = p := ⟨_, rfl⟩
            obtain ⟨q, hq⟩ : ∃ q, (f + k) % 8 = q := ⟨_, rfl⟩
            have hpl : p < ms := by omega
            have hq8 : q < 8 := by omega
            have hca := HIr.out.1 p (by omega)
            have hcf := HIr.out.2 p (by omega)
            obtain ⟨v, hv⟩ : ∃ v, ((flipL T.data.toList f m k)[p]?.getD 0).toNat = v := ⟨_, rfl⟩
            have hv256 : v < 256 := by rw [← hv]; exact UInt8.toNat_lt _
            rw [hv] at hca
            obtain ⟨x, hx⟩ : ∃ x, v ^^^ 2 ^ q = x := ⟨_, rfl⟩
            have h2q : (2 : Nat) ^ q < 2 ^ 8 := Nat.pow_lt_pow_right (by decide) hq8
            have hfx : bits BinOp.xor IntKind.u8 (v : Int) (2 ^ q % 256) = (x : Int) := by
              have := u8_xor_nat v (2 ^ q) hv256 h2q
              rw [hx] at this
              rw [show (2 : Int) ^ q % 256 = ((2 ^ q : Nat) : Int) from by rw [show (2 : Int) ^ q = ((2 ^ q : Nat) : Int) from by simp]; exact Int.emod_eq_of_lt (Int.natCast_nonneg _) (Int.ofNat_lt.2 h2q)]
              exact this
            have HN : Hid (BytesIn (wr.setCell ⟨w1.heap.size, p, none⟩ (.int .u8 (x : Int))) w1.heap.size (flipL T.data.toList f m (k + 1))) := by
              have h := bytesIn_set HIr.out p (by omega) (UInt8.ofNat x)
              have hx256 : x < 256 := by rw [← hx]; exact Nat.xor_lt_two_pow (n := 8) hv256 h2q
              rw [UInt8.toNat_ofNat_of_lt' (by omega)] at h
              rw [flipL, if_pos hbit, hp, hq, hv, hx]
              exact h
            have HBn : Hid (Below w1.heap.size w1 (wr.setCell ⟨w1.heap.size, p, none⟩ (.int .u8 (x : Int)))) := HBr.out.setCell (p := ⟨w1.heap.size, p, none⟩) (Nat.le_refl _) _
            have HC1 : Hid (decide (m % 2 ^ (k + 1) ≠ 0) = true) := by
              show _ = true
              rw [decide_eq_true_iff]; exact mod_pow_succ_ne m k hbit
            have hpe : ((f : Int) + k) / 8 = (p : Int) := by omega
            have hqe : ((f : Int) + k) % 8 = (q : Int) := by omega
            have hpc : (p : Int) < ms := by omega
            clear hp hq hv hx hlen hbit
            go_wp2_with fail
            go_region
            go_wp2_with fail
            go_roundw
            case rel => exact ⟨k + 1, by omega, by omega, by go_num, by rw [HC1.out], HBn.out.drew, bytesIn_drew HN.out⟩
            case measure => simp [intOf]; omega
          · have hbit' : m.testBit k = false := by simpa using hbit
            have hbt : ((y : Int) % 2 == 1) = false := by
              have h := testBit_shift m k
              rw [hbit', ← hym] at h
              have h2 : y % 2 ≠ 1 := by simpa using h.symm
              rw [beq_eq_false_iff_ne]; omega
            clear hym
            have HN : Hid (BytesIn wr w1.heap.size (flipL T.data.toList f m (k + 1))) := by
              show BytesIn _ _ _
              rw [flipL, if_neg hbit]; exact HIr.out
            have HC1 : Hid (decide (m % 2 ^ (k + 1) ≠ 0) = cB) := by
              show _ = _
              rw [mod_pow_succ_eq m k hbit', HCB.out]
            clear hbit hbit' hlen
            go_wp2_with fail
            go_roundw
            case rel => exact ⟨k + 1, by omega, by omega, by go_num, by rw [HC1.out], HBr, HN⟩
            case measure => simp [intOf]; omega
        · have hkf : k ≤ 32 ∧ f + k ≤ 8 * ms := ⟨hk, hfk⟩
          have hsb := sum_burst T.data.toList f k m hk (by rw [len_data, HS3.out]; exact hfk)
          have hcv := conv_q HIr.out ms cap hlen
          obtain ⟨X, hX⟩ : ∃ X : ByteArray, ByteArray.mk (flipL T.data.toList f m k).toArray = X := ⟨_, rfl⟩
          rw [hX] at hcv
          have hXl : X.data.toList = flipL T.data.toList f m k := by rw [← hX]
          have hXz : X.size ≤ 1000 := by rw [← hX]; show (flipL T.data.toList f m k).length ≤ 1000; omega
          have hTz : T.size ≤ 1000 := by rw [HS3.out]; omega
          rw [← hXl] at hsb
          obtain ⟨sX, eX⟩ : ∃ v, sumL X.data.toList = v := ⟨_, rfl⟩
          obtain ⟨sT, eT⟩ : ∃ v, sumL T.data.toList = v := ⟨_, rfl⟩
          rw [eX, eT] at hsb
          have VX := Lib.hid eX
          have VT := Lib.hid eT
          have HTr : Hid (TabAt wr) := (HT.out.below HB1.out h0).below HBr.out (by omega)
          obtain ⟨cB, hcB⟩ : ∃ c, decide (m % 2 ^ k ≠ 0) = c := ⟨_, rfl⟩
          rw [hcB] at hsb ⊢
          have hcc : (cB == cB) = true := by simp
          have hms : (ms : Int) ≤ s.size := by omega
          clear hX hXl eX eT hcB hlen hs4
          by_cases hk32 : k < 32
          · have hk32' : (k : Int) < 32 := by omega
            have hft' : ¬ (f : Int) + k < 8 * (ms : Int) := by omega
            clear hgo
            go_wp2_with fail
            go_quiet ((go_at_call 21; first | with_reducible exact sum_q X _ _ _ hXz HTr.out VX.out | with_reducible exact sum_q T _ _ _ hTz HTr.out VT.out))
            go_wp2_with fail
            go_ret
            exact ⟨rfl, below_drewN (bstep HB1.out HBr.out) _⟩
          · have hk32' : ¬ (k : Int) < 32 := by omega
            clear hgo
            go_wp2_with fail
            go_quiet ((go_at_call 21; first | with_reducible exact sum_q X _ _ _ hXz HTr.out VX.out | with_reducible exact sum_q T _ _ _ hTz HTr.out VT.out))
            go_wp2_with fail
            go_ret
            exact ⟨rfl, below_drewN (bstep HB1.out HBr.out) _⟩
end Go.Proofs.YthmdiminiolipaaDoor
