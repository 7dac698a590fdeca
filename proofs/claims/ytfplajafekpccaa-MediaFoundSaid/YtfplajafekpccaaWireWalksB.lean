/-
  The walks of wire.Int, wire.PutString, wire.String.
-/
import Derived.WalkKit
import Derived.LoopTactic
import Derived.OwnWalk
import Derived.Laws.BitsAllLaws
import Derived.Lib.VarintBits
import Derived.Lib.Hide
import Derived.Test.YtfplajafekpccaaWireWalksA
set_option linter.unusedVariables false
set_option linter.unusedSimpArgs false
namespace Go.Proofs.Ytfplajafekpccaa
open Go.RowKit Onair
theorem or_bits (k zz b zn : Nat) (hk : k < 9) (hb : b < 256) (hz : zz < 128 ^ k) (hzn : zz + b % 128 * 128 ^ k = zn) :
    bits BinOp.or IntKind.u64 (zz : Int) (IntKind.u64.wrap (IntKind.u64.wrap (bits BinOp.and IntKind.u8 (b : Int) 127) * 2 ^ (7 * k))) = (zn : Int) := by
  have hp := pow_bound (b := b) hk hz
  rw [u8_and127 (x := (b : Int)) (by omega) (by omega)]
  have e : (128 : Nat) ^ k = 2 ^ (7 * k) := by rw [Nat.pow_mul]
  have w1 : IntKind.u64.wrap ((b : Int) % 128) = ((b % 128 : Nat) : Int) := by
    rw [IntWalk.u64_in _ (by omega)]; omega
  rw [w1]
  have w2 : (((b % 128 : Nat) : Int) * 2 ^ (7 * k)) = ((b % 128 * 2 ^ (7 * k) : Nat) : Int) := by
    simp
  rw [w2, IntWalk.u64_in _ (by rw [← e]; omega)]
  rw [u64_or_nat _ _ (by omega) (by rw [← e]; omega), or_add hz, hzn]
theorem ret3_int {k1 k2 k3 : IntKind} {a a' b b' c c' : Int} (h1 : a = a') (h2 : b = b') (h3 : c = c') : Ending.returned (.tuple #[.int k1 a, .int k2 b, .int k3 c]) = .returned (.tuple #[.int k1 a', .int k2 b', .int k3 c']) := by rw [h1, h2, h3]
theorem drop_cons (s : ByteArray) (j : Nat) (h : j < s.size) : s.data.toList.drop j = s[j] :: s.data.toList.drop (j + 1) := by
  rw [List.drop_eq_getElem_cons (by simpa using h)]; rfl
theorem len_data (s : ByteArray) : s.data.toList.length = s.size := by simp
set_option maxHeartbeats 1000000 in
set_option maxRecDepth 100000 in
theorem int_at (s : ByteArray) (a : Nat) (w : World) (hs : s.size ≤ maxLen) (ha : a ≤ s.size) :
    Calls Try.prog 46 #[.string s, .int .i64 a] w fun e w' => e = .returned (.tuple #[.int .i64 (intR s.data.toList a).1, .int .i64 (intR s.data.toList a).2.1, .int .i64 (intR s.data.toList a).2.2]) ∧ w = w' := by
  unfold maxLen at hs
  have hal : a ≤ s.data.toList.length := by rw [len_data]; exact ha
  have hd1 : decide ((a : Int) < 0) = false := by simp
  have hd2 : decide (s.size < a) = false := by simp; omega
  go_enter Try.func46, Try.ntmps46
  go_wp2
  go_loop [7, 8] (fun z i => ∃ k zz : Nat, k ≤ 9 ∧ a + k ≤ s.size ∧ i = .int .i64 k ∧ z = .int .u64 zz ∧ zz < 128 ^ k ∧ Hid (decI (9 - k) k zz (s.data.toList.drop (a + k)) = decI 9 0 0 (s.data.toList.drop a))) (fun _ i => 9 - (intOf i).toNat)
  case atStart => exact ⟨0, 0, by omega, by omega, rfl, rfl, by omega, Lib.hid rfl⟩
  case round =>
    obtain ⟨k, zz, hk, hak, rfl, rfl, hz, HD⟩ := hrel
    by_cases h9 : k = 9
    · subst h9
      go_wp2
      go_ret3
      rw [intR_none hal (by rw [← HD.out]; rfl)]
      exact ⟨rfl, rfl⟩
    · by_cases he : a + k = s.size
      · have he' : ¬ ((a : Int) + k < s.size) := by omega
        have hk9 : (k : Int) < 9 := by omega
        have HN : Hid (intR s.data.toList a = (0, 0, 10)) := intR_none hal (by rw [← HD.out, he, List.drop_of_length_le (by simp), show 9 - k = (8 - k) + 1 from by omega, decI])
        clear he
        go_wp2
        go_ret3
        rw [HN.out]
        exact ⟨rfl, rfl⟩
      · have he' : ((a : Int) + k < s.size) := by omega
        have hk9 : (k : Int) < 9 := by omega
        have hk9' : k < 9 := by omega
        have hlt : a + k < s.size := by omega
        obtain ⟨zn, hzn⟩ : ∃ zn, zz + s[a + k].toNat % 128 * 128 ^ k = zn := ⟨_, rfl⟩
        have hb := s[a + k].toNat_lt
        have hp := pow_bound (b := s[a + k].toNat) hk9' hz
        rw [hzn] at hp
        obtain ⟨hp1, hp2⟩ := hp
        have hor := or_bits k zz s[a + k].toNat zn hk9' (by omega) hz hzn
        have hd2 := decI_step k zz hk9' s[a + k] (s.data.toList.drop (a + k + 1)) zn hzn
        rw [← drop_cons s (a + k) hlt, HD.out] at hd2
        have HD2 := Lib.hid hd2
        clear hd2
        clear hzn HD hz
        by_cases hb1 : 128 ≤ s[a + k].toNat
        · go_wp2
          go_round
          case rel => exact ⟨k + 1, zn, by omega, by omega, by go_num, rfl, hp1, by have := HD2.out; rw [if_pos hb1] at this; exact this.symm⟩
          case measure => simp [intOf]; omega
        · by_cases hb0 : s[a + k].toNat = 0 ∧ 0 < k
          · have HN : Hid (intR s.data.toList a = (0, 0, 10)) := intR_none hal (by rw [HD2.out, if_neg hb1, if_pos hb0])
            obtain ⟨hb0, hk0⟩ := hb0
            go_wp2
            go_ret3
            rw [HN.out]
            exact ⟨rfl, rfl⟩
          · by_cases hlo : unzig zn < -4611686018427387903
            · have HN : Hid (intR s.data.toList a = (0, 0, 10)) := intR_none hal (by rw [HD2.out, if_neg hb1, if_neg hb0, if_pos hlo])
              have hb0' : ¬ (((s[a + k].toNat : Int) = 0) ∧ 0 < (k : Int)) := by omega
              have hodd : zn % 2 = 1 := by
                rcases Nat.mod_two_eq_zero_or_one zn with h | h
                · rw [unzig_even h] at hlo; omega
                · exact h
              rw [unzig_odd hodd] at hlo
              by_cases hbz : s[a + k].toNat = 0
              · rw [hbz, show ((0 : Nat) : Int) = 0 from rfl] at hor
                go_wp2
                go_ret3
                rw [HN.out]
                exact ⟨rfl, rfl⟩
              · go_wp2
                go_ret3
                rw [HN.out]
                exact ⟨rfl, rfl⟩
            · have HN : Hid (intR s.data.toList a = (unzig zn, (a : Int) + ((k + 1 : Nat) : Int), 0)) := intR_some hal (by rw [HD2.out, if_neg hb1, if_neg hb0, if_neg hlo])
              have hb0' : ¬ (((s[a + k].toNat : Int) = 0) ∧ 0 < (k : Int)) := by omega
              rcases Nat.mod_two_eq_zero_or_one zn with h | h
              · rw [unzig_even h] at hlo HN
                by_cases hbz : s[a + k].toNat = 0
                · rw [hbz, show ((0 : Nat) : Int) = 0 from rfl] at hor
                  go_wp2
                  go_ret3
                  rw [HN.out]
                  exact ⟨ret3_int (by simp) (by simp; omega) rfl, rfl⟩
                · go_wp2
                  go_ret3
                  rw [HN.out]
                  exact ⟨ret3_int (by simp) (by simp; omega) rfl, rfl⟩
              · rw [unzig_odd h] at hlo HN
                by_cases hbz : s[a + k].toNat = 0
                · rw [hbz, show ((0 : Nat) : Int) = 0 from rfl] at hor
                  go_wp2
                  go_ret3
                  rw [HN.out]
                  exact ⟨ret3_int (by simp) (by simp; omega) rfl, rfl⟩
                · go_wp2
                  go_ret3
                  rw [HN.out]
                  exact ⟨ret3_int (by simp) (by simp; omega) rfl, rfl⟩

set_option maxRecDepth 100000 in
theorem int_arg (s : ByteArray) (a : Int) (w : World) (hs : s.size ≤ maxLen) (ha : a < 0 ∨ (s.size : Int) < a) :
    Calls Try.prog 46 #[.string s, .int .i64 a] w fun e w' => e = .returned (.tuple #[.int .i64 0, .int .i64 0, .int .i64 2]) ∧ w = w' := by
  unfold maxLen at hs
  by_cases h0 : a < 0
  · clear ha
    go_enter Try.func46, Try.ntmps46
    go_wp2
    go_ret3
    exact ⟨rfl, rfl⟩
  · have h1 : (s.size : Int) < a := by omega
    clear ha
    go_enter Try.func46, Try.ntmps46
    go_wp2
    go_ret3
    exact ⟨rfl, rfl⟩
/-- Int. -/
theorem int_any (s : ByteArray) (a : Int) (w : World) (hs : s.size ≤ maxLen) :
    Calls Try.prog 46 #[.string s, .int .i64 a] w fun e w' => e = .returned (.tuple #[.int .i64 (intR s.data.toList a).1, .int .i64 (intR s.data.toList a).2.1, .int .i64 (intR s.data.toList a).2.2]) ∧ w = w' := by
  by_cases h : a < 0 ∨ (s.size : Int) < a
  · rw [intR_arg (by rw [len_data]; exact h)]
    exact int_arg s a w hs h
  · obtain ⟨n, rfl⟩ : ∃ n : Nat, a = n := ⟨a.toNat, by omega⟩
    exact int_at s n w hs (by omega)
end Go.Proofs.Ytfplajafekpccaa
