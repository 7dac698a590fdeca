/-
  The walks of the laws DiskNewMatches and DiskNil.
-/
import Derived.WalkKit
import Derived.LoopTactic
import Derived.WalkSpells
import Derived.WalkLawsBesides
import Derived.IntWalk
import Derived.Test.YtdcnddbkjdbbbaaDiskSane
import Derived.Test.YtdcnddbkjdbbbaaDiskHelp
set_option linter.unusedVariables false
set_option linter.unusedSimpArgs false
namespace Go.Proofs.Ytdcnddbkjdbbbaa
open Go.RowKit
theorem zero_byte (n k : Nat) (h : k < n) : readL (newD n) k 1 = [0] ∧ readE (newD n) k 1 = 0 := by
  have hi : insB (newD n) k 1 = true := by
    unfold insB
    rw [decide_eq_true_iff]
    show 0 ≤ (k : Int) ∧ (0 : Int) ≤ 1 ∧ 1 ≤ ((zeroL n).length : Int) ∧ (k : Int) ≤ ((zeroL n).length : Int) - 1
    rw [zeroL_len]
    omega
  constructor
  · unfold readL
    rw [hi]
    show ((zeroL n).drop (k : Int).toNat).take 1 = [0]
    rw [Int.toNat_natCast, zeroL, List.drop_replicate, List.take_replicate, show min 1 (n - k) = 1 by omega]
    rfl
  · unfold readE; rw [hi]; rfl
set_option maxHeartbeats 1000000 in
set_option maxRecDepth 100000 in
theorem walkNewMatches (size at_ : Int) (W : World) (hs0 : -9223372036854775808 ≤ size) (hs1 : size ≤ 9223372036854775807) (ha0 : -9223372036854775808 ≤ at_) (ha1 : at_ ≤ 9223372036854775807) :
    Calls Try.prog 3 #[.int .i64 size, .int .i64 at_] W fun e w' => e = .returned (.bool true) ∧ Below W.heap.size W w' := by
  by_cases hbad : size < 1 ∨ 4194304 < size
  · by_cases h1 : size < 1
    · go_enter Try.func3, Try.ntmps3
      go_wp2_with fail
      refine (sane_any _).mono ?_
      rintro e w1 ⟨rfl, hb1⟩
      go_wp2_with fail
      refine (new_bad size w1 hbad).mono ?_
      rintro e w' ⟨rfl, rfl⟩
      clear hbad
      go_wp2_with fail
      go_ret
      exact ⟨rfl, hb1⟩
    · have h2 : 4194304 < size := by omega
      go_enter Try.func3, Try.ntmps3
      go_wp2_with fail
      refine (sane_any _).mono ?_
      rintro e w1 ⟨rfl, hb1⟩
      go_wp2_with fail
      refine (new_bad size w1 hbad).mono ?_
      rintro e w' ⟨rfl, rfl⟩
      clear hbad
      go_wp2_with fail
      go_ret
      exact ⟨rfl, hb1⟩
  · obtain ⟨n, rfl⟩ : ∃ n : Nat, size = n := ⟨size.toNat, by omega⟩
    have h1 : 1 ≤ n := by omega
    have h2 : n ≤ 4194304 := by omega
    have h1' : ¬ (n : Int) < 1 := by omega
    have h2' : ¬ (4194304 : Int) < n := by omega
    clear hbad
    go_enter Try.func3, Try.ntmps3
    go_wp2_with fail
    refine (sane_any _).mono ?_
    rintro e w1 ⟨rfl, hb1⟩
    go_wp2_with fail
    refine (new_ok n w1 w1.heap.size (Nat.le_refl _) h1 h2).mono ?_
    rintro e w2 ⟨b, bd, bv, rfl, hd2, hb2, q1, q2, q3⟩
    have HD2 := Lib.hid hd2
    have HB2 := Lib.hid (bstep hb1 hb2)
    clear hd2 hb1 hb2 q1 q2 q3
    go_wp2_with fail
    refine (pick_any _ _ _ ha0 ha1 (by omega) (by omega)).mono ?_
    have hp := pickD_bd at_ n (by omega)
    obtain ⟨k, hk⟩ : ∃ k : Nat, pickD at_ n = (k : Int) := ⟨(pickD at_ n).toNat, by omega⟩
    rw [hk] at hp ⊢
    clear hk
    obtain ⟨hp1, hp2⟩ := hp
    rintro e w' ⟨rfl, rfl⟩
    go_wp2_with fail
    refine (read_any w2 _ b bd bv _ (newD n) k 1 (by omega) (by omega) (by decide) (by decide) HD2.out).mono ?_
    rw [(zero_byte n k (by omega)).1, (zero_byte n k (by omega)).2]
    rintro e w' ⟨rfl, rfl⟩
    go_wp2_with fail
    refine (size_any w2 _ b bd bv _ (newD n) HD2.out).mono ?_
    rw [show ((newD n).vis.length : Int) = (n : Int) from by rw [show (newD n).vis = zeroL n from rfl, zeroL_len]]
    rintro e w' ⟨rfl, rfl⟩
    have hnn : ((n : Int) == n) = true := by simp
    go_wp2_with fail
    refine (pending_any w2 _ b bd bv _ (newD n) HD2.out).mono ?_
    rw [show ((newD n).pend.length : Int) = 0 from rfl]
    rintro e w' ⟨rfl, rfl⟩
    go_wp2_with fail
    go_ret
    exact ⟨rfl, HB2.out⟩
set_option maxHeartbeats 1000000 in
set_option maxRecDepth 100000 in
theorem walkNil (off n : Int) (s : ByteArray) (ok : Option Addr) (lk ck : Nat) (W : World) (hs : s.size ≤ maxLen) (hlk : lk ≤ ck) (hck : ck ≤ maxLen) :
    Calls Try.prog 5 #[.int .i64 off, .int .i64 n, .string s, .slice ok lk ck] W fun e w' => e = .returned (.bool true) ∧ Below W.heap.size W w' := by
  unfold maxLen at hck
  go_enter Try.func5, Try.ntmps5
  go_wp2_with fail
  refine (sane_any _).mono ?_
  rintro e w1 ⟨rfl, hb1⟩
  have HB := Lib.hid hb1
  clear hb1
  go_wp2_with fail
  refine (read_nil _ _ _).mono ?_
  rintro e w' ⟨rfl, rfl⟩
  obtain ⟨m, hm1, hm2, hm3⟩ : ∃ m : Nat, m ≤ lk ∧ m ≤ 100 ∧ (if (100 : Int) < (lk : Int) then (100 : Int) else (lk : Int)) = (m : Int) := ⟨min lk 100, by omega, by omega, by split <;> omega⟩
  have hmc : (m : Int) ≤ ck := by omega
  go_wp2_with fail
  refine (cutstr_any s 100 _ hs (by decide)).mono ?_
  rintro e w' ⟨rfl, rfl⟩
  go_wp2_with fail
  refine (write_nil _ _ _).mono ?_
  rintro e w' ⟨rfl, rfl⟩
  go_wp2_with fail
  refine (sync_nil _).mono ?_
  rintro e w' ⟨rfl, rfl⟩
  go_wp2_with fail
  refine (cut_nil _ _).mono ?_
  rintro e w' ⟨rfl, rfl⟩
  go_wp2_with fail
  all_goals
    refine (crash_nil _ _ _).mono ?_
    rintro e w' ⟨rfl, rfl⟩
    go_wp2_with fail
    refine (pending_nil _).mono ?_
    rintro e w' ⟨rfl, rfl⟩
    go_wp2_with fail
    refine (size_nil _).mono ?_
    rintro e w' ⟨rfl, rfl⟩
    go_wp2_with fail
    go_ret
    exact ⟨rfl, HB.out⟩
end Go.Proofs.Ytdcnddbkjdbbbaa
