/-
  Helpers of the disk's laws: pick, cut; the methods of a nil disk.
-/
import Derived.WalkKit
import Derived.LoopTactic
import Derived.WalkSpells
import Derived.WalkLawsBesides
import Derived.IntWalk
import Derived.Test.YtdcnddbkjdbbbaaDiskG
set_option linter.unusedVariables false
set_option linter.unusedSimpArgs false
namespace Go.Proofs.Ytdcnddbkjdbbbaa
open Go.RowKit
/-- pick: an arbitrary integer to 0..n-1. -/
def pickD (c n : Int) : Int := (if c < 0 then -(c + 1) else c) % n
theorem pickD_bd (c n : Int) (h : 0 < n) : 0 ≤ pickD c n ∧ pickD c n < n := ⟨Int.emod_nonneg _ (by omega), Int.emod_lt_of_pos _ h⟩
theorem pick_any (c n : Int) (w : World) (h0 : -9223372036854775808 ≤ c) (h1 : c ≤ 9223372036854775807) (hn : 1 ≤ n) (hn2 : n ≤ 9223372036854775807) :
    Calls Try.prog 15 #[.int .i64 c, .int .i64 n] w fun e w' => e = .returned (.int .i64 (pickD c n)) ∧ w = w' := by
  by_cases hc : c < 0
  · have e : pickD c n = (-(c + 1)) % n := by unfold pickD; rw [if_pos hc]
    rw [e]
    clear e
    go_enter Try.func15, Try.ntmps15
    go_wp2
    go_ret
    exact ⟨ret_int (by rw [← Int.neg_tmod, Int.tmod_eq_emod_of_nonneg (by omega)]), rfl⟩
  · have e : pickD c n = c % n := by unfold pickD; rw [if_neg hc]
    rw [e]
    clear e
    have hc' : 0 ≤ c := by omega
    go_enter Try.func15, Try.ntmps15
    go_wp2
    go_ret
    exact ⟨rfl, rfl⟩
/-- cut: at most n bytes. -/
def cutS (s : ByteArray) (n : Nat) : ByteArray := s.extract 0 (min n s.size)
theorem cutS_size (s : ByteArray) (n : Nat) : (cutS s n).size = min n s.size := by simp [cutS]
theorem cutstr_any (s : ByteArray) (n : Nat) (w : World) (hs : s.size ≤ maxLen) (hn : n ≤ 1000000000) :
    Calls Try.prog 22 #[.string s, .int .i64 n] w fun e w' => e = .returned (.string (cutS s n)) ∧ w = w' := by
  unfold maxLen at hs
  obtain ⟨m, T, h1, h2, h3, h4, h5⟩ : ∃ (m : Nat) (T : ByteArray), m ≤ s.size ∧ m ≤ n ∧ (if n < s.size then (n : Int) else (s.size : Int)) = (m : Int) ∧ s.extract 0 m = T ∧ cutS s n = T := by
    refine ⟨min n s.size, cutS s n, by omega, by omega, ?_, rfl, rfl⟩
    split <;> omega
  rw [h5]
  clear h5
  have h3' : min (s.size : Int) (n : Int) = (m : Int) := by rw [← h3]; split <;> omega
  clear h3
  go_enter Try.func22, Try.ntmps22
  go_wp2
  go_ret
  exact ⟨rfl, rfl⟩
theorem read_nil (W : World) (off n : Int) : Calls Try.prog 14 #[.pointer none, .int .i64 off, .int .i64 n] W fun e w' => e = .returned (.tuple #[.string ⟨#[]⟩, .int .i64 1]) ∧ W = w' := by
  go_enter Try.func14, Try.ntmps14
  go_wp2_with fail
  refine (state_nil W).mono ?_
  rintro e w' ⟨rfl, rfl⟩
  go_wp2_with fail
  go_ret2
  exact ⟨rfl, rfl⟩
theorem write_nil (W : World) (off : Int) (s : ByteArray) : Calls Try.prog 21 #[.pointer none, .int .i64 off, .string s] W fun e w' => e = .returned (.int .i64 1) ∧ W = w' := by
  go_enter Try.func21, Try.ntmps21
  go_wp2_with fail
  refine (state_nil W).mono ?_
  rintro e w' ⟨rfl, rfl⟩
  go_wp2_with fail
  go_ret
  exact ⟨rfl, rfl⟩
theorem sync_nil (W : World) : Calls Try.prog 23 #[.pointer none] W fun e w' => e = .returned (.int .i64 1) ∧ W = w' := by
  go_enter Try.func23, Try.ntmps23
  go_wp2_with fail
  refine (state_nil W).mono ?_
  rintro e w' ⟨rfl, rfl⟩
  go_wp2_with fail
  go_ret
  exact ⟨rfl, rfl⟩
theorem cut_nil (W : World) (n : Int) : Calls Try.prog 24 #[.pointer none, .int .i64 n] W fun e w' => e = .returned (.int .i64 1) ∧ W = w' := by
  go_enter Try.func24, Try.ntmps24
  go_wp2_with fail
  refine (state_nil W).mono ?_
  rintro e w' ⟨rfl, rfl⟩
  go_wp2_with fail
  go_ret
  exact ⟨rfl, rfl⟩
theorem crash_nil (W : World) (k : Value) (n : Int) : Calls Try.prog 25 #[.pointer none, k, .int .i64 n] W fun e w' => e = .returned (.int .i64 1) ∧ W = w' := by
  go_enter Try.func25, Try.ntmps25
  go_wp2_with fail
  refine (state_nil W).mono ?_
  rintro e w' ⟨rfl, rfl⟩
  go_wp2_with fail
  go_ret
  exact ⟨rfl, rfl⟩
theorem pending_nil (W : World) : Calls Try.prog 17 #[.pointer none] W fun e w' => e = .returned (.int .i64 0) ∧ W = w' := by
  go_enter Try.func17, Try.ntmps17
  go_wp2_with fail
  refine (state_nil W).mono ?_
  rintro e w' ⟨rfl, rfl⟩
  go_wp2_with fail
  go_ret
  exact ⟨rfl, rfl⟩
theorem size_nil (W : World) : Calls Try.prog 16 #[.pointer none] W fun e w' => e = .returned (.int .i64 0) ∧ W = w' := by
  go_enter Try.func16, Try.ntmps16
  go_wp2_with fail
  refine (state_nil W).mono ?_
  rintro e w' ⟨rfl, rfl⟩
  go_wp2_with fail
  go_ret
  exact ⟨rfl, rfl⟩
end Go.Proofs.Ytdcnddbkjdbbbaa
