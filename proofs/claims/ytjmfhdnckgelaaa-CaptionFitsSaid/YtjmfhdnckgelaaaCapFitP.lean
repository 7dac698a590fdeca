/-
  A text of n words of the same length: does it fit, and how many rows does it take?
-/
import Derived.Test.YtjmfhdnckgelaaaCapPlain
set_option linter.unusedVariables false
set_option linter.unusedSimpArgs false
namespace Go.Proofs.Ytjmfhdnckgelaaa
def rowCap (size : Nat) : Nat := 33 / (size + 1)
theorem rowCap_pos (size : Nat) (h : size ≤ 32) : 1 ≤ rowCap size := by
  unfold rowCap
  rw [Nat.le_div_iff_mul_le (by omega)]
  omega
theorem rows_same (w : List UInt8) (size : Nat) (hw : w.length = size) (h1 : size ≤ 32) (n : Nat) :
    ∃ q k, n + 1 = q * rowCap size + k ∧ 1 ≤ k ∧ k ≤ rowCap size ∧ (rowsOf (List.replicate (n + 1) w)).length = q + 1 ∧ ∃ rs r, rowsOf (List.replicate (n + 1) w) = rs ++ [r] ∧ r.length + 1 = k * (size + 1) := by
  have hr := rowCap_pos size h1
  induction n with
  | zero => exact ⟨0, 1, by omega, by omega, hr, rfl, [], w, rfl, by omega⟩
  | succ n ih =>
    obtain ⟨q, k, e1, e2, e3, e4, rs, r, e5, e6⟩ := ih
    rw [show List.replicate (n + 1 + 1) w = List.replicate (n + 1) w ++ [w] from List.replicate_succ', rowsOf_snoc, e5]
    have hfit : r.length + 1 + w.length ≤ 32 ↔ k + 1 ≤ rowCap size := by
      unfold rowCap
      rw [Nat.le_div_iff_mul_le (by omega), e6, hw, Nat.add_mul]
      omega
    have hlen : rs.length = q := by
      rw [e5] at e4
      simp at e4
      exact e4
    by_cases hk : k + 1 ≤ rowCap size
    · refine ⟨q, k + 1, by omega, by omega, hk, ?_, rs, r ++ 32 :: w, ?_, ?_⟩
      · unfold rstep
        simp [hfit.2 hk, hlen]
      · unfold rstep
        simp [hfit.2 hk]
      · rw [List.length_append, List.length_cons, Nat.add_mul, ← e6, hw]
        omega
    · have hk' : k = rowCap size := by omega
      have hnf : ¬ r.length + 1 + w.length ≤ 32 := fun h => hk (hfit.1 h)
      refine ⟨q + 1, 1, ?_, by omega, hr, ?_, rs ++ [r], w, ?_, by omega⟩
      · rw [Nat.add_mul]
        omega
      · unfold rstep
        simp [hnf, hlen]
      · unfold rstep
        simp [hnf]
theorem rows_count (w : List UInt8) (size : Nat) (hw : w.length = size) (h1 : size ≤ 32) (n : Nat) (hn : 1 ≤ n) :
    (rowsOf (List.replicate n w)).length = (n + rowCap size - 1) / rowCap size ∧ 1 ≤ (rowsOf (List.replicate n w)).length ∧ ((rowsOf (List.replicate n w)).length ≤ 4 ↔ n ≤ 4 * rowCap size) := by
  obtain ⟨m, rfl⟩ : ∃ m, n = m + 1 := ⟨n - 1, by omega⟩
  obtain ⟨q, k, e1, e2, e3, e4, _⟩ := rows_same w size hw h1 m
  have hr := rowCap_pos size h1
  rw [e4]
  generalize rowCap size = r at *
  refine ⟨?_, by omega, ?_⟩
  · symm
    apply Nat.div_eq_of_lt_le
    · rw [Nat.add_mul]
      omega
    · rw [Nat.add_mul, Nat.add_mul]
      omega
  · constructor
    · intro h
      have : q * r ≤ 3 * r := Nat.mul_le_mul_right _ (by omega)
      omega
    · intro h
      by_cases hq : q ≤ 3
      · omega
      · have : 4 * r ≤ q * r := Nat.mul_le_mul_right _ (by omega)
        omega
/-- The text after i words, each with a space behind it. -/
def wordsSp (w : List UInt8) (i : Nat) : List UInt8 := (List.replicate i (w ++ [32])).flatten
theorem wordsSp_succ (w : List UInt8) (i : Nat) : wordsSp w (i + 1) = wordsSp w i ++ w ++ [32] := by
  unfold wordsSp
  rw [List.replicate_succ', List.flatten_append]
  simp
theorem wordsSp_join (w : List UInt8) (n : Nat) : wordsSp w n ++ w = joinSp (List.replicate (n + 1) w) := by
  induction n with
  | zero => rfl
  | succ n ih =>
    rw [show List.replicate (n + 1 + 1) w = List.replicate (n + 1) w ++ [w] from List.replicate_succ', joinSp_snoc _ _ (by simp), ← ih, wordsSp_succ]
    simp
theorem wordsSp_len (w : List UInt8) (i : Nat) : (wordsSp w i).length = i * (w.length + 1) := by
  induction i with
  | zero => simp [wordsSp]
  | succ i ih =>
    rw [wordsSp_succ, List.length_append, List.length_append, ih, Nat.add_mul]
    simp
    omega
theorem same_fits (c : UInt8) (size n : Nat) (hs : 1 ≤ size) (hn : 1 ≤ n) (hc1 : 32 < c) (hc2 : c ≤ 126) :
    fitsB (joinSp (List.replicate n (List.replicate size c))) = (decide (size ≤ 32) && decide (n ≤ 4 * rowCap size) && decide ((joinSp (List.replicate n (List.replicate size c))).length ≤ 200)) ∧
    (fitsB (joinSp (List.replicate n (List.replicate size c))) = true → (rowsR (joinSp (List.replicate n (List.replicate size c)))).length = (n + rowCap size - 1) / rowCap size) := by
  have hc3 : c ≠ 32 := by
    intro e
    rw [e] at hc1
    exact absurd hc1 (by decide)
  have hw : ∀ v ∈ List.replicate n (List.replicate size c), isWord v := by
    intro v hv
    rw [List.mem_replicate] at hv
    rw [hv.2]
    refine ⟨?_, ?_⟩
    · intro e
      have := congrArg List.length e
      simp at this
      omega
    · intro h
      rw [List.mem_replicate] at h
      exact hc3 h.2.symm
  have hwords := words_join _ hw
  have hp : printB (joinSp (List.replicate n (List.replicate size c))) = true := by
    unfold printB
    rw [List.all_eq_true]
    intro b hb
    rcases joinSp_mem _ b hb with e | ⟨v, hv, hbv⟩
    · subst e; decide
    · rw [List.mem_replicate] at hv
      rw [hv.2, List.mem_replicate] at hbv
      rw [hbv.2]
      refine decide_eq_true ⟨?_, hc2⟩
      rw [UInt8.le_iff_toNat_le]
      rw [UInt8.lt_iff_toNat_lt] at hc1
      omega
  have hna : narrowB (List.replicate n (List.replicate size c)) = decide (size ≤ 32) := by
    unfold narrowB
    rw [Bool.eq_iff_iff, List.all_eq_true, decide_eq_true_iff]
    constructor
    · intro h
      have := h (List.replicate size c) (by rw [List.mem_replicate]; exact ⟨by omega, rfl⟩)
      simpa using this
    · intro h v hv
      rw [List.mem_replicate] at hv
      rw [hv.2]
      simpa using h
  have hf : fitsB (joinSp (List.replicate n (List.replicate size c))) = (decide ((joinSp (List.replicate n (List.replicate size c))).length ≤ 200) && decide (size ≤ 32) && decide (1 ≤ (rowsOf (List.replicate n (List.replicate size c))).length ∧ (rowsOf (List.replicate n (List.replicate size c))).length ≤ 4)) := by
    unfold fitsB
    rw [hwords, hp, hna, Bool.and_true]
  by_cases h32 : size ≤ 32
  · obtain ⟨r1, r2, r3⟩ := rows_count (List.replicate size c) size (by simp) h32 n hn
    refine ⟨?_, fun h => ?_⟩
    · rw [hf, decide_eq_true h32, Bool.and_true, Bool.true_and, Bool.and_comm]
      congr 1
      rw [decide_eq_decide]
      exact ⟨fun h => r3.1 h.2, fun h => ⟨r2, r3.2 h⟩⟩
    · unfold rowsR
      rw [if_pos h, hwords]
      exact r1
  · have : fitsB (joinSp (List.replicate n (List.replicate size c))) = false := by
      rw [hf, decide_eq_false h32, Bool.and_false, Bool.false_and]
    refine ⟨?_, fun h => ?_⟩
    · rw [this, decide_eq_false h32, Bool.false_and, Bool.false_and]
    · rw [this] at h
      exact absurd h (by decide)
end Go.Proofs.Ytjmfhdnckgelaaa
