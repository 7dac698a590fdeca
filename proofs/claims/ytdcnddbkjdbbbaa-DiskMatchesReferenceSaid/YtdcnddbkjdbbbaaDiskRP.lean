/-
  Plain: the crash of the reference disk is the crash of the disk.
-/
import Derived.Test.YtdcnddbkjdbbbaaDiskRD
set_option linter.unusedVariables false
namespace Go.Proofs.Ytdcnddbkjdbbbaa
open Go.RowKit
/-- Which of n writes survive: those that keep names. -/
theorem survL_has (ks : Nat → Int) (n len j : Nat) (hj : j < n) : (survL ks n len)[j]? = some (hasK ks len (j : Int)) := by
  induction len with
  | zero =>
    unfold survL hasK
    simp [hj]
  | succ m ih =>
    rw [hasK_succ]
    unfold survL
    by_cases h : 0 ≤ ks m ∧ ks m < n
    · rw [if_pos h, List.getElem?_set]
      by_cases e : (ks m).toNat = j
      · rw [if_pos e, if_pos (by rw [survL_len]; omega), decide_eq_true (show ks m = (j : Int) by omega), Bool.or_true]
      · rw [if_neg e, ih, decide_eq_false (show ¬ ks m = (j : Int) by omega), Bool.or_false]
    · rw [if_neg h, ih, decide_eq_false (show ¬ ks m = (j : Int) by omega), Bool.or_false]
/-- The last survivor. -/
theorem lastK_max (ks : Nat → Int) (n len : Nat) : (∀ j : Nat, j < n → hasK ks len (j : Int) = true → (j : Int) ≤ lastK ks n len) ∧ (lastK ks n len = -1 ∨ ∃ j : Nat, j < n ∧ (j : Int) = lastK ks n len ∧ hasK ks len (j : Int) = true) := by
  induction len with
  | zero => exact ⟨fun j _ h => by simp [hasK] at h, .inl rfl⟩
  | succ m ih =>
    unfold lastK
    by_cases h : 0 ≤ ks m ∧ ks m < n
    · rw [if_pos h]
      refine ⟨fun j hj hh => ?_, ?_⟩
      · rw [hasK_succ, Bool.or_eq_true, decide_eq_true_eq] at hh
        rcases hh with hh | hh
        · have := ih.1 j hj hh
          omega
        · omega
      · by_cases hle : lastK ks n m ≤ ks m
        · exact .inr ⟨(ks m).toNat, by omega, by omega, by rw [hasK_succ, decide_eq_true (by omega), Bool.or_true]⟩
        · rcases ih.2 with e | ⟨j, h1, h2, h3⟩
          · omega
          · exact .inr ⟨j, h1, by omega, by rw [hasK_succ, h3, Bool.true_or]⟩
    · rw [if_neg h]
      refine ⟨fun j hj hh => ?_, ?_⟩
      · rw [hasK_succ, Bool.or_eq_true, decide_eq_true_eq] at hh
        rcases hh with hh | hh
        · exact ih.1 j hj hh
        · omega
      · rcases ih.2 with e | ⟨j, h1, h2, h3⟩
        · exact .inl e
        · exact .inr ⟨j, h1, h2, by rw [hasK_succ, h3, Bool.true_or]⟩
/-- The writes that survive, of the first k. -/
def keepL (h : Nat → Bool) (pend : List (Nat × ByteArray)) : Nat → List (Nat × ByteArray)
  | 0 => []
  | k + 1 => if h k then keepL h pend k ++ [pend[k]?.getD (0, ⟨#[]⟩)] else keepL h pend k
/-- What of survivor i goes over. -/
def cutR (l : List (Nat × ByteArray)) (torn : Int) (i : Nat) (s : ByteArray) : ByteArray := if (i : Int) = (l.length : Int) - 1 ∧ 0 ≤ torn ∧ torn < s.size then s.extract 0 torn.toNat else s
def tornL (l : List (Nat × ByteArray)) (torn : Int) (dur : List UInt8) : Nat → List UInt8
  | 0 => dur
  | i + 1 => splice (tornL l torn dur i) (l[i]?.getD (0, ⟨#[]⟩)).1 (cutR l torn i (l[i]?.getD (0, ⟨#[]⟩)).2).data.toList
theorem keepL_pre (h : Nat → Bool) (pend : List (Nat × ByteArray)) (k n : Nat) (hk : k ≤ n) : ∃ t, keepL h pend n = keepL h pend k ++ t := by
  induction n with
  | zero =>
    obtain rfl : k = 0 := by omega
    exact ⟨[], by simp⟩
  | succ n ih =>
    by_cases e : k = n + 1
    · subst e; exact ⟨[], by simp⟩
    · obtain ⟨t, ht⟩ := ih (by omega)
      rw [show keepL h pend (n + 1) = if h n then keepL h pend n ++ [pend[n]?.getD (0, ⟨#[]⟩)] else keepL h pend n from rfl]
      split
      · exact ⟨t ++ [pend[n]?.getD (0, ⟨#[]⟩)], by rw [ht, List.append_assoc]⟩
      · exact ⟨t, ht⟩
theorem keepL_none (h : Nat → Bool) (pend : List (Nat × ByteArray)) (k n : Nat) (hk : k ≤ n) (hn : ∀ j, k ≤ j → j < n → h j = false) : keepL h pend n = keepL h pend k := by
  induction n with
  | zero =>
    obtain rfl : k = 0 := by omega
    rfl
  | succ n ih =>
    by_cases e : k = n + 1
    · subst e; rfl
    · have := ih (by omega) (fun j h1 h2 => hn j h1 (by omega))
      rw [← this]
      conv => lhs; unfold keepL
      rw [hn n (by omega) (by omega)]
      rfl
theorem crash_same (ks : Nat → Int) (len : Nat) (torn : Int) (pend : List (Nat × ByteArray)) (dur : List UInt8) (k : Nat) (hk : k ≤ pend.length) :
    crashL (survL ks pend.length len) (lastK ks pend.length len) torn pend dur k = tornL (keepL (fun j => hasK ks len (j : Int)) pend pend.length) torn dur (keepL (fun j => hasK ks len (j : Int)) pend k).length := by
  induction k with
  | zero => rfl
  | succ k ih =>
    have ih := ih (by omega)
    unfold crashL
    rw [survL_has ks pend.length len k (by omega), Option.getD_some]
    cases hh : hasK ks len (k : Int)
    · rw [show keepL (fun j => hasK ks len (j : Int)) pend (k + 1) = keepL (fun j => hasK ks len (j : Int)) pend k by rw [keepL, hh]; rfl, ← ih]
      rfl
    · have e1 : keepL (fun j => hasK ks len (j : Int)) pend (k + 1) = keepL (fun j => hasK ks len (j : Int)) pend k ++ [pend[k]?.getD (0, ⟨#[]⟩)] := by rw [keepL, hh]; rfl
      obtain ⟨t, ht⟩ := keepL_pre (fun j => hasK ks len (j : Int)) pend (k + 1) pend.length hk
      have hget : (keepL (fun j => hasK ks len (j : Int)) pend pend.length)[(keepL (fun j => hasK ks len (j : Int)) pend k).length]? = some (pend[k]?.getD (0, ⟨#[]⟩)) := by
        rw [ht, e1, List.append_assoc, List.getElem?_append_right (Nat.le_refl _), Nat.sub_self]
        rfl
      have hlast : ((keepL (fun j => hasK ks len (j : Int)) pend k).length : Int) = ((keepL (fun j => hasK ks len (j : Int)) pend pend.length).length : Int) - 1 ↔ (k : Int) = lastK ks pend.length len := by
        have hm := lastK_max ks pend.length len
        have hle := hm.1 k (by omega) hh
        constructor
        · intro e
          rw [ht, e1] at e
          have ht0 : t = [] := List.eq_nil_of_length_eq_zero (by simp at e; omega)
          rcases hm.2 with e2 | ⟨j, j1, j2, j3⟩
          · omega
          · by_cases hjk : j ≤ k
            · omega
            · exfalso
              obtain ⟨t2, ht2⟩ := keepL_pre (fun j => hasK ks len (j : Int)) pend (k + 1) j (by omega)
              obtain ⟨t3, ht3⟩ := keepL_pre (fun j => hasK ks len (j : Int)) pend (j + 1) pend.length (by omega)
              have e3 : keepL (fun j => hasK ks len (j : Int)) pend (j + 1) = keepL (fun j => hasK ks len (j : Int)) pend j ++ [pend[j]?.getD (0, ⟨#[]⟩)] := by rw [keepL, j3]; rfl
              rw [ht, ht0, e3, ht2] at ht3
              have := congrArg List.length ht3
              simp at this
        · intro e
          have hn := keepL_none (fun j => hasK ks len (j : Int)) pend (k + 1) pend.length hk (fun j h1 h2 => by
            cases hj : hasK ks len (j : Int)
            · rfl
            · have := hm.1 j h2 hj
              omega)
          rw [hn, e1]
          simp
      rw [e1, List.length_append, List.length_singleton]
      unfold tornL
      rw [hget, Option.getD_some, ← ih]
      rw [if_pos rfl]
      congr 3
      unfold cutW cutR
      simp only [hlast]
end Go.Proofs.Ytdcnddbkjdbbbaa
