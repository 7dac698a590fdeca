/-
  Cues in memory; the walk of caption.Valid.
-/
import Derived.WalkKit
import Derived.LoopTactic
import Derived.WalkSpells
import Derived.WalkLawsBesides
import Derived.RegionTactic
import Derived.BigRegion
import Derived.Deep.QuietTactic
import Derived.BigQuiet
import Derived.IntWalk
import Derived.Outline
import Derived.Lib.SmallJoins
import Derived.Deep.Slices
import Derived.Deep.Fields
import Derived.ChangeSame
import Derived.Test.YtjmfhdnckgelaaaCapRows
import Derived.Test.YtjmfhdnckgelaaaCapEdit
set_option linter.unusedVariables false
set_option linter.unusedSimpArgs false
namespace Go.Proofs.Ytjmfhdnckgelaaa
open Go.RowKit
def Cue.cells (c : Cue) : List Value := [.int .i64 c.id, .int .i64 c.fr, .int .i64 c.to, .int .i64 c.pr, .string c.tx]
/-- A cue that a Go value can be. -/
structure Cue.Ok (c : Cue) : Prop where
  i0 : -9223372036854775808 ≤ c.id
  i1 : c.id ≤ 9223372036854775807
  f0 : -9223372036854775808 ≤ c.fr
  f1 : c.fr ≤ 9223372036854775807
  t0 : -9223372036854775808 ≤ c.to
  t1 : c.to ≤ 9223372036854775807
  p0 : -9223372036854775808 ≤ c.pr
  p1 : c.pr ≤ 9223372036854775807
  sz : c.tx.size ≤ maxLen
theorem str_empty (s : ByteArray) : s.toList = [] ↔ s = ⟨#[]⟩ := by
  constructor
  · intro h
    rw [ByteArray.toList_eq] at h
    apply ByteArray.ext
    apply Array.ext'
    exact h
  · rintro rfl
    rw [ByteArray.toList_eq]
set_option maxHeartbeats 2000000 in
set_option maxRecDepth 100000 in
theorem valid_any (c : Cue) (w : World) (hc : c.Ok) :
    Calls Try.prog 19 #[.agg #[.int .i64 c.id, .int .i64 c.fr, .int .i64 c.to, .int .i64 c.pr, .string c.tx]] w fun e w' => e = .returned (.bool (validB c)) ∧ Below w.heap.size w w' := by
  obtain ⟨i, f, t, p, s⟩ := c
  obtain ⟨i0, i1, f0, f1, t0, t1, p0, p1, sz⟩ := hc
  simp only at *
  by_cases h1 : 1 ≤ i ∧ i ≤ 4611686018427387903
  · obtain ⟨h1, h1'⟩ := h1
    by_cases h2 : t = 0
    · subst h2
      have hv : validB ⟨i, f, 0, p, s⟩ = (decide (f = 0) && decide (p = 0) && decide (s = ⟨#[]⟩)) := by
        unfold validB
        rw [if_pos rfl, decide_eq_true h1, decide_eq_true h1']
        rfl
      rw [hv]
      clear hv
      have hse := str_empty s
      by_cases hf : f = 0
      · subst hf
        by_cases hp : p = 0
        · subst hp
          by_cases hs : s = ⟨#[]⟩
          · subst hs
            clear hse
            go_enter Try.func19, Try.ntmps19
            go_wp2_with fail
            go_ret
            exact ⟨rfl, (Below.refl _ w).alloc (Nat.le_refl _) _⟩
          · have hs' : ¬ s.toList = [] := fun e => hs (hse.1 e)
            have HS := Lib.hid hs
            clear hs hse
            go_enter Try.func19, Try.ntmps19
            go_wp2_with fail
            go_ret
            exact ⟨by rw [decide_eq_false HS.out]; rfl, (Below.refl _ w).alloc (Nat.le_refl _) _⟩
        · have HS := Lib.hid hp
          clear hse
          go_enter Try.func19, Try.ntmps19
          go_wp2_with fail
          go_ret
          exact ⟨by rw [decide_eq_false HS.out]; rfl, (Below.refl _ w).alloc (Nat.le_refl _) _⟩
      · have HS := Lib.hid hf
        clear hse
        go_enter Try.func19, Try.ntmps19
        go_wp2_with fail
        go_ret
        exact ⟨by rw [decide_eq_false HS.out]; rfl, (Below.refl _ w).alloc (Nat.le_refl _) _⟩
    · have h2' : (t == 0) = false := by rw [beq_eq_false_iff_ne]; exact h2
      have hv : validB ⟨i, f, t, p, s⟩ = (decide (0 ≤ f) && decide (f < t) && decide (t ≤ 100000000) && decide (0 ≤ p) && decide (p ≤ 3) && fitsB s.data.toList) := by
        unfold validB
        rw [if_neg h2, decide_eq_true h1, decide_eq_true h1']
        rfl
      rw [hv]
      clear hv h2
      by_cases hf : 0 ≤ f ∧ f < t ∧ t ≤ 100000000
      · obtain ⟨hf1, hf2, hf3⟩ := hf
        rw [decide_eq_true hf1, decide_eq_true hf2, decide_eq_true hf3]
        by_cases hp : 0 ≤ p ∧ p ≤ 3
        · obtain ⟨hp1, hp2⟩ := hp
          rw [decide_eq_true hp1, decide_eq_true hp2]
          go_enter Try.func19, Try.ntmps19
          go_wp2_with fail
          refine (rows_any s _ sz).mono ?_
          rintro e w' ⟨v, rfl, _, hb⟩
          go_wp2_with fail
          go_ret
          exact ⟨rfl, bstep ((Below.refl _ w).alloc (Nat.le_refl _) _) hb⟩
        · have HP : Hid ((true && true && true && decide (0 ≤ p) && decide (p ≤ 3) && fitsB s.data.toList) = false) := by
            show _ = _
            rw [Bool.eq_false_iff]
            intro h
            simp at h
            exact hp ⟨h.1.1, h.1.2⟩
          rcases (show p < 0 ∨ (0 ≤ p ∧ 3 < p) from by omega) with q1 | ⟨q1, q2⟩
          all_goals
            clear hp
            go_enter Try.func19, Try.ntmps19
            go_wp2_with fail
            go_ret
            exact ⟨by rw [HP.out]; rfl, (Below.refl _ w).alloc (Nat.le_refl _) _⟩
      · have HP : Hid ((decide (0 ≤ f) && decide (f < t) && decide (t ≤ 100000000) && decide (0 ≤ p) && decide (p ≤ 3) && fitsB s.data.toList) = false) := by
          show _ = _
          rw [Bool.eq_false_iff]
          intro h
          simp at h
          exact hf ⟨h.1.1.1.1.1, h.1.1.1.1.2, h.1.1.1.2⟩
        rcases (show f < 0 ∨ (0 ≤ f ∧ t ≤ f) ∨ (0 ≤ f ∧ f < t ∧ 100000000 < t) from by omega) with q1 | ⟨q1, q2⟩ | ⟨q1, q2, q3⟩
        all_goals
          clear hf
          go_enter Try.func19, Try.ntmps19
          go_wp2_with fail
          go_ret
          exact ⟨by rw [HP.out]; rfl, (Below.refl _ w).alloc (Nat.le_refl _) _⟩
  · have HP : Hid (validB ⟨i, f, t, p, s⟩ = false) := by
      show _ = _
      unfold validB
      rw [Bool.eq_false_iff]
      intro h
      simp only [Bool.and_eq_true, decide_eq_true_eq] at h
      exact h1 h.1
    rcases (show i < 1 ∨ (1 ≤ i ∧ 4611686018427387903 < i) from by omega) with q1 | ⟨q1, q2⟩
    all_goals
      clear h1
      go_enter Try.func19, Try.ntmps19
      go_wp2_with fail
      go_ret
      exact ⟨by rw [HP.out]; rfl, (Below.refl _ w).alloc (Nat.le_refl _) _⟩
end Go.Proofs.Ytjmfhdnckgelaaa
