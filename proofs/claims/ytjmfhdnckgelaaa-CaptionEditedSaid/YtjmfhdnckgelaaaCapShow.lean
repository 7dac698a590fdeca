/-
  What is shown, in plain words.
-/
import Derived.Test.YtjmfhdnckgelaaaCapEdit
set_option linter.unusedVariables false
set_option linter.unusedSimpArgs false
namespace Go.Proofs.Ytjmfhdnckgelaaa
def inr (f : Int) (c : Cue) : Prop := c.fr ≤ f ∧ f < c.to
instance (f : Int) (c : Cue) : Decidable (inr f c) := inferInstanceAs (Decidable (_ ∧ _))
/-- c is better than x. -/
def bet (c x : Cue) : Prop := x.pr < c.pr ∨ (c.pr = x.pr ∧ (x.fr < c.fr ∨ (c.fr = x.fr ∧ x.id < c.id)))
theorem ahead_iff (x b : Cue) : aheadB x b = true ↔ ¬ bet b x := by
  unfold aheadB bet
  by_cases h1 : x.pr = b.pr
  · by_cases h2 : x.fr = b.fr
    · rw [if_neg (fun h => h h1), if_neg (fun h => h h2), decide_eq_true_iff]
      omega
    · rw [if_neg (fun h => h h1), if_pos h2, decide_eq_true_iff]
      omega
  · rw [if_pos h1, decide_eq_true_iff]
    omega
theorem bet_trans {d x c : Cue} (h1 : ¬ bet d x) (h2 : ¬ bet x c) : ¬ bet d c := by
  unfold bet at *
  omega
theorem bet_irrefl (x : Cue) : ¬ bet x x := by
  unfold bet
  omega
theorem bet_asymm {x c : Cue} (h : bet x c) : ¬ bet c x := by
  unfold bet at *
  omega
theorem active_spec (l : List Cue) (f : Int) : match activeL l f with
    | none => ∀ c ∈ l, ¬ inr f c
    | some x => x ∈ l ∧ inr f x ∧ ∀ c ∈ l, inr f c → ¬ bet c x := by
  induction l using snocRec with
  | h0 => intro c hc; simp at hc
  | hs l c ih =>
    rw [activeL_snoc]
    unfold astep
    by_cases hc : c.fr ≤ f ∧ f < c.to
    · rw [if_pos hc]
      cases ho : activeL l f with
      | none =>
        rw [ho] at ih
        refine ⟨by simp, hc, fun d hd hi => ?_⟩
        rcases List.mem_append.1 hd with hd | hd
        · exact absurd hi (ih d hd)
        · simp at hd
          subst hd
          exact bet_irrefl d
      | some b =>
        rw [ho] at ih
        obtain ⟨i1, i2, i3⟩ := ih
        show match (if aheadB c b = true then some c else some b) with
          | none => _
          | some x => _
        by_cases ha : aheadB c b = true
        · rw [if_pos ha]
          refine ⟨by simp, hc, fun d hd hi => ?_⟩
          rcases List.mem_append.1 hd with hd | hd
          · exact bet_trans (i3 d hd hi) ((ahead_iff c b).1 ha)
          · simp at hd
            subst hd
            exact bet_irrefl d
        · rw [if_neg ha]
          refine ⟨by simp [i1], i2, fun d hd hi => ?_⟩
          rcases List.mem_append.1 hd with hd | hd
          · exact i3 d hd hi
          · simp at hd
            subst hd
            have : bet b d := by
              by_cases h : bet b d
              · exact h
              · exact absurd ((ahead_iff d b).2 h) ha
            exact bet_asymm this
    · rw [if_neg hc]
      cases ho : activeL l f with
      | none =>
        rw [ho] at ih
        intro d hd hi
        rcases List.mem_append.1 hd with hd | hd
        · exact ih d hd hi
        · simp at hd
          subst hd
          exact hc hi
      | some b =>
        rw [ho] at ih
        obtain ⟨i1, i2, i3⟩ := ih
        refine ⟨by simp [i1], i2, fun d hd hi => ?_⟩
        rcases List.mem_append.1 hd with hd | hd
        · exact i3 d hd hi
        · simp at hd
          subst hd
          exact absurd hi hc
theorem active_none {l : List Cue} {f : Int} (h : activeL l f = none) : ∀ c ∈ l, ¬ inr f c := by
  have := active_spec l f
  rw [h] at this
  exact this
theorem active_some {l : List Cue} {f : Int} {x : Cue} (h : activeL l f = some x) : x ∈ l ∧ inr f x ∧ ∀ c ∈ l, inr f c → ¬ bet c x := by
  have := active_spec l f
  rw [h] at this
  exact this
/-- Whether x has been met in the frame's time. -/
def thereB (f : Int) (x : Cue) (l : List Cue) : Bool := l.any fun c => decide (inr f c) && decide (c = x)
theorem thereB_snoc (f : Int) (x : Cue) (l : List Cue) (c : Cue) : thereB f x (l ++ [c]) = (thereB f x l || (decide (inr f c) && decide (c = x))) := by simp [thereB]
theorem thereB_mem {f : Int} {x : Cue} {l : List Cue} (h : x ∈ l) (hi : inr f x) : thereB f x l = true := by
  unfold thereB
  rw [List.any_eq_true]
  exact ⟨x, h, by simp [hi]⟩
end Go.Proofs.Ytjmfhdnckgelaaa
