/-
  The reference's Valid.
-/
import Derived.Test.YtfpcdlpfmlaakaaDoorAsA
set_option linter.unusedVariables false
set_option linter.unusedSimpArgs false
namespace Go.Proofs.YtfpcdlpfmlaakaaDoor
open Go.RowKit Onair
set_option maxHeartbeats 4000000 in
set_option maxRecDepth 100000 in
theorem refValid25_any (r : Rec) (w : World) (hr : RecI r) :
    Calls Tryd.prog 18 #[.agg (recA r)] w fun e w' => e = .returned (.bool (validR r)) ∧ Below w.heap.size w w' := by
  have HBW : Hid (Below w.heap.size w (w.alloc (.cells (recA r) 34))) := (Below.refl _ _).alloc (Nat.le_refl _) _
  obtain ⟨ch, rg, fr, fs, it, ix⟩ := r
  obtain ⟨a0, a1, b0, b1, c0, c1, d0, d1, e0, e1, f0, f1⟩ := hr
  dsimp only at a0 a1 b0 b1 c0 c1 d0 d1 e0 e1 f0 f1
  dsimp only [recA] at HBW ⊢
  have HV : Hid (∀ b : Bool, (b = true ↔ (0 ≤ ch ∧ ch < 40 ∧ 0 ≤ rg ∧ rg < 8 ∧ 0 ≤ fr ∧ fr ≤ 100000000 ∧ 1 ≤ fs ∧ fs ≤ 100000001 - fr ∧ 0 ≤ it ∧ it ≤ 4611686018427387903 ∧ 0 ≤ ix ∧ ix ≤ 100000000 ∧ (it = 0 → ix = 0))) → b = validR ⟨ch, rg, fr, fs, it, ix⟩) := fun b hb => by
    rw [Bool.eq_iff_iff, hb]
    unfold validR
    rw [decide_eq_true_iff]
  by_cases h1 : 0 ≤ ch ∧ ch < 40 ∧ 0 ≤ rg ∧ rg < 8 ∧ 0 ≤ fr ∧ fr ≤ 100000000 ∧ 1 ≤ fs ∧ fs ≤ 100000001 - fr
  · obtain ⟨p1, p2, p3, p4, p5, p6, p7, p8⟩ := h1
    by_cases h3 : 0 ≤ it ∧ it ≤ 4611686018427387903 ∧ 0 ≤ ix ∧ ix ≤ 100000000
    · obtain ⟨p9, p10, p11, p12⟩ := h3
      by_cases h4 : it = 0
      · subst h4
        have HX : Hid ((ix == 0) = validR ⟨ch, rg, fr, fs, 0, ix⟩) := HV.out _ (by rw [beq_iff_eq]; omega)
        clear HV
        go_enter Tryd.func18, Tryd.ntmps18
        go_wp2
        go_ret
        exact ⟨ret_bool HX.out, HBW.out⟩
      · have hn : (it != 0) = true := by rw [bne_iff_ne]; exact h4
        have HX : Hid (true = validR ⟨ch, rg, fr, fs, it, ix⟩) := HV.out _ (by simp; omega)
        clear HV
        go_enter Tryd.func18, Tryd.ntmps18
        go_wp2
        go_ret
        exact ⟨ret_bool HX.out, HBW.out⟩
    · have HX : Hid (false = validR ⟨ch, rg, fr, fs, it, ix⟩) := HV.out _ (by simp; omega)
      clear HV
      rcases (show it < 0 ∨ (0 ≤ it ∧ 4611686018427387903 < it) ∨ (0 ≤ it ∧ it ≤ 4611686018427387903 ∧ ix < 0) ∨ (0 ≤ it ∧ it ≤ 4611686018427387903 ∧ 0 ≤ ix ∧ 100000000 < ix) from by omega) with q1 | ⟨q1, q2⟩ | ⟨q1, q2, q3⟩ | ⟨q1, q2, q3, q4⟩
      all_goals
        clear h3
        go_enter Tryd.func18, Tryd.ntmps18
        go_wp2
        go_ret
        exact ⟨ret_bool HX.out, HBW.out⟩
  · have HX : Hid (false = validR ⟨ch, rg, fr, fs, it, ix⟩) := HV.out _ (by simp; omega)
    clear HV
    rcases (show ch < 0 ∨ (0 ≤ ch ∧ 40 ≤ ch) ∨ (0 ≤ ch ∧ ch < 40 ∧ rg < 0) ∨ (0 ≤ ch ∧ ch < 40 ∧ 0 ≤ rg ∧ 8 ≤ rg) ∨ (0 ≤ ch ∧ ch < 40 ∧ 0 ≤ rg ∧ rg < 8 ∧ fr < 0) ∨ (0 ≤ ch ∧ ch < 40 ∧ 0 ≤ rg ∧ rg < 8 ∧ 0 ≤ fr ∧ 100000000 < fr) ∨ (0 ≤ ch ∧ ch < 40 ∧ 0 ≤ rg ∧ rg < 8 ∧ 0 ≤ fr ∧ fr ≤ 100000000 ∧ fs < 1) ∨ (0 ≤ ch ∧ ch < 40 ∧ 0 ≤ rg ∧ rg < 8 ∧ 0 ≤ fr ∧ fr ≤ 100000000 ∧ 1 ≤ fs ∧ 100000001 - fr < fs) from by omega) with q1 | ⟨q1, q2⟩ | ⟨q1, q2, q3⟩ | ⟨q1, q2, q3, q4⟩ | ⟨q1, q2, q3, q4, q5⟩ | ⟨q1, q2, q3, q4, q5, q6⟩ | ⟨q1, q2, q3, q4, q5, q6, q7⟩ | ⟨q1, q2, q3, q4, q5, q6, q7, q8⟩
    all_goals
      clear h1
      go_enter Tryd.func18, Tryd.ntmps18
      go_wp2
      go_ret
      exact ⟨ret_bool HX.out, HBW.out⟩
end Go.Proofs.YtfpcdlpfmlaakaaDoor
