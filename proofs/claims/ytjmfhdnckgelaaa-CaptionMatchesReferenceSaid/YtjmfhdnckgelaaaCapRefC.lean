/-
  The walks of the reference: Valid, ahead.
-/
import Derived.WalkKit
import Derived.LoopTactic
import Derived.WalkSpells
import Derived.WalkLawsBesides
import Derived.RegionTactic
import Derived.BigRegion
import Derived.Deep.QuietTactic
import Derived.Deep.RegionHeld3
import Derived.BigQuiet
import Derived.IntWalk
import Derived.Outline
import Derived.Test.YtjmfhdnckgelaaaCapRefB
set_option linter.unusedVariables false
set_option linter.unusedSimpArgs false
namespace Go.Proofs.Ytjmfhdnckgelaaa
open Go.RowKit
set_option maxHeartbeats 4000000 in
set_option maxRecDepth 100000 in
theorem refValid_any (c : Cue) (w : World) (hc : c.Ok) :
    Calls Try.prog 20 #[.agg #[.int .i64 c.id, .int .i64 c.fr, .int .i64 c.to, .int .i64 c.pr, .string c.tx]] w fun e w' => e = .returned (.bool (validB c)) ∧ Below w.heap.size w w' := by
  have hbx : Blk (w.alloc (.cells #[.int .i64 c.id, .int .i64 c.fr, .int .i64 c.to, .int .i64 c.pr, .string c.tx] 24)) w.heap.size 24 c.cells := Blk.new w 24 c.cells
  have HBX := Lib.hid hbx
  clear hbx
  obtain ⟨i, f, t, p, s⟩ := c
  obtain ⟨i0, i1, f0, f1, t0, t1, p0, p1, sz⟩ := hc
  simp only at *
  by_cases h1 : 1 ≤ i ∧ i ≤ 4611686018427387903
  · obtain ⟨h1, h1'⟩ := h1
    by_cases h2 : t = 0
    · subst h2
      have hv : validB ⟨i, f, 0, p, s⟩ = (decide (f = 0) && decide (p = 0) && decide (s = ⟨#[]⟩)) := by
        unfold validB
        rw [if_pos rfl, decide_eq_true h1, decide_eq_true h1']
        rfl
      rw [hv]
      clear hv
      have hse := str_empty s
      by_cases hf : f = 0
      · subst hf
        by_cases hp : p = 0
        · subst hp
          by_cases hs : s = ⟨#[]⟩
          · subst hs
            clear hse
            go_enter Try.func20, Try.ntmps20
            go_wp2_with fail
            go_ret
            exact ⟨rfl, (Below.refl _ w).alloc (Nat.le_refl _) _⟩
          · have hs' : ¬ s.toList = [] := fun e => hs (hse.1 e)
            have hs2 : (s.toList == ([] : List UInt8)) = false := by rw [beq_eq_false_iff_ne]; exact hs'
            have hs3 : s.toList.isEmpty = false := by rw [List.isEmpty_eq_false_iff]; exact hs'
            have HS := Lib.hid hs
            clear hs hse
            go_enter Try.func20, Try.ntmps20
            go_wp2_with fail
            go_ret
            exact ⟨by rw [decide_eq_false HS.out]; rfl, (Below.refl _ w).alloc (Nat.le_refl _) _⟩
        · have HS := Lib.hid hp
          have hp2 : (p == 0) = false := by rw [beq_eq_false_iff_ne]; exact hp
          clear hse
          go_enter Try.func20, Try.ntmps20
          go_wp2_with fail
          go_ret
          exact ⟨by rw [decide_eq_false HS.out]; rfl, (Below.refl _ w).alloc (Nat.le_refl _) _⟩
      · have HS := Lib.hid hf
        have hf2 : (f == 0) = false := by rw [beq_eq_false_iff_ne]; exact hf
        clear hse
        go_enter Try.func20, Try.ntmps20
        go_wp2_with fail
        go_ret
        exact ⟨by rw [decide_eq_false HS.out]; rfl, (Below.refl _ w).alloc (Nat.le_refl _) _⟩
    · have h2' : (t == 0) = false := by rw [beq_eq_false_iff_ne]; exact h2
      have hv : validB ⟨i, f, t, p, s⟩ = (decide (0 ≤ f) && decide (f < t) && decide (t ≤ 100000000) && decide (0 ≤ p) && decide (p ≤ 3) && fitsB s.data.toList) := by
        unfold validB
        rw [if_neg h2, decide_eq_true h1, decide_eq_true h1']
        rfl
      obtain ⟨vb, hvb⟩ : ∃ vb, validB ⟨i, f, t, p, s⟩ = vb := ⟨_, rfl⟩
      obtain ⟨ft, hft⟩ : ∃ ft, fitsB s.data.toList = ft := ⟨_, rfl⟩
      rw [hvb, hft] at hv
      rw [hvb]
      have HV0 := Lib.hid hv
      have HFT := Lib.hid hft
      clear hv h2 hvb hft
      go_enter Try.func20, Try.ntmps20
      go_wp2_with fail
      refine (refRows_any s _ sz).mono ?_
      rw [HFT.out]
      rintro e w2 ⟨v, rfl, _, hb⟩
      obtain ⟨b0, b1, b2, b3, b4⟩ := cue_cells (HBX.out.kept (hb.block _ HBX.out.lt))
      have HB := Lib.hid (bstep ((Below.refl _ w).alloc (Nat.le_refl _) _) hb)
      clear hb
      by_cases hf : 0 ≤ f ∧ f < t ∧ t ≤ 100000000
      · obtain ⟨hf1, hf2, hf3⟩ := hf
        by_cases hp : 0 ≤ p ∧ p ≤ 3
        · obtain ⟨hp1, hp2⟩ := hp
          have HV : Hid (vb = ft) := by
            show _ = _
            rw [HV0.out, decide_eq_true hf1, decide_eq_true hf2, decide_eq_true hf3, decide_eq_true hp1, decide_eq_true hp2]
            rfl
          go_wp2_with fail
          go_ret
          exact ⟨by rw [HV.out]; rfl, HB.out⟩
        · have HV : Hid (vb = false) := by
            show _ = _
            rw [HV0.out, Bool.eq_false_iff]
            intro h
            simp at h
            exact hp ⟨h.1.1.2, h.1.2⟩
          rcases (show p < 0 ∨ (0 ≤ p ∧ 3 < p) from by omega) with q1 | ⟨q1, q2⟩
          all_goals
            clear hp
            go_wp2_with fail
            go_ret
            exact ⟨by rw [HV.out]; rfl, HB.out⟩
      · have HV : Hid (vb = false) := by
          show _ = _
          rw [HV0.out, Bool.eq_false_iff]
          intro h
          simp at h
          exact hf ⟨h.1.1.1.1.1, h.1.1.1.1.2, h.1.1.1.2⟩
        rcases (show f < 0 ∨ (0 ≤ f ∧ t ≤ f) ∨ (0 ≤ f ∧ f < t ∧ 100000000 < t) from by omega) with q1 | ⟨q1, q2⟩ | ⟨q1, q2, q3⟩
        all_goals
          clear hf
          go_wp2_with fail
          go_ret
          exact ⟨by rw [HV.out]; rfl, HB.out⟩
  · have HP : Hid (validB ⟨i, f, t, p, s⟩ = false) := by
      show _ = _
      unfold validB
      rw [Bool.eq_false_iff]
      intro h
      simp only [Bool.and_eq_true, decide_eq_true_eq] at h
      exact h1 h.1
    rcases (show i < 1 ∨ (1 ≤ i ∧ 4611686018427387903 < i) from by omega) with q1 | ⟨q1, q2⟩
    all_goals
      clear h1
      go_enter Try.func20, Try.ntmps20
      go_wp2_with fail
      go_ret
      exact ⟨by rw [HP.out]; rfl, (Below.refl _ w).alloc (Nat.le_refl _) _⟩
set_option maxHeartbeats 1000000 in
set_option maxRecDepth 100000 in
theorem ahead_any (x b : Cue) (w : World) :
    Calls Try.prog 31 #[.agg #[.int .i64 x.id, .int .i64 x.fr, .int .i64 x.to, .int .i64 x.pr, .string x.tx], .agg #[.int .i64 b.id, .int .i64 b.fr, .int .i64 b.to, .int .i64 b.pr, .string b.tx]] w fun e w' => e = .returned (.bool (aheadB x b)) ∧ Below w.heap.size w w' := by
  by_cases h1 : x.pr = b.pr
  · have h1' : (x.pr != b.pr) = false := by rw [h1]; simp
    by_cases h2 : x.fr = b.fr
    · have h2' : (x.fr != b.fr) = false := by rw [h2]; simp
      have HA : Hid (aheadB x b = decide (b.id ≤ x.id)) := by
        show _ = _
        unfold aheadB
        rw [if_neg (by rw [h1]; simp), if_neg (by rw [h2]; simp)]
      clear h1 h2
      go_enter Try.func31, Try.ntmps31
      go_wp2_with fail
      go_ret
      exact ⟨by rw [HA.out]; rfl, ((Below.refl _ w).alloc (Nat.le_refl _) _).alloc (by simp) _⟩
    · have h2' : (x.fr != b.fr) = true := by simpa using h2
      have HA : Hid (aheadB x b = decide (b.fr < x.fr)) := by
        show _ = _
        unfold aheadB
        rw [if_neg (by rw [h1]; simp), if_pos h2]
      clear h1 h2
      go_enter Try.func31, Try.ntmps31
      go_wp2_with fail
      go_ret
      exact ⟨by rw [HA.out]; rfl, ((Below.refl _ w).alloc (Nat.le_refl _) _).alloc (by simp) _⟩
  · have h1' : (x.pr != b.pr) = true := by simpa using h1
    have HA : Hid (aheadB x b = decide (b.pr < x.pr)) := by
      show _ = _
      unfold aheadB
      rw [if_pos h1]
    clear h1
    go_enter Try.func31, Try.ntmps31
    go_wp2_with fail
    go_ret
    exact ⟨by rw [HA.out]; rfl, ((Below.refl _ w).alloc (Nat.le_refl _) _).alloc (by simp) _⟩
end Go.Proofs.Ytjmfhdnckgelaaa
