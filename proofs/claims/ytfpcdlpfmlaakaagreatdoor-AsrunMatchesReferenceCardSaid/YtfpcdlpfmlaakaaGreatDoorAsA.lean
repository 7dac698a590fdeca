/-
  The walks of asrun.Valid, start, entry.
-/
import Derived.WalkKit
import Derived.LoopTactic
import Derived.WalkSpells
import Derived.WalkLawsBesides
import Derived.IntWalk
import Derived.Outline
import Derived.Lib.Hide
import Derived.Test.YtfpcdlpfmlaakaaGreatDoorDkB
import Derived.Test.YtfpcdlpfmlaakaaGreatDoorDgD
import Derived.Test.YtfpcdlpfmlaakaaGreatDoorShelf
set_option linter.unusedVariables false
set_option linter.unusedSimpArgs false
namespace Go.Proofs.YtfpcdlpfmlaakaaGreatDoor
open Go.RowKit Onair
def recA (r : Rec) : Array Value := #[.int .i64 r.ch, .int .i64 r.rg, .int .i64 r.fr, .int .i64 r.fs, .int .i64 r.it, .int .i64 r.ix]
/-- Every number of a record is a number of Go's. -/
structure RecI (r : Rec) : Prop where
  ch0 : -9223372036854775808 ≤ r.ch
  ch1 : r.ch ≤ 9223372036854775807
  rg0 : -9223372036854775808 ≤ r.rg
  rg1 : r.rg ≤ 9223372036854775807
  fr0 : -9223372036854775808 ≤ r.fr
  fr1 : r.fr ≤ 9223372036854775807
  fs0 : -9223372036854775808 ≤ r.fs
  fs1 : r.fs ≤ 9223372036854775807
  it0 : -9223372036854775808 ≤ r.it
  it1 : r.it ≤ 9223372036854775807
  ix0 : -9223372036854775808 ≤ r.ix
  ix1 : r.ix ≤ 9223372036854775807
theorem validR_I {r : Rec} (h : validR r = true) : RecI r := by
  have h := of_decide_eq_true h
  constructor <;> omega
set_option maxHeartbeats 2000000 in
set_option maxRecDepth 100000 in
theorem valid_any (r : Rec) (w : World) (hr : RecI r) :
    Calls Tryz.prog 39 #[.agg (recA r)] w fun e w' => e = .returned (.bool (validR r)) ∧ w' = w.alloc (.cells (recA r) 62) := by
  obtain ⟨ch, rg, fr, fs, it, ix⟩ := r
  obtain ⟨a0, a1, b0, b1, c0, c1, d0, d1, e0, e1, f0, f1⟩ := hr
  dsimp only at a0 a1 b0 b1 c0 c1 d0 d1 e0 e1 f0 f1
  dsimp only [recA]
  have HV : Hid (∀ b : Bool, (b = true ↔ (0 ≤ ch ∧ ch < 40 ∧ 0 ≤ rg ∧ rg < 8 ∧ 0 ≤ fr ∧ fr ≤ 100000000 ∧ 1 ≤ fs ∧ fs ≤ 100000001 - fr ∧ 0 ≤ it ∧ it ≤ 4611686018427387903 ∧ 0 ≤ ix ∧ ix ≤ 100000000 ∧ (it = 0 → ix = 0))) → b = validR ⟨ch, rg, fr, fs, it, ix⟩) := fun b hb => by
    rw [Bool.eq_iff_iff, hb]
    unfold validR
    rw [decide_eq_true_iff]
  by_cases h1 : 0 ≤ ch ∧ ch < 40 ∧ 0 ≤ rg ∧ rg < 8
  · by_cases h2 : 0 ≤ fr ∧ fr ≤ 100000000 ∧ 1 ≤ fs ∧ fs ≤ 100000001 - fr
    · by_cases h3 : 0 ≤ it ∧ it ≤ 4611686018427387903 ∧ 0 ≤ ix ∧ ix ≤ 100000000
      · obtain ⟨p1, p2, p3, p4⟩ := h1
        obtain ⟨p5, p6, p7, p8⟩ := h2
        obtain ⟨p9, p10, p11, p12⟩ := h3
        by_cases h4 : it = 0
        · subst h4
          have HX : Hid ((ix == 0) = validR ⟨ch, rg, fr, fs, 0, ix⟩) := HV.out _ (by rw [beq_iff_eq]; omega)
          clear HV
          go_enter Tryz.func39, Tryz.ntmps39
          go_wp2
          go_ret
          exact ⟨ret_bool HX.out, rfl⟩
        · have hn : (it != 0) = true := by rw [bne_iff_ne]; exact h4
          have HX : Hid (true = validR ⟨ch, rg, fr, fs, it, ix⟩) := HV.out _ (by simp; omega)
          clear HV
          go_enter Tryz.func39, Tryz.ntmps39
          go_wp2
          go_ret
          exact ⟨ret_bool HX.out, rfl⟩
      · obtain ⟨p1, p2, p3, p4⟩ := h1
        obtain ⟨p5, p6, p7, p8⟩ := h2
        have HX : Hid (false = validR ⟨ch, rg, fr, fs, it, ix⟩) := HV.out _ (by simp; omega)
        clear HV
        rcases (show it < 0 ∨ (0 ≤ it ∧ 4611686018427387903 < it) ∨ (0 ≤ it ∧ it ≤ 4611686018427387903 ∧ ix < 0) ∨ (0 ≤ it ∧ it ≤ 4611686018427387903 ∧ 0 ≤ ix ∧ 100000000 < ix) from by omega) with q1 | ⟨q1, q2⟩ | ⟨q1, q2, q3⟩ | ⟨q1, q2, q3, q4⟩
        all_goals
          clear h3
          go_enter Tryz.func39, Tryz.ntmps39
          go_wp2
          go_ret
          exact ⟨ret_bool HX.out, rfl⟩
    · obtain ⟨p1, p2, p3, p4⟩ := h1
      have HX : Hid (false = validR ⟨ch, rg, fr, fs, it, ix⟩) := HV.out _ (by simp; omega)
      clear HV
      rcases (show fr < 0 ∨ (0 ≤ fr ∧ 100000000 < fr) ∨ (0 ≤ fr ∧ fr ≤ 100000000 ∧ fs < 1) ∨ (0 ≤ fr ∧ fr ≤ 100000000 ∧ 1 ≤ fs ∧ 100000001 - fr < fs) from by omega) with q1 | ⟨q1, q2⟩ | ⟨q1, q2, q3⟩ | ⟨q1, q2, q3, q4⟩
      all_goals
        clear h2
        go_enter Tryz.func39, Tryz.ntmps39
        go_wp2
        go_ret
        exact ⟨ret_bool HX.out, rfl⟩
  · have HX : Hid (false = validR ⟨ch, rg, fr, fs, it, ix⟩) := HV.out _ (by simp; omega)
    clear HV
    rcases (show ch < 0 ∨ (0 ≤ ch ∧ 40 ≤ ch) ∨ (0 ≤ ch ∧ ch < 40 ∧ rg < 0) ∨ (0 ≤ ch ∧ ch < 40 ∧ 0 ≤ rg ∧ 8 ≤ rg) from by omega) with q1 | ⟨q1, q2⟩ | ⟨q1, q2, q3⟩ | ⟨q1, q2, q3, q4⟩
    all_goals
      clear h1
      go_enter Tryz.func39, Tryz.ntmps39
      go_wp2
      go_ret
      exact ⟨ret_bool HX.out, rfl⟩
theorem start_any (w : World) : Calls Tryz.prog 75 #[] w fun e w' => e = .returned (.string zero32) ∧ Below w.heap.size w w' := by
  have HR := Lib.hid (Tryz.strings_Repeat ⟨#[0]⟩ 32 w (by decide) (by decide))
  go_enter Tryz.func75, Tryz.ntmps75
  go_wp2_with fail
  refine HR.out.mono ?_
  rintro e w' ⟨rfl, hb⟩
  have HB := Lib.hid hb
  clear hb
  go_wp2_with fail
  go_ret
  exact ⟨rfl, HB.out⟩
theorem salt_cat (h : ByteArray) : (⟨#[115, 97, 108, 116]⟩ : ByteArray) ++ h = ⟨([115, 97, 108, 116] ++ h.data.toList).toArray⟩ := by
  apply ba_ext
  simp
set_option maxHeartbeats 1000000 in
theorem entry_any (h e0 : ByteArray) (w : World) (hh : h.size ≤ 1000) (he : e0.size ≤ 1000) (ht : TabAt w) :
    Calls Tryz.prog 88 #[.string h, .string e0] w fun e w' => e = .returned (.string (entB h e0)) ∧ Below w.heap.size w w' := by
  have hs : (⟨([115, 97, 108, 116] ++ h.data.toList).toArray⟩ : ByteArray).size ≤ 2000 := by
    show ([115, 97, 108, 116] ++ h.data.toList).toArray.size ≤ 2000
    simp
    omega
  have HS := Lib.hid (sum_any ⟨([115, 97, 108, 116] ++ h.data.toList).toArray⟩ w (by omega) ht)
  have HE : Hid (entB h e0 = shaB ⟨([115, 97, 108, 116] ++ h.data.toList).toArray⟩ ++ e0) := rfl
  rw [← salt_cat] at HS HE
  have h32 := shaB_size ((⟨#[115, 97, 108, 116]⟩ : ByteArray) ++ h)
  obtain ⟨X, hX⟩ : ∃ X, shaB ((⟨#[115, 97, 108, 116]⟩ : ByteArray) ++ h) = X := ⟨_, rfl⟩
  rw [hX] at HS HE h32
  have hx32 : X.size ≤ 32 := by omega
  clear ht hs hX h32
  go_enter Tryz.func88, Tryz.ntmps88
  go_wp2_with fail
  refine HS.out.mono ?_
  rintro e w' ⟨rfl, hb⟩
  have HB := Lib.hid hb
  clear hb
  go_wp2_with fail
  go_ret
  exact ⟨by rw [HE.out]; rfl, HB.out⟩
end Go.Proofs.YtfpcdlpfmlaakaaGreatDoor
