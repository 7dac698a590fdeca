/-
  The reference's Same, and content, of package asrun's laws.
-/
import Derived.WalkKit
import Derived.LoopTactic
import Derived.WalkSpells
import Derived.WalkLawsBesides
import Derived.RegionTactic
import Derived.BigRegion
import Derived.IntWalk
import Derived.Outline
import Derived.Deep.QuietTactic
import Derived.BigQuiet
import Derived.Deep.RegionLaw
import Derived.Deep.RegionHeld3
import Derived.Laws.StructEq
import Derived.Lib.Hide
import Derived.Test.YtfpcdlpfmlaakaaDoorAsMN
set_option linter.unusedVariables false
set_option linter.unusedSimpArgs false
namespace Go.Proofs.YtfpcdlpfmlaakaaDoor
open Go.RowKit Onair
attribute [local go_sem ↓] Go.wp_at_zero Go.wp_at_succ
theorem rec_ext {a b : Rec} : a = b ↔ a.ch = b.ch ∧ a.rg = b.rg ∧ a.fr = b.fr ∧ a.fs = b.fs ∧ a.it = b.it ∧ a.ix = b.ix := by
  constructor
  · rintro rfl; exact ⟨rfl, rfl, rfl, rfl, rfl, rfl⟩
  · obtain ⟨a1, a2, a3, a4, a5, a6⟩ := a
    obtain ⟨b1, b2, b3, b4, b5, b6⟩ := b
    rintro ⟨rfl, rfl, rfl, rfl, rfl, rfl⟩
    rfl
theorem takes_eq {a b : List Rec} (h : a.length = b.length) (hk : a.take a.length = b.take a.length) : a = b := by
  rw [List.take_length] at hk
  rw [h, List.take_length] at hk
  exact hk
/-- The reference's Same, for lists that are equal. -/
theorem same25_eq (l : List Rec) (oa ob : Option Addr) (n ca cb : Nat) (w : World) (hn : l.length = n) (hlm : n ≤ maxLen) (ha : RdR w oa l) (hb : RdR w ob l) :
    Calls Tryd.prog 16 #[.slice oa n ca, .slice ob n cb] w fun e w' => e = .returned (.bool true) ∧ Below w.heap.size w w' := by
  unfold maxLen at hlm
  have HA := Lib.hid ha
  have HB := Lib.hid hb
  have HN := Lib.hid hn
  clear ha hb hn
  go_enter Tryd.func16, Tryd.ntmps16
  go_wp2_with fail
  go_loopw [5] (fun i wr => ∃ (k : Nat), k ≤ n ∧ i = .int .i64 k ∧ Hid (Below w.heap.size w wr)) (fun i _ => n - (intOf i).toNat)
  case atStart => exact ⟨0, Nat.zero_le _, rfl, Below.refl _ _⟩
  case round =>
    obtain ⟨k, hkl, rfl, HBW⟩ := hrel
    by_cases h : k < n
    · have q1 : (k : Int) < (n : Int) := by omega
      obtain ⟨r, hr⟩ : ∃ r, l[k]? = some r := ⟨l[k]'(by rw [HN.out]; exact h), List.getElem?_eq_getElem _⟩
      obtain ⟨ba, xa, rfl, hba, a0, a1, a2, a3, a4, a5⟩ := HA.out.at k r hr
      obtain ⟨bb, xb, rfl, hbb, b0, b1, b2, b3, b4, b5⟩ := HB.out.at k r hr
      have u := fun j => HBW.out.cell (p := ⟨ba, j, none⟩) hba
      have v := fun j => HBW.out.cell (p := ⟨bb, j, none⟩) hbb
      rw [← u] at a0 a1 a2 a3 a4 a5
      rw [← v] at b0 b1 b2 b3 b4 b5
      clear u v hr
      obtain ⟨r0, r1, r2, r3, r4, r5⟩ := r
      dsimp only at a0 a1 a2 a3 a4 a5 b0 b1 b2 b3 b4 b5
      go_wp2_with fail
      go_region
      all_goals
        go_wp2_with fail
        go_roundw
        case rel => exact ⟨k + 1, by omega, by go_num, HBW.out.drew⟩
        case measure => simp [intOf]; omega
    · have q1 : ¬ (k : Int) < (n : Int) := by omega
      clear h
      go_wp2_with fail
      go_ret
      exact ⟨rfl, HBW.out⟩
def SameP (l m : List Rec) (e : Ending) : Prop := ∃ t, e = .returned (.bool t) ∧ (t = true ↔ l = m)
/-- The reference's Same. -/
theorem same25_any (l m : List Rec) (oa ob : Option Addr) (n n2 ca cb : Nat) (w : World) (hn : l.length = n) (hn2 : m.length = n2) (hlm : n ≤ maxLen) (hlm2 : n2 ≤ maxLen) (ha : RdR w oa l) (hb : RdR w ob m) :
    Calls Tryd.prog 16 #[.slice oa n ca, .slice ob n2 cb] w fun e w' => SameP l m e ∧ Below w.heap.size w w' := by
  unfold maxLen at hlm hlm2
  by_cases hlen : n = n2
  · subst hlen
    have HA := Lib.hid ha
    have HB := Lib.hid hb
    have HN := Lib.hid hn
    have HM := Lib.hid hn2
    clear ha hb hn hn2 hlm2
    go_enter Tryd.func16, Tryd.ntmps16
    go_wp2_with fail
    go_loopw [5] (fun i wr => ∃ (k : Nat), k ≤ n ∧ i = .int .i64 k ∧ Hid (Below w.heap.size w wr) ∧ Hid (l.take k = m.take k)) (fun i _ => n - (intOf i).toNat)
    case atStart => exact ⟨0, Nat.zero_le _, rfl, Below.refl _ _, rfl⟩
    case round =>
      obtain ⟨k, hkl, rfl, HBW, HTK⟩ := hrel
      by_cases h : k < n
      · have q1 : (k : Int) < (n : Int) := by omega
        obtain ⟨r, hr⟩ : ∃ r, l[k]? = some r := ⟨l[k]'(by rw [HN.out]; exact h), List.getElem?_eq_getElem _⟩
        obtain ⟨s, hs⟩ : ∃ s, m[k]? = some s := ⟨m[k]'(by rw [HM.out]; exact h), List.getElem?_eq_getElem _⟩
        obtain ⟨ba, xa, rfl, hba, a0, a1, a2, a3, a4, a5⟩ := HA.out.at k r hr
        obtain ⟨bb, xb, rfl, hbb, b0, b1, b2, b3, b4, b5⟩ := HB.out.at k s hs
        have u := fun j => HBW.out.cell (p := ⟨ba, j, none⟩) hba
        have v := fun j => HBW.out.cell (p := ⟨bb, j, none⟩) hbb
        rw [← u] at a0 a1 a2 a3 a4 a5
        rw [← v] at b0 b1 b2 b3 b4 b5
        have HT2 : Hid (r = s → l.take (k + 1) = m.take (k + 1)) := (show _ → _ from fun e => by
          subst e
          rw [List.take_add_one, List.take_add_one, hr, hs, HTK.out])
        have HNE : Hid (r ≠ s → ¬ l = m) := (show _ → _ from fun e e2 => by
          subst e2
          rw [hr] at hs
          exact e (by injection hs))
        clear u v hr hs
        obtain ⟨r0, r1, r2, r3, r4, r5⟩ := r
        obtain ⟨s0, s1, s2, s3, s4, s5⟩ := s
        dsimp only at a0 a1 a2 a3 a4 a5 b0 b1 b2 b3 b4 b5
        by_cases hall : r0 = s0 ∧ r1 = s1 ∧ r2 = s2 ∧ r3 = s3 ∧ r4 = s4 ∧ r5 = s5
        · obtain ⟨rfl, rfl, rfl, rfl, rfl, rfl⟩ := hall
          have HT3 := Lib.hid (HT2.out rfl)
          clear HT2 HNE
          go_wp2_with fail
          go_region
          all_goals
            go_wp2_with fail
            go_roundw
            case rel => exact ⟨k + 1, by omega, by go_num, HBW.out.drew, HT3⟩
            case measure => simp [intOf]; omega
        · have HF : Hid (¬ l = m) := HNE.out (fun e => hall (by injection e with e1 e2 e3 e4 e5 e6; exact ⟨e1, e2, e3, e4, e5, e6⟩))
          clear HT2 HNE
          rcases (show (r0 ≠ s0) ∨ (r0 = s0 ∧ r1 ≠ s1) ∨ (r0 = s0 ∧ r1 = s1 ∧ r2 ≠ s2) ∨ (r0 = s0 ∧ r1 = s1 ∧ r2 = s2 ∧ r3 ≠ s3) ∨ (r0 = s0 ∧ r1 = s1 ∧ r2 = s2 ∧ r3 = s3 ∧ r4 ≠ s4) ∨ (r0 = s0 ∧ r1 = s1 ∧ r2 = s2 ∧ r3 = s3 ∧ r4 = s4 ∧ r5 ≠ s5) from by omega) with d | ⟨rfl, d⟩ | ⟨rfl, rfl, d⟩ | ⟨rfl, rfl, rfl, d⟩ | ⟨rfl, rfl, rfl, rfl, d⟩ | ⟨rfl, rfl, rfl, rfl, rfl, d⟩
          all_goals
            have d2 := beq_eq_false_iff_ne.2 d
            clear d hall
            go_wp2_with fail
            go_region
            all_goals
              go_wp2_with fail
              go_ret
              exact ⟨⟨false, rfl, fun e => (Bool.noConfusion e), fun e => absurd e HF.out⟩, HBW.out.drew⟩
      · have q1 : ¬ (k : Int) < (n : Int) := by omega
        have HE : Hid (l = m) := takes_eq (HN.out.trans HM.out.symm) (by
          have := HTK.out
          rw [HN.out]
          rwa [show k = n by omega] at this)
        clear h
        go_wp2_with fail
        go_ret
        exact ⟨⟨true, rfl, fun _ => HE.out, fun _ => rfl⟩, HBW.out⟩
  · have q : ((n : Int) != (n2 : Int)) = true := by rw [bne_iff_ne]; omega
    have HF : Hid (¬ l = m) := fun e => hlen (by rw [← hn, ← hn2, e])
    clear ha hb hn hn2 hlen
    go_enter Tryd.func16, Tryd.ntmps16
    go_wp2_with fail
    go_ret
    exact ⟨⟨false, rfl, fun e => (Bool.noConfusion e), fun e => absurd e HF.out⟩, Below.refl _ _⟩
end Go.Proofs.YtfpcdlpfmlaakaaDoor
