/-
  log of package asrun's laws: a log with records on a large disk.
  The reference's Same, and content, of package asrun's laws.
  Cut, Pending and content at a log's disk, for the laws of package asrun.
-/
import Derived.WalkKit
import Derived.LoopTactic
import Derived.WalkSpells
import Derived.WalkLawsBesides
import Derived.RegionTactic
import Derived.BigRegion
import Derived.IntWalk
import Derived.Outline
import Derived.Deep.QuietTactic
import Derived.BigQuiet
import Derived.Deep.RegionLaw
import Derived.Deep.RegionHeld3
import Derived.Laws.StructEq
import Derived.Lib.Hide
import Derived.Test.YtfpcdlpfmlaakaaGreatDoorRaD
import Derived.Test.YtfpcdlpfmlaakaaGreatDoorAsSane
import Derived.Test.YtfpcdlpfmlaakaaGreatDoorAsMN
set_option linter.unusedVariables false
set_option linter.unusedSimpArgs false
namespace Go.Proofs.YtfpcdlpfmlaakaaGreatDoor
open Go.RowKit Onair
attribute [local go_sem ↓] Go.wp_at_zero Go.wp_at_succ
def LogP (w : World) (all : List Rec) (e : Ending) (w' : World) : Prop := ∃ b bl F G D on cn, e = .returned (.tuple #[.pointer (some ⟨bl, 0, none⟩), .slice on all.length cn]) ∧ LX w' w.heap.size b bl F G ⟨D, all, false⟩ ∧ Cln D all ∧ w'.ownsRow w.heap.size 62 6 (.slice on all.length cn) all.length (rcells all) ∧ Below w.heap.size w w'
theorem valid_I {l : List Rec} (h : ∀ r ∈ l, validR r = true) : ∀ r ∈ l, RecI r := fun r hr => validR_I (h r hr)
end Go.Proofs.YtfpcdlpfmlaakaaGreatDoor
namespace Go.Proofs.YtfpcdlpfmlaakaaGreatDoor
open Go.RowKit Onair
attribute [local go_sem ↓] Go.wp_at_zero Go.wp_at_succ
/-- The reference's Same, for lists that are equal. -/
theorem same25_eq (l : List Rec) (oa ob : Option Addr) (n ca cb : Nat) (w : World) (hn : l.length = n) (hlm : n ≤ maxLen) (ha : RdR w oa l) (hb : RdR w ob l) :
    Calls Tryz.prog 16 #[.slice oa n ca, .slice ob n cb] w fun e w' => e = .returned (.bool true) ∧ Below w.heap.size w w' := by
  unfold maxLen at hlm
  have HA := Lib.hid ha
  have HB := Lib.hid hb
  have HN := Lib.hid hn
  clear ha hb hn
  go_enter Tryz.func16, Tryz.ntmps16
  go_wp2_with fail
  go_loopw [5] (fun i wr => ∃ (k : Nat), k ≤ n ∧ i = .int .i64 k ∧ Hid (Below w.heap.size w wr)) (fun i _ => n - (intOf i).toNat)
  case atStart => exact ⟨0, Nat.zero_le _, rfl, Below.refl _ _⟩
  case round =>
    obtain ⟨k, hkl, rfl, HBW⟩ := hrel
    by_cases h : k < n
    · have q1 : (k : Int) < (n : Int) := by omega
      obtain ⟨r, hr⟩ : ∃ r, l[k]? = some r := ⟨l[k]'(by rw [HN.out]; exact h), List.getElem?_eq_getElem _⟩
      obtain ⟨ba, xa, rfl, hba, a0, a1, a2, a3, a4, a5⟩ := HA.out.at k r hr
      obtain ⟨bb, xb, rfl, hbb, b0, b1, b2, b3, b4, b5⟩ := HB.out.at k r hr
      have u := fun j => HBW.out.cell (p := ⟨ba, j, none⟩) hba
      have v := fun j => HBW.out.cell (p := ⟨bb, j, none⟩) hbb
      rw [← u] at a0 a1 a2 a3 a4 a5
      rw [← v] at b0 b1 b2 b3 b4 b5
      clear u v hr
      obtain ⟨r0, r1, r2, r3, r4, r5⟩ := r
      dsimp only at a0 a1 a2 a3 a4 a5 b0 b1 b2 b3 b4 b5
      go_wp2_with fail
      go_region
      all_goals
        go_wp2_with fail
        go_roundw
        case rel => exact ⟨k + 1, by omega, by go_num, HBW.out.drew⟩
        case measure => simp [intOf]; omega
    · have q1 : ¬ (k : Int) < (n : Int) := by omega
      clear h
      go_wp2_with fail
      go_ret
      exact ⟨rfl, HBW.out⟩
def SameP (l m : List Rec) (e : Ending) : Prop := ∃ t, e = .returned (.bool t) ∧ (t = true ↔ l = m)
end Go.Proofs.YtfpcdlpfmlaakaaGreatDoor
namespace Go.Proofs.YtfpcdlpfmlaakaaGreatDoor
open Go.RowKit Onair
attribute [local go_sem ↓] Go.wp_at_zero Go.wp_at_succ
theorem content_x (W : World) (N b : Nat) (F : Nat → Prop) (D : DS) (h : DX W N b F D) (hl : D.lost = false) :
    Calls Tryz.prog 20 #[.pointer (some ⟨b, 0, none⟩)] W fun e w' => e = .returned (.string ⟨D.vis.toArray⟩) ∧ Below W.heap.size W w' := by
  obtain ⟨h0, bd, bv, vp, h1, h2⟩ := h
  have hmx := h1.max
  have hsz := size_any W N b bd bv vp D h1
  have hrd := read_any W N b bd bv vp D 0 (D.vis.length : Int) (by omega) (by omega) (by omega) (by omega) h1
  have e1 : readL D 0 (D.vis.length : Int) = D.vis := by
    unfold readL
    rw [hl, insB_zero]
    show (D.vis.drop (0 : Int).toNat).take ((D.vis.length : Int)).toNat = _
    rw [Int.toNat_natCast]
    show D.vis.take D.vis.length = _
    exact List.take_length
  rw [e1] at hrd
  obtain ⟨er, her⟩ : ∃ er, readE D 0 (D.vis.length : Int) = er := ⟨_, rfl⟩
  rw [her] at hrd
  obtain ⟨c, hc⟩ : ∃ c : ByteArray, (⟨D.vis.toArray⟩ : ByteArray) = c := ⟨_, rfl⟩
  rw [hc] at hrd ⊢
  obtain ⟨n, hn⟩ : ∃ n, D.vis.length = n := ⟨_, rfl⟩
  rw [hn] at hsz hrd
  have HSZ := Lib.hid hsz
  have HRD := Lib.hid hrd
  clear hsz hrd hc her e1 h1 h2 hmx hn h0
  go_enter Tryz.func20, Tryz.ntmps20
  go_wp2_with fail
  refine HSZ.out.mono ?_
  rintro e w' ⟨rfl, rfl⟩
  go_wp2_with fail
  refine HRD.out.mono ?_
  rintro e w' ⟨rfl, rfl⟩
  go_wp2_with fail
  go_ret
  exact ⟨rfl, Below.refl _ _⟩
end Go.Proofs.YtfpcdlpfmlaakaaGreatDoor
