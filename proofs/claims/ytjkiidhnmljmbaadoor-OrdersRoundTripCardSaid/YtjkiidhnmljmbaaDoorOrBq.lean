/-
  The builder's String keeps every block that is not the builder's own.
-/
import Derived.WalkKit
import Derived.LoopTactic
import Derived.WalkSpells
import Derived.WalkLawsBesides
import Derived.RegionTactic
import Derived.BigRegion
import Derived.Outline
import Derived.Lib.Strings
import Derived.Lib.UnsafeStr
import Derived.Laws.Externs
import Derived.Test.YtjkiidhnmljmbaaDoorOrBl
set_option linter.unusedVariables false
set_option linter.unusedSimpArgs false
namespace Go.Proofs.YtjkiidhnmljmbaaDoor
open Go.RowKit Onair
theorem freeze_block (w : World) (g n : Nat) (k : Nat) (hk : k ≠ g) : (w.freeze ⟨g, 0, none⟩ n).heap[k]? = w.heap[k]? := by
  unfold World.freeze
  split
  · rfl
  · simp only [Array.getElem?_modify]
    rw [if_neg (fun e => hk e.symm)]
theorem Keeps.freeze {b g n : Nat} {w : World} (cs : Array Value) (fz : Nat × Nat) (hg : w.heap[g]? = some (.cells cs 5 fz)) : Keeps b w (w.freeze ⟨g, 0, none⟩ n) := by
  intro k t l ht hk hb
  show _ = _
  rw [freeze_block w g n k (fun e => ?_)]
  · exact hb
  · subst e
    have h2 : w.heap[k]? = _ := hb
    rw [hg] at h2
    cases h2
    exact ht rfl
set_option maxHeartbeats 2000000 in
set_option maxRecDepth 100000 in
theorem string_keeps (B b : Nat) (l : List UInt8) (w : World) (h : Bld B b l w) (h0 : l ≠ []) :
    Calls Tryd.prog 33 #[.pointer (some ⟨b, 0, none⟩)] w fun e w' => e = .returned (.string ⟨l.toArray⟩) ∧ Below B w w' ∧ Keeps b w w' := by
  obtain ⟨p, hB, v, hbk, hown, hne⟩ : ∃ p, Lib.BuilderAt 68 5 B b p (Lib.byteCells l) w := by
    rcases h with h | h
    · exact ⟨_, h⟩
    · exact ⟨_, h⟩
  have hl0 : l.length ≠ 0 := by simpa using h0
  rw [Lib.byteCells_length] at hown
  obtain ⟨g, cap, cur, rfl, hbg, hg, hnc, hcm, hcs, htake⟩ : ∃ g cap cur, v = .slice (some ⟨g, 0, none⟩) l.length cap ∧ B ≤ g ∧ w.heap[g]? = some (.cells cur 5 (0, 0)) ∧ l.length ≤ cap ∧ cap ≤ maxLen ∧ cur.size = cap * 1 ∧ cur.toList.take (l.length * 1) = Lib.byteCells l := by
    rcases hown.2 with ⟨_, hz⟩ | ⟨g, cap, cur, hv, r⟩
    · exact absurd hz hl0
    · exact ⟨g, cap, cur, hv, r⟩
  have c1 : w.drew.cell? ⟨b, 1, none⟩ = some (.slice (some ⟨g, 0, none⟩) l.length cap) := by
    have : w.drew.heap[b]? = some (.cells #[p, .slice (some ⟨g, 0, none⟩) l.length cap] 68 (0, 0)) := hbk
    rw [Lib.cell_of_heap this]
    rfl
  have hg' : w.drew.heap[g]? = some (.cells cur 5 (0, 0)) := hg
  have hSD : ∀ ty, (Builtin.unsafeSliceData_ #[66] ty #[.slice (some ⟨g, 0, none⟩) l.length cap]).run Tryd.prog w.drew = .ok (.pointer (some ⟨g, 0, none⟩)) w.drew :=
    fun ty => Lib.run_unsafeSliceData_row _ _ _ _ _ _ (by omega)
  have hUS : ∀ ty, (Builtin.unsafeString_ #[124, 3] ty #[.pointer (some ⟨g, 0, none⟩), .int .i64 l.length]).run Tryd.prog w.drew = .ok (.string ⟨l.toArray⟩) (w.drew.freeze ⟨g, 0, none⟩ l.length) := by
    intro ty
    refine Lib.run_unsafeString_row w.drew 124 3 ty 5 Tryd.underlying124 (by kernel_rfl) g cur.size (by simp [World.shape?, hg']) l h0 (by omega) (by unfold maxLen at hcm; omega) ?_
    intro j x hx
    exact hown.cells (g := g) rfl j (.int .u8 x.toNat) (by simp [Lib.byteCells, hx])
  have HFIN : Hid (Below B w (w.drew.freeze ⟨g, 0, none⟩ l.length) ∧ Keeps b w (w.drew.freeze ⟨g, 0, none⟩ l.length)) :=
    ⟨Lib.below_freeze (Below.drew (Below.refl B w)) (p := ⟨g, 0, none⟩) hbg _, (Keeps.below (Below.drew (Below.refl _ w))).trans (Keeps.freeze cur (0, 0) hg')⟩
  clear hown hbk hg hg' htake h
  go_enter Tryd.func33, Tryd.ntmps33
  go_wp2
  go_region
  all_goals (go_wp2; go_ret; exact ⟨rfl, HFIN.out⟩)
end Go.Proofs.YtjkiidhnmljmbaaDoor
