/-
  The walk of the law CaptionEdited. Printed by mkedited.py.
-/
import Derived.WalkKit
import Derived.LoopTactic
import Derived.WalkSpells
import Derived.WalkLawsBesides
import Derived.RegionTactic
import Derived.BigRegion
import Derived.Deep.QuietTactic
import Derived.Deep.RegionHeld
import Derived.BigQuiet
import Derived.IntWalk
import Derived.Outline
import Derived.Test.YtjmfhdnckgelaaaCapSane
import Derived.Test.YtjmfhdnckgelaaaCapEdP
import Derived.Test.YtjmfhdnckgelaaaCapOpen
set_option linter.unusedVariables false
set_option linter.unusedSimpArgs false
namespace Go.Proofs.Ytjmfhdnckgelaaa
open Go.RowKit
theorem asc_step (l : List Cue) (k : Nat) (h : k < l.length) : asc (l.take (k + 1)) ↔ asc (l.take k) ∧ (k = 0 ∨ (l[k - 1]).id < (l[k]).id) := by
  unfold asc
  rw [List.take_succ_eq_append_getElem h, List.pairwise_append]
  constructor
  · rintro ⟨a, _, b⟩
    refine ⟨a, ?_⟩
    by_cases hk : k = 0
    · exact .inl hk
    · refine .inr (b _ ?_ _ (List.mem_singleton.2 rfl))
      rw [List.mem_take_iff_getElem]
      exact ⟨k - 1, by omega, rfl⟩
  · rintro ⟨a, b⟩
    refine ⟨a, List.pairwise_singleton _ _, ?_⟩
    intro x hx y hy
    rw [List.mem_singleton] at hy
    subst hy
    rw [List.mem_take_iff_getElem] at hx
    obtain ⟨j, hj, rfl⟩ := hx
    rcases b with b | b
    · omega
    · by_cases hjk : j = k - 1
      · subst hjk; exact b
      · rw [List.pairwise_iff_getElem] at a
        have := a j (k - 1) (by rw [List.length_take]; omega) (by rw [List.length_take]; omega) (by omega)
        rw [List.getElem_take, List.getElem_take] at this
        exact Int.lt_trans this b
def restL (l : List Cue) (id : Int) : List Cue := l.filter fun x => x.id != id
theorem restL_len (l : List Cue) (id : Int) : (restL l id).length ≤ l.length := List.length_filter_le _ _
theorem rest_edit (l : List Cue) (c : Cue) : restL (editL l c) c.id = restL l c.id := by
  unfold restL
  rw [editL_ed]
  exact ed_rest c l _
theorem find_edit (l : List Cue) (c : Cue) : findL (editL l c) c.id = if c.to ≠ 0 then [c] else [] := by
  unfold findL
  rw [editL_ed, ed_own]
  by_cases h : c.to = 0
  · simp [h]
  · simp [h]
theorem LO.drewN {w wr : World} {v : Value} {L : List Cue} (h : LO w wr v L) (n : Nat) : LO w (wr.drewN n) v L :=
  ⟨ownsRow_keptF h.own (fun _ _ => rfl), drewN_below h.bel n⟩
/-- What the law has in memory. -/
structure Ed (W wr : World) (C : Nat) (c : Cue) (ol : Option Addr) (L : List Cue) (om : Option Addr) (M : List Cue) : Prop where
  c : Blk wr C 24 c.cells
  l : RdC wr ol L
  m : RdC wr om M
  bel : Below W.heap.size W wr
theorem Ed.below {W wr w' : World} {C : Nat} {c : Cue} {ol : Option Addr} {L : List Cue} {om : Option Addr} {M : List Cue} (h : Ed W wr C c ol L om M) (hb : Below wr.heap.size wr w') : Ed W w' C c ol L om M :=
  ⟨h.c.kept (hb.block _ h.c.lt), h.l.kept hb, h.m.kept hb, bstep h.bel hb⟩
theorem drew_below' (w : World) : Below w.heap.size w w.drew := ⟨rfl, rfl, rfl, Nat.le_refl _, fun _ _ => rfl⟩
theorem drewN_below' (w : World) (n : Nat) : Below w.heap.size w (w.drewN n) := ⟨rfl, rfl, rfl, Nat.le_refl _, fun _ _ => rfl⟩
theorem edit_good' (l : List Cue) (c : Cue) (hv : validB c = true) (hl : (editL l c).length ≤ 200) : editR l c = editL l c ∧ editE l c = 0 := by
  have h : editOk l c = true := by unfold editOk; rw [hv, decide_eq_true hl]; rfl
  exact ⟨by unfold editR; rw [if_pos h], by unfold editE; rw [if_pos h]⟩
end Go.Proofs.Ytjmfhdnckgelaaa
