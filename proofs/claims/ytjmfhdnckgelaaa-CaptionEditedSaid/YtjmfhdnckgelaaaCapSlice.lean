/-
  Slices of cues; the walk of caption.Edit.
-/
import Derived.WalkKit
import Derived.LoopTactic
import Derived.WalkSpells
import Derived.WalkLawsBesides
import Derived.RegionTactic
import Derived.BigRegion
import Derived.Deep.QuietTactic
import Derived.BigQuiet
import Derived.IntWalk
import Derived.Outline
import Derived.Test.YtjmfhdnckgelaaaCapCue
set_option linter.unusedVariables false
set_option linter.unusedSimpArgs false
namespace Go.Proofs.Ytjmfhdnckgelaaa
open Go.RowKit
def ccells (l : List Cue) : List Value := l.flatMap Cue.cells
theorem ccells_len (l : List Cue) : (ccells l).length = l.length * 5 := by
  induction l with
  | nil => rfl
  | cons c l ih => simp [ccells, Cue.cells] at ih ⊢; omega
theorem ccells_at (l : List Cue) (i k : Nat) (c : Cue) (h : l[i]? = some c) (hk : k < 5) : (ccells l)[i * 5 + k]? = c.cells[k]? := by
  induction l generalizing i with
  | nil => simp at h
  | cons d l ih =>
    cases i with
    | zero =>
      simp at h
      subst h
      show (Cue.cells d ++ ccells l)[0 * 5 + k]? = _
      rw [Nat.zero_mul, Nat.zero_add, List.getElem?_append_left (by simp [Cue.cells]; exact hk)]
    | succ i =>
      show (Cue.cells d ++ ccells l)[(i + 1) * 5 + k]? = _
      rw [List.getElem?_append_right (by simp [Cue.cells]; omega), show (i + 1) * 5 + k - (Cue.cells d).length = i * 5 + k by simp [Cue.cells]; omega]
      exact ih i (by simpa using h)
theorem ccells_snoc (l : List Cue) (c : Cue) : ccells (l ++ [c]) = ccells l ++ [.int .i64 c.id, .int .i64 c.fr, .int .i64 c.to, .int .i64 c.pr, .string c.tx] := by simp [ccells, Cue.cells]
/-- A slice of cues that can be read. -/
def RdC (W : World) (oa : Option Addr) (l : List Cue) : Prop :=
  l = [] ∨ ∃ g off, oa = some ⟨g, off, none⟩ ∧ g < W.heap.size ∧ ∀ i (c : Cue), l[i]? = some c →
    W.cell? ⟨g, off + i * 5, none⟩ = some (.int .i64 c.id) ∧ W.cell? ⟨g, off + i * 5 + 1, none⟩ = some (.int .i64 c.fr) ∧ W.cell? ⟨g, off + i * 5 + 2, none⟩ = some (.int .i64 c.to) ∧ W.cell? ⟨g, off + i * 5 + 3, none⟩ = some (.int .i64 c.pr) ∧ W.cell? ⟨g, off + i * 5 + 4, none⟩ = some (.string c.tx)
theorem RdC.kept {W W' : World} {oa : Option Addr} {l : List Cue} (h : RdC W oa l) (hb : Below W.heap.size W W') : RdC W' oa l := by
  rcases h with h | ⟨g, off, rfl, hg, hc⟩
  · exact .inl h
  · refine .inr ⟨g, off, rfl, Nat.lt_of_lt_of_le hg hb.size, fun i c hi => ?_⟩
    obtain ⟨c0, c1, c2, c3, c4⟩ := hc i c hi
    exact ⟨(hb.cell (p := ⟨g, _, none⟩) hg).trans c0, (hb.cell (p := ⟨g, _, none⟩) hg).trans c1, (hb.cell (p := ⟨g, _, none⟩) hg).trans c2, (hb.cell (p := ⟨g, _, none⟩) hg).trans c3, (hb.cell (p := ⟨g, _, none⟩) hg).trans c4⟩
theorem RdC.at {W : World} {oa : Option Addr} {l : List Cue} (h : RdC W oa l) (i : Nat) (hi : i < l.length) : ∃ g off, oa = some ⟨g, off, none⟩ ∧ W.cell? ⟨g, off + i * 5, none⟩ = some (.int .i64 (l[i]).id) ∧ W.cell? ⟨g, off + i * 5 + 1, none⟩ = some (.int .i64 (l[i]).fr) ∧ W.cell? ⟨g, off + i * 5 + 2, none⟩ = some (.int .i64 (l[i]).to) ∧ W.cell? ⟨g, off + i * 5 + 3, none⟩ = some (.int .i64 (l[i]).pr) ∧ W.cell? ⟨g, off + i * 5 + 4, none⟩ = some (.string (l[i]).tx) := by
  rcases h with rfl | ⟨g, off, rfl, hg, hc⟩
  · simp at hi
  · exact ⟨g, off, rfl, hc i _ (List.getElem?_eq_getElem hi)⟩
theorem own_rdc {W : World} {B : Nat} {oa : Option Addr} {n cap : Nat} {l : List Cue} (h : W.ownsRow B 24 5 (.slice oa n cap) l.length (ccells l)) : n = l.length ∧ RdC W oa l := by
  have h' := h
  rcases h.2 with ⟨he, h0⟩ | ⟨g, cap', cur, he, q1, q2, q3⟩
  · simp at he
    have : l = [] := List.eq_nil_of_length_eq_zero h0
    exact ⟨by rw [he.2.1, h0], .inl this⟩
  · simp at he
    obtain ⟨rfl, rfl, rfl⟩ := he
    refine ⟨rfl, .inr ⟨g, 0, rfl, (Array.getElem?_eq_some_iff.1 q2).1, fun i c hi => ?_⟩⟩
    have hil : i < l.length := (List.getElem?_eq_some_iff.1 hi).1
    have key : ∀ k, k < 5 → W.cell? ⟨g, i * 5 + k, none⟩ = c.cells[k]? := fun k hk => by
      rw [h'.cellAt _ (by omega), ccells_at l i k c hi hk]
    rw [Nat.zero_add]
    exact ⟨key 0 (by decide), key 1 (by decide), key 2 (by decide), key 3 (by decide), key 4 (by decide)⟩
theorem Try.infoCue : (Try.prog.info? 24).map (fun i => (i.zero, i.size, i.bytes)) = some (some (.agg #[.int .i64 0, .int .i64 0, .int .i64 0, .int .i64 0, .string ⟨#[]⟩]), 5, 48) := by kernel_rfl
/-- append of one cue to a slice of the call's own. -/
theorem app_cue (wr : World) (B : Nat) (v : Value) (l : List Cue) (c : Cue) (hown : wr.ownsRow B 24 5 v l.length (ccells l)) (hn : l.length ≤ 1000000) (hB : B ≤ wr.heap.size) (ty : TypeId) :
    ∃ oa cap w', (Builtin.append_ #[22, 22] ty #[v, .slice (some ⟨wr.heap.size, 0, none⟩) 1 1]).run Try.prog (wr.alloc (.cells #[.int .i64 c.id, .int .i64 c.fr, .int .i64 c.to, .int .i64 c.pr, .string c.tx] 24)) = .ok (.slice oa (l.length + 1) cap) w' ∧ w'.ownsRow B 24 5 (.slice oa (l.length + 1) cap) (l.length + 1) (ccells (l ++ [c])) ∧ Fr (fun k => v.ownBlock = some k) wr w' := by
  obtain ⟨i0, hi, hz0, hz1, hz2⟩ := info_parts Try.infoCue
  have hnew : Blk (wr.alloc (.cells #[.int .i64 c.id, .int .i64 c.fr, .int .i64 c.to, .int .i64 c.pr, .string c.tx] 24)) wr.heap.size 24 c.cells := Blk.new wr _ c.cells
  obtain ⟨v', w', hrun, h1, h2, h3⟩ := app_own (P := Try.prog) (W := wr.alloc (.cells #[.int .i64 c.id, .int .i64 c.fr, .int .i64 c.to, .int .i64 c.pr, .string c.tx] 24)) B 22 ty 24 i0 _ 5 48 Try.underlying22 hi hz0 hz1 hz2 rfl (by decide) v l.length (ccells l) (hown.alloc _) ⟨wr.heap.size, 0, none⟩ 1 1 c.cells rfl (fun j u hj => by
      rw [show ((⟨wr.heap.size, 0, none⟩ : Addr).add j) = ⟨wr.heap.size, j, none⟩ from by unfold Addr.add; split <;> simp_all, hnew.cell]
      exact hj) (by intro u hu; simp [Cue.cells] at hu; rcases hu with rfl | rfl | rfl | rfl | rfl <;> rfl) (by unfold maxLen; omega) (by omega) (by simp; omega)
  obtain ⟨oa, cap, rfl⟩ := own_slice h1
  refine ⟨oa, cap, w', hrun, ?_, ((Fr.refl _ wr).alloc _).trans h2 (fun _ _ h => h)⟩
  rw [ccells_snoc]
  exact h1
end Go.Proofs.Ytjmfhdnckgelaaa
