/-
  Orders: an acknowledgment that a sender receives, below the last one: the postings behind it are to be sent anew.
-/
import Derived.Test.YtjkiidhnmljmbaaDoorOrH
import Derived.Test.YtjkiidhnmljmbaaDoorOrK
set_option linter.unusedVariables false
set_option linter.unusedSimpArgs false
namespace Go.Proofs.YtjkiidhnmljmbaaDoor
open Go.RowKit
attribute [local go_sem] Oper.semAt_some
/-- The postings first to j - 1 are as if they were never sent. -/
def clrL (L : List Pst) (first j : Nat) : List Pst := L.mapIdx fun i p => if first ≤ i ∧ i < j then ⟨p.fr, false, 0⟩ else p
theorem clrL_len (L : List Pst) (first j : Nat) : (clrL L first j).length = L.length := by simp [clrL]
theorem clrL_get (L : List Pst) (first j : Nat) (i : Nat) : (clrL L first j)[i]? = (L[i]?).map fun p => if first ≤ i ∧ i < j then ⟨p.fr, false, 0⟩ else p := by simp [clrL]
theorem SnAt.put {A : World} {B bs g n cap j k : Nat} {tn : Int} {L : List Pst} {p : Pst} (h : SnAt A B bs tn (.slice (some ⟨g, 0, none⟩) n cap) L k) (hp : L[j]? = some p) (b : Bool) (a : Int) :
    SnAt ((A.setCell ⟨g, j * 28 + 26, none⟩ (.bool b)).setCell ⟨g, j * 28 + 27, none⟩ (.int .i64 a)) B bs tn (.slice (some ⟨g, 0, none⟩) n cap) (L.set j ⟨p.fr, b, a⟩) k := by
  have hgb : bs ≠ g := fun e => h.ne g rfl e.symm
  have ho := h.own
  obtain ⟨oa, cap', he⟩ := own_slice ho
  simp only [Value.slice.injEq] at he
  obtain ⟨_, hn, _⟩ := he
  subst hn
  have hset := ownsRow_set (ownsRow_set ho (j * 28 + 26) (.bool b)) (j * 28 + 27) (.int .i64 a)
  rw [← pCells_set ⟨p.fr, b, a⟩ p L 0 j hp rfl] at hset
  exact ⟨(h.blk.other _ (fun e => hgb e.symm) _).other _ (fun e => hgb e.symm) _, by rw [List.length_set]; exact hset, h.ge, h.ne⟩
end Go.Proofs.YtjkiidhnmljmbaaDoor
