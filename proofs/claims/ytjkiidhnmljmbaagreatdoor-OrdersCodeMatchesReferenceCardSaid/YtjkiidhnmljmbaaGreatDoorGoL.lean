/-
  Orders of every kind: orders.own gives an order with alternatives of its own.
-/
import Derived.Test.YtjkiidhnmljmbaaGreatDoorGoJK
import Derived.Test.YtjkiidhnmljmbaaGreatDoorOrE
set_option linter.unusedVariables false
set_option linter.unusedSimpArgs false
namespace Go.Proofs.YtjkiidhnmljmbaaGreatDoor
open Go.RowKit
def aCells (l : List (Int × Int)) : List Value := l.flatMap fun p => [.int .i64 p.1, .int .i64 p.2]
theorem aCells_at : ∀ (l : List (Int × Int)) (i : Nat) (p : Int × Int), l[i]? = some p → (aCells l)[i * 2]? = some (.int .i64 p.1) ∧ (aCells l)[i * 2 + 1]? = some (.int .i64 p.2)
  | [], _, _, h => by simp at h
  | q :: l, 0, p, h => by
    simp at h
    subst h
    exact ⟨rfl, rfl⟩
  | q :: l, i + 1, p, h => by
    obtain ⟨h1, h2⟩ := aCells_at l i p (by simpa using h)
    refine ⟨?_, ?_⟩
    · rw [← h1, show (i + 1) * 2 = i * 2 + 1 + 1 by omega]; rfl
    · rw [← h2, show (i + 1) * 2 + 1 = i * 2 + 1 + 1 + 1 by omega]; rfl
theorem aCells_snoc (l : List (Int × Int)) (p : Int × Int) : aCells (l ++ [p]) = aCells l ++ [.int .i64 p.1, .int .i64 p.2] := by simp [aCells]
/-- What a row of one's own holds can be read. -/
theorem own_rda {W : World} {B : Nat} {oa : Option Addr} {n cap : Nat} {l : List (Int × Int)} (h : W.ownsRow B 140 2 (.slice oa n cap) l.length (aCells l)) : n = l.length ∧ RdA W oa l ∧ ∀ a, oa = some a → B ≤ a.block := by
  have h' := h
  rcases h.2 with ⟨he, h0⟩ | ⟨g, cap', cur, he, q1, q2, q3⟩
  · simp at he
    have : l = [] := List.eq_nil_of_length_eq_zero h0
    exact ⟨by rw [he.2.1, h0], .inl this, fun a e => by rw [he.1] at e; cases e⟩
  · simp at he
    obtain ⟨rfl, rfl, rfl⟩ := he
    refine ⟨rfl, .inr ⟨g, 0, rfl, (Array.getElem?_eq_some_iff.1 q2).1, fun i p hp => ?_⟩, fun a e => by cases e; exact q1⟩
    have hi := (List.getElem?_eq_some_iff.1 hp).1
    obtain ⟨h1, h2⟩ := aCells_at l i p hp
    rw [Nat.zero_add]
    exact ⟨(h'.cellAt _ (by omega)).trans h1, (h'.cellAt _ (by omega)).trans h2⟩
theorem Tryz.infoAlt : (Tryz.prog.info? 140).map (fun i => (i.zero, i.size, i.bytes)) = some (some (.agg #[.int .i64 0, .int .i64 0]), 2, 16) := by kernel_rfl
def GOd.withA (o : GOd) (oa : Option Addr) (ac : Nat) : GOd := { o with ao := oa, ac := ac }
end Go.Proofs.YtjkiidhnmljmbaaGreatDoor
