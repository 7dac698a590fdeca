/-
  Orders, the law Prefix: plain lemmas (the orders that were added; what a tick sends; what a receiver holds).
-/
import Derived.Test.YtjkiidhnmljmbaaDoorOrSm
import Derived.Test.YtjkiidhnmljmbaaDoorOrRp
set_option linter.unusedVariables false
set_option linter.unusedSimpArgs false
namespace Go.Proofs.YtjkiidhnmljmbaaDoor
open Go.RowKit
/-- The frame of the law behind i rounds; the order of place j; the first n orders. -/
def atF (zs : Nat → Int) : Nat → Int
  | 0 => 0
  | i + 1 => atF zs i + pickO (zs i) 100
def ordO (zs : Nat → Int) (j : Nat) : Od := ⟨(j : Int) + 1, -1, atF zs (j + 1), 2, 1⟩
def addO (zs : Nat → Int) (n : Nat) : List Od := (List.range n).map (ordO zs)
theorem atF_bd (zs : Nat → Int) (i : Nat) : 0 ≤ atF zs i ∧ atF zs i ≤ 100 * (i : Int) := by
  induction i with
  | zero => exact ⟨Int.le_refl _, Int.le_refl _⟩
  | succ i ih =>
    have := pickO_bd (zs i) 100 (by decide)
    show 0 ≤ atF zs i + pickO (zs i) 100 ∧ atF zs i + pickO (zs i) 100 ≤ 100 * ((i + 1 : Nat) : Int)
    constructor <;> omega
theorem atF_le (zs : Nat → Int) (i : Nat) : atF zs i ≤ atF zs (i + 1) := by
  have := pickO_bd (zs i) 100 (by decide)
  show atF zs i ≤ atF zs i + pickO (zs i) 100
  omega
theorem addO_len (zs : Nat → Int) (n : Nat) : (addO zs n).length = n := by simp [addO]
theorem addO_succ (zs : Nat → Int) (n : Nat) : addO zs (n + 1) = addO zs n ++ [ordO zs n] := by simp [addO, List.range_succ]
theorem addO_take (zs : Nat → Int) (m n : Nat) (h : m ≤ n) : (addO zs n).take m = addO zs m := by
  refine List.ext_getElem? fun i => ?_
  rw [List.getElem?_take]
  by_cases hi : i < m
  · rw [if_pos hi]
    simp [addO, hi, show i < n by omega]
  · rw [if_neg hi]
    simp [addO, hi]
/-- The head of a list of orders in memory. -/
theorem RdO.take {W : World} {oa : Option Addr} {l : List Od} (h : RdO W oa l) (m : Nat) : RdO W oa (l.take m) := by
  rcases h with rfl | ⟨b, o, e, hlt, hc⟩
  · exact .inl (by simp)
  · refine .inr ⟨b, o, e, hlt, fun j v hj => hc j v ?_⟩
    have e2 : oCells l = oCells (l.take m) ++ oCells (l.drop m) := by
      unfold oCells
      rw [← List.flatMap_append, List.take_append_drop]
    rw [e2, List.getElem?_append_left (List.getElem?_eq_some_iff.1 hj).1]
    exact hj
theorem sentL_fr (L : List Pst) (f : Nat) (now : Int) (x : Nat × Int) : ∀ m, x ∈ sentL L f now m → ∃ p, L[x.1]? = some p ∧ x.2 = p.fr
  | 0, h => by cases h
  | m + 1, h => by
    rcases List.mem_append.1 (show x ∈ sentL L f now m ++ _ from h) with h | h
    · exact sentL_fr L f now x m h
    · cases hp : L[m]? with
      | none => rw [hp] at h; cases h
      | some p =>
        rw [hp] at h
        by_cases hc : f ≤ m ∧ p.due now = true
        · simp only [hc, and_self, if_true, List.mem_singleton] at h
          subst h
          exact ⟨p, hp, rfl⟩
        · simp only [hc, if_false] at h
          cases h
/-- The postings of the law behind i rounds. -/
structure PstI (zs : Nat → Int) (L : List Pst) (i : Nat) (now : Int) : Prop where
  len : L.length = i
  rel : ∀ j p, L[j]? = some p → p.fr = atF zs (j + 1) ∧ 0 ≤ p.at_ ∧ p.at_ ≤ now
theorem PstI.add {zs : Nat → Int} {L : List Pst} {i : Nat} {now : Int} (h : PstI zs L i now) (h0 : 0 ≤ now) : PstI zs (L ++ [⟨atF zs (i + 1), false, 0⟩]) (i + 1) now := by
  refine ⟨by rw [List.length_append, h.len]; rfl, fun j p hp => ?_⟩
  by_cases hj : j < L.length
  · rw [List.getElem?_append_left hj] at hp
    exact h.rel j p hp
  · have hl := (List.getElem?_eq_some_iff.1 hp).1
    rw [List.length_append, List.length_singleton] at hl
    have e : j = L.length := by omega
    subst e
    rw [List.getElem?_append_right (Nat.le_refl _), Nat.sub_self] at hp
    simp at hp
    subst hp
    rw [h.len]
    exact ⟨rfl, Int.le_refl _, h0⟩
theorem PstI.tick {zs : Nat → Int} {L : List Pst} {i : Nat} {now : Int} (h : PstI zs L i now) (f m : Nat) (now' : Int) (h1 : now ≤ now') (h0 : 0 ≤ now') : PstI zs (updL L f m now') i now' := by
  refine ⟨by rw [updL_len]; exact h.len, fun j q hq => ?_⟩
  rw [updL_get] at hq
  cases hp : L[j]? with
  | none => rw [hp] at hq; cases hq
  | some p =>
    rw [hp] at hq
    simp only [Option.map_some, Option.some.injEq] at hq
    obtain ⟨a1, a2, a3⟩ := h.rel j p hp
    split at hq
    · unfold Pst.upd at hq
      split at hq
      · subst hq
        exact ⟨a1, h0, Int.le_refl _⟩
      · subst hq
        exact ⟨a1, a2, by omega⟩
    · subst hq
      exact ⟨a1, a2, by omega⟩
/-- The messages that were sent are of orders that were added. -/
def SndI (zs : Nat → Int) (S : List (Nat × Int)) (n : Nat) : Prop := ∀ x ∈ S, x.1 < n ∧ x.2 = atF zs (x.1 + 1)
theorem SndI.app {zs : Nat → Int} {S : List (Nat × Int)} {L : List Pst} {n n' : Nat} {now : Int} (h : SndI zs S n) (hn : n ≤ n') (hL : PstI zs L n' now) (f : Nat) (now' : Int) : SndI zs (S ++ sentL L f now' n') n' := fun x hx => by
  rcases List.mem_append.1 hx with hx | hx
  · have := h x hx
    exact ⟨by omega, this.2⟩
  · obtain ⟨_, h2, _⟩ := sentL_mem L f now' x n' hx
    obtain ⟨p, hp, hf⟩ := sentL_fr L f now' x n' hx
    exact ⟨h2, hf.trans (hL.rel x.1 p hp).1⟩
theorem sentL_last (L : List Pst) (fr : Int) (n f : Nat) (now : Int) (hn : L.length = n) (hf : f ≤ n) : sentL (L ++ [⟨fr, false, 0⟩]) f now (n + 1) ≠ [] := by
  have hp : (L ++ [(⟨fr, false, 0⟩ : Pst)])[n]? = some ⟨fr, false, 0⟩ := by rw [← hn, List.getElem?_append_right (Nat.le_refl _), Nat.sub_self]; rfl
  rw [sentL_yes _ f n now _ hf hp (by simp [Pst.due, dueB])]
  simp
/-- What a receiver holds: the first orders, and early ones. -/
structure RcvI (zs : Nat → Int) (n : Nat) (l : List Od) (E : List (Int × Od)) : Prop where
  eq : l = addO zs l.length
  le : l.length ≤ n
  early : ∀ p ∈ E, ∃ j, j < n ∧ p.1 = (j : Int) + 1 ∧ p.2 = ordO zs j
theorem RcvI.mono {zs : Nat → Int} {n n' : Nat} {l : List Od} {E : List (Int × Od)} (h : RcvI zs n l E) (hn : n ≤ n') : RcvI zs n' l E :=
  ⟨h.eq, Nat.le_trans h.le hn, fun p hp => by obtain ⟨j, h1, h2⟩ := h.early p hp; exact ⟨j, by omega, h2⟩⟩
theorem RcvI.put {zs : Nat → Int} {n j : Nat} {l : List Od} {E : List (Int × Od)} (h : RcvI zs n l E) (hj : j < n) : RcvI zs n l (putE l E ((j : Int) + 1) (ordO zs j)) ∧ (putE l E ((j : Int) + 1) (ordO zs j)).length ≤ E.length + 1 := by
  unfold putE
  split
  · exact ⟨h, Nat.le_succ _⟩
  · split
    · refine ⟨⟨h.eq, h.le, fun p hp => ?_⟩, by simp⟩
      rcases List.mem_append.1 hp with hp | hp
      · exact h.early p hp
      · simp at hp
        subst hp
        exact ⟨j, hj, rfl, rfl⟩
    · exact ⟨h, Nat.le_succ _⟩
theorem idxE_mem : ∀ (E : List (Int × Od)) (k : Int) (q : Nat × Od), idxE E k = some q → (k, q.2) ∈ E
  | [], _, _, h => by cases h
  | p :: E, k, q, h => by
    simp only [idxE] at h
    by_cases hk : k == p.1
    · rw [if_pos hk] at h
      cases h
      have := eq_of_beq hk
      subst this
      exact List.mem_cons_self
    · rw [if_neg hk] at h
      cases hi : idxE E k with
      | none => rw [hi] at h; cases h
      | some r =>
        rw [hi] at h
        cases h
        exact List.mem_cons_of_mem _ (idxE_mem E k r hi)
theorem RcvI.adv {zs : Nat → Int} {n : Nat} : ∀ (m : Nat) (l : List Od) (E : List (Int × Od)), RcvI zs n l E → RcvI zs n (advE m l E).1 (advE m l E).2 ∧ (advE m l E).2.length ≤ E.length
  | 0, l, E, h => ⟨h, Nat.le_refl _⟩
  | m + 1, l, E, h => by
    simp only [advE]
    cases hi : idxE E ((l.length : Int) + 1) with
    | none => exact ⟨h, Nat.le_refl _⟩
    | some q =>
      obtain ⟨j, h1, h2, h3⟩ := h.early _ (idxE_mem E _ q hi)
      have hj : j = l.length := by simp only [] at h2; omega
      subst hj
      have h4 : RcvI zs n (l ++ [q.2]) (E.eraseIdx q.1) := by
        refine ⟨?_, by rw [List.length_append, List.length_singleton]; omega, fun p hp => h.early p (List.mem_of_mem_eraseIdx hp)⟩
        rw [List.length_append, List.length_singleton, addO_succ, ← h.eq]
        simp only [] at h3
        rw [h3]
      obtain ⟨h5, h6⟩ := RcvI.adv m _ _ h4
      exact ⟨h5, Nat.le_trans h6 (List.length_eraseIdx_le ..)⟩
end Go.Proofs.YtjkiidhnmljmbaaDoor
