/-
  Cues in plain words: which are valid, what an edit does, which is shown.
-/
import Derived.Test.YtjmfhdnckgelaaaCapPlain
set_option linter.unusedVariables false
set_option linter.unusedSimpArgs false
namespace Go.Proofs.Ytjmfhdnckgelaaa
structure Cue where
  id : Int
  fr : Int
  to : Int
  pr : Int
  tx : ByteArray
theorem Cue.ext' {a b : Cue} (h1 : a.id = b.id) (h2 : a.fr = b.fr) (h3 : a.to = b.to) (h4 : a.pr = b.pr) (h5 : a.tx = b.tx) : a = b := by
  cases a; cases b; simp_all
instance : DecidableEq Cue := fun a b =>
  if h : a.id = b.id ∧ a.fr = b.fr ∧ a.to = b.to ∧ a.pr = b.pr ∧ a.tx = b.tx then isTrue (Cue.ext' h.1 h.2.1 h.2.2.1 h.2.2.2.1 h.2.2.2.2) else isFalse (fun e => h (by subst e; exact ⟨rfl, rfl, rfl, rfl, rfl⟩))
/-- The cue of zeros. -/
def cue0 : Cue := ⟨0, 0, 0, 0, ⟨#[]⟩⟩
def validB (c : Cue) : Bool :=
  decide (1 ≤ c.id) && decide (c.id ≤ 4611686018427387903) &&
  (if c.to = 0 then decide (c.fr = 0) && decide (c.pr = 0) && decide (c.tx = ⟨#[]⟩)
   else decide (0 ≤ c.fr) && decide (c.fr < c.to) && decide (c.to ≤ 100000000) && decide (0 ≤ c.pr) && decide (c.pr ≤ 3) && fitsB c.tx.data.toList)
/-- One cue of the list, under the edit c: what comes out so far, and whether c is still to come. -/
def estep (c : Cue) (a : List Cue × Bool) (x : Cue) : List Cue × Bool :=
  if x.id = c.id then a else if a.2 = true ∧ c.id < x.id then (a.1 ++ [c] ++ [x], false) else (a.1 ++ [x], a.2)
def escan (c : Cue) (l : List Cue) : List Cue × Bool := l.foldl (estep c) ([], decide (c.to ≠ 0))
def efin (c : Cue) (a : List Cue × Bool) : List Cue := if a.2 = true then a.1 ++ [c] else a.1
def editL (l : List Cue) (c : Cue) : List Cue := efin c (escan c l)
theorem escan_snoc (c : Cue) (l : List Cue) (x : Cue) : escan c (l ++ [x]) = estep c (escan c l) x := by simp [escan]
theorem escan_len (c : Cue) (l : List Cue) : (escan c l).1.length + (if (escan c l).2 = true then 1 else 0) ≤ l.length + 1 := by
  induction l using snocRec with
  | h0 => simp [escan]; split <;> omega
  | hs l x ih =>
    rw [escan_snoc]
    unfold estep
    by_cases h1 : x.id = c.id
    · rw [if_pos h1, List.length_append, List.length_singleton]
      omega
    · rw [if_neg h1]
      by_cases h2 : (escan c l).2 = true ∧ c.id < x.id
      · rw [if_pos h2]
        rw [if_pos h2.1] at ih
        simp
        omega
      · rw [if_neg h2]
        simp
        omega
/-- What Edit returns: the list, or none. -/
def editOk (l : List Cue) (c : Cue) : Bool := validB c && decide ((editL l c).length ≤ 200)
def editR (l : List Cue) (c : Cue) : List Cue := if editOk l c = true then editL l c else []
def editE (l : List Cue) (c : Cue) : Int := if editOk l c = true then 0 else 150
/-- The cue that is shown: is x preferred to the best so far? -/
def aheadB (x b : Cue) : Bool := if x.pr ≠ b.pr then decide (b.pr < x.pr) else if x.fr ≠ b.fr then decide (b.fr < x.fr) else decide (b.id ≤ x.id)
def astep (f : Int) (a : Option Cue) (x : Cue) : Option Cue :=
  if x.fr ≤ f ∧ f < x.to then (match a with | none => some x | some b => if aheadB x b = true then some x else some b) else a
def activeL (l : List Cue) (f : Int) : Option Cue := l.foldl (astep f) none
theorem activeL_snoc (l : List Cue) (x : Cue) (f : Int) : activeL (l ++ [x]) f = astep f (activeL l f) x := by simp [activeL]
end Go.Proofs.Ytjmfhdnckgelaaa
