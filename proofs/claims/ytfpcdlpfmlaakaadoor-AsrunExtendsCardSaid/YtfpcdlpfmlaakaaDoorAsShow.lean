/-
  Plain laws for AsrunExtends: what is shown at each frame, the runs that result.
-/
import Derived.Test.YtfpcdlpfmlaakaaDoorPlA
import Derived.Test.YtfpcdlpfmlaakaaDoorPlW
set_option linter.unusedVariables false
set_option linter.unusedSimpArgs false
namespace Onair
/-- What a region shows, from what it showed and an integer. -/
def stepS (p : Int × Int) (c : Int) : Int × Int :=
  (if pickI c 5 = 0 then pickI c 3 else p.1, if (if pickI c 5 = 0 then pickI c 3 else p.1) = 0 then 0 else if pickI c 5 = 0 then pickI (c.tdiv 3) 4 else p.2 + 1)
def colS (xs : List (Int × Int)) (g f : Nat) : Int := if g = 0 then (xs.getD f (0, 0)).1 else (xs.getD f (0, 0)).2
def runS (xs : List (Int × Int)) (g : Nat) : Nat → Int × Int
  | 0 => stepS (0, 0) (colS xs g 0)
  | f + 1 => stepS (runS xs g f) (colS xs g (f + 1))
/-- What a region showed before frame f. -/
def lastS (xs : List (Int × Int)) (g : Nat) : Nat → Int × Int
  | 0 => (0, 0)
  | f + 1 => runS xs g f
theorem runS_step (xs : List (Int × Int)) (g f : Nat) : runS xs g f = stepS (lastS xs g f) (colS xs g f) := by cases f <;> rfl
theorem colS_out (xs : List (Int × Int)) (g f : Nat) (h : xs.length ≤ f) : colS xs g f = 0 := by
  unfold colS
  rw [List.getD_eq_getElem?_getD, List.getElem?_eq_none h]
  split <;> rfl
theorem stepS_bd (p : Int × Int) (c : Int) (M : Int) (hM : 0 ≤ M) (h1 : 0 ≤ p.1) (h2 : p.1 ≤ 2) (h3 : 0 ≤ p.2) (h4 : p.2 ≤ M) : 0 ≤ (stepS p c).1 ∧ (stepS p c).1 ≤ 2 ∧ 0 ≤ (stepS p c).2 ∧ (stepS p c).2 ≤ M + 4 ∧ ((stepS p c).1 = 0 → (stepS p c).2 = 0) := by
  have b1 := pickI_bd c 3 (by decide)
  have b2 := pickI_bd (c.tdiv 3) 4 (by decide)
  unfold stepS
  dsimp only
  split
  · refine ⟨by omega, by omega, ?_, ?_, fun h => by rw [if_pos h]⟩ <;> split <;> omega
  · refine ⟨by omega, by omega, ?_, ?_, fun h => by rw [if_pos h]⟩ <;> split <;> omega
theorem runS_bd (xs : List (Int × Int)) (g f : Nat) : 0 ≤ (runS xs g f).1 ∧ (runS xs g f).1 ≤ 2 ∧ 0 ≤ (runS xs g f).2 ∧ (runS xs g f).2 ≤ 4 * ((f : Int) + 1) ∧ ((runS xs g f).1 = 0 → (runS xs g f).2 = 0) := by
  induction f with
  | zero => exact stepS_bd (0, 0) _ 0 (by decide) (by decide) (by decide) (by decide) (by decide)
  | succ f ih =>
    have := stepS_bd (runS xs g f) (colS xs g (f + 1)) (4 * ((f : Int) + 1)) (by omega) ih.1 ih.2.1 ih.2.2.1 ih.2.2.2.1
    show 0 ≤ (stepS (runS xs g f) (colS xs g (f + 1))).1 ∧ _
    refine ⟨this.1, this.2.1, this.2.2.1, ?_, this.2.2.2.2⟩
    have h4 := this.2.2.2.1
    show (stepS (runS xs g f) (colS xs g (f + 1))).2 ≤ _
    omega
theorem stepS_zero (p : Int × Int) : stepS p 0 = (0, 0) := by
  unfold stepS
  rw [show pickI 0 5 = 0 from by decide, show pickI 0 3 = 0 from by decide]
  rfl
theorem runS_out (xs : List (Int × Int)) (g f : Nat) (h : xs.length ≤ f) : runS xs g f = (0, 0) := by
  rw [runS_step, colS_out xs g f h, stepS_zero]
theorem runS_ok (xs : List (Int × Int)) (h : xs.length ≤ 80) : ShowOk (runS xs) := by
  refine ⟨fun g f => (runS_bd xs g f).1, fun g f => by have := (runS_bd xs g f).2.1; omega, fun g f => (runS_bd xs g f).2.2.1, fun g f => ?_, fun g f => (runS_bd xs g f).2.2.2.2⟩
  by_cases hf : xs.length ≤ f
  · rw [runS_out xs g f hf]; decide
  · have := (runS_bd xs g f).2.2.2.1; omega
/-- The list behind one more frame of a region. -/
def oneX (S : ShowS) (l : List Rec) (g f : Nat) : List Rec := extendL l 2 (g : Int) (10 + (f : Int)) (S g f).1 (S g f).2
def lstX (S : ShowS) : Nat → List Rec
  | 0 => []
  | f + 1 => oneX S (oneX S (lstX S f) 0 f) 1 f
def nrX (S : ShowS) (g f : Nat) : Nat := if newRun S g f = true then 1 else 0
def cntX (S : ShowS) : Nat → Nat
  | 0 => 0
  | f + 1 => cntX S f + nrX S 0 f + nrX S 1 f
theorem RunsOk.congr {S : ShowS} {n m : Nat → Nat} {l : List Rec} (h : RunsOk S n l) (e : ∀ g, g < 2 → n g = m g) : RunsOk S m l := by
  refine ⟨fun r hr => ?_, ?_, fun g hg => ?_⟩
  · have := h.each r hr
    obtain ⟨k, p, q, h1, h2, h3, h4, h5, h6, h7⟩ := this.rg
    exact ⟨this.ch, ⟨k, p, q, h1, h2, h3, h4, h5, by rw [← e k h1]; exact h6, h7⟩, this.it, this.ix, this.zero⟩
  · rw [h.sum, e 0 (by decide), e 1 (by decide)]
  · rw [← e g hg]
    exact h.last g hg
/-- The lists: valid for what was shown, and as long as there were runs. -/
structure LstOk (S : ShowS) (l : List Rec) (n : Nat → Nat) (c : Nat) : Prop where
  ok : RunsOk S n l
  len : l.length = c
theorem LstOk.step {S : ShowS} (hS : ShowOk S) {l : List Rec} {n : Nat → Nat} {c : Nat} (h : LstOk S l n c) (g f : Nat) (hg : g < 2) (hn : n g = f) : LstOk S (oneX S l g f) (upN n g) (c + nrX S g f) := by
  have := extend_step hS h.ok g hg
  rw [hn] at this
  exact ⟨this.1, by unfold oneX nrX; rw [this.2, h.len]⟩
theorem LstOk.two {S : ShowS} (hS : ShowOk S) {l : List Rec} {f c : Nat} (h : LstOk S l (fun _ => f) c) : LstOk S (oneX S (oneX S l 0 f) 1 f) (fun _ => f + 1) (c + nrX S 0 f + nrX S 1 f) := by
  have h1 := h.step hS 0 f (by decide) rfl
  have h2 := h1.step hS 1 f (by decide) rfl
  refine ⟨h2.ok.congr (fun g hg => ?_), h2.len⟩
  have : g = 0 ∨ g = 1 := by omega
  rcases this with rfl | rfl <;> rfl
theorem lst_ok {S : ShowS} (hS : ShowOk S) : ∀ f, LstOk S (lstX S f) (fun _ => f) (cntX S f)
  | 0 => ⟨runs_nil S, rfl⟩
  | f + 1 => (lst_ok hS f).two hS
theorem mid_len {S : ShowS} (hS : ShowOk S) {l : List Rec} {f c : Nat} (h : LstOk S l (fun _ => f) c) : LstOk S (oneX S l 0 f) (upN (fun _ => f) 0) (c + nrX S 0 f) := h.step hS 0 f (by decide) rfl
theorem run_valid {S : ShowS} {n : Nat → Nat} {r : Rec} (h : RunOk S n r) (hn : ∀ g, g < 2 → n g ≤ 80) : validR r = true := by
  obtain ⟨k, p, q, h1, h2, h3, h4, h5, h6, h7⟩ := h.rg
  have := hn k h1
  have h8 := h.it
  have h9 := h.ix
  have h10 := h.zero
  have h11 := h.ch
  unfold validR
  exact decide_eq_true (by omega)
end Onair
