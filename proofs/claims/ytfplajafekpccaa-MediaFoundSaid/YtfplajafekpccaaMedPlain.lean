/-
  Plain definitions for package media: pictures, validity, the encoding and the decoder, on lists. No program in sight.
-/
import Derived.Test.YtfplajafekpccaaWireLaws
set_option linter.unusedVariables false
set_option linter.unusedSimpArgs false
namespace Onair
/-- A picture. -/
structure Pic where
  key : Bool
  data : ByteArray
  power : Int
def pic0 : Pic := ⟨false, ⟨#[]⟩, 0⟩
/-- Are two pictures the same? -/
def picB (p q : Pic) : Bool := (p.key == q.key) && decide (p.data = q.data) && decide (p.power = q.power)
theorem picB_iff (p q : Pic) : picB p q = true ↔ p = q := by
  obtain ⟨a, b, c⟩ := p
  obtain ⟨d, e, f⟩ := q
  unfold picB
  simp [and_assoc]
/-- Are two lists of pictures the same? -/
def samesB : List Pic → List Pic → Bool
  | [], [] => true
  | p :: l, q :: m => picB p q && samesB l m
  | _, _ => false
theorem samesB_iff (l : List Pic) : ∀ m, samesB l m = true ↔ l = m := by
  induction l with
  | nil => intro m; cases m <;> simp [samesB]
  | cons p l ih =>
    intro m
    cases m with
    | nil => simp [samesB]
    | cons q m => simp [samesB, picB_iff, ih]
theorem samesB_self (l : List Pic) : samesB l l = true := (samesB_iff l l).2 rfl
/-- Same of two assets. -/
def sameA (i : Int) (l : List Pic) (j : Int) (m : List Pic) : Bool := decide (i = j) && samesB l m
theorem sameA_iff (i : Int) (l : List Pic) (j : Int) (m : List Pic) : sameA i l j m = true ↔ i = j ∧ l = m := by
  unfold sameA
  rw [Bool.and_eq_true, samesB_iff, decide_eq_true_iff]
theorem sameA_self (i : Int) (l : List Pic) : sameA i l i l = true := (sameA_iff i l i l).2 ⟨rfl, rfl⟩
/-- Is a picture valid? -/
def okPic (p : Pic) : Bool := decide (p.data.size ≤ 400) && decide (0 ≤ p.power) && decide (p.power ≤ 1000000)
theorem okPic_iff (p : Pic) : okPic p = true ↔ p.data.size ≤ 400 ∧ 0 ≤ p.power ∧ p.power ≤ 1000000 := by
  unfold okPic
  simp [and_assoc]
/-- Is the first picture a key picture? -/
def keyed : List Pic → Bool
  | [] => false
  | p :: _ => p.key
/-- Is an asset valid? -/
def validA (i : Int) (l : List Pic) : Bool := decide (1 ≤ i ∧ i ≤ 4611686018427387903) && decide (1 ≤ l.length ∧ l.length ≤ 2000) && keyed l && l.all okPic
theorem validA_iff (i : Int) (l : List Pic) : validA i l = true ↔ (1 ≤ i ∧ i ≤ 4611686018427387903) ∧ (1 ≤ l.length ∧ l.length ≤ 2000) ∧ keyed l = true ∧ l.all okPic = true := by
  unfold validA
  rw [Bool.and_eq_true, Bool.and_eq_true, Bool.and_eq_true, decide_eq_true_iff, decide_eq_true_iff, and_assoc, and_assoc]
/-- The encoding of a picture, of a list of pictures, of an asset. -/
def flagI (b : Bool) : Int := if b then 1 else 0
def encP (p : Pic) : List UInt8 := putL (flagI p.key) ++ putL p.power ++ putSL p.data.data.toList
def encPs : List Pic → List UInt8
  | [] => []
  | p :: l => encP p ++ encPs l
theorem encPs_append (l m : List Pic) : encPs (l ++ m) = encPs l ++ encPs m := by
  induction l with
  | nil => rfl
  | cons p l ih => simp [encPs, ih]
def encA (i : Int) (l : List Pic) : List UInt8 := putL i ++ putL l.length ++ encPs l
/-- One picture is read: the error, or the picture and the end. -/
def picR (s : List UInt8) (a : Int) : Int ⊕ (Pic × Int) :=
  if (intR s a).2.2 ≠ 0 then .inl 10
  else if (intR s a).1 ≠ 0 ∧ (intR s a).1 ≠ 1 then .inl 120
  else if (intR s (intR s a).2.1).2.2 ≠ 0 then .inl 10
  else if (strR s (intR s (intR s a).2.1).2.1).2.2 ≠ 0 then .inl 10
  else .inr (⟨decide ((intR s a).1 = 1), ⟨(strR s (intR s (intR s a).2.1).2.1).1.toArray⟩, (intR s (intR s a).2.1).1⟩, (strR s (intR s (intR s a).2.1).2.1).2.1)
/-- n pictures are read, behind those that lie in acc. -/
def picsR (s : List UInt8) : Nat → Int → List Pic → Int ⊕ (List Pic × Int)
  | 0, a, acc => .inr (acc, a)
  | n + 1, a, acc =>
    match picR s a with
    | .inl e => .inl e
    | .inr (p, b) => picsR s n b (acc ++ [p])
/-- What Decode answers: the error, or the asset. -/
def decR (s : List UInt8) : Int ⊕ (Int × List Pic) :=
  if (intR s 0).2.2 ≠ 0 then .inl 10
  else if (intR s (intR s 0).2.1).2.2 ≠ 0 then .inl 10
  else if (intR s (intR s 0).2.1).1 < 1 ∨ 2000 < (intR s (intR s 0).2.1).1 then .inl 120
  else match picsR s (intR s (intR s 0).2.1).1.toNat (intR s (intR s 0).2.1).2.1 [] with
    | .inl e => .inl e
    | .inr (l, a) => if a ≠ s.length then .inl 10 else if validA (intR s 0).1 l = false then .inl 120 else .inr ((intR s 0).1, l)
def decE (s : List UInt8) : Int := match decR s with | .inl e => e | .inr _ => 0
def decI' (s : List UInt8) : Int := match decR s with | .inl _ => 0 | .inr (i, _) => i
def decP (s : List UInt8) : List Pic := match decR s with | .inl _ => [] | .inr (_, l) => l
/-- Keys, Sizes, Powers. -/
def keysF : Nat → List Pic → List Int
  | _, [] => []
  | k, p :: l => if p.key then (k : Int) :: keysF (k + 1) l else keysF (k + 1) l
def sizesL (l : List Pic) : List Int := l.map fun p => (p.data.size : Int)
def powersL (l : List Pic) : List Int := l.map Pic.power
theorem keysF_append (l m : List Pic) : ∀ k, keysF k (l ++ m) = keysF k l ++ keysF (k + l.length) m := by
  induction l with
  | nil => intro k; rfl
  | cons p l ih =>
    intro k
    simp only [List.cons_append, keysF, ih, List.length_cons]
    rw [show k + (l.length + 1) = k + 1 + l.length by omega]
    split <;> simp
end Onair
