/-
  Plain laws of the checksum: the table's step is four steps of one bit, a step is linear over exclusive or, and it loses nothing.
-/
import Derived.Test.YthmdiminiolipaaDoorWirePlain
set_option linter.unusedVariables false
set_option linter.unusedSimpArgs false
namespace Onair
theorem xlc (a b c : Nat) : a ^^^ (b ^^^ c) = b ^^^ (a ^^^ c) := by rw [← Nat.xor_assoc, Nat.xor_comm a b, Nat.xor_assoc]
theorem xor_eq0 {a b : Nat} (h : a ^^^ b = 0) : a = b := by
  have := congrArg (· ^^^ b) h
  simp only [Nat.xor_assoc, Nat.xor_self, Nat.xor_zero, Nat.zero_xor] at this
  exact this
/-- One bit's step. -/
def bitT (r : Nat) : Nat := (r / 2) ^^^ (if r % 2 = 1 then 2197175160 else 0)
def bitTs : Nat → Nat → Nat
  | 0, r => r
  | k + 1, r => bitTs k (bitT r)
theorem xor_mod2 (a b : Nat) : (a ^^^ b) % 2 = (a % 2 + b % 2) % 2 := by
  have := Nat.testBit_xor a b 0
  simp only [Nat.testBit_zero] at this
  rcases Nat.mod_two_eq_zero_or_one a with h1 | h1 <;> rcases Nat.mod_two_eq_zero_or_one b with h2 | h2 <;> rcases Nat.mod_two_eq_zero_or_one (a ^^^ b) with h3 | h3 <;> simp_all
theorem xor_div2 (a b : Nat) : (a ^^^ b) / 2 = (a / 2) ^^^ (b / 2) := by
  have := Nat.shiftRight_xor_distrib (a := a) (b := b) (i := 1)
  simpa [Nat.shiftRight_eq_div_pow] using this
theorem bitT_xor (a b : Nat) : bitT (a ^^^ b) = bitT a ^^^ bitT b := by
  unfold bitT
  rw [xor_mod2, xor_div2]
  rcases Nat.mod_two_eq_zero_or_one a with h1 | h1 <;> rcases Nat.mod_two_eq_zero_or_one b with h2 | h2
  · simp [h1, h2]
  · simp [h1, h2, Nat.xor_assoc]
  · simp only [h1, h2, Nat.reduceAdd, Nat.reduceMod, if_true, Nat.zero_ne_one, if_false, Nat.xor_zero]
    rw [Nat.xor_assoc, Nat.xor_comm (b / 2), ← Nat.xor_assoc]
  · simp only [h1, h2, Nat.reduceAdd, Nat.reduceMod, Nat.zero_ne_one, if_true, if_false, Nat.xor_zero]
    rw [Nat.xor_assoc, Nat.xor_comm 2197175160, Nat.xor_assoc, Nat.xor_self, Nat.xor_zero]
theorem bitTs_xor (k a b : Nat) : bitTs k (a ^^^ b) = bitTs k a ^^^ bitTs k b := by
  induction k generalizing a b with
  | zero => rfl
  | succ k ih => rw [bitTs, bitT_xor, ih]; rfl
theorem bitT_lt {r : Nat} (h : r < 4294967296) : bitT r < 4294967296 := by
  unfold bitT
  apply xor_lt32 (by omega)
  split <;> decide
theorem bitTs_lt {k r : Nat} (h : r < 4294967296) : bitTs k r < 4294967296 := by
  induction k generalizing r with
  | zero => exact h
  | succ k ih => exact ih (bitT_lt h)
theorem bitT_even (r : Nat) : bitT (2 * r) = r := by
  unfold bitT
  rw [if_neg (by omega), Nat.xor_zero]
  omega
theorem bitTs_pow (k r : Nat) : bitTs k (2 ^ k * r) = r := by
  induction k generalizing r with
  | zero => simp [bitTs]
  | succ k ih => rw [bitTs, Nat.pow_succ, Nat.mul_comm (2 ^ k) 2, Nat.mul_assoc, bitT_even]; exact ih r
theorem bitT_zero {r : Nat} (h : r < 4294967296) (h0 : bitT r = 0) : r = 0 := by
  unfold bitT at h0
  have h1 := xor_eq0 h0
  split at h1 <;> omega
theorem bitTs_zero {k r : Nat} (h : r < 4294967296) (h0 : bitTs k r = 0) : r = 0 := by
  induction k generalizing r with
  | zero => exact h0
  | succ k ih => exact bitT_zero h (ih (bitT_lt h) h0)
theorem bitTs_of_zero (k : Nat) : bitTs k 0 = 0 := by
  induction k with
  | zero => rfl
  | succ k ih => exact ih
theorem bitTs_add (j k r : Nat) : bitTs (j + k) r = bitTs k (bitTs j r) := by
  induction j generalizing r with
  | zero => rw [Nat.zero_add]; rfl
  | succ j ih => rw [Nat.succ_add, bitTs, ih]; rfl
theorem split_xor (r k : Nat) : (2 ^ k * (r / 2 ^ k)) ^^^ (r % 2 ^ k) = r := by
  apply Nat.eq_of_testBit_eq
  intro i
  rw [Nat.testBit_xor, Nat.testBit_two_pow_mul, Nat.testBit_mod_two_pow, Nat.testBit_div_two_pow]
  by_cases h : k ≤ i
  · simp [h, show ¬ i < k by omega, show i - k + k = i by omega]
  · simp [h, show i < k by omega]
theorem nib_bits (r : Nat) : nib r = bitTs 4 r := by
  have h := split_xor r 4
  have h2 : bitTs 4 (r % 2 ^ 4) = tabAt (r % 2 ^ 4) := by
    have hlt : r % 2 ^ 4 < 16 := Nat.mod_lt _ (by decide)
    have key : ∀ i : Fin 16, bitTs 4 i.val = tabAt i.val := by decide
    exact key ⟨r % 2 ^ 4, hlt⟩
  conv => rhs; rw [← h]
  rw [bitTs_xor, bitTs_pow, h2]
  rfl
theorem crcB_bits (r : Nat) (b : UInt8) : crcB r b = bitTs 8 (r ^^^ b.toNat) := by
  unfold crcB
  rw [nib_bits, nib_bits, ← bitTs_add]
/-- The checksum of the exclusive or of three lists of one length. -/
theorem crc3 (l a b c : List UInt8) (ha : a.length = l.length) (hb : b.length = l.length) (hc : c.length = l.length)
    (h : ∀ i (h1 : i < l.length), l[i].toNat = (a[i]'(by omega)).toNat ^^^ (b[i]'(by omega)).toNat ^^^ (c[i]'(by omega)).toNat) :
    ∀ x y z, l.foldl crcB (x ^^^ y ^^^ z) = a.foldl crcB x ^^^ b.foldl crcB y ^^^ c.foldl crcB z := by
  induction l generalizing a b c with
  | nil =>
    obtain rfl : a = [] := by simpa using ha
    obtain rfl : b = [] := by simpa using hb
    obtain rfl : c = [] := by simpa using hc
    intro x y z; rfl
  | cons d l ih =>
    match a, b, c, ha, hb, hc, h with
    | a0 :: a, b0 :: b, c0 :: c, ha, hb, hc, h =>
      intro x y z
      have h0 := h 0 (by simp)
      simp only [List.getElem_cons_zero] at h0
      have e : crcB (x ^^^ y ^^^ z) d = crcB x a0 ^^^ crcB y b0 ^^^ crcB z c0 := by
        rw [crcB_bits, crcB_bits, crcB_bits, crcB_bits, ← bitTs_xor, ← bitTs_xor, h0]
        congr 1
        rw [Nat.xor_assoc, Nat.xor_assoc, Nat.xor_assoc, Nat.xor_assoc, Nat.xor_assoc, Nat.xor_assoc]
        rw [xlc z, xlc y, xlc z]
      rw [List.foldl_cons, List.foldl_cons, List.foldl_cons, List.foldl_cons, e]
      exact ih a b c (by simpa using ha) (by simpa using hb) (by simpa using hc) (fun i hi => by
        have := h (i + 1) (by simpa using hi)
        simpa using this) _ _ _
theorem sumL_xor (l : List UInt8) : sumL l = ((4294967295 ^^^ crc l : Nat) : Int) := by
  unfold sumL; rw [xor_all32 _ (crc_lt l)]
/-- The law WireSumAffine. -/
theorem sum3 (l a b c : List UInt8) (ha : a.length = l.length) (hb : b.length = l.length) (hc : c.length = l.length)
    (h : ∀ i (h1 : i < l.length), l[i].toNat = (a[i]'(by omega)).toNat ^^^ (b[i]'(by omega)).toNat ^^^ (c[i]'(by omega)).toNat) :
    4294967295 - crc l = (4294967295 - crc a) ^^^ (4294967295 - crc b) ^^^ (4294967295 - crc c) := by
  rw [← xor_all32 _ (crc_lt l), ← xor_all32 _ (crc_lt a), ← xor_all32 _ (crc_lt b), ← xor_all32 _ (crc_lt c)]
  have := crc3 l a b c ha hb hc h 4294967295 4294967295 4294967295
  rw [Nat.xor_self, Nat.zero_xor] at this
  show 4294967295 ^^^ l.foldl crcB 4294967295 = _
  rw [this]
  show _ = (4294967295 ^^^ a.foldl crcB 4294967295) ^^^ (4294967295 ^^^ b.foldl crcB 4294967295) ^^^ (4294967295 ^^^ c.foldl crcB 4294967295)
  generalize a.foldl crcB 4294967295 = p
  generalize b.foldl crcB 4294967295 = q
  generalize c.foldl crcB 4294967295 = r
  generalize 4294967295 = m
  have e : (m ^^^ p) ^^^ (m ^^^ q) = p ^^^ q := by
    rw [Nat.xor_comm m p, Nat.xor_assoc, ← Nat.xor_assoc m m q, Nat.xor_self, Nat.zero_xor]
  rw [e, ← Nat.xor_assoc, Nat.xor_comm m (p ^^^ q), ← Nat.xor_assoc, Nat.xor_comm (p ^^^ q) m]
end Onair
