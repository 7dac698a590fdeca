/-
  Plain law of the checksum: a change of at most 32 consecutive bits changes it.
-/
import Derived.Test.YthmdiminiolipaaDoorWireCrc
set_option linter.unusedVariables false
set_option linter.unusedSimpArgs false
namespace Onair
/-- The register after t bits f 0, f 1, .. -/
def runB (f : Nat → Bool) (r : Nat) : Nat → Nat
  | 0 => r
  | t + 1 => bitT (runB f r t ^^^ (f t).toNat)
theorem runB_congr {f g : Nat → Bool} {r t : Nat} (h : ∀ i, i < t → f i = g i) : runB f r t = runB g r t := by
  induction t with
  | zero => rfl
  | succ t ih => rw [runB, runB, ih (fun i hi => h i (by omega)), h t (by omega)]
theorem runB_add (f : Nat → Bool) (r s t : Nat) : runB f r (s + t) = runB (fun i => f (s + i)) (runB f r s) t := by
  induction t with
  | zero => rfl
  | succ t ih => rw [← Nat.add_assoc, runB, ih, runB]
theorem bitTs_succ (k r : Nat) : bitTs (k + 1) r = bitT (bitTs k r) := by
  rw [bitTs_add k 1 r]; rfl
theorem mod_succ (m k : Nat) : m % 2 ^ (k + 1) = (m % 2 ^ k) ^^^ (2 ^ k * (m.testBit k).toNat) := by
  apply Nat.eq_of_testBit_eq
  intro i
  rw [Nat.testBit_xor, Nat.testBit_mod_two_pow, Nat.testBit_mod_two_pow, Nat.testBit_two_pow_mul]
  by_cases h1 : i < k
  · simp [h1, show i < k + 1 by omega, show ¬ k ≤ i by omega]
  · by_cases h2 : i = k
    · subst h2
      cases m.testBit i <;> simp
    · have h3 : ¬ i < k + 1 := by omega
      have h4 : (m.testBit k).toNat.testBit (i - k) = false := by
        obtain ⟨d, hd⟩ : ∃ d, i - k = d + 1 := ⟨i - k - 1, by omega⟩
        rw [hd]
        cases m.testBit k <;> simp [Nat.testBit_succ]
      simp [h1, h3, h4]
theorem runB_bits (m r k : Nat) : runB (fun i => m.testBit i) r k = bitTs k (r ^^^ (m % 2 ^ k)) := by
  induction k with
  | zero => simp [runB, bitTs, Nat.mod_one]
  | succ k ih =>
    rw [runB, ih, bitTs_succ, mod_succ, ← Nat.xor_assoc, bitTs_xor k (r ^^^ m % 2 ^ k), bitTs_pow]
/-- Bit j of a list of bytes, the least significant bit of a byte first. -/
def bitAt (l : List UInt8) (j : Nat) : Bool := (l[j / 8]?.getD 0).toNat.testBit (j % 8)
theorem crc_runB (l : List UInt8) (r : Nat) : l.foldl crcB r = runB (bitAt l) r (8 * l.length) := by
  induction l generalizing r with
  | nil => rfl
  | cons b l ih =>
    rw [List.foldl_cons, ih, List.length_cons, show 8 * (l.length + 1) = 8 + 8 * l.length by omega, runB_add]
    have e1 : runB (bitAt (b :: l)) r 8 = crcB r b := by
      rw [runB_congr (g := fun i => b.toNat.testBit i) (fun i hi => by
        unfold bitAt
        rw [show i / 8 = 0 by omega, show i % 8 = i by omega]
        rfl), runB_bits, crcB_bits, Nat.mod_eq_of_lt b.toNat_lt]
    rw [e1]
    apply runB_congr
    intro i _
    unfold bitAt
    rw [show (8 + i) / 8 = i / 8 + 1 by omega, show (8 + i) % 8 = i % 8 by omega, List.getElem?_cons_succ]
theorem xor_toNat (a b : Bool) : (a ^^ b).toNat = a.toNat ^^^ b.toNat := by cases a <;> cases b <;> rfl
theorem runB_diff (f g : Nat → Bool) (r s t : Nat) : runB f r t ^^^ runB g s t = runB (fun i => f i ^^ g i) (r ^^^ s) t := by
  induction t with
  | zero => rfl
  | succ t ih =>
    rw [runB, runB, runB, ← bitT_xor, ← ih, xor_toNat]
    congr 1
    rw [Nat.xor_assoc, Nat.xor_assoc, xlc (f t).toNat]
theorem runB_none {f : Nat → Bool} (h : ∀ i, f i = false) (r t : Nat) : runB f r t = bitTs t r := by
  induction t with
  | zero => rfl
  | succ t ih => rw [runB, ih, h, bitTs_succ]; simp
theorem runB_none' {f : Nat → Bool} {r t : Nat} (h : ∀ i, i < t → f i = false) : runB f r t = bitTs t r := by
  rw [runB_congr (g := fun _ => false) h, runB_none (fun _ => rfl)]
/-- The burst: bits from .. from + J - 1 are flipped where m has a bit. -/
def burst (from_ J m : Nat) (i : Nat) : Bool := decide (from_ ≤ i ∧ i < from_ + J) && m.testBit (i - from_)
theorem burst_run (from_ J m rest : Nat) : runB (burst from_ J m) 0 (from_ + (J + rest)) = bitTs rest (bitTs J (m % 2 ^ J)) := by
  rw [runB_add, runB_add]
  have e1 : runB (burst from_ J m) 0 from_ = 0 := by
    rw [runB_none' (fun i hi => by unfold burst; simp; omega), bitTs_of_zero]
  have e2 : runB (fun i => burst from_ J m (from_ + i)) 0 J = bitTs J (m % 2 ^ J) := by
    rw [runB_congr (g := fun i => m.testBit i) (fun i hi => by
      unfold burst
      rw [decide_eq_true (by omega), show from_ + i - from_ = i by omega]
      simp), runB_bits, Nat.zero_xor]
  rw [e1, e2]
  exact runB_none' (fun i hi => by unfold burst; rw [decide_eq_false (by omega)]; rfl)
/-- Two lists that differ by a burst. -/
theorem burst_crc (l l' : List UInt8) (from_ J m : Nat) (hl : l'.length = l.length) (hJ : J ≤ 32) (hr : from_ + J ≤ 8 * l.length) (h : ∀ i, bitAt l' i = (bitAt l i ^^ burst from_ J m i)) :
    (crc l' = crc l ↔ m % 2 ^ J = 0) := by
  have e : crc l' ^^^ crc l = bitTs (8 * l.length - from_ - J) (bitTs J (m % 2 ^ J)) := by
    unfold crc
    rw [crc_runB, crc_runB, hl, runB_diff, Nat.xor_self]
    rw [runB_congr (g := burst from_ J m) (fun i _ => by rw [h]; cases bitAt l i <;> cases burst from_ J m i <;> rfl)]
    rw [← burst_run, show from_ + (J + (8 * l.length - from_ - J)) = 8 * l.length by omega]
  have hm : m % 2 ^ J < 4294967296 := Nat.lt_of_lt_of_le (Nat.mod_lt _ (Nat.pow_pos (by decide))) (Nat.le_trans (Nat.pow_le_pow_right (by decide) hJ) (by decide))
  constructor
  · intro h1
    rw [h1, Nat.xor_self] at e
    exact bitTs_zero hm (bitTs_zero (bitTs_lt hm) e.symm)
  · intro h1
    rw [h1, bitTs_of_zero, bitTs_of_zero] at e
    exact xor_eq0 e
/-- The list after k rounds of the loop. -/
def flipL (l : List UInt8) (from_ m : Nat) : Nat → List UInt8
  | 0 => l
  | k + 1 => if m.testBit k then (flipL l from_ m k).set ((from_ + k) / 8) (UInt8.ofNat (((flipL l from_ m k)[(from_ + k) / 8]?.getD 0).toNat ^^^ 2 ^ ((from_ + k) % 8))) else flipL l from_ m k
theorem flipL_len (l : List UInt8) (from_ m k : Nat) : (flipL l from_ m k).length = l.length := by
  induction k with
  | zero => rfl
  | succ k ih =>
    rw [flipL]
    split
    · rw [List.length_set, ih]
    · exact ih
theorem bitAt_set (l : List UInt8) (p : Nat) (hp : p < 8 * l.length) (j : Nat) : bitAt (l.set (p / 8) (UInt8.ofNat ((l[p / 8]?.getD 0).toNat ^^^ 2 ^ (p % 8)))) j = (bitAt l j ^^ decide (j = p)) := by
  have hp8 : p / 8 < l.length := by omega
  have hx : (l[p / 8]?.getD 0).toNat ^^^ 2 ^ (p % 8) < 256 := Nat.xor_lt_two_pow (n := 8) (l[p / 8]?.getD 0).toNat_lt (Nat.pow_lt_pow_right (by decide) (by omega))
  unfold bitAt
  by_cases h1 : j / 8 = p / 8
  · rw [h1, List.getElem?_set_self hp8, Option.getD_some, UInt8.toNat_ofNat_of_lt' (by omega), Nat.testBit_xor, Nat.testBit_two_pow]
    congr 1
    by_cases h2 : p % 8 = j % 8
    · rw [decide_eq_true h2, decide_eq_true (by omega)]
    · rw [decide_eq_false h2, decide_eq_false (by omega)]
  · rw [List.getElem?_set_ne (by omega), decide_eq_false (by intro h; subst h; exact h1 rfl)]
    simp
theorem flipL_bit (l : List UInt8) (from_ m k : Nat) (h : from_ + k ≤ 8 * l.length) (i : Nat) : bitAt (flipL l from_ m k) i = (bitAt l i ^^ burst from_ k m i) := by
  induction k with
  | zero => unfold burst; rw [decide_eq_false (by omega)]; simp [flipL]
  | succ k ih =>
    have ih := ih (by omega)
    rw [flipL]
    split
    · rename_i hb
      rw [bitAt_set _ _ (by rw [flipL_len]; omega), ih]
      unfold burst
      by_cases h1 : i = from_ + k
      · subst h1
        rw [decide_eq_false (by omega), decide_eq_true rfl, decide_eq_true (by omega), show from_ + k - from_ = k by omega, hb]
        cases bitAt l (from_ + k) <;> rfl
      · rw [decide_eq_false h1]
        by_cases h2 : from_ ≤ i ∧ i < from_ + k
        · rw [decide_eq_true h2, decide_eq_true (by omega)]; simp
        · rw [decide_eq_false h2, decide_eq_false (by omega)]; simp
    · rename_i hb
      rw [ih]
      unfold burst
      by_cases h1 : i = from_ + k
      · subst h1
        have hb' : m.testBit k = false := by simpa using hb
        rw [decide_eq_false (by omega), decide_eq_true (by omega), show from_ + k - from_ = k by omega, hb']; rfl
      · by_cases h2 : from_ ≤ i ∧ i < from_ + k
        · rw [decide_eq_true h2, decide_eq_true (by omega)]
        · rw [decide_eq_false h2, decide_eq_false (by omega)]
theorem sum_burst (l : List UInt8) (from_ J m : Nat) (hJ : J ≤ 32) (hr : from_ + J ≤ 8 * l.length) : (sumL (flipL l from_ m J) != sumL l) = decide (m % 2 ^ J ≠ 0) := by
  have h := burst_crc l (flipL l from_ m J) from_ J m (flipL_len _ _ _ _) hJ hr (flipL_bit l from_ m J hr)
  have h1 := crc_lt l
  have h2 := crc_lt (flipL l from_ m J)
  rw [Bool.eq_iff_iff, decide_eq_true_iff, bne_iff_ne]
  unfold sumL
  constructor
  · intro hne h0
    apply hne
    rw [h.2 h0]
  · intro hne heq
    apply hne
    apply h.1
    omega
theorem mod_pow_succ_ne (m k : Nat) (h : m.testBit k = true) : m % 2 ^ (k + 1) ≠ 0 := by
  intro h0
  have := congrArg (fun x => x.testBit k) h0
  simp only [Nat.testBit_mod_two_pow, Nat.zero_testBit] at this
  rw [h] at this
  simp at this
theorem mod_pow_succ_eq (m k : Nat) (h : m.testBit k = false) : m % 2 ^ (k + 1) = m % 2 ^ k := by
  rw [mod_succ, h]; simp
end Onair
