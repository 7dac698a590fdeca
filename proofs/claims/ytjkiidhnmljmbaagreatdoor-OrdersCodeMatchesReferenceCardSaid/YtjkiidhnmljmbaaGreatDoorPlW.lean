/-
  Plain definitions for package wire: the variable-length integers, their decoder and the checksum, on lists of bytes. No program in sight.
  Plain laws of the encoding of integers and strings: what PutInt writes is what Int reads, and nothing else.
-/

set_option linter.unusedVariables false
set_option linter.unusedSimpArgs false
namespace Onair
/-- The groups of 7 bits of z, least significant first, each with 'another follows' (k + 1 groups at most). -/
def gF : Nat → Nat → List (Fin 128 × Bool)
  | 0, z => [(⟨z % 128, Nat.mod_lt _ (by decide)⟩, false)]
  | k + 1, z => if z < 128 then [(⟨z % 128, Nat.mod_lt _ (by decide)⟩, false)] else (⟨z % 128, Nat.mod_lt _ (by decide)⟩, true) :: gF k (z / 128)
/-- The byte of a group. -/
def gByte (x : Fin 128 × Bool) : Nat := x.1.val + (if x.2 then 128 else 0)
theorem gByte_lt (x : Fin 128 × Bool) : gByte x < 256 := by
  have := x.1.isLt
  unfold gByte
  split <;> omega
theorem gF_len (k z : Nat) : (gF k z).length ≤ k + 1 ∧ 1 ≤ (gF k z).length := by
  induction k generalizing z with
  | zero => simp [gF]
  | succ k ih =>
    unfold gF
    split
    · simp
    · have := ih (z / 128); simp; omega
/-- The encoding of z. -/
def uv (z : Nat) : List UInt8 := (gF 8 z).map (fun x => UInt8.ofNat (gByte x))
theorem uv_len (z : Nat) : (uv z).length ≤ 9 ∧ 1 ≤ (uv z).length := by
  unfold uv; rw [List.length_map]; exact gF_len 8 z
/-- Zigzag. -/
def zig (n : Int) : Nat := if n < 0 then (2 * (-n) - 1).toNat else (2 * n).toNat
def okInt (n : Int) : Bool := decide (-4611686018427387903 ≤ n ∧ n ≤ 4611686018427387903)
theorem okInt_iff (n : Int) : okInt n = true ↔ (-4611686018427387903 ≤ n ∧ n ≤ 4611686018427387903) := by unfold okInt; exact decide_eq_true_iff
def putL (n : Int) : List UInt8 := if okInt n then uv (zig n) else []
def putE (n : Int) : Int := if okInt n then 0 else 10
theorem zig_lt (n : Int) (h : okInt n = true) : zig n < 9223372036854775808 := by
  rw [okInt_iff] at h; unfold zig; split <;> omega
/-- The value of a bit pattern. -/
def unzig (z : Nat) : Int := if z % 2 = 1 then -((z / 2 : Nat) : Int) - 1 else ((z / 2 : Nat) : Int)
/-- The decoder's loop: k rounds are left, i are done, z has been gathered. -/
def decI : Nat → Nat → Nat → List UInt8 → Option (Int × Nat)
  | 0, _, _, _ => none
  | _ + 1, _, _, [] => none
  | k + 1, i, z, b :: l =>
    if 128 ≤ b.toNat then decI k (i + 1) (z + b.toNat % 128 * 128 ^ i) l
    else if b.toNat = 0 ∧ 0 < i then none
    else if unzig (z + b.toNat % 128 * 128 ^ i) < -4611686018427387903 then none
    else some (unzig (z + b.toNat % 128 * 128 ^ i), i + 1)
/-- What Int answers: the value, the end, the error. -/
def intR (l : List UInt8) (at_ : Int) : Int × Int × Int :=
  if at_ < 0 ∨ (l.length : Int) < at_ then (0, 0, 2) else
  match decI 9 0 0 (l.drop at_.toNat) with
  | none => (0, 0, 10)
  | some (n, k) => (n, at_ + k, 0)
theorem decI_step (k zz : Nat) (hk : k < 9) (c : UInt8) (l : List UInt8) (zn : Nat) (hzn : zz + c.toNat % 128 * 128 ^ k = zn) :
    decI (9 - k) k zz (c :: l) = if 128 ≤ c.toNat then decI (9 - (k + 1)) (k + 1) zn l else if c.toNat = 0 ∧ 0 < k then none
      else if unzig zn < -4611686018427387903 then none else some (unzig zn, k + 1) := by
  rw [show 9 - k = (9 - (k + 1)) + 1 from by omega, decI, hzn]
theorem intR_none {l : List UInt8} {a : Nat} (h : a ≤ l.length) (hd : decI 9 0 0 (l.drop a) = none) : intR l a = (0, 0, 10) := by
  unfold intR; rw [if_neg (by omega), Int.toNat_natCast, hd]
theorem intR_some {l : List UInt8} {a : Nat} {n : Int} {j : Nat} (h : a ≤ l.length) (hd : decI 9 0 0 (l.drop a) = some (n, j)) : intR l a = (n, (a : Int) + (j : Int), 0) := by
  unfold intR; rw [if_neg (by omega), Int.toNat_natCast, hd]
theorem intR_arg {l : List UInt8} {a : Int} (h : a < 0 ∨ (l.length : Int) < a) : intR l a = (0, 0, 2) := by
  unfold intR; rw [if_pos h]
theorem unzig_odd {z : Nat} (h : z % 2 = 1) : unzig z = -((z / 2 : Nat) : Int) - 1 := by unfold unzig; rw [if_pos h]
theorem unzig_even {z : Nat} (h : z % 2 = 0) : unzig z = ((z / 2 : Nat) : Int) := by unfold unzig; rw [if_neg (by omega)]
theorem pow_bound {k : Nat} (hk : k < 9) {zz b : Nat} (hz : zz < 128 ^ k) : zz + b % 128 * 128 ^ k < 128 ^ (k + 1) ∧ zz + b % 128 * 128 ^ k < 9223372036854775808 := by
  have h1 : zz + b % 128 * 128 ^ k < 128 ^ (k + 1) := by
    have : b % 128 * 128 ^ k ≤ 127 * 128 ^ k := Nat.mul_le_mul_right _ (by omega)
    rw [Nat.pow_succ]; omega
  have h2 : 128 ^ (k + 1) ≤ 128 ^ 9 := Nat.pow_le_pow_right (by decide) (by omega)
  have h3 : 128 ^ 9 = 9223372036854775808 := by decide
  omega
theorem or_add {k zz b : Nat} (hz : zz < 128 ^ k) : zz ||| (b % 128 * 2 ^ (7 * k)) = zz + b % 128 * 128 ^ k := by
  have e : (128 : Nat) ^ k = 2 ^ (7 * k) := by rw [Nat.pow_mul]
  rw [e] at hz ⊢
  rw [Nat.or_comm, Nat.mul_comm, ← Nat.two_pow_add_eq_or_of_lt hz]
  omega
theorem putL_len (n : Int) : (putL n).length ≤ 9 := by
  unfold putL
  split
  · exact (uv_len _).1
  · simp
theorem extract_list (s : ByteArray) (i n : Nat) : s.extract i (i + n) = ⟨((s.data.toList.drop i).take n).toArray⟩ := by
  apply ByteArray.ext
  apply Array.toList_inj.1
  rw [ByteArray.data_extract]
  simp [List.drop_take]
theorem append_list (l : List UInt8) (s : ByteArray) : (⟨l.toArray⟩ : ByteArray) ++ s = ⟨(l ++ s.data.toList).toArray⟩ := by
  apply ByteArray.ext
  apply Array.toList_inj.1
  simp
theorem xor_all32 (r : Nat) (h : r < 4294967296) : 4294967295 ^^^ r = 4294967295 - r := by
  have h1 : (4294967295 ^^^ r) % 4294967296 = 4294967295 ^^^ r := Nat.mod_eq_of_lt (Nat.xor_lt_two_pow (n := 32) (by decide) h)
  have := BitVec.toNat_not (x := BitVec.ofNat 32 r)
  have e : ~~~ (BitVec.ofNat 32 r) = BitVec.allOnes 32 ^^^ BitVec.ofNat 32 r := by rw [BitVec.allOnes_xor]
  rw [e, BitVec.toNat_xor, BitVec.toNat_allOnes, BitVec.toNat_ofNat, Nat.mod_eq_of_lt (by omega)] at this
  simpa using this
def putSL (l : List UInt8) : List UInt8 := if 65536 < l.length then [] else putL l.length ++ l
def putSE (l : List UInt8) : Int := if 65536 < l.length then 10 else 0
theorem putE_len (n : Nat) (h : n ≤ 65536) : putE n = 0 := by
  unfold putE; rw [if_pos ((okInt_iff _).2 (by omega))]
theorem decI_bound (k i z : Nat) (l : List UInt8) (n : Int) (j : Nat) (hk : i + k = 9) (hz : z < 128 ^ i) (h : decI k i z l = some (n, j)) :
    i < j ∧ j ≤ i + l.length ∧ -4611686018427387903 ≤ n ∧ n ≤ 4611686018427387903 := by
  induction k generalizing i z l with
  | zero => simp [decI] at h
  | succ k ih =>
    cases l with
    | nil => simp [decI] at h
    | cons b l =>
      have hp := pow_bound (b := b.toNat) (show i < 9 by omega) hz
      rw [decI] at h
      by_cases h1 : 128 ≤ b.toNat
      · rw [if_pos h1] at h
        have := ih (i + 1) _ l (by omega) hp.1 h
        simp
        omega
      · rw [if_neg h1] at h
        by_cases h2 : b.toNat = 0 ∧ 0 < i
        · rw [if_pos h2] at h; cases h
        · rw [if_neg h2] at h
          by_cases h3 : unzig (z + b.toNat % 128 * 128 ^ i) < -4611686018427387903
          · rw [if_pos h3] at h; cases h
          · rw [if_neg h3] at h
            simp only [Option.some.injEq, Prod.mk.injEq] at h
            obtain ⟨rfl, rfl⟩ := h
            refine ⟨by omega, by simp, by omega, ?_⟩
            unfold unzig; split <;> omega
theorem intR_ok {l : List UInt8} {a : Int} (h : (intR l a).2.2 = 0) : 0 ≤ a ∧ a < (intR l a).2.1 ∧ (intR l a).2.1 ≤ l.length ∧ -4611686018427387903 ≤ (intR l a).1 ∧ (intR l a).1 ≤ 4611686018427387903 := by
  unfold intR at h ⊢
  by_cases h1 : a < 0 ∨ (l.length : Int) < a
  · rw [if_pos h1] at h; cases h
  · rw [if_neg h1] at h ⊢
    cases hd : decI 9 0 0 (l.drop a.toNat) with
    | none => rw [hd] at h; cases h
    | some p =>
      obtain ⟨n, j⟩ := p
      have := decI_bound 9 0 0 _ n j rfl (by decide) hd
      simp at this ⊢
      omega
theorem intR_bad {l : List UInt8} {a : Int} (h : (intR l a).2.2 ≠ 0) : (intR l a).1 = 0 ∧ (intR l a).2.1 = 0 := by
  unfold intR at h ⊢
  by_cases h1 : a < 0 ∨ (l.length : Int) < a
  · rw [if_pos h1]; exact ⟨rfl, rfl⟩
  · rw [if_neg h1] at h ⊢
    cases hd : decI 9 0 0 (l.drop a.toNat) with
    | none => exact ⟨rfl, rfl⟩
    | some p => rw [hd] at h; exact absurd rfl h
/-- What String answers. -/
def strR (l : List UInt8) (a : Int) : List UInt8 × Int × Int :=
  if (intR l a).2.2 = 0 then
    (if (intR l a).1 < 0 ∨ 65536 < (intR l a).1 ∨ (l.length : Int) - (intR l a).2.1 < (intR l a).1 then ([], 0, 10)
    else ((l.drop (intR l a).2.1.toNat).take (intR l a).1.toNat, (intR l a).2.1 + (intR l a).1, 0))
  else ([], 0, (intR l a).2.2)
theorem strR_err {l : List UInt8} {a : Int} (h : (intR l a).2.2 ≠ 0) : strR l a = ([], 0, (intR l a).2.2) := by
  unfold strR; rw [if_neg h]
theorem strR_bad {l : List UInt8} {a : Int} (h : (intR l a).2.2 = 0) (h2 : (intR l a).1 < 0 ∨ 65536 < (intR l a).1 ∨ (l.length : Int) - (intR l a).2.1 < (intR l a).1) : strR l a = ([], 0, 10) := by
  unfold strR; rw [if_pos h, if_pos h2]
theorem strR_good {l : List UInt8} {a : Int} (h : (intR l a).2.2 = 0) (h2 : ¬ ((intR l a).1 < 0 ∨ 65536 < (intR l a).1 ∨ (l.length : Int) - (intR l a).2.1 < (intR l a).1)) :
    strR l a = ((l.drop (intR l a).2.1.toNat).take (intR l a).1.toNat, (intR l a).2.1 + (intR l a).1, 0) := by
  unfold strR; rw [if_pos h, if_neg h2]
/-- The checksum. -/
def tabL : List Nat := [0, 274646895, 549293790, 820201905, 1098587580, 1361435347, 1640403810, 1905808397, 2197175160, 2460548119, 2722870694, 2987750089, 3280807620, 3553878443, 3811616794, 4084100981]
def tabAt (i : Nat) : Nat := tabL.getD i 0
theorem tabAt_lt (i : Nat) : tabAt i < 4294967296 := by
  unfold tabAt
  match i with
  | 0 | 1 | 2 | 3 | 4 | 5 | 6 | 7 | 8 | 9 | 10 | 11 | 12 | 13 | 14 | 15 => decide
  | n + 16 => simp [tabL]
def nib (r : Nat) : Nat := (r / 16) ^^^ tabAt (r % 16)
theorem xor_lt32 {a b : Nat} (ha : a < 4294967296) (hb : b < 4294967296) : a ^^^ b < 4294967296 := Nat.xor_lt_two_pow (n := 32) ha hb
theorem nib_lt {r : Nat} (h : r < 4294967296) : nib r < 4294967296 := xor_lt32 (by omega) (tabAt_lt _)
def crcB (r : Nat) (b : UInt8) : Nat := nib (nib (r ^^^ b.toNat))
theorem crcB_lt {r : Nat} (h : r < 4294967296) (b : UInt8) : crcB r b < 4294967296 := nib_lt (nib_lt (xor_lt32 h (by have := b.toNat_lt; omega)))
def crc (l : List UInt8) : Nat := l.foldl crcB 4294967295
theorem crc_lt (l : List UInt8) : crc l < 4294967296 := by
  have : ∀ (l : List UInt8) (r : Nat), r < 4294967296 → l.foldl crcB r < 4294967296 := by
    intro l
    induction l with
    | nil => intro r h; exact h
    | cons b l ih => intro r h; exact ih _ (crcB_lt h b)
  exact this l _ (by decide)
def sumL (l : List UInt8) : Int := ((4294967295 - crc l : Nat) : Int)
/-- pick: an arbitrary integer to 0..n-1. -/
def pickI (c n : Int) : Int := (if c < 0 then -(c + 1) else c) % n
theorem pickI_bd (c n : Int) (h : 0 < n) : 0 ≤ pickI c n ∧ pickI c n < n := ⟨Int.emod_nonneg _ (by omega), Int.emod_lt_of_pos _ h⟩
def numTab : List Int := [64, 128, 8192, 16384, 1073741824, 36028797018963968, 576460752303423488, 2]
def numAbs (c : Int) : Int := pickI (pickI c 4611686018427387904 / 8) (numTab.getD (pickI c 8).toNat 0)
def numF (c : Int) : Int := if 8 ≤ pickI c 16 then - numAbs c else numAbs c
theorem numTab_bd (i : Nat) (h : i < 8) : 0 < numTab.getD i 0 ∧ numTab.getD i 0 ≤ 576460752303423488 := by
  match i, h with
  | 0, _ | 1, _ | 2, _ | 3, _ | 4, _ | 5, _ | 6, _ | 7, _ => decide
theorem numAbs_bd (c : Int) : 0 ≤ numAbs c ∧ numAbs c < 576460752303423488 := by
  have h8 := pickI_bd c 8 (by decide)
  have ht := numTab_bd (pickI c 8).toNat (by omega)
  have := pickI_bd (pickI c 4611686018427387904 / 8) _ ht.1
  unfold numAbs
  omega
theorem numF_ok (c : Int) : okInt (numF c) = true := by
  have := numAbs_bd c
  rw [okInt_iff]; unfold numF; split <;> omega
end Onair
namespace Onair
theorem zig_unzig (z : Nat) : zig (unzig z) = z := by
  unfold unzig zig
  split
  · split <;> omega
  · split <;> omega
theorem unzig_zig (n : Int) : unzig (zig n) = n := by
  unfold unzig zig
  split
  · split <;> omega
  · split <;> omega
theorem toNat_ofNat {n : Nat} (h : n < 256) : (UInt8.ofNat n).toNat = n := by
  rw [UInt8.toNat_ofNat_of_lt' (by omega)]
abbrev gb (x : Fin 128 × Bool) : UInt8 := UInt8.ofNat (gByte x)
theorem gb_last (z : Nat) : (gb (⟨z % 128, Nat.mod_lt _ (by decide)⟩, false)).toNat = z % 128 := by
  rw [toNat_ofNat (gByte_lt _)]; rfl
theorem gb_more (z : Nat) : (gb (⟨z % 128, Nat.mod_lt _ (by decide)⟩, true)).toNat = z % 128 + 128 := by
  rw [toNat_ofNat (gByte_lt _)]; rfl
theorem dec_last (k i z zz : Nat) (h : zz < 128) (h0 : 0 < zz ∨ i = 0) (q : List UInt8) :
    decI (k + 1) i z (gb (⟨zz % 128, Nat.mod_lt _ (by decide)⟩, false) :: q) = if unzig (z + zz * 128 ^ i) < -4611686018427387903 then none else some (unzig (z + zz * 128 ^ i), i + 1) := by
  rw [decI, gb_last, Nat.mod_eq_of_lt h, Nat.mod_eq_of_lt h, if_neg (by omega), if_neg (by omega)]
theorem dec_gF (k : Nat) : ∀ (i z zz : Nat), zz < 128 ^ (k + 1) → (0 < zz ∨ i = 0) → ∀ q : List UInt8,
    decI (k + 1) i z ((gF k zz).map gb ++ q) = if unzig (z + zz * 128 ^ i) < -4611686018427387903 then none else some (unzig (z + zz * 128 ^ i), i + (gF k zz).length) := by
  induction k with
  | zero =>
    intro i z zz h h0 q
    exact dec_last 0 i z zz (by simpa using h) h0 q
  | succ k ih =>
    intro i z zz h h0 q
    by_cases h1 : zz < 128
    · have e : gF (k + 1) zz = [(⟨zz % 128, Nat.mod_lt _ (by decide)⟩, false)] := by rw [gF, if_pos h1]
      rw [e]
      exact dec_last (k + 1) i z zz h1 h0 q
    · have e : gF (k + 1) zz = (⟨zz % 128, Nat.mod_lt _ (by decide)⟩, true) :: gF k (zz / 128) := by rw [gF, if_neg h1]
      rw [e, List.map_cons, List.cons_append, decI, gb_more, if_pos (by omega)]
      rw [ih (i + 1) _ (zz / 128) (Nat.div_lt_of_lt_mul (by rw [Nat.mul_comm, ← Nat.pow_succ]; exact h)) (by omega) q]
      have e2 : z + (zz % 128 + 128) % 128 * 128 ^ i + zz / 128 * 128 ^ (i + 1) = z + zz * 128 ^ i := by
        have e3 : (zz % 128 + 128) % 128 = zz % 128 := by omega
        have e4 : zz / 128 * 128 ^ (i + 1) = (128 * (zz / 128)) * 128 ^ i := by rw [Nat.pow_succ, Nat.mul_comm (128 ^ i) 128, ← Nat.mul_assoc, Nat.mul_comm (zz / 128) 128]
        rw [e3, e4, Nat.add_assoc, ← Nat.add_mul, Nat.mod_add_div]
      rw [e2, List.length_cons]
      simp only [Nat.add_assoc, Nat.add_comm 1]
/-- A proper prefix of an encoding is not accepted. -/
theorem dec_prefix (k : Nat) : ∀ (i z zz : Nat) (m : Nat), m < (gF k zz).length → decI (k + 1) i z (((gF k zz).map gb).take m) = none := by
  induction k with
  | zero =>
    intro i z zz m hm
    have : m = 0 := by simpa [gF] using hm
    subst this
    rw [List.take_zero, decI]
  | succ k ih =>
    intro i z zz m hm
    cases m with
    | zero => rw [List.take_zero, decI]
    | succ m =>
      by_cases h1 : zz < 128
      · rw [gF, if_pos h1] at hm; simp at hm
      · rw [gF, if_neg h1] at hm ⊢
        rw [List.map_cons, List.take_succ_cons, decI, gb_more, if_pos (by omega)]
        exact ih _ _ _ m (by simpa using hm)
/-- What is accepted is an encoding. -/
theorem dec_unique (k : Nat) : ∀ (i z : Nat) (l : List UInt8) (n : Int) (j : Nat), decI (k + 1) i z l = some (n, j) →
    ∃ zz, zz < 128 ^ (k + 1) ∧ (0 < zz ∨ i = 0) ∧ j = i + (gF k zz).length ∧ l.take (gF k zz).length = (gF k zz).map gb ∧ n = unzig (z + zz * 128 ^ i) ∧ ¬ n < -4611686018427387903 := by
  induction k with
  | zero =>
    intro i z l n j h
    cases l with
    | nil => simp [decI] at h
    | cons b l =>
      rw [decI] at h
      by_cases h1 : 128 ≤ b.toNat
      · rw [if_pos h1, decI] at h; cases h
      · rw [if_neg h1] at h
        by_cases h2 : b.toNat = 0 ∧ 0 < i
        · rw [if_pos h2] at h; cases h
        · rw [if_neg h2] at h
          by_cases h3 : unzig (z + b.toNat % 128 * 128 ^ i) < -4611686018427387903
          · rw [if_pos h3] at h; cases h
          · rw [if_neg h3] at h
            simp only [Option.some.injEq, Prod.mk.injEq] at h
            obtain ⟨rfl, rfl⟩ := h
            refine ⟨b.toNat, by simpa using h1, by omega, rfl, ?_, by rw [Nat.mod_eq_of_lt (by omega)], h3⟩
            show [b] = [gb _]
            congr 1
            apply UInt8.toNat_inj.1
            rw [gb_last, Nat.mod_eq_of_lt (by omega)]
  | succ k ih =>
    intro i z l n j h
    cases l with
    | nil => simp [decI] at h
    | cons b l =>
      have hbl := b.toNat_lt
      rw [decI] at h
      by_cases h1 : 128 ≤ b.toNat
      · rw [if_pos h1] at h
        obtain ⟨zz, g1, g2, g3, g4, g5, g6⟩ := ih _ _ _ _ _ h
        have gz : 0 < zz := by omega
        have e : gF (k + 1) (zz * 128 + b.toNat % 128) = (⟨b.toNat % 128, Nat.mod_lt _ (by decide)⟩, true) :: gF k zz := by
          rw [gF, if_neg (by omega)]
          congr 2
          · simp only [Prod.mk.injEq, and_true, Fin.mk.injEq]; omega
          · omega
        refine ⟨zz * 128 + b.toNat % 128, ?_, by omega, ?_, ?_, ?_, g6⟩
        · rw [Nat.pow_succ]; omega
        · rw [e, g3, List.length_cons]; omega
        · rw [e, List.length_cons, List.take_succ_cons, List.map_cons, g4]
          congr 1
          apply UInt8.toNat_inj.1
          rw [gb_more]; omega
        · rw [g5]
          congr 1
          rw [Nat.pow_succ, Nat.mul_comm (128 ^ i) 128, ← Nat.mul_assoc, Nat.add_assoc, ← Nat.add_mul, Nat.add_comm (b.toNat % 128)]
      · rw [if_neg h1] at h
        by_cases h2 : b.toNat = 0 ∧ 0 < i
        · rw [if_pos h2] at h; cases h
        · rw [if_neg h2] at h
          by_cases h3 : unzig (z + b.toNat % 128 * 128 ^ i) < -4611686018427387903
          · rw [if_pos h3] at h; cases h
          · rw [if_neg h3] at h
            simp only [Option.some.injEq, Prod.mk.injEq] at h
            obtain ⟨rfl, rfl⟩ := h
            have e : gF (k + 1) b.toNat = [(⟨b.toNat % 128, Nat.mod_lt _ (by decide)⟩, false)] := by rw [gF, if_pos (by omega)]
            refine ⟨b.toNat, Nat.lt_of_lt_of_le (show b.toNat < 128 ^ 1 by omega) (Nat.pow_le_pow_right (by decide) (by omega)), by omega, by rw [e]; rfl, ?_, by rw [Nat.mod_eq_of_lt (by omega)], h3⟩
            rw [e]
            show [b] = [gb _]
            congr 1
            apply UInt8.toNat_inj.1
            rw [gb_last, Nat.mod_eq_of_lt (by omega)]
theorem pow9 : (128 : Nat) ^ (8 + 1) = 9223372036854775808 := by decide
theorem putL_eq (n : Int) (h : okInt n = true) : putL n = (gF 8 (zig n)).map gb := by unfold putL; rw [if_pos h]; rfl
theorem dec_put (n : Int) (h : okInt n = true) (q : List UInt8) : decI 9 0 0 (putL n ++ q) = some (n, (putL n).length) := by
  have hz := zig_lt n h
  rw [putL_eq n h, dec_gF 8 0 0 (zig n) (by rw [pow9]; exact hz) (.inr rfl) q]
  have h' := (okInt_iff n).1 h
  rw [show 0 + zig n * 128 ^ 0 = zig n by simp, unzig_zig, if_neg (by omega)]
  simp
theorem dec_trunc (n : Int) (h : okInt n = true) (m : Nat) (hm : m < (putL n).length) : decI 9 0 0 ((putL n).take m) = none := by
  rw [putL_eq n h] at hm ⊢
  exact dec_prefix 8 0 0 _ m (by simpa using hm)
theorem dec_back (l : List UInt8) (n : Int) (j : Nat) (h : decI 9 0 0 l = some (n, j)) : okInt n = true ∧ l.take j = putL n ∧ j = (putL n).length := by
  obtain ⟨zz, g1, _, g3, g4, g5, g6⟩ := dec_unique 8 0 0 l n j h
  rw [pow9] at g1
  have e : n = unzig zz := by rw [g5]; congr 1; simp
  have ok : okInt n = true := by
    rw [okInt_iff]
    refine ⟨by omega, ?_⟩
    rw [e]; unfold unzig; split <;> omega
  have ez : zig n = zz := by rw [e, zig_unzig]
  rw [Nat.zero_add] at g3
  refine ⟨ok, ?_, ?_⟩
  · rw [putL_eq n ok, ez, g3, g4]
  · rw [putL_eq n ok, ez, g3, List.length_map]
theorem putL_inj {a b : Int} (ha : okInt a = true) (hb : okInt b = true) (q : List UInt8) (h : putL a ++ q = putL b) : a = b := by
  have h1 := dec_put a ha q
  have h2 := dec_put b hb []
  rw [List.append_nil] at h2
  rw [h, h2] at h1
  simp only [Option.some.injEq, Prod.mk.injEq] at h1
  exact h1.1.symm
/-- Int behind an encoding. -/
theorem intR_put (p q : List UInt8) (n : Int) (h : okInt n = true) : intR (p ++ putL n ++ q) p.length = (n, (p.length : Int) + (putL n).length, 0) :=
  intR_some (by simp) (by rw [List.append_assoc, List.drop_left]; exact dec_put n h q)
end Onair
namespace Onair
theorem intR_take_put {n : Int} (h : okInt n = true) (m : Nat) (hm : m < (putL n).length) (t : List UInt8) : intR ((putL n ++ t).take m) 0 = (0, 0, 10) := by
  have := intR_none (l := (putL n ++ t).take m) (a := 0) (Nat.zero_le _) (by rw [List.drop_zero, List.take_append_of_le_length (by omega)]; exact dec_trunc n h m hm)
  exact this
theorem putSL_eq (t : List UInt8) (h : t.length ≤ 65536) : putSL t = putL t.length ++ t := by unfold putSL; rw [if_neg (by omega)]
theorem len_ok (n : Nat) (h : n ≤ 65536) : okInt (n : Int) = true := by rw [okInt_iff]; omega
theorem strR_take_put (t : List UInt8) (h : t.length ≤ 65536) (m : Nat) (hm : m < (putSL t).length) : strR ((putSL t).take m) 0 = ([], 0, 10) := by
  rw [putSL_eq t h] at hm ⊢
  have ok := len_ok t.length h
  by_cases h1 : m < (putL t.length).length
  · rw [strR_err (by rw [intR_take_put ok m h1 t]; decide), intR_take_put ok m h1 t]
  · have e : (putL t.length ++ t).take m = [] ++ putL t.length ++ t.take (m - (putL t.length).length) := by
      rw [List.take_append, List.take_of_length_le (by omega), List.nil_append]
    have hr := intR_put [] (t.take (m - (putL t.length).length)) t.length ok
    rw [e]
    simp only [List.length_nil, Int.natCast_zero, Int.zero_add] at hr
    simp only [List.length_append] at hm
    exact strR_bad (by rw [hr]) (by rw [hr]; right; right; simp; omega)
/-- String behind an encoding. -/
theorem strR_put (p q t : List UInt8) (h : t.length ≤ 65536) : strR (p ++ putSL t ++ q) p.length = (t, (p.length : Int) + (putSL t).length, 0) := by
  have ok := len_ok t.length h
  have e : p ++ putSL t ++ q = p ++ putL t.length ++ (t ++ q) := by rw [putSL_eq t h]; simp
  have hr := intR_put p (t ++ q) t.length ok
  rw [e, strR_good (by rw [hr]) (by rw [hr]; simp; omega), hr]
  have e2 : ((p.length : Int) + (putL t.length).length).toNat = (p ++ putL t.length).length := by simp; omega
  refine Prod.ext ?_ (Prod.ext ?_ rfl)
  · show List.take _ (List.drop _ _) = t
    rw [e2, List.drop_left, Int.toNat_natCast, List.take_left]
  · show (p.length : Int) + (putL t.length).length + t.length = _
    rw [putSL_eq t h, List.length_append]; simp; omega
/-- What String accepts is an encoding. -/
theorem intR_back (l : List UInt8) (a : Nat) (h : (intR l a).2.2 = 0) : okInt (intR l a).1 = true ∧ (intR l a).2.1 = (a : Int) + (putL (intR l a).1).length ∧ (l.drop a).take (putL (intR l a).1).length = putL (intR l a).1 := by
  have hb := intR_ok h
  unfold intR at h ⊢
  rw [if_neg (by omega), Int.toNat_natCast] at h ⊢
  cases hd : decI 9 0 0 (l.drop a) with
  | none => rw [hd] at h; cases h
  | some p =>
    obtain ⟨n, j⟩ := p
    obtain ⟨g1, g2, g3⟩ := dec_back _ n j hd
    refine ⟨g1, ?_, ?_⟩
    · show (a : Int) + (j : Int) = _
      rw [g3]
    · show List.take (putL n).length _ = putL n
      rw [← g3, g2]
theorem intR_err10 (l : List UInt8) (a : Nat) (ha : a ≤ l.length) (h : (intR l a).2.2 ≠ 0) : intR l a = (0, 0, 10) := by
  unfold intR at h ⊢
  rw [if_neg (by omega), Int.toNat_natCast] at h ⊢
  cases hd : decI 9 0 0 (l.drop a) with
  | none => rfl
  | some p => rw [hd] at h; exact absurd rfl h
theorem strR_err10 (l : List UInt8) (a : Nat) (ha : a ≤ l.length) (h : (strR l a).2.2 ≠ 0) : strR l a = ([], 0, 10) := by
  by_cases h1 : (intR l a).2.2 = 0
  · by_cases h2 : (intR l a).1 < 0 ∨ 65536 < (intR l a).1 ∨ (l.length : Int) - (intR l a).2.1 < (intR l a).1
    · exact strR_bad h1 h2
    · rw [strR_good h1 h2] at h; exact absurd rfl h
  · rw [strR_err h1, intR_err10 l a ha h1]
theorem strR_back (l : List UInt8) (a : Nat) (h : (strR l a).2.2 = 0) : (strR l a).1.length ≤ 65536 ∧ (strR l a).2.1 = (a : Int) + (putSL (strR l a).1).length ∧ (l.drop a).take (putSL (strR l a).1).length = putSL (strR l a).1 ∧ (strR l a).2.1 ≤ l.length := by
  by_cases h1 : (intR l a).2.2 = 0
  · by_cases h2 : (intR l a).1 < 0 ∨ 65536 < (intR l a).1 ∨ (l.length : Int) - (intR l a).2.1 < (intR l a).1
    · rw [strR_bad h1 h2] at h; cases h
    · have hb := intR_ok h1
      obtain ⟨g1, g2, g3⟩ := intR_back l a h1
      rw [strR_good h1 h2]
      obtain ⟨n, hn⟩ : ∃ n : Nat, (intR l a).1 = n := ⟨(intR l a).1.toNat, by omega⟩
      obtain ⟨x, hx⟩ : ∃ x : Nat, (intR l a).2.1 = x := ⟨(intR l a).2.1.toNat, by omega⟩
      simp only [hn, hx, Int.toNat_natCast] at *
      have hl : ((l.drop x).take n).length = n := by rw [List.length_take, List.length_drop]; omega
      have e : putSL ((l.drop x).take n) = putL (n : Int) ++ (l.drop x).take n := by rw [putSL_eq _ (by omega), hl]
      have hxa : x = a + (putL (n : Int)).length := by omega
      refine ⟨by omega, ?_, ?_, by omega⟩
      · rw [e, List.length_append, hl]; omega
      · rw [e, List.length_append, hl, List.take_add, g3, List.drop_drop, ← hxa]
  · rw [strR_err h1] at h; exact absurd h h1
theorem take_extract (t : ByteArray) (a n : Nat) (l : List UInt8) (h : (t.data.toList.drop a).take n = l) (hn : l.length = n) : (t.extract a (a + n)).data.toList = l := by
  rw [extract_list, ← h]
/-- A sequence of encodings: for each i < k the integer x i, then the string t i. -/
def seqL (x : Nat → Int) (t : Nat → List UInt8) (k : Nat) : List UInt8 := (List.range k).flatMap fun i => putL (x i) ++ putSL (t i)
theorem seqL_succ (x : Nat → Int) (t : Nat → List UInt8) (k : Nat) : seqL x t (k + 1) = seqL x t k ++ putL (x k) ++ putSL (t k) := by
  unfold seqL
  rw [List.range_succ, List.flatMap_append]
  simp
theorem seqL_split (x : Nat → Int) (t : Nat → List UInt8) (k n : Nat) (h : k ≤ n) : ∃ r, seqL x t n = seqL x t k ++ r := by
  induction n with
  | zero => exact ⟨[], by rw [show k = 0 by omega]; simp⟩
  | succ n ih =>
    by_cases e : k = n + 1
    · subst e; exact ⟨[], by simp⟩
    · obtain ⟨r, hr⟩ := ih (by omega)
      exact ⟨r ++ putL (x n) ++ putSL (t n), by rw [seqL_succ, hr]; simp⟩
theorem putSL_len (t : List UInt8) (h : t.length ≤ 65536) : (putSL t).length ≤ 9 + t.length := by
  rw [putSL_eq t h, List.length_append]
  have := putL_len t.length
  omega
theorem seq_int (x : Nat → Int) (t : Nat → List UInt8) (k n : Nat) (h : k < n) (hx : okInt (x k) = true) :
    intR (seqL x t n) (seqL x t k).length = (x k, ((seqL x t k ++ putL (x k)).length : Int), 0) := by
  obtain ⟨r, hr⟩ := seqL_split x t (k + 1) n h
  rw [hr, seqL_succ, List.append_assoc _ (putSL (t k)) r, intR_put _ _ _ hx, List.length_append]
  simp
theorem seq_str (x : Nat → Int) (t : Nat → List UInt8) (k n : Nat) (h : k < n) (ht : (t k).length ≤ 65536) :
    strR (seqL x t n) (seqL x t k ++ putL (x k)).length = (t k, ((seqL x t (k + 1)).length : Int), 0) := by
  obtain ⟨r, hr⟩ := seqL_split x t (k + 1) n h
  rw [hr, seqL_succ, strR_put _ _ _ ht]
  rw [List.length_append (bs := putSL (t k))]
  simp
theorem seq_end (l : List UInt8) : intR l l.length = (0, 0, 10) := intR_none (Nat.le_refl _) (by rw [List.drop_length]; rfl)
end Onair
