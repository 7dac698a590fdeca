/- Plain definitions for package wire: the variable-length integers, their decoder and the checksum, on lists of bytes. No program in sight. -/

set_option linter.unusedVariables false
set_option linter.unusedSimpArgs false
namespace Onair
def gF : Nat → Nat → List (Fin 128 × Bool)
 | 0, z => [(⟨z % 128, Nat.mod_lt _ (by decide)⟩, false)]
 | k + 1, z => if z < 128 then [(⟨z % 128, Nat.mod_lt _ (by decide)⟩, false)] else (⟨z % 128, Nat.mod_lt _ (by decide)⟩, true) :: gF k (z / 128)
def gByte (x : Fin 128 × Bool) : Nat := x.1.val + (if x.2 then 128 else 0)
theorem gByte_lt (x : Fin 128 × Bool) : gByte x < 256 := by
 have := x.1.isLt
 unfold gByte
 split <;> omega
theorem gF_len (k z : Nat) : (gF k z).length ≤ k + 1 ∧ 1 ≤ (gF k z).length := by
 induction k generalizing z with
 | zero => simp [gF]
 | succ k ih =>
  unfold gF
  split
  ·simp
  ·have := ih (z / 128); simp; omega
def uv (z : Nat) : List UInt8 := (gF 8 z).map (fun x => UInt8.ofNat (gByte x))
theorem uv_len (z : Nat) : (uv z).length ≤ 9 ∧ 1 ≤ (uv z).length := by
 unfold uv; rw [List.length_map]; exact gF_len 8 z
def zig (n : Int) : Nat := if n < 0 then (2 * (-n) - 1).toNat else (2 * n).toNat
def okInt (n : Int) : Bool := decide (-4611686018427387903 ≤ n ∧ n ≤ 4611686018427387903)
theorem okInt_iff (n : Int) : okInt n = true ↔ (-4611686018427387903 ≤ n ∧ n ≤ 4611686018427387903) := by unfold okInt; exact decide_eq_true_iff
def putL (n : Int) : List UInt8 := if okInt n then uv (zig n) else []
def putE (n : Int) : Int := if okInt n then 0 else 10
def unzig (z : Nat) : Int := if z % 2 = 1 then -((z / 2 : Nat) : Int) - 1 else ((z / 2 : Nat) : Int)
def decI : Nat → Nat → Nat → List UInt8 → Option (Int × Nat)
 | 0, _, _, _ => none
 | _ + 1, _, _, [] => none
 | k + 1, i, z, b :: l =>
  if 128 ≤ b.toNat then decI k (i + 1) (z + b.toNat % 128 * 128 ^ i) l
  else if b.toNat = 0 ∧ 0 < i then none
  else if unzig (z + b.toNat % 128 * 128 ^ i) < -4611686018427387903 then none
  else some (unzig (z + b.toNat % 128 * 128 ^ i), i + 1)
def intR (l : List UInt8) (at_ : Int) : Int × Int × Int :=
 if at_ < 0 ∨ (l.length : Int) < at_ then (0, 0, 2) else
 match decI 9 0 0 (l.drop at_.toNat) with
 | none => (0, 0, 10)
 | some (n, k) => (n, at_ + k, 0)
theorem decI_step (k zz : Nat) (hk : k < 9) (c : UInt8) (l : List UInt8) (zn : Nat) (hzn : zz + c.toNat % 128 * 128 ^ k = zn) :
  decI (9 - k) k zz (c :: l) = if 128 ≤ c.toNat then decI (9 - (k + 1)) (k + 1) zn l else if c.toNat = 0 ∧ 0 < k then none
   else if unzig zn < -4611686018427387903 then none else some (unzig zn, k + 1) := by
 rw [show 9 - k = (9 - (k + 1)) + 1 from by omega, decI, hzn]
theorem intR_none {l : List UInt8} {a : Nat} (h : a ≤ l.length) (hd : decI 9 0 0 (l.drop a) = none) : intR l a = (0, 0, 10) := by
 unfold intR; rw [if_neg (by omega), Int.toNat_natCast, hd]
theorem intR_some {l : List UInt8} {a : Nat} {n : Int} {j : Nat} (h : a ≤ l.length) (hd : decI 9 0 0 (l.drop a) = some (n, j)) : intR l a = (n, (a : Int) + (j : Int), 0) := by
 unfold intR; rw [if_neg (by omega), Int.toNat_natCast, hd]
theorem intR_arg {l : List UInt8} {a : Int} (h : a < 0 ∨ (l.length : Int) < a) : intR l a = (0, 0, 2) := by
 unfold intR; rw [if_pos h]
theorem unzig_odd {z : Nat} (h : z % 2 = 1) : unzig z = -((z / 2 : Nat) : Int) - 1 := by unfold unzig; rw [if_pos h]
theorem unzig_even {z : Nat} (h : z % 2 = 0) : unzig z = ((z / 2 : Nat) : Int) := by unfold unzig; rw [if_neg (by omega)]
theorem pow_bound {k : Nat} (hk : k < 9) {zz b : Nat} (hz : zz < 128 ^ k) : zz + b % 128 * 128 ^ k < 128 ^ (k + 1) ∧ zz + b % 128 * 128 ^ k < 9223372036854775808 := by
 have h1 : zz + b % 128 * 128 ^ k < 128 ^ (k + 1) := by
  have : b % 128 * 128 ^ k ≤ 127 * 128 ^ k := Nat.mul_le_mul_right _ (by omega)
  rw [Nat.pow_succ]; omega
 have h2 : 128 ^ (k + 1) ≤ 128 ^ 9 := Nat.pow_le_pow_right (by decide) (by omega)
 have h3 : 128 ^ 9 = 9223372036854775808 := by decide
 omega
theorem or_add {k zz b : Nat} (hz : zz < 128 ^ k) : zz ||| (b % 128 * 2 ^ (7 * k)) = zz + b % 128 * 128 ^ k := by
 have e : (128 : Nat) ^ k = 2 ^ (7 * k) := by rw [Nat.pow_mul]
 rw [e] at hz ⊢
 rw [Nat.or_comm, Nat.mul_comm, ← Nat.two_pow_add_eq_or_of_lt hz]
 omega
theorem putL_len (n : Int) : (putL n).length ≤ 9 := by
 unfold putL
 split
 ·exact (uv_len _).1
 ·simp
theorem extract_list (s : ByteArray) (i n : Nat) : s.extract i (i + n) = ⟨((s.data.toList.drop i).take n).toArray⟩ := by
 apply ByteArray.ext
 apply Array.toList_inj.1
 rw [ByteArray.data_extract]
 simp [List.drop_take]
theorem append_list (l : List UInt8) (s : ByteArray) : (⟨l.toArray⟩ : ByteArray) ++ s = ⟨(l ++ s.data.toList).toArray⟩ := by
 apply ByteArray.ext
 apply Array.toList_inj.1
 simp
def putSL (l : List UInt8) : List UInt8 := if 65536 < l.length then [] else putL l.length ++ l
def putSE (l : List UInt8) : Int := if 65536 < l.length then 10 else 0
theorem putE_len (n : Nat) (h : n ≤ 65536) : putE n = 0 := by
 unfold putE; rw [if_pos ((okInt_iff _).2 (by omega))]
theorem decI_bound (k i z : Nat) (l : List UInt8) (n : Int) (j : Nat) (hk : i + k = 9) (hz : z < 128 ^ i) (h : decI k i z l = some (n, j)) :
  i < j ∧ j ≤ i + l.length ∧ -4611686018427387903 ≤ n ∧ n ≤ 4611686018427387903 := by
 induction k generalizing i z l with
 | zero => simp [decI] at h
 | succ k ih =>
  cases l with
  | nil => simp [decI] at h
  | cons b l =>
   have hp := pow_bound (b := b.toNat) (show i < 9 by omega) hz
   rw [decI] at h
   by_cases h1 : 128 ≤ b.toNat
   ·rw [if_pos h1] at h
    have := ih (i + 1) _ l (by omega) hp.1 h
    simp
    omega
   ·rw [if_neg h1] at h
    by_cases h2 : b.toNat = 0 ∧ 0 < i
    ·rw [if_pos h2] at h; cases h
    ·rw [if_neg h2] at h
     by_cases h3 : unzig (z + b.toNat % 128 * 128 ^ i) < -4611686018427387903
     ·rw [if_pos h3] at h; cases h
     ·rw [if_neg h3] at h
      simp only [Option.some.injEq, Prod.mk.injEq] at h
      obtain ⟨rfl, rfl⟩ := h
      refine ⟨by omega, by simp, by omega, ?_⟩
      unfold unzig; split <;> omega
theorem intR_ok {l : List UInt8} {a : Int} (h : (intR l a).2.2 = 0) : 0 ≤ a ∧ a < (intR l a).2.1 ∧ (intR l a).2.1 ≤ l.length ∧ -4611686018427387903 ≤ (intR l a).1 ∧ (intR l a).1 ≤ 4611686018427387903 := by
 unfold intR at h ⊢
 by_cases h1 : a < 0 ∨ (l.length : Int) < a
 ·rw [if_pos h1] at h; cases h
 ·rw [if_neg h1] at h ⊢
  cases hd : decI 9 0 0 (l.drop a.toNat) with
  | none => rw [hd] at h; cases h
  | some p =>
   obtain ⟨n, j⟩ := p
   have := decI_bound 9 0 0 _ n j rfl (by decide) hd
   simp at this ⊢
   omega
def strR (l : List UInt8) (a : Int) : List UInt8 × Int × Int :=
 if (intR l a).2.2 = 0 then
  (if (intR l a).1 < 0 ∨ 65536 < (intR l a).1 ∨ (l.length : Int) - (intR l a).2.1 < (intR l a).1 then ([], 0, 10)
  else ((l.drop (intR l a).2.1.toNat).take (intR l a).1.toNat, (intR l a).2.1 + (intR l a).1, 0))
 else ([], 0, (intR l a).2.2)
theorem strR_err {l : List UInt8} {a : Int} (h : (intR l a).2.2 ≠ 0) : strR l a = ([], 0, (intR l a).2.2) := by
 unfold strR; rw [if_neg h]
theorem strR_bad {l : List UInt8} {a : Int} (h : (intR l a).2.2 = 0) (h2 : (intR l a).1 < 0 ∨ 65536 < (intR l a).1 ∨ (l.length : Int) - (intR l a).2.1 < (intR l a).1) : strR l a = ([], 0, 10) := by
 unfold strR; rw [if_pos h, if_pos h2]
theorem strR_good {l : List UInt8} {a : Int} (h : (intR l a).2.2 = 0) (h2 : ¬ ((intR l a).1 < 0 ∨ 65536 < (intR l a).1 ∨ (l.length : Int) - (intR l a).2.1 < (intR l a).1)) :
  strR l a = ((l.drop (intR l a).2.1.toNat).take (intR l a).1.toNat, (intR l a).2.1 + (intR l a).1, 0) := by
 unfold strR; rw [if_pos h, if_neg h2]
def tabL : List Nat := [0, 274646895, 549293790, 820201905, 1098587580, 1361435347, 1640403810, 1905808397, 2197175160, 2460548119, 2722870694, 2987750089, 3280807620, 3553878443, 3811616794, 4084100981]
def tabAt (i : Nat) : Nat := tabL.getD i 0
def nib (r : Nat) : Nat := (r / 16) ^^^ tabAt (r % 16)
def crcB (r : Nat) (b : UInt8) : Nat := nib (nib (r ^^^ b.toNat))
def crc (l : List UInt8) : Nat := l.foldl crcB 4294967295
def sumL (l : List UInt8) : Int := ((4294967295 - crc l : Nat) : Int)
def pickI (c n : Int) : Int := (if c < 0 then -(c + 1) else c) % n
def numTab : List Int := [64, 128, 8192, 16384, 1073741824, 36028797018963968, 576460752303423488, 2]
def numAbs (c : Int) : Int := pickI (pickI c 4611686018427387904 / 8) (numTab.getD (pickI c 8).toNat 0)
def numF (c : Int) : Int := if 8 ≤ pickI c 16 then - numAbs c else numAbs c
end Onair
namespace Onair
abbrev gb (x : Fin 128 × Bool) : UInt8 := UInt8.ofNat (gByte x)
end Onair
namespace Onair
def seqL (x : Nat → Int) (t : Nat → List UInt8) (k : Nat) : List UInt8 := (List.range k).flatMap fun i => putL (x i) ++ putSL (t i)
end Onair
