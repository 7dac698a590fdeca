/-
  Plain definitions for package digest: the digest of a list of bytes (SHA-256), on natural numbers. No program in sight.
  Plain definitions and laws for package digest: the tree over a list of strings, proofs, extensions. No program in sight.
-/

set_option linter.unusedVariables false
set_option linter.unusedSimpArgs false
namespace Onair
def shaK : List Nat := [
  0x428a2f98, 0x71374491, 0xb5c0fbcf, 0xe9b5dba5, 0x3956c25b, 0x59f111f1, 0x923f82a4, 0xab1c5ed5,
  0xd807aa98, 0x12835b01, 0x243185be, 0x550c7dc3, 0x72be5d74, 0x80deb1fe, 0x9bdc06a7, 0xc19bf174,
  0xe49b69c1, 0xefbe4786, 0x0fc19dc6, 0x240ca1cc, 0x2de92c6f, 0x4a7484aa, 0x5cb0a9dc, 0x76f988da,
  0x983e5152, 0xa831c66d, 0xb00327c8, 0xbf597fc7, 0xc6e00bf3, 0xd5a79147, 0x06ca6351, 0x14292967,
  0x27b70a85, 0x2e1b2138, 0x4d2c6dfc, 0x53380d13, 0x650a7354, 0x766a0abb, 0x81c2c92e, 0x92722c85,
  0xa2bfe8a1, 0xa81a664b, 0xc24b8b70, 0xc76c51a3, 0xd192e819, 0xd6990624, 0xf40e3585, 0x106aa070,
  0x19a4c116, 0x1e376c08, 0x2748774c, 0x34b0bcb5, 0x391c0cb3, 0x4ed8aa4a, 0x5b9cca4f, 0x682e6ff3,
  0x748f82ee, 0x78a5636f, 0x84c87814, 0x8cc70208, 0x90befffa, 0xa4506ceb, 0xbef9a3f7, 0xc67178f2]
def kAt (i : Nat) : Nat := shaK.getD i 0
theorem kAt_lt (i : Nat) : kAt i < 4294967296 := by
  unfold kAt
  by_cases h : i < shaK.length
  · rw [List.getD_eq_getElem?_getD, List.getElem?_eq_getElem h]
    have : ∀ k ∈ shaK, k < 4294967296 := by decide
    exact this _ (List.getElem_mem h)
  · rw [List.getD_eq_getElem?_getD, List.getElem?_eq_none (by omega)]
    decide
def rotl (x s : Nat) : Nat := (x * 2 ^ s % 4294967296) ||| (x / 2 ^ (32 - s))
def add32 (a b : Nat) : Nat := (a + b) % 4294967296
theorem add32_lt (a b : Nat) : add32 a b < 4294967296 := Nat.mod_lt _ (by decide)
theorem or_lt32 {a b : Nat} (ha : a < 4294967296) (hb : b < 4294967296) : a ||| b < 4294967296 := Nat.or_lt_two_pow (n := 32) ha hb
theorem xor_lt32 {a b : Nat} (ha : a < 4294967296) (hb : b < 4294967296) : a ^^^ b < 4294967296 := Nat.xor_lt_two_pow (n := 32) ha hb
theorem and_lt32 {a b : Nat} (hb : b < 4294967296) : a &&& b < 4294967296 := Nat.and_lt_two_pow (n := 32) a hb
theorem rotl_lt (x s : Nat) (hx : x < 4294967296) : rotl x s < 4294967296 := or_lt32 (Nat.mod_lt _ (by decide)) (Nat.lt_of_le_of_lt (Nat.div_le_self _ _) hx)
/-- A word of a block, byte by byte. -/
def wordP (bs : List UInt8) (i : Nat) : Nat → Nat
  | 0 => 0
  | j + 1 => (wordP bs i j * 256 % 4294967296) ||| (bs.getD (4 * i + j) 0).toNat
theorem wordP_lt (bs : List UInt8) (i j : Nat) : wordP bs i j < 4294967296 := by
  cases j with
  | zero => show 0 < 4294967296; decide
  | succ j =>
    refine or_lt32 (Nat.mod_lt _ (by decide)) ?_
    have := (bs.getD (4 * i + j) 0).toNat_lt
    omega
def words16 (bs : List UInt8) (n : Nat) : List Nat := (List.range n).map fun i => wordP bs i 4
theorem words16_len (bs : List UInt8) (n : Nat) : (words16 bs n).length = n := by simp [words16]
theorem words16_succ (bs : List UInt8) (n : Nat) : words16 bs (n + 1) = words16 bs n ++ [wordP bs n 4] := by simp [words16, List.range_succ]
def sig0 (p : Nat) : Nat := rotl p 25 ^^^ rotl p 14 ^^^ p / 8
def sig1 (q : Nat) : Nat := rotl q 15 ^^^ rotl q 13 ^^^ q / 1024
def wAt (ws : List Nat) (i : Nat) : Nat := ws.getD i 0
def nextW (ws : List Nat) : Nat := add32 (add32 (add32 (wAt ws (ws.length - 16)) (sig0 (wAt ws (ws.length - 15)))) (wAt ws (ws.length - 7))) (sig1 (wAt ws (ws.length - 2)))
/-- The words of a block, n more than the first 16. -/
def schedN (bs : List UInt8) : Nat → List Nat
  | 0 => words16 bs 16
  | n + 1 => schedN bs n ++ [nextW (schedN bs n)]
theorem schedN_len (bs : List UInt8) (n : Nat) : (schedN bs n).length = 16 + n := by
  induction n with
  | zero => simp [schedN, words16]
  | succ n ih => simp [schedN, ih]; omega
theorem schedN_lt (bs : List UInt8) (n : Nat) : ∀ x ∈ schedN bs n, x < 4294967296 := by
  induction n with
  | zero =>
    intro x hx
    simp only [schedN, words16, List.mem_map] at hx
    obtain ⟨i, _, rfl⟩ := hx
    exact wordP_lt _ _ _
  | succ n ih =>
    intro x hx
    simp only [schedN, List.mem_append, List.mem_singleton] at hx
    rcases hx with hx | rfl
    · exact ih x hx
    · exact add32_lt _ _
def wexp (bs : List UInt8) : List Nat := schedN bs 48
theorem wexp_len (bs : List UInt8) : (wexp bs).length = 64 := schedN_len bs 48
theorem wAt_lt {ws : List Nat} (h : ∀ x ∈ ws, x < 4294967296) (i : Nat) : wAt ws i < 4294967296 := by
  unfold wAt
  by_cases hi : i < ws.length
  · rw [List.getD_eq_getElem?_getD, List.getElem?_eq_getElem hi]; exact h _ (List.getElem_mem hi)
  · rw [List.getD_eq_getElem?_getD, List.getElem?_eq_none (by omega)]; decide
/-- The eight words. -/
structure S8 where
  a : Nat
  b : Nat
  c : Nat
  d : Nat
  e : Nat
  f : Nat
  g : Nat
  h : Nat
structure S8.Ok (s : S8) : Prop where
  a : s.a < 4294967296
  b : s.b < 4294967296
  c : s.c < 4294967296
  d : s.d < 4294967296
  e : s.e < 4294967296
  f : s.f < 4294967296
  g : s.g < 4294967296
  h : s.h < 4294967296
def tOf (s : S8) (k w : Nat) : Nat := add32 (add32 (add32 s.h (rotl s.e 26 ^^^ rotl s.e 21 ^^^ rotl s.e 7)) ((s.e &&& s.f) ^^^ ((4294967295 - s.e) &&& s.g))) (add32 k w)
def uOf (s : S8) : Nat := add32 (rotl s.a 30 ^^^ rotl s.a 19 ^^^ rotl s.a 10) ((s.a &&& s.b) ^^^ (s.a &&& s.c) ^^^ (s.b &&& s.c))
def round8 (s : S8) (k w : Nat) : S8 := ⟨add32 (tOf s k w) (uOf s), s.a, s.b, s.c, add32 s.d (tOf s k w), s.e, s.f, s.g⟩
def rounds (s : S8) (ws : List Nat) : Nat → S8
  | 0 => s
  | n + 1 => round8 (rounds s ws n) (kAt n) (wAt ws n)
def S8.add (s t : S8) : S8 := ⟨add32 s.a t.a, add32 s.b t.b, add32 s.c t.c, add32 s.d t.d, add32 s.e t.e, add32 s.f t.f, add32 s.g t.g, add32 s.h t.h⟩
theorem S8.add_ok (s t : S8) : (s.add t).Ok := ⟨add32_lt _ _, add32_lt _ _, add32_lt _ _, add32_lt _ _, add32_lt _ _, add32_lt _ _, add32_lt _ _, add32_lt _ _⟩
def compr (s : S8) (bs : List UInt8) : S8 := s.add (rounds s (wexp bs) 64)
def S8.list (s : S8) : List Nat := [s.a, s.b, s.c, s.d, s.e, s.f, s.g, s.h]
def s8init : S8 := ⟨0x6a09e667, 0xbb67ae85, 0x3c6ef372, 0xa54ff53a, 0x510e527f, 0x9b05688c, 0x1f83d9ab, 0x5be0cd19⟩
/-- The eight bytes of a length in bits. -/
def be8 (n : Nat) : List UInt8 := (List.range 8).map fun i => UInt8.ofNat (n * 8 / 256 ^ (7 - i))
def zerosN (n : Nat) : Nat := (119 - n % 64) % 64
/-- A list of bytes with the bytes that are added to it. -/
def padL (l : List UInt8) : List UInt8 := l ++ 128 :: (List.replicate (zerosN l.length) 0 ++ be8 l.length)
theorem padL_len (l : List UInt8) : (padL l).length = (l.length / 64 + 1 + (if l.length % 64 < 56 then 0 else 1)) * 64 := by
  simp only [padL, be8, zerosN, List.length_append, List.length_cons, List.length_replicate, List.length_map, List.length_range]
  split <;> omega
def nBlk (l : List UInt8) : Nat := l.length / 64 + 1 + (if l.length % 64 < 56 then 0 else 1)
def blkAt (l : List UInt8) (k : Nat) : List UInt8 := ((padL l).drop (k * 64)).take 64
theorem blkAt_len (l : List UInt8) (k : Nat) (h : k < nBlk l) : (blkAt l k).length = 64 := by
  have h1 : (padL l).length = nBlk l * 64 := padL_len l
  unfold blkAt
  rw [List.length_take, List.length_drop, h1]
  omega
def shaS (l : List UInt8) : Nat → S8
  | 0 => s8init
  | k + 1 => compr (shaS l k) (blkAt l k)
def outB (ws : List Nat) (i : Nat) : UInt8 := UInt8.ofNat (wAt ws (i / 4) / 2 ^ (24 - 8 * (i % 4)))
def outL (ws : List Nat) (n : Nat) : List UInt8 := (List.range n).map (outB ws)
def shaL (l : List UInt8) : List UInt8 := outL (shaS l (nBlk l)).list 32
theorem shaL_len (l : List UInt8) : (shaL l).length = 32 := by simp [shaL, outL]
end Onair
namespace Onair
def shaB (s : ByteArray) : ByteArray := ⟨(shaL s.data.toList).toArray⟩
def nodeS (a b : ByteArray) : ByteArray := ⟨(1 :: (a.data.toList ++ b.data.toList)).toArray⟩
def leafS (s : ByteArray) : ByteArray := ⟨(0 :: s.data.toList).toArray⟩
def chainS (a b : ByteArray) : ByteArray := ⟨(2 :: (a.data.toList ++ b.data.toList)).toArray⟩
def leafB (s : ByteArray) : ByteArray := shaB (leafS s)
def nodeB (a b : ByteArray) : ByteArray := shaB (nodeS a b)
def chainB (a b : ByteArray) : ByteArray := shaB (chainS a b)
theorem shaB_size (s : ByteArray) : (shaB s).size = 32 := by
  show (shaL s.data.toList).toArray.size = 32
  rw [List.size_toArray, shaL_len]
theorem leafB_size (s : ByteArray) : (leafB s).size = 32 := shaB_size _
theorem nodeB_size (a b : ByteArray) : (nodeB a b).size = 32 := shaB_size _
theorem ba_ext {a b : ByteArray} (h : a.data.toList = b.data.toList) : a = b := by
  cases a; cases b
  simp at h
  rw [h]
/-- The greatest power of two that is less than n, which is at least 2. -/
def splitN (n : Nat) : Nat := 2 ^ (n - 1).log2
theorem splitN_pos (n : Nat) : 0 < splitN n := Nat.two_pow_pos _
theorem splitN_lt (n : Nat) (h : 2 ≤ n) : splitN n < n := by
  have := Nat.log2_self_le (n := n - 1) (by omega)
  unfold splitN
  omega
def emptyB : ByteArray := ⟨#[]⟩
def rootF : Nat → List ByteArray → ByteArray
  | 0, _ => shaB emptyB
  | f + 1, l => if l.length = 0 then shaB emptyB else if l.length = 1 then leafB (l.headD emptyB) else nodeB (rootF f (l.take (splitN l.length))) (rootF f (l.drop (splitN l.length)))
def rootL (l : List ByteArray) : ByteArray := rootF l.length l
theorem split_lens (l : List ByteArray) (h : 2 ≤ l.length) : (l.take (splitN l.length)).length = splitN l.length ∧ (l.drop (splitN l.length)).length = l.length - splitN l.length := by
  have := splitN_lt l.length h
  rw [List.length_take, List.length_drop]
  exact ⟨by omega, rfl⟩
theorem rootF_any : ∀ (f g : Nat) (l : List ByteArray), l.length ≤ f → l.length ≤ g → rootF f l = rootF g l
  | 0, 0, l, _, _ => rfl
  | 0, g + 1, l, hf, _ => by simp [rootF, show l.length = 0 by omega]
  | f + 1, 0, l, _, hg => by simp [rootF, show l.length = 0 by omega]
  | f + 1, g + 1, l, hf, hg => by
    unfold rootF
    split
    · rfl
    · split
      · rfl
      · have h2 : 2 ≤ l.length := by omega
        have := splitN_lt l.length h2
        have := splitN_pos l.length
        obtain ⟨h3, h4⟩ := split_lens l h2
        rw [rootF_any f g _ (by omega) (by omega), rootF_any f g (l.drop _) (by omega) (by omega)]
theorem rootL_two (l : List ByteArray) (h : 2 ≤ l.length) : rootL l = nodeB (rootL (l.take (splitN l.length))) (rootL (l.drop (splitN l.length))) := by
  have := splitN_lt l.length h
  have := splitN_pos l.length
  obtain ⟨h3, h4⟩ := split_lens l h
  have e : rootL l = rootF (l.length - 1 + 1) l := by unfold rootL; rw [Nat.sub_add_cancel (by omega)]
  rw [e]
  unfold rootF
  rw [if_neg (by omega), if_neg (by omega)]
  unfold rootL
  rw [rootF_any (l.length - 1) _ (l.take (splitN l.length)) (by omega) (Nat.le_refl _), rootF_any (l.length - 1) _ (l.drop (splitN l.length)) (by omega) (Nat.le_refl _)]
theorem rootL_size (l : List ByteArray) : (rootL l).size = 32 := by
  unfold rootL
  cases l.length with
  | zero => exact shaB_size _
  | succ n =>
    unfold rootF
    split
    · exact shaB_size _
    · split
      · exact leafB_size _
      · exact nodeB_size _ _
def proofF : Nat → List ByteArray → Nat → List ByteArray
  | 0, _, _ => []
  | f + 1, l, i => if l.length ≤ 1 then [] else if i < splitN l.length then proofF f (l.take (splitN l.length)) i ++ [rootL (l.drop (splitN l.length))] else proofF f (l.drop (splitN l.length)) (i - splitN l.length) ++ [rootL (l.take (splitN l.length))]
def proofL (l : List ByteArray) (i : Nat) : List ByteArray := proofF l.length l i
theorem proofF_any : ∀ (f g : Nat) (l : List ByteArray) (i : Nat), l.length ≤ f → l.length ≤ g → proofF f l i = proofF g l i
  | 0, 0, l, _, _, _ => rfl
  | 0, g + 1, l, i, hf, _ => by simp [proofF, show l.length ≤ 1 by omega]
  | f + 1, 0, l, i, _, hg => by simp [proofF, show l.length ≤ 1 by omega]
  | f + 1, g + 1, l, i, hf, hg => by
    unfold proofF
    split
    · rfl
    · have h2 : 2 ≤ l.length := by omega
      have := splitN_lt l.length h2
      have := splitN_pos l.length
      obtain ⟨h3, h4⟩ := split_lens l h2
      rw [proofF_any f g (l.take _) i (by omega) (by omega), proofF_any f g (l.drop _) (i - splitN l.length) (by omega) (by omega)]
theorem proofL_one (l : List ByteArray) (i : Nat) (h : l.length ≤ 1) : proofL l i = [] := by
  unfold proofL
  match l, h with
  | [], _ => rfl
  | [x], _ => simp [proofF]
theorem proofL_two (l : List ByteArray) (i : Nat) (h : 2 ≤ l.length) : proofL l i = if i < splitN l.length then proofL (l.take (splitN l.length)) i ++ [rootL (l.drop (splitN l.length))] else proofL (l.drop (splitN l.length)) (i - splitN l.length) ++ [rootL (l.take (splitN l.length))] := by
  have := splitN_lt l.length h
  have := splitN_pos l.length
  obtain ⟨h3, h4⟩ := split_lens l h
  have e : proofL l i = proofF (l.length - 1 + 1) l i := by unfold proofL; rw [Nat.sub_add_cancel (by omega)]
  rw [e]
  unfold proofF
  rw [if_neg (by omega)]
  unfold proofL
  rw [proofF_any (l.length - 1) _ (l.take (splitN l.length)) i (by omega) (Nat.le_refl _), proofF_any (l.length - 1) _ (l.drop (splitN l.length)) _ (by omega) (Nat.le_refl _)]
/-- The value of a proof, its last entry first. -/
def valR : List ByteArray → Nat → Nat → ByteArray → ByteArray × Bool
  | [], n, _, s => if n = 1 then (leafB s, true) else (emptyB, false)
  | x :: q, n, i, s => if n = 1 then (leafB s, false) else if i < splitN n then (nodeB (valR q (splitN n) i s).1 x, (valR q (splitN n) i s).2) else (nodeB x (valR q (n - splitN n) (i - splitN n) s).1, (valR q (n - splitN n) (i - splitN n) s).2)
def digB (l : List ByteArray) : Bool := l.all fun s => s.size == 32
def verB (root : ByteArray) (n i : Nat) (s : ByteArray) (p : List ByteArray) : Bool := decide (i < n) && digB p && (valR p.reverse n i s).2 && decide ((valR p.reverse n i s).1 = root)
/-- The number of binary digits. -/
def binN (n : Nat) : Nat := if n = 0 then 0 else n.log2 + 1
def extF : Nat → List ByteArray → Nat → Bool → List ByteArray
  | 0, l, _, whole => if whole then [] else [rootL l]
  | f + 1, l, m, whole => if m = l.length then (if whole then [] else [rootL l]) else if m ≤ splitN l.length then extF f (l.take (splitN l.length)) m whole ++ [rootL (l.drop (splitN l.length))] else extF f (l.drop (splitN l.length)) (m - splitN l.length) false ++ [rootL (l.take (splitN l.length))]
def extL (l : List ByteArray) (m : Nat) (whole : Bool) : List ByteArray := extF l.length l m whole
/-- The two values of an extension, its last entry first. -/
def valsR : List ByteArray → ByteArray → Nat → Nat → Bool → ByteArray × ByteArray × Bool
  | [], old, m, n, whole => if m = n then (if whole then (old, old, true) else (emptyB, emptyB, false)) else (emptyB, emptyB, false)
  | x :: q, old, m, n, whole => if m = n then (if whole then (old, old, false) else if q = [] then (x, x, true) else (emptyB, emptyB, false))
    else if m ≤ splitN n then ((valsR q old m (splitN n) whole).1, nodeB (valsR q old m (splitN n) whole).2.1 x, (valsR q old m (splitN n) whole).2.2)
    else (nodeB x (valsR q old (m - splitN n) (n - splitN n) false).1, nodeB x (valsR q old (m - splitN n) (n - splitN n) false).2.1, (valsR q old (m - splitN n) (n - splitN n) false).2.2)
def verXB (old : ByteArray) (m : Nat) (root : ByteArray) (n : Nat) (p : List ByteArray) : Bool :=
  decide (m ≤ n) && (old.size == 32) && (root.size == 32) && digB p &&
    (if m = 0 then decide (p.length = 0) && decide (old = shaB emptyB) else (valsR p.reverse old m n true).2.2 && decide ((valsR p.reverse old m n true).1 = old) && decide ((valsR p.reverse old m n true).2.1 = root))
end Onair
