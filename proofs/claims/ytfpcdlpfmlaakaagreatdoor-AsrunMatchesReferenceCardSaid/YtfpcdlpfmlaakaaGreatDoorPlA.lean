/-
  Plain definitions and laws for package asrun: records, their encoding, the stored list, scanning it. No program in sight.
  Plain definitions and laws for asrun.Extend: the runs name exactly what was shown.
-/
import Derived.Test.YtfpcdlpfmlaakaaGreatDoorPlW
import Derived.Test.YtfpcdlpfmlaakaaGreatDoorPlD
set_option linter.unusedVariables false
set_option linter.unusedSimpArgs false
namespace Onair
structure Rec where
  ch : Int
  rg : Int
  fr : Int
  fs : Int
  it : Int
  ix : Int
def Rec.list (r : Rec) : List Int := [r.ch, r.rg, r.fr, r.fs, r.it, r.ix]
def validR (r : Rec) : Bool := decide (0 ≤ r.ch ∧ r.ch < 40 ∧ 0 ≤ r.rg ∧ r.rg < 8 ∧ 0 ≤ r.fr ∧ r.fr ≤ 100000000 ∧ 1 ≤ r.fs ∧ r.fs ≤ 100000001 - r.fr ∧ 0 ≤ r.it ∧ r.it ≤ 4611686018427387903 ∧ 0 ≤ r.ix ∧ r.ix ≤ 100000000 ∧ (r.it = 0 → r.ix = 0))
def numsL (l : List Int) : List UInt8 := l.flatMap putL
def encL (r : Rec) : List UInt8 := numsL r.list
def encB (r : Rec) : ByteArray := ⟨(encL r).toArray⟩
theorem numsL_append (a b : List Int) : numsL (a ++ b) = numsL a ++ numsL b := by simp [numsL]
theorem numsL_one (x : Int) : numsL [x] = putL x := by simp [numsL]
theorem numsL_len (l : List Int) : (numsL l).length ≤ 9 * l.length := by
  induction l with
  | nil => simp [numsL]
  | cons x r ih =>
    have := putL_len x
    simp only [numsL, List.flatMap_cons, List.length_append, List.length_cons] at ih ⊢
    omega
theorem encL_len (r : Rec) : (encL r).length ≤ 54 := numsL_len r.list
theorem encB_data (r : Rec) : (encB r).data.toList = encL r := by simp [encB]
theorem encB_size (r : Rec) : (encB r).size ≤ 54 := by
  have := encL_len r
  show (encL r).toArray.size ≤ 54
  simpa using this
theorem validR_ok {r : Rec} (h : validR r = true) : ∀ x ∈ r.list, okInt x = true := by
  have h := of_decide_eq_true h
  intro x hx
  rw [okInt_iff]
  simp only [Rec.list, List.mem_cons, List.not_mem_nil, or_false] at hx
  rcases hx with rfl | rfl | rfl | rfl | rfl | rfl <;> omega
def decS (s : List UInt8) : Nat → Option (List Int × Int)
  | 0 => some ([], 0)
  | k + 1 => match decS s k with
    | none => none
    | some (l, a) => if (intR s a).2.2 = 0 then some (l ++ [(intR s a).1], (intR s a).2.1) else none
def recOf (l : List Int) : Rec := ⟨l.getD 0 0, l.getD 1 0, l.getD 2 0, l.getD 3 0, l.getD 4 0, l.getD 5 0⟩
theorem list_recOf (l : List Int) (h : l.length = 6) : (recOf l).list = l := by
  match l, h with
  | [_, _, _, _, _, _], _ => rfl
def decP (s : List UInt8) : Option Rec := match decS s 6 with
  | none => none
  | some (l, a) => if a = (s.length : Int) ∧ validR (recOf l) = true then some (recOf l) else none
theorem decS_none (s : List UInt8) (k n : Nat) (h : decS s k = none) (hn : k ≤ n) : decS s n = none := by
  obtain ⟨d, rfl⟩ := Nat.le.dest hn
  clear hn
  induction d with
  | zero => exact h
  | succ d ih => show decS s (k + d + 1) = none; unfold decS; rw [ih]
theorem decS_some (s : List UInt8) (k : Nat) (l : List Int) (a : Int) (h : decS s k = some (l, a)) : l.length = k ∧ (∀ x ∈ l, okInt x = true) ∧ a = ((numsL l).length : Int) ∧ s.take (numsL l).length = numsL l ∧ (numsL l).length ≤ s.length := by
  induction k generalizing l a with
  | zero =>
    simp only [decS, Option.some.injEq, Prod.mk.injEq] at h
    obtain ⟨rfl, rfl⟩ := h
    exact ⟨rfl, fun x hx => by simp at hx, rfl, rfl, Nat.zero_le _⟩
  | succ k ih =>
    unfold decS at h
    match hk : decS s k with
    | none => rw [hk] at h; simp at h
    | some (l0, a0) =>
      rw [hk] at h
      dsimp only at h
      by_cases he : (intR s a0).2.2 = 0
      · rw [if_pos he] at h
        simp only [Option.some.injEq, Prod.mk.injEq] at h
        obtain ⟨rfl, rfl⟩ := h
        obtain ⟨h1, h2, h3, h4, h5⟩ := ih l0 a0 hk
        subst h3
        obtain ⟨b1, b2, b3⟩ := intR_back s _ he
        have hok := intR_ok he
        have e : numsL (l0 ++ [(intR s ((numsL l0).length : Int)).1]) = numsL l0 ++ putL (intR s ((numsL l0).length : Int)).1 := by simp [numsL]
        refine ⟨by simp [h1], ?_, ?_, ?_, ?_⟩
        · intro x hx
          rcases List.mem_append.1 hx with hx | hx
          · exact h2 x hx
          · simp only [List.mem_singleton] at hx; subst hx; exact b1
        · rw [b2, e, List.length_append]; omega
        · rw [e, List.length_append, List.take_add, h4, b3]
        · rw [e, List.length_append]; omega
      · rw [if_neg he] at h; simp at h
theorem decP_back {s : List UInt8} {r : Rec} (h : decP s = some r) : s = encL r ∧ validR r = true := by
  unfold decP at h
  match hk : decS s 6 with
  | none => rw [hk] at h; simp at h
  | some (l, a) =>
    rw [hk] at h
    dsimp only at h
    by_cases hc : a = (s.length : Int) ∧ validR (recOf l) = true
    · rw [if_pos hc] at h
      simp only [Option.some.injEq] at h
      subst h
      obtain ⟨h1, h2, h3, h4, h5⟩ := decS_some s 6 l a hk
      refine ⟨?_, hc.2⟩
      unfold encL
      rw [list_recOf l h1]
      have : s.length = (numsL l).length := by omega
      rw [← this, List.take_length] at h4
      exact h4
    · rw [if_neg hc] at h; simp at h
theorem decS_nums (l : List Int) (hl : ∀ x ∈ l, okInt x = true) (k : Nat) (hk : k ≤ l.length) : decS (numsL l) k = some (l.take k, ((numsL (l.take k)).length : Int)) := by
  induction k with
  | zero => rfl
  | succ k ih =>
    unfold decS
    rw [ih (by omega)]
    dsimp only
    have hx := List.getElem?_eq_getElem (show k < l.length by omega)
    have ht : l.take (k + 1) = l.take k ++ [l[k]] := List.take_succ_eq_append_getElem (by omega)
    have e : numsL l = numsL (l.take k) ++ putL l[k] ++ numsL (l.drop (k + 1)) := by
      have e0 : numsL (l.take (k + 1) ++ l.drop (k + 1)) = numsL (l.take k) ++ putL l[k] ++ numsL (l.drop (k + 1)) := by
        rw [numsL_append, ht, numsL_append, numsL_one]
      rwa [List.take_append_drop] at e0
    have hp := intR_put (numsL (l.take k)) (numsL (l.drop (k + 1))) l[k] (hl _ (List.getElem_mem _))
    rw [← e] at hp
    rw [hp, if_pos rfl, ht, numsL_append, numsL_one, List.length_append]
    simp
theorem decP_enc {r : Rec} (h : validR r = true) : decP (encL r) = some r := by
  unfold decP
  have := decS_nums r.list (validR_ok h) 6 (Nat.le_refl _)
  unfold encL
  rw [this]
  dsimp only
  rw [if_pos ⟨rfl, h⟩]
  rfl
/-- 32 zero bytes. -/
def zero32 : ByteArray := ⟨(List.replicate 32 0).toArray⟩
def storedL (head : ByteArray) (r : Rec) : List UInt8 := 1 :: (putSL (encL r) ++ (chainB head (encB r)).data.toList)
def headF (head : ByteArray) (l : List Rec) : ByteArray := l.foldl (fun h r => chainB h (encB r)) head
def logL (head : ByteArray) : List Rec → List UInt8
  | [] => []
  | r :: l => storedL head r ++ logL (chainB head (encB r)) l
/-- The entry of a record, head being that of the records up to it. -/
def entB (head : ByteArray) (e : ByteArray) : ByteArray := shaB ⟨([115, 97, 108, 116] ++ head.data.toList).toArray⟩ ++ e
def entF (head : ByteArray) : List Rec → List ByteArray
  | [] => []
  | r :: l => entB (chainB head (encB r)) (encB r) :: entF (chainB head (encB r)) l
theorem headF_snoc (h : ByteArray) (l : List Rec) (r : Rec) : headF h (l ++ [r]) = chainB (headF h l) (encB r) := by simp [headF]
theorem headF_append (h : ByteArray) (l m : List Rec) : headF h (l ++ m) = headF (headF h l) m := by simp [headF]
theorem logL_append (h : ByteArray) (l m : List Rec) : logL h (l ++ m) = logL h l ++ logL (headF h l) m := by
  induction l generalizing h with
  | nil => rfl
  | cons r l ih => simp only [List.cons_append, logL, ih, List.append_assoc]; rfl
theorem entF_append (h : ByteArray) (l m : List Rec) : entF h (l ++ m) = entF h l ++ entF (headF h l) m := by
  induction l generalizing h with
  | nil => rfl
  | cons r l ih => simp only [List.cons_append, entF, ih]; rfl
theorem entF_len (h : ByteArray) (l : List Rec) : (entF h l).length = l.length := by
  induction l generalizing h with
  | nil => rfl
  | cons r l ih => simp only [entF, List.length_cons, ih]
theorem logL_snoc (h : ByteArray) (l : List Rec) (r : Rec) : logL h (l ++ [r]) = logL h l ++ storedL (headF h l) r := by rw [logL_append]; simp [logL]
theorem entF_snoc (h : ByteArray) (l : List Rec) (r : Rec) : entF h (l ++ [r]) = entF h l ++ [entB (headF h (l ++ [r])) (encB r)] := by rw [entF_append, headF_snoc]; rfl
theorem chainB_size (a b : ByteArray) : (chainB a b).size = 32 := shaB_size _
theorem zero32_size : zero32.size = 32 := by decide
theorem headF_size (h : ByteArray) (l : List Rec) (hh : h.size = 32) : (headF h l).size = 32 := by
  induction l generalizing h with
  | nil => exact hh
  | cons r l ih => exact ih _ (chainB_size _ _)
theorem blen' (s : ByteArray) : s.data.toList.length = s.size := by simp
theorem encSL_len (r : Rec) : (putSL (encL r)).length ≤ 63 ∧ (encL r).length ≤ (putSL (encL r)).length := by
  have := encL_len r
  have h := putSL_eq (encL r) (by omega)
  have h2 := putSL_len (encL r) (by omega)
  refine ⟨by omega, by rw [h, List.length_append]; omega⟩
theorem storedL_len (h : ByteArray) (r : Rec) : (storedL h r).length = (putSL (encL r)).length + 33 := by
  simp only [storedL, List.length_cons, List.length_append, blen', chainB_size]
theorem storedL_bd (h : ByteArray) (r : Rec) : 33 ≤ (storedL h r).length ∧ (storedL h r).length ≤ 96 := by
  have := encSL_len r
  rw [storedL_len]
  omega
theorem logL_bd (h : ByteArray) (l : List Rec) : (logL h l).length ≤ 96 * l.length ∧ 33 * l.length ≤ (logL h l).length := by
  induction l generalizing h with
  | nil => simp [logL]
  | cons r l ih =>
    have h1 := storedL_bd h r
    have h2 := ih (chainB h (encB r))
    simp only [logL, List.length_append, List.length_cons]
    omega
/-- The record stored at an offset, the head behind it, its end. -/
def readP (c : List UInt8) (a : Nat) (head : ByteArray) : Option (Rec × ByteArray × Nat) :=
  if c[a]? = some 1 ∧ (strR c ((a + 1 : Nat) : Int)).2.2 = 0 ∧ (strR c ((a + 1 : Nat) : Int)).2.1 + 32 ≤ (c.length : Int) then
    match decP (strR c ((a + 1 : Nat) : Int)).1 with
    | none => none
    | some r => if (c.drop (strR c ((a + 1 : Nat) : Int)).2.1.toNat).take 32 = (chainB head (encB r)).data.toList then some (r, chainB head (encB r), (strR c ((a + 1 : Nat) : Int)).2.1.toNat + 32) else none
  else none
theorem readP_back {c : List UInt8} {a : Nat} {head h : ByteArray} {r : Rec} {e : Nat} (hr : readP c a head = some (r, h, e)) :
    validR r = true ∧ h = chainB head (encB r) ∧ e = a + (storedL head r).length ∧ (c.drop a).take (storedL head r).length = storedL head r ∧ e ≤ c.length := by
  unfold readP at hr
  split at hr
  · rename_i hc
    obtain ⟨h1, h2, h3⟩ := hc
    split at hr
    · simp at hr
    · rename_i r' hd
      split at hr
      · rename_i hx
        simp only [Option.some.injEq, Prod.mk.injEq] at hr
        obtain ⟨rfl, rfl, rfl⟩ := hr
        obtain ⟨d1, d2⟩ := decP_back hd
        obtain ⟨s1, s2, s3, s4⟩ := strR_back c (a + 1) h2
        rw [d1] at s2 s3
        have hal : a < c.length := (List.getElem?_eq_some_iff.1 h1).1
        have hdr : c.drop a = 1 :: c.drop (a + 1) := by
          rw [List.drop_eq_getElem_cons hal]
          rw [List.getElem?_eq_getElem hal] at h1
          rw [Option.some.inj h1]
        have hsl := storedL_len head r'
        rw [s2] at hx h3 ⊢
        have hn : (((a + 1 : Nat) : Int) + ((putSL (encL r')).length : Int)).toNat = a + 1 + (putSL (encL r')).length := by omega
        rw [hn] at hx ⊢
        refine ⟨d2, rfl, by omega, ?_, by omega⟩
        rw [hsl, hdr, show (putSL (encL r')).length + 33 = ((putSL (encL r')).length + 32) + 1 from rfl, List.take_succ_cons, List.take_add, s3, List.drop_drop, hx]
        rfl
      · simp at hr
  · simp at hr
theorem readP_mk (c : List UInt8) (p q : List UInt8) (head : ByteArray) (r : Rec) (hv : validR r = true) (hc : c = p ++ storedL head r ++ q) : readP c p.length head = some (r, chainB head (encB r), p.length + (storedL head r).length) := by
  have hel := encL_len r
  have hsl := storedL_len head r
  have e1 : c = (p ++ [1]) ++ putSL (encL r) ++ ((chainB head (encB r)).data.toList ++ q) := by rw [hc]; simp [storedL]
  have hs := strR_put (p ++ [1]) ((chainB head (encB r)).data.toList ++ q) (encL r) (by omega)
  rw [← e1] at hs
  rw [List.length_append, List.length_singleton] at hs
  have hlen : c.length = p.length + 1 + (putSL (encL r)).length + 32 + q.length := by rw [e1]; simp only [List.length_append, List.length_singleton, blen', chainB_size]; omega
  unfold readP
  rw [hs]
  dsimp only
  rw [if_pos ⟨by rw [hc]; simp [storedL], rfl, by omega⟩, decP_enc hv]
  dsimp only
  rw [show (((p.length + 1 : Nat) : Int) + ((putSL (encL r)).length : Int)).toNat = (p ++ [1] ++ putSL (encL r)).length from by simp only [List.length_append, List.length_singleton]; omega]
  rw [if_pos]
  · congr 2
    rw [hsl]
    simp only [List.length_append, List.length_singleton, Prod.mk.injEq, true_and]
    omega
  · conv => lhs; rw [e1]
    rw [List.drop_left, List.take_left' (by rw [blen', chainB_size])]
/-- The records from an offset on, and whether the list ends in damage. -/
def scanF : Nat → List UInt8 → Nat → ByteArray → List Rec × Bool
  | 0, _, _, _ => ([], false)
  | f + 1, c, a, head => if c.getD a 0 = 0 then ([], false) else match readP c a head with
    | none => ([], true)
    | some (r, h, e) => (r :: (scanF f c e h).1, (scanF f c e h).2)
def scanP (c : List UInt8) : List Rec × Bool := scanF (c.length + 1) c 0 zero32
theorem scanF_back : ∀ (f : Nat) (c : List UInt8) (a : Nat) (head : ByteArray), (∀ r ∈ (scanF f c a head).1, validR r = true) ∧ (c.drop a).take (logL head (scanF f c a head).1).length = logL head (scanF f c a head).1 ∧ ((scanF f c a head).1 = [] ∨ a + (logL head (scanF f c a head).1).length ≤ c.length)
  | 0, c, a, head => ⟨fun r hr => by simp [scanF] at hr, by simp [scanF, logL], .inl rfl⟩
  | f + 1, c, a, head => by
    unfold scanF
    split
    · exact ⟨fun r hr => by simp at hr, by simp [logL], .inl rfl⟩
    · match hr : readP c a head with
      | none => exact ⟨fun r hr => by simp at hr, by simp [logL], .inl rfl⟩
      | some (r, h, e) =>
        dsimp only
        obtain ⟨v, rfl, he, ht, hle⟩ := readP_back hr
        obtain ⟨i1, i2, i3⟩ := scanF_back f c e (chainB head (encB r))
        refine ⟨?_, ?_, .inr ?_⟩
        · intro x hx
          rcases List.mem_cons.1 hx with rfl | hx
          · exact v
          · exact i1 x hx
        · show (c.drop a).take (storedL head r ++ logL (chainB head (encB r)) _).length = storedL head r ++ logL (chainB head (encB r)) _
          rw [List.length_append, List.take_add, ht, List.drop_drop, ← he, i2]
        · show a + (storedL head r ++ logL (chainB head (encB r)) _).length ≤ c.length
          rw [List.length_append]
          rcases i3 with i3 | i3
          · rw [i3]; simp only [logL, List.length_nil]; omega
          · omega
theorem scanF_mk : ∀ (l : List Rec) (f : Nat) (c p q : List UInt8) (head : ByteArray), (∀ r ∈ l, validR r = true) → c = p ++ logL head l ++ q → l.length < f → q.getD 0 0 = 0 → scanF f c p.length head = (l, false)
  | [], f, c, p, q, head, _, hc, hf, hq => by
    obtain ⟨g, rfl⟩ : ∃ g, f = g + 1 := ⟨f - 1, by simp at hf; omega⟩
    unfold scanF
    rw [if_pos]
    rw [hc]
    simp only [logL, List.append_nil]
    rw [List.getD_eq_getElem?_getD, List.getElem?_append_right (Nat.le_refl _), Nat.sub_self, ← List.getD_eq_getElem?_getD]
    exact hq
  | r :: l, f, c, p, q, head, hv, hc, hf, hq => by
    obtain ⟨g, rfl⟩ : ∃ g, f = g + 1 := ⟨f - 1, by simp at hf; omega⟩
    have hr := readP_mk c p (logL (chainB head (encB r)) l ++ q) head r (hv r (List.mem_cons_self ..)) (by rw [hc]; simp [logL])
    have hi := scanF_mk l g c (p ++ storedL head r) q (chainB head (encB r)) (fun x hx => hv x (List.mem_cons_of_mem _ hx)) (by rw [hc]; simp [logL]) (by simp at hf; omega) hq
    rw [List.length_append] at hi
    unfold scanF
    rw [if_neg, hr]
    · dsimp only
      rw [hi]
    · rw [hc]
      simp [storedL, logL]
end Onair
namespace Onair
def rec0 : Rec := ⟨0, 0, 0, 0, 0, 0⟩
def matR (r : Rec) (ch rg : Int) : Bool := decide (r.ch = ch ∧ r.rg = rg)
/-- The last of the first j records that is of a region of a channel. -/
def lastAt (l : List Rec) (ch rg : Int) : Nat → Option Nat
  | 0 => none
  | j + 1 => if matR (l.getD j rec0) ch rg = true then some j else lastAt l ch rg j
def fitsR (r : Rec) (fr it ix : Int) : Bool := decide (r.fr + r.fs = fr ∧ r.it = it ∧ (r.it = 0 ∨ r.ix + r.fs = ix))
def newR (ch rg fr it ix : Int) : Rec := ⟨ch, rg, fr, 1, it, if it = 0 then 0 else ix⟩
def moreR (r : Rec) : Rec := { r with fs := r.fs + 1 }
def extendL (l : List Rec) (ch rg fr it ix : Int) : List Rec :=
  match lastAt l ch rg l.length with
  | none => l ++ [newR ch rg fr it ix]
  | some i => if fitsR (l.getD i rec0) fr it ix = true then l.set i (moreR (l.getD i rec0)) else l ++ [newR ch rg fr it ix]
theorem lastAt_succ (l : List Rec) (ch rg : Int) (j : Nat) : lastAt l ch rg (j + 1) = if matR (l.getD j rec0) ch rg = true then some j else lastAt l ch rg j := rfl
def sumFs (l : List Rec) : Int := (l.map (·.fs)).sum
/-- What region g shows at frame f. -/
abbrev ShowS := Nat → Nat → Int × Int
structure ShowOk (S : ShowS) : Prop where
  lo : ∀ g f, 0 ≤ (S g f).1
  hi : ∀ g f, (S g f).1 ≤ 1000
  ix0 : ∀ g f, 0 ≤ (S g f).2
  ix1 : ∀ g f, (S g f).2 ≤ 1000
  zero : ∀ g f, (S g f).1 = 0 → (S g f).2 = 0
/-- A record is a run of region g within the first n frames. -/
structure RunOk (S : ShowS) (n : Nat → Nat) (r : Rec) : Prop where
  ch : r.ch = 2
  rg : ∃ g p q : Nat, g < 2 ∧ r.rg = (g : Int) ∧ r.fr = 10 + (p : Int) ∧ r.fs = (q : Int) ∧ 1 ≤ q ∧ p + q ≤ n g ∧ ∀ k, k < q → S g (p + k) = (r.it, if r.it = 0 then 0 else r.ix + (k : Int))
  it : 0 ≤ r.it ∧ r.it ≤ 1000
  ix : 0 ≤ r.ix ∧ r.ix ≤ 1000
  zero : r.it = 0 → r.ix = 0
structure RunsOk (S : ShowS) (n : Nat → Nat) (l : List Rec) : Prop where
  each : ∀ r ∈ l, RunOk S n r
  sum : sumFs l = ((n 0 + n 1 : Nat) : Int)
  last : ∀ g : Nat, g < 2 → (n g = 0 ∧ lastAt l 2 (g : Int) l.length = none) ∨ (0 < n g ∧ ∃ i, lastAt l 2 (g : Int) l.length = some i ∧ (l.getD i rec0).fr + (l.getD i rec0).fs = 10 + (n g : Int))
/-- A new run begins. -/
def newRun (S : ShowS) (g f : Nat) : Bool := decide (f = 0 ∨ (S g f).1 ≠ (S g (f - 1)).1 ∨ ((S g f).1 ≠ 0 ∧ (S g f).2 ≠ (S g (f - 1)).2 + 1))
def upN (n : Nat → Nat) (g : Nat) : Nat → Nat := fun k => if k = g then n g + 1 else n k
theorem upN_le (n : Nat → Nat) (g k : Nat) : n k ≤ upN n g k := by
  unfold upN
  split
  · rename_i h; rw [h]; omega
  · exact Nat.le_refl _
theorem RunOk.up {S : ShowS} {n : Nat → Nat} {r : Rec} (h : RunOk S n r) (g : Nat) : RunOk S (upN n g) r := by
  obtain ⟨k, p, q, h1, h2, h3, h4, h5, h6, h7⟩ := h.rg
  have := upN_le n g k
  exact ⟨h.ch, ⟨k, p, q, h1, h2, h3, h4, h5, by omega, h7⟩, h.it, h.ix, h.zero⟩
theorem mat_iff (r : Rec) (ch rg : Int) : matR r ch rg = true ↔ r.ch = ch ∧ r.rg = rg := by unfold matR; exact decide_eq_true_iff
end Onair
