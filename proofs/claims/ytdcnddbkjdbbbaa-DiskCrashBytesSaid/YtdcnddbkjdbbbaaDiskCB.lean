/-
  DiskCrashBytes, in plain words: which writes are kept, the last of them, the content that is expected after the crash.
-/
import Derived.Test.YtdcnddbkjdbbbaaDiskLawD
set_option linter.unusedVariables false
set_option linter.unusedSimpArgs false
namespace Go.Proofs.Ytdcnddbkjdbbbaa
open Go.RowKit
/-- The first content. -/
def initL (n : Nat) : List UInt8 := (List.range n).map fun i => UInt8.ofNat (48 + i % 10)
def initP (n j : Nat) : List UInt8 := (List.range n).map fun i => if i < j then UInt8.ofNat (48 + i % 10) else 0
theorem initL_len (n : Nat) : (initL n).length = n := by simp [initL]
theorem initP_len (n j : Nat) : (initP n j).length = n := by simp [initP]
theorem initP_zero (n : Nat) : initP n 0 = zeroL n := by
  apply List.ext_getElem
  · simp [initP, zeroL]
  · intro i h1 h2
    simp [initP, zeroL]
theorem initP_full (n : Nat) : initP n n = initL n := by
  apply List.ext_getElem
  · simp [initP, initL]
  · intro i h1 h2
    have : i < n := by simpa [initL] using h2
    simp [initP, initL, this]
theorem initP_step (n j : Nat) (h : j < n) : (initP n j).set j (UInt8.ofNat (48 + j % 10)) = initP n (j + 1) := by
  apply List.ext_getElem
  · simp [initP]
  · intro i h1 h2
    rw [List.getElem_set]
    by_cases e : j = i
    · subst e
      simp [initP]
    · rw [if_neg e]
      simp only [initP, List.getElem_map, List.getElem_range]
      by_cases h3 : i < j
      · rw [if_pos h3, if_pos (by omega)]
      · rw [if_neg h3, if_neg (by omega)]
theorem digit_nat (j : Nat) : ((UInt8.ofNat (48 + j % 10)).toNat : Int) = 48 + (j : Int) % 10 := by
  have h : j % 10 < 10 := Nat.mod_lt _ (by decide)
  rw [UInt8.toNat_ofNat', Nat.mod_eq_of_lt (by omega)]
  omega
theorem splice_whole (l s : List UInt8) (h : s.length = l.length) : splice l 0 s = s := by
  simp [splice, h]
/-- The numbers of the kept ones among the first j, the last first. -/
def keptL (K : Nat → Bool) : Nat → List Nat
  | 0 => []
  | j + 1 => if K j then j :: keptL K j else keptL K j
def lastB (K : Nat → Bool) : Nat → Int
  | 0 => -1
  | j + 1 => if K j then (j : Int) else lastB K j
theorem lastB_bd (K : Nat → Bool) (j : Nat) : -1 ≤ lastB K j ∧ lastB K j < j := by
  induction j with
  | zero => simp [lastB]
  | succ j ih =>
    unfold lastB
    split
    · omega
    · omega
theorem keptL_mem (K : Nat → Bool) (j i : Nat) : i ∈ keptL K j ↔ i < j ∧ K i = true := by
  induction j with
  | zero => simp [keptL]
  | succ j ih =>
    unfold keptL
    split
    · rename_i hk
      rw [List.mem_cons, ih]
      constructor
      · rintro (rfl | ⟨h1, h2⟩)
        · exact ⟨by omega, hk⟩
        · exact ⟨by omega, h2⟩
      · rintro ⟨h1, h2⟩
        by_cases e : i = j
        · exact .inl e
        · exact .inr ⟨by omega, h2⟩
    · rename_i hk
      rw [ih]
      constructor
      · rintro ⟨h1, h2⟩
        exact ⟨by omega, h2⟩
      · rintro ⟨h1, h2⟩
        refine ⟨?_, h2⟩
        by_cases e : i = j
        · subst e
          exact absurd h2 hk
        · omega
theorem keptL_len (K : Nat → Bool) (j : Nat) : (keptL K j).length ≤ j := by
  induction j with
  | zero => exact Nat.le_refl _
  | succ j ih =>
    unfold keptL
    split
    · simp; omega
    · omega
/-- What of write i goes over, as the law says it. -/
def cutL (last torn : Int) (i : Nat) (s : ByteArray) : ByteArray := if (i : Int) = last ∧ 0 ≤ torn then cutS s torn.toNat else s
theorem cutL_eq (last torn : Int) (i : Nat) (s : ByteArray) : cutL last torn i s = cutW last torn i s := by
  unfold cutL cutW
  by_cases h1 : (i : Int) = last ∧ 0 ≤ torn
  · rw [if_pos h1]
    by_cases h2 : torn < s.size
    · rw [if_pos ⟨h1.1, h1.2, h2⟩]
      unfold cutS
      rw [Nat.min_eq_left (by omega)]
    · rw [if_neg (fun h => h2 h.2.2)]
      unfold cutS
      rw [Nat.min_eq_right (by omega), ByteArray.extract_zero_size]
  · rw [if_neg h1, if_neg (fun h => h1 ⟨h.1, h.2.1⟩)]
theorem cutL_size (last torn : Int) (i : Nat) (s : ByteArray) : (cutL last torn i s).size ≤ s.size := by
  rw [cutL_eq]; exact cutW_size _ _ _ _
/-- The content that the law expects, after j writes. -/
def wantL (K : Nat → Bool) (last torn : Int) (os : Nat → Nat) (ss : Nat → ByteArray) (n : Nat) : Nat → List UInt8
  | 0 => initL n
  | j + 1 => if K j then splice (wantL K last torn os ss n j) (os j) (cutL last torn j (ss j)).data.toList else wantL K last torn os ss n j
theorem wantL_len (K : Nat → Bool) (last torn : Int) (os : Nat → Nat) (ss : Nat → ByteArray) (n : Nat) (h : ∀ i, os i + (ss i).size ≤ n) (j : Nat) : (wantL K last torn os ss n j).length = n := by
  induction j with
  | zero => exact initL_len n
  | succ j ih =>
    unfold wantL
    split
    · rw [splice_len _ _ _ (by rw [blen, ih]; have := h j; have := cutL_size last torn j (ss j); omega), ih]
    · exact ih
def pendL (os : Nat → Nat) (ss : Nat → ByteArray) (j : Nat) : List (Nat × ByteArray) := (List.range j).map fun i => (os i, ss i)
theorem pendL_len (os : Nat → Nat) (ss : Nat → ByteArray) (j : Nat) : (pendL os ss j).length = j := by simp [pendL]
theorem pendL_succ (os : Nat → Nat) (ss : Nat → ByteArray) (j : Nat) : pendL os ss (j + 1) = pendL os ss j ++ [(os j, ss j)] := by simp [pendL, List.range_succ]
theorem crash_want (K : Nat → Bool) (last torn : Int) (os : Nat → Nat) (ss : Nat → ByteArray) (n m : Nat) (sv : List Bool) (hs : ∀ i, i < m → sv[i]?.getD false = K i) (j : Nat) (hj : j ≤ m) : crashL sv last torn (pendL os ss m) (initL n) j = wantL K last torn os ss n j := by
  induction j with
  | zero => rfl
  | succ j ih =>
    unfold crashL wantL
    rw [hs j (by omega), ih (by omega), cutL_eq]
    have : (pendL os ss m)[j]?.getD (0, ⟨#[]⟩) = (os j, ss j) := by
      simp [pendL, show j < m by omega]
    rw [this]
theorem survL_get (ks : Nat → Int) (n c : Nat) (hk : ∀ i, i < c → 0 ≤ ks i ∧ ks i < n) (i : Nat) (hi : i < n) : (survL ks n c)[i]?.getD false = true ↔ ∃ j, j < c ∧ ks j = (i : Int) := by
  induction c with
  | zero => simp [survL, List.getElem?_replicate, hi]
  | succ c ih =>
    have ih := ih (fun i hi => hk i (by omega))
    have hc := hk c (by omega)
    unfold survL
    rw [if_pos hc]
    by_cases e : (ks c).toNat = i
    · subst e
      rw [List.getElem?_set_self (by rw [survL_len]; omega)]
      exact ⟨fun _ => ⟨c, Nat.lt_succ_self c, (Int.toNat_of_nonneg hc.1).symm⟩, fun _ => rfl⟩
    · rw [List.getElem?_set_ne e, ih]
      constructor
      · rintro ⟨j, h1, h2⟩
        exact ⟨j, by omega, h2⟩
      · rintro ⟨j, h1, h2⟩
        by_cases ej : j = c
        · subst ej
          omega
        · exact ⟨j, by omega, h2⟩
theorem lastK_max (ks : Nat → Int) (n c : Nat) (hk : ∀ i, i < c → 0 ≤ ks i ∧ ks i < n) (L : Int) (hL : ∀ i, i < c → ks i ≤ L) (h0 : (c = 0 ∧ L = -1) ∨ ∃ i, i < c ∧ ks i = L) : lastK ks n c = L := by
  have up : ∀ c, (∀ i, i < c → 0 ≤ ks i ∧ ks i < n) → (∀ i, i < c → ks i ≤ lastK ks n c) ∧ (lastK ks n c = -1 ∨ ∃ i, i < c ∧ ks i = lastK ks n c) := by
    intro c
    induction c with
    | zero => exact fun _ => ⟨fun i hi => absurd hi (by omega), .inl rfl⟩
    | succ c ih =>
      intro hk
      obtain ⟨h1, h2⟩ := ih (fun i hi => hk i (by omega))
      have hc := hk c (by omega)
      unfold lastK
      rw [if_pos hc]
      constructor
      · intro i hi
        by_cases e : i = c
        · subst e; omega
        · have := h1 i (by omega); omega
      · right
        by_cases hle : lastK ks n c ≤ ks c
        · exact ⟨c, by omega, by omega⟩
        · rcases h2 with h2 | ⟨i, hi, h2⟩
          · omega
          · exact ⟨i, by omega, by omega⟩
  obtain ⟨h1, h2⟩ := up c hk
  rcases h0 with ⟨rfl, rfl⟩ | ⟨i, hi, e⟩
  · rfl
  · have := h1 i hi
    rcases h2 with h2 | ⟨i2, hi2, e2⟩
    · have := hk i hi; omega
    · have := hL i2 hi2; omega
/-- The numbers as a function of the index. -/
def keptK (K : Nat → Bool) (m : Nat) (i : Nat) : Int := (((keptL K m)[i]?.getD 0 : Nat) : Int)
theorem keptK_spec (K : Nat → Bool) (m i : Nat) (hi : i < (keptL K m).length) : 0 ≤ keptK K m i ∧ keptK K m i < m := by
  have h : (keptL K m)[i] ∈ keptL K m := List.getElem_mem hi
  rw [keptL_mem] at h
  unfold keptK
  rw [List.getElem?_eq_getElem hi]
  simp only [Option.getD_some]
  omega
theorem lastB_spec (K : Nat → Bool) (m : Nat) : (∀ i, i < m → K i = true → (i : Int) ≤ lastB K m) ∧ ((lastB K m = -1 ∧ keptL K m = []) ∨ ∃ i : Nat, i < m ∧ K i = true ∧ (i : Int) = lastB K m) := by
  induction m with
  | zero => exact ⟨fun i hi => absurd hi (by omega), .inl ⟨rfl, rfl⟩⟩
  | succ m ih =>
    obtain ⟨h1, h2⟩ := ih
    unfold lastB keptL
    by_cases hk : K m = true
    · rw [if_pos hk, if_pos hk]
      exact ⟨fun i hi _ => by omega, .inr ⟨m, by omega, hk, rfl⟩⟩
    · rw [if_neg hk, if_neg hk]
      refine ⟨fun i hi hk' => ?_, ?_⟩
      · by_cases e : i = m
        · subst e; exact absurd hk' hk
        · exact h1 i (by omega) hk'
      · rcases h2 with h2 | ⟨i, a, b, c⟩
        · exact .inl h2
        · exact .inr ⟨i, by omega, b, c⟩
/-- The crash gives what the law expects. -/
theorem crashD_want (D : DS) (K : Nat → Bool) (torn : Int) (os : Nat → Nat) (ss : Nat → ByteArray) (n m : Nat) (hp : D.pend = pendL os ss m) (hd : D.dur = initL n) :
    crashD D (keptK K m) (keptL K m).length torn = { lost := false, cut := 0, dur := wantL K (lastB K m) torn os ss n m, vis := wantL K (lastB K m) torn os ss n m, pend := [] } := by
  have hk : ∀ i, i < (keptL K m).length → 0 ≤ keptK K m i ∧ keptK K m i < m := fun i hi => keptK_spec K m i hi
  have hget : ∀ i (hi : i < (keptL K m).length), keptK K m i = (((keptL K m)[i] : Nat) : Int) := fun i hi => by
    unfold keptK
    rw [List.getElem?_eq_getElem hi]
    rfl
  obtain ⟨l1, l2⟩ := lastB_spec K m
  have hl : lastK (keptK K m) m (keptL K m).length = lastB K m := by
    refine lastK_max _ _ _ hk _ (fun i hi => ?_) ?_
    · have h : (keptL K m)[i] ∈ keptL K m := List.getElem_mem hi
      rw [keptL_mem] at h
      rw [hget i hi]
      exact l1 _ h.1 h.2
    · rcases l2 with ⟨h1, h2⟩ | ⟨i, h1, h2, h3⟩
      · exact .inl ⟨by rw [h2]; rfl, h1⟩
      · obtain ⟨j, hj, e⟩ := List.getElem_of_mem ((keptL_mem K m i).2 ⟨h1, h2⟩)
        exact .inr ⟨j, hj, by rw [hget j hj, e]; exact h3⟩
  have hs : ∀ i, i < m → (survL (keptK K m) m (keptL K m).length)[i]?.getD false = K i := by
    intro i hi
    rw [Bool.eq_iff_iff, survL_get _ _ _ hk i hi]
    constructor
    · rintro ⟨j, hj, e⟩
      rw [hget j hj] at e
      have h : (keptL K m)[j] ∈ keptL K m := List.getElem_mem hj
      rw [keptL_mem] at h
      have : (keptL K m)[j] = i := by omega
      rw [this] at h
      exact h.2
    · intro h
      obtain ⟨j, hj, e⟩ := List.getElem_of_mem ((keptL_mem K m i).2 ⟨hi, h⟩)
      exact ⟨j, hj, by rw [hget j hj, e]⟩
  unfold crashD
  rw [hp, hd, pendL_len, hl, crash_want K (lastB K m) torn os ss n m _ hs m (Nat.le_refl _)]
end Go.Proofs.Ytdcnddbkjdbbbaa
