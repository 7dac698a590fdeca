/-
  Orders in plain words: the reading of an order out of a string.
  Orders in plain words: what the reading of an order accepts is an encoding, and the encoding of a valid order is read back.
-/
import Derived.Test.YtjkiidhnmljmbaaGreatDoorGoO
set_option linter.unusedVariables false
set_option linter.unusedSimpArgs false
namespace Go.Proofs.YtjkiidhnmljmbaaGreatDoor
open Go.RowKit Onair
/-- n numbers, one behind the other, from a on. -/
def readN (l : List UInt8) : Nat → Int → Option (List Int × Int)
  | 0, a => some ([], a)
  | n + 1, a => if (intR l a).2.2 = 0 then (readN l n (intR l a).2.1).map fun r => ((intR l a).1 :: r.1, r.2) else none
/-- The state of the reading of n numbers from a0 on, behind j of them. -/
def RdSt (l : List UInt8) (n : Nat) (a0 : Int) (j : Nat) (vs : List Int) (a : Int) : Prop := vs.length = j ∧ readN l n a0 = (readN l (n - j) a).map fun r => (vs ++ r.1, r.2)
theorem RdSt.start (l : List UInt8) (n : Nat) (a0 : Int) : RdSt l n a0 0 [] a0 := ⟨rfl, by simp⟩
theorem RdSt.next {l : List UInt8} {n : Nat} {a0 : Int} {j : Nat} {vs : List Int} {a : Int} (h : RdSt l n a0 j vs a) (hj : j < n) (h0 : (intR l a).2.2 = 0) : RdSt l n a0 (j + 1) (vs ++ [(intR l a).1]) (intR l a).2.1 := by
  refine ⟨by rw [List.length_append, h.1]; rfl, ?_⟩
  rw [h.2, show n - j = (n - (j + 1)) + 1 by omega, readN, if_pos h0, Option.map_map]
  congr 1
  funext r
  simp
theorem RdSt.bad {l : List UInt8} {n : Nat} {a0 : Int} {j : Nat} {vs : List Int} {a : Int} (h : RdSt l n a0 j vs a) (hj : j < n) (h0 : (intR l a).2.2 ≠ 0) : readN l n a0 = none := by
  rw [h.2, show n - j = (n - (j + 1)) + 1 by omega, readN, if_neg h0]
  rfl
theorem RdSt.done {l : List UInt8} {n : Nat} {a0 : Int} {vs : List Int} {a : Int} (h : RdSt l n a0 n vs a) : readN l n a0 = some (vs, a) := by
  rw [h.2, Nat.sub_self, readN]
  simp
theorem readN_len {l : List UInt8} : ∀ {n : Nat} {a : Int} {r : List Int × Int}, readN l n a = some r → r.1.length = n
  | 0, a, r, h => by simp [readN] at h; subst h; rfl
  | n + 1, a, r, h => by
    rw [readN] at h
    split at h
    · obtain ⟨q, hq, rfl⟩ := Option.map_eq_some_iff.1 h
      simp [readN_len hq]
    · cases h
/-- Numbers laid at places. -/
def setL : List Value → List Nat → List Int → List Value
  | cs, f :: fs, x :: xs => setL (cs.set f (.int .i64 x)) fs xs
  | cs, _, _ => cs
theorem setL_snoc : ∀ (vs : List Int) (cs : List Value) (fs : List Nat) (f : Nat) (x : Int), fs[vs.length]? = some f → setL cs fs (vs ++ [x]) = (setL cs fs vs).set f (.int .i64 x)
  | [], cs, [], f, x, h => by simp at h
  | [], cs, g :: fs, f, x, h => by
    simp at h
    subst h
    cases fs <;> rfl
  | v :: vs, cs, [], f, x, h => by simp at h
  | v :: vs, cs, g :: fs, f, x, h => by
    simp only [List.cons_append, setL]
    exact setL_snoc vs _ fs f x (by simpa using h)
theorem setL_len : ∀ (vs : List Int) (cs : List Value) (fs : List Nat), (setL cs fs vs).length = cs.length
  | [], cs, fs => by cases fs <;> rfl
  | v :: vs, cs, [] => rfl
  | v :: vs, cs, g :: fs => by rw [setL, setL_len]; simp
/-- An order of which the first four numbers are read. -/
def o4 (vs : List Int) : GOd := ⟨vs.getD 0 0, vs.getD 1 0, vs.getD 2 0, vs.getD 3 0, 0, 0, 0, 0, 0, 0, 0, 0, none, 0, 0, ⟨0, 0, 0, 0, 0, 0, 0, 0⟩, 0, 0, 0, 0, ⟨#[]⟩⟩
def zeroO : GOd := o4 []
theorem set_o4 (vs : List Int) (h : vs.length = 4) : setL zeroO.l [0, 1, 2, 3] vs = (o4 vs).l := by
  match vs, h with
  | [a, b, c, d], _ => rfl
/-- .. and the numbers of its kind. -/
def GOd.withN (o : GOd) (vs : List Int) : GOd :=
  if o.k = 1 then { o with e := vs.getD 0 0, n := vs.getD 1 0 }
  else if o.k = 2 then { o with e := vs.getD 0 0 }
  else if o.k = 3 then { o with nid := vs.getD 0 0, item := vs.getD 1 0, frs := vs.getD 2 0, ear := vs.getD 3 0, lat := vs.getD 4 0, book := vs.getD 5 0 }
  else if o.k = 4 then { o with cl := ⟨vs.getD 0 0, vs.getD 1 0, vs.getD 2 0, vs.getD 3 0, vs.getD 4 0, vs.getD 5 0, vs.getD 6 0, vs.getD 7 0⟩ }
  else if o.k = 5 then { o with qid := vs.getD 0 0, qf := vs.getD 1 0, qt := vs.getD 2 0, qp := vs.getD 3 0 }
  else o
theorem withN_k (o : GOd) (vs : List Int) : (o.withN vs).k = o.k := by
  unfold GOd.withN
  by_cases h1 : o.k = 1
  · rw [if_pos h1]
  rw [if_neg h1]
  by_cases h2 : o.k = 2
  · rw [if_pos h2]
  rw [if_neg h2]
  by_cases h3 : o.k = 3
  · rw [if_pos h3]
  rw [if_neg h3]
  by_cases h4 : o.k = 4
  · rw [if_pos h4]
  rw [if_neg h4]
  by_cases h5 : o.k = 5
  · rw [if_pos h5]
  rw [if_neg h5]
theorem set_withN (o : GOd) (vs : List Int) (h : vs.length = (ofsK o.k).length) : setL o.l (ofsK o.k) vs = (o.withN vs).l := by
  unfold GOd.withN
  unfold ofsK at h ⊢
  by_cases h1 : o.k = 1
  · rw [if_pos h1] at h; rw [if_pos h1, if_pos h1]
    match vs, h with
    | [a, b], _ => rfl
  rw [if_neg h1] at h; rw [if_neg h1, if_neg h1]
  by_cases h2 : o.k = 2
  · rw [if_pos h2] at h; rw [if_pos h2, if_pos h2]
    match vs, h with
    | [a], _ => rfl
  rw [if_neg h2] at h; rw [if_neg h2, if_neg h2]
  by_cases h3 : o.k = 3
  · rw [if_pos h3] at h; rw [if_pos h3, if_pos h3]
    match vs, h with
    | [a, b, c, d, e, f], _ => rfl
  rw [if_neg h3] at h; rw [if_neg h3, if_neg h3]
  by_cases h4 : o.k = 4
  · rw [if_pos h4] at h; rw [if_pos h4, if_pos h4]
    match vs, h with
    | [a, b, c, d, e, f, g, i], _ => rfl
  rw [if_neg h4] at h; rw [if_neg h4, if_neg h4]
  by_cases h5 : o.k = 5
  · rw [if_pos h5] at h; rw [if_pos h5, if_pos h5]
    match vs, h with
    | [a, b, c, d], _ => rfl
  rw [if_neg h5] at h; rw [if_neg h5, if_neg h5]
  cases vs <;> rfl
def pairsL : List Int → List (Int × Int)
  | x :: y :: r => (x, y) :: pairsL r
  | _ => []
theorem pairsL_snoc : ∀ (i : Nat) (vs : List Int) (x y : Int), vs.length = 2 * i → pairsL (vs ++ [x] ++ [y]) = pairsL vs ++ [(x, y)]
  | 0, vs, x, y, h => by
    obtain rfl : vs = [] := List.eq_nil_of_length_eq_zero (by omega)
    rfl
  | i + 1, vs, x, y, h => by
    match vs, h with
    | a :: b :: r, h =>
      simp only [List.cons_append, pairsL]
      rw [← pairsL_snoc i r x y (by simp at h; omega)]
    | [a], h => simp at h; omega
theorem pairsL_len : ∀ (i : Nat) (vs : List Int), vs.length = 2 * i → (pairsL vs).length = i
  | 0, vs, h => by
    obtain rfl : vs = [] := List.eq_nil_of_length_eq_zero (by omega)
    rfl
  | i + 1, vs, h => by
    match vs, h with
    | a :: b :: r, h => simp only [pairsL, List.length_cons]; rw [pairsL_len i r (by simp at h; omega)]
    | [a], h => simp at h; omega
/-- What the reading of an order comes to: no encoding, no order, or an order with its alternatives. -/
inductive OutO where
  | wire
  | bad
  | ok (o : GOd) (al : List (Int × Int))
def finO (l : List UInt8) (o : GOd) (al : List (Int × Int)) (a : Int) : OutO := if a = (l.length : Int) then .ok o al else .wire
def GOd.withL (o : GOd) (n : Nat) : GOd := { o with an := n }
def GOd.withT (o : GOd) (t : List UInt8) : GOd := { o with txt := ⟨t.toArray⟩ }
def ordC (l : List UInt8) (o : GOd) (a : Int) : OutO :=
  if o.k = 3 then
    if (intR l a).2.2 = 0 then
      if (intR l a).1 < 0 ∨ 7 < (intR l a).1 then .bad else
      match readN l (2 * (intR l a).1.toNat) (intR l a).2.1 with
      | none => .wire
      | some r => finO l (o.withL (intR l a).1.toNat) (pairsL r.1) r.2
    else .wire
  else if o.k = 5 then
    if (strR l a).2.2 = 0 then finO l (o.withT (strR l a).1) [] (strR l a).2.1 else .wire
  else finO l o [] a
def ordB (l : List UInt8) (o : GOd) (a : Int) : OutO :=
  if 1 ≤ o.k ∧ o.k ≤ 5 then
    match readN l (ofsK o.k).length a with
    | none => .wire
    | some r => ordC l (o.withN r.1) r.2
  else .bad
/-- The reading of an order out of a string. -/
def ordR (l : List UInt8) : OutO :=
  match readN l 4 0 with
  | none => .wire
  | some r => ordB l (o4 r.1) r.2
theorem ordR_none {l : List UInt8} (h : readN l 4 0 = none) : ordR l = .wire := by unfold ordR; rw [h]
theorem ordR_some {l : List UInt8} {vs : List Int} {a : Int} (h : readN l 4 0 = some (vs, a)) : ordR l = ordB l (o4 vs) a := by unfold ordR; rw [h]
theorem ordB_bad {l : List UInt8} {o : GOd} {a : Int} (h : ¬ (1 ≤ o.k ∧ o.k ≤ 5)) : ordB l o a = .bad := by unfold ordB; rw [if_neg h]
theorem ordB_none {l : List UInt8} {o : GOd} {a : Int} (hk : 1 ≤ o.k ∧ o.k ≤ 5) (h : readN l (ofsK o.k).length a = none) : ordB l o a = .wire := by unfold ordB; rw [if_pos hk, h]
theorem ordB_some {l : List UInt8} {o : GOd} {a b : Int} {vs : List Int} (hk : 1 ≤ o.k ∧ o.k ≤ 5) (h : readN l (ofsK o.k).length a = some (vs, b)) : ordB l o a = ordC l (o.withN vs) b := by unfold ordB; rw [if_pos hk, h]
theorem ordC_3n {l : List UInt8} {o : GOd} {a : Int} (hk : o.k = 3) (h : (intR l a).2.2 ≠ 0) : ordC l o a = .wire := by unfold ordC; rw [if_pos hk, if_neg h]
theorem ordC_3b {l : List UInt8} {o : GOd} {a : Int} (hk : o.k = 3) (h : (intR l a).2.2 = 0) (hc : (intR l a).1 < 0 ∨ 7 < (intR l a).1) : ordC l o a = .bad := by unfold ordC; rw [if_pos hk, if_pos h, if_pos hc]
theorem ordC_3w {l : List UInt8} {o : GOd} {a : Int} (hk : o.k = 3) (h : (intR l a).2.2 = 0) (hc : ¬ ((intR l a).1 < 0 ∨ 7 < (intR l a).1)) (hr : readN l (2 * (intR l a).1.toNat) (intR l a).2.1 = none) : ordC l o a = .wire := by unfold ordC; rw [if_pos hk, if_pos h, if_neg hc, hr]
theorem ordC_3s {l : List UInt8} {o : GOd} {a b : Int} {vs : List Int} (hk : o.k = 3) (h : (intR l a).2.2 = 0) (hc : ¬ ((intR l a).1 < 0 ∨ 7 < (intR l a).1)) (hr : readN l (2 * (intR l a).1.toNat) (intR l a).2.1 = some (vs, b)) : ordC l o a = finO l (o.withL (intR l a).1.toNat) (pairsL vs) b := by unfold ordC; rw [if_pos hk, if_pos h, if_neg hc, hr]
theorem ordC_5n {l : List UInt8} {o : GOd} {a : Int} (hk : o.k = 5) (h : (strR l a).2.2 ≠ 0) : ordC l o a = .wire := by unfold ordC; rw [if_neg (by omega), if_pos hk, if_neg h]
theorem ordC_5s {l : List UInt8} {o : GOd} {a : Int} (hk : o.k = 5) (h : (strR l a).2.2 = 0) : ordC l o a = finO l (o.withT (strR l a).1) [] (strR l a).2.1 := by unfold ordC; rw [if_neg (by omega), if_pos hk, if_pos h]
theorem ordC_x {l : List UInt8} {o : GOd} {a : Int} (h3 : o.k ≠ 3) (h5 : o.k ≠ 5) : ordC l o a = finO l o [] a := by unfold ordC; rw [if_neg h3, if_neg h5]
theorem finO_ok {l : List UInt8} {o : GOd} {al : List (Int × Int)} {a : Int} (h : a = (l.length : Int)) : finO l o al a = .ok o al := by unfold finO; rw [if_pos h]
theorem finO_no {l : List UInt8} {o : GOd} {al : List (Int × Int)} {a : Int} (h : ¬ a = (l.length : Int)) : finO l o al a = .wire := by unfold finO; rw [if_neg h]
end Go.Proofs.YtjkiidhnmljmbaaGreatDoor
namespace Go.Proofs.YtjkiidhnmljmbaaGreatDoor
open Go.RowKit Onair
theorem pre_of_take {α : Type} {x y : List α} (h : y.take x.length = x) : x <+: y := by rw [← h]; exact List.take_prefix _ _
theorem pre_app {α : Type} {x y l : List α} {a : Nat} (h1 : x <+: l.drop a) (h2 : y <+: l.drop (a + x.length)) : x ++ y <+: l.drop a := by
  obtain ⟨r, hr⟩ := h1
  have : l.drop (a + x.length) = r := by rw [← List.drop_drop, ← hr, List.drop_left]
  rw [this] at h2
  obtain ⟨r2, hr2⟩ := h2
  exact ⟨r2, by rw [List.append_assoc, hr2, hr]⟩
theorem encI_cons (x : Int) (vs : List Int) : encI (x :: vs) = putL x ++ encI vs := by simp [encI]
theorem readN_back {l : List UInt8} : ∀ (n a : Nat) (vs : List Int) (b : Int), readN l n a = some (vs, b) → (∀ v ∈ vs, okInt v = true) ∧ b = (a : Int) + (encI vs).length ∧ encI vs <+: l.drop a
  | 0, a, vs, b, h => by
    simp only [readN, Option.some.injEq, Prod.mk.injEq] at h
    obtain ⟨rfl, rfl⟩ := h
    exact ⟨fun _ h => by simp at h, by simp [encI], ⟨l.drop a, by simp [encI]⟩⟩
  | n + 1, a, vs, b, h => by
    rw [readN] at h
    by_cases h0 : (intR l a).2.2 = 0
    · rw [if_pos h0] at h
      obtain ⟨⟨r1, r2⟩, hr, he⟩ := Option.map_eq_some_iff.1 h
      simp only [Prod.mk.injEq] at he
      obtain ⟨rfl, rfl⟩ := he
      obtain ⟨g1, g2, g3⟩ := intR_back l a h0
      rw [g2, ← Int.natCast_add] at hr
      obtain ⟨k1, k2, k3⟩ := readN_back n _ r1 r2 hr
      refine ⟨fun v hv => ?_, ?_, ?_⟩
      · simp only [List.mem_cons] at hv
        rcases hv with rfl | hv
        · exact g1
        · exact k1 v hv
      · rw [k2, encI_cons, List.length_append]; omega
      · rw [encI_cons]
        exact pre_app (pre_of_take g3) k3
    · rw [if_neg h0] at h; cases h
theorem nums_withN (o : GOd) (vs : List Int) (h : vs.length = (ofsK o.k).length) : numsG (o.withN vs) = vs := by
  unfold numsG
  rw [withN_k]
  unfold GOd.withN
  unfold ofsK at h
  by_cases h1 : o.k = 1
  · rw [if_pos h1] at h; rw [if_pos h1, if_pos h1]
    match vs, h with
    | [a, b], _ => rfl
  rw [if_neg h1] at h; rw [if_neg h1, if_neg h1]
  by_cases h2 : o.k = 2
  · rw [if_pos h2] at h; rw [if_pos h2, if_pos h2]
    match vs, h with
    | [a], _ => rfl
  rw [if_neg h2] at h; rw [if_neg h2, if_neg h2]
  by_cases h3 : o.k = 3
  · rw [if_pos h3] at h; rw [if_pos h3, if_pos h3]
    match vs, h with
    | [a, b, c, d, e, f], _ => rfl
  rw [if_neg h3] at h; rw [if_neg h3, if_neg h3]
  by_cases h4 : o.k = 4
  · rw [if_pos h4] at h; rw [if_pos h4, if_pos h4]
    match vs, h with
    | [a, b, c, d, e, f, g, i], _ => rfl
  rw [if_neg h4] at h; rw [if_neg h4, if_neg h4]
  by_cases h5 : o.k = 5
  · rw [if_pos h5] at h; rw [if_pos h5, if_pos h5]
    match vs, h with
    | [a, b, c, d], _ => rfl
  rw [if_neg h5] at h; rw [if_neg h5]
  match vs, h with
  | [], _ => rfl
theorem head_withN (o : GOd) (vs : List Int) : (o.withN vs).s = o.s ∧ (o.withN vs).ch = o.ch ∧ (o.withN vs).f = o.f ∧ (o.withN vs).txt = o.txt ∧ (o.withN vs).ao = o.ao ∧ (o.withN vs).an = o.an ∧ (o.withN vs).ac = o.ac := by
  unfold GOd.withN
  by_cases h1 : o.k = 1
  · rw [if_pos h1]; exact ⟨rfl, rfl, rfl, rfl, rfl, rfl, rfl⟩
  rw [if_neg h1]
  by_cases h2 : o.k = 2
  · rw [if_pos h2]; exact ⟨rfl, rfl, rfl, rfl, rfl, rfl, rfl⟩
  rw [if_neg h2]
  by_cases h3 : o.k = 3
  · rw [if_pos h3]; exact ⟨rfl, rfl, rfl, rfl, rfl, rfl, rfl⟩
  rw [if_neg h3]
  by_cases h4 : o.k = 4
  · rw [if_pos h4]; exact ⟨rfl, rfl, rfl, rfl, rfl, rfl, rfl⟩
  rw [if_neg h4]
  by_cases h5 : o.k = 5
  · rw [if_pos h5]; exact ⟨rfl, rfl, rfl, rfl, rfl, rfl, rfl⟩
  rw [if_neg h5]; exact ⟨rfl, rfl, rfl, rfl, rfl, rfl, rfl⟩
theorem altI_pairs : ∀ (i : Nat) (vs : List Int), vs.length = 2 * i → altI (pairsL vs) = vs
  | 0, vs, h => by
    obtain rfl : vs = [] := List.eq_nil_of_length_eq_zero (by omega)
    rfl
  | i + 1, vs, h => by
    match vs, h with
    | a :: b :: r, h =>
      have := altI_pairs i r (by simp at h; omega)
      simp only [pairsL, altI, List.flatMap_cons] at *
      rw [this]
      rfl
    | [a], h => simp at h; omega
theorem whole {x l : List UInt8} (h : x <+: l.drop 0) (hl : (x.length : Int) = (l.length : Int)) : x = l := by
  rw [List.drop_zero] at h
  exact h.eq_of_length (by omega)
/-- What the reading accepts is the encoding of what it gives. -/
theorem ordR_back {l : List UInt8} {o : GOd} {al : List (Int × Int)} (h : ordR l = .ok o al) : encG o al = l ∧ (1 ≤ o.k ∧ o.k ≤ 5) ∧ al.length ≤ 7 ∧ o.an = al.length ∧ o.ao = none ∧ o.ac = 0 ∧ o.txt.size ≤ 65536 := by
  unfold ordR at h
  cases h4 : readN l 4 0 with
  | none => rw [h4] at h; cases h
  | some r =>
    obtain ⟨v4, a⟩ := r
    rw [h4] at h
    dsimp only at h
    have hv4 := readN_len h4
    obtain ⟨-, e1, p1⟩ := readN_back 4 0 v4 a h4
    rw [← Int.natCast_add, Nat.zero_add] at e1
    unfold ordB at h
    by_cases hk : 1 ≤ (o4 v4).k ∧ (o4 v4).k ≤ 5
    · rw [if_pos hk] at h
      cases hn : readN l (ofsK (o4 v4).k).length a with
      | none => rw [hn] at h; cases h
      | some r =>
        obtain ⟨vs, a2⟩ := r
        rw [hn] at h
        dsimp only at h
        have hvs := readN_len hn
        rw [e1] at hn
        obtain ⟨-, e2, p2⟩ := readN_back _ _ vs a2 hn
        have hnw := nums_withN (o4 v4) vs hvs
        obtain ⟨w1, w2, w3, w4, w5, w6, w7⟩ := head_withN (o4 v4) vs
        have wk := withN_k (o4 v4) vs
        have hhd : [(o4 v4).s, (o4 v4).ch, (o4 v4).f, (o4 v4).k] = v4 := by
          match v4, hv4 with
          | [a, b, c, d], _ => rfl
        have hp : encI v4 ++ encI vs <+: l.drop 0 := pre_app p1 (by rw [Nat.zero_add]; exact p2)
        have wtx : (o4 v4).txt = ⟨#[]⟩ := rfl
        have wao : (o4 v4).ao = none := rfl
        have wan : (o4 v4).an = 0 := rfl
        have wac : (o4 v4).ac = 0 := rfl
        rw [wtx] at w4
        rw [wao] at w5
        rw [wan] at w6
        rw [wac] at w7
        obtain ⟨q, hq⟩ : ∃ q, (o4 v4).withN vs = q := ⟨_, rfl⟩
        rw [hq] at h hnw w1 w2 w3 w4 w5 w6 w7 wk
        have hqh : [q.s, q.ch, q.f, q.k] = v4 := by rw [w1, w2, w3, wk]; exact hhd
        rw [← wk] at hk
        unfold ordC at h
        by_cases k3 : q.k = 3
        · rw [if_pos k3] at h
          by_cases h0 : (intR l a2).2.2 = 0
          · rw [if_pos h0] at h
            by_cases hc : (intR l a2).1 < 0 ∨ 7 < (intR l a2).1
            · rw [if_pos hc] at h; cases h
            · rw [if_neg hc] at h
              cases hr : readN l (2 * (intR l a2).1.toNat) (intR l a2).2.1 with
              | none => rw [hr] at h; cases h
              | some r =>
                obtain ⟨ps, a3⟩ := r
                rw [hr] at h
                dsimp only at h
                unfold finO at h
                by_cases hf : a3 = (l.length : Int)
                · rw [if_pos hf] at h
                  have hps := readN_len hr
                  rw [e2, ← Int.natCast_add] at hr h0 hc h
                  obtain ⟨g1, g2, g3⟩ := intR_back l _ h0
                  dsimp only at hps hvs
                  rw [e2, ← Int.natCast_add] at hps
                  obtain ⟨c, hcc⟩ : ∃ c, (intR l ((encI v4).length + (encI vs).length : Nat)).1 = c := ⟨_, rfl⟩
                  rw [hcc] at hps g2 g3 hr hc h
                  rw [g2, ← Int.natCast_add] at hr
                  obtain ⟨-, e3, p3⟩ := readN_back _ _ ps a3 hr
                  have hpl := pairsL_len _ ps hps
                  have hai := altI_pairs _ ps hps
                  cases h
                  have hcn : ((pairsL ps).length : Int) = c := by rw [hpl]; omega
                  refine ⟨?_, ?_, by rw [hpl]; omega, by rw [hpl]; rfl, w5, w7, by show q.txt.size ≤ _; rw [w4]; decide⟩
                  · have htl : tailG (q.withL c.toNat) (pairsL ps) = putL c ++ encI ps := by
                      unfold tailG
                      rw [if_pos (show (q.withL c.toNat).k = 3 from k3), hcn, encI_one, hai]
                    have hng : numsG (q.withL c.toNat) = vs := hnw
                    unfold encG
                    rw [htl, hng, show [(q.withL c.toNat).s, (q.withL c.toNat).ch, (q.withL c.toNat).f, (q.withL c.toNat).k] = v4 from hqh]
                    refine whole ?_ ?_
                    · refine pre_app hp ?_
                      rw [Nat.zero_add, List.length_append]
                      exact pre_app (pre_of_take g3) p3
                    · rw [← hf, e3]
                      simp only [List.length_append]
                      omega
                  · exact hk
                · rw [if_neg hf] at h; cases h
          · rw [if_neg h0] at h; cases h
        · rw [if_neg k3] at h
          by_cases k5 : q.k = 5
          · rw [if_pos k5] at h
            by_cases h0 : (strR l a2).2.2 = 0
            · rw [if_pos h0] at h
              unfold finO at h
              by_cases hf : (strR l a2).2.1 = (l.length : Int)
              · rw [if_pos hf] at h
                rw [e2, ← Int.natCast_add] at h0 hf h
                obtain ⟨g1, g2, g3, g4⟩ := strR_back l _ h0
                obtain ⟨t, ht⟩ : ∃ t, (strR l ((encI v4).length + (encI vs).length : Nat)).1 = t := ⟨_, rfl⟩
                rw [ht] at g1 g2 g3 h
                cases h
                refine ⟨?_, hk, Nat.zero_le _, w6, w5, w7, by show (ByteArray.mk t.toArray).size ≤ _; rw [← blen]; exact g1⟩
                have htl : tailG (q.withT t) [] = putSL t := by
                  unfold tailG
                  rw [if_neg (show ¬ (q.withT t).k = 3 from k3), if_pos (show (q.withT t).k = 5 from k5)]
                  rfl
                have hng : numsG (q.withT t) = vs := hnw
                unfold encG
                rw [htl, hng, show [(q.withT t).s, (q.withT t).ch, (q.withT t).f, (q.withT t).k] = v4 from hqh]
                refine whole ?_ ?_
                · refine pre_app hp ?_
                  rw [Nat.zero_add, List.length_append]
                  exact pre_of_take g3
                · rw [← hf, g2]
                  simp only [List.length_append]
                  omega
              · rw [if_neg hf] at h; cases h
            · rw [if_neg h0] at h; cases h
          · rw [if_neg k5] at h
            unfold finO at h
            by_cases hf : a2 = (l.length : Int)
            · rw [if_pos hf] at h
              cases h
              refine ⟨?_, hk, Nat.zero_le _, w6, w5, w7, by rw [w4]; decide⟩
              unfold encG tailG
              rw [if_neg k3, if_neg k5, hnw, hqh, List.append_nil]
              refine whole hp ?_
              rw [← hf, e2]
              simp only [List.length_append]
              omega
            · rw [if_neg hf] at h; cases h
    · rw [if_neg hk] at h; cases h
end Go.Proofs.YtjkiidhnmljmbaaGreatDoor
