/-
  Plain laws of the encoding of assets: reading back, prefixes, additional bytes, uniqueness. No program in sight.
-/
import Derived.Test.YtfplajafekpccaaMedPlain
set_option linter.unusedVariables false
set_option linter.unusedSimpArgs false
namespace Onair
theorem okPic_parts {c : Pic} (h : okPic c = true) : okInt (flagI c.key) = true ∧ okInt c.power = true ∧ c.data.data.toList.length ≤ 65536 ∧ (flagI c.key = 0 ∨ flagI c.key = 1) := by
  obtain ⟨h1, h2, h3⟩ := (okPic_iff c).1 h
  refine ⟨?_, (okInt_iff _).2 (by omega), by simp; omega, ?_⟩
  · rw [okInt_iff]; unfold flagI; split <;> omega
  · unfold flagI; split <;> simp
theorem flag_eq (c : Pic) : decide (flagI c.key = 1) = c.key := by
  unfold flagI
  cases c.key <;> rfl
theorem byt_eq (d : ByteArray) : (⟨d.data.toList.toArray⟩ : ByteArray) = d := by cases d; simp
theorem picR_eq {s : List UInt8} {x a n b c y : Int} {t : List UInt8} (h : intR s y = (x, a, 0)) (hx : x = 0 ∨ x = 1) (h2 : intR s a = (n, b, 0)) (h3 : strR s b = (t, c, 0)) : picR s y = .inr (⟨decide (x = 1), ⟨t.toArray⟩, n⟩, c) := by
  unfold picR
  rw [h]
  dsimp only
  rw [if_neg (by simp), if_neg (by omega), h2]
  dsimp only
  rw [if_neg (by simp), h3]
  dsimp only
  rw [if_neg (by simp)]
theorem picR_e1 {s : List UInt8} {y : Int} (h : (intR s y).2.2 ≠ 0) : picR s y = .inl 10 := by unfold picR; rw [if_pos h]
theorem picR_e2 {s : List UInt8} {x a y : Int} (h : intR s y = (x, a, 0)) (hx : x = 0 ∨ x = 1) (h2 : (intR s a).2.2 ≠ 0) : picR s y = .inl 10 := by
  unfold picR
  rw [h]
  dsimp only
  rw [if_neg (by simp), if_neg (by omega), if_pos h2]
theorem picR_e3 {s : List UInt8} {x a n b y : Int} (h : intR s y = (x, a, 0)) (hx : x = 0 ∨ x = 1) (h2 : intR s a = (n, b, 0)) (h3 : (strR s b).2.2 ≠ 0) : picR s y = .inl 10 := by
  unfold picR
  rw [h]
  dsimp only
  rw [if_neg (by simp), if_neg (by omega), h2]
  dsimp only
  rw [if_neg (by simp), if_pos h3]
/-- A picture's encoding is read back. -/
theorem picR_put (p q : List UInt8) (c : Pic) (h : okPic c = true) : picR (p ++ encP c ++ q) p.length = .inr (c, ((p ++ encP c).length : Int)) := by
  obtain ⟨h1, h2, h3, h4⟩ := okPic_parts h
  have e1 := intR_put p (putL c.power ++ putSL c.data.data.toList ++ q) (flagI c.key) h1
  have e2 := intR_put (p ++ putL (flagI c.key)) (putSL c.data.data.toList ++ q) c.power h2
  have e3 := strR_put (p ++ putL (flagI c.key) ++ putL c.power) q c.data.data.toList h3
  have es : p ++ encP c ++ q = p ++ putL (flagI c.key) ++ putL c.power ++ putSL c.data.data.toList ++ q := by unfold encP; simp [List.append_assoc]
  have s1 : p ++ putL (flagI c.key) ++ (putL c.power ++ putSL c.data.data.toList ++ q) = p ++ putL (flagI c.key) ++ putL c.power ++ putSL c.data.data.toList ++ q := by simp [List.append_assoc]
  have s2 : p ++ putL (flagI c.key) ++ putL c.power ++ (putSL c.data.data.toList ++ q) = p ++ putL (flagI c.key) ++ putL c.power ++ putSL c.data.data.toList ++ q := by simp [List.append_assoc]
  rw [s1] at e1
  rw [s2] at e2
  rw [es]
  have l1 : ((p.length : Int) + (putL (flagI c.key)).length) = ((p ++ putL (flagI c.key)).length : Int) := by simp
  have l2 : (((p ++ putL (flagI c.key)).length : Int) + (putL c.power).length) = ((p ++ putL (flagI c.key) ++ putL c.power).length : Int) := by simp; omega
  rw [l1] at e1
  rw [l2] at e2
  have := picR_eq e1 h4 e2 e3
  rw [this, flag_eq, byt_eq]
  have : (((p ++ putL (flagI c.key) ++ putL c.power).length : Int) + (putSL c.data.data.toList).length) = ((p ++ encP c).length : Int) := by unfold encP; simp; omega
  rw [this]
theorem picsR_put (l : List Pic) : ∀ (p q : List UInt8) (acc : List Pic), l.all okPic = true → picsR (p ++ encPs l ++ q) l.length p.length acc = .inr (acc ++ l, ((p ++ encPs l).length : Int)) := by
  induction l with
  | nil => intro p q acc _; simp [picsR, encPs]
  | cons c l ih =>
    intro p q acc h
    rw [List.all_cons, Bool.and_eq_true] at h
    have e : p ++ encPs (c :: l) ++ q = p ++ encP c ++ (encPs l ++ q) := by simp [encPs, List.append_assoc]
    have e2 : p ++ encP c ++ (encPs l ++ q) = p ++ encP c ++ encPs l ++ q := by simp [List.append_assoc]
    have h1 := picR_put p (encPs l ++ q) c h.1
    rw [List.length_cons, e]
    simp only [picsR, h1]
    rw [e2, ih (p ++ encP c) q (acc ++ [c]) h.2]
    simp [encPs, List.append_assoc]
theorem validA_parts {i : Int} {l : List Pic} (h : validA i l = true) : okInt i = true ∧ okInt (l.length : Int) = true ∧ 1 ≤ l.length ∧ l.length ≤ 2000 ∧ l.all okPic = true := by
  obtain ⟨h1, h2, _, h4⟩ := (validA_iff i l).1 h
  exact ⟨(okInt_iff _).2 (by omega), (okInt_iff _).2 (by omega), h2.1, h2.2, h4⟩
theorem decR_at {s : List UInt8} {x a n b : Int} (h : intR s 0 = (x, a, 0)) (h2 : intR s a = (n, b, 0)) (h3 : 1 ≤ n) (h4 : n ≤ 2000) :
    decR s = match picsR s n.toNat b [] with | .inl e => .inl e | .inr (l, a) => if a ≠ s.length then .inl 10 else if validA x l = false then .inl 120 else .inr (x, l) := by
  unfold decR
  rw [h]
  dsimp only
  rw [if_neg (by simp), h2]
  dsimp only
  rw [if_neg (by simp), if_neg (by omega)]
  rfl
theorem heads (i : Int) (n : Nat) (q : List UInt8) (h1 : okInt i = true) (h2 : okInt (n : Int) = true) :
    intR (putL i ++ putL n ++ q) 0 = (i, ((putL i).length : Int), 0) ∧ intR (putL i ++ putL n ++ q) (putL i).length = ((n : Int), ((putL i ++ putL n).length : Int), 0) := by
  have e1 := intR_put [] (putL n ++ q) i h1
  have e2 := intR_put (putL i) q n h2
  rw [List.nil_append, ← List.append_assoc] at e1
  refine ⟨?_, ?_⟩
  · have := e1
    simp only [List.length_nil, Int.natCast_zero, Int.zero_add] at this
    exact this
  · rw [e2]
    simp
/-- Additional bytes are refused, none are taken. -/
theorem decR_more (i : Int) (l : List Pic) (q : List UInt8) (h : validA i l = true) : decR (encA i l ++ q) = if q = [] then .inr (i, l) else .inl 10 := by
  obtain ⟨h1, h2, h3, h4, h5⟩ := validA_parts h
  obtain ⟨e1, e2⟩ := heads i l.length (encPs l ++ q) h1 h2
  have es : encA i l ++ q = putL i ++ putL l.length ++ (encPs l ++ q) := by unfold encA; simp [List.append_assoc]
  rw [es, decR_at e1 e2 (by omega) (by omega), Int.toNat_natCast, ← List.append_assoc, picsR_put l _ q [] h5]
  dsimp only
  by_cases hq : q = []
  · subst hq
    rw [if_neg (by simp), List.nil_append, if_neg (by rw [h]; simp), if_pos rfl]
  · rw [if_pos, if_neg hq]
    have : 0 < q.length := List.length_pos_iff.2 hq
    rw [List.length_append (bs := q)]
    omega
theorem decR_enc (i : Int) (l : List Pic) (h : validA i l = true) : decR (encA i l) = .inr (i, l) := by
  have := decR_more i l [] h
  rw [List.append_nil, if_pos rfl] at this
  exact this
theorem intR_none_at (p x : List UInt8) (h : decI 9 0 0 x = none) : (intR (p ++ x) p.length).2.2 ≠ 0 := by
  rw [intR_none (by simp) (by rw [List.drop_left]; exact h)]
  decide
theorem dec_trunc' {n : Int} (h : okInt n = true) (m : Nat) (hm : m < (putL n).length) (t : List UInt8) : decI 9 0 0 ((putL n ++ t).take m) = none := by
  rw [List.take_append_of_le_length (by omega)]
  exact dec_trunc n h m hm
theorem strR_at (p x : List UInt8) : (strR (p ++ x) p.length).2.2 = (strR x 0).2.2 := by
  have hi : intR (p ++ x) p.length = match decI 9 0 0 x with | none => (0, 0, 10) | some (n, k) => (n, (p.length : Int) + k, 0) := by
    unfold intR
    rw [if_neg (by simp; omega), Int.toNat_natCast, List.drop_left]
    rfl
  have h0 : intR x 0 = match decI 9 0 0 x with | none => (0, 0, 10) | some (n, k) => (n, (k : Int), 0) := by
    unfold intR
    rw [if_neg (by omega)]
    simp
    rfl
  unfold strR
  rw [hi, h0]
  cases decI 9 0 0 x with
  | none => rfl
  | some r =>
    obtain ⟨n, k⟩ := r
    dsimp only
    rw [if_pos rfl, if_pos rfl]
    by_cases hc : n < 0 ∨ 65536 < n ∨ (x.length : Int) - k < n
    · rw [if_pos hc, if_pos (by simp; omega)]
    · rw [if_neg hc, if_neg (by simp; omega)]
theorem take_split (a b : List UInt8) (m : Nat) (h : a.length ≤ m) : (a ++ b).take m = a ++ b.take (m - a.length) := by
  rw [List.take_append, List.take_of_length_le h]
/-- A proper prefix of a picture's encoding is not read. -/
theorem picR_cut (p : List UInt8) (c : Pic) (h : okPic c = true) (m : Nat) (hm : m < (encP c).length) : picR (p ++ (encP c).take m) p.length = .inl 10 := by
  obtain ⟨h1, h2, h3, h4⟩ := okPic_parts h
  have ee : encP c = putL (flagI c.key) ++ (putL c.power ++ putSL c.data.data.toList) := by unfold encP; simp [List.append_assoc]
  rw [ee] at hm ⊢
  by_cases c1 : m < (putL (flagI c.key)).length
  · exact picR_e1 (intR_none_at p _ (dec_trunc' h1 m c1 _))
  · rw [take_split _ _ _ (by omega)]
    obtain ⟨m1, hm1⟩ : ∃ m1, m - (putL (flagI c.key)).length = m1 := ⟨_, rfl⟩
    rw [hm1]
    rw [List.length_append] at hm
    have e1 := intR_put p ((putL c.power ++ putSL c.data.data.toList).take m1) (flagI c.key) h1
    rw [List.append_assoc] at e1
    have l1 : ((p.length : Int) + (putL (flagI c.key)).length) = ((p ++ putL (flagI c.key)).length : Int) := by simp
    rw [l1] at e1
    by_cases c2 : m1 < (putL c.power).length
    · refine picR_e2 e1 h4 ?_
      rw [← List.append_assoc]
      exact intR_none_at _ _ (dec_trunc' h2 m1 c2 _)
    · rw [take_split _ _ _ (by omega)] at e1 ⊢
      obtain ⟨m2, hm2⟩ : ∃ m2, m1 - (putL c.power).length = m2 := ⟨_, rfl⟩
      rw [hm2] at e1 ⊢
      rw [List.length_append] at hm
      have e2 := intR_put (p ++ putL (flagI c.key)) ((putSL c.data.data.toList).take m2) c.power h2
      have l2 : (((p ++ putL (flagI c.key)).length : Int) + (putL c.power).length) = ((p ++ putL (flagI c.key) ++ putL c.power).length : Int) := by simp; omega
      rw [l2] at e2
      have es : p ++ (putL (flagI c.key) ++ (putL c.power ++ (putSL c.data.data.toList).take m2)) = p ++ putL (flagI c.key) ++ putL c.power ++ (putSL c.data.data.toList).take m2 := by simp [List.append_assoc]
      rw [es] at e1 ⊢
      refine picR_e3 e1 h4 e2 ?_
      rw [strR_at, strR_take_put _ h3 m2 (by omega)]
      decide
theorem picsR_cut (l : List Pic) : ∀ (p : List UInt8) (acc : List Pic) (m : Nat), l.all okPic = true → m < (encPs l).length → picsR (p ++ (encPs l).take m) l.length p.length acc = .inl 10 := by
  induction l with
  | nil => intro p acc m _ hm; simp [encPs] at hm
  | cons c l ih =>
    intro p acc m h hm
    rw [List.all_cons, Bool.and_eq_true] at h
    rw [List.length_cons]
    simp only [encPs] at hm ⊢
    by_cases c1 : m < (encP c).length
    · rw [List.take_append_of_le_length (by omega)]
      simp only [picsR, picR_cut p c h.1 m c1]
    · rw [take_split _ _ _ (by omega)]
      obtain ⟨m1, hm1⟩ : ∃ m1, m - (encP c).length = m1 := ⟨_, rfl⟩
      rw [hm1, ← List.append_assoc]
      rw [List.length_append] at hm
      simp only [picsR, picR_put p ((encPs l).take m1) c h.1]
      exact ih (p ++ encP c) (acc ++ [c]) m1 h.2 (by omega)
/-- No proper prefix of an encoding is taken. -/
theorem decR_cut (i : Int) (l : List Pic) (h : validA i l = true) (m : Nat) (hm : m < (encA i l).length) : decR ((encA i l).take m) = .inl 10 := by
  obtain ⟨h1, h2, h3, h4, h5⟩ := validA_parts h
  have ee : encA i l = putL i ++ (putL l.length ++ encPs l) := by unfold encA; simp [List.append_assoc]
  rw [ee] at hm ⊢
  by_cases c1 : m < (putL i).length
  · have := intR_none_at [] _ (dec_trunc' h1 m c1 (putL l.length ++ encPs l))
    unfold decR
    rw [if_pos (by simpa using this)]
  · rw [take_split _ _ _ (by omega)]
    obtain ⟨m1, hm1⟩ : ∃ m1, m - (putL i).length = m1 := ⟨_, rfl⟩
    rw [hm1]
    rw [List.length_append] at hm
    have e1 := intR_put [] ((putL l.length ++ encPs l).take m1) i h1
    rw [List.nil_append] at e1
    simp only [List.length_nil, Int.natCast_zero, Int.zero_add] at e1
    by_cases c2 : m1 < (putL l.length).length
    · have := intR_none_at (putL i) _ (dec_trunc' h2 m1 c2 (encPs l))
      unfold decR
      rw [e1]
      dsimp only
      rw [if_neg (by simp), if_pos this]
    · rw [take_split _ _ _ (by omega), ← List.append_assoc]
      obtain ⟨m2, hm2⟩ : ∃ m2, m1 - (putL l.length).length = m2 := ⟨_, rfl⟩
      rw [hm2]
      rw [List.length_append] at hm
      obtain ⟨e1, e2⟩ := heads i l.length ((encPs l).take m2) h1 h2
      rw [decR_at e1 e2 (by omega) (by omega), Int.toNat_natCast, picsR_cut l _ [] m2 h5 (by omega)]
theorem encA_pos (i : Int) (l : List Pic) (h : validA i l = true) : 0 < (encA i l).length := by
  obtain ⟨h1, _⟩ := validA_parts h
  unfold encA
  rw [List.length_append, List.length_append]
  unfold putL
  rw [if_pos h1]
  have := (uv_len (zig i)).2
  omega
/-- What is read as a picture is its encoding. -/
theorem picR_back (s : List UInt8) (a : Nat) (c : Pic) (b : Int) (h : picR s a = .inr (c, b)) : b = ((a + (encP c).length : Nat) : Int) ∧ (s.drop a).take (encP c).length = encP c ∧ b ≤ s.length := by
  unfold picR at h
  by_cases h1 : (intR s a).2.2 = 0
  · rw [if_neg (fun e => e h1)] at h
    by_cases hx : (intR s a).1 ≠ 0 ∧ (intR s a).1 ≠ 1
    · rw [if_pos hx] at h; cases h
    · rw [if_neg hx] at h
      obtain ⟨k1, k2, k3⟩ := intR_back s a h1
      obtain ⟨a1, ha1⟩ : ∃ a1 : Nat, a1 = a + (putL (intR s a).1).length := ⟨_, rfl⟩
      have ea1 : (intR s a).2.1 = (a1 : Int) := by omega
      rw [ea1] at h
      by_cases h2 : (intR s a1).2.2 = 0
      · rw [if_neg (fun e => e h2)] at h
        obtain ⟨j1, j2, j3⟩ := intR_back s a1 h2
        obtain ⟨a2, ha2⟩ : ∃ a2 : Nat, a2 = a1 + (putL (intR s a1).1).length := ⟨_, rfl⟩
        have ea2 : (intR s a1).2.1 = (a2 : Int) := by omega
        rw [ea2] at h
        by_cases h3 : (strR s a2).2.2 = 0
        · rw [if_neg (fun e => e h3)] at h
          obtain ⟨i1, i2, i3, i4⟩ := strR_back s a2 h3
          simp only [Sum.inr.injEq, Prod.mk.injEq] at h
          obtain ⟨rfl, rfl⟩ := h
          have ef : flagI (decide ((intR s a).1 = 1)) = (intR s a).1 := by
            unfold flagI
            by_cases e : (intR s a).1 = 1
            · rw [e]; rfl
            · have : (intR s a).1 = 0 := by omega
              rw [this]; rfl
          have ee : encP ⟨decide ((intR s a).1 = 1), ⟨(strR s a2).1.toArray⟩, (intR s a1).1⟩ = putL (intR s a).1 ++ (putL (intR s a1).1 ++ putSL (strR s a2).1) := by
            unfold encP
            dsimp only
            rw [ef, List.append_assoc]
          rw [ee, List.length_append, List.length_append]
          refine ⟨by omega, ?_, i4⟩
          rw [List.take_add, k3, List.drop_drop, ← ha1, List.take_add, j3, List.drop_drop, ← ha2, i3]
        · rw [if_pos h3] at h; cases h
      · rw [if_pos h2] at h; cases h
  · rw [if_pos h1] at h; cases h
theorem picsR_back (s : List UInt8) (n : Nat) : ∀ (a : Nat) (acc l : List Pic) (b : Int), picsR s n a acc = .inr (l, b) → ∃ l', l = acc ++ l' ∧ l'.length = n ∧ b = ((a + (encPs l').length : Nat) : Int) ∧ (s.drop a).take (encPs l').length = encPs l' := by
  induction n with
  | zero =>
    intro a acc l b h
    simp only [picsR, Sum.inr.injEq, Prod.mk.injEq] at h
    obtain ⟨rfl, rfl⟩ := h
    exact ⟨[], by simp, rfl, by simp [encPs], by simp [encPs]⟩
  | succ n ih =>
    intro a acc l b h
    simp only [picsR] at h
    rcases hp : picR s a with e | ⟨c, b1⟩
    · rw [hp] at h; cases h
    · rw [hp] at h
      dsimp only at h
      obtain ⟨k1, k2, _⟩ := picR_back s a c b1 hp
      rw [k1] at h
      obtain ⟨l', e1, e2, e3, e4⟩ := ih _ _ _ _ h
      refine ⟨c :: l', by rw [e1]; simp, by simp [e2], ?_, ?_⟩
      · rw [e3]; simp only [encPs, List.length_append]; omega
      · simp only [encPs, List.length_append]
        rw [List.take_add, k2, List.drop_drop, e4]
/-- What is taken is the encoding of what is returned. -/
theorem decR_back (s : List UInt8) (i : Int) (l : List Pic) (h : decR s = .inr (i, l)) : validA i l = true ∧ s = encA i l := by
  unfold decR at h
  by_cases h1 : (intR s 0).2.2 = 0
  · rw [if_neg (fun e => e h1)] at h
    obtain ⟨k1, k2, k3⟩ := intR_back s 0 h1
    obtain ⟨a1, ha1⟩ : ∃ a1 : Nat, a1 = (putL (intR s 0).1).length := ⟨_, rfl⟩
    have ea1 : (intR s 0).2.1 = (a1 : Int) := by
      have : (intR s 0).2.1 = ((0 : Nat) : Int) + (putL (intR s 0).1).length := k2
      omega
    rw [ea1] at h
    by_cases h2 : (intR s a1).2.2 = 0
    · rw [if_neg (fun e => e h2)] at h
      by_cases h3 : (intR s a1).1 < 1 ∨ 2000 < (intR s a1).1
      · rw [if_pos h3] at h; cases h
      · rw [if_neg h3] at h
        obtain ⟨j1, j2, j3⟩ := intR_back s a1 h2
        obtain ⟨a2, ha2⟩ : ∃ a2 : Nat, a2 = a1 + (putL (intR s a1).1).length := ⟨_, rfl⟩
        have ea2 : (intR s a1).2.1 = (a2 : Int) := by omega
        rw [ea2] at h
        rcases hp : picsR s (intR s a1).1.toNat a2 [] with e | ⟨l1, b⟩
        · rw [hp] at h; cases h
        · rw [hp] at h
          dsimp only at h
          by_cases hb : b = s.length
          · rw [if_neg (fun e => e hb)] at h
            cases hv : validA (intR s 0).1 l1
            · rw [if_pos hv] at h; cases h
            · rw [if_neg (by rw [hv]; simp)] at h
              simp only [Sum.inr.injEq, Prod.mk.injEq] at h
              obtain ⟨rfl, rfl⟩ := h
              refine ⟨hv, ?_⟩
              obtain ⟨l', e1, e2, e3, e4⟩ := picsR_back s _ a2 [] l1 b hp
              rw [List.nil_append] at e1
              subst e1
              have hlen : ((l1.length : Nat) : Int) = (intR s a1).1 := by omega
              unfold encA
              rw [hlen]
              have hs : s = s.take (a2 + (encPs l1).length) := by rw [List.take_of_length_le (by omega)]
              have t0 : (s.drop 0).take (putL (intR s 0).1).length = putL (intR s 0).1 := k3
              rw [List.drop_zero, ← ha1] at t0
              refine hs.trans ?_
              rw [List.take_add, e4]
              congr 1
              rw [ha2, List.take_add, j3, t0]
          · rw [if_pos hb] at h; cases h
    · rw [if_pos h2] at h; cases h
  · rw [if_pos h1] at h; cases h
theorem decR_err (s : List UInt8) (e : Int) (h : decR s = .inl e) : e = 10 ∨ e = 120 := by
  have hp : ∀ a e, picR s a = .inl e → e = 10 ∨ e = 120 := by
    intro a e h
    unfold picR at h
    repeat' split at h
    all_goals first | (cases h; simp) | cases h
  have hps : ∀ n a acc e, picsR s n a acc = .inl e → e = 10 ∨ e = 120 := by
    intro n
    induction n with
    | zero => intro a acc e h; simp [picsR] at h
    | succ n ih =>
      intro a acc e h
      simp only [picsR] at h
      rcases hq : picR s a with e' | ⟨c, b1⟩
      · rw [hq] at h; cases h; exact hp a e hq
      · rw [hq] at h; exact ih _ _ _ h
  unfold decR at h
  by_cases h1 : (intR s 0).2.2 ≠ 0
  · rw [if_pos h1] at h; cases h; simp
  · rw [if_neg h1] at h
    by_cases h2 : (intR s (intR s 0).2.1).2.2 ≠ 0
    · rw [if_pos h2] at h; cases h; simp
    · rw [if_neg h2] at h
      by_cases h3 : (intR s (intR s 0).2.1).1 < 1 ∨ 2000 < (intR s (intR s 0).2.1).1
      · rw [if_pos h3] at h; cases h; simp
      · rw [if_neg h3] at h
        rcases hq : picsR s (intR s (intR s 0).2.1).1.toNat (intR s (intR s 0).2.1).2.1 [] with e' | ⟨l1, b⟩
        · rw [hq] at h; cases h; exact hps _ _ _ _ hq
        · rw [hq] at h
          dsimp only at h
          repeat' split at h
          all_goals first | (cases h; simp) | cases h
end Onair
