/-
  The reference's reading in plain words.
  The reference's reading of an order in plain words.
  The reference's reading of a message in plain words.
-/
import Derived.Test.YtjkiidhnmljmbaaGreatDoorGoPQ
import Derived.Test.YtjkiidhnmljmbaaGreatDoorRkAC
import Derived.Test.YtjkiidhnmljmbaaGreatDoorGoUV
set_option linter.unusedVariables false
set_option linter.unusedSimpArgs false
namespace Go.Proofs.YtjkiidhnmljmbaaGreatDoor
open Go.RowKit Onair
theorem rkL_none (l : List UInt8) : ∀ (n : Nat) (a : Int), readN l n a = none → (rkL l n (a, 0)).2.2 ≠ 0
  | 0, a, h => by simp [readN] at h
  | n + 1, a, h => by
    simp only [rkL]
    unfold readN at h
    by_cases h0 : (intR l a).2.2 = 0
    · rw [if_pos h0] at h
      rw [show rkN l (a, 0) = ((intR l a).1, (intR l a).2.1, 0) from by unfold rkN; rw [if_pos rfl, if_pos h0]]
      exact rkL_none l n _ (by simpa using h)
    · rw [show rkN l (a, 0) = (0, a, 10) from by unfold rkN; rw [if_pos rfl, if_neg h0]]
      exact rkL_err l n _ (by show (10 : Int) ≠ 0; decide)
theorem rkL_some (l : List UInt8) : ∀ (n : Nat) (a : Int) (vs : List Int) (b : Int), readN l n a = some (vs, b) → rkL l n (a, 0) = (vs, b, 0)
  | 0, a, vs, b, h => by simp [readN] at h; simp [rkL, h]
  | n + 1, a, vs, b, h => by
    unfold readN at h
    by_cases h0 : (intR l a).2.2 = 0
    · rw [if_pos h0] at h
      obtain ⟨r, hr, e⟩ := Option.map_eq_some_iff.1 h
      simp only [rkL]
      rw [show rkN l (a, 0) = ((intR l a).1, (intR l a).2.1, 0) from by unfold rkN; rw [if_pos rfl, if_pos h0], rkL_some l n _ r.1 r.2 hr]
      simp only [Prod.mk.injEq] at e
      rw [← e.1, ← e.2]
    · rw [if_neg h0] at h
      cases h
/-- The other way: what was read without an error is a reading. -/
theorem rkL_back (l : List UInt8) (n : Nat) (a : Int) (vs : List Int) (b : Int) (h : rkL l n (a, 0) = (vs, b, 0)) : readN l n a = some (vs, b) := by
  cases hr : readN l n a with
  | none => exact absurd (by rw [h]) (rkL_none l n a hr)
  | some r =>
    obtain ⟨ws, c⟩ := r
    rw [rkL_some l n a ws c hr] at h
    simp only [Prod.mk.injEq] at h
    rw [h.1, h.2.1]
end Go.Proofs.YtjkiidhnmljmbaaGreatDoor
namespace Go.Proofs.YtjkiidhnmljmbaaGreatDoor
open Go.RowKit Onair
theorem intR_le (l : List UInt8) (a : Int) (h : (intR l a).2.2 = 0) : (intR l a).2.1 ≤ (l.length : Int) := by
  unfold intR at h ⊢
  split at h
  · exact absurd h (by decide)
  · rename_i hn
    rw [if_neg hn]
    cases hd : decI 9 0 0 (l.drop a.toNat) with
    | none => rw [hd] at h; exact absurd h (by show ¬ ((10 : Int) = 0); decide)
    | some q =>
      obtain ⟨n, k⟩ := q
      have := (decI_bound 9 0 0 _ n k rfl (by decide) hd).2.1
      rw [List.length_drop] at this
      show a + (k : Int) ≤ _
      omega
theorem rkN_le (l : List UInt8) (s : Int × Int) (h : s.1 ≤ (l.length : Int)) : (rkN l s).2.1 ≤ (l.length : Int) := by
  unfold rkN
  split
  · split
    · exact intR_le l s.1 (by assumption)
    · exact h
  · exact h
theorem rkL_le (l : List UInt8) : ∀ (n : Nat) (s : Int × Int), s.1 ≤ (l.length : Int) → (rkL l n s).2.1 ≤ (l.length : Int)
  | 0, s, h => h
  | n + 1, s, h => by
    simp only [rkL]
    exact rkL_le l n _ (rkN_le l s h)
theorem rkC_le (l : List UInt8) (s : Int × Int) (h : s.1 ≤ (l.length : Int)) : (rkC l s).2.1 ≤ (l.length : Int) := by
  unfold rkC
  have := rkN_le l s h
  split
  · split
    · exact this
    · exact this
  · exact this
theorem strR_le (l : List UInt8) (a : Int) (h : (strR l a).2.2 = 0) : (strR l a).2.1 ≤ (l.length : Int) := by
  by_cases h0 : (intR l a).2.2 = 0
  · by_cases h2 : (intR l a).1 < 0 ∨ 65536 < (intR l a).1 ∨ (l.length : Int) - (intR l a).2.1 < (intR l a).1
    · rw [strR_bad h0 h2] at h
      exact absurd h (by decide)
    · rw [strR_good h0 h2]
      show (intR l a).2.1 + (intR l a).1 ≤ (l.length : Int)
      omega
  · rw [strR_err h0] at h
    exact absurd h h0
theorem rkT_le (l : List UInt8) (s : Int × Int) (h : s.1 ≤ (l.length : Int)) : (rkT l s).2.1 ≤ (l.length : Int) := by
  unfold rkT
  split
  · split
    · exact strR_le l s.1 (by assumption)
    · exact h
  · exact h
/-- Nothing that an order could be read from. -/
def NoOrd (R : OutO) : Prop := ∀ o al, R ≠ .ok o al
theorem noOrd_wire : NoOrd .wire := fun _ _ e => by cases e
theorem noOrd_bad : NoOrd .bad := fun _ _ e => by cases e
section
variable {l : List UInt8} {n0 n1 n2 n3 a4 e4 : Int} (h4 : rkL l 4 (0, 0) = ([n0, n1, n2, n3], a4, e4))
include h4
theorem rk_four (he : e4 = 0) : readN l 4 0 = some ([n0, n1, n2, n3], a4) := rkL_back l 4 0 _ _ (by rw [h4, he])
theorem rk_err4 (he : e4 ≠ 0) : NoOrd (ordR l) := by
  cases hr : readN l 4 0 with
  | none => rw [ordR_none hr]; exact noOrd_wire
  | some r =>
    obtain ⟨vs, b⟩ := r
    rw [rkL_some l 4 0 vs b hr] at h4
    simp only [Prod.mk.injEq] at h4
    exact absurd h4.2.2.symm he
theorem rk_other (hk : ¬ (1 ≤ n3 ∧ n3 ≤ 5)) : NoOrd (ordR l) := by
  by_cases he : e4 = 0
  · rw [ordR_some (rk_four h4 he), ordB_bad (by exact hk)]
    exact noOrd_bad
  · exact rk_err4 h4 he
theorem rk_ord (hk : 1 ≤ n3 ∧ n3 ≤ 5) {m : Nat} (hm : (ofsK n3).length = m) {vs : List Int} {a e : Int} (h : rkL l m (a4, e4) = (vs, a, e)) :
    (e ≠ 0 → NoOrd (ordR l)) ∧ (e = 0 → ordR l = ordC l ((o4 [n0, n1, n2, n3]).withN vs) a) := by
  by_cases he : e4 = 0
  · subst he
    have hr := ordR_some (rk_four h4 rfl)
    constructor
    · intro h0
      rw [hr]
      cases hq : readN l m a4 with
      | none => rw [ordB_none (by exact hk) (by rw [show (o4 [n0, n1, n2, n3]).k = n3 from rfl, hm]; exact hq)]; exact noOrd_wire
      | some r =>
        obtain ⟨ws, b⟩ := r
        rw [rkL_some l m a4 ws b hq] at h
        simp only [Prod.mk.injEq] at h
        exact absurd h.2.2.symm h0
    · intro h0
      subst h0
      rw [hr, ordB_some (by exact hk) (by rw [show (o4 [n0, n1, n2, n3]).k = n3 from rfl, hm]; exact rkL_back l m a4 vs a h)]
  · refine ⟨fun _ => rk_err4 h4 he, fun h0 => ?_⟩
    have := rkL_err l m (a4, e4) he
    rw [h] at this
    exact absurd h0 this
theorem rk_text (hk : n3 = 5) {vs : List Int} {a e : Int} (h : rkL l 4 (a4, e4) = (vs, a, e)) {t : List UInt8} {a' e' : Int} (ht : rkT l (a, e) = (t, a', e')) :
    (e' ≠ 0 → NoOrd (ordR l)) ∧ (e' = 0 → ordR l = finO l (((o4 [n0, n1, n2, n3]).withN vs).withT t) [] a') := by
  obtain ⟨h1, h2⟩ := rk_ord h4 (by omega) (by rw [hk]; rfl) h
  have hk5 : ((o4 [n0, n1, n2, n3]).withN vs).k = 5 := (withN_k _ _).trans hk
  by_cases he : e = 0
  · rw [h2 he]
    subst he
    unfold rkT at ht
    rw [if_pos rfl] at ht
    by_cases h0 : (strR l a).2.2 = 0
    · rw [if_pos h0] at ht
      simp only [Prod.mk.injEq] at ht
      refine ⟨fun h => absurd ht.2.2.symm h, fun _ => ?_⟩
      rw [ordC_5s hk5 h0, ← ht.1, ← ht.2.1]
    · rw [if_neg h0] at ht
      simp only [Prod.mk.injEq] at ht
      rw [ordC_5n hk5 h0]
      exact ⟨fun _ => noOrd_wire, fun h => absurd (ht.2.2.trans h) (by decide)⟩
  · refine ⟨fun _ => h1 he, fun h0 => ?_⟩
    unfold rkT at ht
    rw [if_neg he] at ht
    simp only [Prod.mk.injEq] at ht
    exact absurd (ht.2.2.trans h0) he
theorem rk_alts (hk : n3 = 3) {vs : List Int} {a e : Int} (h : rkL l 6 (a4, e4) = (vs, a, e)) {i : Nat} {ws : List Int} {a' e' : Int} (hw : rkL l (2 * i) (rkC l (a, e)).2 = (ws, a', e')) (hi : e' = 0 → (i : Int) = (rkC l (a, e)).1) (hle : (i : Int) ≤ (rkC l (a, e)).1) :
    (e' ≠ 0 → NoOrd (ordR l)) ∧ (e' = 0 → ordR l = finO l (((o4 [n0, n1, n2, n3]).withN vs).withL i) (pairsL ws) a') := by
  obtain ⟨h1, h2⟩ := rk_ord h4 (by omega) (by rw [hk]; rfl) h
  have hk3 : ((o4 [n0, n1, n2, n3]).withN vs).k = 3 := (withN_k _ _).trans hk
  by_cases he : e = 0
  · rw [h2 he]
    subst he
    by_cases h0 : (intR l a).2.2 = 0
    · have hn : rkN l (a, 0) = ((intR l a).1, (intR l a).2.1, 0) := by unfold rkN; rw [if_pos rfl, if_pos h0]
      by_cases hc : (intR l a).1 < 0 ∨ 7 < (intR l a).1
      · rw [ordC_3b hk3 h0 hc]
        have hC : rkC l (a, 0) = (0, (intR l a).2.1, 110) := by unfold rkC; rw [hn, if_pos rfl, if_pos hc]
        refine ⟨fun _ => noOrd_bad, fun h => ?_⟩
        rw [hC] at hw
        have := rkL_err l (2 * i) ((intR l a).2.1, 110) (by show (110 : Int) ≠ 0; decide)
        rw [hw] at this
        exact absurd h this
      · have hC : rkC l (a, 0) = ((intR l a).1, (intR l a).2.1, 0) := by unfold rkC; rw [hn, if_pos rfl, if_neg hc]
        rw [hC] at hw hi hle
        simp only at hw hi hle
        constructor
        · intro h9
          cases hq : readN l (2 * (intR l a).1.toNat) (intR l a).2.1 with
          | none => rw [ordC_3w hk3 h0 hc hq]; exact noOrd_wire
          | some r =>
            obtain ⟨us, b⟩ := r
            have h8 := rkL_some l _ _ us b hq
            obtain ⟨d, hd⟩ : ∃ d, 2 * (intR l a).1.toNat = 2 * i + d := ⟨2 * (intR l a).1.toNat - 2 * i, by omega⟩
            rw [hd, rkL_app, hw] at h8
            simp only [Prod.mk.injEq] at h8
            exact absurd h8.2 (fun e => rkL_err l d (a', e') h9 (by rw [e]))
        · intro h9
          subst h9
          have hi9 := hi rfl
          have : i = (intR l a).1.toNat := by omega
          rw [ordC_3s hk3 h0 hc (by rw [← this]; exact rkL_back l _ _ ws a' hw), ← this]
    · rw [ordC_3n hk3 h0]
      refine ⟨fun _ => noOrd_wire, fun h => ?_⟩
      have hn : rkN l (a, 0) = (0, a, 10) := by unfold rkN; rw [if_pos rfl, if_neg h0]
      have hC : rkC l (a, 0) = (0, a, 10) := by unfold rkC; rw [hn, if_neg (by show ¬ ((10 : Int) = 0); decide)]
      rw [hC] at hw
      have := rkL_err l (2 * i) (a, 10) (by show (10 : Int) ≠ 0; decide)
      rw [hw] at this
      exact absurd h this
  · refine ⟨fun _ => h1 he, fun h => ?_⟩
    have hn : rkN l (a, e) = (0, a, e) := by unfold rkN; rw [if_neg he]
    have hC : rkC l (a, e) = (0, a, e) := by unfold rkC; rw [hn, if_neg he]
    rw [hC] at hw
    have := rkL_err l (2 * i) (a, e) he
    rw [hw] at this
    exact absurd h this
end
end Go.Proofs.YtjkiidhnmljmbaaGreatDoor
namespace Go.Proofs.YtjkiidhnmljmbaaGreatDoor
open Go.RowKit Onair
theorem rkN_keep (l : List UInt8) (s : Int × Int) (h : s.2 ≠ 0) : (rkN l s).2 = s := by
  unfold rkN
  rw [if_neg h]
theorem rkL_keep (l : List UInt8) : ∀ (n : Nat) (s : Int × Int), s.2 ≠ 0 → (rkL l n s).2 = s
  | 0, s, h => rfl
  | n + 1, s, h => by
    simp only [rkL]
    rw [rkN_keep l s h]
    exact rkL_keep l n s h
theorem rkL_code (l : List UInt8) : ∀ (n : Nat) (a : Int), (rkL l n (a, 0)).2.2 = 0 ∨ (rkL l n (a, 0)).2.2 = 10
  | 0, a => .inl rfl
  | n + 1, a => by
    simp only [rkL]
    by_cases h0 : (intR l a).2.2 = 0
    · rw [show rkN l (a, 0) = ((intR l a).1, (intR l a).2.1, 0) from by unfold rkN; rw [if_pos rfl, if_pos h0]]
      exact rkL_code l n _
    · rw [show rkN l (a, 0) = (0, a, 10) from by unfold rkN; rw [if_pos rfl, if_neg h0]]
      rw [rkL_keep l n (a, 10) (by show (10 : Int) ≠ 0; decide)]
      exact .inr rfl
/-- What the numbers of a message come to. -/
theorem rk_msg {l : List UInt8} {k a1 e1 a5 e5 : Int} {vs : List Int} {q1 : Int × Int} (h1 : rkN l (0, 0) = (k, a1, e1)) (hq : q1 = if e1 = 0 ∧ ¬ (1 ≤ k ∧ k ≤ 3) then (a1, 200) else (a1, e1)) (h4 : rkL l 4 q1 = (vs, a5, e5)) :
    (e5 ≠ 0 → (e5 = 200 ∧ msgR l = .mean) ∨ (e5 = 10 ∧ msgR l = .short)) ∧ (e5 = 0 → (1 ≤ k ∧ k ≤ 3) ∧ msgR l = msgT l k vs a5 ∧ a5 ≤ (l.length : Int)) := by
  by_cases h0 : (intR l 0).2.2 = 0
  · have hn : rkN l (0, 0) = ((intR l 0).1, (intR l 0).2.1, 0) := by unfold rkN; rw [if_pos rfl, if_pos h0]
    rw [hn] at h1
    simp only [Prod.mk.injEq] at h1
    obtain ⟨r1, r2, r3⟩ := h1
    by_cases hk : 1 ≤ k ∧ k ≤ 3
    · rw [if_neg (fun h => h.2 hk)] at hq
      rw [hq, ← r3] at h4
      cases hr : readN l 4 a1 with
      | none =>
        have h9 := rkL_none l 4 a1 hr
        have h8 := rkL_code l 4 a1
        rw [h4] at h9 h8
        refine ⟨fun _ => .inr ⟨h8.resolve_left h9, msgR_none h0 (by rw [r1]; exact hk) (by rw [r2]; exact hr)⟩, fun h => absurd h h9⟩
      | some r =>
        obtain ⟨ws, c⟩ := r
        rw [rkL_some l 4 a1 ws c hr] at h4
        simp only [Prod.mk.injEq] at h4
        obtain ⟨s1, s2, s3⟩ := h4
        refine ⟨fun h => absurd s3.symm h, fun _ => ⟨hk, ?_, ?_⟩⟩
        · rw [msgR_some h0 (by rw [r1]; exact hk) (by rw [r2]; exact hr), r1, s1, s2]
        · have h7 := rkL_le l 4 (a1, 0) (by rw [← r2]; exact intR_le l 0 h0)
          rw [rkL_some l 4 a1 ws c hr] at h7
          rw [← s2]
          exact h7
    · rw [if_pos ⟨r3.symm, hk⟩] at hq
      have h9 := rkL_keep l 4 (a1, 200) (by show (200 : Int) ≠ 0; decide)
      rw [← hq, h4, hq] at h9
      simp only [Prod.mk.injEq] at h9
      refine ⟨fun _ => .inl ⟨h9.2, msgR_mean h0 (by rw [r1]; exact hk)⟩, fun h => ?_⟩
      rw [h9.2] at h
      exact absurd h (by decide)
  · have hn : rkN l (0, 0) = (0, 0, 10) := by unfold rkN; rw [if_pos rfl, if_neg h0]
    rw [hn] at h1
    simp only [Prod.mk.injEq] at h1
    obtain ⟨r1, r2, r3⟩ := h1
    rw [if_neg (fun h => by have := r3.trans h.1; exact absurd this (by decide)), ← r2, ← r3] at hq
    have h9 := rkL_keep l 4 (0, 10) (by show (10 : Int) ≠ 0; decide)
    rw [← hq, h4, hq] at h9
    simp only [Prod.mk.injEq] at h9
    refine ⟨fun _ => .inr ⟨h9.2, msgR_short h0⟩, fun h => ?_⟩
    rw [h9.2] at h
    exact absurd h (by decide)
end Go.Proofs.YtjkiidhnmljmbaaGreatDoor
