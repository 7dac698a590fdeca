/-
  Orders, the law Repeats: plain lemmas (what the law keeps of the last sendings, beside the postings), and pick.
-/
import Derived.Test.YtjkiidhnmljmbaaDoorOrHd
set_option linter.unusedVariables false
set_option linter.unusedSimpArgs false
namespace Go.Proofs.YtjkiidhnmljmbaaDoor
open Go.RowKit
def pickO (c n : Int) : Int := if c < 0 then (-(c + 1)) % n else c % n
theorem pickO_bd (c n : Int) (hn : 0 < n) : 0 ≤ pickO c n ∧ pickO c n < n := by
  unfold pickO
  split
  · exact ⟨Int.emod_nonneg _ (by omega), Int.emod_lt_of_pos _ hn⟩
  · exact ⟨Int.emod_nonneg _ (by omega), Int.emod_lt_of_pos _ hn⟩
section
theorem pickO_any (c n : Int) (w : World) (h0 : -9223372036854775808 ≤ c) (h1 : c ≤ 9223372036854775807) (hn : 1 ≤ n) (hn2 : n ≤ 9223372036854775807) :
    Calls Tryd.prog 13 #[.int .i64 c, .int .i64 n] w fun e w' => e = .returned (.int .i64 (pickO c n)) ∧ w = w' := by
  by_cases hc : c < 0
  · have e : pickO c n = (-(c + 1)) % n := by unfold pickO; rw [if_pos hc]
    rw [e]
    clear e
    go_enter Tryd.func13, Tryd.ntmps13
    go_wp2
    go_ret
    exact ⟨by rw [← Int.neg_tmod, Int.tmod_eq_emod_of_nonneg (by omega)]; rfl, rfl⟩
  · have e : pickO c n = c % n := by unfold pickO; rw [if_neg hc]
    rw [e]
    clear e
    have hc' : 0 ≤ c := by omega
    go_enter Tryd.func13, Tryd.ntmps13
    go_wp2
    go_ret
    exact ⟨rfl, rfl⟩
end
/-- The law's notes of the last sendings, behind the messages Ms at a frame t - 1. -/
def stampL (C : List Int) (Ms : List (Nat × Int)) (t : Int) : List Int := Ms.foldl (fun c x => c.set (x.1 + 1) t) C
theorem stampL_len (Ms : List (Nat × Int)) (t : Int) : ∀ C : List Int, (stampL C Ms t).length = C.length := by
  induction Ms with
  | nil => intro C; rfl
  | cons y r ih => intro C; exact (ih _).trans (List.length_set ..)
theorem stampL_out (t : Int) (m : Nat) (Ms : List (Nat × Int)) : ∀ C : List Int, (∀ x ∈ Ms, x.1 + 1 ≠ m) → (stampL C Ms t)[m]? = C[m]? := by
  induction Ms with
  | nil => intro C _; rfl
  | cons y r ih =>
    intro C h
    refine (ih (C.set (y.1 + 1) t) (fun x hx => h x (List.mem_cons_of_mem _ hx))).trans ?_
    exact List.getElem?_set_ne (h y List.mem_cons_self)
theorem stampL_in (t : Int) (x : Nat × Int) (Ms : List (Nat × Int)) : ∀ C : List Int, x ∈ Ms → x.1 + 1 < C.length → (stampL C Ms t)[x.1 + 1]? = some t := by
  induction Ms with
  | nil => intro C h; cases h
  | cons y r ih =>
    intro C h hl
    by_cases hr : ∃ z ∈ r, z.1 = x.1
    · obtain ⟨z, hz, he⟩ := hr
      have key : ∀ (Ms : List (Nat × Int)) (C : List Int), z ∈ Ms → z.1 + 1 < C.length → (stampL C Ms t)[z.1 + 1]? = some t := by
        intro Ms
        induction Ms with
        | nil => intro C h; cases h
        | cons y r ih2 =>
          intro C h hl
          by_cases hz2 : z ∈ r
          · exact ih2 _ hz2 (by rw [List.length_set]; exact hl)
          · have hzy : z = y := by
              rcases List.mem_cons.1 h with h | h
              · exact h
              · exact absurd h hz2
            subst hzy
            by_cases hr2 : ∀ q ∈ r, q.1 + 1 ≠ z.1 + 1
            · refine (stampL_out t _ r (C.set (z.1 + 1) t) hr2).trans ?_
              rw [List.getElem?_set_self hl]
            · have : ∀ (r : List (Nat × Int)) (C : List Int), z.1 + 1 < C.length → (∃ q ∈ r, q.1 + 1 = z.1 + 1) → (stampL C r t)[z.1 + 1]? = some t := by
                intro r
                induction r with
                | nil => intro C _ h; obtain ⟨q, hq, _⟩ := h; cases hq
                | cons y r ih3 =>
                  intro C hl h
                  by_cases hh : ∃ q ∈ r, q.1 + 1 = z.1 + 1
                  · exact ih3 _ (by rw [List.length_set]; exact hl) hh
                  · have hy : y.1 + 1 = z.1 + 1 := by
                      obtain ⟨q, hq, he⟩ := h
                      rcases List.mem_cons.1 hq with h | h
                      · rw [← h]; exact he
                      · exact absurd ⟨q, h, he⟩ hh
                    refine (stampL_out t _ r (C.set (y.1 + 1) t) (fun q hq he => hh ⟨q, hq, he⟩)).trans ?_
                    rw [hy, List.getElem?_set_self hl]
              refine this r _ (by rw [List.length_set]; exact hl) ?_
              simpa using hr2
      have := key r (C.set (y.1 + 1) t) hz (by rw [List.length_set, he]; exact hl)
      rw [he] at this
      exact this
    · have hxy : x = y := by
        rcases List.mem_cons.1 h with h | h
        · exact h
        · exact absurd ⟨x, h, rfl⟩ hr
      subst hxy
      refine (stampL_out t _ r (C.set (x.1 + 1) t) (fun z hz he => hr ⟨z, hz, by omega⟩)).trans ?_
      rw [List.getElem?_set_self hl]
theorem sentL_mem (L : List Pst) (f : Nat) (now : Int) (x : Nat × Int) : ∀ m, x ∈ sentL L f now m → f ≤ x.1 ∧ x.1 < m ∧ ∃ p, L[x.1]? = some p ∧ p.due now = true
  | 0, h => by cases h
  | m + 1, h => by
    rcases List.mem_append.1 (show x ∈ sentL L f now m ++ _ from h) with h | h
    · obtain ⟨h1, h2, h3⟩ := sentL_mem L f now x m h
      exact ⟨h1, by omega, h3⟩
    · cases hp : L[m]? with
      | none => rw [hp] at h; cases h
      | some p =>
        rw [hp] at h
        by_cases hc : f ≤ m ∧ p.due now = true
        · simp only [hc, and_self, if_true, List.mem_singleton] at h
          subst h
          exact ⟨hc.1, by show m < m + 1; omega, p, hp, hc.2⟩
        · simp only [hc, if_false] at h
          cases h
theorem sentL_all (L : List Pst) (f : Nat) (now : Int) (j : Nat) (p : Pst) (hp : L[j]? = some p) (hd : p.due now = true) (hf : f ≤ j) : ∀ m, j < m → ∃ x ∈ sentL L f now m, x.1 = j
  | 0, h => absurd h (Nat.not_lt_zero _)
  | m + 1, h => by
    by_cases e : j = m
    · subst e
      refine ⟨(j, p.fr), ?_, rfl⟩
      rw [sentL_yes L f j now p hf hp hd]
      exact List.mem_append_right _ (List.mem_singleton.2 rfl)
    · obtain ⟨x, hx, he⟩ := sentL_all L f now j p hp hd hf m (by omega)
      exact ⟨x, List.mem_append_left _ hx, he⟩
/-- The law's notes C and the postings L agree. -/
structure RepI (L : List Pst) (C : List Int) (n : Nat) (now : Int) : Prop where
  ll : L.length = n
  cl : C.length = n + 1
  rel : ∀ j p, L[j]? = some p → ∃ t, C[j + 1]? = some t ∧ 0 ≤ t ∧ t ≤ now ∧ p.sent = decide (0 < t) ∧ (0 < t → p.at_ = t - 1) ∧ 0 ≤ p.at_ ∧ p.at_ ≤ now
theorem RepI.tick {L : List Pst} {C : List Int} {n : Nat} {now : Int} (h : RepI L C n now) (h0 : 0 ≤ now) (f : Nat) : RepI (updL L f n now) (stampL C (sentL L f now n) (now + 1)) n (now + 1) := by
  refine ⟨by rw [updL_len]; exact h.ll, by rw [stampL_len]; exact h.cl, fun j q hq => ?_⟩
  rw [updL_get] at hq
  cases hp : L[j]? with
  | none => rw [hp] at hq; cases hq
  | some p =>
    rw [hp] at hq
    simp only [Option.map_some, Option.some.injEq] at hq
    have hj : j < n := by rw [← h.ll]; exact (List.getElem?_eq_some_iff.1 hp).1
    obtain ⟨t, h1, h2, h3, h4, h5, h6, h7⟩ := h.rel j p hp
    by_cases hc : f ≤ j ∧ p.due now = true
    · obtain ⟨x, hx, he⟩ := sentL_all L f now j p hp hc.2 hc.1 n hj
      rw [if_pos ⟨hc.1, hj⟩] at hq
      unfold Pst.upd at hq
      rw [if_pos hc.2] at hq
      subst hq
      have := stampL_in (now + 1) x (sentL L f now n) C hx (by rw [he, h.cl]; omega)
      rw [he] at this
      exact ⟨now + 1, this, by omega, Int.le_refl _, by simp; omega, fun _ => by show now = _; omega, h0, by show now ≤ _; omega⟩
    · have hqp : p = q := by
        by_cases hfj : f ≤ j ∧ j < n
        · rw [if_pos hfj] at hq
          unfold Pst.upd at hq
          rw [if_neg (fun hd => hc ⟨hfj.1, hd⟩)] at hq
          exact hq
        · rw [if_neg hfj] at hq
          exact hq
      subst hqp
      refine ⟨t, ?_, h2, by omega, h4, h5, h6, by omega⟩
      rw [stampL_out]
      · exact h1
      · intro y hy he
        obtain ⟨g1, _, p', hp', hd'⟩ := sentL_mem L f now y n hy
        have ej : y.1 = j := by omega
        rw [ej, hp] at hp'
        cases hp'
        exact hc ⟨by omega, hd'⟩
/-- The notes behind the clearing of a + 1 to m - 1. -/
def clrC (C : List Int) (a m : Nat) : List Int := C.mapIdx fun i t => if a < i ∧ i < m then 0 else t
theorem clrC_len (C : List Int) (a m : Nat) : (clrC C a m).length = C.length := by simp [clrC]
theorem clrC_get (C : List Int) (a m i : Nat) : (clrC C a m)[i]? = (C[i]?).map fun t => if a < i ∧ i < m then 0 else t := by simp [clrC]
theorem RepI.clear {L : List Pst} {C : List Int} {n : Nat} {now : Int} (h : RepI L C n now) (h0 : 0 ≤ now) (a : Nat) : RepI (clrL L a n) (clrC C a (n + 1)) n now := by
  refine ⟨by rw [clrL_len]; exact h.ll, by rw [clrC_len]; exact h.cl, fun j q hq => ?_⟩
  rw [clrL_get] at hq
  cases hp : L[j]? with
  | none => rw [hp] at hq; cases hq
  | some p =>
    rw [hp] at hq
    simp only [Option.map_some, Option.some.injEq] at hq
    have hj : j < n := by rw [← h.ll]; exact (List.getElem?_eq_some_iff.1 hp).1
    obtain ⟨t, h1, h2, h3, h4, h5, h6, h7⟩ := h.rel j p hp
    rw [clrC_get, h1]
    by_cases hc : a ≤ j
    · rw [if_pos ⟨hc, hj⟩] at hq
      subst hq
      refine ⟨0, by simp only [Option.map_some]; rw [if_pos ⟨by omega, by omega⟩], Int.le_refl _, h0, by simp, fun h => absurd h (by omega), Int.le_refl _, h0⟩
    · rw [if_neg (fun h => hc h.1)] at hq
      subst hq
      exact ⟨t, by simp only [Option.map_some]; rw [if_neg (fun h => hc (by omega))], h2, h3, h4, h5, h6, h7⟩
end Go.Proofs.YtjkiidhnmljmbaaDoor
