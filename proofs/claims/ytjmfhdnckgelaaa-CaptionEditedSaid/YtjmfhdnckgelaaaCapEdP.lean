/-
  Edits in plain words: repeating, exchanging, cancelling.
-/
import Derived.Test.YtjmfhdnckgelaaaCapShow
set_option linter.unusedVariables false
set_option linter.unusedSimpArgs false
namespace Go.Proofs.Ytjmfhdnckgelaaa
/-- The edit c, from the left. -/
def ed (c : Cue) : List Cue → Bool → List Cue
  | [], p => if p = true then [c] else []
  | x :: l, p => if x.id = c.id then ed c l p else if p = true ∧ c.id < x.id then c :: x :: ed c l false else x :: ed c l p
theorem ed_cons (c x : Cue) (l : List Cue) (p : Bool) : ed c (x :: l) p = if x.id = c.id then ed c l p else if p = true ∧ c.id < x.id then c :: x :: ed c l false else x :: ed c l p := rfl
theorem estep_eq (c x : Cue) (acc : List Cue) (p : Bool) : estep c (acc, p) x = if x.id = c.id then (acc, p) else if p = true ∧ c.id < x.id then (acc ++ [c] ++ [x], false) else (acc ++ [x], p) := rfl
theorem ed_fold (c : Cue) (l : List Cue) (acc : List Cue) (p : Bool) : efin c (l.foldl (estep c) (acc, p)) = acc ++ ed c l p := by
  induction l generalizing acc p with
  | nil =>
    unfold efin ed
    cases p <;> simp
  | cons x l ih =>
    rw [List.foldl_cons, estep_eq, ed_cons]
    by_cases h1 : x.id = c.id
    · rw [if_pos h1, if_pos h1]
      exact ih acc p
    · rw [if_neg h1, if_neg h1]
      by_cases h2 : p = true ∧ c.id < x.id
      · rw [if_pos h2, if_pos h2, ih]
        simp
      · rw [if_neg h2, if_neg h2, ih]
        simp
theorem editL_ed (l : List Cue) (c : Cue) : editL l c = ed c l (decide (c.to ≠ 0)) := by
  unfold editL escan
  rw [ed_fold, List.nil_append]
theorem ed_mem (c : Cue) (l : List Cue) (p : Bool) (x : Cue) : x ∈ ed c l p ↔ (x ∈ l ∧ x.id ≠ c.id) ∨ (x = c ∧ p = true) := by
  induction l generalizing p with
  | nil =>
    unfold ed
    cases p <;> simp
  | cons y l ih =>
    unfold ed
    by_cases h1 : y.id = c.id
    · rw [if_pos h1, ih]
      constructor
      · rintro (⟨a, b⟩ | h)
        · exact .inl ⟨List.mem_cons_of_mem _ a, b⟩
        · exact .inr h
      · rintro (⟨a, b⟩ | h)
        · rcases List.mem_cons.1 a with rfl | a
          · exact absurd h1 b
          · exact .inl ⟨a, b⟩
        · exact .inr h
    · rw [if_neg h1]
      by_cases h2 : p = true ∧ c.id < y.id
      · rw [if_pos h2, List.mem_cons, List.mem_cons, ih]
        constructor
        · rintro (rfl | rfl | ⟨a, b⟩ | ⟨a, b⟩)
          · exact .inr ⟨rfl, h2.1⟩
          · exact .inl ⟨List.mem_cons_self, h1⟩
          · exact .inl ⟨List.mem_cons_of_mem _ a, b⟩
          · exact absurd b (by decide)
        · rintro (⟨a, b⟩ | ⟨a, b⟩)
          · rcases List.mem_cons.1 a with rfl | a
            · exact .inr (.inl rfl)
            · exact .inr (.inr (.inl ⟨a, b⟩))
          · exact .inl a
      · rw [if_neg h2, List.mem_cons, ih]
        constructor
        · rintro (rfl | ⟨a, b⟩ | h)
          · exact .inl ⟨List.mem_cons_self, h1⟩
          · exact .inl ⟨List.mem_cons_of_mem _ a, b⟩
          · exact .inr h
        · rintro (⟨a, b⟩ | h)
          · rcases List.mem_cons.1 a with rfl | a
            · exact .inl rfl
            · exact .inr (.inl ⟨a, b⟩)
          · exact .inr (.inr h)
/-- Ascending IDs. -/
def asc (l : List Cue) : Prop := l.Pairwise fun a b => a.id < b.id
theorem ed_asc (c : Cue) (l : List Cue) (p : Bool) (h : asc l) : asc (ed c l p) := by
  induction l generalizing p with
  | nil =>
    unfold ed asc
    cases p <;> simp
  | cons y l ih =>
    unfold asc at *
    rw [List.pairwise_cons] at h
    unfold ed
    by_cases h1 : y.id = c.id
    · rw [if_pos h1]
      exact ih p h.2
    · rw [if_neg h1]
      by_cases h2 : p = true ∧ c.id < y.id
      · rw [if_pos h2, List.pairwise_cons, List.pairwise_cons]
        have hm : ∀ z ∈ ed c l false, y.id < z.id := by
          intro z hz
          rcases (ed_mem c l false z).1 hz with ⟨a, b⟩ | ⟨a, b⟩
          · exact h.1 z a
          · exact absurd b (by decide)
        refine ⟨?_, hm, ih false h.2⟩
        intro z hz
        rcases List.mem_cons.1 hz with rfl | hz
        · exact h2.2
        · have := hm z hz
          omega
      · rw [if_neg h2, List.pairwise_cons]
        refine ⟨?_, ih p h.2⟩
        intro z hz
        rcases (ed_mem c l p z).1 hz with ⟨a, b⟩ | ⟨rfl, b⟩
        · exact h.1 z a
        · have : ¬ z.id < y.id := fun hlt => h2 ⟨b, hlt⟩
          omega
theorem asc_ext (a b : List Cue) (ha : asc a) (hb : asc b) (h : ∀ x, x ∈ a ↔ x ∈ b) : a = b := by
  induction a generalizing b with
  | nil =>
    cases b with
    | nil => rfl
    | cons y b => exact absurd ((h y).2 List.mem_cons_self) (by simp)
  | cons x a ih =>
    cases b with
    | nil => exact absurd ((h x).1 List.mem_cons_self) (by simp)
    | cons y b =>
      unfold asc at ha hb
      rw [List.pairwise_cons] at ha hb
      have hxy : x = y := by
        rcases List.mem_cons.1 ((h x).1 List.mem_cons_self) with e | hx
        · exact e
        · rcases List.mem_cons.1 ((h y).2 List.mem_cons_self) with e | hy
          · exact e.symm
          · have h1 := hb.1 x hx
            have h2 := ha.1 y hy
            omega
      subst hxy
      rw [ih b ha.2 hb.2 (fun z => ?_)]
      constructor
      · intro hz
        rcases List.mem_cons.1 ((h z).1 (List.mem_cons_of_mem _ hz)) with e | hz'
        · subst e
          have := ha.1 z hz
          omega
        · exact hz'
      · intro hz
        rcases List.mem_cons.1 ((h z).2 (List.mem_cons_of_mem _ hz)) with e | hz'
        · subst e
          have := hb.1 z hz
          omega
        · exact hz'
theorem edit_asc (l : List Cue) (c : Cue) (h : asc l) : asc (editL l c) := by rw [editL_ed]; exact ed_asc c l _ h
theorem edit_swap (l : List Cue) (a b : Cue) (h : asc l) (hab : a.id ≠ b.id) : editL (editL l a) b = editL (editL l b) a := by
  apply asc_ext
  · exact edit_asc _ _ (edit_asc _ _ h)
  · exact edit_asc _ _ (edit_asc _ _ h)
  · intro x
    rw [editL_ed, editL_ed, editL_ed, editL_ed, ed_mem, ed_mem, ed_mem, ed_mem]
    constructor
    · rintro (⟨⟨p, q⟩ | ⟨rfl, q⟩, r⟩ | ⟨rfl, q⟩)
      · exact .inl ⟨.inl ⟨p, r⟩, q⟩
      · exact .inr ⟨rfl, q⟩
      · exact .inl ⟨.inr ⟨rfl, q⟩, fun e => hab e.symm⟩
    · rintro (⟨⟨p, q⟩ | ⟨rfl, q⟩, r⟩ | ⟨rfl, q⟩)
      · exact .inl ⟨.inl ⟨p, r⟩, q⟩
      · exact .inr ⟨rfl, q⟩
      · exact .inl ⟨.inr ⟨rfl, q⟩, hab⟩
theorem edit_len (l : List Cue) (c : Cue) : (editL l c).length ≤ l.length + 1 := by
  have h := escan_len c l
  unfold editL efin
  split
  · rename_i h2
    rw [if_pos h2] at h
    simp
    omega
  · omega
theorem ed_again (c : Cue) (l : List Cue) (p : Bool) : ed c (ed c l p) p = ed c l p := by
  have hf : ∀ l, ed c (ed c l false) false = ed c l false := by
    intro l
    induction l with
    | nil => rfl
    | cons x l ih =>
      rw [ed_cons]
      by_cases h1 : x.id = c.id
      · rw [if_pos h1]
        exact ih
      · rw [if_neg h1, if_neg (fun h => absurd h.1 (by decide)), ed_cons, if_neg h1, if_neg (fun h => absurd h.1 (by decide)), ih]
  cases p with
  | false => exact hf l
  | true =>
    induction l with
    | nil =>
      show ed c [c] true = [c]
      unfold ed
      rw [if_pos rfl]
      rfl
    | cons x l ih =>
      rw [show ed c (x :: l) true = if x.id = c.id then ed c l true else if true = true ∧ c.id < x.id then c :: x :: ed c l false else x :: ed c l true from rfl]
      by_cases h1 : x.id = c.id
      · rw [if_pos h1]
        exact ih
      · rw [if_neg h1]
        by_cases h2 : c.id < x.id
        · rw [if_pos ⟨rfl, h2⟩]
          show (if c.id = c.id then ed c (x :: ed c l false) true else _) = _
          rw [if_pos rfl]
          show (if x.id = c.id then _ else if true = true ∧ c.id < x.id then c :: x :: ed c (ed c l false) false else _) = _
          rw [if_neg h1, if_pos ⟨rfl, h2⟩, hf]
        · rw [if_neg (fun h => h2 h.2)]
          show (if x.id = c.id then _ else if true = true ∧ c.id < x.id then _ else x :: ed c (ed c l true) true) = _
          rw [if_neg h1, if_neg (fun h => h2 h.2), ih]
theorem ed_own (c : Cue) (l : List Cue) (p : Bool) : (ed c l p).filter (fun x => x.id == c.id) = if p = true then [c] else [] := by
  induction l generalizing p with
  | nil =>
    unfold ed
    cases p <;> simp
  | cons x l ih =>
    unfold ed
    by_cases h1 : x.id = c.id
    · rw [if_pos h1]
      exact ih p
    · rw [if_neg h1]
      have hx : (x.id == c.id) = false := by rw [beq_eq_false_iff_ne]; exact h1
      by_cases h2 : p = true ∧ c.id < x.id
      · rw [if_pos h2, List.filter_cons, List.filter_cons, hx, ih false]
        simp [h2.1]
      · rw [if_neg h2, List.filter_cons, hx]
        exact ih p
theorem ed_rest (c : Cue) (l : List Cue) (p : Bool) : (ed c l p).filter (fun x => x.id != c.id) = l.filter (fun x => x.id != c.id) := by
  induction l generalizing p with
  | nil =>
    unfold ed
    cases p <;> simp
  | cons x l ih =>
    unfold ed
    by_cases h1 : x.id = c.id
    · rw [if_pos h1, List.filter_cons]
      have hx : (x.id != c.id) = false := by simp [h1]
      rw [hx]
      exact ih p
    · rw [if_neg h1]
      have hx : (x.id != c.id) = true := by simp [h1]
      by_cases h2 : p = true ∧ c.id < x.id
      · rw [if_pos h2, List.filter_cons, List.filter_cons, List.filter_cons, hx, ih false]
        simp
      · rw [if_neg h2, List.filter_cons, List.filter_cons, hx, ih p]
theorem edit_again (l : List Cue) (c : Cue) : editL (editL l c) c = editL l c := by rw [editL_ed, editL_ed, ed_again]
/-- Without the cues of an ID. -/
theorem ed_cancel (c : Cue) (l : List Cue) : ed c l false = l.filter fun x => decide (x.id ≠ c.id) := by
  induction l with
  | nil => rfl
  | cons x l ih =>
    unfold ed
    rw [List.filter_cons]
    by_cases h1 : x.id = c.id
    · rw [if_pos h1, if_neg (by simp [h1]), ih]
    · rw [if_neg h1, if_neg (fun h => absurd h.1 (by decide)), if_pos (by simp [h1]), ih]
/-- What is shown without the cues of an ID. -/
theorem active_cancel (l : List Cue) (f id : Int) : match activeL l f with
    | none => activeL (l.filter fun x => decide (x.id ≠ id)) f = none
    | some x => (x.id ≠ id → activeL (l.filter fun x => decide (x.id ≠ id)) f = some x) ∧ (x.id = id → ∀ y, activeL (l.filter fun x => decide (x.id ≠ id)) f = some y → y.id ≠ id ∧ ¬ bet y x) := by
  induction l using snocRec with
  | h0 => rfl
  | hs l c ih =>
    rw [activeL_snoc, List.filter_append]
    have hfc : (List.filter (fun x : Cue => decide (x.id ≠ id)) [c]) = if c.id ≠ id then [c] else [] := by
      by_cases h : c.id = id <;> simp [h]
    rw [hfc]
    have hr : activeL (l.filter (fun x => decide (x.id ≠ id)) ++ if c.id ≠ id then [c] else []) f = if c.id ≠ id then astep f (activeL (l.filter fun x => decide (x.id ≠ id)) f) c else activeL (l.filter fun x => decide (x.id ≠ id)) f := by
      by_cases h : c.id ≠ id
      · rw [if_pos h, if_pos h, activeL_snoc]
      · rw [if_neg h, if_neg h, List.append_nil]
    rw [hr]
    clear hr hfc
    generalize activeL (l.filter fun x => decide (x.id ≠ id)) f = r at ih ⊢
    generalize activeL l f = o at ih ⊢
    by_cases hc : c.fr ≤ f ∧ f < c.to
    · unfold astep
      rw [if_pos hc, if_pos hc]
      cases o with
      | none =>
        have ih : r = none := ih
        subst ih
        show (c.id ≠ id → _) ∧ (c.id = id → _)
        refine ⟨fun h => by rw [if_pos h], fun h y hy => ?_⟩
        rw [if_neg (fun h' => h' h)] at hy
        exact absurd hy (by simp)
      | some x =>
        obtain ⟨i1, i2⟩ := ih
        show match (if aheadB c x = true then some c else some x) with
          | none => _
          | some x => _
        by_cases ha : aheadB c x = true
        · rw [if_pos ha]
          have hxc := (ahead_iff c x).1 ha
          refine ⟨fun h => ?_, fun h y hy => ?_⟩
          · rw [if_pos h]
            by_cases hx : x.id = id
            · cases r with
              | none => rfl
              | some y =>
                have hy := i2 hx y rfl
                show (if aheadB c y = true then some c else some y) = some c
                rw [if_pos ((ahead_iff c y).2 (bet_trans hy.2 hxc))]
            · rw [i1 hx]
              show (if aheadB c x = true then some c else some x) = some c
              rw [if_pos ha]
          · rw [if_neg (fun h' => h' h)] at hy
            by_cases hx : x.id = id
            · have h2 := i2 hx y hy
              exact ⟨h2.1, bet_trans h2.2 hxc⟩
            · rw [i1 hx] at hy
              simp at hy
              subst hy
              exact ⟨hx, hxc⟩
        · rw [if_neg ha]
          have hb : bet x c := by
            by_cases h : bet x c
            · exact h
            · exact absurd ((ahead_iff c x).2 h) ha
          refine ⟨fun h => ?_, fun h y hy => ?_⟩
          · rw [i1 h]
            by_cases hci : c.id ≠ id
            · rw [if_pos hci]
              show (if aheadB c x = true then some c else some x) = some x
              rw [if_neg ha]
            · rw [if_neg hci]
          · by_cases hci : c.id ≠ id
            · rw [if_pos hci] at hy
              cases r with
              | none =>
                have hy : some c = some y := hy
                simp at hy
                subst hy
                exact ⟨hci, bet_asymm hb⟩
              | some z =>
                have hy : (if aheadB c z = true then some c else some z) = some y := hy
                by_cases hz : aheadB c z = true
                · rw [if_pos hz] at hy
                  simp at hy
                  subst hy
                  exact ⟨hci, bet_asymm hb⟩
                · rw [if_neg hz] at hy
                  simp at hy
                  subst hy
                  exact i2 h z rfl
            · rw [if_neg hci] at hy
              exact i2 h y hy
    · unfold astep
      rw [if_neg hc, if_neg hc]
      have : (if c.id ≠ id then r else r) = r := by split <;> rfl
      rw [this]
      exact ih
end Go.Proofs.Ytjmfhdnckgelaaa
