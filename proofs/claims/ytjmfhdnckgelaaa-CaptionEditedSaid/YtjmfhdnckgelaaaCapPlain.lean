/-
  Captions in plain words: the words of a text, the rows into which they are laid, and what the laws say of them.
-/
set_option linter.unusedVariables false
set_option linter.unusedSimpArgs false
namespace Go.Proofs.Ytjmfhdnckgelaaa
theorem snocRec {α : Type} {P : List α → Prop} (h0 : P []) (hs : ∀ l a, P l → P (l ++ [a])) (l : List α) : P l := by
  have key : ∀ m : List α, P m.reverse := by
    intro m
    induction m with
    | nil => exact h0
    | cons a m ih => rw [List.reverse_cons]; exact hs _ _ ih
  have := key l.reverse
  rwa [List.reverse_reverse] at this
/-- The words: those that are whole, and the one under way. -/
def wstep (a : List (List UInt8) × List UInt8) (c : UInt8) : List (List UInt8) × List UInt8 := if c = 32 then (if a.2 = [] then a.1 else a.1 ++ [a.2], []) else (a.1, a.2 ++ [c])
def wscan (l : List UInt8) : List (List UInt8) × List UInt8 := l.foldl wstep ([], [])
def wfin (a : List (List UInt8) × List UInt8) : List (List UInt8) := if a.2 = [] then a.1 else a.1 ++ [a.2]
def wordsL (l : List UInt8) : List (List UInt8) := wfin (wscan l)
theorem wscan_snoc (l : List UInt8) (c : UInt8) : wscan (l ++ [c]) = wstep (wscan l) c := by simp [wscan]
/-- A word: not empty, without a space. -/
def isWord (w : List UInt8) : Prop := w ≠ [] ∧ (32 : UInt8) ∉ w
theorem wscan_words (l : List UInt8) : (∀ w ∈ (wscan l).1, isWord w) ∧ (32 : UInt8) ∉ (wscan l).2 := by
  induction l using snocRec with
  | h0 => simp [wscan]
  | hs l c ih =>
    rw [wscan_snoc]
    unfold wstep
    by_cases hc : c = 32
    · rw [if_pos hc]
      refine ⟨?_, by simp⟩
      by_cases h2 : (wscan l).2 = []
      · rw [if_pos h2]; exact ih.1
      · rw [if_neg h2]
        intro w hw
        rcases List.mem_append.1 hw with hw | hw
        · exact ih.1 w hw
        · simp at hw
          subst hw
          exact ⟨h2, ih.2⟩
    · rw [if_neg hc]
      refine ⟨ih.1, ?_⟩
      intro h
      rcases List.mem_append.1 h with h | h
      · exact ih.2 h
      · simp at h
        exact hc h.symm
theorem wordsL_words (l : List UInt8) : ∀ w ∈ wordsL l, isWord w := by
  have h := wscan_words l
  unfold wordsL wfin
  by_cases h2 : (wscan l).2 = []
  · rw [if_pos h2]; exact h.1
  · rw [if_neg h2]
    intro w hw
    rcases List.mem_append.1 hw with hw | hw
    · exact h.1 w hw
    · simp at hw
      subst hw
      exact ⟨h2, h.2⟩
theorem foldl_word (w : List UInt8) (a : List (List UInt8) × List UInt8) (h : (32 : UInt8) ∉ w) : w.foldl wstep a = (a.1, a.2 ++ w) := by
  induction w generalizing a with
  | nil => simp
  | cons c w ih =>
    have hc : ¬ c = 32 := fun e => h (by rw [e]; exact List.mem_cons_self)
    rw [List.foldl_cons, ih _ (fun h' => h (List.mem_cons_of_mem _ h'))]
    unfold wstep
    rw [if_neg hc]
    simp
/-- Words with one space between them. -/
def joinSp : List (List UInt8) → List UInt8
  | [] => []
  | [w] => w
  | w :: v :: ws => w ++ 32 :: joinSp (v :: ws)
theorem joinSp_snoc (ws : List (List UInt8)) (w : List UInt8) (h : ws ≠ []) : joinSp (ws ++ [w]) = joinSp ws ++ 32 :: w := by
  induction ws with
  | nil => exact absurd rfl h
  | cons v ws ih =>
    cases ws with
    | nil => rfl
    | cons u ws =>
      show v ++ 32 :: joinSp ((u :: ws) ++ [w]) = _
      rw [ih (by simp)]
      simp [joinSp]
theorem wscan_join (ws : List (List UInt8)) (w : List UInt8) (h : ∀ v ∈ ws ++ [w], isWord v) : wscan (joinSp (ws ++ [w])) = (ws, w) := by
  induction ws using snocRec generalizing w with
  | h0 =>
    have hw := h w (by simp)
    show w.foldl wstep ([], []) = _
    rw [foldl_word _ _ hw.2]
    simp
  | hs ws v ih =>
    have hw := h w (by simp)
    have hv := h v (by simp)
    rw [joinSp_snoc _ _ (by simp)]
    unfold wscan
    rw [List.foldl_append]
    have e := ih v (fun u hu => h u (List.mem_append_left _ hu))
    unfold wscan at e
    rw [e, List.foldl_cons, foldl_word _ _ hw.2]
    unfold wstep
    rw [if_pos rfl, if_neg hv.1]
    simp
theorem words_join (ws : List (List UInt8)) (h : ∀ v ∈ ws, isWord v) : wordsL (joinSp ws) = ws := by
  rcases List.eq_nil_or_concat ws with rfl | ⟨ws', w, rfl⟩
  · rfl
  · rw [List.concat_eq_append] at h ⊢
    have hw := h w (by simp)
    unfold wordsL
    rw [wscan_join ws' w h]
    unfold wfin
    rw [if_neg hw.1]
/-- The rows. -/
def rstep (rows : List (List UInt8)) (w : List UInt8) : List (List UInt8) :=
  match rows.getLast? with
  | some r => if r.length + 1 + w.length ≤ 32 then rows.dropLast ++ [r ++ 32 :: w] else rows ++ [w]
  | none => [w]
def rowsOf (ws : List (List UInt8)) : List (List UInt8) := ws.foldl rstep []
theorem rowsOf_snoc (ws : List (List UInt8)) (w : List UInt8) : rowsOf (ws ++ [w]) = rstep (rowsOf ws) w := by simp [rowsOf]
def printB (l : List UInt8) : Bool := l.all fun c => decide (32 ≤ c ∧ c ≤ 126)
def narrowB (ws : List (List UInt8)) : Bool := ws.all fun w => decide (w.length ≤ 32)
def fitsB (l : List UInt8) : Bool := decide (l.length ≤ 200) && printB l && narrowB (wordsL l) && decide (1 ≤ (rowsOf (wordsL l)).length ∧ (rowsOf (wordsL l)).length ≤ 4)
def rowsR (l : List UInt8) : List (List UInt8) := if fitsB l = true then rowsOf (wordsL l) else []
/-- The rows as groups of words. -/
structure Laid (gs : List (List (List UInt8))) (ws : List (List UInt8)) : Prop where
  flat : gs.flatten = ws
  full : ∀ g ∈ gs, g ≠ []
  rows : rowsOf ws = gs.map joinSp
  wide : ∀ g ∈ gs, (joinSp g).length ≤ 32
  tight : ∀ i (h : i + 1 < gs.length), 32 < (joinSp (gs[i]'(by omega))).length + 1 + ((gs[i + 1]).head?.getD []).length
theorem laid_of (ws : List (List UInt8)) (hn : ∀ w ∈ ws, w.length ≤ 32) : ∃ gs, Laid gs ws := by
  induction ws using snocRec with
  | h0 => exact ⟨[], rfl, by simp, rfl, by simp, fun i h => by simp at h⟩
  | hs ws w ih =>
    obtain ⟨gs, h⟩ := ih (fun v hv => hn v (by simp [hv]))
    have hw := hn w (by simp)
    rcases List.eq_nil_or_concat gs with rfl | ⟨gs', g, rfl⟩
    · refine ⟨[[w]], ?_, by simp, ?_, by simpa [joinSp] using hw, fun i h => by simp at h⟩
      · have := h.flat
        simp at this
        rw [this]
        rfl
      · rw [rowsOf_snoc, h.rows]
        rfl
    · rw [List.concat_eq_append] at h
      have hg := h.full g (by simp)
      have hlast : (rowsOf ws).getLast? = some (joinSp g) := by rw [h.rows]; simp
      by_cases hf : (joinSp g).length + 1 + w.length ≤ 32
      · refine ⟨gs' ++ [g ++ [w]], ?_, ?_, ?_, ?_, ?_⟩
        · have := h.flat
          simp at this ⊢
          rw [← this]
          simp
        · intro x hx
          rcases List.mem_append.1 hx with hx | hx
          · exact h.full x (by simp [hx])
          · simp at hx
            subst hx
            simp
        · rw [rowsOf_snoc]
          unfold rstep
          rw [hlast]
          simp only [hf, if_true]
          rw [h.rows]
          simp [joinSp_snoc _ _ hg]
        · intro x hx
          rcases List.mem_append.1 hx with hx | hx
          · exact h.wide x (by simp [hx])
          · simp at hx
            subst hx
            rw [joinSp_snoc _ _ hg]
            simp
            omega
        · intro i hi
          have hi' : i + 1 < (gs' ++ [g]).length := by simpa using hi
          have ht := h.tight i hi'
          have hi1 : i < gs'.length := by simp at hi; omega
          rw [List.getElem_append_left hi1] at ht ⊢
          by_cases e : i + 1 < gs'.length
          · rw [List.getElem_append_left e] at ht ⊢
            exact ht
          · rw [List.getElem_append_right (by omega)] at ht ⊢
            simp at ht ⊢
            cases g with
            | nil => exact absurd rfl hg
            | cons a g => simpa using ht
      · refine ⟨gs' ++ [g] ++ [[w]], ?_, ?_, ?_, ?_, ?_⟩
        · have := h.flat
          simp at this ⊢
          rw [← this]
          simp
        · intro x hx
          rcases List.mem_append.1 hx with hx | hx
          · exact h.full x hx
          · simp at hx
            subst hx
            simp
        · rw [rowsOf_snoc]
          unfold rstep
          rw [hlast]
          simp only [hf, if_false]
          rw [h.rows]
          simp [joinSp]
        · intro x hx
          rcases List.mem_append.1 hx with hx | hx
          · exact h.wide x hx
          · simp at hx
            subst hx
            exact hw
        · intro i hi
          by_cases e : i + 1 < (gs' ++ [g]).length
          · have ht := h.tight i e
            rw [List.getElem_append_left (by omega), List.getElem_append_left e]
            exact ht
          · have e2 : i = gs'.length := by simp at hi e; omega
            subst e2
            rw [List.getElem_append_left (by simp), List.getElem_append_right (by simp), List.getElem_append_right (by simp)]
            simp
            omega
theorem joinSp_append (a b : List (List UInt8)) (ha : a ≠ []) (hb : b ≠ []) : joinSp (a ++ b) = joinSp a ++ 32 :: joinSp b := by
  induction a with
  | nil => exact absurd rfl ha
  | cons x a ih =>
    cases a with
    | nil =>
      cases b with
      | nil => exact absurd rfl hb
      | cons y b => rfl
    | cons z a =>
      show x ++ 32 :: joinSp ((z :: a) ++ b) = _
      rw [ih (by simp)]
      simp [joinSp]
theorem join_flat (gs : List (List (List UInt8))) (h : ∀ g ∈ gs, g ≠ []) : joinSp (gs.map joinSp) = joinSp gs.flatten := by
  induction gs with
  | nil => rfl
  | cons g gs ih =>
    have hg := h g (by simp)
    have ih := ih (fun x hx => h x (by simp [hx]))
    cases gs with
    | nil => simp [joinSp]
    | cons g2 gs =>
      have hg2 := h g2 (by simp)
      rw [List.flatten_cons, joinSp_append _ _ hg (by simp [hg2]), ← ih]
      rfl
theorem wordsL_len (l : List UInt8) : ((wscan l).1 = [] ∨ (joinSp (wscan l).1).length + (wscan l).2.length + 1 ≤ l.length) ∧ (wscan l).2.length ≤ l.length := by
  induction l using snocRec with
  | h0 => exact ⟨.inl rfl, by simp [wscan]⟩
  | hs l c ih =>
    rw [wscan_snoc]
    unfold wstep
    by_cases hc : c = 32
    · rw [if_pos hc]
      refine ⟨?_, by simp⟩
      by_cases h2 : (wscan l).2 = []
      · rw [if_pos h2]
        rcases ih.1 with h | h
        · exact .inl h
        · right
          rw [h2] at h
          simp at h ⊢
          omega
      · rw [if_neg h2]
        right
        rcases ih.1 with h | h
        · rw [h]
          simp [joinSp]
          exact ih.2
        · have hne : (wscan l).1 ≠ [] ∨ (wscan l).1 = [] := by
            by_cases e : (wscan l).1 = []
            · exact .inr e
            · exact .inl e
          rcases hne with hne | hne
          · rw [joinSp_snoc _ _ hne]
            simp
            omega
          · rw [hne]
            simp [joinSp]
            exact ih.2
    · rw [if_neg hc]
      simp
      refine ⟨?_, ih.2⟩
      rcases ih.1 with h | h
      · exact .inl h
      · right
        omega
theorem join_len (l : List UInt8) : (joinSp (wordsL l)).length ≤ l.length := by
  obtain ⟨h1, h2⟩ := wordsL_len l
  unfold wordsL wfin
  by_cases e : (wscan l).2 = []
  · rw [if_pos e]
    rcases h1 with h | h
    · rw [h]; simp [joinSp]
    · omega
  · rw [if_neg e]
    rcases h1 with h | h
    · rw [h]; exact h2
    · by_cases hne : (wscan l).1 = []
      · rw [hne]; exact h2
      · rw [joinSp_snoc _ _ hne]
        simp
        omega
theorem wscan_mem (l : List UInt8) : (∀ w ∈ (wscan l).1, ∀ c ∈ w, c ∈ l) ∧ (∀ c ∈ (wscan l).2, c ∈ l) := by
  induction l using snocRec with
  | h0 => simp [wscan]
  | hs l c ih =>
    rw [wscan_snoc]
    unfold wstep
    by_cases hc : c = 32
    · rw [if_pos hc]
      refine ⟨?_, by simp⟩
      by_cases h2 : (wscan l).2 = []
      · rw [if_pos h2]
        exact fun w hw x hx => List.mem_append_left _ (ih.1 w hw x hx)
      · rw [if_neg h2]
        intro w hw x hx
        rcases List.mem_append.1 hw with hw | hw
        · exact List.mem_append_left _ (ih.1 w hw x hx)
        · simp at hw
          subst hw
          exact List.mem_append_left _ (ih.2 x hx)
    · rw [if_neg hc]
      refine ⟨fun w hw x hx => List.mem_append_left _ (ih.1 w hw x hx), fun x hx => ?_⟩
      rcases List.mem_append.1 hx with hx | hx
      · exact List.mem_append_left _ (ih.2 x hx)
      · exact List.mem_append_right _ hx
theorem wordsL_mem (l : List UInt8) : ∀ w ∈ wordsL l, ∀ c ∈ w, c ∈ l := by
  obtain ⟨h1, h2⟩ := wscan_mem l
  unfold wordsL wfin
  by_cases e : (wscan l).2 = []
  · rw [if_pos e]; exact h1
  · rw [if_neg e]
    intro w hw
    rcases List.mem_append.1 hw with hw | hw
    · exact h1 w hw
    · simp at hw
      subst hw
      exact h2
theorem joinSp_mem (ws : List (List UInt8)) : ∀ c ∈ joinSp ws, c = 32 ∨ ∃ w ∈ ws, c ∈ w := by
  induction ws using snocRec with
  | h0 => intro c h; simp [joinSp] at h
  | hs ws w ih =>
    intro c hc
    by_cases e : ws = []
    · subst e
      exact .inr ⟨w, by simp, hc⟩
    · rw [joinSp_snoc _ _ e] at hc
      rcases List.mem_append.1 hc with h | h
      · rcases ih c h with h | ⟨v, hv, h⟩
        · exact .inl h
        · exact .inr ⟨v, by simp [hv], h⟩
      · rcases List.mem_cons.1 h with h | h
        · exact .inl h
        · exact .inr ⟨w, by simp, h⟩
theorem print_join (l : List UInt8) (h : printB l = true) : printB (joinSp (wordsL l)) = true := by
  unfold printB at *
  rw [List.all_eq_true] at *
  intro c hc
  rcases joinSp_mem _ c hc with e | ⟨w, hw, hcw⟩
  · subst e; decide
  · exact h c (wordsL_mem l w hw c hcw)
/-- The rows of a text, laid anew, are the same rows. -/
theorem fits_join (l : List UInt8) (h : fitsB l = true) : fitsB (joinSp (wordsL l)) = true ∧ rowsOf (wordsL (joinSp (wordsL l))) = rowsOf (wordsL l) := by
  have e := words_join (wordsL l) (wordsL_words l)
  have hl := join_len l
  unfold fitsB at *
  simp only [Bool.and_eq_true, decide_eq_true_eq] at h
  rw [e]
  refine ⟨?_, rfl⟩
  simp only [Bool.and_eq_true, decide_eq_true_eq]
  exact ⟨⟨⟨by omega, print_join l h.1.1.2⟩, h.1.2⟩, h.2⟩
/-- The ends of a row. -/
theorem join_ends (g : List (List UInt8)) (hg : g ≠ []) (h : ∀ w ∈ g, isWord w) : joinSp g ≠ [] ∧ (joinSp g).head? ≠ some 32 ∧ (joinSp g).getLast? ≠ some 32 := by
  rcases List.eq_nil_or_concat g with rfl | ⟨g', w, rfl⟩
  · exact absurd rfl hg
  · rw [List.concat_eq_append] at h ⊢
    have hw := h w (by simp)
    have hlast : ∀ v : List UInt8, (v ++ w).getLast? ≠ some 32 := by
      intro v e
      rw [List.getLast?_append] at e
      cases hwl : w.getLast? with
      | none => rw [List.getLast?_eq_none_iff] at hwl; exact hw.1 hwl
      | some x =>
        rw [hwl] at e
        simp at e
        subst e
        exact hw.2 (List.mem_of_getLast? hwl)
    by_cases e : g' = []
    · subst e
      refine ⟨hw.1, ?_, ?_⟩
      · intro e
        exact hw.2 (List.mem_of_head? e)
      · exact hlast []
    · rw [joinSp_snoc _ _ e]
      refine ⟨by simp, ?_, ?_⟩
      · cases g' with
        | nil => exact absurd rfl e
        | cons v g' =>
          have hv := h v (by simp)
          have : (joinSp (v :: g')).head? = v.head? := by
            cases g' with
            | nil => rfl
            | cons u g' =>
              show (v ++ 32 :: joinSp (u :: g')).head? = _
              cases v with
              | nil => exact absurd rfl hv.1
              | cons a v => rfl
          intro e2
          rw [List.head?_append, this] at e2
          cases v with
          | nil => exact absurd rfl hv.1
          | cons a v =>
            simp at e2
            exact hv.2 (by rw [e2]; simp)
      · have := hlast (joinSp g' ++ [32])
        simpa using this
theorem wscan_count (l : List UInt8) : (wscan l).1.length + (if (wscan l).2 = [] then 0 else 1) ≤ l.length := by
  induction l using snocRec with
  | h0 => simp [wscan]
  | hs l c ih =>
    rw [wscan_snoc]
    unfold wstep
    by_cases hc : c = 32
    · rw [if_pos hc]
      by_cases h2 : (wscan l).2 = []
      · rw [if_pos h2] at ih
        simp [h2]
        omega
      · rw [if_neg h2] at ih
        simp [h2]
        omega
    · rw [if_neg hc]
      by_cases h2 : (wscan l).2 = []
      · rw [if_pos h2] at ih
        simp
        omega
      · rw [if_neg h2] at ih
        simp
        omega
theorem wscan_suffix (l : List UInt8) : ∃ p, l = p ++ (wscan l).2 := by
  induction l using snocRec with
  | h0 => exact ⟨[], rfl⟩
  | hs l c ih =>
    obtain ⟨p, hp⟩ := ih
    rw [wscan_snoc]
    unfold wstep
    by_cases hc : c = 32
    · rw [if_pos hc]
      exact ⟨l ++ [c], by simp⟩
    · rw [if_neg hc]
      refine ⟨p, ?_⟩
      rw [← List.append_assoc, ← hp]
theorem wscan_space (l : List UInt8) (c : UInt8) (hc : c = 32) : wscan (l ++ [c]) = (wfin (wscan l), []) := by
  rw [wscan_snoc]
  unfold wstep wfin
  rw [if_pos hc]
theorem wscan_letter (l : List UInt8) (c : UInt8) (hc : ¬ c = 32) : wscan (l ++ [c]) = ((wscan l).1, (wscan l).2 ++ [c]) := by
  rw [wscan_snoc]
  unfold wstep
  rw [if_neg hc]
theorem wscan_prefix (p q : List UInt8) : ∃ r, (wscan (p ++ q)).1 = (wscan p).1 ++ r := by
  induction q using snocRec with
  | h0 => exact ⟨[], by simp⟩
  | hs q c ih =>
    obtain ⟨r, hr⟩ := ih
    rw [← List.append_assoc, wscan_snoc]
    unfold wstep
    by_cases hc : c = 32
    · rw [if_pos hc]
      by_cases h2 : (wscan (p ++ q)).2 = []
      · rw [if_pos h2]; exact ⟨r, hr⟩
      · rw [if_neg h2]; exact ⟨r ++ [(wscan (p ++ q)).2], by rw [hr, List.append_assoc]⟩
    · rw [if_neg hc]; exact ⟨r, hr⟩
theorem wordsL_prefix (l : List UInt8) (k : Nat) : ∃ r, wordsL l = (wscan (l.take k)).1 ++ r := by
  obtain ⟨r, hr⟩ := wscan_prefix (l.take k) (l.drop k)
  rw [List.take_append_drop] at hr
  unfold wordsL wfin
  by_cases h2 : (wscan l).2 = []
  · rw [if_pos h2]; exact ⟨r, hr⟩
  · rw [if_neg h2]; exact ⟨r ++ [(wscan l).2], by rw [hr, List.append_assoc]⟩
end Go.Proofs.Ytjmfhdnckgelaaa
