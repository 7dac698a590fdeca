/-
  The world of AsrunExtends: the list, what was shown last, what was shown at each frame.
-/
import Derived.Deep.DeepCutAuto
import Derived.Test.YtfpcdlpfmlaakaaDoorAsRf
import Derived.Test.YtfpcdlpfmlaakaaDoorAsSane
import Derived.Test.YtfpcdlpfmlaakaaDoorAsOpen
import Derived.Test.YtfpcdlpfmlaakaaDoorAsShow
set_option linter.unusedVariables false
set_option linter.unusedSimpArgs false
namespace Go.Proofs.YtfpcdlpfmlaakaaDoor
open Go.RowKit Onair
theorem Tryd.infoShown : (Tryd.prog.info? 28).map (fun i => (i.zero, i.size, i.bytes)) = some (some (.agg #[.int .i64 0, .int .i64 0, .int .i64 0]), 3, 24) := by kernel_rfl
theorem Tryd.infoShowns : (Tryd.prog.info? 26).map (fun i => (i.zero, i.size, i.bytes)) = some (some (.slice none 0 0), 1, 24) := by kernel_rfl
def sh3 (p : Int × Int) : List Value := [.int .i64 p.1, .int .i64 p.2, .int .i64 0]
/-- The list, the count of runs, what was shown last: at frame k, after r regions. -/
def lX (S : ShowS) (k r : Nat) : List Rec := if r = 0 then lstX S k else if r = 1 then oneX S (lstX S k) 0 k else lstX S (k + 1)
def cX (S : ShowS) (k r : Nat) : Nat := if r = 0 then cntX S k else if r = 1 then cntX S k + nrX S 0 k else cntX S (k + 1)
def laX (xs : List (Int × Int)) (k r g : Nat) : Int × Int := if g < r then runS xs g k else lastS xs g k
def nX (k r : Nat) : Nat → Nat := fun g => if g < r then k + 1 else k
theorem lX_step (S : ShowS) (k r : Nat) (hr : r < 2) : lX S k (r + 1) = oneX S (lX S k r) r k := by
  have : r = 0 ∨ r = 1 := by omega
  rcases this with rfl | rfl <;> rfl
theorem cX_step (S : ShowS) (k r : Nat) (hr : r < 2) : cX S k (r + 1) = cX S k r + nrX S r k := by
  have : r = 0 ∨ r = 1 := by omega
  rcases this with rfl | rfl <;> rfl
theorem lX_ok {S : ShowS} (hS : ShowOk S) (k r : Nat) (hr : r ≤ 2) : LstOk S (lX S k r) (nX k r) (cX S k r) := by
  have : r = 0 ∨ r = 1 ∨ r = 2 := by omega
  rcases this with rfl | rfl | rfl
  · have h := lst_ok hS k
    exact ⟨h.ok.congr (fun g _ => by simp [nX]), h.len⟩
  · have h := (lst_ok hS k).step hS 0 k (by decide) rfl
    exact ⟨h.ok.congr (fun g hg => by
      have : g = 0 ∨ g = 1 := by omega
      rcases this with rfl | rfl <;> rfl), h.len⟩
  · have h := lst_ok hS (k + 1)
    exact ⟨h.ok.congr (fun g hg => by simp [nX, hg]), h.len⟩
theorem run_recS {S : ShowS} {n : Nat → Nat} {r : Rec} (h : RunOk S n r) (hn : ∀ g, g < 2 → n g ≤ 100) : RecS r := by
  obtain ⟨k, p, q, h1, h2, h3, h4, h5, h6, h7⟩ := h.rg
  have := hn k h1
  have h8 := h.it
  have h9 := h.ix
  constructor <;> omega
/-- What was shown: its row, and each frame's two entries. -/
structure ShI (xs : List (Int × Int)) (W : World) (N g6 k : Nat) (v : Value) (cs : List Value) : Prop where
  own : W.ownsRow N 26 1 v k cs
  each : ∀ i, i < k → ∃ h c, cs[i]? = some (.slice (some ⟨h, 0, none⟩) 2 c) ∧ h < W.heap.size ∧ h ≠ g6 ∧ v.ownBlock ≠ some h ∧ ∀ j u, (sh3 (runS xs 0 i) ++ sh3 (runS xs 1 i))[j]? = some u → W.cell? ⟨h, j, none⟩ = some u
  ne : v.ownBlock ≠ some g6
theorem ShI.fr {xs : List (Int × Int)} {W W' : World} {N g6 k : Nat} {v : Value} {cs : List Value} {S : Nat → Prop} (h : ShI xs W N g6 k v cs) (hf : Fr S W W') (hS : ∀ j, S j → j = g6 ∨ W.heap.size ≤ j) : ShI xs W' N g6 k v cs := by
  refine ⟨ownsRow_keptF h.own (fun j e => hf.block j (own_lt h.own j e) (fun s => ?_)), fun i hi => ?_, h.ne⟩
  · rcases hS j s with rfl | q
    · exact h.ne e
    · have := own_lt h.own j e
      omega
  · obtain ⟨g, c, h1, h2, h3, h4, h5⟩ := h.each i hi
    refine ⟨g, c, h1, Nat.lt_of_lt_of_le h2 hf.size, h3, h4, fun j u hu => (hf.cell ⟨g, j, none⟩ h2 (fun s => ?_)).trans (h5 j u hu)⟩
    rcases hS g s with q | q
    · exact h3 q
    · have : g < W.heap.size := h2
      have : W.heap.size ≤ g := q
      omega
theorem ShI.below {xs : List (Int × Int)} {W W' : World} {N g6 k : Nat} {v : Value} {cs : List Value} (h : ShI xs W N g6 k v cs) (hb : Below W.heap.size W W') : ShI xs W' N g6 k v cs := h.fr (Fr.under (fun _ => False) hb) (fun _ e => e.elim)
/-- One frame more. -/
theorem ShI.push {xs : List (Int × Int)} {W W' : World} {N g6 k : Nat} {v v' : Value} {cs : List Value} {h c : Nat} (hs : ShI xs W N g6 k v cs) (hg6 : g6 < W.heap.size) (hh : h < W.heap.size) (hne : h ≠ g6) (hno : v.ownBlock ≠ some h) (hc : ∀ j u, (sh3 (runS xs 0 k) ++ sh3 (runS xs 1 k))[j]? = some u → W.cell? ⟨h, j, none⟩ = some u)
    (ho : W'.ownsRow N 26 1 v' (k + 1) (cs ++ [.slice (some ⟨h, 0, none⟩) 2 c])) (hf : Fr (fun j => v.ownBlock = some j) W W') (hk : ∀ j, v'.ownBlock = some j → v.ownBlock = some j ∨ W.heap.size ≤ j) : ShI xs W' N g6 (k + 1) v' (cs ++ [.slice (some ⟨h, 0, none⟩) 2 c]) := by
  have hcl : cs.length = k := by
    have := hs.own.1
    omega
  refine ⟨ho, fun i hi => ?_, fun e => ?_⟩
  · by_cases hik : i < k
    · obtain ⟨g, d, h1, h2, h3, h4, h5⟩ := hs.each i hik
      refine ⟨g, d, by rw [List.getElem?_append_left (by omega)]; exact h1, Nat.lt_of_lt_of_le h2 hf.size, h3, fun e => ?_, fun j u hu => (hf.cell ⟨g, j, none⟩ h2 (fun e => h4 e)).trans (h5 j u hu)⟩
      rcases hk g e with q | q
      · exact h4 q
      · omega
    · have e : i = k := by omega
      subst e
      refine ⟨h, c, by rw [List.getElem?_append_right (by omega), hcl]; simp, Nat.lt_of_lt_of_le hh hf.size, hne, fun e => ?_, fun j u hu => (hf.cell ⟨h, j, none⟩ hh (fun e => hno e)).trans (hc j u hu)⟩
      rcases hk h e with q | q
      · exact hno q
      · omega
  · rcases hk g6 e with q | q
    · exact hs.ne q
    · omega
/-- The world of the loops, outside of the list. -/
structure ExW (xs : List (Int × Int)) (w : World) (N g6 k r : Nat) (oL : Option Addr) (v : Value) (cs : List Value) (W : World) : Prop where
  li : RdR W oL (lX (runS xs) k r)
  no : lX (runS xs) k r = [] ∨ ∃ b off, oL = some ⟨b, off, none⟩ ∧ b ≠ g6 ∧ v.ownBlock ≠ some b
  la : Blk W g6 28 (sh3 (laX xs k r 0) ++ sh3 (laX xs k r 1))
  sh : ShI xs W N g6 k v cs
  bel : Below N w W
  ge : N ≤ g6
theorem ExW.below {xs : List (Int × Int)} {w : World} {N g6 k r : Nat} {oL : Option Addr} {v : Value} {cs : List Value} {W W' : World} (h : ExW xs w N g6 k r oL v cs W) (hb : Below W.heap.size W W') : ExW xs w N g6 k r oL v cs W' :=
  ⟨h.li.kept hb, h.no, h.la.kept (hb.block _ h.la.lt), h.sh.below hb, h.bel.trans (hb.mono (by have := h.la.lt; have := h.ge; omega)), h.ge⟩
theorem mkShown (w : World) : (Instr.makeSlice 26 (.int .i64 2) (.int .i64 2)).run Tryd.prog w = .ok (.slice (some ⟨w.heap.size, 0, none⟩) 2 2) (w.alloc (.cells #[.int .i64 0, .int .i64 0, .int .i64 0, .int .i64 0, .int .i64 0, .int .i64 0] 28)) := by kernel_rfl
theorem cnt_le (S : ShowS) : ∀ k, cntX S k ≤ 2 * k
  | 0 => Nat.le_refl _
  | k + 1 => by
    have := cnt_le S k
    show cntX S k + nrX S 0 k + nrX S 1 k ≤ _
    have h1 : nrX S 0 k ≤ 1 := by unfold nrX; split <;> omega
    have h2 : nrX S 1 k ≤ 1 := by unfold nrX; split <;> omega
    omega
theorem cX_le (S : ShowS) (k r : Nat) (hr : r ≤ 2) : cX S k r ≤ 2 * k + 2 := by
  have h1 : nrX S 0 k ≤ 1 := by unfold nrX; split <;> omega
  have h2 := cnt_le S k
  have h3 := cnt_le S (k + 1)
  unfold cX
  split
  · omega
  · split <;> omega
/-- The cells of what region r showed last. -/
theorem ExW.at {xs : List (Int × Int)} {w : World} {N g6 k r : Nat} {oL : Option Addr} {v : Value} {cs : List Value} {W : World} (h : ExW xs w N g6 k r oL v cs W) (hr : r < 2) :
    W.cell? ⟨g6, r * 3, none⟩ = some (.int .i64 (lastS xs r k).1) ∧ W.cell? ⟨g6, r * 3 + 1, none⟩ = some (.int .i64 (lastS xs r k).2) ∧ W.cell? ⟨g6, r * 3 + 2, none⟩ = some (.int .i64 0) := by
  have : r = 0 ∨ r = 1 := by omega
  rcases this with rfl | rfl
  · exact ⟨h.la.cell 0, h.la.cell 1, h.la.cell 2⟩
  · exact ⟨h.la.cell 3, h.la.cell 4, h.la.cell 5⟩
/-- One region more: the new list, and what the region shows now. -/
theorem ExW.step {xs : List (Int × Int)} {w : World} {N g6 k r B : Nat} {oL oL' : Option Addr} {v : Value} {cs : List Value} {W W1 : World} {n c : Nat} (h : ExW xs w N g6 k r oL v cs W) (hr : r < 2) (hb : Below W.heap.size W W1) (hB : W.heap.size ≤ B)
    (ho : W1.ownsRow B 34 6 (.slice oL' n c) (lX (runS xs) k (r + 1)).length (rcells (lX (runS xs) k (r + 1)))) :
    ExW xs w N g6 k (r + 1) oL' v cs (((W1.setCell ⟨g6, r * 3, none⟩ (.int .i64 (runS xs r k).1)).setCell ⟨g6, r * 3 + 1, none⟩ (.int .i64 (runS xs r k).2)).setCell ⟨g6, r * 3 + 2, none⟩ (.int .i64 0)) := by
  have h1 := h.below hb
  have hlt := h.la.lt
  have hge := h.ge
  have hfr : Fr (fun j => j = g6) W1 (((W1.setCell ⟨g6, r * 3, none⟩ (.int .i64 (runS xs r k).1)).setCell ⟨g6, r * 3 + 1, none⟩ (.int .i64 (runS xs r k).2)).setCell ⟨g6, r * 3 + 2, none⟩ (.int .i64 0)) :=
    (((Fr.refl (fun j => j = g6) W1).setCell ⟨g6, r * 3, none⟩ _ (.inl rfl)).setCell ⟨g6, r * 3 + 1, none⟩ _ (.inl rfl)).setCell ⟨g6, r * 3 + 2, none⟩ _ (.inl rfl)
  have hno : lX (runS xs) k (r + 1) = [] ∨ ∃ b off, oL' = some ⟨b, off, none⟩ ∧ b ≠ g6 ∧ v.ownBlock ≠ some b := by
    by_cases hl : lX (runS xs) k (r + 1) = []
    · exact .inl hl
    · obtain ⟨g, e, q1, q2, _⟩ := own_at ho hl
      refine .inr ⟨g, 0, e, by omega, fun e2 => ?_⟩
      have := own_lt h.sh.own g e2
      omega
  refine ⟨?_, hno, ?_, h1.sh.fr hfr (fun j e => .inl e), h1.bel.trans (hfr.below N (by have := h1.bel.size; have := h1.la.lt; omega) (fun j e => by omega)), hge⟩
  · rcases hno with e | ⟨b, off, e, q1, q2⟩
    · exact .inl e
    · exact (own_rdr ho).2.2.2.fr hfr (fun b' o' e' s => q1 (by rw [e] at e'; cases e'; exact s))
  · have hl1 := h1.la
    have : r = 0 ∨ r = 1 := by omega
    rcases this with rfl | rfl
    · exact ((hl1.set 0 _).set 1 _).set 2 _
    · exact ((hl1.set 3 _).set 4 _).set 5 _
theorem nr_iff (xs : List (Int × Int)) (k r : Nat) : nrX (runS xs) r k = if (k = 0 ∨ (runS xs r k).1 ≠ (lastS xs r k).1 ∨ ((runS xs r k).1 ≠ 0 ∧ (runS xs r k).2 ≠ (lastS xs r k).2 + 1)) then 1 else 0 := by
  unfold nrX newRun
  cases k with
  | zero => simp
  | succ k =>
    show (if decide (k + 1 = 0 ∨ (runS xs r (k + 1)).1 ≠ (runS xs r (k + 1 - 1)).1 ∨ _) = true then 1 else 0) = _
    rw [Nat.add_sub_cancel]
    simp only [decide_eq_true_iff]
    rfl
/-- Where frame i's entries lie. -/
theorem ShI.cell {xs : List (Int × Int)} {W : World} {N g6 k n cS : Nat} {oS : Option Addr} {cs : List Value} (h : ShI xs W N g6 k (.slice oS n cS) cs) (i : Nat) (hi : i < k) :
    ∃ bs hh ch, oS = some ⟨bs, 0, none⟩ ∧ bs < W.heap.size ∧ W.cell? ⟨bs, i, none⟩ = some (.slice (some ⟨hh, 0, none⟩) 2 ch) ∧ hh < W.heap.size ∧ ∀ g, g < 2 → W.cell? ⟨hh, g * 3, none⟩ = some (.int .i64 (runS xs g i).1) ∧ W.cell? ⟨hh, g * 3 + 1, none⟩ = some (.int .i64 (runS xs g i).2) ∧ W.cell? ⟨hh, g * 3 + 2, none⟩ = some (.int .i64 0) := by
  obtain ⟨hh, ch, e1, e2, e3, e4, e5⟩ := h.each i hi
  have ho := h.own
  rcases h.own.2 with ⟨_, h0⟩ | ⟨bs, cap, cur, he, q1, q2, q3⟩
  · omega
  · simp at he
    obtain ⟨rfl, rfl, rfl⟩ := he
    refine ⟨bs, hh, ch, rfl, (Array.getElem?_eq_some_iff.1 q2).1, ?_, e2, fun g hg => ?_⟩
    · rw [ho.cellAt i (by omega)]
      exact e1
    · have : g = 0 ∨ g = 1 := by omega
      rcases this with rfl | rfl
      · exact ⟨e5 0 _ rfl, e5 1 _ rfl, e5 2 _ rfl⟩
      · exact ⟨e5 3 _ rfl, e5 4 _ rfl, e5 5 _ rfl⟩
/-- What was shown at a frame is kept: append(shown, append([]Shown{}, last...)). -/
theorem push_shown {xs : List (Int × Int)} {w : World} {N g6 k cS : Nat} {oL oS : Option Addr} {cs : List Value} {W : World} (h : ExW xs w N g6 k 2 oL (.slice oS k cS) cs W) (hk : k ≤ 1000) (hN : w.heap.size = N) :
    ∃ h' c' w3 oS' cS' w4, (Builtin.append_ #[26, 26] 26 #[.slice (some ⟨W.heap.size, 0, none⟩) 0 0, .slice (some ⟨g6, 0, none⟩) 2 2]).run Tryd.prog (W.alloc (.cells #[] 28)) = .ok (.slice (some ⟨h', 0, none⟩) 2 c') w3 ∧
      (Builtin.append_ #[25, 25] 25 #[.slice oS k cS, .slice (some ⟨w3.heap.size, 0, none⟩) 1 1]).run Tryd.prog (w3.alloc (.cells #[.slice (some ⟨h', 0, none⟩) 2 c'] 26)) = .ok (.slice oS' (k + 1) cS') w4 ∧
      ExW xs w N g6 (k + 1) 0 oL (.slice oS' (k + 1) cS') (cs ++ [.slice (some ⟨h', 0, none⟩) 2 c']) w4 := by
  obtain ⟨i0, hi, hz0, hz1, hz2⟩ := info_parts Tryd.infoShown
  obtain ⟨j0, hj, hy0, hy1, hy2⟩ := info_parts Tryd.infoShowns
  have hge := h.bel.size
  rw [hN] at hge
  have hg6 := h.la.lt
  have hmade : (W.alloc (.cells #[] 28)).ownsRow W.heap.size 28 3 (.slice (some ⟨W.heap.size, 0, none⟩) 0 0) 0 [] := World.ownsRow_made W #[] 0 (Nat.le_refl _) (Nat.zero_le _) (by simp)
  have hla : Blk (W.alloc (.cells #[] 28)) g6 28 (sh3 (runS xs 0 k) ++ sh3 (runS xs 1 k)) := h.la.alloc _
  obtain ⟨v1, w3, hrun1, ho1, hf1, hk1⟩ := app_own (P := Tryd.prog) (W := W.alloc (.cells #[] 28)) W.heap.size 26 26 28 i0 (.agg #[.int .i64 0, .int .i64 0, .int .i64 0]) 3 24 Tryd.underlying26 hi hz0 hz1 hz2 rfl (by decide) _ 0 [] hmade ⟨g6, 0, none⟩ 2 2 (sh3 (runS xs 0 k) ++ sh3 (runS xs 1 k)) rfl (fun j u hj => by
      rw [add_at, hla.cell]
      exact hj) (by intro u hu; simp [sh3] at hu; rcases hu with rfl | rfl | rfl | rfl | rfl | rfl <;> rfl) (by unfold maxLen; omega) (by omega) (by simp)
  rw [List.nil_append] at ho1
  have ho1' := ho1
  rcases ho1.2 with ⟨_, h0⟩ | ⟨h', c', cur, rfl, q1, q2, q3⟩
  · omega
  have hh3 : h' < w3.heap.size := (Array.getElem?_eq_some_iff.1 q2).1
  have hb3 : Below W.heap.size W w3 := ((Below.refl _ W).alloc (Nat.le_refl _) _).trans (hf1.below _ (by simp) (fun j e => by simp [Value.ownBlock] at e; omega))
  obtain ⟨WB, hWB⟩ : ∃ WB, w3.alloc (.cells #[.slice (some ⟨h', 0, none⟩) 2 c'] 26) = WB := ⟨_, rfl⟩
  have hnew : Blk WB w3.heap.size 26 [.slice (some ⟨h', 0, none⟩) 2 c'] := by rw [← hWB]; exact Blk.new w3 _ _
  have hsz : WB.heap.size = w3.heap.size + 1 := by rw [← hWB]; simp
  have hb4 : Below w3.heap.size w3 WB := by rw [← hWB]; exact (Below.refl _ _).alloc (Nat.le_refl _) _
  have hx := h.below (hb3.trans (hb4.mono hb3.size))
  obtain ⟨v2, w4, hrun2, ho2, hf2, hk2⟩ := app_own (P := Tryd.prog) (W := WB) N 25 25 26 j0 (.slice none 0 0) 1 24 Tryd.underlying25 hj hy0 hy1 hy2 rfl (by decide) _ k cs hx.sh.own ⟨w3.heap.size, 0, none⟩ 1 1 [.slice (some ⟨h', 0, none⟩) 2 c'] rfl (fun j u hj => by
      rw [add_at, hnew.cell]
      exact hj) (by intro u hu; simp at hu; subst hu; rfl) (by unfold maxLen; omega) (by omega) (by have := hb3.size; omega)
  obtain ⟨oS', cS', rfl⟩ := own_slice ho2
  refine ⟨h', c', w3, oS', cS', w4, hrun1, by rw [hWB]; exact hrun2, ?_⟩
  have hlt := fun j e => own_lt h.sh.own j e
  have hcells : ∀ j u, (sh3 (runS xs 0 k) ++ sh3 (runS xs 1 k))[j]? = some u → WB.cell? ⟨h', j, none⟩ = some u := fun j u hj => by
    rw [hb4.cell (p := ⟨h', j, none⟩) hh3, ho1'.cellAt j (by have := (List.getElem?_eq_some_iff.1 hj).1; simpa [sh3] using this)]
    exact hj
  refine ⟨?_, ?_, hx.la.kept (hf2.block g6 hx.la.lt (fun e => hx.sh.ne e)), hx.sh.push hx.la.lt (by omega) (by omega) (fun e => by have := hlt _ e; omega) hcells ho2 hf2 hk2, hx.bel.trans (hf2.below N (by have := hb3.size; omega) (fun j e => own_ge hx.sh.own j e)), h.ge⟩
  · rcases hx.no with e | ⟨b, off, e, r1, r2⟩
    · exact .inl e
    · exact hx.li.fr hf2 (fun b' o' e' s => r2 (by rw [e] at e'; cases e'; exact s))
  · rcases hx.no with e | ⟨b, off, e, r1, r2⟩
    · exact .inl e
    · rcases hx.li with e2 | ⟨b2, o2, e2, hb2, _⟩
      · exact .inl e2
      · rw [e] at e2
        cases e2
        refine .inr ⟨b, off, e, r1, fun e3 => ?_⟩
        rcases hk2 b e3 with q | q
        · exact r2 q
        · omega
end Go.Proofs.YtfpcdlpfmlaakaaDoor
