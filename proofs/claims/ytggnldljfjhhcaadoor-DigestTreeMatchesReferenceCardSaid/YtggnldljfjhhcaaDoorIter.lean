/-
  A range over an iterator that writes cells of its own between two rounds, and whose body always goes on.
-/
import Derived.RangeFuncNested
import Derived.RangeFuncBound
import Derived.RangeFuncCalls
import Derived.RangeFuncLeaves
import Derived.RangeFuncBox
import Derived.WalkKit
import Derived.Lib.Hide
import Derived.Test.YtggnldljfjhhcaaDoorBlk
set_option linter.unusedVariables false
set_option linter.unusedSimpArgs false
namespace Go.Proofs.YtggnldljfjhhcaaDoor
open Go.RowKit
/-- The cells but those of block b are as they were. -/
structure KpC (b : Nat) (A B : World) : Prop where
  size : A.heap.size ≤ B.heap.size
  same : ∀ (k : Nat) (o : Obj), A.heap[k]? = some o → o.isCells = true → k ≠ b → B.heap[k]? = some o
theorem KpC.trans {b : Nat} {A B C : World} (h : KpC b A B) (k : KpC b B C) : KpC b A C := ⟨Nat.le_trans h.size k.size, fun i o hi ho hb => k.same i o (h.same i o hi ho hb) ho hb⟩
theorem KpC.put {b : Nat} (W : World) (l : Nat) (o o' : Obj) (h : W.heap[l]? = some o) (ho : o.isCells = false) : KpC b W (W.putObj l o') :=
  ⟨(grownBy_putObj' W l o').size, fun k u hk hu _ => by
    refine (World.putObj_heap_other (fun e => ?_)).trans hk
    subst e
    rw [h] at hk
    cases hk
    rw [ho] at hu
    cases hu⟩
theorem Fr.put {S : Nat → Prop} (W : World) (l : Nat) (o' : Obj) (h : S l) : Fr S W (W.putObj l o') :=
  (Fr.refl S W).grown (grownBy_putObj' W l o') (fun k e => by cases e; exact .inl h)
section
variable {F : Fence} {n : Nat} {P : Program}
/-- The iterator gives xs, one after the other; it writes new blocks alone, and wants all cells kept but those of block b. -/
def SeqC {α : Type} (F : Fence) (n : Nat) (P : Program) (g : Nat) (lb : Array Value) (encs : α → Array Value) (b : Nat) (xs : List α) (w : World) : Prop :=
  ∀ (l : Nat) (J : Nat → World → Prop) (W : World), Below w.heap.size w W → (∀ k A A', J k A → Fr (fun c => W.heap.size ≤ c) A A' → J k A') →
    (∀ k x W1, J k W1 → xs[k]? = some x → YieldAt F (n - 1) P l (encs x) W1 fun e W' => e = .returned (.bool true) ∧ J (k + 1) W' ∧ KpC b W1 W') →
    J 0 W → CallsIn F n P g (#[.func (.yield l) #[] #[]] ++ lb) W fun e W' => (∃ v, e = .returned v) ∧ J xs.length W'
theorem range_free {α : Type} {g : Operand} {ps : Array Tmp} {assign body : Code} {Q : Exit → Act → World → Prop} {a : Act} {w : World}
    (hro : F.round = none) (h1 : 1 ≤ n) {gf : Nat} {lb : Array Value} (hg : a.eval g = .func (.func gf) #[] lb) (hFg : F.fn gf) (eg : ∀ args w, (callFunc gf args).run P w = .ok (.enter gf args) w)
    {encs : α → Array Value} {b : Nat} {xs : List α} {w0 : World} (hseq : SeqC F (n - 1) P gf lb encs b xs w0) (hb0 : Below w0.heap.size w0 w) (hps : ∀ x, (encs x).size = ps.size)
    (I : Nat → World → Prop) (hI : ∀ k A A', I k A → Fr (fun c => w.heap.size ≤ c) A A' → I k A') (h0 : I 0 w) (Mid : Nat → α → Act → World → Prop)
    (hMid : ∀ k x a' A l o o', Mid k x a' A → A.heap[l]? = some o → o.isCells = false → w.heap.size ≤ l → Mid k x a' (A.putObj l o'))
    (hassign : ∀ (l k : Nat) (x : α) (W : World) (K : Act → World → Prop), I k W → xs[k]? = some x → w.heap.size ≤ W.heap.size → (∀ a' W', KeepsOthers W W' → KpC b W W' → Mid k x a' W' → K a' W') →
      assign.wpIn (F.inRound l) (n - 1 - 1) P (Exit.then K (fun _ _ _ => False)) { tmps := (ps.zip (encs x)).foldl (fun t (p, v) => t.setIfInBounds p v) a.tmps, defers := [] } W)
    (hbody : ∀ (l k : Nat) (x : α) (a' : Act) (W : World), Mid k x a' W → xs[k]? = some x → body.wpIn (F.inRound l) (n - 1 - 1) P (fun e _ W' => e = .normal ∧ KeepsOthers W W' ∧ KpC b W W' ∧ I (k + 1) W') a' W)
    (hdone : ∀ (D : Nat) (W : World), w.heap.size ≤ D → I xs.length W → W.heap[D]? = some (.deferred (some [])) → Q .normal { a with defers := { target := .collected D, args := #[] } :: a.defers } W) :
    (Code.rangeFunc g ps assign body).wpIn F n P Q a w := by
  refine wpIn_rangeFunc ?_
  intro fn hfn
  rw [hro]
  obtain ⟨rc, hrc⟩ : ∃ rc : LoopState → Option Code → Loop, rc = fun st pe => { state := st, pending := pe, fn, tmps := a.tmps, params := ps, assign, body, defers := w.heap.size } := ⟨_, rfl⟩
  obtain ⟨W1, hW1⟩ : ∃ W1, (w.alloc (.deferred (some []))).alloc (.loop (rc .ready none)) = W1 := ⟨_, rfl⟩
  have hsz : W1.heap.size = w.heap.size + 2 := by rw [← hW1]; simp
  have hL1 : W1.heap[w.heap.size + 1]? = some (.loop (rc .ready none)) := by
    have := World.alloc_heap_new (w.alloc (.deferred (some []))) (.loop (rc .ready none))
    rw [World.size_alloc, hW1] at this
    exact this
  have hK1 : W1.heap[w.heap.size]? = some (.deferred (some [])) := by
    rw [← hW1]
    exact (Below.heap_alloc _ _ _ (by simp)).trans (World.alloc_heap_new w _)
  have hfr : Fr (fun c => w.heap.size ≤ c) w W1 := by rw [← hW1]; exact ((Fr.refl _ w).alloc _).alloc _
  have hb1 : Below w0.heap.size w0 W1 := hb0.trans ((hfr.below w.heap.size (Nat.le_refl _) (fun _ h => h)).mono hb0.size)
  refine ⟨w.heap.size + 1, [{ target := .collected w.heap.size, args := #[] }], W1, { target := .fn (.func gf) lb, args := #[.func (.yield (w.heap.size + 1)) #[] #[]] }, W1, gf,
    #[.func (.yield (w.heap.size + 1)) #[] #[]] ++ lb, W1, ?_, ?_, ?_, ?_, fun _ => h1, ?_⟩
  · rw [← hW1, hrc]
    exact run_enterLoop_outer _ _ _ _ _
  · simp only [resolve, hg]
    simp [go_sem]
  · intro f' hf'
    simp [Target.leads] at hf'
    subst hf'
    exact hFg
  · simp [invoke, go_sem, eg]
  · refine (hseq (w.heap.size + 1) (fun k W => I k W ∧ W.heap[w.heap.size + 1]? = some (.loop (rc .ready none)) ∧ W.heap[w.heap.size]? = some (.deferred (some []))) W1 hb1 ?_ ?_ ⟨hI 0 _ _ h0 hfr, hL1, hK1⟩).mono ?_
    · rintro k A A' ⟨hi, hl, hk⟩ hf
      have hlt := (Array.getElem?_eq_some_iff.1 hl).1
      have hlt2 := (Array.getElem?_eq_some_iff.1 hk).1
      refine ⟨hI k A A' hi (hf.mono (fun c hc => by omega)), (hf.block _ hlt (by omega)).trans hl, (hf.block _ hlt2 (by omega)).trans hk⟩
    · rintro k x W ⟨hi, hl, hk⟩ hx
      have hlt : w.heap.size + 1 < W.heap.size := (Array.getElem?_eq_some_iff.1 hl).1
      have hy := run_yield (P := P) (args := encs x) hl (by rw [hrc]; exact hps x)
      rw [hrc] at hy
      refine ⟨fn, _, assign, body, hy, roundIn_of_wpIn hfn (hassign _ k x W _ hi hx (by omega) (fun a' W' hko hkc hm => ?_))⟩
      have hl' := hko.same _ _ hl rfl
      have hk' := hko.same _ _ hk rfl
      have hlt' : w.heap.size + 1 < W'.heap.size := (Array.getElem?_eq_some_iff.1 hl').1
      refine ⟨_, run_beginRound hl' (by rw [hrc]), ?_⟩
      obtain ⟨busy, hbusy⟩ : ∃ busy : Loop, { rc .ready none with state := .busy } = busy := ⟨_, rfl⟩
      rw [hbusy]
      have hl2 : (W'.putObj (w.heap.size + 1) (.loop busy)).heap[w.heap.size + 1]? = some (.loop busy) := World.putObj_heap_same hlt'
      have hk2 : (W'.putObj (w.heap.size + 1) (.loop busy)).heap[w.heap.size]? = some (.deferred (some [])) := (World.putObj_heap_other (by omega)).trans hk'
      refine wpIn_mono (hbody _ k x a' _ (hMid k x a' W' _ _ _ hm hl' rfl (by omega)) hx) ?_
      rintro e a3 W3 ⟨rfl, hko3, hkc3, hi3⟩
      have hl3 := hko3.same _ _ hl2 rfl
      have hr := run_endRound (P := P) none hl3
      refine ⟨_, _, hr, rfl, ⟨?_, ?_, ?_⟩, ?_⟩
      · exact hI _ _ _ hi3 (Fr.put W3 _ _ (by show _ ≤ _; omega))
      · rw [World.putObj_heap_same (Array.getElem?_eq_some_iff.1 hl3).1, ← hbusy, hrc]
        rfl
      · exact (World.putObj_heap_other (by omega)).trans (hko3.same _ _ hk2 rfl)
      · exact ((hkc.trans (KpC.put W' _ _ _ hl' rfl)).trans hkc3).trans (KpC.put W3 _ _ _ hl3 rfl)
    · rintro e W2 ⟨⟨v, rfl⟩, hi, hl, hk⟩
      refine ⟨none, _, by have := run_endLoop (P := P) hl (by rw [hrc]; simp); rw [hrc] at this; exact this, hdone _ _ (Nat.le_refl _) (hI _ _ _ hi (Fr.put W2 _ _ (by show _ ≤ _; omega))) ((World.putObj_heap_other (by omega)).trans hk)⟩
end
end Go.Proofs.YtggnldljfjhhcaaDoor
