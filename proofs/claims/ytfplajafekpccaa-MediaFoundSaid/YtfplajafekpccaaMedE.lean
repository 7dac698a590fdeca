/-
  What media.Decode keeps in memory; the two doors by which it is left.
-/
import Derived.WalkKit
import Derived.LoopTactic
import Derived.WalkSpells
import Derived.WalkLawsBesides
import Derived.RegionTactic
import Derived.BigRegion
import Derived.Deep.QuietTactic
import Derived.BigQuiet
import Derived.IntWalk
import Derived.Outline
import Derived.Defers
import Derived.Recover
import Derived.Test.YtfplajafekpccaaMedD
set_option linter.unusedVariables false
set_option linter.unusedSimpArgs false
namespace Go.Proofs.Ytfplajafekpccaa
open Go.RowKit Onair
/-- What is still to be read, as a function of the rest. -/
def decT (s : List UInt8) (i : Int) (n : Nat) (a : Int) (acc : List Pic) : Int ⊕ (Int × List Pic) :=
  match picsR s n a acc with
  | .inl e => .inl e
  | .inr (l, a) => if a ≠ s.length then .inl 10 else if validA i l = false then .inl 120 else .inr (i, l)
theorem decT_bad {s : List UInt8} {i : Int} {n : Nat} {a : Int} {acc : List Pic} {e : Int} (h : picR s a = .inl e) : decT s i (n + 1) a acc = .inl e := by
  unfold decT
  simp only [picsR, h]
theorem decT_ok {s : List UInt8} {i : Int} {n : Nat} {a b : Int} {acc : List Pic} {p : Pic} (h : picR s a = .inr (p, b)) : decT s i (n + 1) a acc = decT s i n b (acc ++ [p]) := by
  unfold decT
  simp only [picsR, h]
theorem decR_1 {s : List UInt8} (h : (intR s 0).2.2 ≠ 0) : decR s = .inl 10 := by unfold decR; rw [if_pos h]
theorem decR_2 {s : List UInt8} (h : (intR s 0).2.2 = 0) (h2 : (intR s (intR s 0).2.1).2.2 ≠ 0) : decR s = .inl 10 := by unfold decR; rw [if_neg (fun e => e h), if_pos h2]
theorem decR_3 {s : List UInt8} (h : (intR s 0).2.2 = 0) (h2 : (intR s (intR s 0).2.1).2.2 = 0) (h3 : (intR s (intR s 0).2.1).1 < 1 ∨ 2000 < (intR s (intR s 0).2.1).1) : decR s = .inl 120 := by
  unfold decR; rw [if_neg (fun e => e h), if_neg (fun e => e h2), if_pos h3]
theorem decR_4 {s : List UInt8} (h : (intR s 0).2.2 = 0) (h2 : (intR s (intR s 0).2.1).2.2 = 0) (h3 : ¬ ((intR s (intR s 0).2.1).1 < 1 ∨ 2000 < (intR s (intR s 0).2.1).1)) :
    decR s = decT s (intR s 0).1 (intR s (intR s 0).2.1).1.toNat (intR s (intR s 0).2.1).2.1 [] := by
  unfold decR; rw [if_neg (fun e => e h), if_neg (fun e => e h2), if_neg h3]; rfl
theorem picR_1 {s : List UInt8} {a : Int} (h : (intR s a).2.2 ≠ 0) : picR s a = .inl 10 := by unfold picR; rw [if_pos h]
theorem picR_2 {s : List UInt8} {a : Int} (h : (intR s a).2.2 = 0) (h2 : (intR s a).1 ≠ 0 ∧ (intR s a).1 ≠ 1) : picR s a = .inl 120 := by unfold picR; rw [if_neg (fun e => e h), if_pos h2]
theorem picR_3 {s : List UInt8} {a : Int} (h : (intR s a).2.2 = 0) (h2 : ¬ ((intR s a).1 ≠ 0 ∧ (intR s a).1 ≠ 1)) (h3 : (intR s (intR s a).2.1).2.2 ≠ 0) : picR s a = .inl 10 := by
  unfold picR; rw [if_neg (fun e => e h), if_neg h2, if_pos h3]
theorem picR_4 {s : List UInt8} {a : Int} (h : (intR s a).2.2 = 0) (h2 : ¬ ((intR s a).1 ≠ 0 ∧ (intR s a).1 ≠ 1)) (h3 : (intR s (intR s a).2.1).2.2 = 0) (h4 : (strR s (intR s (intR s a).2.1).2.1).2.2 ≠ 0) : picR s a = .inl 10 := by
  unfold picR; rw [if_neg (fun e => e h), if_neg h2, if_neg (fun e => e h3), if_pos h4]
theorem picR_5 {s : List UInt8} {a : Int} (h : (intR s a).2.2 = 0) (h2 : ¬ ((intR s a).1 ≠ 0 ∧ (intR s a).1 ≠ 1)) (h3 : (intR s (intR s a).2.1).2.2 = 0) (h4 : (strR s (intR s (intR s a).2.1).2.1).2.2 = 0) :
    picR s a = .inr (⟨decide ((intR s a).1 = 1), ⟨(strR s (intR s (intR s a).2.1).2.1).1.toArray⟩, (intR s (intR s a).2.1).1⟩, (strR s (intR s (intR s a).2.1).2.1).2.1) := by
  unfold picR; rw [if_neg (fun e => e h), if_neg h2, if_neg (fun e => e h3), if_neg (fun e => e h4)]
/-- What Decode answers in memory. -/
def DecPost (W : World) (D : Int ⊕ (Int × List Pic)) (e : Ending) (w' : World) : Prop :=
  match D with
  | .inl c => e = .returned (.tuple #[.agg #[.int .i64 0, .slice none 0 0], .int .i64 c]) ∧ Below W.heap.size W w'
  | .inr (i, l) => ∃ oa cap, e = .returned (.tuple #[.agg #[.int .i64 i, .slice oa l.length cap], .int .i64 0]) ∧ RdP w' oa l ∧ Below W.heap.size W w'
/-- The blocks of a run of Decode: the two results, the place, the asset. -/
structure DSt (W : World) (r : Nat) (a i : Int) (v : Value) (l : List Pic) (w : World) : Prop where
  hr : W.heap.size = r
  b1 : Blk w r 24 [.int .i64 0, .slice none 0 0]
  b2 : Blk w (r + 1) 32 [.int .i64 0]
  b3 : Blk w (r + 2) 3 [.int .i64 a]
  b4 : Blk w (r + 3) 24 [.int .i64 i, v]
  own : w.ownsRow (r + 4) 42 3 v l.length (pcells l)
  bel : Below r W w
theorem DSt.alloc {W : World} {r : Nat} {a i : Int} {v : Value} {l : List Pic} {w : World} (h : DSt W r a i v l w) (o : Obj) : DSt W r a i v l (w.alloc o) :=
  ⟨h.hr, h.b1.alloc o, h.b2.alloc o, h.b3.alloc o, h.b4.alloc o, h.own.alloc o, h.bel.alloc (by have := h.b1.lt; omega) o⟩
theorem DSt.setAt {W : World} {r : Nat} {a i : Int} {v : Value} {l : List Pic} {w : World} (h : DSt W r a i v l w) (x : Int) : DSt W r x i v l (w.setCell ⟨r + 2, 0, none⟩ (.int .i64 x)) :=
  ⟨h.hr, h.b1.other _ (by show r + 2 ≠ r; omega) _, h.b2.other _ (by show r + 2 ≠ r + 1; omega) _, h.b3.set 0 _, h.b4.other _ (by show r + 2 ≠ r + 3; omega) _,
    ownsRow_kept h.own (fun g hg => Below.heap_setCell _ _ _ _ (by have := own_ge h.own g hg; show g ≠ r + 2; omega)), h.bel.setCell (p := ⟨r + 2, 0, none⟩) (by show r ≤ r + 2; omega) _⟩
theorem DSt.setItem {W : World} {r : Nat} {a i : Int} {v : Value} {l : List Pic} {w : World} (h : DSt W r a i v l w) (x : Int) : DSt W r a x v l (w.setCell ⟨r + 3, 0, none⟩ (.int .i64 x)) :=
  ⟨h.hr, h.b1.other _ (by show r + 3 ≠ r; omega) _, h.b2.other _ (by show r + 3 ≠ r + 1; omega) _, h.b3.other _ (by show r + 3 ≠ r + 2; omega) _, h.b4.set 0 _,
    ownsRow_kept h.own (fun g hg => Below.heap_setCell _ _ _ _ (by have := own_ge h.own g hg; show g ≠ r + 3; omega)), h.bel.setCell (p := ⟨r + 3, 0, none⟩) (by show r ≤ r + 3; omega) _⟩
theorem DSt.setPic {W : World} {r : Nat} {a i : Int} {v : Value} {l : List Pic} {w : World} (h : DSt W r a i v l w) (k j : Nat) (hk : r + 4 ≤ k) (hv : v.ownBlock ≠ some k) (x : Value) : DSt W r a i v l (w.setCell ⟨k, j, none⟩ x) :=
  ⟨h.hr, h.b1.other _ (by show k ≠ r; omega) _, h.b2.other _ (by show k ≠ r + 1; omega) _, h.b3.other _ (by show k ≠ r + 2; omega) _, h.b4.other _ (by show k ≠ r + 3; omega) _,
    ownsRow_kept h.own (fun g hg => Below.heap_setCell _ _ _ _ (by show g ≠ k; intro e; subst e; exact hv hg)), h.bel.setCell (p := ⟨k, j, none⟩) (by show r ≤ k; omega) _⟩
theorem DSt.app {W : World} {r : Nat} {a i : Int} {v v' : Value} {l l' : List Pic} {w w' : World} (h : DSt W r a i v l w) (ho : w'.ownsRow (r + 4) 42 3 v' l'.length (pcells l')) (hf : Fr (fun k => v.ownBlock = some k) w w') :
    DSt W r a i v' l' (w'.setCell ⟨r + 3, 1, none⟩ v') := by
  have hk : ∀ k, k < r + 4 → w'.heap[k]? = w.heap[k]? := fun k hk => hf.block k (by have := h.b4.lt; omega) (fun e => by have := own_ge h.own k e; omega)
  refine ⟨h.hr, (h.b1.kept (hk _ (by omega))).other _ (by show r + 3 ≠ r; omega) _, (h.b2.kept (hk _ (by omega))).other _ (by show r + 3 ≠ r + 1; omega) _, (h.b3.kept (hk _ (by omega))).other _ (by show r + 3 ≠ r + 2; omega) _, (h.b4.kept (hk _ (by omega))).set 1 _,
    ownsRow_kept ho (fun g hg => Below.heap_setCell _ _ _ _ (by have := own_ge ho g hg; show g ≠ r + 3; omega)), (h.bel.trans (hf.below r (by have := h.b1.lt; omega) (fun k e => by have := own_ge h.own k e; omega))).setCell (p := ⟨r + 3, 1, none⟩) (by show r ≤ r + 3; omega) _⟩
theorem DSt.below {W : World} {r : Nat} {a i : Int} {v : Value} {l : List Pic} {w w' : World} (h : DSt W r a i v l w) (hb : Below w.heap.size w w') : DSt W r a i v l w' := by
  refine ⟨h.hr, h.b1.kept (hb.block _ h.b1.lt), h.b2.kept (hb.block _ h.b2.lt), h.b3.kept (hb.block _ h.b3.lt), h.b4.kept (hb.block _ h.b4.lt), ownsRow_kept h.own (fun g hg => hb.block g ?_), h.bel.trans (hb.mono (by have := h.b1.lt; omega))⟩
  exact (h.own.lt g hg).2
/-- The door of a refusal. -/
theorem leave_bad {W : World} {r : Nat} {a i : Int} {v : Value} {l : List Pic} {w : World} (h : DSt W r a i v l w) (c : Int) {D : Int ⊕ (Int × List Pic)} (hD : D = .inl c) (tmps : Array Value)
    (h2 : tmps[2]?.getD undef = .pointer (some ⟨r, 0, none⟩)) (h3 : tmps[3]?.getD undef = .pointer (some ⟨r + 1, 0, none⟩)) :
    bodyPostD Try.prog Try.f26 (DecPost W D) (.panic [refusal c]) { tmps := tmps, defers := [{ target := .fn (.func 44) #[.pointer (some ⟨r, 0, none⟩), .pointer (some ⟨r + 1, 0, none⟩)], args := #[] }] } w := by
  subst hD
  refine leaves_cons (f := 44) (args := #[.pointer (some ⟨r, 0, none⟩), .pointer (some ⟨r + 1, 0, none⟩)]) (by simp) (by simp [go_sem]) ?_
  refine (catch_panicking r (r + 1) c _ _ _ w h.b1 h.b2 (by omega)).mono ?_
  rintro e u' w' ⟨rfl, rfl, k1, k2, hf⟩
  have c0 := k1.cell 0
  have c1 := k1.cell 1
  have c2 := k2.cell 0
  simp only [List.getElem?_cons_zero, List.getElem?_cons_succ] at c0 c1 c2
  have hb : Below W.heap.size W w' := by rw [h.hr]; exact h.bel.trans (hf.below r (by have := h.b1.lt; omega) (fun k e => by omega))
  simp [Leaves, settle, refusal, results, Try.results26, go_sem, h2, h3, c0, c1, c2]
  exact ⟨rfl, hb⟩
/-- The door of an answer. -/
theorem leave_ok {W : World} {r : Nat} {i : Int} {v : Value} {l : List Pic} {w : World} (hr : W.heap.size = r) (b1 : Blk w r 24 [.int .i64 i, v]) (b2 : Blk w (r + 1) 32 [.int .i64 0]) (oa : Option Addr) (cap : Nat) (hv : v = .slice oa l.length cap) (hrd : RdP w oa l) (hb : Below r W w)
    {D : Int ⊕ (Int × List Pic)} (hD : D = .inr (i, l)) (tmps : Array Value) (h2 : tmps[2]?.getD undef = .pointer (some ⟨r, 0, none⟩)) (h3 : tmps[3]?.getD undef = .pointer (some ⟨r + 1, 0, none⟩)) :
    bodyPostD Try.prog Try.f26 (DecPost W D) .ret { tmps := tmps, defers := [{ target := .fn (.func 44) #[.pointer (some ⟨r, 0, none⟩), .pointer (some ⟨r + 1, 0, none⟩)], args := #[] }] } w := by
  subst hD hv
  refine leaves_cons (f := 44) (args := #[.pointer (some ⟨r, 0, none⟩), .pointer (some ⟨r + 1, 0, none⟩)]) (by simp) (by simp [go_sem]) ?_
  refine (catch_idle r (r + 1) w).mono ?_
  rintro e u' w' ⟨rfl, rfl, rfl⟩
  have c0 := b1.cell 0
  have c1 := b1.cell 1
  have c2 := b2.cell 0
  simp only [List.getElem?_cons_zero, List.getElem?_cons_succ] at c0 c1 c2
  simp [Leaves, settle, results, Try.results26, go_sem, h2, h3, c0, c1, c2]
  exact ⟨oa, cap, rfl, hrd, by rw [hr]; exact hb⟩
end Go.Proofs.Ytfplajafekpccaa
