/-
  A list of assets of the law's own; which asset is the first with an item.
-/
import Derived.WalkKit
import Derived.LoopTactic
import Derived.WalkSpells
import Derived.WalkLawsBesides
import Derived.RegionTactic
import Derived.BigRegion
import Derived.Deep.QuietTactic
import Derived.Deep.RegionHeld3
import Derived.BigQuiet
import Derived.IntWalk
import Derived.Outline
import Derived.Test.YtfplajafekpccaaMedN
set_option linter.unusedVariables false
set_option linter.unusedSimpArgs false
namespace Go.Proofs.Ytfplajafekpccaa
open Go.RowKit Onair
def acs (a : Ast) : List Value := [.int .i64 a.item, .slice a.o a.ps.length a.c]
def acells (l : List Ast) : List Value := l.flatMap acs
theorem acells_len (l : List Ast) : (acells l).length = l.length * 2 := by
  induction l with
  | nil => rfl
  | cons c l ih => simp [acells, acs] at ih ⊢; omega
theorem acells_at (l : List Ast) (i k : Nat) (c : Ast) (h : l[i]? = some c) (hk : k < 2) : (acells l)[i * 2 + k]? = (acs c)[k]? := by
  induction l generalizing i with
  | nil => simp at h
  | cons d l ih =>
    cases i with
    | zero =>
      simp at h
      subst h
      show (acs d ++ acells l)[0 * 2 + k]? = _
      rw [Nat.zero_mul, Nat.zero_add, List.getElem?_append_left (by simp [acs]; exact hk)]
    | succ i =>
      show (acs d ++ acells l)[(i + 1) * 2 + k]? = _
      rw [List.getElem?_append_right (by simp [acs]; omega), show (i + 1) * 2 + k - (acs d).length = i * 2 + k by simp [acs]; omega]
      exact ih i (by simpa using h)
theorem acells_snoc (l : List Ast) (c : Ast) : acells (l ++ [c]) = acells l ++ [.int .i64 c.item, .slice c.o c.ps.length c.c] := by simp [acells, acs]
theorem own_rda {W : World} {B : Nat} {oa : Option Addr} {n cap : Nat} {l : List Ast} (h : W.ownsRow B 24 2 (.slice oa n cap) l.length (acells l)) : n = l.length ∧ RdA W oa l := by
  have h' := h
  rcases h.2 with ⟨he, h0⟩ | ⟨g, cap', cur, he, q1, q2, q3⟩
  · simp at he
    have : l = [] := List.eq_nil_of_length_eq_zero h0
    exact ⟨by rw [he.2.1, h0], .inl this⟩
  · simp at he
    obtain ⟨rfl, rfl, rfl⟩ := he
    refine ⟨rfl, .inr ⟨g, 0, rfl, (Array.getElem?_eq_some_iff.1 q2).1, fun i c hi => ?_⟩⟩
    have hil : i < l.length := (List.getElem?_eq_some_iff.1 hi).1
    have key : ∀ k, k < 2 → W.cell? ⟨g, i * 2 + k, none⟩ = (acs c)[k]? := fun k hk => by
      rw [h'.cellAt _ (by omega), acells_at l i k c hi hk]
    rw [Nat.zero_add]
    exact ⟨key 0 (by decide), key 1 (by decide)⟩
theorem Try.infoAst : (Try.prog.info? 24).map (fun i => (i.zero, i.size, i.bytes)) = some (some (.agg #[.int .i64 0, .slice none 0 0]), 2, 32) := by kernel_rfl
/-- append of one asset to a slice of the call's own. -/
theorem app_ast (wr : World) (B : Nat) (v : Value) (l : List Ast) (c : Ast) (hown : wr.ownsRow B 24 2 v l.length (acells l)) (hn : l.length ≤ 1000000) (hB : B ≤ wr.heap.size) (ty : TypeId) :
    ∃ oa cap w', (Builtin.append_ #[38, 38] ty #[v, .slice (some ⟨wr.heap.size, 0, none⟩) 1 1]).run Try.prog (wr.alloc (.cells #[.int .i64 c.item, .slice c.o c.ps.length c.c] 24)) = .ok (.slice oa (l.length + 1) cap) w' ∧ w'.ownsRow B 24 2 (.slice oa (l.length + 1) cap) (l.length + 1) (acells (l ++ [c])) ∧ Fr (fun k => v.ownBlock = some k) wr w' ∧ (∀ k, (Value.slice oa (l.length + 1) cap).ownBlock = some k → v.ownBlock = some k ∨ wr.heap.size ≤ k) := by
  obtain ⟨i0, hi, hz0, hz1, hz2⟩ := info_parts Try.infoAst
  have hnew : Blk (wr.alloc (.cells #[.int .i64 c.item, .slice c.o c.ps.length c.c] 24)) wr.heap.size 24 (acs c) := Blk.new wr _ (acs c)
  obtain ⟨v', w', hrun, h1, h2, h3⟩ := app_own (P := Try.prog) (W := wr.alloc (.cells #[.int .i64 c.item, .slice c.o c.ps.length c.c] 24)) B 38 ty 24 i0 _ 2 32 Try.underlying38 hi hz0 hz1 hz2 rfl (by decide) v l.length (acells l) (hown.alloc _) ⟨wr.heap.size, 0, none⟩ 1 1 (acs c) rfl (fun j u hj => by
      rw [show ((⟨wr.heap.size, 0, none⟩ : Addr).add j) = ⟨wr.heap.size, j, none⟩ from by unfold Addr.add; split <;> simp_all, hnew.cell]
      exact hj) (by intro u hu; simp [acs] at hu; rcases hu with rfl | rfl <;> rfl) (by unfold maxLen; omega) (by omega) (by simp; omega)
  obtain ⟨oa, cap, rfl⟩ := own_slice h1
  refine ⟨oa, cap, w', hrun, ?_, ((Fr.refl _ wr).alloc _).trans h2 (fun _ _ h => h), fun k hk => (h3 k hk).imp_right (fun h => by simp at h; omega)⟩
  rw [acells_snoc]
  exact h1
/-- The list of assets that a law holds; B: the heap's size before it was begun. -/
structure AL (w0 wr : World) (v : Value) (A : List Ast) : Prop where
  own : wr.ownsRow w0.heap.size 24 2 v A.length (acells A)
  pic : ∀ a ∈ A, wr.ownsRow w0.heap.size 42 3 (.slice a.o a.ps.length a.c) a.ps.length (pcells a.ps)
  len : ∀ a ∈ A, a.ps.length ≤ 2010
  bel : Below w0.heap.size w0 wr
theorem AL.below {w0 wr w' : World} {v : Value} {A : List Ast} (h : AL w0 wr v A) (hb : Below wr.heap.size wr w') : AL w0 w' v A :=
  ⟨ownsRow_kept' h.own (fun g hg => hb.block g (h.own.lt g hg).2), fun a ha => ownsRow_kept' (h.pic a ha) (fun g hg => hb.block g ((h.pic a ha).lt g hg).2), h.len, h.bel.trans (hb.mono h.bel.size)⟩
theorem AL.new (w : World) : AL w w (.slice none 0 0) [] := ⟨World.ownsRow_nil _ _ _ _, fun a ha => absurd ha (by simp), fun a ha => absurd ha (by simp), Below.refl _ _⟩
/-- A row of pictures keeps clear of an append to a row of assets. -/
theorem pic_kept {wr w' : World} {B B' : Nat} {u v : Value} {n m : Nat} {xs ys : List Value} (hp : wr.ownsRow B 42 3 u n xs) (hv : wr.ownsRow B' 24 2 v m ys) (hf : Fr (fun k => v.ownBlock = some k) wr w') : w'.ownsRow B 42 3 u n xs := by
  refine ownsRow_kept' hp (fun g hg => hf.block g (hp.lt g hg).2 (fun e => ?_))
  rcases hp.2 with ⟨rfl, _⟩ | ⟨g1, cap1, cur1, rfl, _, q1, _⟩
  · simp [Value.ownBlock] at hg
  · rcases hv.2 with ⟨rfl, _⟩ | ⟨g2, cap2, cur2, rfl, _, q2, _⟩
    · simp [Value.ownBlock] at e
    · simp [Value.ownBlock] at hg e
      subst hg e
      rw [q1] at q2
      simp at q2
theorem AL.app {w0 wr w' : World} {v v' : Value} {A : List Ast} {c : Ast} (h : AL w0 wr v A) (hc : wr.ownsRow w0.heap.size 42 3 (.slice c.o c.ps.length c.c) c.ps.length (pcells c.ps)) (hl : c.ps.length ≤ 2010)
    (ho : w'.ownsRow w0.heap.size 24 2 v' (A.length + 1) (acells (A ++ [c]))) (hf : Fr (fun k => v.ownBlock = some k) wr w') : AL w0 w' v' (A ++ [c]) := by
  refine ⟨by rw [List.length_append]; exact ho, fun a ha => ?_, fun a ha => ?_, ?_⟩
  · rcases List.mem_append.1 ha with ha | ha
    · exact pic_kept (h.pic a ha) h.own hf
    · rw [List.mem_singleton.1 ha]
      exact pic_kept hc h.own hf
  · rcases List.mem_append.1 ha with ha | ha
    · exact h.len a ha
    · rw [List.mem_singleton.1 ha]
      exact hl
  · exact h.bel.trans (hf.below _ h.bel.size (fun k hk => own_ge h.own k hk))
theorem AL.rda {w0 wr : World} {oa : Option Addr} {n cap : Nat} {A : List Ast} (h : AL w0 wr (.slice oa n cap) A) : RdA wr oa A := (own_rda h.own).2
theorem AL.rdp {w0 wr : World} {v : Value} {A : List Ast} (h : AL w0 wr v A) : ∀ a ∈ A, RdP wr a.o a.ps ∧ a.ps.length ≤ 1000000 := fun a ha => ⟨(own_rdp (h.pic a ha)).2, by have := h.len a ha; omega⟩
/-- The first asset behind one more. -/
theorem idxI_snoc (A : List Ast) (c : Ast) (x : Int) : idxI (A ++ [c]) x = if idxI A x < 0 then (if c.item = x then (A.length : Int) else -1) else idxI A x := by
  unfold idxI idxA
  rw [List.findIdx_append, List.length_append, List.length_singleton]
  obtain ⟨q, hq⟩ : ∃ q, List.findIdx (fun a : Ast => a.item == x) A = q := ⟨_, rfl⟩
  have hle : q ≤ A.length := by rw [← hq]; exact List.findIdx_le_length
  rw [hq]
  by_cases h : q < A.length
  · have h1 : q < A.length + 1 := by omega
    have h2 : ¬ ((q : Int) < 0) := by omega
    simp only [if_pos h, if_pos h1, if_neg h2]
  · have h1 : (-1 : Int) < 0 := by decide
    simp only [if_neg h, if_pos h1]
    by_cases hc : c.item = x
    · have h3 : List.findIdx (fun a : Ast => a.item == x) [c] = 0 := by simp [List.findIdx_cons, hc]
      have h4 : 0 + A.length < A.length + 1 := by omega
      rw [h3, if_pos h4, if_pos hc, Nat.zero_add]
    · have h3 : List.findIdx (fun a : Ast => a.item == x) [c] = 1 := by
        rw [List.findIdx_cons, show (c.item == x) = false from by rw [beq_eq_false_iff_ne]; exact hc]
        rfl
      have h4 : ¬ (1 + A.length < A.length + 1) := by omega
      rw [h3, if_neg h4, if_neg hc]
theorem firstA_some {A : List Ast} {x : Int} {a : Ast} (h : firstA A x = some a) : idxI A x = (idxA A x : Int) ∧ idxA A x < A.length ∧ fI A x = x ∧ fP A x = a.ps ∧ fB A x = true ∧ a.item = x := by
  have hlt : idxA A x < A.length := (List.getElem?_eq_some_iff.1 h).1
  refine ⟨by unfold idxI; rw [if_pos hlt], hlt, by unfold fI; rw [h]; rfl, by unfold fP; rw [h], by unfold fB; rw [h]; rfl, ?_⟩
  have h2 := List.findIdx_getElem (p := fun a : Ast => a.item == x) (xs := A) (w := hlt)
  have h3 := (List.getElem?_eq_some_iff.1 h).2
  have h4 : A[List.findIdx (fun a : Ast => a.item == x) A]'hlt = a := h3
  rw [h4] at h2
  simpa using h2
theorem firstA_none {A : List Ast} {x : Int} (h : firstA A x = none) : idxI A x = -1 ∧ fI A x = 0 ∧ fP A x = [] ∧ fB A x = false := by
  refine ⟨?_, by unfold fI; rw [h]; rfl, by unfold fP; rw [h], by unfold fB; rw [h]; rfl⟩
  unfold firstA at h
  unfold idxI
  rw [if_neg (by rw [List.getElem?_eq_none_iff] at h; omega)]
theorem firstA_more {A : List Ast} {x : Int} {a : Ast} (h : firstA A x = some a) (M : List Ast) : firstA (A ++ M) x = some a ∧ idxA (A ++ M) x = idxA A x := by
  have hlt : idxA A x < A.length := (List.getElem?_eq_some_iff.1 h).1
  have e : idxA (A ++ M) x = idxA A x := by
    unfold idxA at hlt ⊢
    rw [List.findIdx_append, if_pos hlt]
  refine ⟨?_, e⟩
  unfold firstA
  rw [e, List.getElem?_append_left hlt]
  exact h
end Go.Proofs.Ytfplajafekpccaa
