/-
  Blocks that a call made itself, known whole; a frame: which blocks may have turned.
-/
import Derived.WalkKit
import Derived.Below
import Derived.OwnWalk
import Derived.Laws.OwnMore
import Derived.Laws.CopyRow
import Derived.Lib.BufferWrite
import Derived.ArgAppend
import Derived.Lib.Hide
import Derived.Test.YtggnldljfjhhcaaDoorUtil
set_option linter.unusedVariables false
set_option linter.unusedSimpArgs false
namespace Go.Proofs.YtggnldljfjhhcaaDoor
open Go.RowKit
/-- Block g holds the cells l, none frozen. -/
def Blk (W : World) (g : Nat) (t : TypeId) (l : List Value) : Prop := W.heap[g]? = some (.cells l.toArray t (0, 0))
theorem Blk.lt {W : World} {g : Nat} {t : TypeId} {l : List Value} (h : Blk W g t l) : g < W.heap.size := (Array.getElem?_eq_some_iff.1 h).1
theorem Blk.cell {W : World} {g : Nat} {t : TypeId} {l : List Value} (h : Blk W g t l) (j : Nat) : W.cell? ⟨g, j, none⟩ = l[j]? := by
  unfold Blk at h
  simp [World.cell?, h]
theorem Blk.frozen {W : World} {g : Nat} {t : TypeId} {l : List Value} (h : Blk W g t l) (j : Nat) : W.frozen? ⟨g, j, none⟩ = false := by
  unfold Blk at h
  simp [World.frozen?, h]
theorem Blk.set {W : World} {g : Nat} {t : TypeId} {l : List Value} (h : Blk W g t l) (j : Nat) (v : Value) : Blk (W.setCell ⟨g, j, none⟩ v) g t (l.set j v) := by
  unfold Blk at *
  simp [World.setCell, Array.getElem?_modify, h]
theorem Blk.other {W : World} {g : Nat} {t : TypeId} {l : List Value} (h : Blk W g t l) (p : Addr) (hp : p.block ≠ g) (v : Value) : Blk (W.setCell p v) g t l := by
  unfold Blk at *
  rw [Below.heap_setCell _ _ _ _ (fun e => hp e.symm)]
  exact h
theorem Blk.alloc {W : World} {g : Nat} {t : TypeId} {l : List Value} (h : Blk W g t l) (o : Obj) : Blk (W.alloc o) g t l := by
  have := h.lt
  unfold Blk at *
  rw [Below.heap_alloc _ _ _ this]
  exact h
theorem Blk.new (W : World) (t : TypeId) (l : List Value) : Blk (W.alloc (.cells l.toArray t)) W.heap.size t l := by
  unfold Blk
  show (W.heap.push _)[W.heap.size]? = _
  simp
theorem Blk.drew {W : World} {g : Nat} {t : TypeId} {l : List Value} (h : Blk W g t l) : Blk W.drew g t l := h
theorem Blk.kept {W W' : World} {g : Nat} {t : TypeId} {l : List Value} (h : Blk W g t l) (e : W'.heap[g]? = W.heap[g]?) : Blk W' g t l := by
  unfold Blk at *; rw [e]; exact h
theorem Blk.setRow {W : World} {g : Nat} {t : TypeId} {l : List Value} (h : Blk W g t l) (l' : List Value) : Blk (W.setRow g l'.toArray) g t l' := by
  unfold Blk at *
  simp [World.setRow, Array.getElem?_modify, h]
theorem heap_setRow_other (W : World) (g k : Nat) (cs : Array Value) (h : k ≠ g) : (W.setRow g cs).heap[k]? = W.heap[k]? := by
  simp only [World.setRow, Array.getElem?_modify]
  rw [if_neg (fun e => h e.symm)]
theorem size_setRow (W : World) (g : Nat) (cs : Array Value) : (W.setRow g cs).heap.size = W.heap.size := by simp [World.setRow]
/-- Only the blocks of S, and new ones, may have turned. -/
structure Fr (S : Nat → Prop) (W W' : World) : Prop where
  os : W'.os = W.os
  tape : W'.tape = W.tape
  output : W'.output = W.output
  size : W.heap.size ≤ W'.heap.size
  block : ∀ k, k < W.heap.size → ¬ S k → W'.heap[k]? = W.heap[k]?
theorem Fr.refl (S : Nat → Prop) (W : World) : Fr S W W := ⟨rfl, rfl, rfl, Nat.le_refl _, fun _ _ _ => rfl⟩
theorem Fr.trans {S S' : Nat → Prop} {A B C : World} (h : Fr S A B) (k : Fr S' B C) (hs : ∀ i, i < A.heap.size → S' i → S i) : Fr S A C :=
  ⟨k.os.trans h.os, k.tape.trans h.tape, k.output.trans h.output, Nat.le_trans h.size k.size, fun i hi hn => (k.block i (Nat.lt_of_lt_of_le hi h.size) (fun e => hn (hs i hi e))).trans (h.block i hi hn)⟩
theorem Fr.drew {S : Nat → Prop} {A B : World} (h : Fr S A B) : Fr S A B.drew := ⟨h.os, h.tape, h.output, h.size, h.block⟩
theorem Fr.alloc {S : Nat → Prop} {A B : World} (h : Fr S A B) (o : Obj) : Fr S A (B.alloc o) :=
  h.trans (S' := fun _ => False) ⟨rfl, rfl, rfl, by simp, fun k hk _ => Below.heap_alloc _ _ _ hk⟩ (fun _ _ e => e.elim)
theorem Fr.setCell {S : Nat → Prop} {A B : World} (h : Fr S A B) (p : Addr) (v : Value) (hp : S p.block ∨ A.heap.size ≤ p.block) : Fr S A (B.setCell p v) :=
  h.trans (S' := fun k => k = p.block) ⟨rfl, rfl, rfl, by simp [World.setCell], fun k _ hn => Below.heap_setCell _ _ _ _ hn⟩ (fun i hi e => by
    subst e
    rcases hp with hp | hp
    · exact hp
    · omega)
theorem Fr.setRow {S : Nat → Prop} {A B : World} (h : Fr S A B) (g : Nat) (cs : Array Value) (hp : S g ∨ A.heap.size ≤ g) : Fr S A (B.setRow g cs) :=
  h.trans (S' := fun k => k = g) ⟨rfl, rfl, rfl, by rw [size_setRow]; exact Nat.le_refl _, fun k _ hn => heap_setRow_other _ _ _ _ hn⟩ (fun i hi e => by
    subst e
    rcases hp with hp | hp
    · exact hp
    · omega)
theorem Fr.grown {S : Nat → Prop} {A B C : World} {row : Option Nat} (h : Fr S A B) (hg : B.grownBy C row) (hr : ∀ k, row = some k → S k ∨ A.heap.size ≤ k) : Fr S A C :=
  h.trans (S' := fun k => row = some k) ⟨hg.os, hg.tape, hg.output, hg.size, fun k hk hn => hg.block k hk (fun e => hn e.symm)⟩ (fun i hi e => by
    rcases hr i e with hp | hp
    · exact hp
    · omega)
theorem Fr.below {S : Nat → Prop} {A B : World} (h : Fr S A B) (n : Nat) (hn : n ≤ A.heap.size) (hs : ∀ k, S k → n ≤ k) : Below n A B :=
  ⟨h.os, h.tape, h.output, h.size, fun k hk => h.block k (by omega) (fun e => by have := hs k e; omega)⟩
theorem Fr.of_below {A B : World} {n : Nat} (h : Below n A B) : Fr (fun k => n ≤ k) A B := ⟨h.os, h.tape, h.output, h.size, fun k _ hn => h.block k (by omega)⟩
theorem Fr.mono {S S' : Nat → Prop} {A B : World} (h : Fr S A B) (hs : ∀ k, S k → S' k) : Fr S' A B := ⟨h.os, h.tape, h.output, h.size, fun k hk hn => h.block k hk (fun e => hn (hs k e))⟩
/-- 'append' to a row of the call's own: it stays where it was, or lies in a new block. -/
theorem app_own {P : Program} {W : World} (B : Nat) (t ty e : TypeId) (i : TypeInfo) (z : Value) (size bytes : Nat) (ht : P.underlying t = some (.slice e)) (hi : P.info? e = some i) (hz : i.zero = some z)
    (hsize : i.size = size) (hby : i.bytes = bytes) (hzs : z.cells.size = size) (hsz : 0 < size)
    (v : Value) (n : Nat) (xs : List Value) (hown : W.ownsRow B e size v n xs)
    (a : Addr) (m c : Nat) (news : List Value) (hl : news.length = m * size) (hnews : ∀ j u, news[j]? = some u → W.cell? (a.add j) = some u) (h1 : ∀ u ∈ news, u.oneCell' = true)
    (h63 : n + m ≤ maxLen) (hbytes : (n + m) * bytes ≤ 140737488355328) (hbase : B ≤ W.heap.size) :
    ∃ v' w', (Builtin.append_ #[t, t] ty #[v, .slice (some a) m c]).run P W = .ok v' w' ∧ w'.ownsRow B e size v' (n + m) (xs ++ news) ∧ Fr (fun k => v.ownBlock = some k) W w' ∧ (∀ k, v'.ownBlock = some k → v.ownBlock = some k ∨ W.heap.size ≤ k) := by
  have wide : ∀ {w' : World} {v' : Value} {ys : List Value}, w'.ownsRow W.heap.size e size v' (n + m) ys → w'.ownsRow B e size v' (n + m) ys := fun h => by
    refine ⟨h.1, ?_⟩
    rcases h.2 with h2 | ⟨g, cap, cur, q1, q2, q3⟩
    · exact .inl h2
    · exact .inr ⟨g, cap, cur, q1, Nat.le_trans hbase q2, q3⟩
  have own : ∀ {w' : World} {v' : Value} {ys : List Value}, w'.ownsRow W.heap.size e size v' (n + m) ys → ∀ k, v'.ownBlock = some k → W.heap.size ≤ k := fun h k hk => by
    rcases h.2 with ⟨rfl, _⟩ | ⟨g, cap, cur, rfl, q2, q3⟩
    · simp [Value.ownBlock] at hk
    · simp [Value.ownBlock] at hk
      omega
  rcases hown.2 with ⟨rfl, rfl⟩ | ⟨g, cap, cur, rfl, q1, q2, q3, q4, q5, q6⟩
  · obtain rfl : xs = [] := List.eq_nil_of_length_eq_zero (by simpa using hown.1)
    obtain ⟨v', w', hrun, r1, r2, _⟩ := run_append_own (P := P) W W.heap.size t ty e i z size bytes ht hi hz hsize hby hzs hsz (.slice none 0 0) 0 [] (World.ownsRow_nil W _ e size) a m c news hl hnews h1 h63 hbytes (Nat.le_refl _)
    exact ⟨v', w', hrun, wide r1, (Fr.refl _ W).grown r2 (fun k e => by simp [Value.ownBlock] at e), fun k hk => .inr (own r1 k hk)⟩
  · by_cases hr : n + m ≤ cap
    · obtain ⟨w', hrun, r1, r2⟩ := run_append_fits (P := P) W B t ty e i size ht hi hsize g n cap xs hown a m c news hl hnews h1 hr
      exact ⟨_, w', hrun, r1, (Fr.refl _ W).grown r2 (fun k e => .inl (by simpa [Value.ownBlock] using e)), fun k hk => .inl hk⟩
    · obtain ⟨v', w', hrun, r1, r2⟩ := run_append_arg_grows (P := P) W t ty e i z size bytes ht hi hz hsize hby hzs hsz ⟨g, 0, none⟩ n cap xs hown.1 (fun j u hj => by
        have hj' : j < n * size := by rw [← hown.1]; exact (List.getElem?_eq_some_iff.1 hj).1
        rw [show ((⟨g, 0, none⟩ : Addr).add j) = ⟨g, j, none⟩ from by unfold Addr.add; split <;> simp_all, hown.cellAt j hj']
        exact hj) a m c news hl hnews (by omega) h63 hbytes
      exact ⟨v', w', hrun, wide r1, (Fr.refl _ W).grown r2 (fun k e => by cases e), fun k hk => .inr (own r1 k hk)⟩
/-- 'append' whose run is known. -/
theorem wpList_append_run {P : Program} (w : World) {ops : Array Oper} {rest : List Oper} {o : Oper} {a : Act} {Q : Exit → Act → World → Prop}
    (hg : o.guard = none) (s x : Operand) (t : TypeId) (hop : o.op = Op.call { callee := Callee.builtin Builtin.append, args := #[s, x], argTypes := #[t, t] })
    (v y v' : Value) (w' : World) (hs : a.eval s = v) (hx : a.eval x = y) (hrun : (Builtin.append_ #[t, t] o.type #[v, y]).run P w = .ok v' w') (hK : wpList P ops Q rest (a.put o.dst v') w') : wpList P ops Q (o :: rest) a w := by
  refine wpList_plain hg fun K hK' => ?_
  unfold Oper.wp
  simp [execOp, hop, resolve, invoke, builtin, hs, hx, hrun, Result.andThen]
  exact hK' _ _ hK
theorem blen (s : ByteArray) : s.data.toList.length = s.size := by simp
/-- The cells of bytes. -/
def cellsB (l : List UInt8) : List Value := l.map fun b => Value.int .u8 (b.toNat : Int)
theorem cellsB_len (l : List UInt8) : (cellsB l).length = l.length := by simp [cellsB]
theorem cellsB_get (l : List UInt8) (j : Nat) (h : j < l.length) : (cellsB l)[j]? = some (.int .u8 (l[j].toNat : Int)) := by simp [cellsB, List.getElem?_eq_getElem h]
theorem cellsB_append (a b : List UInt8) : cellsB (a ++ b) = cellsB a ++ cellsB b := by simp [cellsB]
theorem cellsB_take (a : List UInt8) (n : Nat) : cellsB (a.take n) = (cellsB a).take n := by simp [cellsB, List.map_take]
theorem cellsB_drop (a : List UInt8) (n : Nat) : cellsB (a.drop n) = (cellsB a).drop n := by simp [cellsB, List.map_drop]
end Go.Proofs.YtggnldljfjhhcaaDoor
