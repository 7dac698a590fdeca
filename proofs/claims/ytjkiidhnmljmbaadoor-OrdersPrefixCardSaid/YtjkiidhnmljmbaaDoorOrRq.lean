/-
  Orders, the law Repeats: a sender and the law's notes side by side in memory; the messages of a tick, read.
-/
import Derived.Test.YtjkiidhnmljmbaaDoorOrX
import Derived.Test.YtjkiidhnmljmbaaDoorOrRp
set_option linter.unusedVariables false
set_option linter.unusedSimpArgs false
namespace Go.Proofs.YtjkiidhnmljmbaaDoor
open Go.RowKit
def intC (C : List Int) : List Value := C.map fun t => .int .i64 t
structure RpS (W0 W : World) (bs : Nat) (vp : Value) (L : List Pst) (k lb n : Nat) (C : List Int) : Prop where
  sn : SnAt W W0.heap.size bs 2 vp L k
  la : W.ownsRow W0.heap.size 3 1 (.slice (some ⟨lb, 0, none⟩) (n + 1) (n + 1)) (n + 1) (intC C)
  ne1 : lb ≠ bs
  ne2 : ∀ g, vp.ownBlock = some g → g ≠ lb
  bel : Below W0.heap.size W0 W
section
variable {W0 W W' : World} {bs k k' lb n : Nat} {vp : Value} {L L' : List Pst} {C : List Int}
theorem RpS.send (h : RpS W0 W bs vp L k lb n C) {S : Nat → Prop} (hs : SnAt W' W0.heap.size bs 2 vp L' k') (hf : Fr S W W') (hS : ∀ c, S c → c = bs ∨ vp.ownBlock = some c) : RpS W0 W' bs vp L' k' lb n C :=
  ⟨hs, ownsRow_keptF h.la (fun c e => hf.block c (own_lt h.la c e) (fun hc => by
    have e' : lb = c := by simpa [Value.ownBlock] using e
    subst e'
    rcases hS _ hc with h1 | h1
    · exact h.ne1 h1
    · exact h.ne2 _ h1 rfl)), h.ne1, h.ne2, h.bel.trans (hf.below _ h.bel.size (fun c hc => h.sn.bge c (hS c hc)))⟩
theorem RpS.below (h : RpS W0 W bs vp L k lb n C) (hb : Below W.heap.size W W') : RpS W0 W' bs vp L k lb n C :=
  h.send (S := fun _ => False) (h.sn.below hb) (Fr.under _ hb) (fun _ e => e.elim)
theorem RpS.at (h : RpS W0 W bs vp L k lb n C) {j : Nat} {t : Int} (ht : C[j]? = some t) : W.cell? ⟨lb, j, none⟩ = some (.int .i64 t) := by
  have hl : j < C.length := (List.getElem?_eq_some_iff.1 ht).1
  have hc : C.length = (n + 1) * 1 := by have := h.la.1; rw [intC, List.length_map] at this; exact this
  rw [h.la.cellAt j (by omega)]
  simp [intC, ht]
theorem RpS.frz (h : RpS W0 W bs vp L k lb n C) (j : Nat) : W.frozen? ⟨lb, j, none⟩ = false := own_frozen h.la j
theorem RpS.put (h : RpS W0 W bs vp L k lb n C) (j : Nat) (t : Int) : RpS W0 (W.setCell ⟨lb, j, none⟩ (.int .i64 t)) bs vp L k lb n (C.set j t) := by
  refine ⟨⟨h.sn.blk.other _ h.ne1 _, ownsRow_keptF h.sn.own (fun g e => Below.heap_setCell _ _ _ _ (h.ne2 g e)), h.sn.ge, h.sn.ne⟩, ?_, h.ne1, h.ne2, ?_⟩
  · have := ownsRow_set h.la j (.int .i64 t)
    rw [show intC (C.set j t) = (intC C).set j (.int .i64 t) by simp [intC, List.map_set]]
    exact this
  · exact h.bel.trans (((Fr.refl (fun c => c = lb) W).setCell ⟨lb, j, none⟩ _ (.inl rfl)).below _ h.bel.size (fun c e => by rw [e]; exact own_ge h.la lb rfl))
end
theorem mCells_at (tn : Int) : ∀ (Ms : List (Nat × Int)) (i : Nat) (x : Nat × Int) (t : Nat), Ms[i]? = some x → t < 31 → (mCells tn Ms)[i * 31 + t]? = (msgA 1 tn ((x.1 : Int) + 1) 0 0 ((x.1 : Int) + 1) (-1) x.2 2 1).toList[t]?
  | [], _, _, _, h, _ => by simp at h
  | q :: l, 0, x, t, h, ht => by
    simp at h
    subst h
    simp only [mCells, List.flatMap_cons, Nat.zero_mul, Nat.zero_add]
    rw [List.getElem?_append_left (by show t < 31; exact ht)]
  | q :: l, i + 1, x, t, h, ht => by
    have := mCells_at tn l i x t (by simpa using h) ht
    simp only [mCells, List.flatMap_cons]
    rw [List.getElem?_append_right (by show 31 ≤ _; omega), show (i + 1) * 31 + t - (msgA 1 tn ((q.1 : Int) + 1) 0 0 ((q.1 : Int) + 1) (-1) q.2 2 1).toList.length = i * 31 + t by show _ - 31 = _; omega]
    exact this
/-- The messages of a tick, beside the block lb. -/
def MsAt (W : World) (lb mg : Nat) (Ms : List (Nat × Int)) : Prop := mg ≠ lb ∧ ∀ i x, Ms[i]? = some x → W.cell? ⟨mg, i * 31 + 1, none⟩ = some (.int .i64 2) ∧ W.cell? ⟨mg, i * 31 + 2, none⟩ = some (.int .i64 (((x.1 + 1 : Nat) : Int)))
theorem MsAt.put {W : World} {lb mg : Nat} {Ms : List (Nat × Int)} (h : MsAt W lb mg Ms) (j : Nat) (v : Value) : MsAt (W.setCell ⟨lb, j, none⟩ v) lb mg Ms :=
  ⟨h.1, fun i x hx => ⟨(World.cell?_setCell_far _ _ _ _ (show lb ≠ mg from fun e => h.1 e.symm)).trans (h.2 i x hx).1, (World.cell?_setCell_far _ _ _ _ (show lb ≠ mg from fun e => h.1 e.symm)).trans (h.2 i x hx).2⟩⟩
theorem MsAt.of {W : World} {B lb : Nat} {vl : Value} {Ms : List (Nat × Int)} (h : W.ownsRow B 32 31 vl Ms.length (mCells 2 Ms)) (hb : lb < B) : ∃ og cap, vl = .slice og Ms.length cap ∧ (Ms = [] ∨ ∃ mg, og = some ⟨mg, 0, none⟩ ∧ MsAt W lb mg Ms) := by
  obtain ⟨og, cap, rfl⟩ := own_slice h
  refine ⟨og, cap, rfl, ?_⟩
  rcases h.2 with ⟨_, hz⟩ | ⟨g, cap', cur, h1, h2, h3, _⟩
  · exact .inl (List.eq_nil_of_length_eq_zero hz)
  · simp only [Value.slice.injEq] at h1
    obtain ⟨rfl, _, rfl⟩ := h1
    refine .inr ⟨g, rfl, by omega, fun i x hx => ?_⟩
    have hi : i < Ms.length := (List.getElem?_eq_some_iff.1 hx).1
    have h31 : (mCells 2 Ms).length = Ms.length * 31 := h.1
    refine ⟨?_, ?_⟩
    · rw [h.cellAt _ (by omega), mCells_at 2 Ms i x 1 hx (by decide)]; rfl
    · rw [h.cellAt _ (by omega), mCells_at 2 Ms i x 2 hx (by decide)]; rfl
/-- The postings of the law: the orders 1 to m at the frames 1 to m. -/
def P0 (m : Nat) : List Pst := (List.range m).map fun (j : Nat) => (⟨(j : Int) + 1, false, 0⟩ : Pst)
theorem P0_len (m : Nat) : (P0 m).length = m := by simp [P0]
theorem P0_succ (m : Nat) : P0 m ++ [⟨(m : Int) + 1, false, 0⟩] = P0 (m + 1) := by simp [P0, List.range_succ]
theorem P0_at (m j : Nat) (p : Pst) (h : (P0 m)[j]? = some p) : j < m ∧ p = ⟨(j : Int) + 1, false, 0⟩ := by
  have hj : j < m := by have := (List.getElem?_eq_some_iff.1 h).1; rw [P0_len] at this; exact this
  refine ⟨hj, ?_⟩
  simp [P0, hj] at h
  exact h.symm
theorem RepI.start (n : Nat) : RepI (P0 n) (List.replicate (n + 1) 0) n 0 := by
  refine ⟨P0_len n, by simp, fun j p hp => ?_⟩
  obtain ⟨hj, rfl⟩ := P0_at n j p hp
  exact ⟨0, by rw [List.getElem?_replicate, if_pos (by omega)], Int.le_refl _, Int.le_refl _, by simp, fun h => absurd h (by omega), Int.le_refl _, Int.le_refl _⟩
end Go.Proofs.YtjkiidhnmljmbaaDoor
