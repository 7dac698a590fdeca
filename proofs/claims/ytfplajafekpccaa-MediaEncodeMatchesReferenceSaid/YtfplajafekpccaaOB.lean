/-
  A row of bytes of the call's own that '[]byte(s)' began: its mark lies behind its last cell. append of a string to it; its string.
-/
import Derived.WalkKit
import Derived.Laws.IdiomStrings
import Derived.Laws.CopyRow
import Derived.Lib.AppendStr
import Derived.Test.YtfplajafekpccaaBlk
import Derived.Test.YtfplajafekpccaaProg
set_option linter.unusedVariables false
set_option linter.unusedSimpArgs false
namespace Go.Proofs.Ytfplajafekpccaa
open Go.RowKit
theorem strCells_cellsB (s : ByteArray) : Lib.strCells s = cellsB s.data.toList := rfl
/-- A row whose frozen stretch lies behind its cells (or is none). -/
def Free (cur : Array Value) (fz : Nat × Nat) : Prop := ∀ k, k < cur.size → ¬ (fz.1 ≤ k ∧ k < fz.2)
theorem store_free {P : Program} (g o : Nat) (t : TypeId) (fz : Nat × Nat) : ∀ (vs : List Value) (i : Nat) (cur : Array Value) (w : World), w.heap[g]? = some (.cells cur t fz) → Free cur fz → o + i + vs.length ≤ cur.size → (∀ v ∈ vs, v.oneCell' = true) →
    (storeCells ⟨g, o, none⟩ vs i).run P w = .ok () (w.setRow g (cur.toList.take (o + i) ++ vs ++ cur.toList.drop (o + i + vs.length)).toArray)
  | [], i, cur, w, hg, _, _, _ => by
    simp only [storeCells, List.append_nil, List.length_nil, Nat.add_zero, List.take_append_drop, Array.toArray_toList]
    rw [setRow_self w g cur t fz hg]
    rfl
  | v :: rest, i, cur, w, hg, hfz, hl, h1 => by
    have hi : o + i < cur.size := by rw [List.length_cons] at hl; omega
    have hadd : (⟨g, o, none⟩ : Addr).add i = ⟨g, o + i, none⟩ := by unfold Addr.add; split <;> simp_all
    have hcell : w.cell? ⟨g, o + i, none⟩ = some cur[o + i] := by simp [World.cell?, hg, hi]
    have hfro : w.frozen? ⟨g, o + i, none⟩ = false := by
      have := hfz (o + i) hi
      obtain ⟨lo, up⟩ := fz
      simp only [World.frozen?, hg, Bool.and_eq_false_iff, decide_eq_false_iff_not]
      simp only at this
      omega
    have hst : (store ((⟨g, o, none⟩ : Addr).add i) v).run P w = .ok () (w.setRow g (cur.setIfInBounds (o + i) v)) := by
      rw [hadd, run_store P w _ v _ (h1 v (by simp)), hcell]
      simp [hfro, setCell_eq_setRow w g (o + i) cur t fz v hg]
    have ih := store_free (P := P) g o t fz rest (i + 1) (cur.setIfInBounds (o + i) v) (w.setRow g (cur.setIfInBounds (o + i) v)) (setRow_heap w g cur _ t _ hg) (fun k hk => hfz k (by simpa using hk)) (by rw [List.length_cons] at hl; simp; omega) (fun x hx => h1 x (by simp [hx]))
    simp only [storeCells, Sem.run_bind, hst, Result.andThen_ok, ih, setRow_setRow]
    congr 3
    have e := list_seg_step cur.toList (o + i) v rest (by rw [List.length_cons] at hl; simp; omega)
    simpa [Array.toList_setIfInBounds, Nat.add_assoc] using e
/-- The row l of the call's own; B: the heap's size when the row was begun. -/
structure OB (B : Nat) (wr : World) (v : Value) (l : List UInt8) : Prop where
  own : ∃ g cap cur fz, v = .slice (some ⟨g, 0, none⟩) l.length cap ∧ B ≤ g ∧ wr.heap[g]? = some (.cells cur 5 fz) ∧ Free cur fz ∧ l.length ≤ cap ∧ cap ≤ maxLen ∧ cur.size = cap ∧ cur.toList.take l.length = cellsB l
theorem OB.blk {B : Nat} {w : World} {v : Value} {l : List UInt8} (h : OB B w v l) : ∃ g, v.ownBlock = some g ∧ B ≤ g ∧ g < w.heap.size := by
  obtain ⟨g, cap, cur, fz, rfl, h1, h2, _⟩ := h.own
  exact ⟨g, rfl, h1, (Array.getElem?_eq_some_iff.1 h2).1⟩
theorem OB.slice {B : Nat} {w : World} {v : Value} {l : List UInt8} (h : OB B w v l) : ∃ g cap, v = .slice (some ⟨g, 0, none⟩) l.length cap := by
  obtain ⟨g, cap, cur, fz, rfl, _⟩ := h.own
  exact ⟨g, cap, rfl⟩
theorem OB.below {B : Nat} {w w' : World} {v : Value} {l : List UInt8} (h : OB B w v l) (hb : Below w.heap.size w w') : OB B w' v l := by
  obtain ⟨g, cap, cur, fz, rfl, h1, h2, h3⟩ := h.own
  exact ⟨g, cap, cur, fz, rfl, h1, (hb.block g (Array.getElem?_eq_some_iff.1 h2).1).trans h2, h3⟩
theorem Try.infoU8b : (Try.prog.info? 5).map (fun i => (i.zero, i.size, i.bytes)) = some (some (.int .u8 0), 1, 1) := by kernel_rfl
theorem OB.new (w : World) (s : ByteArray) (hs : s.size ≤ maxLen) :
    ∃ v w', (convert 9 53 (.string s)).run Try.prog w = .ok v w' ∧ OB w.heap.size w' v s.data.toList ∧ Below w.heap.size w w' := by
  have hge : s.size ≤ grownCap w s.size 0 5 := grownCap_ge w s.size 0 _
  have hle : grownCap w s.size 0 5 ≤ maxLen := grownCap_le_maxLen w s.size 0 _ hs
  have hsz : (bytesRow s (grownCap w s.size 0 5)).size = grownCap w s.size 0 5 := by
    have : s.data.size = s.size := rfl
    simp [bytesRow]
    omega
  refine ⟨_, _, run_bytes_of_string w 9 53 5 s Try.underlying9 Try.underlying53 Try.underlying5, ⟨w.heap.size, _, _, _, by rw [blen], Nat.le_refl _, heap_alloc_new w.drew _, ?_, by rw [blen]; exact hge, hle, hsz, ?_⟩, (Below.refl _ w).drew.alloc (Nat.le_refl _) _⟩
  · intro k hk
    simp only
    omega
  · have e : s.data.toList.length = ((s.data.map (fun b => Value.int .u8 b.toNat)).toList).length := by simp
    unfold bytesRow
    rw [Array.toList_append, e, List.take_left]
    simp [cellsB]
theorem OB.app {B : Nat} {w : World} {v : Value} {l : List UInt8} (h : OB B w v l) (s : ByteArray) (hn : l.length + s.size ≤ 140737488355328) (hB : B ≤ w.heap.size) (ty : TypeId) :
    ∃ v' w', (Builtin.append_ #[53, 9] ty #[v, .string s]).run Try.prog w = .ok v' w' ∧ OB B w' v' (l ++ s.data.toList) ∧ Below B w w' := by
  obtain ⟨i0, hi, hz0, hz1, hz2⟩ := info_parts Try.infoU8b
  obtain ⟨g, cap, cur, fz, rfl, hbg, hg, hfz, hnc, hcm, hcs, htake⟩ := h.own
  have hlen : (cellsB l ++ Lib.strCells s).length = l.length + s.size := by rw [List.length_append, cellsB_len, Lib.strCells_length]
  have hll : (l ++ s.data.toList).length = l.length + s.size := by rw [List.length_append, blen]
  by_cases hroom : l.length + s.size ≤ cap
  · have hst := store_free (P := Try.prog) g l.length 5 fz (Lib.strCells s) 0 cur w hg hfz (by rw [Lib.strCells_length]; omega) (Lib.strCells_oneCell s)
    simp only [Nat.add_zero, Lib.strCells_length] at hst
    have hf := Lib.run_firstCells_string (P := Try.prog) w 1 s
    have hr : (Builtin.append_ #[53, 9] ty #[.slice (some ⟨g, 0, none⟩) l.length cap, .string s]).run Try.prog w = .ok (.slice (some ⟨g, 0, none⟩) (l.length + s.size) cap) (w.setRow g (cur.toList.take l.length ++ Lib.strCells s ++ cur.toList.drop (l.length + s.size)).toArray) := by
      simp [Builtin.append_, run_underlying Try.underlying53, run_underlying Try.underlying9, sizeOf, typeInfo, hi, hz1, Builtin.lenOf, hroom, hf, Addr.add_lit, hst]
    have hsz2 : (cur.toList.take l.length ++ Lib.strCells s ++ cur.toList.drop (l.length + s.size)).toArray.size = cap := by
      simp only [List.size_toArray, List.length_append, List.length_take, List.length_drop, Array.length_toList, Lib.strCells_length]
      omega
    refine ⟨_, _, hr, ⟨g, cap, _, fz, by rw [hll], hbg, setRow_heap w g cur _ _ _ hg, fun k hk => hfz k (by omega), by omega, hcm, hsz2, ?_⟩, ?_⟩
    · rw [hll, htake, ← hlen, List.take_left, cellsB_append, strCells_cellsB]
    · exact ⟨rfl, rfl, rfl, by rw [size_setRow]; exact Nat.le_refl _, fun k hk => heap_setRow_other w g k _ (by omega)⟩
  · have holds : ∀ j u, (cellsB l)[j]? = some u → w.cell? ((⟨g, 0, none⟩ : Addr).add j) = some u := fun j u hj => by
      have hadd : (⟨g, 0, none⟩ : Addr).add j = ⟨g, j, none⟩ := by unfold Addr.add; split <;> simp_all
      rw [hadd, cell_of_row w g j cur _ fz hg]
      rw [← htake, List.getElem?_take] at hj
      split at hj
      · simpa using hj
      · cases hj
    have hr := Lib.run_append_grow_string (P := Try.prog) w 53 9 ty 5 i0 (.int .u8 0) Try.underlying53 Try.underlying9 hi hz0 ⟨g, 0, none⟩ l.length cap (cellsB l) (by rw [hz1, cellsB_len, Nat.mul_one]) holds s (by omega) (by omega) (by rw [hz2]; exact growslice_fits (by omega) (by omega))
    have hge := grownCap_ge w (l.length + s.size) cap 5
    have hcm2 : grownCap w (l.length + s.size) cap 5 ≤ maxLen := grownCap_le_maxLen w (l.length + s.size) cap _ (by unfold maxLen; omega)
    refine ⟨_, _, hr, ⟨w.heap.size, _, _, (0, 0), by rw [hll], hB, heap_alloc_new w.drew _, fun k _ => by simp, by omega, hcm2, ?_, ?_⟩, (Below.refl _ w).drew.alloc hB _⟩
    · have hz1 : (Value.int IntKind.u8 0).cells.size = 1 := rfl
      simp only [Array.size_append, List.size_toArray, size_zeroCells, hz1, cellsB_len, Lib.strCells_length]
      omega
    · simp only [Array.toList_append]
      rw [hll, ← hlen, List.take_left, cellsB_append, strCells_cellsB]
theorem OB.back {B : Nat} {w : World} {v : Value} {l : List UInt8} (h : OB B w v l) : (convert 53 9 v).run Try.prog w = .ok (.string ⟨l.toArray⟩) w := by
  obtain ⟨g, cap, cur, fz, rfl, hbg, hg, hfz, hnc, hcm, hcs, htake⟩ := h.own
  exact run_convert_bytes_back (P := Try.prog) w 53 9 5 ⟨g, 0, none⟩ cap l Try.underlying53 Try.underlying5 Try.underlying9 (fun j hj => by
    have hadd : (⟨g, 0, none⟩ : Addr).add j = ⟨g, j, none⟩ := by unfold Addr.add; split <;> simp_all
    rw [hadd, cell_of_row w g j cur _ fz hg]
    have h1 := cellsB_get l j hj
    rw [← htake, List.getElem?_take, if_pos hj] at h1
    simpa using h1)
end Go.Proofs.Ytfplajafekpccaa
