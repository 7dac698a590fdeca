/-
  Orders: rows of postings, of messages and of orders: what append leaves; a sender in memory.
-/
import Derived.OwnWalk
import Derived.Test.YtjkiidhnmljmbaaGreatDoorOrD
set_option linter.unusedVariables false
set_option linter.unusedSimpArgs false
namespace Go.Proofs.YtjkiidhnmljmbaaGreatDoor
open Go.RowKit
theorem own_slice {wr : World} {B : Nat} {t : TypeId} {size : Nat} {v : Value} {n : Nat} {xs : List Value} (h : wr.ownsRow B t size v n xs) : ∃ oa cap, v = .slice oa n cap := by
  rcases h.2 with ⟨rfl, rfl⟩ | ⟨g, cap, _, rfl, _⟩
  · exact ⟨_, _, rfl⟩
  · exact ⟨_, _, rfl⟩
theorem own_ge {wr : World} {B : Nat} {t : TypeId} {size : Nat} {v : Value} {n : Nat} {xs : List Value} (h : wr.ownsRow B t size v n xs) : ∀ k, v.ownBlock = some k → B ≤ k := fun k hk => by
  rcases h.2 with ⟨rfl, rfl⟩ | ⟨g, cap, cur, rfl, q2, q3⟩
  · simp [Value.ownBlock] at hk
  · simp [Value.ownBlock] at hk
    omega
theorem own_lt {wr : World} {B : Nat} {t : TypeId} {size : Nat} {v : Value} {n : Nat} {xs : List Value} (h : wr.ownsRow B t size v n xs) : ∀ k, v.ownBlock = some k → k < wr.heap.size := fun k hk => by
  rcases h.2 with ⟨rfl, rfl⟩ | ⟨g, cap, cur, rfl, q2, q3⟩
  · simp [Value.ownBlock] at hk
  · simp [Value.ownBlock] at hk
    subst hk
    exact (Array.getElem?_eq_some_iff.1 q3.1).1
theorem ownsRow_keptF {W W' : World} {B : Nat} {t : TypeId} {size : Nat} {v : Value} {n : Nat} {xs : List Value} (h : W.ownsRow B t size v n xs) (hk : ∀ k, v.ownBlock = some k → W'.heap[k]? = W.heap[k]?) : W'.ownsRow B t size v n xs := by
  refine ⟨h.1, ?_⟩
  rcases h.2 with h2 | ⟨g, cap, cur, rfl, q2, q3, q4⟩
  · exact .inl h2
  · exact .inr ⟨g, cap, cur, rfl, q2, (hk g rfl).trans q3, q4⟩
theorem Tryz.infoPost : (Tryz.prog.info? 125).map (fun i => (i.zero, i.size, i.bytes)) = some (some (.agg #[.int .i64 0, .int .i64 0, .int .i64 0, .int .i64 0, .int .i64 0, .int .i64 0, .int .i64 0, .int .i64 0, .int .i64 0, .int .i64 0, .int .i64 0, .int .i64 0, .slice none 0 0, .int .i64 0, .int .i64 0, .int .i64 0, .int .i64 0, .int .i64 0, .int .i64 0, .int .i64 0, .int .i64 0, .int .i64 0, .int .i64 0, .int .i64 0, .int .i64 0, .string ⟨#[]⟩, .bool false, .int .i64 0]), 28, 248) := by kernel_rfl
theorem app_post (wr : World) (B : Nat) (v : Value) (n : Nat) (xs cs : List Value) (hown : wr.ownsRow B 125 28 v n xs) (hn : n ≤ 1000000) (hB : B ≤ wr.heap.size) (ty : TypeId) (hcs : cs.length = 28) (h1 : ∀ u ∈ cs, u.oneCell' = true) :
    ∃ oa cap w', (Builtin.append_ #[116, 116] ty #[v, .slice (some ⟨wr.heap.size, 0, none⟩) 1 1]).run Tryz.prog (wr.alloc (.cells cs.toArray 125)) = .ok (.slice oa (n + 1) cap) w' ∧ w'.ownsRow B 125 28 (.slice oa (n + 1) cap) (n + 1) (xs ++ cs) ∧ Fr (fun k => v.ownBlock = some k) wr w' ∧ (∀ k, (Value.slice oa (n + 1) cap).ownBlock = some k → v.ownBlock = some k ∨ wr.heap.size ≤ k) := by
  obtain ⟨i0, hi, hz0, hz1, hz2⟩ := info_parts Tryz.infoPost
  have hnew : Blk (wr.alloc (.cells cs.toArray 125)) wr.heap.size 125 cs := Blk.new wr _ _
  obtain ⟨v', w', hrun, h1, h2, h3⟩ := app_own (P := Tryz.prog) (W := wr.alloc (.cells cs.toArray 125)) B 116 ty 125 i0 (.agg #[.int .i64 0, .int .i64 0, .int .i64 0, .int .i64 0, .int .i64 0, .int .i64 0, .int .i64 0, .int .i64 0, .int .i64 0, .int .i64 0, .int .i64 0, .int .i64 0, .slice none 0 0, .int .i64 0, .int .i64 0, .int .i64 0, .int .i64 0, .int .i64 0, .int .i64 0, .int .i64 0, .int .i64 0, .int .i64 0, .int .i64 0, .int .i64 0, .int .i64 0, .string ⟨#[]⟩, .bool false, .int .i64 0]) 28 248 Tryz.underlying116 hi hz0 hz1 hz2 rfl (by decide) v n xs (hown.alloc _) ⟨wr.heap.size, 0, none⟩ 1 1 cs (by omega) (fun j u hj => by
      rw [show ((⟨wr.heap.size, 0, none⟩ : Addr).add j) = ⟨wr.heap.size, j, none⟩ from by unfold Addr.add; split <;> simp_all, hnew.cell]
      exact hj) h1 (by unfold maxLen; omega) (by omega) (by simp; omega)
  obtain ⟨oa, cap, rfl⟩ := own_slice h1
  refine ⟨oa, cap, w', hrun, h1, ((Fr.refl _ wr).alloc _).trans h2 (fun k _ hk => hk), fun k hk => (h3 k hk).imp_right (fun h => ?_)⟩
  rw [World.size_alloc] at h
  omega
theorem Tryz.infoMsg : (Tryz.prog.info? 32).map (fun i => (i.zero, i.size, i.bytes)) = some (some (.agg #[.int .i64 0, .int .i64 0, .int .i64 0, .int .i64 0, .int .i64 0, .int .i64 0, .int .i64 0, .int .i64 0, .int .i64 0, .int .i64 0, .int .i64 0, .int .i64 0, .int .i64 0, .int .i64 0, .int .i64 0, .int .i64 0, .int .i64 0, .slice none 0 0, .int .i64 0, .int .i64 0, .int .i64 0, .int .i64 0, .int .i64 0, .int .i64 0, .int .i64 0, .int .i64 0, .int .i64 0, .int .i64 0, .int .i64 0, .int .i64 0, .string ⟨#[]⟩]), 31, 272) := by kernel_rfl
theorem app_msg (wr : World) (B : Nat) (v : Value) (n : Nat) (xs cs : List Value) (hown : wr.ownsRow B 32 31 v n xs) (hn : n ≤ 1000000) (hB : B ≤ wr.heap.size) (ty : TypeId) (hcs : cs.length = 31) (h1 : ∀ u ∈ cs, u.oneCell' = true) :
    ∃ oa cap w', (Builtin.append_ #[55, 55] ty #[v, .slice (some ⟨wr.heap.size, 0, none⟩) 1 1]).run Tryz.prog (wr.alloc (.cells cs.toArray 32)) = .ok (.slice oa (n + 1) cap) w' ∧ w'.ownsRow B 32 31 (.slice oa (n + 1) cap) (n + 1) (xs ++ cs) ∧ Fr (fun k => v.ownBlock = some k) wr w' ∧ (∀ k, (Value.slice oa (n + 1) cap).ownBlock = some k → v.ownBlock = some k ∨ wr.heap.size ≤ k) := by
  obtain ⟨i0, hi, hz0, hz1, hz2⟩ := info_parts Tryz.infoMsg
  have hnew : Blk (wr.alloc (.cells cs.toArray 32)) wr.heap.size 32 cs := Blk.new wr _ _
  obtain ⟨v', w', hrun, h1, h2, h3⟩ := app_own (P := Tryz.prog) (W := wr.alloc (.cells cs.toArray 32)) B 55 ty 32 i0 (.agg #[.int .i64 0, .int .i64 0, .int .i64 0, .int .i64 0, .int .i64 0, .int .i64 0, .int .i64 0, .int .i64 0, .int .i64 0, .int .i64 0, .int .i64 0, .int .i64 0, .int .i64 0, .int .i64 0, .int .i64 0, .int .i64 0, .int .i64 0, .slice none 0 0, .int .i64 0, .int .i64 0, .int .i64 0, .int .i64 0, .int .i64 0, .int .i64 0, .int .i64 0, .int .i64 0, .int .i64 0, .int .i64 0, .int .i64 0, .int .i64 0, .string ⟨#[]⟩]) 31 272 Tryz.underlying55 hi hz0 hz1 hz2 rfl (by decide) v n xs (hown.alloc _) ⟨wr.heap.size, 0, none⟩ 1 1 cs (by omega) (fun j u hj => by
      rw [show ((⟨wr.heap.size, 0, none⟩ : Addr).add j) = ⟨wr.heap.size, j, none⟩ from by unfold Addr.add; split <;> simp_all, hnew.cell]
      exact hj) h1 (by unfold maxLen; omega) (by omega) (by simp; omega)
  obtain ⟨oa, cap, rfl⟩ := own_slice h1
  refine ⟨oa, cap, w', hrun, h1, ((Fr.refl _ wr).alloc _).trans h2 (fun k _ hk => hk), fun k hk => (h3 k hk).imp_right (fun h => ?_)⟩
  rw [World.size_alloc] at h
  omega
theorem Tryz.infoOrd : (Tryz.prog.info? 30).map (fun i => (i.zero, i.size, i.bytes)) = some (some (.agg #[.int .i64 0, .int .i64 0, .int .i64 0, .int .i64 0, .int .i64 0, .int .i64 0, .int .i64 0, .int .i64 0, .int .i64 0, .int .i64 0, .int .i64 0, .int .i64 0, .slice none 0 0, .int .i64 0, .int .i64 0, .int .i64 0, .int .i64 0, .int .i64 0, .int .i64 0, .int .i64 0, .int .i64 0, .int .i64 0, .int .i64 0, .int .i64 0, .int .i64 0, .string ⟨#[]⟩]), 26, 232) := by kernel_rfl
theorem app_ord (wr : World) (B : Nat) (v : Value) (n : Nat) (xs cs : List Value) (hown : wr.ownsRow B 30 26 v n xs) (hn : n ≤ 1000000) (hB : B ≤ wr.heap.size) (ty : TypeId) (hcs : cs.length = 26) (h1 : ∀ u ∈ cs, u.oneCell' = true) :
    ∃ oa cap w', (Builtin.append_ #[50, 50] ty #[v, .slice (some ⟨wr.heap.size, 0, none⟩) 1 1]).run Tryz.prog (wr.alloc (.cells cs.toArray 30)) = .ok (.slice oa (n + 1) cap) w' ∧ w'.ownsRow B 30 26 (.slice oa (n + 1) cap) (n + 1) (xs ++ cs) ∧ Fr (fun k => v.ownBlock = some k) wr w' ∧ (∀ k, (Value.slice oa (n + 1) cap).ownBlock = some k → v.ownBlock = some k ∨ wr.heap.size ≤ k) := by
  obtain ⟨i0, hi, hz0, hz1, hz2⟩ := info_parts Tryz.infoOrd
  have hnew : Blk (wr.alloc (.cells cs.toArray 30)) wr.heap.size 30 cs := Blk.new wr _ _
  obtain ⟨v', w', hrun, h1, h2, h3⟩ := app_own (P := Tryz.prog) (W := wr.alloc (.cells cs.toArray 30)) B 50 ty 30 i0 (.agg #[.int .i64 0, .int .i64 0, .int .i64 0, .int .i64 0, .int .i64 0, .int .i64 0, .int .i64 0, .int .i64 0, .int .i64 0, .int .i64 0, .int .i64 0, .int .i64 0, .slice none 0 0, .int .i64 0, .int .i64 0, .int .i64 0, .int .i64 0, .int .i64 0, .int .i64 0, .int .i64 0, .int .i64 0, .int .i64 0, .int .i64 0, .int .i64 0, .int .i64 0, .string ⟨#[]⟩]) 26 232 Tryz.underlying50 hi hz0 hz1 hz2 rfl (by decide) v n xs (hown.alloc _) ⟨wr.heap.size, 0, none⟩ 1 1 cs (by omega) (fun j u hj => by
      rw [show ((⟨wr.heap.size, 0, none⟩ : Addr).add j) = ⟨wr.heap.size, j, none⟩ from by unfold Addr.add; split <;> simp_all, hnew.cell]
      exact hj) h1 (by unfold maxLen; omega) (by omega) (by simp; omega)
  obtain ⟨oa, cap, rfl⟩ := own_slice h1
  refine ⟨oa, cap, w', hrun, h1, ((Fr.refl _ wr).alloc _).trans h2 (fun k _ hk => hk), fun k hk => (h3 k hk).imp_right (fun h => ?_)⟩
  rw [World.size_alloc] at h
  omega
/-- A posting of a drop order: its frame, whether it was sent, when. -/
structure Pst where
  fr : Int
  sent : Bool
  at_ : Int
def pstC (i : Nat) (p : Pst) : List Value := (drA ((i : Int) + 1) p.fr).toList ++ [.bool p.sent, .int .i64 p.at_]
/-- The cells of postings; the first has the number i + 1. -/
def pCells : Nat → List Pst → List Value
  | _, [] => []
  | i, p :: l => pstC i p ++ pCells (i + 1) l
theorem pstC_len (i : Nat) (p : Pst) : (pstC i p).length = 28 := rfl
theorem pCells_snoc (p : Pst) : ∀ (l : List Pst) (i : Nat), pCells i l ++ pstC (i + l.length) p = pCells i (l ++ [p])
  | [], i => by simp [pCells]
  | q :: l, i => by
    have := pCells_snoc p l (i + 1)
    rw [show i + (q :: l).length = i + 1 + l.length by simp; omega]
    simp only [pCells, List.cons_append, List.append_assoc, this]
theorem pCells_len : ∀ (l : List Pst) (i : Nat), (pCells i l).length = l.length * 28
  | [], _ => rfl
  | q :: l, i => by
    simp only [pCells, List.length_append, pstC_len, pCells_len l (i + 1), List.length_cons]
    omega
theorem pCells_at : ∀ (l : List Pst) (i j : Nat) (p : Pst) (t : Nat), l[j]? = some p → t < 28 → (pCells i l)[j * 28 + t]? = (pstC (i + j) p)[t]?
  | [], _, _, _, _, h, _ => by simp at h
  | q :: l, i, 0, p, t, h, ht => by
    simp at h
    subst h
    simp only [pCells, Nat.zero_mul, Nat.zero_add, Nat.add_zero]
    rw [List.getElem?_append_left (by rw [pstC_len]; exact ht)]
  | q :: l, i, j + 1, p, t, h, ht => by
    have := pCells_at l (i + 1) j p t (by simpa using h) ht
    simp only [pCells]
    rw [List.getElem?_append_right (by rw [pstC_len]; omega), pstC_len, show (j + 1) * 28 + t - 28 = j * 28 + t by omega, this, show i + 1 + j = i + (j + 1) by omega]
/-- A sender in memory: its number, its postings, how many are acknowledged; all from block B on. -/
structure SnAt (W : World) (B bs : Nat) (tn : Int) (vp : Value) (L : List Pst) (k : Nat) : Prop where
  blk : Blk W bs 118 [.int .i64 tn, .bool true, vp, .int .i64 k]
  own : W.ownsRow B 125 28 vp L.length (pCells 0 L)
  ge : B ≤ bs
  ne : ∀ g, vp.ownBlock = some g → g ≠ bs
end Go.Proofs.YtjkiidhnmljmbaaGreatDoor
