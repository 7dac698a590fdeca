/-
  The walk of the law AsrunVerifyMatchesReference.
-/
import Derived.Test.YtfpcdlpfmlaakaaDoorAsRe
import Derived.Test.YtfpcdlpfmlaakaaDoorAsSF
set_option linter.unusedVariables false
set_option linter.unusedSimpArgs false
namespace Go.Proofs.YtfpcdlpfmlaakaaDoor
open Go.RowKit Onair
attribute [local go_sem ↓] Go.wp_at_zero Go.wp_at_succ
theorem bn_le' {N : Nat} {w W : World} (hN : w.heap.size = N) (hb : Below N w W) : N ≤ W.heap.size := hN ▸ hb.size
/-- A proof's cells, the log, and what lies below. -/
structure VW (w : World) (N : Nat) (N1 b bl : Nat) (F G : Nat → Prop) (s : LS) (n : Nat) (A : List Value) (W : World) : Prop where
  bel : Below N w W
  le : N ≤ W.heap.size
  lx : LX W N1 b bl F G s
  blk : Blk W n 45 A
theorem VW.next {w : World} {N : Nat} {N1 b bl : Nat} {F G : Nat → Prop} {s : LS} {n : Nat} {A : List Value} {W W' : World} (h : VW w N N1 b bl F G s n A W) (hb : Below W.heap.size W W') : VW w N N1 b bl F G s n A W' :=
  ⟨h.bel.trans (hb.mono h.le), Nat.le_trans h.le hb.size, h.lx.below hb, h.blk.kept (hb.block n h.blk.lt)⟩
theorem VW.set {w : World} {N : Nat} {N1 b bl : Nat} {F G : Nat → Prop} {s : LS} {n : Nat} {A : List Value} {W : World} (h : VW w N N1 b bl F G s n A W) (M j : Nat) (v : Value) (hM : N ≤ M) (hn : n ≠ M) (hF : ∀ k, F k → k < M) (hG : ∀ k, G k → k < M) : VW w N N1 b bl F G s n A (W.setCell ⟨M, j, none⟩ v) :=
  ⟨h.bel.setCell (p := ⟨M, j, none⟩) hM v, by have := h.le; simpa [World.setCell] using this, h.lx.fr ((Fr.refl (fun k => k = M) _).setCell _ _ (.inl rfl)) (fun k hk e => by have := hF k hk; omega) (fun k hk e => by have := hG k hk; omega), h.blk.other ⟨M, j, none⟩ (fun e => hn e.symm) v⟩
/-- The string in a cell. -/
def strAt (W : World) (M k : Nat) : ByteArray := match W.cell? ⟨M, k, none⟩ with | some (.string s) => s | _ => ⟨#[]⟩
theorem strAt_of {W : World} {M k : Nat} {s : ByteArray} (h : W.cell? ⟨M, k, none⟩ = some (.string s)) : W.cell? ⟨M, k, none⟩ = some (.string (strAt W M k)) := by unfold strAt; rw [h]
/-- What region 7 reads. -/
theorem v7 {w : World} {N : Nat} {op : Option Addr} {N1 b bl : Nat} {F G : Nat → Prop} {s : LS} {r0 r1 r2 r3 r4 r5 i n : Int} {salt : ByteArray} {a cp M : Nat} {W : World} (h : VW w N N1 b bl F G s N [.int .i64 r0, .int .i64 r1, .int .i64 r2, .int .i64 r3, .int .i64 r4, .int .i64 r5, .int .i64 i, .int .i64 n, .string salt, .slice op a cp] W) (k : ∃ t : ByteArray, Blk W M 45 [.int .i64 r0, .int .i64 r1, .int .i64 r2, .int .i64 r3, .int .i64 r4, .int .i64 r5, .int .i64 i, .int .i64 n, .string t, .slice op a cp]) :
    W.cell? ⟨N, 8, none⟩ = some (.string salt) ∧ W.cell? ⟨M, 8, none⟩ = some (.string (strAt W M 8)) ∧ W.frozen? ⟨M, 8, none⟩ = false ∧ Hid (VW w N N1 b bl F G s N [.int .i64 r0, .int .i64 r1, .int .i64 r2, .int .i64 r3, .int .i64 r4, .int .i64 r5, .int .i64 i, .int .i64 n, .string salt, .slice op a cp] W) ∧ Hid (∃ t : ByteArray, Blk W M 45 [.int .i64 r0, .int .i64 r1, .int .i64 r2, .int .i64 r3, .int .i64 r4, .int .i64 r5, .int .i64 i, .int .i64 n, .string t, .slice op a cp]) := by
  obtain ⟨t, k⟩ := k
  exact ⟨h.blk.cell 8, strAt_of (k.cell 8), k.frozen 8, h, ⟨t, k⟩⟩
theorem v7n {w : World} {N : Nat} {op : Option Addr} {N1 b bl : Nat} {F G : Nat → Prop} {s : LS} {r0 r1 r2 r3 r4 r5 i n : Int} {salt : ByteArray} {a cp M : Nat} {W : World} {W' : World} (hb : Below W.heap.size W W') (h : W.cell? ⟨N, 8, none⟩ = some (.string salt) ∧ W.cell? ⟨M, 8, none⟩ = some (.string (strAt W M 8)) ∧ W.frozen? ⟨M, 8, none⟩ = false ∧ Hid (VW w N N1 b bl F G s N [.int .i64 r0, .int .i64 r1, .int .i64 r2, .int .i64 r3, .int .i64 r4, .int .i64 r5, .int .i64 i, .int .i64 n, .string salt, .slice op a cp] W) ∧ Hid (∃ t : ByteArray, Blk W M 45 [.int .i64 r0, .int .i64 r1, .int .i64 r2, .int .i64 r3, .int .i64 r4, .int .i64 r5, .int .i64 i, .int .i64 n, .string t, .slice op a cp])) : W'.cell? ⟨N, 8, none⟩ = some (.string salt) ∧ W'.cell? ⟨M, 8, none⟩ = some (.string (strAt W' M 8)) ∧ W'.frozen? ⟨M, 8, none⟩ = false ∧ Hid (VW w N N1 b bl F G s N [.int .i64 r0, .int .i64 r1, .int .i64 r2, .int .i64 r3, .int .i64 r4, .int .i64 r5, .int .i64 i, .int .i64 n, .string salt, .slice op a cp] W') ∧ Hid (∃ t : ByteArray, Blk W' M 45 [.int .i64 r0, .int .i64 r1, .int .i64 r2, .int .i64 r3, .int .i64 r4, .int .i64 r5, .int .i64 i, .int .i64 n, .string t, .slice op a cp]) := by
  obtain ⟨_, _, _, h1, t, k⟩ := h
  exact v7 (h1.out.next hb) ⟨t, k.kept (hb.block M k.lt)⟩
theorem v7s {w : World} {N : Nat} {op : Option Addr} {N1 b bl : Nat} {F G : Nat → Prop} {s : LS} {r0 r1 r2 r3 r4 r5 i n : Int} {salt : ByteArray} {a cp M : Nat} {W : World} {T : ByteArray} (hNM : N < M) (hF : Hid (∀ k, F k → k < M)) (hG : Hid (∀ k, G k → k < M)) (h : W.cell? ⟨N, 8, none⟩ = some (.string salt) ∧ W.cell? ⟨M, 8, none⟩ = some (.string (strAt W M 8)) ∧ W.frozen? ⟨M, 8, none⟩ = false ∧ Hid (VW w N N1 b bl F G s N [.int .i64 r0, .int .i64 r1, .int .i64 r2, .int .i64 r3, .int .i64 r4, .int .i64 r5, .int .i64 i, .int .i64 n, .string salt, .slice op a cp] W) ∧ Hid (∃ t : ByteArray, Blk W M 45 [.int .i64 r0, .int .i64 r1, .int .i64 r2, .int .i64 r3, .int .i64 r4, .int .i64 r5, .int .i64 i, .int .i64 n, .string t, .slice op a cp])) : (W.setCell ⟨M, 8, none⟩ (.string T)).cell? ⟨N, 8, none⟩ = some (.string salt) ∧ (W.setCell ⟨M, 8, none⟩ (.string T)).cell? ⟨M, 8, none⟩ = some (.string (strAt (W.setCell ⟨M, 8, none⟩ (.string T)) M 8)) ∧ (W.setCell ⟨M, 8, none⟩ (.string T)).frozen? ⟨M, 8, none⟩ = false ∧ Hid (VW w N N1 b bl F G s N [.int .i64 r0, .int .i64 r1, .int .i64 r2, .int .i64 r3, .int .i64 r4, .int .i64 r5, .int .i64 i, .int .i64 n, .string salt, .slice op a cp] (W.setCell ⟨M, 8, none⟩ (.string T))) ∧ Hid (∃ t : ByteArray, Blk (W.setCell ⟨M, 8, none⟩ (.string T)) M 45 [.int .i64 r0, .int .i64 r1, .int .i64 r2, .int .i64 r3, .int .i64 r4, .int .i64 r5, .int .i64 i, .int .i64 n, .string t, .slice op a cp]) := by
  obtain ⟨_, _, _, h1, t, k⟩ := h
  exact v7 (h1.out.set M 8 _ (Nat.le_of_lt hNM) (Nat.ne_of_lt hNM) hF.out hG.out) ⟨T, k.set 8 (.string T)⟩
theorem v7out {w : World} {N : Nat} {op : Option Addr} {N1 b bl : Nat} {F G : Nat → Prop} {s : LS} {r0 r1 r2 r3 r4 r5 i n : Int} {salt : ByteArray} {a cp M : Nat} {W : World} (h : W.cell? ⟨N, 8, none⟩ = some (.string salt) ∧ W.cell? ⟨M, 8, none⟩ = some (.string (strAt W M 8)) ∧ W.frozen? ⟨M, 8, none⟩ = false ∧ Hid (VW w N N1 b bl F G s N [.int .i64 r0, .int .i64 r1, .int .i64 r2, .int .i64 r3, .int .i64 r4, .int .i64 r5, .int .i64 i, .int .i64 n, .string salt, .slice op a cp] W) ∧ Hid (∃ t : ByteArray, Blk W M 45 [.int .i64 r0, .int .i64 r1, .int .i64 r2, .int .i64 r3, .int .i64 r4, .int .i64 r5, .int .i64 i, .int .i64 n, .string t, .slice op a cp])) : (VW w N N1 b bl F G s N [.int .i64 r0, .int .i64 r1, .int .i64 r2, .int .i64 r3, .int .i64 r4, .int .i64 r5, .int .i64 i, .int .i64 n, .string salt, .slice op a cp] W) ∧ ∃ t : ByteArray, Blk W M 45 [.int .i64 r0, .int .i64 r1, .int .i64 r2, .int .i64 r3, .int .i64 r4, .int .i64 r5, .int .i64 i, .int .i64 n, .string t, .slice op a cp] := ⟨h.2.2.2.1.out, h.2.2.2.2.out⟩
/-- What region 8 reads. -/
theorem v8 {w : World} {N : Nat} {op : Option Addr} {N1 b bl : Nat} {F G : Nat → Prop} {s : LS} {r0 r1 r2 r3 r4 r5 i n : Int} {salt T : ByteArray} {a cp M : Nat} {W : World} (h : VW w N N1 b bl F G s N [.int .i64 r0, .int .i64 r1, .int .i64 r2, .int .i64 r3, .int .i64 r4, .int .i64 r5, .int .i64 i, .int .i64 n, .string salt, .slice op a cp] W) (k : VW w N N1 b bl F G s M [.int .i64 r0, .int .i64 r1, .int .i64 r2, .int .i64 r3, .int .i64 r4, .int .i64 r5, .int .i64 i, .int .i64 n, .string T, .slice op a cp] W) :
    W.cell? ⟨N, 0, none⟩ = some (.int .i64 r0) ∧ W.cell? ⟨N, 1, none⟩ = some (.int .i64 r1) ∧ W.cell? ⟨N, 2, none⟩ = some (.int .i64 r2) ∧ W.cell? ⟨N, 3, none⟩ = some (.int .i64 r3) ∧ W.cell? ⟨N, 4, none⟩ = some (.int .i64 r4) ∧ W.cell? ⟨N, 5, none⟩ = some (.int .i64 r5) ∧ W.cell? ⟨N, 6, none⟩ = some (.int .i64 i) ∧ W.cell? ⟨N, 7, none⟩ = some (.int .i64 n) ∧ W.cell? ⟨N, 8, none⟩ = some (.string salt) ∧ W.cell? ⟨N, 9, none⟩ = some (.slice op a cp) ∧ W.cell? ⟨M, 0, none⟩ = some (.int .i64 r0) ∧ W.cell? ⟨M, 1, none⟩ = some (.int .i64 r1) ∧ W.cell? ⟨M, 2, none⟩ = some (.int .i64 r2) ∧ W.cell? ⟨M, 3, none⟩ = some (.int .i64 r3) ∧ W.cell? ⟨M, 4, none⟩ = some (.int .i64 r4) ∧ W.cell? ⟨M, 5, none⟩ = some (.int .i64 r5) ∧ W.cell? ⟨M, 6, none⟩ = some (.int .i64 i) ∧ W.cell? ⟨M, 7, none⟩ = some (.int .i64 n) ∧ W.cell? ⟨M, 8, none⟩ = some (.string T) ∧ W.cell? ⟨M, 9, none⟩ = some (.slice op a cp) ∧ Hid (VW w N N1 b bl F G s N [.int .i64 r0, .int .i64 r1, .int .i64 r2, .int .i64 r3, .int .i64 r4, .int .i64 r5, .int .i64 i, .int .i64 n, .string salt, .slice op a cp] W) ∧ Hid (VW w N N1 b bl F G s M [.int .i64 r0, .int .i64 r1, .int .i64 r2, .int .i64 r3, .int .i64 r4, .int .i64 r5, .int .i64 i, .int .i64 n, .string T, .slice op a cp] W) :=
  ⟨h.blk.cell 0, h.blk.cell 1, h.blk.cell 2, h.blk.cell 3, h.blk.cell 4, h.blk.cell 5, h.blk.cell 6, h.blk.cell 7, h.blk.cell 8, h.blk.cell 9, k.blk.cell 0, k.blk.cell 1, k.blk.cell 2, k.blk.cell 3, k.blk.cell 4, k.blk.cell 5, k.blk.cell 6, k.blk.cell 7, k.blk.cell 8, k.blk.cell 9, h, k⟩
theorem v8n {w : World} {N : Nat} {op : Option Addr} {N1 b bl : Nat} {F G : Nat → Prop} {s : LS} {r0 r1 r2 r3 r4 r5 i n : Int} {salt T : ByteArray} {a cp M : Nat} {W W' : World} (hb : Below W.heap.size W W')
    (h : W.cell? ⟨N, 0, none⟩ = some (.int .i64 r0) ∧ W.cell? ⟨N, 1, none⟩ = some (.int .i64 r1) ∧ W.cell? ⟨N, 2, none⟩ = some (.int .i64 r2) ∧ W.cell? ⟨N, 3, none⟩ = some (.int .i64 r3) ∧ W.cell? ⟨N, 4, none⟩ = some (.int .i64 r4) ∧ W.cell? ⟨N, 5, none⟩ = some (.int .i64 r5) ∧ W.cell? ⟨N, 6, none⟩ = some (.int .i64 i) ∧ W.cell? ⟨N, 7, none⟩ = some (.int .i64 n) ∧ W.cell? ⟨N, 8, none⟩ = some (.string salt) ∧ W.cell? ⟨N, 9, none⟩ = some (.slice op a cp) ∧ W.cell? ⟨M, 0, none⟩ = some (.int .i64 r0) ∧ W.cell? ⟨M, 1, none⟩ = some (.int .i64 r1) ∧ W.cell? ⟨M, 2, none⟩ = some (.int .i64 r2) ∧ W.cell? ⟨M, 3, none⟩ = some (.int .i64 r3) ∧ W.cell? ⟨M, 4, none⟩ = some (.int .i64 r4) ∧ W.cell? ⟨M, 5, none⟩ = some (.int .i64 r5) ∧ W.cell? ⟨M, 6, none⟩ = some (.int .i64 i) ∧ W.cell? ⟨M, 7, none⟩ = some (.int .i64 n) ∧ W.cell? ⟨M, 8, none⟩ = some (.string T) ∧ W.cell? ⟨M, 9, none⟩ = some (.slice op a cp) ∧ Hid (VW w N N1 b bl F G s N [.int .i64 r0, .int .i64 r1, .int .i64 r2, .int .i64 r3, .int .i64 r4, .int .i64 r5, .int .i64 i, .int .i64 n, .string salt, .slice op a cp] W) ∧ Hid (VW w N N1 b bl F G s M [.int .i64 r0, .int .i64 r1, .int .i64 r2, .int .i64 r3, .int .i64 r4, .int .i64 r5, .int .i64 i, .int .i64 n, .string T, .slice op a cp] W)) :
    W'.cell? ⟨N, 0, none⟩ = some (.int .i64 r0) ∧ W'.cell? ⟨N, 1, none⟩ = some (.int .i64 r1) ∧ W'.cell? ⟨N, 2, none⟩ = some (.int .i64 r2) ∧ W'.cell? ⟨N, 3, none⟩ = some (.int .i64 r3) ∧ W'.cell? ⟨N, 4, none⟩ = some (.int .i64 r4) ∧ W'.cell? ⟨N, 5, none⟩ = some (.int .i64 r5) ∧ W'.cell? ⟨N, 6, none⟩ = some (.int .i64 i) ∧ W'.cell? ⟨N, 7, none⟩ = some (.int .i64 n) ∧ W'.cell? ⟨N, 8, none⟩ = some (.string salt) ∧ W'.cell? ⟨N, 9, none⟩ = some (.slice op a cp) ∧ W'.cell? ⟨M, 0, none⟩ = some (.int .i64 r0) ∧ W'.cell? ⟨M, 1, none⟩ = some (.int .i64 r1) ∧ W'.cell? ⟨M, 2, none⟩ = some (.int .i64 r2) ∧ W'.cell? ⟨M, 3, none⟩ = some (.int .i64 r3) ∧ W'.cell? ⟨M, 4, none⟩ = some (.int .i64 r4) ∧ W'.cell? ⟨M, 5, none⟩ = some (.int .i64 r5) ∧ W'.cell? ⟨M, 6, none⟩ = some (.int .i64 i) ∧ W'.cell? ⟨M, 7, none⟩ = some (.int .i64 n) ∧ W'.cell? ⟨M, 8, none⟩ = some (.string T) ∧ W'.cell? ⟨M, 9, none⟩ = some (.slice op a cp) ∧ Hid (VW w N N1 b bl F G s N [.int .i64 r0, .int .i64 r1, .int .i64 r2, .int .i64 r3, .int .i64 r4, .int .i64 r5, .int .i64 i, .int .i64 n, .string salt, .slice op a cp] W') ∧ Hid (VW w N N1 b bl F G s M [.int .i64 r0, .int .i64 r1, .int .i64 r2, .int .i64 r3, .int .i64 r4, .int .i64 r5, .int .i64 i, .int .i64 n, .string T, .slice op a cp] W') :=
  v8 (h.2.2.2.2.2.2.2.2.2.2.2.2.2.2.2.2.2.2.2.2.1.out.next hb) (h.2.2.2.2.2.2.2.2.2.2.2.2.2.2.2.2.2.2.2.2.2.out.next hb)
theorem v8c {w : World} {N : Nat} {op : Option Addr} {N1 b bl : Nat} {F G : Nat → Prop} {s : LS} {r0 r1 r2 r3 r4 r5 i n : Int} {salt T : ByteArray} {a cp M : Nat} {W : World} (h : W.cell? ⟨N, 0, none⟩ = some (.int .i64 r0) ∧ W.cell? ⟨N, 1, none⟩ = some (.int .i64 r1) ∧ W.cell? ⟨N, 2, none⟩ = some (.int .i64 r2) ∧ W.cell? ⟨N, 3, none⟩ = some (.int .i64 r3) ∧ W.cell? ⟨N, 4, none⟩ = some (.int .i64 r4) ∧ W.cell? ⟨N, 5, none⟩ = some (.int .i64 r5) ∧ W.cell? ⟨N, 6, none⟩ = some (.int .i64 i) ∧ W.cell? ⟨N, 7, none⟩ = some (.int .i64 n) ∧ W.cell? ⟨N, 8, none⟩ = some (.string salt) ∧ W.cell? ⟨N, 9, none⟩ = some (.slice op a cp) ∧ W.cell? ⟨M, 0, none⟩ = some (.int .i64 r0) ∧ W.cell? ⟨M, 1, none⟩ = some (.int .i64 r1) ∧ W.cell? ⟨M, 2, none⟩ = some (.int .i64 r2) ∧ W.cell? ⟨M, 3, none⟩ = some (.int .i64 r3) ∧ W.cell? ⟨M, 4, none⟩ = some (.int .i64 r4) ∧ W.cell? ⟨M, 5, none⟩ = some (.int .i64 r5) ∧ W.cell? ⟨M, 6, none⟩ = some (.int .i64 i) ∧ W.cell? ⟨M, 7, none⟩ = some (.int .i64 n) ∧ W.cell? ⟨M, 8, none⟩ = some (.string T) ∧ W.cell? ⟨M, 9, none⟩ = some (.slice op a cp) ∧ Hid (VW w N N1 b bl F G s N [.int .i64 r0, .int .i64 r1, .int .i64 r2, .int .i64 r3, .int .i64 r4, .int .i64 r5, .int .i64 i, .int .i64 n, .string salt, .slice op a cp] W) ∧ Hid (VW w N N1 b bl F G s M [.int .i64 r0, .int .i64 r1, .int .i64 r2, .int .i64 r3, .int .i64 r4, .int .i64 r5, .int .i64 i, .int .i64 n, .string T, .slice op a cp] W)) : VW w N N1 b bl F G s N [.int .i64 r0, .int .i64 r1, .int .i64 r2, .int .i64 r3, .int .i64 r4, .int .i64 r5, .int .i64 i, .int .i64 n, .string salt, .slice op a cp] W := h.2.2.2.2.2.2.2.2.2.2.2.2.2.2.2.2.2.2.2.2.1.out
theorem v8b {w : World} {N : Nat} {op : Option Addr} {N1 b bl : Nat} {F G : Nat → Prop} {s : LS} {r0 r1 r2 r3 r4 r5 i n : Int} {salt T : ByteArray} {a cp M : Nat} {W : World} (h : W.cell? ⟨N, 0, none⟩ = some (.int .i64 r0) ∧ W.cell? ⟨N, 1, none⟩ = some (.int .i64 r1) ∧ W.cell? ⟨N, 2, none⟩ = some (.int .i64 r2) ∧ W.cell? ⟨N, 3, none⟩ = some (.int .i64 r3) ∧ W.cell? ⟨N, 4, none⟩ = some (.int .i64 r4) ∧ W.cell? ⟨N, 5, none⟩ = some (.int .i64 r5) ∧ W.cell? ⟨N, 6, none⟩ = some (.int .i64 i) ∧ W.cell? ⟨N, 7, none⟩ = some (.int .i64 n) ∧ W.cell? ⟨N, 8, none⟩ = some (.string salt) ∧ W.cell? ⟨N, 9, none⟩ = some (.slice op a cp) ∧ W.cell? ⟨M, 0, none⟩ = some (.int .i64 r0) ∧ W.cell? ⟨M, 1, none⟩ = some (.int .i64 r1) ∧ W.cell? ⟨M, 2, none⟩ = some (.int .i64 r2) ∧ W.cell? ⟨M, 3, none⟩ = some (.int .i64 r3) ∧ W.cell? ⟨M, 4, none⟩ = some (.int .i64 r4) ∧ W.cell? ⟨M, 5, none⟩ = some (.int .i64 r5) ∧ W.cell? ⟨M, 6, none⟩ = some (.int .i64 i) ∧ W.cell? ⟨M, 7, none⟩ = some (.int .i64 n) ∧ W.cell? ⟨M, 8, none⟩ = some (.string T) ∧ W.cell? ⟨M, 9, none⟩ = some (.slice op a cp) ∧ Hid (VW w N N1 b bl F G s N [.int .i64 r0, .int .i64 r1, .int .i64 r2, .int .i64 r3, .int .i64 r4, .int .i64 r5, .int .i64 i, .int .i64 n, .string salt, .slice op a cp] W) ∧ Hid (VW w N N1 b bl F G s M [.int .i64 r0, .int .i64 r1, .int .i64 r2, .int .i64 r3, .int .i64 r4, .int .i64 r5, .int .i64 i, .int .i64 n, .string T, .slice op a cp] W)) : Below N w W := h.2.2.2.2.2.2.2.2.2.2.2.2.2.2.2.2.2.2.2.2.1.out.bel
set_option maxHeartbeats 16000000 in
set_option maxRecDepth 100000 in
theorem walkVerifyM (w : World) (root : ByteArray) (r : Rec) (i n : Int) (salt : ByteArray) (op : Option Addr) (cp : Nat) (p0 : List ByteArray) (oa : Option Addr) (c : Nat) (l : List Qd) (hr : RecI r) (hn : n ≤ 9223372036854775807) (hs : salt.size ≤ 140737488351232) (hpc : p0.length ≤ cp) (hcp : cp ≤ maxLen) (hrp : RdS w op p0)
    (hlc : l.length ≤ c) (hcm : c ≤ maxLen) (hI : ∀ q ∈ l, QdI q) (hrq : RdQ w oa l) (ht : TabAt w) :
    Calls Tryd.prog 7 #[.string root, .agg (proA r i n salt (.slice op p0.length cp)), .slice oa l.length c] w fun e w' => e = .returned (.bool true) ∧ Below w.heap.size w w' := by
  unfold maxLen at hcm hcp
  obtain ⟨N, hN⟩ : ∃ N, w.heap.size = N := ⟨_, rfl⟩
  have hg := ht.lt
  rw [hN] at hg
  have HTB : Hid (∀ W, Below N w W → TabAt W) := fun W hW => ht.below (by rw [hN]; exact hW)
  have HRP : Hid (∀ W, Below N w W → RdS W op p0) := fun W hW => hrp.kept (by rw [hN]; exact hW)
  have HSN : Hid (∀ W, Below N w W → Calls Tryd.prog 11 #[] W fun e w' => e = .returned (.bool true) ∧ Below W.heap.size W w') := fun W hW => by
    have := ht.below (w' := W) (by rw [hN]; exact hW)
    exact sane_any W this this.lt
  have HLA : Hid (∀ W, Below N w W → Calls Tryd.prog 19 #[.slice oa l.length c] W (LogP W (manyL l))) := fun W hW => by
    have h1 := ht.below (w' := W) (by rw [hN]; exact hW)
    exact log_any oa c l W (by unfold maxLen; omega) hI (hrq.below (by rw [hN]; exact hW)) h1 h1.lt
  have hTl : (manyL l).length ≤ 14 := by unfold manyL; rw [List.length_map, List.length_take]; omega
  have HNN := Lib.hid hN
  obtain ⟨ll, hll⟩ : ∃ ll, l.length = ll := ⟨_, rfl⟩
  rw [hll] at HLA ⊢
  obtain ⟨m, hm⟩ : ∃ m, p0.length = m := ⟨_, rfl⟩
  obtain ⟨a, ha⟩ : ∃ a, min m 5 = a := ⟨_, rfl⟩
  have hmin : min (m : Int) 5 = (a : Int) := by omega
  have ha5 : a ≤ 5 := by omega
  have ham : a ≤ m := by omega
  have HPL : Hid ((p0.take a).length = a) := (show _ = _ from by rw [List.length_take]; omega)
  rw [hm] at hpc ⊢
  obtain ⟨p, hp⟩ : ∃ p, p0.take a = p := ⟨_, rfl⟩
  rw [hp] at HPL
  have HPP := Lib.hid hp
  have HR := Lib.hid hr
  obtain ⟨r0, r1, r2, r3, r4, r5⟩ := r
  have mcp : (m : Int) ≤ (cp : Int) := by omega
  have acp : (a : Int) ≤ (cp : Int) := by omega
  have aI : (a : Int) ≤ (m : Int) := by omega
  have a0 : (0 : Int) ≤ (a : Int) := by omega
  have hac : a ≤ cp := by omega
  -- the salt of the other proof
  obtain ⟨V, hV⟩ : ∃ V, shaB salt = V := ⟨_, rfl⟩
  have hVz : V.size = 32 := by rw [← hV]; exact shaB_size _
  have HSM := Lib.hid (fun W => refSum_any salt W hs)
  rw [hV] at HSM
  obtain ⟨U, hU⟩ : ∃ U, salt ++ V = U := ⟨_, rfl⟩
  have hUz : U.size = salt.size + 32 := by rw [← hU, ByteArray.size_append, hVz]
  have hU32 : 32 ≤ U.size := by omega
  have hU32I : (32 : Int) ≤ (U.size : Int) := by omega
  obtain ⟨T, hT⟩ : ∃ T, U.extract 0 32 = T := ⟨_, rfl⟩
  have hTz : T.size = 32 := by rw [← hT, ByteArray.size_extract]; omega
  have HTZ := Lib.hid hTz
  have hVle : V.size ≤ 32 := by omega
  have hTle : T.size ≤ 32 := by omega
  have hsum : ¬ (salt.size + V.size > 9223372036854775807) := by omega
  have hsum2 : ¬ (9223372036854775807 < salt.size + V.size) := by omega
  have HVZ := Lib.hid hVz
  dsimp only [proA]
  clear hr hI hrp hrq ht hll hm ha hN hp hV hVz hUz hTz hg
  go_enter Tryd.func7, Tryd.ntmps7
  go_upto_region 1 with (fail)
  rw [HNN.out]
  refine gen_world (fun W9 => Below N w W9 ∧ Blk W9 N 45 [.int .i64 r0, .int .i64 r1, .int .i64 r2, .int .i64 r3, .int .i64 r4, .int .i64 r5, .int .i64 i, .int .i64 n, .string salt, .slice op m cp]) ⟨?_, ?_⟩ ?_
  · have := (Below.refl w.heap.size w).alloc (Nat.le_refl _) (.cells #[.int .i64 r0, .int .i64 r1, .int .i64 r2, .int .i64 r3, .int .i64 r4, .int .i64 r5, .int .i64 i, .int .i64 n, .string salt, .slice op m cp] 45)
    rw [HNN.out] at this
    exact this
  · have := Blk.new w 45 [.int .i64 r0, .int .i64 r1, .int .i64 r2, .int .i64 r3, .int .i64 r4, .int .i64 r5, .int .i64 i, .int .i64 n, .string salt, .slice op m cp]
    rw [HNN.out] at this
    exact this
  rintro w1 ⟨hb1, hk1⟩
  have HB1 := Lib.hid hb1
  have HK1 := Lib.hid hk1
  clear hb1 hk1
  go_wp2_with fail
  refine (HSN.out w1 HB1.out).mono ?_
  rintro e w2 ⟨rfl, hb2⟩
  have HB2 : Hid (Below N w w2) := HB1.out.trans (hb2.mono (bn_le' HNN.out HB1.out))
  have HK2 := Lib.hid (HK1.out.kept (hb2.block N HK1.out.lt))
  clear hb2 HB1 HK1 HSN
  go_wp2_with fail
  refine (HLA.out w2 HB2.out).mono ?_
  rintro e w3 ⟨b, bl, F, G, D, on, cn, rfl, hlx, _, _, hb3⟩
  have HX3 := Lib.hid hlx
  have HB3 : Hid (Below N w w3) := HB2.out.trans (hb3.mono (bn_le' HNN.out HB2.out))
  have HK3 := Lib.hid (HK2.out.kept (hb3.block N HK2.out.lt))
  obtain ⟨N1, hN1⟩ : ∃ N1, w2.heap.size = N1 := ⟨_, rfl⟩
  have hN1l : N < N1 := by rw [← hN1]; exact HK2.out.lt
  rw [hN1] at HX3
  obtain ⟨all, hall⟩ : ∃ all, manyL l = all := ⟨_, rfl⟩
  rw [hall] at HX3 hTl ⊢
  obtain ⟨s, hsd⟩ : ∃ s : LS, s = ⟨D, all, false⟩ := ⟨_, rfl⟩
  have HSD := Lib.hid hsd
  rw [← hsd] at HX3
  have hsl : s.R.length ≤ 14 := by rw [hsd]; exact hTl
  generalize all.length = al
  have d9 := HK3.out.cell 9
  simp only [List.getElem?_cons_zero, List.getElem?_cons_succ] at d9
  have f9 := HK3.out.frozen 9
  clear hlx hb3 HB2 HK2 HLA hN1 hall hsd hTl
  go_upto_region 6 with (fail)
  refine gen_world (fun W9 => VW w N N1 b bl F G s N [.int .i64 r0, .int .i64 r1, .int .i64 r2, .int .i64 r3, .int .i64 r4, .int .i64 r5, .int .i64 i, .int .i64 n, .string salt, .slice op a cp] W9) ?_ ?_
  · have hb9 := HB3.out.setCell (p := ⟨N, 9, none⟩) (Nat.le_refl N) (.slice op a cp)
    have hk9 := HK3.out.set 9 (.slice op a cp)
    exact ⟨hb9, bn_le' HNN.out hb9, HX3.out.fr ((Fr.refl (fun k => k = N) _).setCell _ _ (.inl rfl)) (fun k hk e => by have := HX3.out.geF k hk; omega) (fun k hk e => by have := HX3.out.geG k hk; omega), hk9⟩
  rintro w4 hv4
  have HV4 := Lib.hid hv4
  have HRP2 : Hid (∀ W, Below N w W → RdS W op p) := fun W hW => by rw [← HPP.out]; exact (HRP.out W hW).take a
  clear hv4 d9 f9 HB3 HK3 HX3 HRP
  have c0 := HV4.out.blk.cell 0
  have c1 := HV4.out.blk.cell 1
  have c2 := HV4.out.blk.cell 2
  have c3 := HV4.out.blk.cell 3
  have c4 := HV4.out.blk.cell 4
  have c5 := HV4.out.blk.cell 5
  have c6 := HV4.out.blk.cell 6
  have c7 := HV4.out.blk.cell 7
  have c8 := HV4.out.blk.cell 8
  have c9 := HV4.out.blk.cell 9
  simp only [List.getElem?_cons_zero, List.getElem?_cons_succ] at c0 c1 c2 c3 c4 c5 c6 c7 c8 c9
  obtain ⟨M, hM⟩ : ∃ M, w4.heap.size = M := ⟨_, rfl⟩
  have HM := Lib.hid hM
  have HFM : Hid (∀ k, F k → k < M) := fun k hk => hM ▸ HV4.out.lx.ltF k hk
  have HGM : Hid (∀ k, G k → k < M) := fun k hk => hM ▸ HV4.out.lx.ltG k hk
  have hNM : N < M := hM ▸ HV4.out.blk.lt
  clear hM
  go_upto_region 7 with (fail)
  rw [HM.out]
  refine gen_world (fun W9 => VW w N N1 b bl F G s N [.int .i64 r0, .int .i64 r1, .int .i64 r2, .int .i64 r3, .int .i64 r4, .int .i64 r5, .int .i64 i, .int .i64 n, .string salt, .slice op a cp] W9 ∧ Blk W9 M 45 [.int .i64 r0, .int .i64 r1, .int .i64 r2, .int .i64 r3, .int .i64 r4, .int .i64 r5, .int .i64 i, .int .i64 n, .string salt, .slice op a cp]) ⟨?_, ?_⟩ ?_
  · exact HV4.out.next ((Below.refl _ _).alloc (Nat.le_refl _) _)
  · have := Blk.new w4 45 [.int .i64 r0, .int .i64 r1, .int .i64 r2, .int .i64 r3, .int .i64 r4, .int .i64 r5, .int .i64 i, .int .i64 n, .string salt, .slice op a cp]
    rw [HM.out] at this
    exact this
  rintro w5 ⟨hv5, hk5⟩
  have hs5 := v7 hv5 ⟨_, hk5⟩
  clear c0 c1 c2 c3 c4 c5 c6 c7 c8 c9 hv5 hk5 HV4 HM
  go_region_held3 (fun W => W.cell? ⟨N, 8, none⟩ = some (.string salt) ∧ W.cell? ⟨M, 8, none⟩ = some (.string (strAt W M 8)) ∧ W.frozen? ⟨M, 8, none⟩ = false ∧ Hid (VW w N N1 b bl F G s N [.int .i64 r0, .int .i64 r1, .int .i64 r2, .int .i64 r3, .int .i64 r4, .int .i64 r5, .int .i64 i, .int .i64 n, .string salt, .slice op a cp] W) ∧ Hid (∃ t : ByteArray, Blk W M 45 [.int .i64 r0, .int .i64 r1, .int .i64 r2, .int .i64 r3, .int .i64 r4, .int .i64 r5, .int .i64 i, .int .i64 n, .string t, .slice op a cp])) (first | exact hs5 | exact v7n (drew_b _) hs5 | exact v7n (by assumption) (by assumption) | exact v7s hNM HFM HGM (by assumption)) (((with_reducible refine (HSM.out _).mono ?_); rintro e w6 ⟨rfl, hb6⟩))
  obtain ⟨hv6, t6, hk6⟩ := v7out (v7n hb6 (v7n (drew_b w5) hs5))
  refine gen_world (fun W9 => VW w N N1 b bl F G s N [.int .i64 r0, .int .i64 r1, .int .i64 r2, .int .i64 r3, .int .i64 r4, .int .i64 r5, .int .i64 i, .int .i64 n, .string salt, .slice op a cp] W9 ∧ VW w N N1 b bl F G s M [.int .i64 r0, .int .i64 r1, .int .i64 r2, .int .i64 r3, .int .i64 r4, .int .i64 r5, .int .i64 i, .int .i64 n, .string T, .slice op a cp] W9) ⟨?_, ?_⟩ ?_
  · exact hv6.set M 8 _ (Nat.le_of_lt hNM) (Nat.ne_of_lt hNM) HFM.out HGM.out
  · exact ⟨(hv6.set M 8 _ (Nat.le_of_lt hNM) (Nat.ne_of_lt hNM) HFM.out HGM.out).bel, (hv6.set M 8 _ (Nat.le_of_lt hNM) (Nat.ne_of_lt hNM) HFM.out HGM.out).le, (hv6.set M 8 _ (Nat.le_of_lt hNM) (Nat.ne_of_lt hNM) HFM.out HGM.out).lx, hk6.set 8 (.string T)⟩
  rintro w7 ⟨hv7, hk7⟩
  clear hs5 hb6
  have hs7 := v8 hv7 hk7
  -- the calls
  have hsr : Hid (s.R.length ≤ 900000) := (show _ ≤ _ from by omega)
  have HAV : Hid (∀ (rt sl : ByteArray), sl.size ≤ maxLen → ∀ W, Below N w W → Calls Tryd.prog 21 #[.string rt, .agg (proA ⟨r0, r1, r2, r3, r4, r5⟩ i n sl (.slice op a cp))] W fun e w' => e = .returned (.bool (verA rt ⟨r0, r1, r2, r3, r4, r5⟩ i n sl p)) ∧ Below W.heap.size W w') := fun rt sl hsl W hW => by
    have := asVerify_any rt ⟨r0, r1, r2, r3, r4, r5⟩ i n sl op p cp W HR.out hn (by rw [HPL.out]; omega) (by rw [HPL.out]; omega) hcp (HRP2.out W hW) (HTB.out W hW) hsl
    rw [HPL.out] at this
    exact this
  have HRV : Hid (∀ (rt sl : ByteArray), sl.size ≤ maxLen → ∀ W, Below N w W → Calls Tryd.prog 28 #[.string rt, .agg (proA ⟨r0, r1, r2, r3, r4, r5⟩ i n sl (.slice op a cp))] W fun e w' => e = .returned (.bool (verA rt ⟨r0, r1, r2, r3, r4, r5⟩ i n sl p)) ∧ Below W.heap.size W w') := fun rt sl hsl W hW => by
    have := refVerify25_any rt ⟨r0, r1, r2, r3, r4, r5⟩ i n sl op p cp W HR.out hn (by rw [HPL.out]; omega) (by rw [HPL.out]; omega) hcp (HRP2.out W hW) hsl
    rw [HPL.out] at this
    exact this
  obtain ⟨Z, hZ⟩ : ∃ Z, encB ⟨r0, r1, r2, r3, r4, r5⟩ = Z := ⟨_, rfl⟩
  have hZz : Z.size ≤ 54 := by rw [← hZ]; exact encB_size _
  have HEN : Hid (∀ W, Calls Tryd.prog 25 #[.agg (recA ⟨r0, r1, r2, r3, r4, r5⟩)] W fun e w' => e = .returned (.string Z) ∧ Below W.heap.size W w') := fun W => hZ ▸ refEncoded_any _ W
  obtain ⟨TZ, hTZ⟩ : ∃ TZ, T ++ Z = TZ := ⟨_, rfl⟩
  have hTZz : TZ.size ≤ 100 := by rw [← hTZ, ByteArray.size_append]; omega
  have hsm1 : ¬ (T.size + Z.size > 9223372036854775807) := by omega
  have hsm2 : ¬ (9223372036854775807 < T.size + Z.size) := by omega
  have HLF : Hid (∀ W, Below N w W → Calls Tryd.prog 29 #[.string TZ] W fun e w' => e = .returned (.string (leafB TZ)) ∧ Below W.heap.size W w') := fun W hW => leaf_any TZ W (by omega) (HTB.out W hW)
  have HRT : Hid (∀ W, VW w N N1 b bl F G s N [.int .i64 r0, .int .i64 r1, .int .i64 r2, .int .i64 r3, .int .i64 r4, .int .i64 r5, .int .i64 i, .int .i64 n, .string salt, .slice op a cp] W → Calls Tryd.prog 22 #[.pointer (some ⟨bl, 0, none⟩)] W fun e w' => e = .returned (.string (rootL (entR s.R))) ∧ Below W.heap.size W w') := fun W hW => root_x W N1 b bl F G s hsr.out (HTB.out W hW.bel) hW.lx
  have hsm : salt.size ≤ maxLen := by unfold maxLen; omega
  have hTm : T.size ≤ maxLen := by unfold maxLen; omega
  have HA1 := Lib.hid (HAV.out root salt hsm)
  have HR1 := Lib.hid (HRV.out root salt hsm)
  obtain ⟨v1, hv1⟩ : ∃ v1, verA root ⟨r0, r1, r2, r3, r4, r5⟩ i n salt p = v1 := ⟨_, rfl⟩
  rw [hv1] at HA1 HR1
  obtain ⟨RR, hRR⟩ : ∃ RR, rootL (entR s.R) = RR := ⟨_, rfl⟩
  rw [hRR] at HRT
  have HA2 := Lib.hid (HAV.out RR salt hsm)
  have HR2 := Lib.hid (HRV.out RR salt hsm)
  obtain ⟨v2, hv2⟩ : ∃ v2, verA RR ⟨r0, r1, r2, r3, r4, r5⟩ i n salt p = v2 := ⟨_, rfl⟩
  rw [hv2] at HA2 HR2
  obtain ⟨LL, hLL⟩ : ∃ LL, leafB TZ = LL := ⟨_, rfl⟩
  rw [hLL] at HLF
  have HA3 := Lib.hid (HAV.out LL T hTm)
  have HR3 := Lib.hid (HRV.out LL T hTm)
  obtain ⟨v3, hv3⟩ : ∃ v3, verA LL ⟨r0, r1, r2, r3, r4, r5⟩ i n T p = v3 := ⟨_, rfl⟩
  rw [hv3] at HA3 HR3
  dsimp only [proA, recA] at HA1 HR1 HA2 HR2 HA3 HR3 HEN
  clear hv6 hk6 hv7 hk7 hZ hv1 hv2 hv3 hRR hLL hsm hTm HAV HRV hT hU hU32 hU32I hmin hpc hcp hs hn
  go_wp2_with fail
  go_region_held3 (fun W => W.cell? ⟨N, 0, none⟩ = some (.int .i64 r0) ∧ W.cell? ⟨N, 1, none⟩ = some (.int .i64 r1) ∧ W.cell? ⟨N, 2, none⟩ = some (.int .i64 r2) ∧ W.cell? ⟨N, 3, none⟩ = some (.int .i64 r3) ∧ W.cell? ⟨N, 4, none⟩ = some (.int .i64 r4) ∧ W.cell? ⟨N, 5, none⟩ = some (.int .i64 r5) ∧ W.cell? ⟨N, 6, none⟩ = some (.int .i64 i) ∧ W.cell? ⟨N, 7, none⟩ = some (.int .i64 n) ∧ W.cell? ⟨N, 8, none⟩ = some (.string salt) ∧ W.cell? ⟨N, 9, none⟩ = some (.slice op a cp) ∧ W.cell? ⟨M, 0, none⟩ = some (.int .i64 r0) ∧ W.cell? ⟨M, 1, none⟩ = some (.int .i64 r1) ∧ W.cell? ⟨M, 2, none⟩ = some (.int .i64 r2) ∧ W.cell? ⟨M, 3, none⟩ = some (.int .i64 r3) ∧ W.cell? ⟨M, 4, none⟩ = some (.int .i64 r4) ∧ W.cell? ⟨M, 5, none⟩ = some (.int .i64 r5) ∧ W.cell? ⟨M, 6, none⟩ = some (.int .i64 i) ∧ W.cell? ⟨M, 7, none⟩ = some (.int .i64 n) ∧ W.cell? ⟨M, 8, none⟩ = some (.string T) ∧ W.cell? ⟨M, 9, none⟩ = some (.slice op a cp) ∧ Hid (VW w N N1 b bl F G s N [.int .i64 r0, .int .i64 r1, .int .i64 r2, .int .i64 r3, .int .i64 r4, .int .i64 r5, .int .i64 i, .int .i64 n, .string salt, .slice op a cp] W) ∧ Hid (VW w N N1 b bl F G s M [.int .i64 r0, .int .i64 r1, .int .i64 r2, .int .i64 r3, .int .i64 r4, .int .i64 r5, .int .i64 i, .int .i64 n, .string T, .slice op a cp] W)) (first | exact hs7 | exact v8n (drew_b _) hs7 | exact v8n (by assumption) (by assumption)) (first
    | ((with_reducible refine (HA1.out _ (v8b (by assumption))).mono ?_); rintro e wa ⟨rfl, hba⟩)
    | ((with_reducible refine (HR1.out _ (v8b (by assumption))).mono ?_); rintro e wb ⟨rfl, hbb⟩)
    | ((with_reducible refine (HRT.out _ (v8c (by assumption))).mono ?_); rintro e wc ⟨rfl, hbc⟩)
    | ((with_reducible refine (HA2.out _ (v8b (by assumption))).mono ?_); rintro e wd ⟨rfl, hbd⟩)
    | ((with_reducible refine (HR2.out _ (v8b (by assumption))).mono ?_); rintro e we ⟨rfl, hbe⟩)
    | ((with_reducible refine (HEN.out _).mono ?_); rintro e wf ⟨rfl, hbf⟩)
    | ((with_reducible refine (HLF.out _ (v8b (by assumption))).mono ?_); rintro e wg ⟨rfl, hbg⟩)
    | ((with_reducible refine (HA3.out _ (v8b (by assumption))).mono ?_); rintro e wh ⟨rfl, hbh⟩)
    | ((with_reducible refine (HR3.out _ (v8b (by assumption))).mono ?_); rintro e wi ⟨rfl, hbi⟩))
  go_wp2_with fail
  go_ret
  exact ⟨by simp, by rw [HNN.out]; exact v8b (by assumption)⟩
end Go.Proofs.YtfpcdlpfmlaakaaDoor
