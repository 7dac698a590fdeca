/- Orders: new senders and receivers, lives, due, Done. -/
import Derived.RegionTactic
import Derived.Test.YtjkiidhnmljmbaaGreatDoorTk
import Derived.BigRegion
import Derived.Deep.QuietTactic
import Derived.BigQuiet
import Derived.Deep.RegionHeld
import Derived.Deep.CutBlock
import Derived.Test.YtjkiidhnmljmbaaGreatDoorOrAC
import Derived.OwnWalk
set_option linter.unusedVariables false
set_option linter.unusedSimpArgs false
set_option maxRecDepth 100000
set_option maxHeartbeats 4000000
namespace Go.Proofs.YtjkiidhnmljmbaaGreatDoor
open Go.RowKit
attribute [local go_sem] Oper.semAt_some
theorem newSender_ok (tn : Int) (W : World) (h0 : 0 ≤ tn) (h1 : tn < 3) : Calls Tryz.prog 23 #[.int .i64 tn] W fun e w' => ∃ b, e = .returned (.pointer (some ⟨b, 0, none⟩)) ∧ Blk w' b 118 [.int .i64 tn, .bool true, .slice none 0 0, .int .i64 0] ∧ W.heap.size ≤ b ∧ Below W.heap.size W w' := by
 have HEX : Hid (∀ W', Calls Tryz.prog 62 #[.int .i64 tn] W' fun e w' => e = .returned (.bool true) ∧ W' = w') := fun W' => by
  have := exists_any tn W'
  rw [decide_eq_true (show 0 ≤ tn ∧ tn < 3 from ⟨h0, h1⟩)] at this;exact this
 go_enter Tryz.func23, Tryz.ntmps23
 go_wp2_with fail
 refine (HEX.out _).mono ?_
 rintro e w' ⟨rfl, rfl⟩
 go_wp2_with fail
 go_ret
 exact ⟨_, rfl, Blk.new W _ _, Nat.le_refl _, (Below.refl _ _).alloc (Nat.le_refl _) _⟩
theorem newReceiver_ok (tn : Int) (W : World) (h0 : 0 ≤ tn) (h1 : tn < 3) : Calls Tryz.prog 24 #[.int .i64 tn] W fun e w' => ∃ b m, e = .returned (.pointer (some ⟨b, 0, none⟩)) ∧ Blk w' b 115 [.int .i64 tn, .bool true, .slice none 0 0, .map (some m)] ∧ w'.heap[m]? = some (.map #[] 0) ∧ W.heap.size ≤ m ∧ m < b ∧ Below W.heap.size W w' := by
 have HEX : Hid (∀ W', Calls Tryz.prog 62 #[.int .i64 tn] W' fun e w' => e = .returned (.bool true) ∧ W' = w') := fun W' => by
  have := exists_any tn W'
  rw [decide_eq_true (show 0 ≤ tn ∧ tn < 3 from ⟨h0, h1⟩)] at this;exact this
 have hmm := @run_makeMap Tryz.prog
 go_enter Tryz.func24, Tryz.ntmps24
 go_wp2_with fail
 refine (HEX.out _).mono ?_
 rintro e w' ⟨rfl, rfl⟩
 go_wp2_with fail
 go_ret
 refine ⟨_, _, rfl, by have := Blk.new (W.alloc (.map #[] 0)) 115 [.int .i64 tn, .bool true, .slice none 0 0, .map (some W.heap.size)]; rw [World.size_alloc] at this; exact this, ?_, Nat.le_refl _, by simp, ((Below.refl _ _).alloc (Nat.le_refl _) _).alloc (by simp) _⟩
 exact (Below.heap_alloc _ _ _ (by simp)).trans (World.alloc_heap_new W _)
theorem newSender_bad (tn : Int) (W : World) (h : ¬ (0 ≤ tn ∧ tn < 3)) : Calls Tryz.prog 23 #[.int .i64 tn] W fun e w' => e = .returned (.pointer none) ∧ W = w' := by
 have HEX : Hid (∀ W', Calls Tryz.prog 62 #[.int .i64 tn] W' fun e w' => e = .returned (.bool false) ∧ W' = w') := fun W' => by
  have := exists_any tn W'
  rw [decide_eq_false h] at this;exact this
 go_enter Tryz.func23, Tryz.ntmps23
 go_wp2_with fail
 refine (HEX.out _).mono ?_
 rintro e w' ⟨rfl, rfl⟩
 go_wp2_with fail
 go_ret;exact ⟨rfl, rfl⟩
theorem newReceiver_bad (tn : Int) (W : World) (h : ¬ (0 ≤ tn ∧ tn < 3)) : Calls Tryz.prog 24 #[.int .i64 tn] W fun e w' => e = .returned (.pointer none) ∧ W = w' := by
 have HEX : Hid (∀ W', Calls Tryz.prog 62 #[.int .i64 tn] W' fun e w' => e = .returned (.bool false) ∧ W' = w') := fun W' => by
  have := exists_any tn W'
  rw [decide_eq_false h] at this;exact this
 go_enter Tryz.func24, Tryz.ntmps24
 go_wp2_with fail
 refine (HEX.out _).mono ?_
 rintro e w' ⟨rfl, rfl⟩
 go_wp2_with fail
 go_ret;exact ⟨rfl, rfl⟩
theorem slives_any (b : Nat) (v0 v2 v3 : Value) (W : World) (h : Blk W b 118 [v0, .bool true, v2, v3]) : Calls Tryz.prog 57 #[.pointer (some ⟨b, 0, none⟩)] W fun e w' => e = .returned (.bool true) ∧ W = w' := by
 have c1 := h.cell 1
 simp only [gz, gs] at c1
 clear h
 go_enter Tryz.func57, Tryz.ntmps57
 go_wp2_with fail
 go_ret;exact ⟨rfl, rfl⟩
theorem rlives_any (b : Nat) (v0 v2 v3 : Value) (W : World) (h : Blk W b 115 [v0, .bool true, v2, v3]) : Calls Tryz.prog 55 #[.pointer (some ⟨b, 0, none⟩)] W fun e w' => e = .returned (.bool true) ∧ W = w' := by
 have c1 := h.cell 1
 simp only [gz, gs] at c1
 clear h
 go_enter Tryz.func55, Tryz.ntmps55
 go_wp2_with fail
 go_ret;exact ⟨rfl, rfl⟩
def dueB (sent : Bool) (a now : Int) : Bool := !sent || decide (now < a) || decide (6 ≤ now - a)
theorem due_any (g o : Nat) (sent : Bool) (a now : Int) (W : World) (hs : W.cell? ⟨g, o + 26, none⟩ = some (.bool sent)) (ha : W.cell? ⟨g, o + 27, none⟩ = some (.int .i64 a)) (a0 : 0 ≤ a) (a1 : a ≤ 1000000000) (n0 : 0 ≤ now) (n1 : now ≤ 1000000000) : Calls Tryz.prog 59 #[.pointer (some ⟨g, o, none⟩), .int .i64 now] W fun e w' => e = .returned (.bool (dueB sent a now)) ∧ W = w' := by
 have hw : IntKind.i64.wrap (now - a) = now - a := IntWalk.i64_in _ (by omega)
 cases sent with
 | false =>
  go_enter Tryz.func59, Tryz.ntmps59
  go_wp2_with fail
  go_ret
  exact ⟨by simp [dueB], rfl⟩
 | true =>
  by_cases h1 : now < a
  ·have q : (now < a) = True := eq_true h1
   clear q
   go_enter Tryz.func59, Tryz.ntmps59
   go_wp2_with fail
   go_ret
   exact ⟨by simp [dueB, h1], rfl⟩
  ·by_cases h2 : now - a ≥ 6
   ·have h3 : 6 ≤ now - a := h2
    go_enter Tryz.func59, Tryz.ntmps59
    go_wp2_with fail
    go_ret
    exact ⟨by simp [dueB, h1, h3], rfl⟩
   ·have h3 : ¬ 6 ≤ now - a := h2
    go_enter Tryz.func59, Tryz.ntmps59
    go_wp2_with fail
    go_ret
    exact ⟨by simp [dueB, h1, h3], rfl⟩
theorem done_any (b n cap : Nat) (oa : Option Addr) (v0 : Value) (k : Int) (W : World) (h : Blk W b 118 [v0, .bool true, .slice oa n cap, .int .i64 k]) : Calls Tryz.prog 18 #[.pointer (some ⟨b, 0, none⟩)] W fun e w' => e = .returned (.bool (k == (n : Int))) ∧ Below W.heap.size W w' := by
 have HL := Lib.hid (fun W' (h : Blk W' b 118 _) => slives_any b v0 (.slice oa n cap) (.int .i64 k) W' h)
 have HB := Lib.hid h
 have HBD : Hid (Below W.heap.size W W.drew) := (Below.refl _ _).drew
 have c2 := h.cell 2
 have c3 := h.cell 3
 simp only [gz, gs] at c2 c3
 clear h
 go_enter Tryz.func18, Tryz.ntmps18
 go_upto_region 1 with (fail)
 refine wp_region_held_drew (S := fun W => W.cell? ⟨b, 2, none⟩ = some (.slice oa n cap) ∧ W.cell? ⟨b, 3, none⟩ = some (.int .i64 k)) (by kernel_rfl) ?_ (fun hHeld => ?_)
 ·exact ⟨c2, c3⟩
 refine tk 0 (some 3) ?_
 refine rd1 1 (some 4) (fun K hK => ?_)
 go_simp
 refine (HL.out _ HB.out.drew).mono ?_
 rintro e w1 ⟨rfl, rfl⟩;go_simp
 refine hK.out _ _ ?_ (fun hHeld2 => ?_)
 ·exact ⟨c2, c3⟩
 clear hK K hHeld;rename _ => hHeld;refine tk 2 (some 5) ?_;refine tk 3 (some 6) ?_;refine tk 4 (some 7) ?_;refine tk 5 (some 8) ?_;refine tk 6 (some 9) ?_;refine tk 7 (some 10) ?_;refine tk 8 (some 11) ?_;refine tk 9 (some 12) ?_;refine tk 10 (some 13) ?_;refine tk 11 (some 14) ?_
 refine tk 12 (some 15) ?_;refine tk 13 (some 16) ?_;refine tk 14 (some 2) ?_;refine wpAnyH_done (by kernel_rfl) ?_ _;clear hHeld
 go_wp2_with fail
 go_ret;exact ⟨rfl, HBD.out⟩
theorem own_slice {wr : World} {B : Nat} {t : TypeId} {size : Nat} {v : Value} {n : Nat} {xs : List Value} (h : wr.ownsRow B t size v n xs) : ∃ oa cap, v = .slice oa n cap := by
 rcases h.2 with ⟨rfl, rfl⟩ | ⟨g, cap, _, rfl, _⟩
 ·exact ⟨_, _, rfl⟩
 ·exact ⟨_, _, rfl⟩
theorem own_ge {wr : World} {B : Nat} {t : TypeId} {size : Nat} {v : Value} {n : Nat} {xs : List Value} (h : wr.ownsRow B t size v n xs) : ∀ k, v.ownBlock = some k → B ≤ k := fun k hk => by
 rcases h.2 with ⟨rfl, rfl⟩ | ⟨g, cap, cur, rfl, q2, q3⟩
 ·simp [Value.ownBlock] at hk
 ·simp [Value.ownBlock] at hk
  omega
theorem own_lt {wr : World} {B : Nat} {t : TypeId} {size : Nat} {v : Value} {n : Nat} {xs : List Value} (h : wr.ownsRow B t size v n xs) : ∀ k, v.ownBlock = some k → k < wr.heap.size := fun k hk => by
 rcases h.2 with ⟨rfl, rfl⟩ | ⟨g, cap, cur, rfl, q2, q3⟩
 ·simp [Value.ownBlock] at hk
 ·simp [Value.ownBlock] at hk
  subst hk
  exact (Array.getElem?_eq_some_iff.1 q3.1).1
theorem ownsRow_keptF {W W' : World} {B : Nat} {t : TypeId} {size : Nat} {v : Value} {n : Nat} {xs : List Value} (h : W.ownsRow B t size v n xs) (hk : ∀ k, v.ownBlock = some k → W'.heap[k]? = W.heap[k]?) : W'.ownsRow B t size v n xs := by
 refine ⟨h.1, ?_⟩
 rcases h.2 with h2 | ⟨g, cap, cur, rfl, q2, q3, q4⟩
 ·exact .inl h2
 ·exact .inr ⟨g, cap, cur, rfl, q2, (hk g rfl).trans q3, q4⟩
theorem Tryz.infoPost : (Tryz.prog.info? 125).map (fun i => (i.zero, i.size, i.bytes)) = some (some (.agg #[.int .i64 0, .int .i64 0, .int .i64 0, .int .i64 0, .int .i64 0, .int .i64 0, .int .i64 0, .int .i64 0, .int .i64 0, .int .i64 0, .int .i64 0, .int .i64 0, .slice none 0 0, .int .i64 0, .int .i64 0, .int .i64 0, .int .i64 0, .int .i64 0, .int .i64 0, .int .i64 0, .int .i64 0, .int .i64 0, .int .i64 0, .int .i64 0, .int .i64 0, .string ⟨#[]⟩, .bool false, .int .i64 0]), 28, 248) := by kernel_rfl
theorem app_post (wr : World) (B : Nat) (v : Value) (n : Nat) (xs cs : List Value) (hown : wr.ownsRow B 125 28 v n xs) (hn : n ≤ 1000000) (hB : B ≤ wr.heap.size) (ty : TypeId) (hcs : cs.length = 28) (h1 : ∀ u ∈ cs, u.oneCell' = true) :
  ∃ oa cap w', (Builtin.append_ #[116, 116] ty #[v, .slice (some ⟨wr.heap.size, 0, none⟩) 1 1]).run Tryz.prog (wr.alloc (.cells cs.toArray 125)) = .ok (.slice oa (n + 1) cap) w' ∧ w'.ownsRow B 125 28 (.slice oa (n + 1) cap) (n + 1) (xs ++ cs) ∧ Fr (fun k => v.ownBlock = some k) wr w' ∧ (∀ k, (Value.slice oa (n + 1) cap).ownBlock = some k → v.ownBlock = some k ∨ wr.heap.size ≤ k) := by
 obtain ⟨i0, hi, hz0, hz1, hz2⟩ := info_parts Tryz.infoPost
 have hnew : Blk (wr.alloc (.cells cs.toArray 125)) wr.heap.size 125 cs := Blk.new wr _ _
 obtain ⟨v', w', hrun, h1, h2, h3⟩ := app_own (P := Tryz.prog) (W := wr.alloc (.cells cs.toArray 125)) B 116 ty 125 i0 (.agg #[.int .i64 0, .int .i64 0, .int .i64 0, .int .i64 0, .int .i64 0, .int .i64 0, .int .i64 0, .int .i64 0, .int .i64 0, .int .i64 0, .int .i64 0, .int .i64 0, .slice none 0 0, .int .i64 0, .int .i64 0, .int .i64 0, .int .i64 0, .int .i64 0, .int .i64 0, .int .i64 0, .int .i64 0, .int .i64 0, .int .i64 0, .int .i64 0, .int .i64 0, .string ⟨#[]⟩, .bool false, .int .i64 0]) 28 248 Tryz.underlying116 hi hz0 hz1 hz2 rfl (by decide) v n xs (hown.alloc _) ⟨wr.heap.size, 0, none⟩ 1 1 cs (by omega) (fun j u hj => by
   rw [show ((⟨wr.heap.size, 0, none⟩ : Addr).add j) = ⟨wr.heap.size, j, none⟩ from by unfold Addr.add; split <;> simp_all, hnew.cell]
   exact hj) h1 (by unfold maxLen; omega) (by omega) (by simp; omega)
 obtain ⟨oa, cap, rfl⟩ := own_slice h1
 refine ⟨oa, cap, w', hrun, h1, ((Fr.refl _ wr).alloc _).trans h2 (fun k _ hk => hk), fun k hk => (h3 k hk).imp_right (fun h => ?_)⟩
 rw [World.size_alloc] at h
 omega
theorem Tryz.infoMsg : (Tryz.prog.info? 32).map (fun i => (i.zero, i.size, i.bytes)) = some (some (.agg aZm), 31, 272) := by kernel_rfl
theorem app_msg (wr : World) (B : Nat) (v : Value) (n : Nat) (xs cs : List Value) (hown : wr.ownsRow B 32 31 v n xs) (hn : n ≤ 1000000) (hB : B ≤ wr.heap.size) (ty : TypeId) (hcs : cs.length = 31) (h1 : ∀ u ∈ cs, u.oneCell' = true) :
  ∃ oa cap w', (Builtin.append_ #[55, 55] ty #[v, .slice (some ⟨wr.heap.size, 0, none⟩) 1 1]).run Tryz.prog (wr.alloc (.cells cs.toArray 32)) = .ok (.slice oa (n + 1) cap) w' ∧ w'.ownsRow B 32 31 (.slice oa (n + 1) cap) (n + 1) (xs ++ cs) ∧ Fr (fun k => v.ownBlock = some k) wr w' ∧ (∀ k, (Value.slice oa (n + 1) cap).ownBlock = some k → v.ownBlock = some k ∨ wr.heap.size ≤ k) := by
 obtain ⟨i0, hi, hz0, hz1, hz2⟩ := info_parts Tryz.infoMsg
 have hnew : Blk (wr.alloc (.cells cs.toArray 32)) wr.heap.size 32 cs := Blk.new wr _ _
 obtain ⟨v', w', hrun, h1, h2, h3⟩ := app_own (P := Tryz.prog) (W := wr.alloc (.cells cs.toArray 32)) B 55 ty 32 i0 (.agg aZm) 31 272 Tryz.underlying55 hi hz0 hz1 hz2 rfl (by decide) v n xs (hown.alloc _) ⟨wr.heap.size, 0, none⟩ 1 1 cs (by omega) (fun j u hj => by
   rw [show ((⟨wr.heap.size, 0, none⟩ : Addr).add j) = ⟨wr.heap.size, j, none⟩ from by unfold Addr.add; split <;> simp_all, hnew.cell]
   exact hj) h1 (by unfold maxLen; omega) (by omega) (by simp; omega)
 obtain ⟨oa, cap, rfl⟩ := own_slice h1
 refine ⟨oa, cap, w', hrun, h1, ((Fr.refl _ wr).alloc _).trans h2 (fun k _ hk => hk), fun k hk => (h3 k hk).imp_right (fun h => ?_)⟩
 rw [World.size_alloc] at h
 omega
theorem Tryz.infoOrd : (Tryz.prog.info? 30).map (fun i => (i.zero, i.size, i.bytes)) = some (some (.agg aZo), 26, 232) := by kernel_rfl
theorem app_ord (wr : World) (B : Nat) (v : Value) (n : Nat) (xs cs : List Value) (hown : wr.ownsRow B 30 26 v n xs) (hn : n ≤ 1000000) (hB : B ≤ wr.heap.size) (ty : TypeId) (hcs : cs.length = 26) (h1 : ∀ u ∈ cs, u.oneCell' = true) :
  ∃ oa cap w', (Builtin.append_ #[50, 50] ty #[v, .slice (some ⟨wr.heap.size, 0, none⟩) 1 1]).run Tryz.prog (wr.alloc (.cells cs.toArray 30)) = .ok (.slice oa (n + 1) cap) w' ∧ w'.ownsRow B 30 26 (.slice oa (n + 1) cap) (n + 1) (xs ++ cs) ∧ Fr (fun k => v.ownBlock = some k) wr w' ∧ (∀ k, (Value.slice oa (n + 1) cap).ownBlock = some k → v.ownBlock = some k ∨ wr.heap.size ≤ k) := by
 obtain ⟨i0, hi, hz0, hz1, hz2⟩ := info_parts Tryz.infoOrd
 have hnew : Blk (wr.alloc (.cells cs.toArray 30)) wr.heap.size 30 cs := Blk.new wr _ _
 obtain ⟨v', w', hrun, h1, h2, h3⟩ := app_own (P := Tryz.prog) (W := wr.alloc (.cells cs.toArray 30)) B 50 ty 30 i0 (.agg aZo) 26 232 Tryz.underlying50 hi hz0 hz1 hz2 rfl (by decide) v n xs (hown.alloc _) ⟨wr.heap.size, 0, none⟩ 1 1 cs (by omega) (fun j u hj => by
   rw [show ((⟨wr.heap.size, 0, none⟩ : Addr).add j) = ⟨wr.heap.size, j, none⟩ from by unfold Addr.add; split <;> simp_all, hnew.cell]
   exact hj) h1 (by unfold maxLen; omega) (by omega) (by simp; omega)
 obtain ⟨oa, cap, rfl⟩ := own_slice h1
 refine ⟨oa, cap, w', hrun, h1, ((Fr.refl _ wr).alloc _).trans h2 (fun k _ hk => hk), fun k hk => (h3 k hk).imp_right (fun h => ?_)⟩
 rw [World.size_alloc] at h
 omega
structure Pst where
 fr : Int
 sent : Bool
 at_ : Int
def pstC (i : Nat) (p : Pst) : List Value := (drA ((i : Int) + 1) p.fr).toList ++ [.bool p.sent, .int .i64 p.at_]
def pCells : Nat → List Pst → List Value
 | _, [] => []
 | i, p :: l => pstC i p ++ pCells (i + 1) l
theorem pstC_len (i : Nat) (p : Pst) : (pstC i p).length = 28 := rfl
theorem pCells_snoc (p : Pst) : ∀ (l : List Pst) (i : Nat), pCells i l ++ pstC (i + l.length) p = pCells i (l ++ [p])
 | [], i => by simp [pCells]
 | q :: l, i => by
  have := pCells_snoc p l (i + 1)
  rw [show i + (q :: l).length = i + 1 + l.length by simp; omega]
  simp only [pCells, List.cons_append, List.append_assoc, this]
theorem pCells_len : ∀ (l : List Pst) (i : Nat), (pCells i l).length = l.length * 28
 | [], _ => rfl
 | q :: l, i => by
  simp only [pCells, List.length_append, pstC_len, pCells_len l (i + 1), List.length_cons]
  omega
theorem pCells_at : ∀ (l : List Pst) (i j : Nat) (p : Pst) (t : Nat), l[j]? = some p → t < 28 → (pCells i l)[j * 28 + t]? = (pstC (i + j) p)[t]?
 | [], _, _, _, _, h, _ => by simp at h
 | q :: l, i, 0, p, t, h, ht => by
  simp at h
  subst h
  simp only [pCells, Nat.zero_mul, Nat.zero_add, Nat.add_zero]
  rw [List.getElem?_append_left (by rw [pstC_len]; exact ht)]
 | q :: l, i, j + 1, p, t, h, ht => by
  have := pCells_at l (i + 1) j p t (by simpa using h) ht
  simp only [pCells]
  rw [List.getElem?_append_right (by rw [pstC_len]; omega), pstC_len, show (j + 1) * 28 + t - 28 = j * 28 + t by omega, this, show i + 1 + j = i + (j + 1) by omega]
structure SnAt (W : World) (B bs : Nat) (tn : Int) (vp : Value) (L : List Pst) (k : Nat) : Prop where
 blk : Blk W bs 118 [.int .i64 tn, .bool true, vp, .int .i64 k]
 own : W.ownsRow B 125 28 vp L.length (pCells 0 L)
 ge : B ≤ bs
 ne : ∀ g, vp.ownBlock = some g → g ≠ bs
end Go.Proofs.YtjkiidhnmljmbaaGreatDoor
