/-
  Orders: the reference's SameOrders of equal lists of orders.
-/
import Derived.Test.YtjkiidhnmljmbaaDoorOrX
set_option linter.unusedVariables false
set_option linter.unusedSimpArgs false
namespace Go.Proofs.YtjkiidhnmljmbaaDoor
open Go.RowKit
set_option maxHeartbeats 8000000 in
set_option maxRecDepth 100000 in
theorem sameAlts_nil (W : World) : Calls Tryd.prog 85 #[.slice none 0 0, .slice none 0 0] W fun e w' => e = .returned (.bool true) ∧ Below W.heap.size W w' := by
  go_enter Tryd.func85, Tryd.ntmps85
  go_wp2_with fail
  go_loopw [5] (fun vi wr => vi = .int .i64 0 ∧ wr = W) (fun _ _ => 0)
  case atStart => exact ⟨rfl, rfl⟩
  case round =>
    obtain ⟨rfl, rfl⟩ := hrel
    go_wp2_with fail
    go_ret
    exact ⟨rfl, Below.refl _ _⟩
set_option maxHeartbeats 8000000 in
set_option maxRecDepth 100000 in
theorem sameEnt_zero (W : World) : Calls Tryd.prog 74 #[.agg #[.int .i64 0, .int .i64 0, .int .i64 0, .int .i64 0, .int .i64 0, .int .i64 0, .slice none 0 0], .agg #[.int .i64 0, .int .i64 0, .int .i64 0, .int .i64 0, .int .i64 0, .int .i64 0, .slice none 0 0]] W fun e w' => e = .returned (.bool true) ∧ Below W.heap.size W w' := by
  obtain ⟨N, hN⟩ : ∃ N, W.heap.size = N := ⟨_, rfl⟩
  obtain ⟨w1, hw1⟩ : ∃ w1, W.alloc (.cells (#[.int .i64 0, .int .i64 0, .int .i64 0, .int .i64 0, .int .i64 0, .int .i64 0, .slice none 0 0]) 24) = w1 := ⟨_, rfl⟩
  have hb1 : Below N W w1 := by rw [← hw1, ← hN]; exact (Below.refl _ W).alloc (Nat.le_refl _) _
  have hk1 : Blk w1 N 24 ([.int .i64 0, .int .i64 0, .int .i64 0, .int .i64 0, .int .i64 0, .int .i64 0, .slice none 0 0]) := by rw [← hw1, ← hN]; exact Blk.new W _ _
  obtain ⟨M, hM⟩ : ∃ M, w1.heap.size = M := ⟨_, rfl⟩
  obtain ⟨w2, hw2⟩ : ∃ w2, w1.alloc (.cells (#[.int .i64 0, .int .i64 0, .int .i64 0, .int .i64 0, .int .i64 0, .int .i64 0, .slice none 0 0]) 24) = w2 := ⟨_, rfl⟩
  have hb2 : Below M w1 w2 := by rw [← hw2, ← hM]; exact (Below.refl _ w1).alloc (Nat.le_refl _) _
  have hk3 : Blk w2 M 24 ([.int .i64 0, .int .i64 0, .int .i64 0, .int .i64 0, .int .i64 0, .int .i64 0, .slice none 0 0]) := by rw [← hw2, ← hM]; exact Blk.new w1 _ _
  have hNM : N < M := by rw [← hM]; exact hk1.lt
  have hk2 : Blk w2 N 24 ([.int .i64 0, .int .i64 0, .int .i64 0, .int .i64 0, .int .i64 0, .int .i64 0, .slice none 0 0]) := hk1.kept (hb2.block N hNM)
  have HN := Lib.hid hN
  have HK2 := Lib.hid hk2
  have HK3 := Lib.hid hk3
  have HB : Hid (Below N W w2) := hb1.trans (hb2.mono (Nat.le_of_lt hNM))
  have c0 := hk2.cell 0
  have c1 := hk2.cell 1
  have c2 := hk2.cell 2
  have c3 := hk2.cell 3
  have c4 := hk2.cell 4
  have c5 := hk2.cell 5
  have c6 := hk2.cell 6
  have e0 := hk3.cell 0
  have e1 := hk3.cell 1
  have e2 := hk3.cell 2
  have e3 := hk3.cell 3
  have e4 := hk3.cell 4
  have e5 := hk3.cell 5
  have e6 := hk3.cell 6
  dsimp only [Array.toList, List.getElem?_cons_zero, List.getElem?_cons_succ] at c0 c1 c2 c3 c4 c5 c6 e0 e1 e2 e3 e4 e5 e6 hw1 hw2
  clear hb1 hb2 hk1 hk2 hk3 hNM
  go_enter Tryd.func74, Tryd.ntmps74
  go_wp2_with fail
  refine (sameAlts_nil w2).mono ?_
  rintro e w3 ⟨rfl, hb3⟩
  clear c0 c1 c2 c3 c4 c5 c6 e0 e1 e2 e3 e4 e5 e6
  have HB3 : Hid (Below N W w3) := HB.out.trans (hb3.mono (bnl9 HN.out HB.out))
  have hk2 := HK2.out.kept (hb3.block N HK2.out.lt)
  have hk3 := HK3.out.kept (hb3.block M HK3.out.lt)
  have c0 := hk2.cell 0
  have c1 := hk2.cell 1
  have c2 := hk2.cell 2
  have c3 := hk2.cell 3
  have c4 := hk2.cell 4
  have c5 := hk2.cell 5
  have c6 := hk2.cell 6
  have e0 := hk3.cell 0
  have e1 := hk3.cell 1
  have e2 := hk3.cell 2
  have e3 := hk3.cell 3
  have e4 := hk3.cell 4
  have e5 := hk3.cell 5
  have e6 := hk3.cell 6
  dsimp only [Array.toList, List.getElem?_cons_zero, List.getElem?_cons_succ] at c0 c1 c2 c3 c4 c5 c6 e0 e1 e2 e3 e4 e5 e6
  clear hk2 hk3 hb3
  go_wp2_with fail
  go_ret
  exact ⟨rfl, by rw [HN.out]; exact HB3.out⟩
set_option maxHeartbeats 8000000 in
set_option maxRecDepth 100000 in
theorem sameOrd_eq (s ch f k e : Int) (W : World) : Calls Tryd.prog 54 #[.agg (ordA s ch f k e), .agg (ordA s ch f k e)] W fun e w' => e = .returned (.bool true) ∧ Below W.heap.size W w' := by
  obtain ⟨N, hN⟩ : ∃ N, W.heap.size = N := ⟨_, rfl⟩
  obtain ⟨w1, hw1⟩ : ∃ w1, W.alloc (.cells (ordA s ch f k e) 30) = w1 := ⟨_, rfl⟩
  have hb1 : Below N W w1 := by rw [← hw1, ← hN]; exact (Below.refl _ W).alloc (Nat.le_refl _) _
  have hk1 : Blk w1 N 30 ((ordA s ch f k e).toList) := by rw [← hw1, ← hN]; exact Blk.new W _ _
  obtain ⟨M, hM⟩ : ∃ M, w1.heap.size = M := ⟨_, rfl⟩
  obtain ⟨w2, hw2⟩ : ∃ w2, w1.alloc (.cells (ordA s ch f k e) 30) = w2 := ⟨_, rfl⟩
  have hb2 : Below M w1 w2 := by rw [← hw2, ← hM]; exact (Below.refl _ w1).alloc (Nat.le_refl _) _
  have hk3 : Blk w2 M 30 ((ordA s ch f k e).toList) := by rw [← hw2, ← hM]; exact Blk.new w1 _ _
  have hNM : N < M := by rw [← hM]; exact hk1.lt
  have hk2 : Blk w2 N 30 ((ordA s ch f k e).toList) := hk1.kept (hb2.block N hNM)
  have HN := Lib.hid hN
  have HK2 := Lib.hid hk2
  have HK3 := Lib.hid hk3
  have HB : Hid (Below N W w2) := hb1.trans (hb2.mono (Nat.le_of_lt hNM))
  have c0 := hk2.cell 0
  have c1 := hk2.cell 1
  have c2 := hk2.cell 2
  have c3 := hk2.cell 3
  have c4 := hk2.cell 4
  have c5 := hk2.cell 5
  have c6 := hk2.cell 6
  have c7 := hk2.cell 7
  have c8 := hk2.cell 8
  have c9 := hk2.cell 9
  have c10 := hk2.cell 10
  have c11 := hk2.cell 11
  have c12 := hk2.cell 12
  have c13 := hk2.cell 13
  have c14 := hk2.cell 14
  have c15 := hk2.cell 15
  have c16 := hk2.cell 16
  have c17 := hk2.cell 17
  have c18 := hk2.cell 18
  have c19 := hk2.cell 19
  have c20 := hk2.cell 20
  have c21 := hk2.cell 21
  have c22 := hk2.cell 22
  have c23 := hk2.cell 23
  have c24 := hk2.cell 24
  have c25 := hk2.cell 25
  have e0 := hk3.cell 0
  have e1 := hk3.cell 1
  have e2 := hk3.cell 2
  have e3 := hk3.cell 3
  have e4 := hk3.cell 4
  have e5 := hk3.cell 5
  have e6 := hk3.cell 6
  have e7 := hk3.cell 7
  have e8 := hk3.cell 8
  have e9 := hk3.cell 9
  have e10 := hk3.cell 10
  have e11 := hk3.cell 11
  have e12 := hk3.cell 12
  have e13 := hk3.cell 13
  have e14 := hk3.cell 14
  have e15 := hk3.cell 15
  have e16 := hk3.cell 16
  have e17 := hk3.cell 17
  have e18 := hk3.cell 18
  have e19 := hk3.cell 19
  have e20 := hk3.cell 20
  have e21 := hk3.cell 21
  have e22 := hk3.cell 22
  have e23 := hk3.cell 23
  have e24 := hk3.cell 24
  have e25 := hk3.cell 25
  dsimp only [ordA, Array.toList, List.getElem?_cons_zero, List.getElem?_cons_succ] at c0 c1 c2 c3 c4 c5 c6 c7 c8 c9 c10 c11 c12 c13 c14 c15 c16 c17 c18 c19 c20 c21 c22 c23 c24 c25 e0 e1 e2 e3 e4 e5 e6 e7 e8 e9 e10 e11 e12 e13 e14 e15 e16 e17 e18 e19 e20 e21 e22 e23 e24 e25 hw1 hw2
  dsimp only [ordA]
  clear hb1 hb2 hk1 hk2 hk3 hNM
  go_enter Tryd.func54, Tryd.ntmps54
  go_wp2_with fail
  refine (sameEnt_zero w2).mono ?_
  rintro e w3 ⟨rfl, hb3⟩
  clear c0 c1 c2 c3 c4 c5 c6 c7 c8 c9 c10 c11 c12 c13 c14 c15 c16 c17 c18 c19 c20 c21 c22 c23 c24 c25 e0 e1 e2 e3 e4 e5 e6 e7 e8 e9 e10 e11 e12 e13 e14 e15 e16 e17 e18 e19 e20 e21 e22 e23 e24 e25
  have HB3 : Hid (Below N W w3) := HB.out.trans (hb3.mono (bnl9 HN.out HB.out))
  have hk2 := HK2.out.kept (hb3.block N HK2.out.lt)
  have hk3 := HK3.out.kept (hb3.block M HK3.out.lt)
  have c0 := hk2.cell 0
  have c1 := hk2.cell 1
  have c2 := hk2.cell 2
  have c3 := hk2.cell 3
  have c4 := hk2.cell 4
  have c5 := hk2.cell 5
  have c6 := hk2.cell 6
  have c7 := hk2.cell 7
  have c8 := hk2.cell 8
  have c9 := hk2.cell 9
  have c10 := hk2.cell 10
  have c11 := hk2.cell 11
  have c12 := hk2.cell 12
  have c13 := hk2.cell 13
  have c14 := hk2.cell 14
  have c15 := hk2.cell 15
  have c16 := hk2.cell 16
  have c17 := hk2.cell 17
  have c18 := hk2.cell 18
  have c19 := hk2.cell 19
  have c20 := hk2.cell 20
  have c21 := hk2.cell 21
  have c22 := hk2.cell 22
  have c23 := hk2.cell 23
  have c24 := hk2.cell 24
  have c25 := hk2.cell 25
  have e0 := hk3.cell 0
  have e1 := hk3.cell 1
  have e2 := hk3.cell 2
  have e3 := hk3.cell 3
  have e4 := hk3.cell 4
  have e5 := hk3.cell 5
  have e6 := hk3.cell 6
  have e7 := hk3.cell 7
  have e8 := hk3.cell 8
  have e9 := hk3.cell 9
  have e10 := hk3.cell 10
  have e11 := hk3.cell 11
  have e12 := hk3.cell 12
  have e13 := hk3.cell 13
  have e14 := hk3.cell 14
  have e15 := hk3.cell 15
  have e16 := hk3.cell 16
  have e17 := hk3.cell 17
  have e18 := hk3.cell 18
  have e19 := hk3.cell 19
  have e20 := hk3.cell 20
  have e21 := hk3.cell 21
  have e22 := hk3.cell 22
  have e23 := hk3.cell 23
  have e24 := hk3.cell 24
  have e25 := hk3.cell 25
  dsimp only [ordA, Array.toList, List.getElem?_cons_zero, List.getElem?_cons_succ] at c0 c1 c2 c3 c4 c5 c6 c7 c8 c9 c10 c11 c12 c13 c14 c15 c16 c17 c18 c19 c20 c21 c22 c23 c24 c25 e0 e1 e2 e3 e4 e5 e6 e7 e8 e9 e10 e11 e12 e13 e14 e15 e16 e17 e18 e19 e20 e21 e22 e23 e24 e25
  clear hk2 hk3 hb3
  go_wp2_with fail
  go_ret
  exact ⟨rfl, by rw [HN.out]; exact HB3.out⟩
set_option maxHeartbeats 8000000 in
set_option maxRecDepth 100000 in
theorem sameOrdX_eq (s ch f k e : Int) (W : World) : Calls Tryd.prog 40 #[.agg (ordA s ch f k e), .agg (ordA s ch f k e)] W fun e w' => e = .returned (.bool true) ∧ Below W.heap.size W w' := by
  obtain ⟨N, hN⟩ : ∃ N, W.heap.size = N := ⟨_, rfl⟩
  obtain ⟨w1, hw1⟩ : ∃ w1, W.alloc (.cells (ordA s ch f k e) 30) = w1 := ⟨_, rfl⟩
  have hb1 : Below N W w1 := by rw [← hw1, ← hN]; exact (Below.refl _ W).alloc (Nat.le_refl _) _
  have hk1 : Blk w1 N 30 (ordA s ch f k e).toList := by rw [← hw1, ← hN]; exact Blk.new W _ _
  obtain ⟨M, hM⟩ : ∃ M, w1.heap.size = M := ⟨_, rfl⟩
  obtain ⟨w2, hw2⟩ : ∃ w2, w1.alloc (.cells (ordA s ch f k e) 30) = w2 := ⟨_, rfl⟩
  have hb2 : Below M w1 w2 := by rw [← hw2, ← hM]; exact (Below.refl _ w1).alloc (Nat.le_refl _) _
  have hk3 : Blk w2 M 30 (ordA s ch f k e).toList := by rw [← hw2, ← hM]; exact Blk.new w1 _ _
  have hNM : N < M := by rw [← hM]; exact hk1.lt
  have hk2 : Blk w2 N 30 (ordA s ch f k e).toList := hk1.kept (hb2.block N hNM)
  have HN := Lib.hid hN
  have HK2 := Lib.hid hk2
  have HK3 := Lib.hid hk3
  have HB : Hid (Below N W w2) := hb1.trans (hb2.mono (Nat.le_of_lt hNM))
  have HSZ := Lib.hid (show (Tryd.prog.info? 30).map (·.size) = some 26 from by kernel_rfl)
  clear hb1 hb2 hk1 hk2 hk3 hNM
  go_enter Tryd.func40, Tryd.ntmps40
  go_wp2_with (first | (refine wpList_load_mid rfl 30 (.tmp 2) rfl N 0 rfl (ordA s ch f k e).toList _ HK2.out.range Tryd.underlying30 rfl HSZ.out ?_) | (refine wpList_load_mid rfl 30 (.tmp 3) rfl M 0 rfl (ordA s ch f k e).toList _ HK3.out.range Tryd.underlying30 rfl HSZ.out ?_))
  refine (sameOrd_eq s ch f k e w2).mono ?_
  rintro e w3 ⟨rfl, hb3⟩
  go_wp2_with fail
  go_ret
  exact ⟨rfl, by rw [HN.out]; exact HB.out.trans (hb3.mono (bnl9 HN.out HB.out))⟩
set_option maxHeartbeats 8000000 in
set_option maxRecDepth 100000 in
theorem sameOrders_eq (l : List Od) (oa ob : Option Addr) (n c d : Nat) (W : World) (hn : l.length = n) (hlm : n ≤ 1000000) (ha : RdO W oa l) (hb : RdO W ob l) : Calls Tryd.prog 24 #[.slice oa n c, .slice ob n d] W fun e w' => e = .returned (.bool true) ∧ Below W.heap.size W w' := by
  have HA := Lib.hid ha
  have HB := Lib.hid hb
  have HN := Lib.hid hn
  have HSZ := Lib.hid (show (Tryd.prog.info? 30).map (·.size) = some 26 from by kernel_rfl)
  clear ha hb hn
  go_enter Tryd.func24, Tryd.ntmps24
  go_wp2_with fail
  go_loopw [5] (fun vi wr => ∃ i : Nat, i ≤ n ∧ vi = .int .i64 i ∧ Hid (Below W.heap.size W wr)) (fun v _ => n - (intOf v).toNat)
  case atStart => exact ⟨0, Nat.zero_le _, rfl, Below.refl _ _⟩
  case round =>
    obtain ⟨i, hin, rfl, HQ⟩ := hrel
    by_cases h : i < n
    · have q1 : (i : Int) < (n : Int) := by omega
      have q2 : (0 : Int) ≤ (i : Int) := by omega
      obtain ⟨q, hq⟩ : ∃ q, l[i]? = some q := ⟨l[i]'(by rw [HN.out]; exact h), List.getElem?_eq_getElem _⟩
      obtain ⟨b1, p1, rfl, hlt1, hr1⟩ := HA.out.at i q hq
      obtain ⟨b2, p2, rfl, hlt2, hr2⟩ := HB.out.at i q hq
      obtain ⟨qs, qc, qf, qk, qe⟩ := q
      have HKP : Hid (∀ W', Below W.heap.size W W' → W'.rangeAt b1 (p1 + i * 26) (ordA qs qc qf qk qe).toList ∧ W'.rangeAt b2 (p2 + i * 26) (ordA qs qc qf qk qe).toList) := fun W' hW => ⟨fun j v hj => (hW.cell (p := ⟨b1, p1 + i * 26 + j, none⟩) hlt1).trans (hr1 j v hj), fun j v hj => (hW.cell (p := ⟨b2, p2 + i * 26 + j, none⟩) hlt2).trans (hr2 j v hj)⟩
      clear hq hlt1 hr1 hlt2 hr2
      go_upto_region 6 with (fail)
      have HQ := Lib.hid HQ.out.drew
      refine wp_region_held_drew (S := fun W => W.rangeAt b1 (p1 + i * 26) (ordA qs qc qf qk qe).toList ∧ W.rangeAt b2 (p2 + i * 26) (ordA qs qc qf qk qe).toList) (by kernel_rfl) ?_ (fun hHeld => ?_)
      · exact HKP.out _ HQ.out
      generalize World.drew _ = z0 at HQ hHeld ⊢
      refine wpAnyH_take (i := 0) (oi := ⟨some 18, _, _, _, _, _⟩) (v := ?vp1) rfl (by kernel_rfl) (by kernel_rfl) (by kernel_rfl) (fun _ _ _ h => h) (Or.inl ⟨by rfl, ?yp1⟩) (by assumption) ?rp1
      case yp1 => (intro w hSw; (try dsimp only at hSw); go_simp; (try (with_reducible rfl)))
      try simp only [Act.put, List.setIfInBounds_toArray, List.set_cons_zero, List.set_cons_succ]
      refine wpAnyH_take (i := 1) (oi := ⟨some 19, _, _, _, _, _⟩) (v := ?vp2) rfl (by kernel_rfl) (by kernel_rfl) (by kernel_rfl) (fun _ _ _ h => h) (Or.inl ⟨by rfl, ?yp2⟩) (by assumption) ?rp2
      case yp2 => (intro w hSw; (try dsimp only at hSw); go_simp; (try (with_reducible rfl)))
      try simp only [Act.put, List.setIfInBounds_toArray, List.set_cons_zero, List.set_cons_succ]
      refine wpAnyH_take (i := 2) (oi := ⟨some 20, _, _, _, _, _⟩) (v := ?vp3) rfl (by kernel_rfl) (by kernel_rfl) (by kernel_rfl) (fun _ _ _ h => h) (Or.inl ⟨by rfl, ?yp3⟩) (by assumption) ?rp3
      case yp3 => (intro w hSw; (try dsimp only at hSw); go_simp; (try (with_reducible rfl)))
      try simp only [Act.put, List.setIfInBounds_toArray, List.set_cons_zero, List.set_cons_succ]
      refine wpAnyH_take (i := 3) (oi := ⟨some 21, _, _, _, _, _⟩) (v := .agg (ordA qs qc qf qk qe)) rfl (by kernel_rfl) (by kernel_rfl) (by kernel_rfl) (fun _ _ _ h => h) (yieldsIf_load_mid (by rfl) 30 (.tmp 20) rfl b1 (p1 + i * 26) rfl (ordA qs qc qf qk qe).toList _ (fun _ h => h.1) Tryd.underlying30 rfl HSZ.out) (by assumption) ?_
      try simp only [Act.put, List.setIfInBounds_toArray, List.set_cons_zero, List.set_cons_succ]
      refine wpAnyH_take (i := 4) (oi := ⟨some 22, _, _, _, _, _⟩) (v := ?vp5) rfl (by kernel_rfl) (by kernel_rfl) (by kernel_rfl) (fun _ _ _ h => h) (Or.inl ⟨by rfl, ?yp5⟩) (by assumption) ?rp5
      case yp5 => (intro w hSw; (try dsimp only at hSw); go_simp; (try (with_reducible rfl)))
      try simp only [Act.put, List.setIfInBounds_toArray, List.set_cons_zero, List.set_cons_succ]
      refine wpAnyH_take (i := 5) (oi := ⟨some 23, _, _, _, _, _⟩) (v := ?vp6) rfl (by kernel_rfl) (by kernel_rfl) (by kernel_rfl) (fun _ _ _ h => h) (Or.inl ⟨by rfl, ?yp6⟩) (by assumption) ?rp6
      case yp6 => (intro w hSw; (try dsimp only at hSw); go_simp; (try (with_reducible rfl)))
      try simp only [Act.put, List.setIfInBounds_toArray, List.set_cons_zero, List.set_cons_succ]
      refine wpAnyH_take (i := 6) (oi := ⟨some 24, _, _, _, _, _⟩) (v := ?vp7) rfl (by kernel_rfl) (by kernel_rfl) (by kernel_rfl) (fun _ _ _ h => h) (Or.inl ⟨by rfl, ?yp7⟩) (by assumption) ?rp7
      case yp7 => (intro w hSw; (try dsimp only at hSw); go_simp; (try (with_reducible rfl)))
      try simp only [Act.put, List.setIfInBounds_toArray, List.set_cons_zero, List.set_cons_succ]
      refine wpAnyH_take (i := 7) (oi := ⟨some 25, _, _, _, _, _⟩) (v := .agg (ordA qs qc qf qk qe)) rfl (by kernel_rfl) (by kernel_rfl) (by kernel_rfl) (fun _ _ _ h => h) (yieldsIf_load_mid (by rfl) 30 (.tmp 24) rfl b2 (p2 + i * 26) rfl (ordA qs qc qf qk qe).toList _ (fun _ h => h.2) Tryd.underlying30 rfl HSZ.out) (by assumption) ?_
      try simp only [Act.put, List.setIfInBounds_toArray, List.set_cons_zero, List.set_cons_succ]
      refine wpAnyH_ready (rs := [8]) (by kernel_rfl) (by simp) (AllReadyH.cons (o := ⟨some 26, _, _, _, _, _⟩) rfl (fun K hK => ?_) AllReadyH.nil)
      go_simp
      refine (sameOrdX_eq qs qc qf qk qe _).mono ?_
      rintro e z ⟨rfl, hbz⟩
      have HQ := Lib.hid (HQ.out.trans (hbz.mono HQ.out.size))
      clear hbz
      go_simp
      refine hK.out _ _ ?_ (fun hHeld2 => ?_)
      · exact HKP.out _ HQ.out
      clear hK K hHeld
      rename _ => hHeld
      try simp only [Act.put, List.setIfInBounds_toArray, List.set_cons_zero, List.set_cons_succ]
      refine wpAnyH_take (i := 9) (oi := ⟨some 6, _, _, _, _, _⟩) (v := ?vp9) rfl (by kernel_rfl) (by kernel_rfl) (by kernel_rfl) (fun _ _ _ h => h) (Or.inl ⟨by rfl, ?yp9⟩) (by assumption) ?rp9
      case yp9 => (intro w hSw; (try dsimp only at hSw); go_simp; (try (with_reducible rfl)))
      try simp only [Act.put, List.setIfInBounds_toArray, List.set_cons_zero, List.set_cons_succ]
      refine wpAnyH_done (by kernel_rfl) ?_ _
      clear hHeld
      go_wp2_with fail
      go_roundw
      case rel => exact ⟨i + 1, by omega, by go_num, HQ⟩
      case measure => simp [intOf]; omega
    · have q1 : ¬ (i : Int) < (n : Int) := by omega
      go_wp2_with fail
      go_ret
      exact ⟨rfl, HQ.out⟩
end Go.Proofs.YtjkiidhnmljmbaaDoor
