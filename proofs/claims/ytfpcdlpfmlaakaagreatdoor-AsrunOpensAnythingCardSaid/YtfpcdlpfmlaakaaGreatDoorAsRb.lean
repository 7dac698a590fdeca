/-
  The helpers of the laws of package asrun: Make.
-/
import Derived.Test.YtfpcdlpfmlaakaaGreatDoorAsRa
set_option linter.unusedVariables false
set_option linter.unusedSimpArgs false
namespace Go.Proofs.YtfpcdlpfmlaakaaGreatDoor
open Go.RowKit Onair
attribute [local go_sem ↓] Go.wp_at_zero Go.wp_at_succ
theorem tdiv_bd (a k : Int) (hk : 0 < k) (h0 : -9223372036854775808 ≤ a) (h1 : a ≤ 9223372036854775807) : -9223372036854775808 ≤ a.tdiv k ∧ a.tdiv k ≤ 9223372036854775807 := by
  by_cases h : 0 ≤ a
  · rw [Int.tdiv_eq_ediv_of_nonneg h]
    have h2 : 0 ≤ a / k := Int.ediv_nonneg h (by omega)
    have h3 : a / k ≤ a := Int.ediv_le_self k h
    omega
  · have e : a.tdiv k = -((-a).tdiv k) := by rw [Int.neg_tdiv]; omega
    rw [e, Int.tdiv_eq_ediv_of_nonneg (by omega)]
    have h2 : 0 ≤ -a / k := Int.ediv_nonneg (by omega) (by omega)
    have h3 : -a / k ≤ -a := Int.ediv_le_self k (by omega)
    omega
set_option maxHeartbeats 4000000 in
set_option maxRecDepth 100000 in
theorem make_any (q : Qd) (w : World) (hq : QdI q) :
    Calls Tryz.prog 51 #[.agg q.arr] w fun e w' => e = .returned (.agg (recA (mkR q))) ∧ Below w.heap.size w w' := by
  obtain ⟨a, b, c, d⟩ := q
  obtain ⟨a0, a1, b0, b1, c0, c1, d0, d1⟩ := hq
  dsimp only at a0 a1 b0 b1 c0 c1 d0 d1
  have HE : Hid (mkR ⟨a, b, c, d⟩ = ⟨pickI a 3, pickI (a.tdiv 3) 8, pickI b 200000, 1 + pickI c 3000, pickI d 60, if pickI d 60 = 0 then 0 else pickI (c.tdiv 7) 90⟩) := rfl
  dsimp only [Qd.arr]
  have PK := Lib.hid pick_any
  have t1 : -9223372036854775808 ≤ a.tdiv 3 ∧ a.tdiv 3 ≤ 9223372036854775807 := tdiv_bd a 3 (by decide) a0 a1
  have t2 : -9223372036854775808 ≤ c.tdiv 7 ∧ c.tdiv 7 ≤ 9223372036854775807 := tdiv_bd c 7 (by decide) c0 c1
  have P1 : Hid (∀ W, Calls Tryz.prog 14 #[.int .i64 a, .int .i64 3] W fun e w' => e = .returned (.int .i64 (pickI a 3)) ∧ W = w') := fun W => PK.out _ _ W a0 a1 (by decide) (by decide)
  have P2 : Hid (∀ W, Calls Tryz.prog 14 #[.int .i64 (IntKind.i64.wrap (a.tdiv 3)), .int .i64 8] W fun e w' => e = .returned (.int .i64 (pickI (a.tdiv 3) 8)) ∧ W = w') := fun W => by rw [IntWalk.i64_in _ (by omega)]; exact PK.out _ _ W t1.1 t1.2 (by decide) (by decide)
  have P3 : Hid (∀ W, Calls Tryz.prog 14 #[.int .i64 b, .int .i64 200000] W fun e w' => e = .returned (.int .i64 (pickI b 200000)) ∧ W = w') := fun W => PK.out _ _ W b0 b1 (by decide) (by decide)
  have P4 : Hid (∀ W, Calls Tryz.prog 14 #[.int .i64 c, .int .i64 3000] W fun e w' => e = .returned (.int .i64 (pickI c 3000)) ∧ W = w') := fun W => PK.out _ _ W c0 c1 (by decide) (by decide)
  have P5 : Hid (∀ W, Calls Tryz.prog 14 #[.int .i64 d, .int .i64 60] W fun e w' => e = .returned (.int .i64 (pickI d 60)) ∧ W = w') := fun W => PK.out _ _ W d0 d1 (by decide) (by decide)
  have P6 : Hid (∀ W, Calls Tryz.prog 14 #[.int .i64 (IntKind.i64.wrap (c.tdiv 7)), .int .i64 90] W fun e w' => e = .returned (.int .i64 (pickI (c.tdiv 7) 90)) ∧ W = w') := fun W => by rw [IntWalk.i64_in _ (by omega)]; exact PK.out _ _ W t2.1 t2.2 (by decide) (by decide)
  have b4 := pickI_bd c 3000 (by decide)
  obtain ⟨x1, hx1⟩ : ∃ x, pickI a 3 = x := ⟨_, rfl⟩
  obtain ⟨x2, hx2⟩ : ∃ x, pickI (a.tdiv 3) 8 = x := ⟨_, rfl⟩
  obtain ⟨x3, hx3⟩ : ∃ x, pickI b 200000 = x := ⟨_, rfl⟩
  obtain ⟨x4, hx4⟩ : ∃ x, pickI c 3000 = x := ⟨_, rfl⟩
  obtain ⟨x5, hx5⟩ : ∃ x, pickI d 60 = x := ⟨_, rfl⟩
  obtain ⟨x6, hx6⟩ : ∃ x, pickI (c.tdiv 7) 90 = x := ⟨_, rfl⟩
  rw [hx1] at HE P1
  rw [hx2] at HE P2
  rw [hx3] at HE P3
  rw [hx4] at HE P4 b4
  rw [hx5] at HE P5
  rw [hx6] at HE P6
  obtain ⟨b41, b42⟩ := b4
  obtain ⟨N, hN⟩ : ∃ N, w.heap.size = N := ⟨_, rfl⟩
  obtain ⟨w1, hw1⟩ : ∃ w1, w.alloc (.cells #[.int .i64 a, .int .i64 b, .int .i64 c, .int .i64 d] 108) = w1 := ⟨_, rfl⟩
  obtain ⟨w2, hw2⟩ : ∃ w2, w1.alloc (.cells #[.int .i64 0, .int .i64 0, .int .i64 0, .int .i64 0, .int .i64 0, .int .i64 0] 62) = w2 := ⟨_, rfl⟩
  have hz1 : w1.heap.size = N + 1 := by rw [← hw1, ← hN]; simp
  have hz2 : w2.heap.size = N + 2 := by rw [← hw2]; simp [hz1]
  have k1 : Blk w2 N 108 [.int .i64 a, .int .i64 b, .int .i64 c, .int .i64 d] := by
    rw [← hw2]
    have k0 : Blk w1 N 108 [.int .i64 a, .int .i64 b, .int .i64 c, .int .i64 d] := by rw [← hw1, ← hN]; exact Blk.new w _ _
    exact k0.kept (((Below.refl _ w1).alloc (Nat.le_refl _) _).block N (by omega))
  have k2 : Blk w2 (N + 1) 62 [.int .i64 0, .int .i64 0, .int .i64 0, .int .i64 0, .int .i64 0, .int .i64 0] := by rw [← hw2, ← hz1]; exact Blk.new w1 _ _
  have hb : Below N w w2 := by
    rw [← hw2]
    refine Below.alloc ?_ (by omega) _
    rw [← hw1, ← hN]
    exact (Below.refl _ w).alloc (Nat.le_refl _) _
  have HB := Lib.hid hb
  have K1 := Lib.hid k1
  have K2 := Lib.hid k2
  have HN := Lib.hid hN
  have cc0 := k1.cell 0
  have cc1 := k1.cell 1
  have cc2 := k1.cell 2
  have cc3 := k1.cell 3
  simp only [List.getElem?_cons_zero, List.getElem?_cons_succ] at cc0 cc1 cc2 cc3
  clear hb k1 k2 hx1 hx2 hx3 hx4 hx5 hx6 t1 t2 PK
  go_enter Tryz.func51, Tryz.ntmps51
  go_wp2_with fail
  go_region_held3 (fun W => W.cell? ⟨N, 0, none⟩ = some (.int .i64 a) ∧ W.cell? ⟨N, 1, none⟩ = some (.int .i64 b) ∧ W.cell? ⟨N, 2, none⟩ = some (.int .i64 c) ∧ W.cell? ⟨N, 3, none⟩ = some (.int .i64 d)) (first | go_keep | assumption) (first
    | ((with_reducible refine (P1.out _).mono ?_); rintro e w' ⟨rfl, rfl⟩)
    | ((with_reducible refine (P2.out _).mono ?_); rintro e w' ⟨rfl, rfl⟩)
    | ((with_reducible refine (P3.out _).mono ?_); rintro e w' ⟨rfl, rfl⟩)
    | ((with_reducible refine (P4.out _).mono ?_); rintro e w' ⟨rfl, rfl⟩)
    | ((with_reducible refine (P5.out _).mono ?_); rintro e w' ⟨rfl, rfl⟩)
    | ((with_reducible refine (P6.out _).mono ?_); rintro e w' ⟨rfl, rfl⟩))
  all_goals
    refine gen_world (fun W9 => Blk W9 (N + 2) 62 [.int .i64 x1, .int .i64 x2, .int .i64 x3, .int .i64 (IntKind.i64.wrap (1 + x4)), .int .i64 x5, .int .i64 x6] ∧ Blk W9 (N + 1) 62 [.int .i64 0, .int .i64 0, .int .i64 0, .int .i64 0, .int .i64 0, .int .i64 0] ∧ Below N w W9) ⟨?_, ?_, ?_⟩ ?_
    · have := Blk.new w2 62 [.int .i64 x1, .int .i64 x2, .int .i64 x3, .int .i64 (IntKind.i64.wrap (1 + x4)), .int .i64 x5, .int .i64 x6]
      rw [hz2] at this
      exact this.drew
    · exact (K2.out.kept (((Below.refl _ w2).alloc (Nat.le_refl _) _).block _ (by omega))).drew
    · exact (HB.out.alloc (by omega) _).drew
    · rintro W9 ⟨hk, hr, hb⟩
      rw [IntWalk.i64_in (1 + x4) (by omega)] at hk
      have g0 := hk.cell 0
      have g1 := hk.cell 1
      have g2 := hk.cell 2
      have g3 := hk.cell 3
      have g4 := hk.cell 4
      have g5 := hk.cell 5
      have z5 := hk.frozen 5
      have f0 := hr.cell 0
      have f1 := hr.cell 1
      have f2 := hr.cell 2
      have f3 := hr.cell 3
      have f4 := hr.cell 4
      have f5 := hr.cell 5
      have y0 := hr.frozen 0
      have y1 := hr.frozen 1
      have y2 := hr.frozen 2
      have y3 := hr.frozen 3
      have y4 := hr.frozen 4
      have y5 := hr.frozen 5
      simp only [List.getElem?_cons_zero, List.getElem?_cons_succ] at g0 g1 g2 g3 g4 g5 f0 f1 f2 f3 f4 f5
      have HR := Lib.hid hr
      have HB9 := Lib.hid hb
      have n1 : N + 1 ≠ N + 2 := by omega
      have n2 : N + 2 ≠ N + 1 := by omega
      have hge : N ≤ N + 1 := by omega
      have hge2 : N ≤ N + 2 := by omega
      clear hk hr hb hw1 hw2 hz1 hz2 cc0 cc1 cc2 cc3 P1 P2 P3 P4 P5 P6 K1 K2 HB
      by_cases hi : x5 = 0
      · have HE2 : Hid (mkR ⟨a, b, c, d⟩ = ⟨x1, x2, x3, 1 + x4, 0, 0⟩) := HE.out.trans (by rw [if_pos hi, hi])
        subst hi
        clear HE
        go_wp2_with fail
        refine gen_world (fun W8 => Blk W8 (N + 1) 62 [.int .i64 x1, .int .i64 x2, .int .i64 x3, .int .i64 (1 + x4), .int .i64 0, .int .i64 0] ∧ Below N w W8) ⟨?_, ?_⟩ ?_
        · exact blk6 (HR.out.other ⟨N + 2, 5, none⟩ n2 _) _ _ _ _ _ _
        · exact below6 (HB9.out.setCell (p := ⟨N + 2, 5, none⟩) hge2 _) hge _ _ _ _ _ _
        · rintro W8 ⟨hk, hb⟩
          have g0 := hk.cell 0
          have g1 := hk.cell 1
          have g2 := hk.cell 2
          have g3 := hk.cell 3
          have g4 := hk.cell 4
          have g5 := hk.cell 5
          simp only [List.getElem?_cons_zero, List.getElem?_cons_succ] at g0 g1 g2 g3 g4 g5
          refine bodyPost_ret (v := .agg #[.int .i64 x1, .int .i64 x2, .int .i64 x3, .int .i64 (1 + x4), .int .i64 0, .int .i64 0]) (by simp [results, Tryz.results51, go_sem, g0, g1, g2, g3, g4, g5]) rfl ⟨by rw [HE2.out]; rfl, by rw [HN.out]; exact hb⟩
      · have HE2 : Hid (mkR ⟨a, b, c, d⟩ = ⟨x1, x2, x3, 1 + x4, x5, x6⟩) := HE.out.trans (by rw [if_neg hi])
        have hi2 : (x5 == 0) = false := by simp [hi]
        clear HE
        go_wp2_with fail
        refine gen_world (fun W8 => Blk W8 (N + 1) 62 [.int .i64 x1, .int .i64 x2, .int .i64 x3, .int .i64 (1 + x4), .int .i64 x5, .int .i64 x6] ∧ Below N w W8) ⟨?_, ?_⟩ ?_
        · exact blk6 HR.out _ _ _ _ _ _
        · exact below6 HB9.out hge _ _ _ _ _ _
        · rintro W8 ⟨hk, hb⟩
          have g0 := hk.cell 0
          have g1 := hk.cell 1
          have g2 := hk.cell 2
          have g3 := hk.cell 3
          have g4 := hk.cell 4
          have g5 := hk.cell 5
          simp only [List.getElem?_cons_zero, List.getElem?_cons_succ] at g0 g1 g2 g3 g4 g5
          refine bodyPost_ret (v := .agg #[.int .i64 x1, .int .i64 x2, .int .i64 x3, .int .i64 (1 + x4), .int .i64 x5, .int .i64 x6]) (by simp [results, Tryz.results51, go_sem, g0, g1, g2, g3, g4, g5]) rfl ⟨by rw [HE2.out]; rfl, by rw [HN.out]; exact hb⟩
end Go.Proofs.YtfpcdlpfmlaakaaGreatDoor
