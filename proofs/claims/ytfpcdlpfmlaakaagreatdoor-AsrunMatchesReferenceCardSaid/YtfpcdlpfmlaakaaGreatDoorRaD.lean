/-
  The helpers of the laws of package asrun: pick, the quads that determine records, size.
  The helpers of the laws of package asrun: Make.
  few, log and the reference's Same, of package asrun's laws.
  A log and its disk in memory, as one thing, and what the calls of package asrun do to it.
-/
import Derived.WalkKit
import Derived.LoopTactic
import Derived.WalkSpells
import Derived.WalkLawsBesides
import Derived.RegionTactic
import Derived.BigRegion
import Derived.IntWalk
import Derived.Outline
import Derived.Deep.QuietTactic
import Derived.BigQuiet
import Derived.Deep.RegionLaw
import Derived.Deep.RegionHeld3
import Derived.Deep.DrawnRows
import Derived.Deep.AppendLies
import Derived.Deep.DeepCutAuto
import Derived.Laws.EntriesVeiled
import Derived.Lib.Hide
import Derived.Laws.OwnMore
import Derived.Laws.StructEq
import Derived.WalkMore
import Derived.Test.YtfpcdlpfmlaakaaGreatDoorAsMN
import Derived.Test.YtfpcdlpfmlaakaaGreatDoorAsHq
import Derived.Test.YtfpcdlpfmlaakaaGreatDoorAsP
import Derived.Test.YtfpcdlpfmlaakaaGreatDoorAsI
import Derived.Test.YtfpcdlpfmlaakaaGreatDoorAsO
import Derived.Test.YtfpcdlpfmlaakaaGreatDoorAsQ
import Derived.Test.YtfpcdlpfmlaakaaGreatDoorDkB
set_option linter.unusedVariables false
set_option linter.unusedSimpArgs false
namespace Go.Proofs.YtfpcdlpfmlaakaaGreatDoor
open Go.RowKit Onair
attribute [local go_sem ↓] Go.wp_at_zero Go.wp_at_succ
theorem pick_any (c n : Int) (w : World) (h0 : -9223372036854775808 ≤ c) (h1 : c ≤ 9223372036854775807) (hn : 1 ≤ n) (hn2 : n ≤ 9223372036854775807) :
    Calls Tryz.prog 14 #[.int .i64 c, .int .i64 n] w fun e w' => e = .returned (.int .i64 (pickI c n)) ∧ w = w' := by
  by_cases hc : c < 0
  · have e : pickI c n = (-(c + 1)) % n := by unfold pickI; rw [if_pos hc]
    rw [e]
    clear e
    go_enter Tryz.func14, Tryz.ntmps14
    go_wp2
    go_ret
    exact ⟨ret_int (by rw [← Int.neg_tmod, Int.tmod_eq_emod_of_nonneg (by omega)]), rfl⟩
  · have e : pickI c n = c % n := by unfold pickI; rw [if_neg hc]
    rw [e]
    clear e
    have hc' : 0 ≤ c := by omega
    go_enter Tryz.func14, Tryz.ntmps14
    go_wp2
    go_ret
    exact ⟨rfl, rfl⟩
/-- Four integers that determine a record. -/
structure Qd where
  a : Int
  b : Int
  c : Int
  d : Int
def Qd.arr (q : Qd) : Array Value := #[.int .i64 q.a, .int .i64 q.b, .int .i64 q.c, .int .i64 q.d]
structure QdI (q : Qd) : Prop where
  a0 : -9223372036854775808 ≤ q.a
  a1 : q.a ≤ 9223372036854775807
  b0 : -9223372036854775808 ≤ q.b
  b1 : q.b ≤ 9223372036854775807
  c0 : -9223372036854775808 ≤ q.c
  c1 : q.c ≤ 9223372036854775807
  d0 : -9223372036854775808 ≤ q.d
  d1 : q.d ≤ 9223372036854775807
/-- A list of quads in memory. -/
def RdQ (W : World) (oa : Option Addr) (l : List Qd) : Prop := l = [] ∨ ∃ b o, oa = some ⟨b, o, none⟩ ∧ b < W.heap.size ∧ ∀ i q, l[i]? = some q →
  W.cell? ⟨b, o + i * 4, none⟩ = some (.int .i64 q.a) ∧ W.cell? ⟨b, o + (i * 4 + 1), none⟩ = some (.int .i64 q.b) ∧ W.cell? ⟨b, o + (i * 4 + 2), none⟩ = some (.int .i64 q.c) ∧ W.cell? ⟨b, o + (i * 4 + 3), none⟩ = some (.int .i64 q.d)
theorem RdQ.kept {W W' : World} {oa : Option Addr} {l : List Qd} (h : RdQ W oa l) (hs : W.heap.size ≤ W'.heap.size) (hc : ∀ b o, oa = some ⟨b, o, none⟩ → b < W.heap.size → ∀ j, W'.cell? ⟨b, j, none⟩ = W.cell? ⟨b, j, none⟩) : RdQ W' oa l := by
  rcases h with h | ⟨b, o, e, hlt, hq⟩
  · exact .inl h
  · refine .inr ⟨b, o, e, Nat.lt_of_lt_of_le hlt hs, fun i q hi => ?_⟩
    have k := hc b o e hlt
    rw [k, k, k, k]
    exact hq i q hi
theorem RdQ.below {W W' : World} {oa : Option Addr} {l : List Qd} (h : RdQ W oa l) (hb : Below W.heap.size W W') : RdQ W' oa l :=
  h.kept hb.size (fun b _ _ hlt j => hb.cell (p := ⟨b, j, none⟩) hlt)
theorem RdQ.take {W : World} {oa : Option Addr} {l : List Qd} (h : RdQ W oa l) (k : Nat) : RdQ W oa (l.take k) := by
  rcases h with h | ⟨b, o, e, hlt, hq⟩
  · exact .inl (by rw [h]; simp)
  · refine .inr ⟨b, o, e, hlt, fun i q hi => hq i q ?_⟩
    rw [List.getElem?_take] at hi
    split at hi
    · exact hi
    · cases hi
/-- The record that four integers determine. -/
def mkR (q : Qd) : Rec := ⟨pickI q.a 3, pickI (q.a.tdiv 3) 8, pickI q.b 200000, 1 + pickI q.c 3000, pickI q.d 60, if pickI q.d 60 = 0 then 0 else pickI (q.c.tdiv 7) 90⟩
theorem mkR_valid (q : Qd) : validR (mkR q) = true := by
  have h1 := pickI_bd q.a 3 (by decide)
  have h2 := pickI_bd (q.a.tdiv 3) 8 (by decide)
  have h3 := pickI_bd q.b 200000 (by decide)
  have h4 := pickI_bd q.c 3000 (by decide)
  have h5 := pickI_bd q.d 60 (by decide)
  have h6 := pickI_bd (q.c.tdiv 7) 90 (by decide)
  unfold validR mkR
  refine decide_eq_true ?_
  dsimp only
  split <;> omega
def fewL (l : List Qd) : List Rec := (l.take 6).map mkR
def manyL (l : List Qd) : List Rec := (l.take 14).map mkR
theorem fewL_valid (l : List Qd) : ∀ r ∈ fewL l, validR r = true := by
  intro r hr
  obtain ⟨q, _, rfl⟩ := List.mem_map.1 hr
  exact mkR_valid q
theorem fewL_len (l : List Qd) : (fewL l).length ≤ 6 := by unfold fewL; rw [List.length_map, List.length_take]; omega
def sizeN (n : Int) : Nat := (1 + pickI n 1500).toNat
theorem sizeN_eq (n : Int) : ((sizeN n : Nat) : Int) = 1 + pickI n 1500 ∧ 1 ≤ sizeN n ∧ sizeN n ≤ 1500 := by
  have := pickI_bd n 1500 (by decide)
  unfold sizeN
  omega
theorem lawSize_any (n : Int) (w : World) (h0 : -9223372036854775808 ≤ n) (h1 : n ≤ 9223372036854775807) :
    Calls Tryz.prog 7 #[.int .i64 n] w fun e w' => e = .returned (.int .i64 ((sizeN n : Nat) : Int)) ∧ w = w' := by
  have HE := Lib.hid (sizeN_eq n).1
  have hb := pickI_bd n 1500 (by decide)
  have HP := Lib.hid (pick_any n 1500 w h0 h1 (by decide) (by decide))
  obtain ⟨p, hp⟩ : ∃ p, pickI n 1500 = p := ⟨_, rfl⟩
  rw [hp] at HE hb HP
  obtain ⟨hb1, hb2⟩ := hb
  clear hp
  go_enter Tryz.func7, Tryz.ntmps7
  go_wp2_with fail
  refine HP.out.mono ?_
  rintro e w' ⟨rfl, rfl⟩
  go_wp2_with fail
  go_ret
  exact ⟨by rw [HE.out]; rfl, rfl⟩
end Go.Proofs.YtfpcdlpfmlaakaaGreatDoor
namespace Go.Proofs.YtfpcdlpfmlaakaaGreatDoor
open Go.RowKit Onair
attribute [local go_sem ↓] Go.wp_at_zero Go.wp_at_succ
theorem tdiv_bd (a k : Int) (hk : 0 < k) (h0 : -9223372036854775808 ≤ a) (h1 : a ≤ 9223372036854775807) : -9223372036854775808 ≤ a.tdiv k ∧ a.tdiv k ≤ 9223372036854775807 := by
  by_cases h : 0 ≤ a
  · rw [Int.tdiv_eq_ediv_of_nonneg h]
    have h2 : 0 ≤ a / k := Int.ediv_nonneg h (by omega)
    have h3 : a / k ≤ a := Int.ediv_le_self k h
    omega
  · have e : a.tdiv k = -((-a).tdiv k) := by rw [Int.neg_tdiv]; omega
    rw [e, Int.tdiv_eq_ediv_of_nonneg (by omega)]
    have h2 : 0 ≤ -a / k := Int.ediv_nonneg (by omega) (by omega)
    have h3 : -a / k ≤ -a := Int.ediv_le_self k (by omega)
    omega
set_option maxHeartbeats 4000000 in
set_option maxRecDepth 100000 in
theorem make_any (q : Qd) (w : World) (hq : QdI q) :
    Calls Tryz.prog 51 #[.agg q.arr] w fun e w' => e = .returned (.agg (recA (mkR q))) ∧ Below w.heap.size w w' := by
  obtain ⟨a, b, c, d⟩ := q
  obtain ⟨a0, a1, b0, b1, c0, c1, d0, d1⟩ := hq
  dsimp only at a0 a1 b0 b1 c0 c1 d0 d1
  have HE : Hid (mkR ⟨a, b, c, d⟩ = ⟨pickI a 3, pickI (a.tdiv 3) 8, pickI b 200000, 1 + pickI c 3000, pickI d 60, if pickI d 60 = 0 then 0 else pickI (c.tdiv 7) 90⟩) := rfl
  dsimp only [Qd.arr]
  have PK := Lib.hid pick_any
  have t1 : -9223372036854775808 ≤ a.tdiv 3 ∧ a.tdiv 3 ≤ 9223372036854775807 := tdiv_bd a 3 (by decide) a0 a1
  have t2 : -9223372036854775808 ≤ c.tdiv 7 ∧ c.tdiv 7 ≤ 9223372036854775807 := tdiv_bd c 7 (by decide) c0 c1
  have P1 : Hid (∀ W, Calls Tryz.prog 14 #[.int .i64 a, .int .i64 3] W fun e w' => e = .returned (.int .i64 (pickI a 3)) ∧ W = w') := fun W => PK.out _ _ W a0 a1 (by decide) (by decide)
  have P2 : Hid (∀ W, Calls Tryz.prog 14 #[.int .i64 (IntKind.i64.wrap (a.tdiv 3)), .int .i64 8] W fun e w' => e = .returned (.int .i64 (pickI (a.tdiv 3) 8)) ∧ W = w') := fun W => by rw [IntWalk.i64_in _ (by omega)]; exact PK.out _ _ W t1.1 t1.2 (by decide) (by decide)
  have P3 : Hid (∀ W, Calls Tryz.prog 14 #[.int .i64 b, .int .i64 200000] W fun e w' => e = .returned (.int .i64 (pickI b 200000)) ∧ W = w') := fun W => PK.out _ _ W b0 b1 (by decide) (by decide)
  have P4 : Hid (∀ W, Calls Tryz.prog 14 #[.int .i64 c, .int .i64 3000] W fun e w' => e = .returned (.int .i64 (pickI c 3000)) ∧ W = w') := fun W => PK.out _ _ W c0 c1 (by decide) (by decide)
  have P5 : Hid (∀ W, Calls Tryz.prog 14 #[.int .i64 d, .int .i64 60] W fun e w' => e = .returned (.int .i64 (pickI d 60)) ∧ W = w') := fun W => PK.out _ _ W d0 d1 (by decide) (by decide)
  have P6 : Hid (∀ W, Calls Tryz.prog 14 #[.int .i64 (IntKind.i64.wrap (c.tdiv 7)), .int .i64 90] W fun e w' => e = .returned (.int .i64 (pickI (c.tdiv 7) 90)) ∧ W = w') := fun W => by rw [IntWalk.i64_in _ (by omega)]; exact PK.out _ _ W t2.1 t2.2 (by decide) (by decide)
  have b4 := pickI_bd c 3000 (by decide)
  obtain ⟨x1, hx1⟩ : ∃ x, pickI a 3 = x := ⟨_, rfl⟩
  obtain ⟨x2, hx2⟩ : ∃ x, pickI (a.tdiv 3) 8 = x := ⟨_, rfl⟩
  obtain ⟨x3, hx3⟩ : ∃ x, pickI b 200000 = x := ⟨_, rfl⟩
  obtain ⟨x4, hx4⟩ : ∃ x, pickI c 3000 = x := ⟨_, rfl⟩
  obtain ⟨x5, hx5⟩ : ∃ x, pickI d 60 = x := ⟨_, rfl⟩
  obtain ⟨x6, hx6⟩ : ∃ x, pickI (c.tdiv 7) 90 = x := ⟨_, rfl⟩
  rw [hx1] at HE P1
  rw [hx2] at HE P2
  rw [hx3] at HE P3
  rw [hx4] at HE P4 b4
  rw [hx5] at HE P5
  rw [hx6] at HE P6
  obtain ⟨b41, b42⟩ := b4
  obtain ⟨N, hN⟩ : ∃ N, w.heap.size = N := ⟨_, rfl⟩
  obtain ⟨w1, hw1⟩ : ∃ w1, w.alloc (.cells #[.int .i64 a, .int .i64 b, .int .i64 c, .int .i64 d] 108) = w1 := ⟨_, rfl⟩
  obtain ⟨w2, hw2⟩ : ∃ w2, w1.alloc (.cells #[.int .i64 0, .int .i64 0, .int .i64 0, .int .i64 0, .int .i64 0, .int .i64 0] 62) = w2 := ⟨_, rfl⟩
  have hz1 : w1.heap.size = N + 1 := by rw [← hw1, ← hN]; simp
  have hz2 : w2.heap.size = N + 2 := by rw [← hw2]; simp [hz1]
  have k1 : Blk w2 N 108 [.int .i64 a, .int .i64 b, .int .i64 c, .int .i64 d] := by
    rw [← hw2]
    have k0 : Blk w1 N 108 [.int .i64 a, .int .i64 b, .int .i64 c, .int .i64 d] := by rw [← hw1, ← hN]; exact Blk.new w _ _
    exact k0.kept (((Below.refl _ w1).alloc (Nat.le_refl _) _).block N (by omega))
  have k2 : Blk w2 (N + 1) 62 [.int .i64 0, .int .i64 0, .int .i64 0, .int .i64 0, .int .i64 0, .int .i64 0] := by rw [← hw2, ← hz1]; exact Blk.new w1 _ _
  have hb : Below N w w2 := by
    rw [← hw2]
    refine Below.alloc ?_ (by omega) _
    rw [← hw1, ← hN]
    exact (Below.refl _ w).alloc (Nat.le_refl _) _
  have HB := Lib.hid hb
  have K1 := Lib.hid k1
  have K2 := Lib.hid k2
  have HN := Lib.hid hN
  have cc0 := k1.cell 0
  have cc1 := k1.cell 1
  have cc2 := k1.cell 2
  have cc3 := k1.cell 3
  simp only [List.getElem?_cons_zero, List.getElem?_cons_succ] at cc0 cc1 cc2 cc3
  clear hb k1 k2 hx1 hx2 hx3 hx4 hx5 hx6 t1 t2 PK
  go_enter Tryz.func51, Tryz.ntmps51
  go_wp2_with fail
  go_region_held3 (fun W => W.cell? ⟨N, 0, none⟩ = some (.int .i64 a) ∧ W.cell? ⟨N, 1, none⟩ = some (.int .i64 b) ∧ W.cell? ⟨N, 2, none⟩ = some (.int .i64 c) ∧ W.cell? ⟨N, 3, none⟩ = some (.int .i64 d)) (first | go_keep | assumption) (first
    | ((with_reducible refine (P1.out _).mono ?_); rintro e w' ⟨rfl, rfl⟩)
    | ((with_reducible refine (P2.out _).mono ?_); rintro e w' ⟨rfl, rfl⟩)
    | ((with_reducible refine (P3.out _).mono ?_); rintro e w' ⟨rfl, rfl⟩)
    | ((with_reducible refine (P4.out _).mono ?_); rintro e w' ⟨rfl, rfl⟩)
    | ((with_reducible refine (P5.out _).mono ?_); rintro e w' ⟨rfl, rfl⟩)
    | ((with_reducible refine (P6.out _).mono ?_); rintro e w' ⟨rfl, rfl⟩))
  all_goals
    refine gen_world (fun W9 => Blk W9 (N + 2) 62 [.int .i64 x1, .int .i64 x2, .int .i64 x3, .int .i64 (IntKind.i64.wrap (1 + x4)), .int .i64 x5, .int .i64 x6] ∧ Blk W9 (N + 1) 62 [.int .i64 0, .int .i64 0, .int .i64 0, .int .i64 0, .int .i64 0, .int .i64 0] ∧ Below N w W9) ⟨?_, ?_, ?_⟩ ?_
    · have := Blk.new w2 62 [.int .i64 x1, .int .i64 x2, .int .i64 x3, .int .i64 (IntKind.i64.wrap (1 + x4)), .int .i64 x5, .int .i64 x6]
      rw [hz2] at this
      exact this.drew
    · exact (K2.out.kept (((Below.refl _ w2).alloc (Nat.le_refl _) _).block _ (by omega))).drew
    · exact (HB.out.alloc (by omega) _).drew
    · rintro W9 ⟨hk, hr, hb⟩
      rw [IntWalk.i64_in (1 + x4) (by omega)] at hk
      have g0 := hk.cell 0
      have g1 := hk.cell 1
      have g2 := hk.cell 2
      have g3 := hk.cell 3
      have g4 := hk.cell 4
      have g5 := hk.cell 5
      have z5 := hk.frozen 5
      have f0 := hr.cell 0
      have f1 := hr.cell 1
      have f2 := hr.cell 2
      have f3 := hr.cell 3
      have f4 := hr.cell 4
      have f5 := hr.cell 5
      have y0 := hr.frozen 0
      have y1 := hr.frozen 1
      have y2 := hr.frozen 2
      have y3 := hr.frozen 3
      have y4 := hr.frozen 4
      have y5 := hr.frozen 5
      simp only [List.getElem?_cons_zero, List.getElem?_cons_succ] at g0 g1 g2 g3 g4 g5 f0 f1 f2 f3 f4 f5
      have HR := Lib.hid hr
      have HB9 := Lib.hid hb
      have n1 : N + 1 ≠ N + 2 := by omega
      have n2 : N + 2 ≠ N + 1 := by omega
      have hge : N ≤ N + 1 := by omega
      have hge2 : N ≤ N + 2 := by omega
      clear hk hr hb hw1 hw2 hz1 hz2 cc0 cc1 cc2 cc3 P1 P2 P3 P4 P5 P6 K1 K2 HB
      by_cases hi : x5 = 0
      · have HE2 : Hid (mkR ⟨a, b, c, d⟩ = ⟨x1, x2, x3, 1 + x4, 0, 0⟩) := HE.out.trans (by rw [if_pos hi, hi])
        subst hi
        clear HE
        go_wp2_with fail
        refine gen_world (fun W8 => Blk W8 (N + 1) 62 [.int .i64 x1, .int .i64 x2, .int .i64 x3, .int .i64 (1 + x4), .int .i64 0, .int .i64 0] ∧ Below N w W8) ⟨?_, ?_⟩ ?_
        · exact blk6 (HR.out.other ⟨N + 2, 5, none⟩ n2 _) _ _ _ _ _ _
        · exact below6 (HB9.out.setCell (p := ⟨N + 2, 5, none⟩) hge2 _) hge _ _ _ _ _ _
        · rintro W8 ⟨hk, hb⟩
          have g0 := hk.cell 0
          have g1 := hk.cell 1
          have g2 := hk.cell 2
          have g3 := hk.cell 3
          have g4 := hk.cell 4
          have g5 := hk.cell 5
          simp only [List.getElem?_cons_zero, List.getElem?_cons_succ] at g0 g1 g2 g3 g4 g5
          refine bodyPost_ret (v := .agg #[.int .i64 x1, .int .i64 x2, .int .i64 x3, .int .i64 (1 + x4), .int .i64 0, .int .i64 0]) (by simp [results, Tryz.results51, go_sem, g0, g1, g2, g3, g4, g5]) rfl ⟨by rw [HE2.out]; rfl, by rw [HN.out]; exact hb⟩
      · have HE2 : Hid (mkR ⟨a, b, c, d⟩ = ⟨x1, x2, x3, 1 + x4, x5, x6⟩) := HE.out.trans (by rw [if_neg hi])
        have hi2 : (x5 == 0) = false := by simp [hi]
        clear HE
        go_wp2_with fail
        refine gen_world (fun W8 => Blk W8 (N + 1) 62 [.int .i64 x1, .int .i64 x2, .int .i64 x3, .int .i64 (1 + x4), .int .i64 x5, .int .i64 x6] ∧ Below N w W8) ⟨?_, ?_⟩ ?_
        · exact blk6 HR.out _ _ _ _ _ _
        · exact below6 HB9.out hge _ _ _ _ _ _
        · rintro W8 ⟨hk, hb⟩
          have g0 := hk.cell 0
          have g1 := hk.cell 1
          have g2 := hk.cell 2
          have g3 := hk.cell 3
          have g4 := hk.cell 4
          have g5 := hk.cell 5
          simp only [List.getElem?_cons_zero, List.getElem?_cons_succ] at g0 g1 g2 g3 g4 g5
          refine bodyPost_ret (v := .agg #[.int .i64 x1, .int .i64 x2, .int .i64 x3, .int .i64 (1 + x4), .int .i64 x5, .int .i64 x6]) (by simp [results, Tryz.results51, go_sem, g0, g1, g2, g3, g4, g5]) rfl ⟨by rw [HE2.out]; rfl, by rw [HN.out]; exact hb⟩
end Go.Proofs.YtfpcdlpfmlaakaaGreatDoor
namespace Go.Proofs.YtfpcdlpfmlaakaaGreatDoor
open Go.RowKit Onair
attribute [local go_sem ↓] Go.wp_at_zero Go.wp_at_succ
theorem take_snoc {α : Type} (l : List α) (k : Nat) (x : α) (h : l[k]? = some x) : l.take (k + 1) = l.take k ++ [x] := by
  rw [List.take_add_one, h]
  rfl
/-- few returns the records of the first six quads. -/
theorem few_any (oa : Option Addr) (c : Nat) (l : List Qd) (w : World) (hlm : l.length ≤ maxLen) (hI : ∀ q ∈ l, QdI q) (hr : RdQ w oa l) :
    Calls Tryz.prog 11 #[.slice oa l.length c] w (CloP w.heap.size w (fewL l)) := by
  unfold maxLen at hlm
  have HR := Lib.hid hr
  have HI := Lib.hid hI
  obtain ⟨n, hn⟩ : ∃ n, l.length = n := ⟨_, rfl⟩
  rw [hn] at hlm ⊢
  have HN := Lib.hid hn
  clear hr hI hn
  go_enter Tryz.func11, Tryz.ntmps11
  go_wp2_with fail
  go_loopw [3, 4] (fun v i wr => ∃ (k : Nat) (ob : Option Addr) (cb : Nat), k ≤ n ∧ k ≤ 6 ∧ i = .int .i64 k ∧ v = .slice ob k cb ∧ Hid (wr.ownsRow w.heap.size 62 6 (.slice ob k cb) ((l.take k).map mkR).length (rcells ((l.take k).map mkR))) ∧ Hid (Below w.heap.size w wr)) (fun _ i _ => n - (intOf i).toNat)
  case atStart => exact ⟨0, none, 0, Nat.zero_le _, Nat.zero_le _, rfl, rfl, World.ownsRow_nil _ _ _ _, Below.refl _ _⟩
  case round =>
    obtain ⟨k, ob, cb, hkl, hk, rfl, rfl, HO, HB⟩ := hrel
    by_cases h : k < n ∧ k < 6
    · obtain ⟨h1, h2⟩ := h
      have q1 : (k : Int) < (n : Int) := by omega
      have q2 : (k : Int) < 6 := by omega
      obtain ⟨q, hq⟩ : ∃ q, l[k]? = some q := ⟨l[k]'(by rw [HN.out]; exact h1), List.getElem?_eq_getElem _⟩
      obtain ⟨b, off, rfl, hb, hc⟩ := (HR.out).resolve_left (by intro e; rw [e] at hq; simp at hq)
      obtain ⟨c0, c1, c2, c3⟩ := hc k q hq
      have u := fun j => HB.out.cell (p := ⟨b, j, none⟩) hb
      rw [← u] at c0 c1 c2 c3
      rw [← Nat.add_assoc] at c1 c2 c3
      have hm := make_any q wr (HI.out q (List.mem_of_getElem? hq))
      obtain ⟨⟨a0, a1, a2, a3, a4, a5⟩, hR⟩ : ∃ r, mkR q = r := ⟨_, rfl⟩
      rw [hR] at hm
      dsimp only [recA, Qd.arr] at hm
      have htk : (l.take (k + 1)).map mkR = (l.take k).map mkR ++ [⟨a0, a1, a2, a3, a4, a5⟩] := by
        rw [take_snoc l k q hq, List.map_append, ← hR]
        rfl
      have hlk : ((l.take k).map mkR).length = k := by rw [List.length_map, List.length_take, HN.out]; omega
      obtain ⟨L, hL⟩ : ∃ L, (l.take k).map mkR = L := ⟨_, rfl⟩
      rw [hL] at htk HO hlk
      rw [hlk] at HO
      have HTK := Lib.hid htk
      have HLK := Lib.hid hlk
      have HM := Lib.hid hm
      have hWr := HB.out.size
      obtain ⟨i0, hi, hz0, hz1, hz2⟩ := info_parts Tryz.infoRec
      clear u hc hq hR hm htk hlk hL
      go_wp2_with fail
      refine HM.out.mono ?_
      rintro e W9 ⟨rfl, hbm⟩
      have own9 : W9.ownsRow w.heap.size 62 6 (.slice ob k cb) k (rcells L) := ownsRow_keptF HO.out (fun k e => hbm.block k (own_lt HO.out k e))
      have HB9 : Hid (Below w.heap.size w W9) := HB.out.trans (hbm.mono hWr)
      have hW9 := HB9.out.size
      clear HM HO hbm HB c0 c1 c2 c3
      go_wp2_with (at_builtin; refine wpList_append_own _ rfl _ _ 38 rfl w.heap.size 62 i0 (.agg #[.int .i64 0, .int .i64 0, .int .i64 0, .int .i64 0, .int .i64 0, .int .i64 0]) 6 48 Tryz.underlying38 hi hz0 hz1 hz2 rfl (by decide) _ _ _ rfl (own9.alloc _) ⟨W9.heap.size, 0, none⟩ 1 1 [.int .i64 a0, .int .i64 a1, .int .i64 a2, .int .i64 a3, .int .i64 a4, .int .i64 a5] rfl ?qa1 ?qa2 ?qa3 ?qa4 ?qa5 ?qa6 ?_)
      all_goals first | (unfold maxLen; omega) | omega | (refine ⟨rfl, rfl, rfl, rfl, ?_⟩; rfl) | (refine ⟨rfl, rfl, rfl, rfl, rfl, ?_⟩; rfl) | rfl | (intro j u hj; rw [add_at, (Blk.new W9 62 [.int .i64 a0, .int .i64 a1, .int .i64 a2, .int .i64 a3, .int .i64 a4, .int .i64 a5]).cell]; exact hj) | (rw [World.size_alloc]; omega) | (intro u hu; simp only [List.mem_cons, List.not_mem_nil, or_false] at hu; rcases hu with rfl | rfl | rfl | rfl | rfl | rfl <;> rfl) | skip
      rintro v' w3 hown3 hgrow3 hnil3
      have HB3 : Hid (Below w.heap.size w w3) := (HB9.out.alloc hW9 _).grown hgrow3 (by simp; omega) (fun k e => by have := own_ge own9 k e; omega)
      obtain ⟨oa3, cap3, rfl⟩ := own_slice hown3
      have HO3 := Lib.hid hown3
      clear hown3 hgrow3 hnil3 own9
      go_wp2_with fail
      go_roundw
      case rel => exact ⟨k + 1, oa3, cap3, by omega, by omega, by go_num, rfl, by rw [HTK.out, List.length_append, HLK.out, ← rcells_snoc]; exact HO3.out, HB3⟩
      case measure => simp [intOf]; omega
    · rcases (show (¬ (k : Int) < (n : Int)) ∨ ((k : Int) < (n : Int) ∧ ¬ (k : Int) < 6) from by omega) with h1 | ⟨h1, h2⟩
      all_goals
        have e : (l.take k).map mkR = fewL l := by
          unfold fewL
          congr 1
          first
            | rw [List.take_of_length_le (by rw [HN.out]; omega), List.take_of_length_le (by rw [HN.out]; omega)]
            | rw [show k = 6 by omega]
        have hl : (fewL l).length = k := by rw [← e, List.length_map, List.length_take, HN.out]; omega
        have HO2 := HO
        rw [e] at HO2
        have HL := Lib.hid hl
        clear h e hl HO
        go_wp2_with fail
        go_ret
        exact ⟨ob, cb, by rw [HL.out]; rfl, by rw [HL.out]; rw [HL.out] at HO2; exact HO2.out, HB.out⟩
end Go.Proofs.YtfpcdlpfmlaakaaGreatDoor
namespace Go.Proofs.YtfpcdlpfmlaakaaGreatDoor
open Go.RowKit Onair
attribute [local go_sem] Oper.semAt_some
theorem open_nil (W : World) : Calls Tryz.prog 32 #[.pointer none] W fun e w' => e = .returned (.tuple #[.pointer none, .int .i64 1]) ∧ Below W.heap.size W w' := by
  obtain ⟨N, hN⟩ : ∃ N, W.heap.size = N := ⟨_, rfl⟩
  have hbx : Blk (W.alloc (.cells #[.pointer none] 24)) N 24 [.pointer none] := by rw [← hN]; exact Blk.new W _ _
  obtain ⟨w1, hw1⟩ : ∃ w1, W.alloc (.cells #[.pointer none] 24) = w1 := ⟨_, rfl⟩
  have hb : Below W.heap.size W w1 := by rw [← hw1]; exact (Below.refl _ W).alloc (Nat.le_refl _) _
  rw [hw1] at hbx
  have c0 := hbx.cell 0
  simp only [List.getElem?_cons_zero] at c0
  have HN := Lib.hid hN
  have HW1 := Lib.hid hw1
  have HB := Lib.hid hb
  clear hb hbx hw1 hN
  refine callsIn_wide.1 (callsIn_of_wp_marks (n := 5) Tryz.func32 rfl trivial ?_ rfl)
  refine wpIn_wide.2 ?_
  simp only [Tryz.ntmps32, List.size_toArray, List.length_cons, List.length_nil, Nat.reduceAdd, Nat.reduceSub, Array.replicate_succ, Array.replicate_zero, List.push_toArray, List.append_toArray, List.nil_append, List.cons_append]
  go_upto_region 1 with (fail)
  go_step3
  go_upto_region 1 with (fail)
  rw [HW1.out, HN.out]
  go_wp2_with fail
  exact postM_ret (v := .tuple #[.pointer none, .int .i64 1]) (by simp [results, Tryz.results32, go_sem]) ⟨rfl, HB.out⟩
theorem append_nil (W : World) (oa : Option Addr) (n c : Nat) : Calls Tryz.prog 10 #[.pointer none, .slice oa n c] W fun e w' => e = .returned (.int .i64 1) ∧ Below W.heap.size W w' := by
  have hb : Below W.heap.size W (W.alloc (.cells #[.pointer none] 33)) := (Below.refl _ W).alloc (Nat.le_refl _) _
  have HB := Lib.hid hb
  clear hb
  have HA : Hid (∀ W, Calls Tryz.prog 36 #[.pointer none] W fun e w' => e = .returned (.bool true) ∧ W = w') := fun W => absent_nil W
  go_enter Tryz.func10, Tryz.ntmps10
  go_wp2_with fail
  refine (HA.out _).mono ?_
  rintro e w' ⟨rfl, rfl⟩
  go_wp2_with fail
  go_ret
  exact ⟨rfl, HB.out⟩
theorem LgAt.base {W : World} {B B' bl b : Nat} {vr ve : Value} {R : List Rec} {br : Bool} (h : LgAt W B bl b vr ve R br) (hB : B' ≤ B) : LgAt W B' bl b vr ve R br :=
  ⟨h.blk, own_base h.recs hB, own_base h.ents hB, h.ok, Nat.le_trans hB h.hb, h.nr, h.ne⟩
theorem DkAt.base {W : World} {B B' b bd bv : Nat} {vp : Value} {D : DS} (h : DkAt W B b bd bv vp D) (hB : B' ≤ B) : DkAt W B' b bd bv vp D :=
  ⟨h.blk, h.dur, h.vis, own_base h.own hB, h.len, h.pos, h.max, Nat.le_trans hB h.hb, Nat.le_trans hB h.hbd, Nat.le_trans hB h.hbv, h.ne1, h.ne2, h.ne3, h.np⟩
/-- A disk in memory, whose blocks are F. -/
def DX (W : World) (N b : Nat) (F : Nat → Prop) (D : DS) : Prop := N ≤ W.heap.size ∧ ∃ bd bv vp, DkAt W N b bd bv vp D ∧ ∀ k, F k ↔ Foot b bd bv vp k
theorem DX.fr {W W' : World} {N b : Nat} {F : Nat → Prop} {D : DS} {S : Nat → Prop} (h : DX W N b F D) (hf : Fr S W W') (hs : ∀ k, F k → ¬ S k) : DX W' N b F D := by
  obtain ⟨h0, bd, bv, vp, h1, h2⟩ := h
  exact ⟨Nat.le_trans h0 hf.size, bd, bv, vp, h1.fr hf (fun k hk => hs k ((h2 k).2 hk)), h2⟩
theorem DX.below {W W' : World} {N b : Nat} {F : Nat → Prop} {D : DS} (h : DX W N b F D) (hb : Below W.heap.size W W') : DX W' N b F D := h.fr (Fr.under (fun _ => False) hb) (fun _ _ h => h)
theorem DX.lt {W : World} {N b : Nat} {F : Nat → Prop} {D : DS} (h : DX W N b F D) (k : Nat) (hk : F k) : k < W.heap.size := by
  obtain ⟨h0, bd, bv, vp, h1, h2⟩ := h
  exact h1.lt k ((h2 k).1 hk)
theorem DX.ge {W : World} {N b : Nat} {F : Nat → Prop} {D : DS} (h : DX W N b F D) (k : Nat) (hk : F k) : N ≤ k := by
  obtain ⟨h0, bd, bv, vp, h1, h2⟩ := h
  exact h1.ge k ((h2 k).1 hk)
/-- A log and its disk in memory; F: the blocks that the disk uses, G: the blocks that the log uses. -/
structure LX (W : World) (N b bl : Nat) (F G : Nat → Prop) (s : LS) : Prop where
  ex : ∃ bd bv vp vr ve, DkAt W N b bd bv vp s.D ∧ LgAt W N bl b vr ve s.R s.br ∧ (∀ k, F k ↔ Foot b bd bv vp k) ∧ ∀ k, G k ↔ LFoot bl vr ve k
  sep : ∀ k, G k → ¬ F k
  le : N ≤ W.heap.size
theorem LX.fr {W W' : World} {N b bl : Nat} {F G : Nat → Prop} {s : LS} {S : Nat → Prop} (h : LX W N b bl F G s) (hf : Fr S W W') (hs : ∀ k, F k → ¬ S k) (hs2 : ∀ k, G k → ¬ S k) : LX W' N b bl F G s := by
  obtain ⟨bd, bv, vp, vr, ve, h1, h2, h3, h4⟩ := h.ex
  exact ⟨⟨bd, bv, vp, vr, ve, h1.fr hf (fun k hk => hs k ((h3 k).2 hk)), h2.fr hf (fun k hk => hs2 k ((h4 k).2 hk)), h3, h4⟩, h.sep, Nat.le_trans h.le hf.size⟩
theorem LX.below {W W' : World} {N b bl : Nat} {F G : Nat → Prop} {s : LS} (h : LX W N b bl F G s) (hb : Below W.heap.size W W') : LX W' N b bl F G s := h.fr (Fr.under (fun _ => False) hb) (fun _ _ h => h) (fun _ _ h => h)
theorem LX.ltF {W : World} {N b bl : Nat} {F G : Nat → Prop} {s : LS} (h : LX W N b bl F G s) (k : Nat) (hk : F k) : k < W.heap.size := by
  obtain ⟨bd, bv, vp, vr, ve, h1, h2, h3, h4⟩ := h.ex
  exact h1.lt k ((h3 k).1 hk)
theorem LX.ltG {W : World} {N b bl : Nat} {F G : Nat → Prop} {s : LS} (h : LX W N b bl F G s) (k : Nat) (hk : G k) : k < W.heap.size := by
  obtain ⟨bd, bv, vp, vr, ve, h1, h2, h3, h4⟩ := h.ex
  exact h2.lt k ((h4 k).1 hk)
theorem LX.geF {W : World} {N b bl : Nat} {F G : Nat → Prop} {s : LS} (h : LX W N b bl F G s) (k : Nat) (hk : F k) : N ≤ k := by
  obtain ⟨bd, bv, vp, vr, ve, h1, h2, h3, h4⟩ := h.ex
  exact h1.ge k ((h3 k).1 hk)
theorem LX.geG {W : World} {N b bl : Nat} {F G : Nat → Prop} {s : LS} (h : LX W N b bl F G s) (k : Nat) (hk : G k) : N ≤ k := by
  obtain ⟨bd, bv, vp, vr, ve, h1, h2, h3, h4⟩ := h.ex
  exact h2.ge k ((h4 k).1 hk)
theorem LX.disk {W : World} {N b bl : Nat} {F G : Nat → Prop} {s : LS} (h : LX W N b bl F G s) : DX W N b F s.D := by
  obtain ⟨bd, bv, vp, vr, ve, h1, h2, h3, h4⟩ := h.ex
  exact ⟨h.le, bd, bv, vp, h1, h3⟩
theorem new_x (n : Nat) (W : World) (N : Nat) (hN : N ≤ W.heap.size) (h1 : 1 ≤ n) (h2 : n ≤ 4194304) :
    Calls Tryz.prog 6 #[.int .i64 n] W fun e w' => ∃ b F, e = .returned (.tuple #[.pointer (some ⟨b, 0, none⟩), .int .i64 0]) ∧ DX w' N b F (newD n) ∧ Below W.heap.size W w' ∧ ∀ k, F k → W.heap.size ≤ k := by
  refine (new_ok n W N hN h1 h2).mono ?_
  rintro e w' ⟨b, bd, bv, rfl, h1, h2, h3, h4, h5⟩
  refine ⟨b, Foot b bd bv (.slice none 0 0), rfl, ⟨Nat.le_trans hN h2.size, bd, bv, _, h1, fun k => Iff.rfl⟩, h2, ?_⟩
  rintro k (rfl | rfl | rfl | h)
  · exact h3
  · exact h4
  · exact h5
  · simp [Value.ownBlock] at h
/-- Open, of a disk that holds a clean log. -/
theorem open_x (W : World) (N b : Nat) (F : Nat → Prop) (D : DS) (ht : TabAt W) (hpl : D.pend.length ≤ 900000) (hcut : D.cut ≤ 9223372036854775807) (h : DX W N b F D) (he : openE D = 0) :
    Calls Tryz.prog 32 #[.pointer (some ⟨b, 0, none⟩)] W fun e w' => ∃ bl F' G, e = .returned (.tuple #[.pointer (some ⟨bl, 0, none⟩), .int .i64 0]) ∧ LX w' N b bl F' G ⟨openD D, openR D, false⟩ ∧ Fr F W w' ∧ (∀ k, G k → W.heap.size ≤ k) ∧ ∀ k, F' k → F k ∨ W.heap.size ≤ k := by
  obtain ⟨h0, bd, bv, vp, h1, h2⟩ := h
  refine (open_any W N b bd bv vp D h0 ht hpl hcut h1).mono ?_
  rintro e w' ⟨vp', q1, q2, q3, q4⟩
  rcases q4 with ⟨_, bl, vr, ve, rfl, q5, q6⟩ | ⟨q4, _⟩
  · refine ⟨bl, Foot b bd bv vp', LFoot bl vr ve, rfl, ⟨⟨bd, bv, vp', vr, ve, q1, q5.base h0, fun k => Iff.rfl, fun k => Iff.rfl⟩, q6, Nat.le_trans h0 q3.size⟩, q3.mono (fun k hk => (h2 k).2 hk), fun k hk => q5.ge k hk, ?_⟩
    rintro k (rfl | rfl | rfl | h)
    · exact .inl ((h2 _).2 (.inl rfl))
    · exact .inl ((h2 _).2 (.inr (.inl rfl)))
    · exact .inl ((h2 _).2 (.inr (.inr (.inl rfl))))
    · exact (q2 k h).imp_left (fun h => (h2 _).2 (.inr (.inr (.inr h))))
  · exact absurd he q4
theorem append_x (l : List Rec) (oa : Option Addr) (n c : Nat) (W : World) (N b bl : Nat) (F G : Nat → Prop) (D : DS) (R : List Rec) (br : Bool) (hn : l.length = n) (hn1 : n ≤ 1000) (hnc : n ≤ c) (hcm : c ≤ 9223372036854775807) (hI : ∀ r ∈ l, RecI r) (hR : R.length ≤ 100000) (hr : RdR W oa l) (ht : TabAt W) (hg : 0 < N) (hlost : br = false → D.lost = false) (hpl : D.pend.length ≤ 1000000) (hcut : D.cut ≤ 9223372036854775807) (h : LX W N b bl F G ⟨D, R, br⟩) :
    Calls Tryz.prog 10 #[.pointer (some ⟨bl, 0, none⟩), .slice oa n c] W fun e w' => e = .returned (.int .i64 (appC ⟨D, R, br⟩ l).1) ∧ ∃ F' G', LX w' N b bl F' G' (appC ⟨D, R, br⟩ l).2 ∧ Fr (fun k => F k ∨ G k) W w' ∧ (∀ k, F' k → F k ∨ W.heap.size ≤ k) ∧ ∀ k, G' k → G k ∨ W.heap.size ≤ k := by
  obtain ⟨bd, bv, vp, vr, ve, h1, h2, h3, h4⟩ := h.ex
  refine (append_any l oa n c W N N b bd bv bl vp vr ve D R br hn hn1 hnc hcm hI hR hr h1 h2 (fun k hk hf => h.sep k ((h4 k).2 hk) ((h3 k).2 hf)) h.le h.le ht hg hg hlost hpl hcut).mono ?_
  rintro e w' ⟨q1, vp', vr', ve', q2, q3, q4, q5, q6, q7⟩
  refine ⟨q1, Foot b bd bv vp', LFoot bl vr' ve', ⟨⟨bd, bv, vp', vr', ve', q2, q3, fun k => Iff.rfl, fun k => Iff.rfl⟩, q7, Nat.le_trans h.le q6.size⟩, q6.mono (fun k hk => hk.imp (h3 k).2 (h4 k).2), ?_, ?_⟩
  · rintro k (rfl | rfl | rfl | hk)
    · exact .inl ((h3 _).2 (.inl rfl))
    · exact .inl ((h3 _).2 (.inr (.inl rfl)))
    · exact .inl ((h3 _).2 (.inr (.inr (.inl rfl))))
    · exact (q4 k hk).imp_left (fun hk => (h3 _).2 (.inr (.inr (.inr hk))))
  · exact fun k hk => (q5 k hk).imp_left (h4 k).2
theorem records_x (W : World) (N b bl : Nat) (F G : Nat → Prop) (s : LS) (hn : s.R.length ≤ 900000) (h : LX W N b bl F G s) :
    Calls Tryz.prog 17 #[.pointer (some ⟨bl, 0, none⟩)] W (CloP W.heap.size W s.R) := by
  obtain ⟨bd, bv, vp, vr, ve, h1, h2, h3, h4⟩ := h.ex
  exact records_any W N b bl vr ve s.R s.br hn h2
theorem head_x (W : World) (N b bl : Nat) (F G : Nat → Prop) (s : LS) (h : LX W N b bl F G s) :
    Calls Tryz.prog 24 #[.pointer (some ⟨bl, 0, none⟩)] W fun e w' => e = .returned (.string (headR s.R)) ∧ W = w' := by
  obtain ⟨bd, bv, vp, vr, ve, h1, h2, h3, h4⟩ := h.ex
  exact head_any W N b bl vr ve s.R s.br h2
theorem root_x (W : World) (N b bl : Nat) (F G : Nat → Prop) (s : LS) (hn : s.R.length ≤ 900000) (ht : TabAt W) (h : LX W N b bl F G s) :
    Calls Tryz.prog 28 #[.pointer (some ⟨bl, 0, none⟩)] W fun e w' => e = .returned (.string (rootL (entR s.R))) ∧ Below W.heap.size W w' := by
  obtain ⟨bd, bv, vp, vr, ve, h1, h2, h3, h4⟩ := h.ex
  exact logRoot_any W N b bl vr ve s.R s.br hn ht h2
theorem room_x (W : World) (N b bl : Nat) (F G : Nat → Prop) (s : LS) (hE : endN s.R ≤ 4611686018427387903) (h : LX W N b bl F G s) :
    Calls Tryz.prog 18 #[.pointer (some ⟨bl, 0, none⟩)] W fun e w' => e = .returned (.int .i64 ((s.D.vis.length : Int) - (endN s.R : Nat))) ∧ Below W.heap.size W w' := by
  obtain ⟨bd, bv, vp, vr, ve, h1, h2, h3, h4⟩ := h.ex
  refine (room_any W N N b bd bv bl vp vr ve s.D s.R s.br hE h1 h2).mono ?_
  rintro e w' ⟨h, n, rfl⟩
  exact ⟨h, drewN_below (Below.refl _ _) n⟩
theorem prove_x (W : World) (N b bl : Nat) (F G : Nat → Prop) (s : LS) (i : Nat) (r : Rec) (x : ByteArray) (hn : s.R.length ≤ 900000) (ht : TabAt W) (h : LX W N b bl F G s) (hr : s.R[i]? = some r) (hx : (entR s.R)[i]? = some x) :
    Calls Tryz.prog 26 #[.pointer (some ⟨bl, 0, none⟩), .int .i64 (i : Int)] W (ProP W r i s.R.length (x.extract 0 32) (proofL (entR s.R) i)) := by
  obtain ⟨bd, bv, vp, vr, ve, h1, h2, h3, h4⟩ := h.ex
  exact prove_at W N b bl vr ve s.R s.br i r x hn ht h2 hr hx
end Go.Proofs.YtfpcdlpfmlaakaaGreatDoor
