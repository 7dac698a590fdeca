/-
  The helpers of the laws of package wire: pick, NumberFrom.
-/
import Derived.WalkKit
import Derived.OwnWalk
import Derived.WalkSpells
import Derived.WalkLawsBesides
import Derived.Lib.Hide
import Derived.IntWalk
import Derived.Test.YthmdiminiolipaaDoorWirePlain
import Derived.Test.YthmdiminiolipaaDoorUtil
import Derived.Test.YthmdiminiolipaaDoorProg
set_option linter.unusedVariables false
set_option linter.unusedSimpArgs false
namespace Go.Proofs.YthmdiminiolipaaDoor
open Go.RowKit Onair

theorem min_cut (s : ByteArray) (b : Nat) : ∃ (m : Nat) (T : ByteArray), m ≤ s.size ∧ m ≤ b ∧ T.size = m ∧ (if (b : Int) < (s.size : Int) then (b : Int) else (s.size : Int)) = (m : Int) ∧ s.extract 0 m = T := by
  refine ⟨min b s.size, s.extract 0 (min b s.size), by omega, by omega, by simp, ?_, rfl⟩
  split <;> omega
theorem numCell (w : World) (i : Nat) (h : i < 8) : (w.alloc (.cells #[.int .i64 64, .int .i64 128, .int .i64 8192, .int .i64 16384, .int .i64 1073741824, .int .i64 36028797018963968, .int .i64 576460752303423488, .int .i64 2] 3)).cell? ⟨w.heap.size, i, none⟩ = some (.int .i64 (numTab.getD i 0)) := by
  match i, h with
  | 0, _ => go_simp; rfl
  | 1, _ => go_simp; rfl
  | 2, _ => go_simp; rfl
  | 3, _ => go_simp; rfl
  | 4, _ => go_simp; rfl
  | 5, _ => go_simp; rfl
  | 6, _ => go_simp; rfl
  | 7, _ => go_simp; rfl
theorem pick_any (c n : Int) (w : World) (h0 : -9223372036854775808 ≤ c) (h1 : c ≤ 9223372036854775807) (hn : 1 ≤ n) (hn2 : n ≤ 9223372036854775807) :
    Calls Tryd.prog 14 #[.int .i64 c, .int .i64 n] w fun e w' => e = .returned (.int .i64 (pickI c n)) ∧ w = w' := by
  by_cases hc : c < 0
  · have e : pickI c n = (-(c + 1)) % n := by unfold pickI; rw [if_pos hc]
    rw [e]
    clear e
    go_enter Tryd.func14, Tryd.ntmps14
    go_wp2
    go_ret
    exact ⟨ret_int (by rw [← Int.neg_tmod, Int.tmod_eq_emod_of_nonneg (by omega)]), rfl⟩
  · have e : pickI c n = c % n := by unfold pickI; rw [if_neg hc]
    rw [e]
    clear e
    have hc' : 0 ≤ c := by omega
    go_enter Tryd.func14, Tryd.ntmps14
    go_wp2
    go_ret
    exact ⟨rfl, rfl⟩
set_option maxHeartbeats 1000000 in
set_option maxRecDepth 100000 in
theorem number_any (c : Int) (w : World) (h0 : -9223372036854775808 ≤ c) (h1 : c ≤ 9223372036854775807) :
    Calls Tryd.prog 11 #[.int .i64 c] w fun e w' => e = .returned (.int .i64 (numF c)) ∧ Below w.heap.size w w' := by
  have b1 := pickI_bd c 4611686018427387904 (by decide)
  have b2 := pickI_bd c 8 (by decide)
  obtain ⟨p, hp⟩ : ∃ p, pickI c 4611686018427387904 = p := ⟨_, rfl⟩
  obtain ⟨i, hi⟩ : ∃ i : Nat, pickI c 8 = (i : Int) := ⟨(pickI c 8).toNat, by omega⟩
  go_enter Tryd.func11, Tryd.ntmps11
  go_wp2_with fail
  refine (pick_any _ _ _ h0 h1 (by omega) (by omega)).mono ?_
  rw [hp]
  rintro e w' ⟨rfl, rfl⟩
  have HP := Lib.hid hp
  have HI := Lib.hid hi
  rw [hp] at b1
  rw [hi] at b2
  clear hp hi
  obtain ⟨b11, b12⟩ := b1
  obtain ⟨b21, b22⟩ := b2
  go_wp2_with fail
  refine (pick_any _ _ _ h0 h1 (by omega) (by omega)).mono ?_
  rw [HI.out]
  rintro e w' ⟨rfl, rfl⟩
  have hcell := numCell w i (by omega)
  have hbd := numTab_bd i (by omega)
  obtain ⟨t, ht⟩ : ∃ t, numTab.getD i 0 = t := ⟨_, rfl⟩
  rw [ht] at hcell hbd
  have HT := Lib.hid ht
  clear ht
  obtain ⟨hb1, hb2⟩ := hbd
  go_wp2_with fail
  refine (pick_any _ _ _ (by omega) (by omega) (by omega) (by omega)).mono ?_
  have hab : numAbs c = pickI (p / 8) t := by
    unfold numAbs; rw [HP.out, HI.out, Int.toNat_natCast, HT.out]
  have habs := numAbs_bd c
  have hF : numF c = if 8 ≤ pickI c 16 then - numAbs c else numAbs c := rfl
  rw [← hab]
  clear hab
  obtain ⟨q, hq⟩ : ∃ q, numAbs c = q := ⟨_, rfl⟩
  rw [hq] at habs hF ⊢
  have HF := Lib.hid hF
  clear hF hq
  obtain ⟨hq1, hq2⟩ := habs
  rintro e w' ⟨rfl, rfl⟩
  have hB : Below w.heap.size w (w.alloc (.cells #[.int .i64 64, .int .i64 128, .int .i64 8192, .int .i64 16384, .int .i64 1073741824, .int .i64 36028797018963968, .int .i64 576460752303423488, .int .i64 2] 3)) := (Below.refl _ w).alloc (Nat.le_refl _) _
  go_wp2_with fail
  refine (pick_any _ _ _ h0 h1 (by omega) (by omega)).mono ?_
  have b16 := pickI_bd c 16 (by decide)
  rintro e w' ⟨rfl, rfl⟩
  by_cases h8 : 8 ≤ pickI c 16
  · go_wp2_with fail
    go_ret
    exact ⟨ret_int (by rw [HF.out, if_pos h8]), hB⟩
  · go_wp2_with fail
    go_ret
    exact ⟨ret_int (by rw [HF.out, if_neg (by omega)]), hB⟩
end Go.Proofs.YthmdiminiolipaaDoor
