/-
  The helpers of the laws of package wire: sane, pick, NumberFrom.
-/
import Derived.WalkKit
import Derived.LoopTactic
import Derived.OwnWalk
import Derived.WalkSpells
import Derived.WalkLawsBesides
import Derived.Lib.Hide
import Derived.IntWalk
import Derived.Test.YthmdiminiolipaaDoorWireWalksC
import Derived.Test.YthmdiminiolipaaDoorUtil
set_option linter.unusedVariables false
set_option linter.unusedSimpArgs false
namespace Go.Proofs.YthmdiminiolipaaDoor
open Go.RowKit Onair
theorem put_m64 (w : World) : Calls Tryd.prog 12 #[.int .i64 (-64)] w fun e w' => e = .returned (.tuple #[.string ⟨#[127]⟩, .int .i64 0]) ∧ Below w.heap.size w w' := by
  have h := putInt_any (-64) w
  rw [show putL (-64) = [127] from by decide, show putE (-64) = 0 from by decide] at h
  exact h
theorem put_64 (w : World) : Calls Tryd.prog 12 #[.int .i64 64] w fun e w' => e = .returned (.tuple #[.string ⟨#[128, 1]⟩, .int .i64 0]) ∧ Below w.heap.size w w' := by
  have h := putInt_any 64 w
  rw [show putL 64 = [128, 1] from by decide, show putE 64 = 0 from by decide] at h
  exact h
theorem put_big (w : World) : Calls Tryd.prog 12 #[.int .i64 4611686018427387904] w fun e w' => e = .returned (.tuple #[.string ⟨#[]⟩, .int .i64 10]) ∧ Below w.heap.size w w' := by
  have h := putInt_any 4611686018427387904 w
  rw [show putL 4611686018427387904 = [] from by decide, show putE 4611686018427387904 = 10 from by decide] at h
  exact h

theorem int_c1 (w : World) : Calls Tryd.prog 15 #[.string ⟨#[97, 172, 2, 98]⟩, .int .i64 1] w fun e w' => e = .returned (.tuple #[.int .i64 150, .int .i64 3, .int .i64 0]) ∧ w = w' := by
  have h := int_any ⟨#[97, 172, 2, 98]⟩ 1 w (small_len _ (by decide))
  rw [show intR (ByteArray.mk #[97, 172, 2, 98]).data.toList 1 = (150, 3, 0) from by decide] at h
  exact h
theorem int_c2 (w : World) : Calls Tryd.prog 15 #[.string ⟨#[128, 0]⟩, .int .i64 0] w fun e w' => e = .returned (.tuple #[.int .i64 0, .int .i64 0, .int .i64 10]) ∧ w = w' := by
  have h := int_any ⟨#[128, 0]⟩ 0 w (small_len _ (by decide))
  rw [show intR (ByteArray.mk #[128, 0]).data.toList 0 = (0, 0, 10) from by decide] at h
  exact h
theorem int_c3 (w : World) : Calls Tryd.prog 15 #[.string ⟨#[]⟩, .int .i64 1] w fun e w' => e = .returned (.tuple #[.int .i64 0, .int .i64 0, .int .i64 2]) ∧ w = w' := by
  have h := int_any ⟨#[]⟩ 1 w (small_len _ (by decide))
  rw [show intR (ByteArray.mk #[]).data.toList 1 = (0, 0, 2) from by decide] at h
  exact h
theorem puts_ab (w : World) : Calls Tryd.prog 19 #[.string ⟨#[97, 98]⟩] w fun e w' => e = .returned (.tuple #[.string ⟨#[4, 97, 98]⟩, .int .i64 0]) ∧ Below w.heap.size w w' := by
  have h := putString_any ⟨#[97, 98]⟩ w (small_len _ (by decide))
  rw [show putSL (ByteArray.mk #[97, 98]).data.toList = [4, 97, 98] from by decide, show putSE (ByteArray.mk #[97, 98]).data.toList = 0 from by decide] at h
  exact h
theorem str_c1 (w : World) : Calls Tryd.prog 17 #[.string ⟨#[4, 97, 98, 99]⟩, .int .i64 0] w fun e w' => e = .returned (.tuple #[.string ⟨#[97, 98]⟩, .int .i64 3, .int .i64 0]) ∧ w = w' := by
  have h := string_any ⟨#[4, 97, 98, 99]⟩ 0 w (small_len _ (by decide))
  rw [show strR (ByteArray.mk #[4, 97, 98, 99]).data.toList 0 = ([97, 98], 3, 0) from by decide] at h
  exact h
theorem str_c2 (w : World) : Calls Tryd.prog 17 #[.string ⟨#[4, 97]⟩, .int .i64 0] w fun e w' => e = .returned (.tuple #[.string ⟨#[]⟩, .int .i64 0, .int .i64 10]) ∧ w = w' := by
  have h := string_any ⟨#[4, 97]⟩ 0 w (small_len _ (by decide))
  rw [show strR (ByteArray.mk #[4, 97]).data.toList 0 = ([], 0, 10) from by decide] at h
  exact h
theorem sum_c (w : World) (ht : TabAt w) : Calls Tryd.prog 21 #[.string ⟨#[49, 50, 51, 52, 53, 54, 55, 56, 57]⟩] w fun e w' => e = .returned (.int .i64 3808858755) ∧ w = w' := by
  have h := sum_any ⟨#[49, 50, 51, 52, 53, 54, 55, 56, 57]⟩ w (small_len _ (by decide)) ht
  rw [show sumL (ByteArray.mk #[49, 50, 51, 52, 53, 54, 55, 56, 57]).data.toList = 3808858755 from by decide] at h
  exact h
set_option maxHeartbeats 2000000 in
set_option maxRecDepth 100000 in
theorem sane_any (w : World) (ht : TabAt w) : Calls Tryd.prog 10 #[] w fun e w' => e = .returned (.bool true) ∧ Below w.heap.size w w' := by
  have HT := Lib.hid ht
  have h0 := ht.lt
  clear ht
  go_enter Tryd.func10, Tryd.ntmps10
  go_wp2_with fail
  refine (put_m64 _).mono ?_
  rintro e w1 ⟨rfl, hb1⟩
  go_wp2_with fail
  refine (put_64 _).mono ?_
  rintro e w2 ⟨rfl, hb2⟩
  go_wp2_with fail
  refine (int_c1 _).mono ?_
  rintro e w' ⟨rfl, rfl⟩
  go_wp2_with fail
  refine (int_c2 _).mono ?_
  rintro e w' ⟨rfl, rfl⟩
  go_wp2_with fail
  refine (puts_ab _).mono ?_
  rintro e w3 ⟨rfl, hb3⟩
  go_wp2_with fail
  refine (str_c1 _).mono ?_
  rintro e w' ⟨rfl, rfl⟩
  go_wp2_with fail
  refine (str_c2 _).mono ?_
  rintro e w' ⟨rfl, rfl⟩
  go_wp2_with fail
  refine (put_big _).mono ?_
  rintro e w4 ⟨rfl, hb4⟩
  go_wp2_with fail
  refine (int_c3 _).mono ?_
  rintro e w' ⟨rfl, rfl⟩
  have HB : Hid (Below w.heap.size w w4) := ((hb1.trans (hb2.mono hb1.size)).trans (hb3.mono (hb1.trans (hb2.mono hb1.size)).size)).trans (hb4.mono ((hb1.trans (hb2.mono hb1.size)).trans (hb3.mono (hb1.trans (hb2.mono hb1.size)).size)).size)
  have HT4 := Lib.hid (HT.out.below HB.out h0)
  clear hb1 hb2 hb3 hb4
  go_wp2_with fail
  refine (sum_c _ HT4.out).mono ?_
  rintro e w' ⟨rfl, rfl⟩
  go_wp2_with fail
  go_ret
  exact ⟨rfl, HB.out⟩
end Go.Proofs.YthmdiminiolipaaDoor
