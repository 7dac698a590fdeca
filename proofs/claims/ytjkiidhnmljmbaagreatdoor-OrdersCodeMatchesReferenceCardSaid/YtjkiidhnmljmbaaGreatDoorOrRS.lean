/-
  Orders: the readers of the encodings: number, text, refuse.
  Orders: the decoding of a fixed drop order.
-/
import Derived.Deep.CutBlock
import Derived.Test.YtjkiidhnmljmbaaGreatDoorTk
import Derived.Test.YtjkiidhnmljmbaaGreatDoorOrF
import Derived.Test.YtjkiidhnmljmbaaGreatDoorWaA
import Derived.Test.YtjkiidhnmljmbaaGreatDoorOrPQ
set_option linter.unusedVariables false
set_option linter.unusedSimpArgs false
namespace Go.Proofs.YtjkiidhnmljmbaaGreatDoor
open Go.RowKit Onair
attribute [local go_sem] Oper.semAt_some
/-- The panic of a fault. -/
def faultE (a : Int) (v : Value) : PanicEntry := { v := .iface 89 (.agg #[.int .i64 a, v]), recovered := false }
set_option maxHeartbeats 4000000 in
set_option maxRecDepth 100000 in
theorem refuse_any (rb : Nat) (s : ByteArray) (a : Int) (v : Value) (W : World) (hk : Blk W rb 94 [.string s, .int .i64 a]) : Calls Tryz.prog 41 #[.pointer (some ⟨rb, 0, none⟩), .iface 196 v] W fun e w' => e = .panicked [faultE a (.iface 196 v)] ∧ W = w' := by
  have c1 := hk.cell 1
  simp only [List.getElem?_cons_zero, List.getElem?_cons_succ] at c1
  go_enter Tryz.func41, Tryz.ntmps41
  go_wp2
  exact ⟨rfl, rfl, rfl⟩
set_option maxHeartbeats 4000000 in
set_option maxRecDepth 100000 in
theorem num_ok (rb : Nat) (s : ByteArray) (a : Int) (W : World) (hs : s.size ≤ maxLen) (hk : Blk W rb 94 [.string s, .int .i64 a]) (h : (intR s.data.toList a).2.2 = 0) :
    Calls Tryz.prog 40 #[.pointer (some ⟨rb, 0, none⟩)] W fun e w' => e = .returned (.int .i64 (intR s.data.toList a).1) ∧ Blk w' rb 94 [.string s, .int .i64 (intR s.data.toList a).2.1] ∧ Fr (fun c => c = rb) W w' := by
  obtain ⟨⟨x, y, z⟩, hr⟩ : ∃ r, intR s.data.toList a = r := ⟨_, rfl⟩
  have hi := fun W' => int_any s a W' hs
  rw [hr] at h hi ⊢
  have HI := Lib.hid hi
  have hS : W.cell? ⟨rb, 0, none⟩ = some (.string s) ∧ W.cell? ⟨rb, 1, none⟩ = some (.int .i64 a) := ⟨hk.cell 0, hk.cell 1⟩
  have HS := Lib.hid hS
  have HK := Lib.hid hk
  dsimp only at h hi HI ⊢
  subst h
  clear hr hk hi hS
  go_enter Tryz.func40, Tryz.ntmps40
  go_upto_region 1 with (fail)
  refine wp_region_held_drew (S := fun W => W.cell? ⟨rb, 0, none⟩ = some (.string s) ∧ W.cell? ⟨rb, 1, none⟩ = some (.int .i64 a)) (by kernel_rfl) ?_ (fun hHeld => ?_)
  · exact HS.out
  refine tk 0 (some 7) ?_
  refine tk 1 (some 8) ?_
  refine tk 2 (some 9) ?_
  refine tk 3 (some 10) ?_
  refine tk 4 (some 11) ?_
  refine tk 5 (some 12) ?_
  refine tk 6 (some 13) ?_
  refine tk 7 (some 14) ?_
  refine rd1 8 (some 15) (fun K hK => ?_)
  go_simp
  refine (HI.out _).mono ?_
  rintro e w' ⟨rfl, rfl⟩
  go_simp
  refine hK.out _ _ ?_ (fun hHeld2 => ?_)
  · exact HS.out
  clear hK K hHeld
  rename _ => hHeld
  try simp only [Act.put, List.setIfInBounds_toArray, List.set_cons_zero, List.set_cons_succ]
  refine tk 9 (some 6) ?_
  refine tk 10 (some 16) ?_
  refine tk 11 (some 17) ?_
  refine tk 12 (some 18) ?_
  refine tk 13 (some 3) ?_
  refine tk 14 (some 4) ?_
  refine tk 15 (some 5) ?_
  refine wpAnyH_done (by kernel_rfl) ?_ _
  clear hHeld
  have HK2 := Lib.hid HK.out.drew
  have f1 := HK2.out.frozen 1
  have c1 := HK2.out.cell 1
  simp only [List.getElem?_cons_zero, List.getElem?_cons_succ] at c1
  go_wp2_with fail
  go_ret
  exact ⟨rfl, HK2.out.set 1 _, ((Fr.refl _ W).drew).setCell ⟨rb, 1, none⟩ _ (.inl rfl)⟩
set_option maxHeartbeats 4000000 in
set_option maxRecDepth 100000 in
theorem num_bad (rb : Nat) (s : ByteArray) (a : Int) (W : World) (er : Addr) (hg : W.cell? ⟨0, 0, none⟩ = some (.iface 196 (.pointer (some er)))) (hs : s.size ≤ maxLen) (hk : Blk W rb 94 [.string s, .int .i64 a]) (h : (intR s.data.toList a).2.2 ≠ 0) :
    Calls Tryz.prog 40 #[.pointer (some ⟨rb, 0, none⟩)] W fun e w' => e = .panicked [faultE a (.iface 196 (.pointer (some er)))] ∧ Below W.heap.size W w' := by
  obtain ⟨⟨x, y, z⟩, hr⟩ : ∃ r, intR s.data.toList a = r := ⟨_, rfl⟩
  have hi := fun W' => int_any s a W' hs
  rw [hr] at h hi
  have HI := Lib.hid hi
  have hS : W.cell? ⟨rb, 0, none⟩ = some (.string s) ∧ W.cell? ⟨rb, 1, none⟩ = some (.int .i64 a) := ⟨hk.cell 0, hk.cell 1⟩
  have HS := Lib.hid hS
  have HK := Lib.hid hk
  dsimp only at h hi HI
  have h' : (z != 0) = true := by rw [bne_iff_ne]; exact h
  have HG := Lib.hid hg
  clear hr hk hi hS h hg
  go_enter Tryz.func40, Tryz.ntmps40
  go_upto_region 1 with (fail)
  refine wp_region_held_drew (S := fun W => W.cell? ⟨rb, 0, none⟩ = some (.string s) ∧ W.cell? ⟨rb, 1, none⟩ = some (.int .i64 a)) (by kernel_rfl) ?_ (fun hHeld => ?_)
  · exact HS.out
  refine tk 0 (some 7) ?_
  refine tk 1 (some 8) ?_
  refine tk 2 (some 9) ?_
  refine tk 3 (some 10) ?_
  refine tk 4 (some 11) ?_
  refine tk 5 (some 12) ?_
  refine tk 6 (some 13) ?_
  refine tk 7 (some 14) ?_
  refine rd1 8 (some 15) (fun K hK => ?_)
  go_simp
  refine (HI.out _).mono ?_
  rintro e w' ⟨rfl, rfl⟩
  go_simp
  refine hK.out _ _ ?_ (fun hHeld2 => ?_)
  · exact HS.out
  clear hK K hHeld
  rename _ => hHeld
  try simp only [Act.put, List.setIfInBounds_toArray, List.set_cons_zero, List.set_cons_succ]
  refine tk 9 (some 6) ?_
  refine tk 10 (some 16) ?_
  refine tk 11 (some 17) ?_
  refine tk 12 (some 18) ?_
  refine tk 13 (some 3) ?_
  refine tk 14 (some 4) ?_
  refine tk 15 (some 5) ?_
  refine wpAnyH_done (by kernel_rfl) ?_ _
  clear hHeld
  have g0 := HG.out
  go_wp2_with fail
  refine (refuse_any rb s a _ _ HK.out.drew).mono ?_
  rintro e w' ⟨rfl, rfl⟩
  go_wp2_with fail
  exact ⟨rfl, rfl, (Below.refl _ _).drew⟩
set_option maxHeartbeats 4000000 in
set_option maxRecDepth 100000 in
theorem txt_ok (rb : Nat) (s : ByteArray) (a : Int) (W : World) (hs : s.size ≤ maxLen) (hk : Blk W rb 94 [.string s, .int .i64 a]) (h : (strR s.data.toList a).2.2 = 0) :
    Calls Tryz.prog 42 #[.pointer (some ⟨rb, 0, none⟩)] W fun e w' => e = .returned (.string ⟨ (strR s.data.toList a).1.toArray⟩) ∧ Blk w' rb 94 [.string s, .int .i64 (strR s.data.toList a).2.1] ∧ Fr (fun c => c = rb) W w' := by
  obtain ⟨⟨x, y, z⟩, hr⟩ : ∃ r, strR s.data.toList a = r := ⟨_, rfl⟩
  have hi := fun W' => string_any s a W' hs
  rw [hr] at h hi ⊢
  have HI := Lib.hid hi
  have hS : W.cell? ⟨rb, 0, none⟩ = some (.string s) ∧ W.cell? ⟨rb, 1, none⟩ = some (.int .i64 a) := ⟨hk.cell 0, hk.cell 1⟩
  have HS := Lib.hid hS
  have HK := Lib.hid hk
  dsimp only at h hi HI ⊢
  subst h
  clear hr hk hi hS
  go_enter Tryz.func42, Tryz.ntmps42
  go_upto_region 1 with (fail)
  refine wp_region_held_drew (S := fun W => W.cell? ⟨rb, 0, none⟩ = some (.string s) ∧ W.cell? ⟨rb, 1, none⟩ = some (.int .i64 a)) (by kernel_rfl) ?_ (fun hHeld => ?_)
  · exact HS.out
  refine tk 0 (some 7) ?_
  refine tk 1 (some 8) ?_
  refine tk 2 (some 9) ?_
  refine tk 3 (some 10) ?_
  refine tk 4 (some 11) ?_
  refine tk 5 (some 12) ?_
  refine tk 6 (some 13) ?_
  refine tk 7 (some 14) ?_
  refine rd1 8 (some 15) (fun K hK => ?_)
  go_simp
  refine (HI.out _).mono ?_
  rintro e w' ⟨rfl, rfl⟩
  go_simp
  refine hK.out _ _ ?_ (fun hHeld2 => ?_)
  · exact HS.out
  clear hK K hHeld
  rename _ => hHeld
  try simp only [Act.put, List.setIfInBounds_toArray, List.set_cons_zero, List.set_cons_succ]
  refine tk 9 (some 6) ?_
  refine tk 10 (some 16) ?_
  refine tk 11 (some 17) ?_
  refine tk 12 (some 18) ?_
  refine tk 13 (some 3) ?_
  refine tk 14 (some 4) ?_
  refine tk 15 (some 5) ?_
  refine wpAnyH_done (by kernel_rfl) ?_ _
  clear hHeld
  have HK2 := Lib.hid HK.out.drew
  have f1 := HK2.out.frozen 1
  have c1 := HK2.out.cell 1
  simp only [List.getElem?_cons_zero, List.getElem?_cons_succ] at c1
  go_wp2_with fail
  go_ret
  exact ⟨rfl, HK2.out.set 1 _, ((Fr.refl _ W).drew).setCell ⟨rb, 1, none⟩ _ (.inl rfl)⟩
set_option maxHeartbeats 4000000 in
set_option maxRecDepth 100000 in
theorem txt_bad (rb : Nat) (s : ByteArray) (a : Int) (W : World) (er : Addr) (hg : W.cell? ⟨0, 0, none⟩ = some (.iface 196 (.pointer (some er)))) (hs : s.size ≤ maxLen) (hk : Blk W rb 94 [.string s, .int .i64 a]) (h : (strR s.data.toList a).2.2 ≠ 0) :
    Calls Tryz.prog 42 #[.pointer (some ⟨rb, 0, none⟩)] W fun e w' => e = .panicked [faultE a (.iface 196 (.pointer (some er)))] ∧ Below W.heap.size W w' := by
  obtain ⟨⟨x, y, z⟩, hr⟩ : ∃ r, strR s.data.toList a = r := ⟨_, rfl⟩
  have hi := fun W' => string_any s a W' hs
  rw [hr] at h hi
  have HI := Lib.hid hi
  have hS : W.cell? ⟨rb, 0, none⟩ = some (.string s) ∧ W.cell? ⟨rb, 1, none⟩ = some (.int .i64 a) := ⟨hk.cell 0, hk.cell 1⟩
  have HS := Lib.hid hS
  have HK := Lib.hid hk
  dsimp only at h hi HI
  have h' : (z != 0) = true := by rw [bne_iff_ne]; exact h
  have HG := Lib.hid hg
  clear hr hk hi hS h hg
  go_enter Tryz.func42, Tryz.ntmps42
  go_upto_region 1 with (fail)
  refine wp_region_held_drew (S := fun W => W.cell? ⟨rb, 0, none⟩ = some (.string s) ∧ W.cell? ⟨rb, 1, none⟩ = some (.int .i64 a)) (by kernel_rfl) ?_ (fun hHeld => ?_)
  · exact HS.out
  refine tk 0 (some 7) ?_
  refine tk 1 (some 8) ?_
  refine tk 2 (some 9) ?_
  refine tk 3 (some 10) ?_
  refine tk 4 (some 11) ?_
  refine tk 5 (some 12) ?_
  refine tk 6 (some 13) ?_
  refine tk 7 (some 14) ?_
  refine rd1 8 (some 15) (fun K hK => ?_)
  go_simp
  refine (HI.out _).mono ?_
  rintro e w' ⟨rfl, rfl⟩
  go_simp
  refine hK.out _ _ ?_ (fun hHeld2 => ?_)
  · exact HS.out
  clear hK K hHeld
  rename _ => hHeld
  try simp only [Act.put, List.setIfInBounds_toArray, List.set_cons_zero, List.set_cons_succ]
  refine tk 9 (some 6) ?_
  refine tk 10 (some 16) ?_
  refine tk 11 (some 17) ?_
  refine tk 12 (some 18) ?_
  refine tk 13 (some 3) ?_
  refine tk 14 (some 4) ?_
  refine tk 15 (some 5) ?_
  refine wpAnyH_done (by kernel_rfl) ?_ _
  clear hHeld
  have g0 := HG.out
  go_wp2_with fail
  refine (refuse_any rb s a _ _ HK.out.drew).mono ?_
  rintro e w' ⟨rfl, rfl⟩
  go_wp2_with fail
  exact ⟨rfl, rfl, (Below.refl _ _).drew⟩
set_option maxHeartbeats 4000000 in
set_option maxRecDepth 100000 in
theorem inum_ok (rb : Nat) (s : ByteArray) (a : Int) (W : World) (hs : s.size ≤ maxLen) (hk : Blk W rb 153 [.string s, .int .i64 a]) (h : (intR s.data.toList a).2.2 = 0) :
    Calls Tryz.prog 98 #[.pointer (some ⟨rb, 0, none⟩)] W fun e w' => e = .returned (.int .i64 (intR s.data.toList a).1) ∧ Blk w' rb 153 [.string s, .int .i64 (intR s.data.toList a).2.1] ∧ Fr (fun c => c = rb) W w' := by
  obtain ⟨⟨x, y, z⟩, hr⟩ : ∃ r, intR s.data.toList a = r := ⟨_, rfl⟩
  have hi := fun W' => int_any s a W' hs
  rw [hr] at h hi ⊢
  have HI := Lib.hid hi
  have hS : W.cell? ⟨rb, 0, none⟩ = some (.string s) ∧ W.cell? ⟨rb, 1, none⟩ = some (.int .i64 a) := ⟨hk.cell 0, hk.cell 1⟩
  have HS := Lib.hid hS
  have HK := Lib.hid hk
  dsimp only at h hi HI ⊢
  subst h
  clear hr hk hi hS
  go_enter Tryz.func98, Tryz.ntmps98
  go_upto_region 1 with (fail)
  refine wp_region_held_drew (S := fun W => W.cell? ⟨rb, 0, none⟩ = some (.string s) ∧ W.cell? ⟨rb, 1, none⟩ = some (.int .i64 a)) (by kernel_rfl) ?_ (fun hHeld => ?_)
  · exact HS.out
  refine tk 0 (some 7) ?_
  refine tk 1 (some 8) ?_
  refine tk 2 (some 9) ?_
  refine tk 3 (some 10) ?_
  refine tk 4 (some 11) ?_
  refine tk 5 (some 12) ?_
  refine tk 6 (some 13) ?_
  refine tk 7 (some 14) ?_
  refine rd1 8 (some 15) (fun K hK => ?_)
  go_simp
  refine (HI.out _).mono ?_
  rintro e w' ⟨rfl, rfl⟩
  go_simp
  refine hK.out _ _ ?_ (fun hHeld2 => ?_)
  · exact HS.out
  clear hK K hHeld
  rename _ => hHeld
  try simp only [Act.put, List.setIfInBounds_toArray, List.set_cons_zero, List.set_cons_succ]
  refine tk 9 (some 6) ?_
  refine tk 10 (some 16) ?_
  refine tk 11 (some 17) ?_
  refine tk 12 (some 18) ?_
  refine tk 13 (some 3) ?_
  refine tk 14 (some 4) ?_
  refine tk 15 (some 5) ?_
  refine wpAnyH_done (by kernel_rfl) ?_ _
  clear hHeld
  have HK2 := Lib.hid HK.out.drew
  have f1 := HK2.out.frozen 1
  have c1 := HK2.out.cell 1
  simp only [List.getElem?_cons_zero, List.getElem?_cons_succ] at c1
  go_wp2_with fail
  go_ret
  exact ⟨rfl, HK2.out.set 1 _, ((Fr.refl _ W).drew).setCell ⟨rb, 1, none⟩ _ (.inl rfl)⟩
set_option maxHeartbeats 4000000 in
set_option maxRecDepth 100000 in
theorem inum_bad (rb : Nat) (s : ByteArray) (a : Int) (W : World) (er : Addr) (hg : W.cell? ⟨2, 0, none⟩ = some (.iface 196 (.pointer (some er)))) (hs : s.size ≤ maxLen) (hk : Blk W rb 153 [.string s, .int .i64 a]) (h : (intR s.data.toList a).2.2 ≠ 0) :
    Calls Tryz.prog 98 #[.pointer (some ⟨rb, 0, none⟩)] W fun e w' => e = .panicked [{ v := (.iface 196 (.pointer (some er))), recovered := false }] ∧ Below W.heap.size W w' := by
  obtain ⟨⟨x, y, z⟩, hr⟩ : ∃ r, intR s.data.toList a = r := ⟨_, rfl⟩
  have hi := fun W' => int_any s a W' hs
  rw [hr] at h hi
  have HI := Lib.hid hi
  have hS : W.cell? ⟨rb, 0, none⟩ = some (.string s) ∧ W.cell? ⟨rb, 1, none⟩ = some (.int .i64 a) := ⟨hk.cell 0, hk.cell 1⟩
  have HS := Lib.hid hS
  have HK := Lib.hid hk
  dsimp only at h hi HI
  have h' : (z != 0) = true := by rw [bne_iff_ne]; exact h
  have HG := Lib.hid hg
  clear hr hk hi hS h hg
  go_enter Tryz.func98, Tryz.ntmps98
  go_upto_region 1 with (fail)
  refine wp_region_held_drew (S := fun W => W.cell? ⟨rb, 0, none⟩ = some (.string s) ∧ W.cell? ⟨rb, 1, none⟩ = some (.int .i64 a)) (by kernel_rfl) ?_ (fun hHeld => ?_)
  · exact HS.out
  refine tk 0 (some 7) ?_
  refine tk 1 (some 8) ?_
  refine tk 2 (some 9) ?_
  refine tk 3 (some 10) ?_
  refine tk 4 (some 11) ?_
  refine tk 5 (some 12) ?_
  refine tk 6 (some 13) ?_
  refine tk 7 (some 14) ?_
  refine rd1 8 (some 15) (fun K hK => ?_)
  go_simp
  refine (HI.out _).mono ?_
  rintro e w' ⟨rfl, rfl⟩
  go_simp
  refine hK.out _ _ ?_ (fun hHeld2 => ?_)
  · exact HS.out
  clear hK K hHeld
  rename _ => hHeld
  try simp only [Act.put, List.setIfInBounds_toArray, List.set_cons_zero, List.set_cons_succ]
  refine tk 9 (some 6) ?_
  refine tk 10 (some 16) ?_
  refine tk 11 (some 17) ?_
  refine tk 12 (some 18) ?_
  refine tk 13 (some 3) ?_
  refine tk 14 (some 4) ?_
  refine tk 15 (some 5) ?_
  refine wpAnyH_done (by kernel_rfl) ?_ _
  clear hHeld
  have g0 := HG.out
  go_wp2
  exact ⟨rfl, rfl, (Below.refl _ _).drew⟩
set_option maxHeartbeats 4000000 in
set_option maxRecDepth 100000 in
theorem itxt_ok (rb : Nat) (s : ByteArray) (a : Int) (W : World) (hs : s.size ≤ maxLen) (hk : Blk W rb 153 [.string s, .int .i64 a]) (h : (strR s.data.toList a).2.2 = 0) :
    Calls Tryz.prog 99 #[.pointer (some ⟨rb, 0, none⟩)] W fun e w' => e = .returned (.string ⟨ (strR s.data.toList a).1.toArray⟩) ∧ Blk w' rb 153 [.string s, .int .i64 (strR s.data.toList a).2.1] ∧ Fr (fun c => c = rb) W w' := by
  obtain ⟨⟨x, y, z⟩, hr⟩ : ∃ r, strR s.data.toList a = r := ⟨_, rfl⟩
  have hi := fun W' => string_any s a W' hs
  rw [hr] at h hi ⊢
  have HI := Lib.hid hi
  have hS : W.cell? ⟨rb, 0, none⟩ = some (.string s) ∧ W.cell? ⟨rb, 1, none⟩ = some (.int .i64 a) := ⟨hk.cell 0, hk.cell 1⟩
  have HS := Lib.hid hS
  have HK := Lib.hid hk
  dsimp only at h hi HI ⊢
  subst h
  clear hr hk hi hS
  go_enter Tryz.func99, Tryz.ntmps99
  go_upto_region 1 with (fail)
  refine wp_region_held_drew (S := fun W => W.cell? ⟨rb, 0, none⟩ = some (.string s) ∧ W.cell? ⟨rb, 1, none⟩ = some (.int .i64 a)) (by kernel_rfl) ?_ (fun hHeld => ?_)
  · exact HS.out
  refine tk 0 (some 7) ?_
  refine tk 1 (some 8) ?_
  refine tk 2 (some 9) ?_
  refine tk 3 (some 10) ?_
  refine tk 4 (some 11) ?_
  refine tk 5 (some 12) ?_
  refine tk 6 (some 13) ?_
  refine tk 7 (some 14) ?_
  refine rd1 8 (some 15) (fun K hK => ?_)
  go_simp
  refine (HI.out _).mono ?_
  rintro e w' ⟨rfl, rfl⟩
  go_simp
  refine hK.out _ _ ?_ (fun hHeld2 => ?_)
  · exact HS.out
  clear hK K hHeld
  rename _ => hHeld
  try simp only [Act.put, List.setIfInBounds_toArray, List.set_cons_zero, List.set_cons_succ]
  refine tk 9 (some 6) ?_
  refine tk 10 (some 16) ?_
  refine tk 11 (some 17) ?_
  refine tk 12 (some 18) ?_
  refine tk 13 (some 3) ?_
  refine tk 14 (some 4) ?_
  refine tk 15 (some 5) ?_
  refine wpAnyH_done (by kernel_rfl) ?_ _
  clear hHeld
  have HK2 := Lib.hid HK.out.drew
  have f1 := HK2.out.frozen 1
  have c1 := HK2.out.cell 1
  simp only [List.getElem?_cons_zero, List.getElem?_cons_succ] at c1
  go_wp2_with fail
  go_ret
  exact ⟨rfl, HK2.out.set 1 _, ((Fr.refl _ W).drew).setCell ⟨rb, 1, none⟩ _ (.inl rfl)⟩
set_option maxHeartbeats 4000000 in
set_option maxRecDepth 100000 in
theorem itxt_bad (rb : Nat) (s : ByteArray) (a : Int) (W : World) (er : Addr) (hg : W.cell? ⟨2, 0, none⟩ = some (.iface 196 (.pointer (some er)))) (hs : s.size ≤ maxLen) (hk : Blk W rb 153 [.string s, .int .i64 a]) (h : (strR s.data.toList a).2.2 ≠ 0) :
    Calls Tryz.prog 99 #[.pointer (some ⟨rb, 0, none⟩)] W fun e w' => e = .panicked [{ v := (.iface 196 (.pointer (some er))), recovered := false }] ∧ Below W.heap.size W w' := by
  obtain ⟨⟨x, y, z⟩, hr⟩ : ∃ r, strR s.data.toList a = r := ⟨_, rfl⟩
  have hi := fun W' => string_any s a W' hs
  rw [hr] at h hi
  have HI := Lib.hid hi
  have hS : W.cell? ⟨rb, 0, none⟩ = some (.string s) ∧ W.cell? ⟨rb, 1, none⟩ = some (.int .i64 a) := ⟨hk.cell 0, hk.cell 1⟩
  have HS := Lib.hid hS
  have HK := Lib.hid hk
  dsimp only at h hi HI
  have h' : (z != 0) = true := by rw [bne_iff_ne]; exact h
  have HG := Lib.hid hg
  clear hr hk hi hS h hg
  go_enter Tryz.func99, Tryz.ntmps99
  go_upto_region 1 with (fail)
  refine wp_region_held_drew (S := fun W => W.cell? ⟨rb, 0, none⟩ = some (.string s) ∧ W.cell? ⟨rb, 1, none⟩ = some (.int .i64 a)) (by kernel_rfl) ?_ (fun hHeld => ?_)
  · exact HS.out
  refine tk 0 (some 7) ?_
  refine tk 1 (some 8) ?_
  refine tk 2 (some 9) ?_
  refine tk 3 (some 10) ?_
  refine tk 4 (some 11) ?_
  refine tk 5 (some 12) ?_
  refine tk 6 (some 13) ?_
  refine tk 7 (some 14) ?_
  refine rd1 8 (some 15) (fun K hK => ?_)
  go_simp
  refine (HI.out _).mono ?_
  rintro e w' ⟨rfl, rfl⟩
  go_simp
  refine hK.out _ _ ?_ (fun hHeld2 => ?_)
  · exact HS.out
  clear hK K hHeld
  rename _ => hHeld
  try simp only [Act.put, List.setIfInBounds_toArray, List.set_cons_zero, List.set_cons_succ]
  refine tk 9 (some 6) ?_
  refine tk 10 (some 16) ?_
  refine tk 11 (some 17) ?_
  refine tk 12 (some 18) ?_
  refine tk 13 (some 3) ?_
  refine tk 14 (some 4) ?_
  refine tk 15 (some 5) ?_
  refine wpAnyH_done (by kernel_rfl) ?_ _
  clear hHeld
  have g0 := HG.out
  go_wp2
  exact ⟨rfl, rfl, (Below.refl _ _).drew⟩
end Go.Proofs.YtjkiidhnmljmbaaGreatDoor
namespace Go.Proofs.YtjkiidhnmljmbaaGreatDoor
open Go.RowKit Onair
attribute [local go_sem] Oper.semAt_some
/-- The encoding of the order 1 of all channels that drops entry 1 at frame 5. -/
def OL : List UInt8 := [2, 1, 10, 4, 2]
/-- The cells of that order, of which the first j are read. -/
def ordJ (j : Nat) : List Value := ((drA 1 5).toList.take j) ++ ((ordA 0 0 0 0 0).toList.drop j)
end Go.Proofs.YtjkiidhnmljmbaaGreatDoor
