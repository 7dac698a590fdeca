/-
  Orders: senders and receivers that are nil.
  Orders: Done of a nil sender.
  Orders: Tick of a nil sender, Tick of a frame before 0.
-/
import Derived.Test.YtjkiidhnmljmbaaDoorOrD
import Derived.Test.YtjkiidhnmljmbaaDoorTk
import Derived.Test.YtjkiidhnmljmbaaDoorGoJK
import Derived.Test.YtjkiidhnmljmbaaDoorOrK
set_option linter.unusedVariables false
set_option linter.unusedSimpArgs false
namespace Go.Proofs.YtjkiidhnmljmbaaDoor
open Go.RowKit
set_option maxRecDepth 100000 in
theorem slives_nil (W : World) : Calls Tryd.prog 42 #[.pointer none] W fun e w' => e = .returned (.bool false) ∧ W = w' := by
  go_enter Tryd.func42, Tryd.ntmps42
  go_wp2_with fail
  go_ret
  exact ⟨rfl, rfl⟩
set_option maxRecDepth 100000 in
theorem rlives_nil (W : World) : Calls Tryd.prog 48 #[.pointer none] W fun e w' => e = .returned (.bool false) ∧ W = w' := by
  go_enter Tryd.func48, Tryd.ntmps48
  go_wp2_with fail
  go_ret
  exact ⟨rfl, rfl⟩
set_option maxHeartbeats 4000000 in
set_option maxRecDepth 100000 in
theorem nilOrders (W : World) : Calls Tryd.prog 23 #[.pointer none] W fun e w' => e = .returned (.slice none 0 0) ∧ Below W.heap.size W w' := by
  have HB := Lib.hid (Below.refl W.heap.size W)
  have HL := Lib.hid rlives_nil
  go_enter Tryd.func23, Tryd.ntmps23
  go_wp2_with fail
  refine (HL.out _).mono ?_
  rintro e w' ⟨rfl, rfl⟩
  go_wp2_with fail
  go_ret
  exact ⟨rfl, HB.out⟩
set_option maxHeartbeats 4000000 in
set_option maxRecDepth 100000 in
theorem nilAdd (o : GOd) (W : World) : Calls Tryd.prog 20 #[.pointer none, .agg o.l.toArray] W fun e w' => e = .returned (.int .i64 1) ∧ Below W.heap.size W w' := by
  obtain ⟨x, hx⟩ : ∃ x, o.l.toArray = x := ⟨_, rfl⟩
  have hsz : x.size = 26 := by rw [← hx]; rfl
  rw [hx]
  clear hx
  have HL := Lib.hid slives_nil
  obtain ⟨N, hN⟩ : ∃ N, W.heap.size = N := ⟨_, rfl⟩
  obtain ⟨w1, hw1⟩ : ∃ w1, W.alloc (.cells x 30) = w1 := ⟨_, rfl⟩
  have hb1 : Below N W w1 := by rw [← hw1, ← hN]; exact (Below.refl _ W).alloc (Nat.le_refl _) _
  have HN := Lib.hid hN
  have HB1 := Lib.hid hb1
  clear hb1
  go_enter Tryd.func20, Tryd.ntmps20
  go_wp2_with fail
  refine (HL.out _).mono ?_
  rintro e w' ⟨rfl, rfl⟩
  go_wp2_with fail
  go_ret
  exact ⟨rfl, by first | exact HB1.out | (rw [HN.out]; exact HB1.out)⟩
end Go.Proofs.YtjkiidhnmljmbaaDoor
namespace Go.Proofs.YtjkiidhnmljmbaaDoor
open Go.RowKit
set_option maxHeartbeats 4000000 in
set_option maxRecDepth 100000 in
theorem nilDone (W : World) : Calls Tryd.prog 26 #[.pointer none] W fun e w' => e = .returned (.bool false) ∧ Below W.heap.size W w' := by
  have HB := Lib.hid ((Below.refl W.heap.size W).drew)
  have HL := Lib.hid slives_nil
  go_enter Tryd.func26, Tryd.ntmps26
  go_upto_region 1 with (fail)
  refine wp_region_held_drew (S := fun _ => True) (by kernel_rfl) ?_ (fun hHeld => ?_)
  · trivial
  refine tk 0 (some 3) ?_
  refine rd1 1 (some 4) (fun K hK => ?_)
  go_simp
  refine (HL.out _).mono ?_
  rintro e w1 ⟨rfl, rfl⟩
  go_simp
  refine hK.out _ _ ?_ (fun hHeld2 => ?_)
  · trivial
  clear hK K hHeld
  rename _ => hHeld
  refine tk 2 (some 5) ?_
  refine tkU 3 (some 6) ?_
  refine tkU 4 (some 7) ?_
  refine tkU 5 (some 8) ?_
  refine tkU 6 (some 9) ?_
  refine tkU 7 (some 10) ?_
  refine tkU 8 (some 11) ?_
  refine tkU 9 (some 12) ?_
  refine tkU 10 (some 13) ?_
  refine tkU 11 (some 14) ?_
  refine tkU 12 (some 15) ?_
  refine tk 13 (some 16) ?_
  refine tk 14 (some 2) ?_
  refine wpAnyH_done (by kernel_rfl) ?_ _
  clear hHeld
  go_wp2_with fail
  go_ret
  exact ⟨rfl, HB.out⟩

set_option maxHeartbeats 4000000 in
set_option maxRecDepth 100000 in
theorem nilRecv (m : MOd) (W : World) : Calls Tryd.prog 22 #[.pointer none, .agg m.l.toArray] W fun e w' => e = .returned (.slice none 0 0) ∧ Below W.heap.size W w' := by
  obtain ⟨x, hx⟩ : ∃ x, m.l.toArray = x := ⟨_, rfl⟩
  rw [hx]
  clear hx
  obtain ⟨w1, hw1⟩ : ∃ w1, W.alloc (.cells x 32) = w1 := ⟨_, rfl⟩
  have HB : Hid (Below W.heap.size W w1.drew) := by rw [← hw1]; exact ((Below.refl _ W).alloc (Nat.le_refl _) _).drew
  have HL := Lib.hid rlives_nil
  go_enter Tryd.func22, Tryd.ntmps22
  go_upto_region 1 with (fail)
  go_step3
  go_upto_region 1 with (fail)
  refine wp_region_held_drew (S := fun _ => True) (by kernel_rfl) ?_ (fun hHeld => ?_)
  · trivial
  refine tk 0 (some 10) ?_
  refine rd1 1 (some 11) (fun K hK => ?_)
  go_simp
  refine (HL.out _).mono ?_
  rintro e w9 ⟨rfl, rfl⟩
  go_simp
  refine hK.out _ _ ?_ (fun hHeld2 => ?_)
  · trivial
  clear hK K hHeld
  rename _ => hHeld
  refine tk 2 (some 12) ?_
  refine tk 3 (some 13) ?_
  refine tkU 4 (some 14) ?_
  refine tkU 5 (some 15) ?_
  refine tkU 6 (some 16) ?_
  refine tkU 7 (some 17) ?_
  refine tkU 8 (some 18) ?_
  refine tkU 9 (some 19) ?_
  refine tkU 10 (some 20) ?_
  refine tk 11 (some 21) ?_
  refine wpAnyH_done (by kernel_rfl) ?_ _
  clear hHeld
  go_wp2_with fail
  try rw [Exit.noGoto_ret]
  go_ret
  exact ⟨rfl, HB.out⟩

set_option maxHeartbeats 4000000 in
set_option maxRecDepth 100000 in
theorem nilSRecv (m : MOd) (W : World) : Calls Tryd.prog 25 #[.pointer none, .agg m.l.toArray] W fun e w' => (∃ v, e = .returned v) ∧ Below W.heap.size W w' := by
  obtain ⟨x, hx⟩ : ∃ x, m.l.toArray = x := ⟨_, rfl⟩
  rw [hx]
  clear hx
  obtain ⟨w1, hw1⟩ : ∃ w1, W.alloc (.cells x 32) = w1 := ⟨_, rfl⟩
  have HB : Hid (Below W.heap.size W w1.drew) := by rw [← hw1]; exact ((Below.refl _ W).alloc (Nat.le_refl _) _).drew
  have HL := Lib.hid slives_nil
  go_enter Tryd.func25, Tryd.ntmps25
  go_upto_region 1 with (fail)
  refine wp_region_held_drew (S := fun _ => True) (by kernel_rfl) ?_ (fun hHeld => ?_)
  · trivial
  refine tk 0 (some 5) ?_
  refine rd1 1 (some 6) (fun K hK => ?_)
  go_simp
  refine (HL.out _).mono ?_
  rintro e w9 ⟨rfl, rfl⟩
  go_simp
  refine hK.out _ _ ?_ (fun hHeld2 => ?_)
  · trivial
  clear hK K hHeld
  rename _ => hHeld
  refine tk 2 (some 7) ?_
  refine tk 3 (some 8) ?_
  refine tkU 4 (some 9) ?_
  refine tkU 5 (some 10) ?_
  refine tkU 6 (some 11) ?_
  refine tkU 7 (some 12) ?_
  refine tkU 8 (some 13) ?_
  refine tkU 9 (some 14) ?_
  refine tkU 10 (some 15) ?_
  refine tk 11 (some 16) ?_
  refine tk 12 (some 17) ?_
  refine tkU 13 (some 18) ?_
  refine tkU 14 (some 19) ?_
  refine tkU 15 (some 20) ?_
  refine tkU 16 (some 21) ?_
  refine tkU 17 (some 22) ?_
  refine tkU 18 (some 23) ?_
  refine tkU 19 (some 24) ?_
  refine tkU 20 (some 25) ?_
  refine tk 21 (some 26) ?_
  refine wpAnyH_done (by kernel_rfl) ?_ _
  clear hHeld
  go_wp2_with fail
  try rw [Exit.noGoto_ret]
  first | (refine bodyPost_ret (results_none rfl _ _ _) rfl ?_) | (refine bodyPost_end (results_none rfl _ _ _) rfl ?_)
  exact ⟨⟨_, rfl⟩, HB.out⟩
end Go.Proofs.YtjkiidhnmljmbaaDoor
namespace Go.Proofs.YtjkiidhnmljmbaaDoor
open Go.RowKit
set_option maxHeartbeats 4000000 in
set_option maxRecDepth 100000 in
theorem nilTick (W : World) : Calls Tryd.prog 21 #[.pointer none, .int .i64 5] W fun e w' => e = .returned (.slice none 0 0) ∧ Below W.heap.size W w' := by
  obtain ⟨N, hN⟩ : ∃ N, W.heap.size = N := ⟨_, rfl⟩
  obtain ⟨w1, hw1⟩ : ∃ w1, W.alloc (.cells #[.pointer none] 48) = w1 := ⟨_, rfl⟩
  obtain ⟨w2, hw2⟩ : ∃ w2, w1.alloc (.cells #[.int .i64 5] 3) = w2 := ⟨_, rfl⟩
  have hb1 : Below N W w1 := by rw [← hw1, ← hN]; exact (Below.refl _ W).alloc (Nat.le_refl _) _
  have k1 : Blk w1 N 48 [.pointer none] := by rw [← hw1, ← hN]; exact Blk.new W _ _
  have hz1 : w1.heap.size = N + 1 := by rw [← hw1, World.size_alloc, hN]
  have hb2 : Below (N + 1) w1 w2 := by rw [← hw2, ← hz1]; exact (Below.refl _ w1).alloc (Nat.le_refl _) _
  have k2 : Blk w2 (N + 1) 3 [.int .i64 5] := by rw [← hw2, ← hz1]; exact Blk.new w1 _ _
  have HB2 : Hid (Below N W w2) := hb1.trans (hb2.mono (by omega))
  have c0 := (k1.kept (hb2.block N (by omega))).cell 0
  have c1 := k2.cell 0
  simp only [List.getElem?_cons_zero] at c0 c1
  have HN := Lib.hid hN
  have HLV := Lib.hid (slives_nil w2)
  clear hb1 k1 hb2 k2
  go_enter Tryd.func21, Tryd.ntmps21
  go_upto_region 1 with (fail)
  go_step3
  go_upto_region 1 with (fail)
  go_wp2_with fail
  refine HLV.out.mono ?_
  rintro e w' ⟨rfl, rfl⟩
  go_wp2_with fail
  rw [Exit.noGoto_ret]
  go_ret
  exact ⟨rfl, by first | exact HB2.out | (rw [HN.out]; exact HB2.out)⟩
set_option maxHeartbeats 4000000 in
set_option maxRecDepth 100000 in
theorem tick_neg (bs : Nat) (v0 v2 v3 : Value) (W : World) (h : Blk W bs 97 [v0, .bool true, v2, v3]) : Calls Tryd.prog 21 #[.pointer (some ⟨bs, 0, none⟩), .int .i64 (-1)] W fun e w' => e = .returned (.slice none 0 0) ∧ Below W.heap.size W w' := by
  obtain ⟨N, hN⟩ : ∃ N, W.heap.size = N := ⟨_, rfl⟩
  obtain ⟨w1, hw1⟩ : ∃ w1, W.alloc (.cells #[.pointer (some ⟨bs, 0, none⟩)] 48) = w1 := ⟨_, rfl⟩
  obtain ⟨w2, hw2⟩ : ∃ w2, w1.alloc (.cells #[.int .i64 (-1)] 3) = w2 := ⟨_, rfl⟩
  have hb1 : Below N W w1 := by rw [← hw1, ← hN]; exact (Below.refl _ W).alloc (Nat.le_refl _) _
  have k1 : Blk w1 N 48 [.pointer (some ⟨bs, 0, none⟩)] := by rw [← hw1, ← hN]; exact Blk.new W _ _
  have hz1 : w1.heap.size = N + 1 := by rw [← hw1, World.size_alloc, hN]
  have hb2 : Below (N + 1) w1 w2 := by rw [← hw2, ← hz1]; exact (Below.refl _ w1).alloc (Nat.le_refl _) _
  have k2 : Blk w2 (N + 1) 3 [.int .i64 (-1)] := by rw [← hw2, ← hz1]; exact Blk.new w1 _ _
  have HB2 : Hid (Below N W w2) := hb1.trans (hb2.mono (by omega))
  have c0 := (k1.kept (hb2.block N (by omega))).cell 0
  have c1 := k2.cell 0
  simp only [List.getElem?_cons_zero] at c0 c1
  have HN := Lib.hid hN
  have HLV := Lib.hid (slives_any bs _ _ _ w2 (h.kept (HB2.out.block bs (by rw [← hN]; exact h.lt))))
  clear hb1 k1 hb2 k2 h
  go_enter Tryd.func21, Tryd.ntmps21
  go_upto_region 1 with (fail)
  go_step3
  go_upto_region 1 with (fail)
  go_wp2_with fail
  refine HLV.out.mono ?_
  rintro e w' ⟨rfl, rfl⟩
  go_wp2_with fail
  rw [Exit.noGoto_ret]
  go_ret
  exact ⟨rfl, by first | exact HB2.out | (rw [HN.out]; exact HB2.out)⟩
end Go.Proofs.YtjkiidhnmljmbaaDoor
