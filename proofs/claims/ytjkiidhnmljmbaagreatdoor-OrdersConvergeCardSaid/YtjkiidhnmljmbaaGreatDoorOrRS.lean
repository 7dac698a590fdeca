/- Orders: the readers of the encodings: number, text, refuse. -/
import Derived.Deep.CutBlock
import Derived.Test.YtjkiidhnmljmbaaGreatDoorOrF
import Derived.Test.YtjkiidhnmljmbaaGreatDoorOrPQ
set_option linter.unusedVariables false
set_option linter.unusedSimpArgs false
set_option maxRecDepth 100000
set_option maxHeartbeats 8000000
namespace Go.Proofs.YtjkiidhnmljmbaaGreatDoor
open Go.RowKit Onair
attribute [local go_sem] Oper.semAt_some
def faultE (a : Int) (v : Value) : PanicEntry := { v := .iface 89 (.agg #[.int .i64 a, v]), recovered := false }
theorem refuse_any (rb : Nat) (s : ByteArray) (a : Int) (v : Value) (W : World) (hk : Blk W rb 94 [.string s, .int .i64 a]) : Calls Tryz.prog 41 #[.pointer (some ⟨rb, 0, none⟩), .iface 196 v] W fun e w' => e = .panicked [faultE a (.iface 196 v)] ∧ W = w' := by
 have c1 := hk.cell 1
 simp only [gz, gs] at c1
 go_enter Tryz.func41, Tryz.ntmps41
 go_wp2
 exact ⟨rfl, rfl, rfl⟩
theorem num_ok (rb : Nat) (s : ByteArray) (a : Int) (W : World) (hs : s.size ≤ maxLen) (hk : Blk W rb 94 [.string s, .int .i64 a]) (h : (intR s.data.toList a).2.2 = 0) :
  Calls Tryz.prog 40 #[.pointer (some ⟨rb, 0, none⟩)] W fun e w' => e = .returned (.int .i64 (intR s.data.toList a).1) ∧ Blk w' rb 94 [.string s, .int .i64 (intR s.data.toList a).2.1] ∧ Fr (fun c => c = rb) W w' := by
 obtain ⟨⟨x, y, z⟩, hr⟩ : ∃ r, intR s.data.toList a = r := ⟨_, rfl⟩
 have hi := fun W' => int_any s a W' hs
 rw [hr] at h hi ⊢
 have HI := Lib.hid hi
 have hS : W.cell? ⟨rb, 0, none⟩ = some (.string s) ∧ W.cell? ⟨rb, 1, none⟩ = some (.int .i64 a) := ⟨hk.cell 0, hk.cell 1⟩
 have HS := Lib.hid hS;have HK := Lib.hid hk
 dsimp only at h hi HI ⊢
 subst h;clear hr hk hi hS
 go_enter Tryz.func40, Tryz.ntmps40
 go_upto_region 1 with (fail)
 refine wp_region_held_drew (S := fun W => W.cell? ⟨rb, 0, none⟩ = some (.string s) ∧ W.cell? ⟨rb, 1, none⟩ = some (.int .i64 a)) (by kernel_rfl) ?_ (fun hHeld => ?_)
 ·exact HS.out
 refine tk 0 (some 7) ?_;refine tk 1 (some 8) ?_;refine tk 2 (some 9) ?_;refine tk 3 (some 10) ?_;refine tk 4 (some 11) ?_;refine tk 5 (some 12) ?_;refine tk 6 (some 13) ?_;refine tk 7 (some 14) ?_
 refine rd1 8 (some 15) (fun K hK => ?_)
 go_simp
 refine (HI.out _).mono ?_
 rintro e w' ⟨rfl, rfl⟩;go_simp
 refine hK.out _ _ ?_ (fun hHeld2 => ?_)
 ·exact HS.out
 clear hK K hHeld;rename _ => hHeld;refine tk 9 (some 6) ?_;refine tk 10 (some 16) ?_;refine tk 11 (some 17) ?_;refine tk 12 (some 18) ?_;refine tk 13 (some 3) ?_;refine tk 14 (some 4) ?_;refine tk 15 (some 5) ?_;refine wpAnyH_done (by kernel_rfl) ?_ _;clear hHeld;have HK2 := Lib.hid HK.out.drew
 have f1 := HK2.out.frozen 1
 have c1 := HK2.out.cell 1
 simp only [gz, gs] at c1
 go_wp2_with fail
 go_ret
 exact ⟨rfl, HK2.out.set 1 _, ((Fr.refl _ W).drew).setCell ⟨rb, 1, none⟩ _ (.inl rfl)⟩
theorem num_bad (rb : Nat) (s : ByteArray) (a : Int) (W : World) (er : Addr) (hg : W.cell? ⟨0, 0, none⟩ = some (.iface 196 (.pointer (some er)))) (hs : s.size ≤ maxLen) (hk : Blk W rb 94 [.string s, .int .i64 a]) (h : (intR s.data.toList a).2.2 ≠ 0) :
  Calls Tryz.prog 40 #[.pointer (some ⟨rb, 0, none⟩)] W fun e w' => e = .panicked [faultE a (.iface 196 (.pointer (some er)))] ∧ Below W.heap.size W w' := by
 obtain ⟨⟨x, y, z⟩, hr⟩ : ∃ r, intR s.data.toList a = r := ⟨_, rfl⟩
 have hi := fun W' => int_any s a W' hs
 rw [hr] at h hi;have HI := Lib.hid hi
 have hS : W.cell? ⟨rb, 0, none⟩ = some (.string s) ∧ W.cell? ⟨rb, 1, none⟩ = some (.int .i64 a) := ⟨hk.cell 0, hk.cell 1⟩
 have HS := Lib.hid hS;have HK := Lib.hid hk
 dsimp only at h hi HI
 have h' : (z != 0) = true := by rw [bne_iff_ne]; exact h
 have HG := Lib.hid hg;clear hr hk hi hS h hg
 go_enter Tryz.func40, Tryz.ntmps40
 go_upto_region 1 with (fail)
 refine wp_region_held_drew (S := fun W => W.cell? ⟨rb, 0, none⟩ = some (.string s) ∧ W.cell? ⟨rb, 1, none⟩ = some (.int .i64 a)) (by kernel_rfl) ?_ (fun hHeld => ?_)
 ·exact HS.out
 refine tk 0 (some 7) ?_;refine tk 1 (some 8) ?_;refine tk 2 (some 9) ?_;refine tk 3 (some 10) ?_;refine tk 4 (some 11) ?_;refine tk 5 (some 12) ?_;refine tk 6 (some 13) ?_;refine tk 7 (some 14) ?_
 refine rd1 8 (some 15) (fun K hK => ?_)
 go_simp
 refine (HI.out _).mono ?_
 rintro e w' ⟨rfl, rfl⟩;go_simp
 refine hK.out _ _ ?_ (fun hHeld2 => ?_)
 ·exact HS.out
 clear hK K hHeld;rename _ => hHeld;refine tk 9 (some 6) ?_;refine tk 10 (some 16) ?_;refine tk 11 (some 17) ?_;refine tk 12 (some 18) ?_;refine tk 13 (some 3) ?_;refine tk 14 (some 4) ?_;refine tk 15 (some 5) ?_;refine wpAnyH_done (by kernel_rfl) ?_ _;clear hHeld
 have g0 := HG.out
 go_wp2_with fail
 refine (refuse_any rb s a _ _ HK.out.drew).mono ?_
 rintro e w' ⟨rfl, rfl⟩
 go_wp2_with fail
 exact ⟨rfl, rfl, (Below.refl _ _).drew⟩
theorem txt_ok (rb : Nat) (s : ByteArray) (a : Int) (W : World) (hs : s.size ≤ maxLen) (hk : Blk W rb 94 [.string s, .int .i64 a]) (h : (strR s.data.toList a).2.2 = 0) :
  Calls Tryz.prog 42 #[.pointer (some ⟨rb, 0, none⟩)] W fun e w' => e = .returned (.string ⟨ (strR s.data.toList a).1.toArray⟩) ∧ Blk w' rb 94 [.string s, .int .i64 (strR s.data.toList a).2.1] ∧ Fr (fun c => c = rb) W w' := by
 obtain ⟨⟨x, y, z⟩, hr⟩ : ∃ r, strR s.data.toList a = r := ⟨_, rfl⟩
 have hi := fun W' => string_any s a W' hs
 rw [hr] at h hi ⊢
 have HI := Lib.hid hi
 have hS : W.cell? ⟨rb, 0, none⟩ = some (.string s) ∧ W.cell? ⟨rb, 1, none⟩ = some (.int .i64 a) := ⟨hk.cell 0, hk.cell 1⟩
 have HS := Lib.hid hS;have HK := Lib.hid hk
 dsimp only at h hi HI ⊢
 subst h;clear hr hk hi hS
 go_enter Tryz.func42, Tryz.ntmps42
 go_upto_region 1 with (fail)
 refine wp_region_held_drew (S := fun W => W.cell? ⟨rb, 0, none⟩ = some (.string s) ∧ W.cell? ⟨rb, 1, none⟩ = some (.int .i64 a)) (by kernel_rfl) ?_ (fun hHeld => ?_)
 ·exact HS.out
 refine tk 0 (some 7) ?_;refine tk 1 (some 8) ?_;refine tk 2 (some 9) ?_;refine tk 3 (some 10) ?_;refine tk 4 (some 11) ?_;refine tk 5 (some 12) ?_;refine tk 6 (some 13) ?_;refine tk 7 (some 14) ?_
 refine rd1 8 (some 15) (fun K hK => ?_)
 go_simp
 refine (HI.out _).mono ?_
 rintro e w' ⟨rfl, rfl⟩;go_simp
 refine hK.out _ _ ?_ (fun hHeld2 => ?_)
 ·exact HS.out
 clear hK K hHeld;rename _ => hHeld;refine tk 9 (some 6) ?_;refine tk 10 (some 16) ?_;refine tk 11 (some 17) ?_;refine tk 12 (some 18) ?_;refine tk 13 (some 3) ?_;refine tk 14 (some 4) ?_;refine tk 15 (some 5) ?_;refine wpAnyH_done (by kernel_rfl) ?_ _;clear hHeld;have HK2 := Lib.hid HK.out.drew
 have f1 := HK2.out.frozen 1
 have c1 := HK2.out.cell 1
 simp only [gz, gs] at c1
 go_wp2_with fail
 go_ret
 exact ⟨rfl, HK2.out.set 1 _, ((Fr.refl _ W).drew).setCell ⟨rb, 1, none⟩ _ (.inl rfl)⟩
theorem inum_ok (rb : Nat) (s : ByteArray) (a : Int) (W : World) (hs : s.size ≤ maxLen) (hk : Blk W rb 153 [.string s, .int .i64 a]) (h : (intR s.data.toList a).2.2 = 0) :
  Calls Tryz.prog 98 #[.pointer (some ⟨rb, 0, none⟩)] W fun e w' => e = .returned (.int .i64 (intR s.data.toList a).1) ∧ Blk w' rb 153 [.string s, .int .i64 (intR s.data.toList a).2.1] ∧ Fr (fun c => c = rb) W w' := by
 obtain ⟨⟨x, y, z⟩, hr⟩ : ∃ r, intR s.data.toList a = r := ⟨_, rfl⟩
 have hi := fun W' => int_any s a W' hs
 rw [hr] at h hi ⊢
 have HI := Lib.hid hi
 have hS : W.cell? ⟨rb, 0, none⟩ = some (.string s) ∧ W.cell? ⟨rb, 1, none⟩ = some (.int .i64 a) := ⟨hk.cell 0, hk.cell 1⟩
 have HS := Lib.hid hS;have HK := Lib.hid hk
 dsimp only at h hi HI ⊢
 subst h;clear hr hk hi hS
 go_enter Tryz.func98, Tryz.ntmps98
 go_upto_region 1 with (fail)
 refine wp_region_held_drew (S := fun W => W.cell? ⟨rb, 0, none⟩ = some (.string s) ∧ W.cell? ⟨rb, 1, none⟩ = some (.int .i64 a)) (by kernel_rfl) ?_ (fun hHeld => ?_)
 ·exact HS.out
 refine tk 0 (some 7) ?_;refine tk 1 (some 8) ?_;refine tk 2 (some 9) ?_;refine tk 3 (some 10) ?_;refine tk 4 (some 11) ?_;refine tk 5 (some 12) ?_;refine tk 6 (some 13) ?_;refine tk 7 (some 14) ?_
 refine rd1 8 (some 15) (fun K hK => ?_)
 go_simp
 refine (HI.out _).mono ?_
 rintro e w' ⟨rfl, rfl⟩;go_simp
 refine hK.out _ _ ?_ (fun hHeld2 => ?_)
 ·exact HS.out
 clear hK K hHeld;rename _ => hHeld;refine tk 9 (some 6) ?_;refine tk 10 (some 16) ?_;refine tk 11 (some 17) ?_;refine tk 12 (some 18) ?_;refine tk 13 (some 3) ?_;refine tk 14 (some 4) ?_;refine tk 15 (some 5) ?_;refine wpAnyH_done (by kernel_rfl) ?_ _;clear hHeld;have HK2 := Lib.hid HK.out.drew
 have f1 := HK2.out.frozen 1
 have c1 := HK2.out.cell 1
 simp only [gz, gs] at c1
 go_wp2_with fail
 go_ret
 exact ⟨rfl, HK2.out.set 1 _, ((Fr.refl _ W).drew).setCell ⟨rb, 1, none⟩ _ (.inl rfl)⟩
open Go.RowKit Onair
def OL : List UInt8 := [2, 1, 10, 4, 2]
def ordJ (j : Nat) : List Value := ((drA 1 5).toList.take j) ++ ((ordA 0 0 0 0 0).toList.drop j)
theorem order_ok (ib : Nat) (s : ByteArray) (W : World) (hs : s.data.toList = OL) (hk : Blk W ib 153 [.string s, .int .i64 0]) :
  Calls Tryz.prog 78 #[.pointer (some ⟨ib, 0, none⟩)] W fun e w' => e = .returned (.agg (drA 1 5)) ∧ Fr (fun c => c = ib) W w' := by
 obtain ⟨N, hN⟩ : ∃ N, W.heap.size = N := ⟨_, rfl⟩
 obtain ⟨w1, hw1⟩ : ∃ w1, W.alloc (.cells aZo 30) = w1 := ⟨_, rfl⟩
 obtain ⟨w2, hw2⟩ : ∃ w2, w1.alloc (.cells aZo 30) = w2 := ⟨_, rfl⟩
 obtain ⟨w3, hw3⟩ : ∃ w3, w2.alloc (.cells #[.pointer (some ⟨N + 1, 0, none⟩), .pointer (some ⟨N + 1, 1, none⟩), .pointer (some ⟨N + 1, 2, none⟩), .pointer (some ⟨N + 1, 3, none⟩)] 97) = w3 := ⟨_, rfl⟩
 have hz1 : w1.heap.size = N + 1 := by rw [← hw1, World.size_alloc, hN]
 have hz2 : w2.heap.size = N + 2 := by rw [← hw2, World.size_alloc, hz1]
 have ka : Blk w3 N 30 lZo := by
  have := Blk.new W 30 lZo
  rw [hN, hw1] at this;rw [← hw3, ← hw2]
  exact (this.alloc _).alloc _
 have kb : Blk w3 (N + 1) 30 lZo := by
  have := Blk.new w1 30 lZo
  rw [hz1, hw2] at this;rw [← hw3];exact this.alloc _
 have kc : Blk w3 (N + 2) 97 [.pointer (some ⟨N + 1, 0, none⟩), .pointer (some ⟨N + 1, 1, none⟩), .pointer (some ⟨N + 1, 2, none⟩), .pointer (some ⟨N + 1, 3, none⟩)] := by
  have := Blk.new w2 97 [.pointer (some ⟨N + 1, 0, none⟩), .pointer (some ⟨N + 1, 1, none⟩), .pointer (some ⟨N + 1, 2, none⟩), .pointer (some ⟨N + 1, 3, none⟩)]
  rw [hz2, hw3] at this;exact this
 have hb3 : Below W.heap.size W w3 := by
  rw [← hw3, ← hw2, ← hw1]
  exact (((Below.refl _ W).alloc (Nat.le_refl _) _).alloc (by simp) _).alloc (by simp; omega) _
 have ki : Blk w3 ib 153 [.string s, .int .i64 ((0 : Nat) : Int)] := hk.kept (hb3.block _ hk.lt)
 have hib : ib < N := by rw [← hN]; exact hk.lt
 have KA := Lib.hid ka
 have KB : Hid (Blk w3 (N + 1) 30 (ordJ 0)) := kb
 have KC := Lib.hid kc;have KI := Lib.hid ki
 have HF3 : Hid (Fr (fun c => c = ib) W w3) := Fr.under _ hb3
 have hs5 : s.size = 5 := by rw [← blen, hs]; rfl
 have HSM : Hid (s.size ≤ maxLen) := (by rw [hs5]; decide : s.size ≤ maxLen)
 have HS := Lib.hid hs;have HS5 := Lib.hid hs5
 have HSZ := szO
 have HNN := Lib.hid hN;clear ka kb kc ki hb3 hk hs hs5
 go_enter Tryz.func78, Tryz.ntmps78
 go_wp2_with fail
 clear hw1 hw2 hw3 hz1 hz2 hN
 go_loopw [16] (fun vi wr => ∃ (j : Nat), j ≤ 4 ∧ vi = .int .i64 j ∧ Hid (Blk wr N 30 lZo) ∧ Hid (Blk wr (N + 1) 30 (ordJ j)) ∧ Hid (Blk wr (N + 2) 97 [.pointer (some ⟨N + 1, 0, none⟩), .pointer (some ⟨N + 1, 1, none⟩), .pointer (some ⟨N + 1, 2, none⟩), .pointer (some ⟨N + 1, 3, none⟩)]) ∧ Hid (Blk wr ib 153 [.string s, .int .i64 (j : Int)]) ∧ Hid (Fr (fun c => c = ib) W wr)) (fun v _ => 4 - (intOf v).toNat)
 case atStart => exact ⟨0, by omega, rfl, KA, KB, KC, KI, HF3⟩
 case round =>
  clear KA KB KC KI HF3
  obtain ⟨j, hj, rfl, KA, KB, KC, KI, HF⟩ := hrel
  by_cases h : j < 4
  ·have q1 : (j : Int) < 4 := by omega
   rcases (show j = 0 ∨ j = 1 ∨ j = 2 ∨ j = 3 from by omega) with rfl | rfl | rfl | rfl
   ·have hi : intR s.data.toList (0 : Int) = (1, 1, 0) := by rw [HS.out]; decide
    have hc := inum_ok ib s (0 : Int) wr HSM.out KI.out (by rw [hi])
    rw [hi] at hc;have HC := Lib.hid hc
    have c0 : wr.cell? ⟨N + 2, 0, none⟩ = some (.pointer (some ⟨N + 1, 0, none⟩)) := KC.out.cell 0
    clear hi hc h
    go_wp2_with fail
    refine HC.out.mono ?_
    rintro e w5 ⟨rfl, hk5, hf5⟩
    have KA5 := Lib.hid (KA.out.kept (hf5.block _ KA.out.lt (by omega)))
    have kb5 := KB.out.kept (hf5.block _ KB.out.lt (by omega))
    have KC5 := Lib.hid (KC.out.kept (hf5.block _ KC.out.lt (by omega)))
    have c1 : w5.cell? ⟨N + 1, 0, none⟩ = some (.int .i64 0) := kb5.cell 0
    have f1 := kb5.frozen 0
    have KB6 : Hid (Blk (w5.setCell ⟨N + 1, 0, none⟩ (.int .i64 1)) (N + 1) 30 (ordJ 1)) := kb5.set 0 (.int .i64 1)
    have KA6 := Lib.hid (KA5.out.other ⟨N + 1, 0, none⟩ (show N + 1 ≠ N by omega) (.int .i64 1))
    have KC6 := Lib.hid (KC5.out.other ⟨N + 1, 0, none⟩ (show N + 1 ≠ N + 2 by omega) (.int .i64 1))
    have KI6 := Lib.hid (hk5.other ⟨N + 1, 0, none⟩ (show N + 1 ≠ ib by omega) (.int .i64 1))
    have HF6 := Lib.hid ((HF.out.trans hf5 (fun _ _ h => h)).setCell ⟨N + 1, 0, none⟩ (.int .i64 1) (.inr (by rw [HNN.out]; show N ≤ N + 1; omega)))
    clear kb5 hk5 hf5 KA5 KC5 HC c0
    go_wp2_with fail
    clear c1 f1
    go_roundw
    case rel => exact ⟨1, by omega, rfl, KA6, KB6, KC6, KI6, HF6⟩
    case measure => simp [intOf]
   ·have hi : intR s.data.toList (1 : Int) = ((-1), 2, 0) := by rw [HS.out]; decide
    have hc := inum_ok ib s (1 : Int) wr HSM.out KI.out (by rw [hi])
    rw [hi] at hc;have HC := Lib.hid hc
    have c0 : wr.cell? ⟨N + 2, 1, none⟩ = some (.pointer (some ⟨N + 1, 1, none⟩)) := KC.out.cell 1
    clear hi hc h
    go_wp2_with fail
    refine HC.out.mono ?_
    rintro e w5 ⟨rfl, hk5, hf5⟩
    have KA5 := Lib.hid (KA.out.kept (hf5.block _ KA.out.lt (by omega)))
    have kb5 := KB.out.kept (hf5.block _ KB.out.lt (by omega))
    have KC5 := Lib.hid (KC.out.kept (hf5.block _ KC.out.lt (by omega)))
    have c1 : w5.cell? ⟨N + 1, 1, none⟩ = some (.int .i64 0) := kb5.cell 1
    have f1 := kb5.frozen 1
    have KB6 : Hid (Blk (w5.setCell ⟨N + 1, 1, none⟩ (.int .i64 (-1))) (N + 1) 30 (ordJ 2)) := kb5.set 1 (.int .i64 (-1))
    have KA6 := Lib.hid (KA5.out.other ⟨N + 1, 1, none⟩ (show N + 1 ≠ N by omega) (.int .i64 (-1)))
    have KC6 := Lib.hid (KC5.out.other ⟨N + 1, 1, none⟩ (show N + 1 ≠ N + 2 by omega) (.int .i64 (-1)))
    have KI6 := Lib.hid (hk5.other ⟨N + 1, 1, none⟩ (show N + 1 ≠ ib by omega) (.int .i64 (-1)))
    have HF6 := Lib.hid ((HF.out.trans hf5 (fun _ _ h => h)).setCell ⟨N + 1, 1, none⟩ (.int .i64 (-1)) (.inr (by rw [HNN.out]; show N ≤ N + 1; omega)))
    clear kb5 hk5 hf5 KA5 KC5 HC c0
    go_wp2_with fail
    clear c1 f1
    go_roundw
    case rel => exact ⟨2, by omega, rfl, KA6, KB6, KC6, KI6, HF6⟩
    case measure => simp [intOf]
   ·have hi : intR s.data.toList (2 : Int) = (5, 3, 0) := by rw [HS.out]; decide
    have hc := inum_ok ib s (2 : Int) wr HSM.out KI.out (by rw [hi])
    rw [hi] at hc;have HC := Lib.hid hc
    have c0 : wr.cell? ⟨N + 2, 2, none⟩ = some (.pointer (some ⟨N + 1, 2, none⟩)) := KC.out.cell 2
    clear hi hc h
    go_wp2_with fail
    refine HC.out.mono ?_
    rintro e w5 ⟨rfl, hk5, hf5⟩
    have KA5 := Lib.hid (KA.out.kept (hf5.block _ KA.out.lt (by omega)))
    have kb5 := KB.out.kept (hf5.block _ KB.out.lt (by omega))
    have KC5 := Lib.hid (KC.out.kept (hf5.block _ KC.out.lt (by omega)))
    have c1 : w5.cell? ⟨N + 1, 2, none⟩ = some (.int .i64 0) := kb5.cell 2
    have f1 := kb5.frozen 2
    have KB6 : Hid (Blk (w5.setCell ⟨N + 1, 2, none⟩ (.int .i64 5)) (N + 1) 30 (ordJ 3)) := kb5.set 2 (.int .i64 5)
    have KA6 := Lib.hid (KA5.out.other ⟨N + 1, 2, none⟩ (show N + 1 ≠ N by omega) (.int .i64 5))
    have KC6 := Lib.hid (KC5.out.other ⟨N + 1, 2, none⟩ (show N + 1 ≠ N + 2 by omega) (.int .i64 5))
    have KI6 := Lib.hid (hk5.other ⟨N + 1, 2, none⟩ (show N + 1 ≠ ib by omega) (.int .i64 5))
    have HF6 := Lib.hid ((HF.out.trans hf5 (fun _ _ h => h)).setCell ⟨N + 1, 2, none⟩ (.int .i64 5) (.inr (by rw [HNN.out]; show N ≤ N + 1; omega)))
    clear kb5 hk5 hf5 KA5 KC5 HC c0
    go_wp2_with fail
    clear c1 f1
    go_roundw
    case rel => exact ⟨3, by omega, rfl, KA6, KB6, KC6, KI6, HF6⟩
    case measure => simp [intOf]
   ·have hi : intR s.data.toList (3 : Int) = (2, 4, 0) := by rw [HS.out]; decide
    have hc := inum_ok ib s (3 : Int) wr HSM.out KI.out (by rw [hi])
    rw [hi] at hc;have HC := Lib.hid hc
    have c0 : wr.cell? ⟨N + 2, 3, none⟩ = some (.pointer (some ⟨N + 1, 3, none⟩)) := KC.out.cell 3
    clear hi hc h
    go_wp2_with fail
    refine HC.out.mono ?_
    rintro e w5 ⟨rfl, hk5, hf5⟩
    have KA5 := Lib.hid (KA.out.kept (hf5.block _ KA.out.lt (by omega)))
    have kb5 := KB.out.kept (hf5.block _ KB.out.lt (by omega))
    have KC5 := Lib.hid (KC.out.kept (hf5.block _ KC.out.lt (by omega)))
    have c1 : w5.cell? ⟨N + 1, 3, none⟩ = some (.int .i64 0) := kb5.cell 3
    have f1 := kb5.frozen 3
    have KB6 : Hid (Blk (w5.setCell ⟨N + 1, 3, none⟩ (.int .i64 2)) (N + 1) 30 (ordJ 4)) := kb5.set 3 (.int .i64 2)
    have KA6 := Lib.hid (KA5.out.other ⟨N + 1, 3, none⟩ (show N + 1 ≠ N by omega) (.int .i64 2))
    have KC6 := Lib.hid (KC5.out.other ⟨N + 1, 3, none⟩ (show N + 1 ≠ N + 2 by omega) (.int .i64 2))
    have KI6 := Lib.hid (hk5.other ⟨N + 1, 3, none⟩ (show N + 1 ≠ ib by omega) (.int .i64 2))
    have HF6 := Lib.hid ((HF.out.trans hf5 (fun _ _ h => h)).setCell ⟨N + 1, 3, none⟩ (.int .i64 2) (.inr (by rw [HNN.out]; show N ≤ N + 1; omega)))
    clear kb5 hk5 hf5 KA5 KC5 HC c0
    go_wp2_with fail
    clear c1 f1
    go_roundw
    case rel => exact ⟨4, by omega, rfl, KA6, KB6, KC6, KI6, HF6⟩
    case measure => simp [intOf]
  ·have q1 : ¬ (j : Int) < 4 := by omega
   obtain rfl : j = 4 := by omega
   have c3 : wr.cell? ⟨N + 1, 3, none⟩ = some (.int .i64 2) := KB.out.cell 3
   clear h KC
   go_wp2_with fail
   refine (numbers_drop (N + 1) wr c3).mono ?_
   rintro e w6 ⟨nb, rfl, hkn, hnb, hb6⟩
   have KA6 := Lib.hid (KA.out.kept (hb6.block _ KA.out.lt))
   have KB6 := Lib.hid (KB.out.kept (hb6.block _ KB.out.lt))
   have KI6 := Lib.hid (KI.out.kept (hb6.block _ KI.out.lt))
   have HF6 := Lib.hid (HF.out.trans (Fr.under (fun _ => False) hb6) (fun _ _ e => e.elim))
   have hnN : N + 1 < nb := by have := KB.out.lt; omega
   have KN := Lib.hid hkn;clear hkn hnb hb6 KA KB KI HF c3 hj
   go_wp2_with fail
   go_loopw [36] (fun vi wr => ∃ (j : Nat), j ≤ 1 ∧ vi = .int .i64 j ∧ Hid (Blk wr N 30 lZo) ∧ Hid (Blk wr (N + 1) 30 (ordJ (4 + j))) ∧ Hid (Blk wr nb 97 [.pointer (some ⟨N + 1, 4, none⟩)]) ∧ Hid (Blk wr ib 153 [.string s, .int .i64 ((4 + j : Nat) : Int)]) ∧ Hid (Fr (fun c => c = ib) W wr)) (fun v _ => 1 - (intOf v).toNat)
   case atStart => exact ⟨0, by omega, rfl, KA6, KB6, KN, KI6, HF6⟩
   case round =>
    clear KA6 KB6 KN KI6 HF6
    obtain ⟨j, hj, rfl, KA, KB, KN, KI, HF⟩ := hrel
    by_cases h : j < 1
    ·obtain rfl : j = 0 := by omega
     have hi : intR s.data.toList (4 : Int) = (1, 5, 0) := by rw [HS.out]; decide
     have hc := inum_ok ib s (4 : Int) wr HSM.out KI.out (by rw [hi])
     rw [hi] at hc;have HC := Lib.hid hc
     have c0 : wr.cell? ⟨nb, 0, none⟩ = some (.pointer (some ⟨N + 1, 4, none⟩)) := KN.out.cell 0
     clear hi hc h
     go_wp2_with fail
     refine HC.out.mono ?_
     rintro e w5 ⟨rfl, hk5, hf5⟩
     have KA5 := Lib.hid (KA.out.kept (hf5.block _ KA.out.lt (by omega)))
     have kb5 := KB.out.kept (hf5.block _ KB.out.lt (by omega))
     have KC5 := Lib.hid (KN.out.kept (hf5.block _ KN.out.lt (by omega)))
     have c1 : w5.cell? ⟨N + 1, 4, none⟩ = some (.int .i64 0) := kb5.cell 4
     have f1 := kb5.frozen 4
     have KB6 : Hid (Blk (w5.setCell ⟨N + 1, 4, none⟩ (.int .i64 1)) (N + 1) 30 (ordJ (4 + 1))) := kb5.set 4 (.int .i64 1)
     have KA6 := Lib.hid (KA5.out.other ⟨N + 1, 4, none⟩ (show N + 1 ≠ N by omega) (.int .i64 1))
     have KC6 := Lib.hid (KC5.out.other ⟨N + 1, 4, none⟩ (show N + 1 ≠ nb by omega) (.int .i64 1))
     have KI6 := Lib.hid (hk5.other ⟨N + 1, 4, none⟩ (show N + 1 ≠ ib by omega) (.int .i64 1))
     have HF6 := Lib.hid ((HF.out.trans hf5 (fun _ _ h => h)).setCell ⟨N + 1, 4, none⟩ (.int .i64 1) (.inr (by rw [HNN.out]; show N ≤ N + 1; omega)))
     clear kb5 hk5 hf5 KA5 KC5 HC c0
     go_wp2_with fail
     clear c1 f1
     go_roundw
     case rel => exact ⟨1, by omega, rfl, KA6, KB6, KC6, KI6, HF6⟩
     case measure => simp [intOf]
    ·have q1 : ¬ (j : Int) < 1 := by omega
     obtain rfl : j = 1 := by omega
     have c3 : wr.cell? ⟨N + 1, 3, none⟩ = some (.int .i64 2) := KB.out.cell 3
     clear h KN hj
     go_upto_region 27 with (fail)
     have hi0 : wr.cell? ⟨ib, 0, none⟩ = some (.string s) := KI.out.cell 0
     have hi1 : wr.cell? ⟨ib, 1, none⟩ = some (.int .i64 5) := KI.out.cell 1
     have hne : ((5 : Int) != (s.size : Int)) = false := by rw [HS5.out]; rfl
     have HR : Hid (wr.rangeAt (N + 1) 0 (drA 1 5).toList) := KB.out.range
     have HO1 : Hid ((drA 1 5).all (·.oneCell') = true) := (by unfold drA ordA; simp [Value.oneCell'] : (drA 1 5).all (·.oneCell') = true)
     have HO2 : Hid (aZo.size = (drA 1 5).size) := rfl
     clear c3
     refine wp_region_held_drew (S := fun W => W.cell? ⟨ib, 0, none⟩ = some (.string s) ∧ W.cell? ⟨ib, 1, none⟩ = some (.int .i64 5)) (by kernel_rfl) ?_ (fun hHeld => ?_)
     ·exact ⟨hi0, hi1⟩
     refine tk 0 (some 82) ?_;refine tk 1 (some 83) ?_;refine tk 2 (some 84) ?_;refine tk 3 (some 85) ?_;refine tk 4 (some 86) ?_;refine tk 5 (some 87) ?_;refine tk 6 (some 88) ?_;refine tk 7 (some 89) ?_;refine tk 8 (some 90) ?_
     refine tk 9 (some 91) (v := .bool false) ?_ (hy := by (intro w hSw; (try dsimp only at hSw); go_simp; (first | done | (with_reducible rfl) | exact hne | simpa using hne)))
     refine wpAnyH_done (by kernel_rfl) ?_ _;clear hHeld
     go_wp2_with (first | (refine wpList_load_mid rfl 30 (.tmp 3) rfl (N + 1) 0 rfl (drA 1 5).toList _ HR.out Tryz.underlying30 rfl HSZ.out ?_) | (refine wpList_store_row rfl 30 (.tmp 2) (.tmp 93) rfl N (drA 1 5) rfl rfl 30 _ KA.out HSZ.out HO2.out HO1.out ?_))
     refine bodyPost_ret (results_cell_row Tryz.results78 _ _ N 30 (drA 1 5) (0, 0) _ rfl (setRow_heap _ _ _ _ _ _ KA.out) Tryz.underlying30 rfl HSZ.out) rfl ?_
     exact ⟨rfl, HF.out.drew.setRow N _ (.inr (by rw [HNN.out]; exact Nat.le_refl _))⟩
end Go.Proofs.YtjkiidhnmljmbaaGreatDoor
