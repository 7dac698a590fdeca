/-
  Orders: the decoding of a fixed message.
-/
import Derived.Test.YtjkiidhnmljmbaaDoorOrQ
import Derived.Test.YtjkiidhnmljmbaaDoorOrT
import Derived.Test.YtjkiidhnmljmbaaDoorOrK
set_option linter.unusedVariables false
set_option linter.unusedSimpArgs false
namespace Go.Proofs.YtjkiidhnmljmbaaDoor
open Go.RowKit Onair
/-- The encoding of the message with that order for machine 1. -/
def SL : List UInt8 := [2, 2, 2, 0, 0, 10, 2, 1, 10, 4, 2]
theorem encMs_SL : encMs 1 1 5 = SL := by decide
/-- The cells of the message of which the first j numbers are read. -/
def msgJ (j : Nat) : List Value := (([1, 1, 1, 0, 0] : List Int).take j ++ ([0, 0, 0, 0, 0] : List Int).drop j).map (fun x => Value.int .i64 x) ++ (ordA 0 0 0 0 0).toList
theorem msgJ_set : setsL (msgJ 5) 5 (drA 1 5).toList = (msgA 1 1 1 0 0 1 (-1) 5 2 1).toList := by kernel_rfl
/-- Behind the reading of j numbers of the message. -/
structure DcS (W : World) (N : Nat) (s : ByteArray) (a : Int) (l : List Value) (A : World) : Prop where
  ka : Blk A N 32 (msgJ 0)
  kb : Blk A (N + 1) 35 [.int .i64 0]
  ki : Blk A (N + 2) 84 [.string s, .int .i64 a]
  km : Blk A (N + 3) 32 l
  bel : Below N W A
theorem DcS.num {W A A' : World} {N : Nat} {s : ByteArray} {a a' : Int} {l : List Value} (h : DcS W N s a l A) (hk : Blk A' (N + 2) 84 [.string s, .int .i64 a']) (hf : Fr (fun c => c = N + 2) A A') : DcS W N s a' l A' :=
  ⟨h.ka.kept (hf.block _ h.ka.lt (by omega)), h.kb.kept (hf.block _ h.kb.lt (by omega)), hk, h.km.kept (hf.block _ h.km.lt (by omega)), h.bel.trans (hf.below N (by have := h.ka.lt; omega) (fun c e => by omega))⟩
theorem DcS.set {W A : World} {N : Nat} {s : ByteArray} {a : Int} {l : List Value} (h : DcS W N s a l A) (j : Nat) (v : Value) : DcS W N s a (l.set j v) (A.setCell ⟨N + 3, j, none⟩ v) :=
  ⟨h.ka.other _ (show N + 3 ≠ N by omega) _, h.kb.other _ (show N + 3 ≠ N + 1 by omega) _, h.ki.other _ (show N + 3 ≠ N + 2 by omega) _, h.km.set j v, h.bel.setCell (p := ⟨N + 3, j, none⟩) (show N ≤ N + 3 by omega) v⟩
theorem DcS.below {W A A' : World} {N : Nat} {s : ByteArray} {a : Int} {l : List Value} (h : DcS W N s a l A) (hb : Below A.heap.size A A') : DcS W N s a l A' :=
  ⟨h.ka.kept (hb.block _ h.ka.lt), h.kb.kept (hb.block _ h.kb.lt), h.ki.kept (hb.block _ h.ki.lt), h.km.kept (hb.block _ h.km.lt), h.bel.trans (hb.mono (by have := h.ka.lt; omega))⟩
theorem dcs_new (W : World) (N : Nat) (s : ByteArray) (hN : W.heap.size = N) : DcS W N s 0 (msgJ 0) ((((W.alloc (.cells #[.int .i64 0, .int .i64 0, .int .i64 0, .int .i64 0, .int .i64 0, .int .i64 0, .int .i64 0, .int .i64 0, .int .i64 0, .int .i64 0, .int .i64 0, .int .i64 0, .int .i64 0, .int .i64 0, .int .i64 0, .int .i64 0, .int .i64 0, .slice none 0 0, .int .i64 0, .int .i64 0, .int .i64 0, .int .i64 0, .int .i64 0, .int .i64 0, .int .i64 0, .int .i64 0, .int .i64 0, .int .i64 0, .int .i64 0, .int .i64 0, .string ⟨#[]⟩] 32)).alloc (.cells #[.int .i64 0] 35)).alloc (.cells #[.string s, .int .i64 0] 84)).alloc (.cells #[.int .i64 0, .int .i64 0, .int .i64 0, .int .i64 0, .int .i64 0, .int .i64 0, .int .i64 0, .int .i64 0, .int .i64 0, .int .i64 0, .int .i64 0, .int .i64 0, .int .i64 0, .int .i64 0, .int .i64 0, .int .i64 0, .int .i64 0, .slice none 0 0, .int .i64 0, .int .i64 0, .int .i64 0, .int .i64 0, .int .i64 0, .int .i64 0, .int .i64 0, .int .i64 0, .int .i64 0, .int .i64 0, .int .i64 0, .int .i64 0, .string ⟨#[]⟩] 32)) := by
  obtain ⟨w1, hw1⟩ : ∃ w1, W.alloc (.cells #[.int .i64 0, .int .i64 0, .int .i64 0, .int .i64 0, .int .i64 0, .int .i64 0, .int .i64 0, .int .i64 0, .int .i64 0, .int .i64 0, .int .i64 0, .int .i64 0, .int .i64 0, .int .i64 0, .int .i64 0, .int .i64 0, .int .i64 0, .slice none 0 0, .int .i64 0, .int .i64 0, .int .i64 0, .int .i64 0, .int .i64 0, .int .i64 0, .int .i64 0, .int .i64 0, .int .i64 0, .int .i64 0, .int .i64 0, .int .i64 0, .string ⟨#[]⟩] 32) = w1 := ⟨_, rfl⟩
  obtain ⟨w2, hw2⟩ : ∃ w2, w1.alloc (.cells #[.int .i64 0] 35) = w2 := ⟨_, rfl⟩
  obtain ⟨w3, hw3⟩ : ∃ w3, w2.alloc (.cells #[.string s, .int .i64 0] 84) = w3 := ⟨_, rfl⟩
  have hz1 : w1.heap.size = N + 1 := by rw [← hw1, World.size_alloc, hN]
  have hz2 : w2.heap.size = N + 2 := by rw [← hw2, World.size_alloc, hz1]
  have hz3 : w3.heap.size = N + 3 := by rw [← hw3, World.size_alloc, hz2]
  have ka := Blk.new W 32 [.int .i64 0, .int .i64 0, .int .i64 0, .int .i64 0, .int .i64 0, .int .i64 0, .int .i64 0, .int .i64 0, .int .i64 0, .int .i64 0, .int .i64 0, .int .i64 0, .int .i64 0, .int .i64 0, .int .i64 0, .int .i64 0, .int .i64 0, .slice none 0 0, .int .i64 0, .int .i64 0, .int .i64 0, .int .i64 0, .int .i64 0, .int .i64 0, .int .i64 0, .int .i64 0, .int .i64 0, .int .i64 0, .int .i64 0, .int .i64 0, .string ⟨#[]⟩]
  rw [hN, hw1] at ka
  have kb := Blk.new w1 35 [.int .i64 0]
  rw [hz1, hw2] at kb
  have kc := Blk.new w2 84 [.string s, .int .i64 0]
  rw [hz2, hw3] at kc
  have kd := Blk.new w3 32 [.int .i64 0, .int .i64 0, .int .i64 0, .int .i64 0, .int .i64 0, .int .i64 0, .int .i64 0, .int .i64 0, .int .i64 0, .int .i64 0, .int .i64 0, .int .i64 0, .int .i64 0, .int .i64 0, .int .i64 0, .int .i64 0, .int .i64 0, .slice none 0 0, .int .i64 0, .int .i64 0, .int .i64 0, .int .i64 0, .int .i64 0, .int .i64 0, .int .i64 0, .int .i64 0, .int .i64 0, .int .i64 0, .int .i64 0, .int .i64 0, .string ⟨#[]⟩]
  rw [hz3] at kd
  rw [hw1, hw2, hw3]
  have ka3 : Blk w3 N 32 [.int .i64 0, .int .i64 0, .int .i64 0, .int .i64 0, .int .i64 0, .int .i64 0, .int .i64 0, .int .i64 0, .int .i64 0, .int .i64 0, .int .i64 0, .int .i64 0, .int .i64 0, .int .i64 0, .int .i64 0, .int .i64 0, .int .i64 0, .slice none 0 0, .int .i64 0, .int .i64 0, .int .i64 0, .int .i64 0, .int .i64 0, .int .i64 0, .int .i64 0, .int .i64 0, .int .i64 0, .int .i64 0, .int .i64 0, .int .i64 0, .string ⟨#[]⟩] := by rw [← hw3, ← hw2]; exact (ka.alloc _).alloc _
  have kb3 : Blk w3 (N + 1) 35 [.int .i64 0] := by rw [← hw3]; exact kb.alloc _
  have hb3 : Below N W w3 := by
    rw [← hw3, ← hw2, ← hw1, ← hN]
    exact (((Below.refl _ W).alloc (Nat.le_refl _) _).alloc (by simp) _).alloc (by simp; omega) _
  exact ⟨ka3.alloc _, kb3.alloc _, kc.alloc _, kd, hb3.alloc (by omega) _⟩
set_option maxHeartbeats 8000000 in
set_option maxRecDepth 100000 in
theorem decode_ok (s : ByteArray) (W : World) (hs : s.data.toList = SL) :
    Calls Tryd.prog 12 #[.string s] W fun e w' => e = .returned (.tuple #[.agg (msgA 1 1 1 0 0 1 (-1) 5 2 1), .int .i64 0]) ∧ Below W.heap.size W w' := by
  have hmf : ∀ (fn : Fn) (first cap : Array Value) (w : World), (Instr.makeFunc fn first cap).run Tryd.prog w = .ok (.func fn first cap) w := fun _ _ _ _ => rfl
  obtain ⟨N, hN⟩ : ∃ N, W.heap.size = N := ⟨_, rfl⟩
  have HD0 := Lib.hid (dcs_new W N s hN)
  have hs11 : s.size = 11 := by rw [← blen, hs]; rfl
  have HSM : Hid (s.size ≤ maxLen) := (by rw [hs11]; decide : s.size ≤ maxLen)
  have HS := Lib.hid hs
  have HS11 := Lib.hid hs11
  have HSZ := Lib.hid (show (Tryd.prog.info? 30).map (·.size) = some 26 from by kernel_rfl)
  have HSG := Lib.hid (show (Tryd.prog.info? 32).map (·.size) = some 31 from by kernel_rfl)
  have HO1 : Hid ((drA 1 5).all (·.oneCell') = true) := (by unfold drA ordA; simp [Value.oneCell'] : (drA 1 5).all (·.oneCell') = true)
  have HO2 : Hid ((ordA 0 0 0 0 0).toList.toArray.size = (drA 1 5).size) := rfl
  have HO3 : Hid ((msgA 1 1 1 0 0 1 (-1) 5 2 1).all (·.oneCell') = true) := (by unfold msgA; simp [Value.oneCell'] : (msgA 1 1 1 0 0 1 (-1) 5 2 1).all (·.oneCell') = true)
  have HO4 : Hid ((msgJ 0).toArray.size = (msgA 1 1 1 0 0 1 (-1) 5 2 1).size) := rfl
  have HNN := Lib.hid hN
  clear hs hs11 hN
  go_enter_defers Tryd.func12, Tryd.ntmps12
  go_wp2_with fail
  rw [HNN.out]
  obtain ⟨x0, hx0⟩ : ∃ x0, (((W.alloc (.cells #[.int .i64 0, .int .i64 0, .int .i64 0, .int .i64 0, .int .i64 0, .int .i64 0, .int .i64 0, .int .i64 0, .int .i64 0, .int .i64 0, .int .i64 0, .int .i64 0, .int .i64 0, .int .i64 0, .int .i64 0, .int .i64 0, .int .i64 0, .slice none 0 0, .int .i64 0, .int .i64 0, .int .i64 0, .int .i64 0, .int .i64 0, .int .i64 0, .int .i64 0, .int .i64 0, .int .i64 0, .int .i64 0, .int .i64 0, .int .i64 0, .string ⟨#[]⟩] 32)).alloc (.cells #[.int .i64 0] 35)).alloc (.cells #[.string s, .int .i64 0] 84)).alloc (.cells #[.int .i64 0, .int .i64 0, .int .i64 0, .int .i64 0, .int .i64 0, .int .i64 0, .int .i64 0, .int .i64 0, .int .i64 0, .int .i64 0, .int .i64 0, .int .i64 0, .int .i64 0, .int .i64 0, .int .i64 0, .int .i64 0, .int .i64 0, .slice none 0 0, .int .i64 0, .int .i64 0, .int .i64 0, .int .i64 0, .int .i64 0, .int .i64 0, .int .i64 0, .int .i64 0, .int .i64 0, .int .i64 0, .int .i64 0, .int .i64 0, .string ⟨#[]⟩] 32) = x0 := ⟨_, rfl⟩
  rw [hx0] at HD0 ⊢
  clear hx0
  have hi : intR s.data.toList (0 : Int) = (1, 1, 0) := by rw [HS.out]; decide
  have hc := num_ok (N + 2) s (0 : Int) x0 HSM.out HD0.out.ki (by rw [hi])
  rw [hi] at hc
  have HC := Lib.hid hc
  clear hi hc
  refine HC.out.mono ?_
  rintro e w5 ⟨rfl, hk5, hf5⟩
  have hd5 := HD0.out.num hk5 hf5
  have c1 : w5.cell? ⟨N + 3, 0, none⟩ = some (.int .i64 0) := hd5.km.cell 0
  have f1 := hd5.km.frozen 0
  have hd6 := hd5.set 0 (.int .i64 1)
  have HD2 : Hid (DcS W N s ((1 + 0 : Nat) : Int) (msgJ (1 + 0)) (w5.setCell ⟨N + 3, 0, none⟩ (.int .i64 1))) := hd6
  clear hk5 hf5 hd5 hd6 HC
  go_wp2_with fail
  clear c1 f1
  go_loopw [34] (fun vi wr => ∃ (j : Nat), j ≤ 4 ∧ vi = .int .i64 j ∧ Hid (DcS W N s ((1 + j : Nat) : Int) (msgJ (1 + j)) wr)) (fun v _ => 4 - (intOf v).toNat)
  case atStart => exact ⟨0, by omega, rfl, HD2⟩
  case round =>
    clear HD2
    obtain ⟨j, hj, rfl, HD⟩ := hrel
    by_cases h : j < 4
    · have q1 : (j : Int) < 4 := by omega
      rcases (show j = 0 ∨ j = 1 ∨ j = 2 ∨ j = 3 from by omega) with rfl | rfl | rfl | rfl
      · have hidx : ∀ W', (Instr.index 88 (.agg #[.pointer (some ⟨N + 3, 1, none⟩), .pointer (some ⟨N + 3, 2, none⟩), .pointer (some ⟨N + 3, 3, none⟩), .pointer (some ⟨N + 3, 4, none⟩)]) (.int .i64 0)).run Tryd.prog W' = .ok (.pointer (some ⟨N + 3, 1, none⟩)) W' := fun W' => by kernel_rfl
        have hi : intR s.data.toList (1 : Int) = (1, 2, 0) := by rw [HS.out]; decide
        have hc := num_ok (N + 2) s (1 : Int) wr HSM.out HD.out.ki (by rw [hi])
        rw [hi] at hc
        have HC := Lib.hid hc
        clear hi hc
        clear h
        go_wp2_with fail
        clear hidx
        refine HC.out.mono ?_
        rintro e w5 ⟨rfl, hk5, hf5⟩
        have hd5 := HD.out.num hk5 hf5
        have c1 : w5.cell? ⟨N + 3, 1, none⟩ = some (.int .i64 0) := hd5.km.cell 1
        have f1 := hd5.km.frozen 1
        have HD6 : Hid (DcS W N s ((1 + 1 : Nat) : Int) (msgJ (1 + 1)) (w5.setCell ⟨N + 3, 1, none⟩ (.int .i64 1))) := hd5.set 1 (.int .i64 1)
        clear hk5 hf5 hd5 HC
        go_wp2_with fail
        clear c1 f1
        go_roundw
        case rel => exact ⟨1, by omega, rfl, HD6⟩
        case measure => simp [intOf]
      · have hidx : ∀ W', (Instr.index 88 (.agg #[.pointer (some ⟨N + 3, 1, none⟩), .pointer (some ⟨N + 3, 2, none⟩), .pointer (some ⟨N + 3, 3, none⟩), .pointer (some ⟨N + 3, 4, none⟩)]) (.int .i64 1)).run Tryd.prog W' = .ok (.pointer (some ⟨N + 3, 2, none⟩)) W' := fun W' => by kernel_rfl
        have hi : intR s.data.toList (2 : Int) = (1, 3, 0) := by rw [HS.out]; decide
        have hc := num_ok (N + 2) s (2 : Int) wr HSM.out HD.out.ki (by rw [hi])
        rw [hi] at hc
        have HC := Lib.hid hc
        clear hi hc
        clear h
        go_wp2_with fail
        clear hidx
        refine HC.out.mono ?_
        rintro e w5 ⟨rfl, hk5, hf5⟩
        have hd5 := HD.out.num hk5 hf5
        have c1 : w5.cell? ⟨N + 3, 2, none⟩ = some (.int .i64 0) := hd5.km.cell 2
        have f1 := hd5.km.frozen 2
        have HD6 : Hid (DcS W N s ((1 + 2 : Nat) : Int) (msgJ (1 + 2)) (w5.setCell ⟨N + 3, 2, none⟩ (.int .i64 1))) := hd5.set 2 (.int .i64 1)
        clear hk5 hf5 hd5 HC
        go_wp2_with fail
        clear c1 f1
        go_roundw
        case rel => exact ⟨2, by omega, rfl, HD6⟩
        case measure => simp [intOf]
      · have hidx : ∀ W', (Instr.index 88 (.agg #[.pointer (some ⟨N + 3, 1, none⟩), .pointer (some ⟨N + 3, 2, none⟩), .pointer (some ⟨N + 3, 3, none⟩), .pointer (some ⟨N + 3, 4, none⟩)]) (.int .i64 2)).run Tryd.prog W' = .ok (.pointer (some ⟨N + 3, 3, none⟩)) W' := fun W' => by kernel_rfl
        have hi : intR s.data.toList (3 : Int) = (0, 4, 0) := by rw [HS.out]; decide
        have hc := num_ok (N + 2) s (3 : Int) wr HSM.out HD.out.ki (by rw [hi])
        rw [hi] at hc
        have HC := Lib.hid hc
        clear hi hc
        clear h
        go_wp2_with fail
        clear hidx
        refine HC.out.mono ?_
        rintro e w5 ⟨rfl, hk5, hf5⟩
        have hd5 := HD.out.num hk5 hf5
        have c1 : w5.cell? ⟨N + 3, 3, none⟩ = some (.int .i64 0) := hd5.km.cell 3
        have f1 := hd5.km.frozen 3
        have HD6 : Hid (DcS W N s ((1 + 3 : Nat) : Int) (msgJ (1 + 3)) (w5.setCell ⟨N + 3, 3, none⟩ (.int .i64 0))) := hd5.set 3 (.int .i64 0)
        clear hk5 hf5 hd5 HC
        go_wp2_with fail
        clear c1 f1
        go_roundw
        case rel => exact ⟨3, by omega, rfl, HD6⟩
        case measure => simp [intOf]
      · have hidx : ∀ W', (Instr.index 88 (.agg #[.pointer (some ⟨N + 3, 1, none⟩), .pointer (some ⟨N + 3, 2, none⟩), .pointer (some ⟨N + 3, 3, none⟩), .pointer (some ⟨N + 3, 4, none⟩)]) (.int .i64 3)).run Tryd.prog W' = .ok (.pointer (some ⟨N + 3, 4, none⟩)) W' := fun W' => by kernel_rfl
        have hi : intR s.data.toList (4 : Int) = (0, 5, 0) := by rw [HS.out]; decide
        have hc := num_ok (N + 2) s (4 : Int) wr HSM.out HD.out.ki (by rw [hi])
        rw [hi] at hc
        have HC := Lib.hid hc
        clear hi hc
        clear h
        go_wp2_with fail
        clear hidx
        refine HC.out.mono ?_
        rintro e w5 ⟨rfl, hk5, hf5⟩
        have hd5 := HD.out.num hk5 hf5
        have c1 : w5.cell? ⟨N + 3, 4, none⟩ = some (.int .i64 0) := hd5.km.cell 4
        have f1 := hd5.km.frozen 4
        have HD6 : Hid (DcS W N s ((1 + 4 : Nat) : Int) (msgJ (1 + 4)) (w5.setCell ⟨N + 3, 4, none⟩ (.int .i64 0))) := hd5.set 4 (.int .i64 0)
        clear hk5 hf5 hd5 HC
        go_wp2_with fail
        clear c1 f1
        go_roundw
        case rel => exact ⟨4, by omega, rfl, HD6⟩
        case measure => simp [intOf]
    · have q1 : ¬ (j : Int) < 4 := by omega
      obtain rfl : j = 4 := by omega
      have c0 : wr.cell? ⟨N + 3, 0, none⟩ = some (.int .i64 1) := HD.out.km.cell 0
      have hi : strR s.data.toList (5 : Int) = (OL, 11, 0) := by rw [HS.out]; decide
      have hc := txt_ok (N + 2) s (5 : Int) wr HSM.out HD.out.ki (by rw [hi])
      rw [hi] at hc
      have HC := Lib.hid hc
      clear hi hc h hj
      go_wp2_with fail
      refine HC.out.mono ?_
      rintro e w5 ⟨rfl, hk5, hf5⟩
      have HD5 := Lib.hid (HD.out.num hk5 hf5)
      have c0 : w5.cell? ⟨N + 3, 0, none⟩ = some (.int .i64 1) := HD5.out.km.cell 0
      have c1 : w5.cell? ⟨N + 2, 1, none⟩ = some (.int .i64 11) := hk5.cell 1
      have hne : ((11 : Int) != (s.size : Int)) = false := by rw [HS11.out]; rfl
      have HID := Lib.hid (fun W' => idecode_ok ⟨OL.toArray⟩ W' rfl)
      obtain ⟨z, hz⟩ : ∃ z : ByteArray, (⟨OL.toArray⟩ : ByteArray) = z := ⟨_, rfl⟩
      rw [hz] at HID ⊢
      clear hk5 hf5 HC HD hz
      go_wp2_with fail
      refine (HID.out _).mono ?_
      rintro e w6 ⟨rfl, hb6⟩
      have hd6 := HD5.out.below hb6
      obtain ⟨ob, hob⟩ : ∃ ob, w6.heap.size = ob := ⟨_, rfl⟩
      obtain ⟨w7, hw7⟩ : ∃ w7, w6.alloc (.cells (ordA 0 0 0 0 0) 30) = w7 := ⟨_, rfl⟩
      have hb7 : Below w6.heap.size w6 w7 := by rw [← hw7]; exact (Below.refl _ w6).alloc (Nat.le_refl _) _
      have ko7 : Blk w7 ob 30 (ordA 0 0 0 0 0).toList := by rw [← hw7, ← hob]; exact Blk.new w6 _ _
      have hNo : N + 3 < ob := by rw [← hob]; exact hd6.km.lt
      obtain ⟨w8, hw8⟩ : ∃ w8, w7.setRow ob (drA 1 5) = w8 := ⟨_, rfl⟩
      have ko8 : Blk w8 ob 30 (drA 1 5).toList := by rw [← hw8]; exact ko7.setRow _
      have hd7 := hd6.below hb7
      have hd8 : DcS W N s 11 (msgJ (1 + 4)) w8 := by
        rw [← hw8]
        exact ⟨hd7.ka.kept (heap_setRow_other _ _ _ _ (by omega)), hd7.kb.kept (heap_setRow_other _ _ _ _ (by omega)), hd7.ki.kept (heap_setRow_other _ _ _ _ (by omega)), hd7.km.kept (heap_setRow_other _ _ _ _ (by omega)), below_setRow hd7.bel (by omega) _⟩
      have HTH := Lib.hid (hd8.km.there 5 26 (by decide))
      have km9 := Blk.sets (drA 1 5).toList 5 hd8.km
      rw [show setsL (msgJ (1 + 4)) 5 (drA 1 5).toList = (msgA 1 1 1 0 0 1 (-1) 5 2 1).toList from msgJ_set] at km9
      have ka9 : Blk (w8.setCells (N + 3) 5 (drA 1 5).toList) N 32 (msgJ 0) := hd8.ka.kept (heap_setCells _ _ (by omega) _ _ _)
      have kb9 : Blk (w8.setCells (N + 3) 5 (drA 1 5).toList) (N + 1) 35 [.int .i64 0] := hd8.kb.kept (heap_setCells _ _ (by omega) _ _ _)
      have hb9 : Below N W (w8.setCells (N + 3) 5 (drA 1 5).toList) := hd8.bel.trans ((Fr.setCells (S := fun c => c = N + 3) (N + 3) (drA 1 5).toList 5 (Fr.refl _ w8) (.inl rfl)).below N (by have := hd8.ka.lt; omega) (fun c e => by omega))
      have c0 : w8.cell? ⟨N + 3, 0, none⟩ = some (.int .i64 1) := hd8.km.cell 0
      have HK7 := Lib.hid ko7
      have HR8 := Lib.hid ko8.range
      have HW8 := Lib.hid hw8
      have KM9 := Lib.hid km9
      have KA9 := Lib.hid ka9
      have KB9 := Lib.hid kb9
      have HB9 := Lib.hid hb9
      have HR9 := Lib.hid km9.range
      dsimp only [ordA] at hw7
      clear hb6 hd6 hb7 ko7 hw8 ko8 hd7 hd8 km9 ka9 kb9 hb9 HD5 HID
      go_upto_region 22 with (first | (refine wpList_store_row rfl 30 (.tmp 9) (.tmp 63) rfl ob (drA 1 5) rfl rfl 30 _ HK7.out HSZ.out HO2.out HO1.out ?_; rw [HW8.out]) | (refine wpList_load_mid rfl 30 (.tmp 9) rfl ob 0 rfl (drA 1 5).toList _ HR8.out Tryd.underlying30 rfl HSZ.out ?_) | (refine wpList_store_mid rfl 30 (.tmp 71) (.tmp 70) rfl (N + 3) 5 (drA 1 5) rfl rfl HTH.out HSZ.out HO1.out ?_))
      generalize World.setCells _ _ _ _ = w9 at KM9 KA9 KB9 HB9 HR9 ⊢
      go_wp2_with (refine wpList_load_mid rfl 32 (.tmp 5) rfl (N + 3) 0 rfl (msgA 1 1 1 0 0 1 (-1) 5 2 1).toList _ HR9.out Tryd.underlying32 rfl HSG.out ?_)
      refine (valid_ord 1 1 5 _ (by decide) (by decide) (by decide) (by decide) (by decide) (by decide)).mono ?_
      rintro e w10 ⟨rfl, hb10⟩
      have HR10 := Lib.hid (KM9.out.kept (hb10.block _ KM9.out.lt)).range
      have ka10 := KA9.out.kept (hb10.block _ KA9.out.lt)
      have kb10 := KB9.out.kept (hb10.block _ KB9.out.lt)
      have hb11 : Below N W w10 := HB9.out.trans (hb10.mono (by have := KA9.out.lt; omega))
      obtain ⟨w12, hw12⟩ : ∃ w12, w10.setRow N (msgA 1 1 1 0 0 1 (-1) 5 2 1) = w12 := ⟨_, rfl⟩
      have ka12 : Blk w12 N 32 (msgA 1 1 1 0 0 1 (-1) 5 2 1).toList := by rw [← hw12]; exact ka10.setRow _
      have kb12 : Blk w12 (N + 1) 35 [.int .i64 0] := kb10.kept (by rw [← hw12]; exact heap_setRow_other _ _ _ _ (by omega))
      have hb12 : Below N W w12 := by rw [← hw12]; exact below_setRow hb11 (Nat.le_refl _) _
      have c1 := kb12.cell 0
      have f1 := kb12.frozen 0
      simp only [List.getElem?_cons_zero] at c1
      have HK10 := Lib.hid ka10
      have HW12 := Lib.hid hw12
      have KA13 := Lib.hid (ka12.other ⟨N + 1, 0, none⟩ (show N + 1 ≠ N by omega) (.int .i64 0))
      have KB13 : Hid (Blk (w12.setCell ⟨N + 1, 0, none⟩ (.int .i64 0)) (N + 1) 35 [.int .i64 0]) := kb12.set 0 (.int .i64 0)
      have HB13 := Lib.hid (hb12.setCell (p := ⟨N + 1, 0, none⟩) (show N ≤ N + 1 by omega) (.int .i64 0))
      clear hb10 ka10 kb10 hb11 hw12 ka12 kb12 hb12 hw7
      go_wp2_with (first | (refine wpList_load_mid rfl 32 (.tmp 5) rfl (N + 3) 0 rfl (msgA 1 1 1 0 0 1 (-1) 5 2 1).toList _ HR10.out Tryd.underlying32 rfl HSG.out ?_) | (refine wpList_store_row rfl 32 (.tmp 2) (.tmp 78) rfl N (msgA 1 1 1 0 0 1 (-1) 5 2 1) rfl rfl 32 _ HK10.out HSG.out HO4.out HO3.out ?_; rw [HW12.out]))
      exact oleave_ok HNN.out rfl KA13.out KB13.out HB13.out _ rfl rfl
end Go.Proofs.YtjkiidhnmljmbaaDoor
