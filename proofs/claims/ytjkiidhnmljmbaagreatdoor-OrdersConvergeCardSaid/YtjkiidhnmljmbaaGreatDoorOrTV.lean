/- Orders: replan.Decode of a fixed drop order. -/
import Derived.Defers
import Derived.Recover
import Derived.LaidEql
import Derived.Stop.Asserts
import Derived.RowKitTokens
import Derived.Laws.Externs
import Derived.Test.YtjkiidhnmljmbaaGreatDoorOrRS
import Derived.Test.YtjkiidhnmljmbaaGreatDoorOrJK
set_option linter.unusedVariables false
set_option linter.unusedSimpArgs false
set_option maxRecDepth 100000
set_option maxHeartbeats 8000000
namespace Go.Proofs.YtjkiidhnmljmbaaGreatDoor
open Go.RowKit Onair
theorem res_two {P : Program} {f : Func} {i j a b : Nat} {t1 t2 : TypeId} (hres : f.results = #[.cell i t1, .cell j t2]) {tmps : Array Value} {w : World} {v1 v2 : Value} (h2 : tmps[i]?.getD undef = .pointer (some ⟨a, 0, none⟩)) (h3 : tmps[j]?.getD undef = .pointer (some ⟨b, 0, none⟩))
  (l1 : (loadVar t1 ⟨a, 0, none⟩).run P w = .ok v1 w) (l2 : (loadVar t2 ⟨b, 0, none⟩).run P w = .ok v2 w) : (results f tmps).run P w = .ok (.tuple #[v1, v2]) w := by
 simp [results, hres, h2, h3, asAddr, l1, l2, Result.andThen]
theorem icatch_idle (r1 r2 : Nat) (w : World) :
  CallsD Tryz.prog 77 #[.pointer (some ⟨r1, 0, none⟩), .pointer (some ⟨r2, 0, none⟩)] .returning w fun e u' w' => e = .returned (.tuple #[]) ∧ u' = .returning ∧ w' = w := by
 refine callsD_of_wpS Tryz.func77 rfl fun c₀ cs hu => ?_
 apply wpS_seq
 apply wpS_region
 simp [wpOpsS, go_sem, recoverD, hu, Tryz.ntmps77, Exit.thenS]
 refine wpS_of_wp ?_
 simp only [Array.replicate, List.replicate, List.setIfInBounds_toArray, List.set_cons_zero, List.set_cons_succ, List.append_toArray, List.cons_append, List.nil_append]
 go_wp2
 refine ⟨rfl, _, by rw [← hu], _, by simp [results, Tryz.results77, go_sem], rfl, rfl, rfl⟩
theorem ocatch_idle (r1 r2 : Nat) (w : World) :
  CallsD Tryz.prog 38 #[.pointer (some ⟨r1, 0, none⟩), .pointer (some ⟨r2, 0, none⟩)] .returning w fun e u' w' => e = .returned (.tuple #[]) ∧ u' = .returning ∧ w' = w := by
 refine callsD_of_wpS Tryz.func38 rfl fun c₀ cs hu => ?_
 apply wpS_seq
 apply wpS_region
 simp [wpOpsS, go_sem, recoverD, hu, Tryz.ntmps38, Exit.thenS]
 refine wpS_of_wp ?_
 simp only [Array.replicate, List.replicate, List.setIfInBounds_toArray, List.set_cons_zero, List.set_cons_succ, List.append_toArray, List.cons_append, List.nil_append]
 go_wp2
 refine ⟨rfl, _, by rw [← hu], _, by simp [results, Tryz.results38, go_sem], rfl, rfl, rfl⟩
theorem load_errno {w : World} {b : Nat} {c : Int} (h : Blk w b 35 [.int .i64 c]) : (loadVar 35 ⟨b, 0, none⟩).run Tryz.prog w = .ok (.int .i64 c) w := by
 have c0 := h.cell 0
 simp only [List.getElem?_cons_zero] at c0
 simp [go_sem, c0]
theorem load_order {w : World} {b : Nat} {l : List Value} (hl : l.length = 26) (h : Blk w b 30 l) : (loadVar 30 ⟨b, 0, none⟩).run Tryz.prog w = .ok (.agg l.toArray) w :=
 run_loadVar_mid w b 0 30 l _ h.range Tryz.underlying30 rfl (by rw [hl]; kernel_rfl)
theorem load_msg {w : World} {b : Nat} {l : List Value} (hl : l.length = 31) (h : Blk w b 32 l) : (loadVar 32 ⟨b, 0, none⟩).run Tryz.prog w = .ok (.agg l.toArray) w :=
 run_loadVar_mid w b 0 32 l _ h.range Tryz.underlying32 rfl (by rw [hl]; kernel_rfl)
theorem ileave_ok {W w : World} {r : Nat} {l : List Value} {c : Int} (hr : W.heap.size = r) (hl : l.length = 26) (b1 : Blk w r 30 l) (b2 : Blk w (r + 1) 35 [.int .i64 c]) (hb : Below r W w) (tmps : Array Value) (h2 : tmps[2]?.getD undef = .pointer (some ⟨r, 0, none⟩)) (h3 : tmps[3]?.getD undef = .pointer (some ⟨r + 1, 0, none⟩)) :
  bodyPostD Tryz.prog Tryz.f43 (fun e w' => e = .returned (.tuple #[.agg l.toArray, .int .i64 c]) ∧ Below W.heap.size W w') .ret { tmps := tmps, defers := [{ target := .fn (.func 77) #[.pointer (some ⟨r, 0, none⟩), .pointer (some ⟨r + 1, 0, none⟩)], args := #[] }] } w := by
 refine leaves_cons (f := 77) (args := #[.pointer (some ⟨r, 0, none⟩), .pointer (some ⟨r + 1, 0, none⟩)]) (by simp) (by simp [go_sem]) ?_
 refine (icatch_idle r (r + 1) w).mono ?_
 rintro e u' w' ⟨rfl, rfl, rfl⟩
 exact ⟨_, res_two Tryz.results43 h2 h3 (load_order hl b1) (load_errno b2), rfl, by rw [hr]; exact hb⟩
theorem oleave_ok {W w : World} {r : Nat} {l : List Value} {c : Int} (hr : W.heap.size = r) (hl : l.length = 31) (b1 : Blk w r 32 l) (b2 : Blk w (r + 1) 35 [.int .i64 c]) (hb : Below r W w) (tmps : Array Value) (h2 : tmps[2]?.getD undef = .pointer (some ⟨r, 0, none⟩)) (h3 : tmps[3]?.getD undef = .pointer (some ⟨r + 1, 0, none⟩)) :
  bodyPostD Tryz.prog Tryz.f10 (fun e w' => e = .returned (.tuple #[.agg l.toArray, .int .i64 c]) ∧ Below W.heap.size W w') .ret { tmps := tmps, defers := [{ target := .fn (.func 38) #[.pointer (some ⟨r, 0, none⟩), .pointer (some ⟨r + 1, 0, none⟩)], args := #[] }] } w := by
 refine leaves_cons (f := 38) (args := #[.pointer (some ⟨r, 0, none⟩), .pointer (some ⟨r + 1, 0, none⟩)]) (by simp) (by simp [go_sem]) ?_
 refine (ocatch_idle r (r + 1) w).mono ?_
 rintro e u' w' ⟨rfl, rfl, rfl⟩
 exact ⟨_, res_two Tryz.results10 h2 h3 (load_msg hl b1) (load_errno b2), rfl, by rw [hr]; exact hb⟩
theorem idecode_ok (s : ByteArray) (W : World) (hs : s.data.toList = OL) :
  Calls Tryz.prog 43 #[.string s] W fun e w' => e = .returned (.tuple #[.agg (drA 1 5), .int .i64 0]) ∧ Below W.heap.size W w' := by
 have hmf : ∀ (fn : Fn) (first cap : Array Value) (w : World), (Instr.makeFunc fn first cap).run Tryz.prog w = .ok (.func fn first cap) w := fun _ _ _ _ => rfl
 obtain ⟨N, hN⟩ : ∃ N, W.heap.size = N := ⟨_, rfl⟩
 obtain ⟨w1, hw1⟩ : ∃ w1, W.alloc (.cells (ordA 0 0 0 0 0) 30) = w1 := ⟨_, rfl⟩
 obtain ⟨w2, hw2⟩ : ∃ w2, w1.alloc (.cells #[.int .i64 0] 35) = w2 := ⟨_, rfl⟩
 obtain ⟨w3, hw3⟩ : ∃ w3, w2.alloc (.cells #[.string s, .int .i64 0] 153) = w3 := ⟨_, rfl⟩
 have hz1 : w1.heap.size = N + 1 := by rw [← hw1, World.size_alloc, hN]
 have hz2 : w2.heap.size = N + 2 := by rw [← hw2, World.size_alloc, hz1]
 have ka : Blk w3 N 30 (ordA 0 0 0 0 0).toList := by
  have := Blk.new W 30 (ordA 0 0 0 0 0).toList
  rw [hN, show (ordA 0 0 0 0 0).toList.toArray = ordA 0 0 0 0 0 from rfl, hw1] at this;rw [← hw3, ← hw2]
  exact (this.alloc _).alloc _
 have kb : Blk w3 (N + 1) 35 [.int .i64 0] := by
  have := Blk.new w1 35 [.int .i64 0]
  rw [hz1, hw2] at this;rw [← hw3];exact this.alloc _
 have kc : Blk w3 (N + 2) 153 [.string s, .int .i64 0] := by
  have := Blk.new w2 153 [.string s, .int .i64 0]
  rw [hz2, hw3] at this;exact this
 have hb3 : Below N W w3 := by
  rw [← hw3, ← hw2, ← hw1, ← hN]
  exact (((Below.refl _ W).alloc (Nat.le_refl _) _).alloc (by simp) _).alloc (by simp; omega) _
 have HOR := Lib.hid (order_ok (N + 2) s w3 hs kc)
 have KA := Lib.hid ka;have KB := Lib.hid kb;have KC := Lib.hid kc;have HB3 := Lib.hid hb3
 have HSZ := szO
 have HO1 : Hid ((drA 1 5).all (·.oneCell') = true) := (by unfold drA ordA; simp [Value.oneCell'] : (drA 1 5).all (·.oneCell') = true)
 have HO2 : Hid ((ordA 0 0 0 0 0).toList.toArray.size = (drA 1 5).size) := rfl
 have HNN := Lib.hid hN
 dsimp only [ordA] at hw1
 clear ka kb kc hb3 hs
 go_enter_defers Tryz.func43, Tryz.ntmps43
 go_wp2_with fail
 refine HOR.out.mono ?_
 rintro e w4 ⟨rfl, hf4⟩
 have ka4 := KA.out.kept (hf4.block _ KA.out.lt (by omega))
 have kb4 := KB.out.kept (hf4.block _ KB.out.lt (by omega))
 have hb4 : Below N W w4 := HB3.out.trans (hf4.below N (by have := KC.out.lt; omega) (fun c e => by omega))
 obtain ⟨ob, hob⟩ : ∃ ob, w4.heap.size = ob := ⟨_, rfl⟩
 obtain ⟨w5, hw5⟩ : ∃ w5, w4.alloc (.cells (ordA 0 0 0 0 0) 30) = w5 := ⟨_, rfl⟩
 have hbo5 : Below w4.heap.size w4 w5 := by rw [← hw5]; exact (Below.refl _ w4).alloc (Nat.le_refl _) _
 have ko5 : Blk w5 ob 30 (ordA 0 0 0 0 0).toList := by rw [← hw5, ← hob]; exact Blk.new w4 _ _
 have hNo : N + 1 < ob := by rw [← hob]; exact kb4.lt
 obtain ⟨w6, hw6⟩ : ∃ w6, w5.setRow ob (drA 1 5) = w6 := ⟨_, rfl⟩
 have ko6 : Blk w6 ob 30 (drA 1 5).toList := by rw [← hw6]; exact ko5.setRow _
 have ka6 : Blk w6 N 30 (ordA 0 0 0 0 0).toList := (ka4.kept (hbo5.block _ ka4.lt)).kept (by rw [← hw6]; exact heap_setRow_other _ _ _ _ (by omega))
 have kb6 : Blk w6 (N + 1) 35 [.int .i64 0] := (kb4.kept (hbo5.block _ kb4.lt)).kept (by rw [← hw6]; exact heap_setRow_other _ _ _ _ (by omega))
 have hb6 : Below N W w6 := by
  rw [← hw6]
  exact below_setRow (hb4.trans (hbo5.mono (by omega))) (by omega) _
 have HK5 := Lib.hid ko5;have HR6 := Lib.hid ko6.range;have HW6 := Lib.hid hw6;have KO6 := Lib.hid ko6;have KA6 := Lib.hid ka6;have KB6 := Lib.hid kb6;have HB6 := Lib.hid hb6
 dsimp only [ordA] at hw5
 clear hf4 ka4 kb4 hb4 hbo5 ko5 hw6 ko6 ka6 kb6 hb6 HOR KA KB KC HB3 hw1 hw2 hw3 hz1 hz2
 go_wp2_with (first | (refine wpList_store_row rfl 30 (.tmp 5) (.tmp 11) rfl ob (drA 1 5) rfl rfl 30 _ HK5.out HSZ.out HO2.out HO1.out ?_; rw [HW6.out]) | (refine wpList_load_mid rfl 30 (.tmp 5) rfl ob 0 rfl (drA 1 5).toList _ HR6.out Tryz.underlying30 rfl HSZ.out ?_))
 refine (valid_drop 1 5 _ (by decide) (by decide) (by decide) (by decide)).mono ?_
 rintro e w7 ⟨rfl, hb7⟩
 have HR7 := Lib.hid (KO6.out.kept (hb7.block _ KO6.out.lt)).range
 have ka7 := KA6.out.kept (hb7.block _ KA6.out.lt)
 have kb7 := KB6.out.kept (hb7.block _ KB6.out.lt)
 have hb8 : Below N W w7 := HB6.out.trans (hb7.mono (by have := KA6.out.lt; omega))
 obtain ⟨w8, hw8⟩ : ∃ w8, w7.setRow N (drA 1 5) = w8 := ⟨_, rfl⟩
 have ka8 : Blk w8 N 30 (drA 1 5).toList := by rw [← hw8]; exact ka7.setRow _
 have kb8 : Blk w8 (N + 1) 35 [.int .i64 0] := kb7.kept (by rw [← hw8]; exact heap_setRow_other _ _ _ _ (by omega))
 have hb9 : Below N W w8 := by rw [← hw8]; exact below_setRow hb8 (Nat.le_refl _) _
 have c1 := kb8.cell 0
 have f1 := kb8.frozen 0
 simp only [List.getElem?_cons_zero] at c1
 have HK7 := Lib.hid ka7;have HW8 := Lib.hid hw8
 have KA9 := Lib.hid (ka8.other ⟨N + 1, 0, none⟩ (show N + 1 ≠ N by omega) (.int .i64 0))
 have KB9 : Hid (Blk (w8.setCell ⟨N + 1, 0, none⟩ (.int .i64 0)) (N + 1) 35 [.int .i64 0]) := kb8.set 0 (.int .i64 0)
 have HB9 := Lib.hid (hb9.setCell (p := ⟨N + 1, 0, none⟩) (show N ≤ N + 1 by omega) (.int .i64 0))
 clear hb7 ka7 kb7 hb8 hw8 ka8 kb8 hb9 hw5
 go_wp2_with (first | (refine wpList_load_mid rfl 30 (.tmp 5) rfl ob 0 rfl (drA 1 5).toList _ HR7.out Tryz.underlying30 rfl HSZ.out ?_) | (refine wpList_store_row rfl 30 (.tmp 2) (.tmp 16) rfl N (drA 1 5) rfl rfl 30 _ HK7.out HSZ.out HO2.out HO1.out ?_; rw [HW8.out]))
 exact ileave_ok HNN.out rfl KA9.out KB9.out HB9.out _ rfl rfl
open Go.RowKit Onair
def SL : List UInt8 := [2, 2, 2, 0, 0, 10, 2, 1, 10, 4, 2]
theorem encMs_SL : encMs 1 1 5 = SL := by decide
def msgJ (j : Nat) : List Value := (([1, 1, 1, 0, 0] : List Int).take j ++ ([0, 0, 0, 0, 0] : List Int).drop j).map (fun x => Value.int .i64 x) ++ (ordA 0 0 0 0 0).toList
theorem msgJ_set : setsL (msgJ 5) 5 (drA 1 5).toList = (msgA 1 1 1 0 0 1 (-1) 5 2 1).toList := by kernel_rfl
structure DcS (W : World) (N : Nat) (s : ByteArray) (a : Int) (l : List Value) (A : World) : Prop where
 ka : Blk A N 32 (msgJ 0)
 kb : Blk A (N + 1) 35 [.int .i64 0]
 ki : Blk A (N + 2) 94 [.string s, .int .i64 a]
 km : Blk A (N + 3) 32 l
 bel : Below N W A
theorem DcS.num {W A A' : World} {N : Nat} {s : ByteArray} {a a' : Int} {l : List Value} (h : DcS W N s a l A) (hk : Blk A' (N + 2) 94 [.string s, .int .i64 a']) (hf : Fr (fun c => c = N + 2) A A') : DcS W N s a' l A' :=
 ⟨h.ka.kept (hf.block _ h.ka.lt (by omega)), h.kb.kept (hf.block _ h.kb.lt (by omega)), hk, h.km.kept (hf.block _ h.km.lt (by omega)), h.bel.trans (hf.below N (by have := h.ka.lt; omega) (fun c e => by omega))⟩
theorem DcS.set {W A : World} {N : Nat} {s : ByteArray} {a : Int} {l : List Value} (h : DcS W N s a l A) (j : Nat) (v : Value) : DcS W N s a (l.set j v) (A.setCell ⟨N + 3, j, none⟩ v) :=
 ⟨h.ka.other _ (show N + 3 ≠ N by omega) _, h.kb.other _ (show N + 3 ≠ N + 1 by omega) _, h.ki.other _ (show N + 3 ≠ N + 2 by omega) _, h.km.set j v, h.bel.setCell (p := ⟨N + 3, j, none⟩) (show N ≤ N + 3 by omega) v⟩
theorem DcS.below {W A A' : World} {N : Nat} {s : ByteArray} {a : Int} {l : List Value} (h : DcS W N s a l A) (hb : Below A.heap.size A A') : DcS W N s a l A' :=
 ⟨h.ka.kept (hb.block _ h.ka.lt), h.kb.kept (hb.block _ h.kb.lt), h.ki.kept (hb.block _ h.ki.lt), h.km.kept (hb.block _ h.km.lt), h.bel.trans (hb.mono (by have := h.ka.lt; omega))⟩
theorem dcs_new (W : World) (N : Nat) (s : ByteArray) (hN : W.heap.size = N) : DcS W N s 0 (msgJ 0) ((((W.alloc (.cells aZm 32)).alloc (.cells #[.int .i64 0] 35)).alloc (.cells #[.string s, .int .i64 0] 94)).alloc (.cells aZm 32)) := by
 obtain ⟨w1, hw1⟩ : ∃ w1, W.alloc (.cells aZm 32) = w1 := ⟨_, rfl⟩
 obtain ⟨w2, hw2⟩ : ∃ w2, w1.alloc (.cells #[.int .i64 0] 35) = w2 := ⟨_, rfl⟩
 obtain ⟨w3, hw3⟩ : ∃ w3, w2.alloc (.cells #[.string s, .int .i64 0] 94) = w3 := ⟨_, rfl⟩
 have hz1 : w1.heap.size = N + 1 := by rw [← hw1, World.size_alloc, hN]
 have hz2 : w2.heap.size = N + 2 := by rw [← hw2, World.size_alloc, hz1]
 have hz3 : w3.heap.size = N + 3 := by rw [← hw3, World.size_alloc, hz2]
 have ka := Blk.new W 32 lZm
 rw [hN, hw1] at ka
 have kb := Blk.new w1 35 [.int .i64 0]
 rw [hz1, hw2] at kb
 have kc := Blk.new w2 94 [.string s, .int .i64 0]
 rw [hz2, hw3] at kc
 have kd := Blk.new w3 32 lZm
 rw [hz3] at kd;rw [hw1, hw2, hw3]
 have ka3 : Blk w3 N 32 lZm := by rw [← hw3, ← hw2]; exact (ka.alloc _).alloc _
 have kb3 : Blk w3 (N + 1) 35 [.int .i64 0] := by rw [← hw3]; exact kb.alloc _
 have hb3 : Below N W w3 := by
  rw [← hw3, ← hw2, ← hw1, ← hN]
  exact (((Below.refl _ W).alloc (Nat.le_refl _) _).alloc (by simp) _).alloc (by simp; omega) _
 exact ⟨ka3.alloc _, kb3.alloc _, kc.alloc _, kd, hb3.alloc (by omega) _⟩
theorem decode_ok (s : ByteArray) (W : World) (hs : s.data.toList = SL) :
  Calls Tryz.prog 10 #[.string s] W fun e w' => e = .returned (.tuple #[.agg (msgA 1 1 1 0 0 1 (-1) 5 2 1), .int .i64 0]) ∧ Below W.heap.size W w' := by
 have hmf : ∀ (fn : Fn) (first cap : Array Value) (w : World), (Instr.makeFunc fn first cap).run Tryz.prog w = .ok (.func fn first cap) w := fun _ _ _ _ => rfl
 obtain ⟨N, hN⟩ : ∃ N, W.heap.size = N := ⟨_, rfl⟩
 have HD0 := Lib.hid (dcs_new W N s hN)
 have hs11 : s.size = 11 := by rw [← blen, hs]; rfl
 have HSM : Hid (s.size ≤ maxLen) := (by rw [hs11]; decide : s.size ≤ maxLen)
 have HS := Lib.hid hs;have HS11 := Lib.hid hs11
 have HSZ := szO
 have HSG := szM
 have HO1 : Hid ((drA 1 5).all (·.oneCell') = true) := (by unfold drA ordA; simp [Value.oneCell'] : (drA 1 5).all (·.oneCell') = true)
 have HO2 : Hid ((ordA 0 0 0 0 0).toList.toArray.size = (drA 1 5).size) := rfl
 have HO3 : Hid ((msgA 1 1 1 0 0 1 (-1) 5 2 1).all (·.oneCell') = true) := (by unfold msgA; simp [Value.oneCell'] : (msgA 1 1 1 0 0 1 (-1) 5 2 1).all (·.oneCell') = true)
 have HO4 : Hid ((msgJ 0).toArray.size = (msgA 1 1 1 0 0 1 (-1) 5 2 1).size) := rfl
 have HNN := Lib.hid hN;clear hs hs11 hN
 go_enter_defers Tryz.func10, Tryz.ntmps10
 go_wp2_with fail
 rw [HNN.out]
 obtain ⟨x0, hx0⟩ : ∃ x0, (((W.alloc (.cells aZm 32)).alloc (.cells #[.int .i64 0] 35)).alloc (.cells #[.string s, .int .i64 0] 94)).alloc (.cells aZm 32) = x0 := ⟨_, rfl⟩
 rw [hx0] at HD0 ⊢
 clear hx0
 have hi : intR s.data.toList (0 : Int) = (1, 1, 0) := by rw [HS.out]; decide
 have hc := num_ok (N + 2) s (0 : Int) x0 HSM.out HD0.out.ki (by rw [hi])
 rw [hi] at hc;have HC := Lib.hid hc;clear hi hc
 refine HC.out.mono ?_
 rintro e w5 ⟨rfl, hk5, hf5⟩
 have hd5 := HD0.out.num hk5 hf5
 have c1 : w5.cell? ⟨N + 3, 0, none⟩ = some (.int .i64 0) := hd5.km.cell 0
 have f1 := hd5.km.frozen 0
 have hd6 := hd5.set 0 (.int .i64 1)
 have HD2 : Hid (DcS W N s ((1 + 0 : Nat) : Int) (msgJ (1 + 0)) (w5.setCell ⟨N + 3, 0, none⟩ (.int .i64 1))) := hd6
 clear hk5 hf5 hd5 hd6 HC
 go_wp2_with fail
 clear c1 f1
 go_loopw [34] (fun vi wr => ∃ (j : Nat), j ≤ 4 ∧ vi = .int .i64 j ∧ Hid (DcS W N s ((1 + j : Nat) : Int) (msgJ (1 + j)) wr)) (fun v _ => 4 - (intOf v).toNat)
 case atStart => exact ⟨0, by omega, rfl, HD2⟩
 case round =>
  clear HD2
  obtain ⟨j, hj, rfl, HD⟩ := hrel
  by_cases h : j < 4
  ·have q1 : (j : Int) < 4 := by omega
   rcases (show j = 0 ∨ j = 1 ∨ j = 2 ∨ j = 3 from by omega) with rfl | rfl | rfl | rfl
   ·have hidx : ∀ W', (Instr.index 98 (.agg #[.pointer (some ⟨N + 3, 1, none⟩), .pointer (some ⟨N + 3, 2, none⟩), .pointer (some ⟨N + 3, 3, none⟩), .pointer (some ⟨N + 3, 4, none⟩)]) (.int .i64 0)).run Tryz.prog W' = .ok (.pointer (some ⟨N + 3, 1, none⟩)) W' := fun W' => by kernel_rfl
    have hi : intR s.data.toList (1 : Int) = (1, 2, 0) := by rw [HS.out]; decide
    have hc := num_ok (N + 2) s (1 : Int) wr HSM.out HD.out.ki (by rw [hi])
    rw [hi] at hc;have HC := Lib.hid hc;clear hi hc;clear h
    go_wp2_with fail
    clear hidx
    refine HC.out.mono ?_
    rintro e w5 ⟨rfl, hk5, hf5⟩
    have hd5 := HD.out.num hk5 hf5
    have c1 : w5.cell? ⟨N + 3, 1, none⟩ = some (.int .i64 0) := hd5.km.cell 1
    have f1 := hd5.km.frozen 1
    have HD6 : Hid (DcS W N s ((1 + 1 : Nat) : Int) (msgJ (1 + 1)) (w5.setCell ⟨N + 3, 1, none⟩ (.int .i64 1))) := hd5.set 1 (.int .i64 1)
    clear hk5 hf5 hd5 HC
    go_wp2_with fail
    clear c1 f1
    go_roundw
    case rel => exact ⟨1, by omega, rfl, HD6⟩
    case measure => simp [intOf]
   ·have hidx : ∀ W', (Instr.index 98 (.agg #[.pointer (some ⟨N + 3, 1, none⟩), .pointer (some ⟨N + 3, 2, none⟩), .pointer (some ⟨N + 3, 3, none⟩), .pointer (some ⟨N + 3, 4, none⟩)]) (.int .i64 1)).run Tryz.prog W' = .ok (.pointer (some ⟨N + 3, 2, none⟩)) W' := fun W' => by kernel_rfl
    have hi : intR s.data.toList (2 : Int) = (1, 3, 0) := by rw [HS.out]; decide
    have hc := num_ok (N + 2) s (2 : Int) wr HSM.out HD.out.ki (by rw [hi])
    rw [hi] at hc;have HC := Lib.hid hc;clear hi hc;clear h
    go_wp2_with fail
    clear hidx
    refine HC.out.mono ?_
    rintro e w5 ⟨rfl, hk5, hf5⟩
    have hd5 := HD.out.num hk5 hf5
    have c1 : w5.cell? ⟨N + 3, 2, none⟩ = some (.int .i64 0) := hd5.km.cell 2
    have f1 := hd5.km.frozen 2
    have HD6 : Hid (DcS W N s ((1 + 2 : Nat) : Int) (msgJ (1 + 2)) (w5.setCell ⟨N + 3, 2, none⟩ (.int .i64 1))) := hd5.set 2 (.int .i64 1)
    clear hk5 hf5 hd5 HC
    go_wp2_with fail
    clear c1 f1
    go_roundw
    case rel => exact ⟨2, by omega, rfl, HD6⟩
    case measure => simp [intOf]
   ·have hidx : ∀ W', (Instr.index 98 (.agg #[.pointer (some ⟨N + 3, 1, none⟩), .pointer (some ⟨N + 3, 2, none⟩), .pointer (some ⟨N + 3, 3, none⟩), .pointer (some ⟨N + 3, 4, none⟩)]) (.int .i64 2)).run Tryz.prog W' = .ok (.pointer (some ⟨N + 3, 3, none⟩)) W' := fun W' => by kernel_rfl
    have hi : intR s.data.toList (3 : Int) = (0, 4, 0) := by rw [HS.out]; decide
    have hc := num_ok (N + 2) s (3 : Int) wr HSM.out HD.out.ki (by rw [hi])
    rw [hi] at hc;have HC := Lib.hid hc;clear hi hc;clear h
    go_wp2_with fail
    clear hidx
    refine HC.out.mono ?_
    rintro e w5 ⟨rfl, hk5, hf5⟩
    have hd5 := HD.out.num hk5 hf5
    have c1 : w5.cell? ⟨N + 3, 3, none⟩ = some (.int .i64 0) := hd5.km.cell 3
    have f1 := hd5.km.frozen 3
    have HD6 : Hid (DcS W N s ((1 + 3 : Nat) : Int) (msgJ (1 + 3)) (w5.setCell ⟨N + 3, 3, none⟩ (.int .i64 0))) := hd5.set 3 (.int .i64 0)
    clear hk5 hf5 hd5 HC
    go_wp2_with fail
    clear c1 f1
    go_roundw
    case rel => exact ⟨3, by omega, rfl, HD6⟩
    case measure => simp [intOf]
   ·have hidx : ∀ W', (Instr.index 98 (.agg #[.pointer (some ⟨N + 3, 1, none⟩), .pointer (some ⟨N + 3, 2, none⟩), .pointer (some ⟨N + 3, 3, none⟩), .pointer (some ⟨N + 3, 4, none⟩)]) (.int .i64 3)).run Tryz.prog W' = .ok (.pointer (some ⟨N + 3, 4, none⟩)) W' := fun W' => by kernel_rfl
    have hi : intR s.data.toList (4 : Int) = (0, 5, 0) := by rw [HS.out]; decide
    have hc := num_ok (N + 2) s (4 : Int) wr HSM.out HD.out.ki (by rw [hi])
    rw [hi] at hc;have HC := Lib.hid hc;clear hi hc;clear h
    go_wp2_with fail
    clear hidx
    refine HC.out.mono ?_
    rintro e w5 ⟨rfl, hk5, hf5⟩
    have hd5 := HD.out.num hk5 hf5
    have c1 : w5.cell? ⟨N + 3, 4, none⟩ = some (.int .i64 0) := hd5.km.cell 4
    have f1 := hd5.km.frozen 4
    have HD6 : Hid (DcS W N s ((1 + 4 : Nat) : Int) (msgJ (1 + 4)) (w5.setCell ⟨N + 3, 4, none⟩ (.int .i64 0))) := hd5.set 4 (.int .i64 0)
    clear hk5 hf5 hd5 HC
    go_wp2_with fail
    clear c1 f1
    go_roundw
    case rel => exact ⟨4, by omega, rfl, HD6⟩
    case measure => simp [intOf]
  ·have q1 : ¬ (j : Int) < 4 := by omega
   obtain rfl : j = 4 := by omega
   have c0 : wr.cell? ⟨N + 3, 0, none⟩ = some (.int .i64 1) := HD.out.km.cell 0
   have hi : strR s.data.toList (5 : Int) = (OL, 11, 0) := by rw [HS.out]; decide
   have hc := txt_ok (N + 2) s (5 : Int) wr HSM.out HD.out.ki (by rw [hi])
   rw [hi] at hc;have HC := Lib.hid hc;clear hi hc h hj
   go_wp2_with fail
   refine HC.out.mono ?_
   rintro e w5 ⟨rfl, hk5, hf5⟩
   have HD5 := Lib.hid (HD.out.num hk5 hf5)
   have c0 : w5.cell? ⟨N + 3, 0, none⟩ = some (.int .i64 1) := HD5.out.km.cell 0
   have c1 : w5.cell? ⟨N + 2, 1, none⟩ = some (.int .i64 11) := hk5.cell 1
   have hne : ((11 : Int) != (s.size : Int)) = false := by rw [HS11.out]; rfl
   have HID := Lib.hid (fun W' => idecode_ok ⟨OL.toArray⟩ W' rfl)
   obtain ⟨z, hz⟩ : ∃ z : ByteArray, (⟨OL.toArray⟩ : ByteArray) = z := ⟨_, rfl⟩
   rw [hz] at HID ⊢
   clear hk5 hf5 HC HD hz
   go_wp2_with fail
   refine (HID.out _).mono ?_
   rintro e w6 ⟨rfl, hb6⟩
   have hd6 := HD5.out.below hb6
   obtain ⟨ob, hob⟩ : ∃ ob, w6.heap.size = ob := ⟨_, rfl⟩
   obtain ⟨w7, hw7⟩ : ∃ w7, w6.alloc (.cells (ordA 0 0 0 0 0) 30) = w7 := ⟨_, rfl⟩
   have hb7 : Below w6.heap.size w6 w7 := by rw [← hw7]; exact (Below.refl _ w6).alloc (Nat.le_refl _) _
   have ko7 : Blk w7 ob 30 (ordA 0 0 0 0 0).toList := by rw [← hw7, ← hob]; exact Blk.new w6 _ _
   have hNo : N + 3 < ob := by rw [← hob]; exact hd6.km.lt
   obtain ⟨w8, hw8⟩ : ∃ w8, w7.setRow ob (drA 1 5) = w8 := ⟨_, rfl⟩
   have ko8 : Blk w8 ob 30 (drA 1 5).toList := by rw [← hw8]; exact ko7.setRow _
   have hd7 := hd6.below hb7
   have hd8 : DcS W N s 11 (msgJ (1 + 4)) w8 := by
    rw [← hw8]
    exact ⟨hd7.ka.kept (heap_setRow_other _ _ _ _ (by omega)), hd7.kb.kept (heap_setRow_other _ _ _ _ (by omega)), hd7.ki.kept (heap_setRow_other _ _ _ _ (by omega)), hd7.km.kept (heap_setRow_other _ _ _ _ (by omega)), below_setRow hd7.bel (by omega) _⟩
   have HTH := Lib.hid (hd8.km.there 5 26 (by decide))
   have km9 := Blk.sets (drA 1 5).toList 5 hd8.km
   rw [show setsL (msgJ (1 + 4)) 5 (drA 1 5).toList = (msgA 1 1 1 0 0 1 (-1) 5 2 1).toList from msgJ_set] at km9
   have ka9 : Blk (w8.setCells (N + 3) 5 (drA 1 5).toList) N 32 (msgJ 0) := hd8.ka.kept (heap_setCells _ _ (by omega) _ _ _)
   have kb9 : Blk (w8.setCells (N + 3) 5 (drA 1 5).toList) (N + 1) 35 [.int .i64 0] := hd8.kb.kept (heap_setCells _ _ (by omega) _ _ _)
   have hb9 : Below N W (w8.setCells (N + 3) 5 (drA 1 5).toList) := hd8.bel.trans ((Fr.setCells (S := fun c => c = N + 3) (N + 3) (drA 1 5).toList 5 (Fr.refl _ w8) (.inl rfl)).below N (by have := hd8.ka.lt; omega) (fun c e => by omega))
   have c0 : w8.cell? ⟨N + 3, 0, none⟩ = some (.int .i64 1) := hd8.km.cell 0
   have HK7 := Lib.hid ko7;have HR8 := Lib.hid ko8.range;have HW8 := Lib.hid hw8;have KM9 := Lib.hid km9;have KA9 := Lib.hid ka9;have KB9 := Lib.hid kb9;have HB9 := Lib.hid hb9;have HR9 := Lib.hid km9.range
   dsimp only [ordA] at hw7
   clear hb6 hd6 hb7 ko7 hw8 ko8 hd7 hd8 km9 ka9 kb9 hb9 HD5 HID
   go_upto_region 22 with (first | (refine wpList_store_row rfl 30 (.tmp 9) (.tmp 63) rfl ob (drA 1 5) rfl rfl 30 _ HK7.out HSZ.out HO2.out HO1.out ?_; rw [HW8.out]) | (refine wpList_load_mid rfl 30 (.tmp 9) rfl ob 0 rfl (drA 1 5).toList _ HR8.out Tryz.underlying30 rfl HSZ.out ?_) | (refine wpList_store_mid rfl 30 (.tmp 71) (.tmp 70) rfl (N + 3) 5 (drA 1 5) rfl rfl HTH.out HSZ.out HO1.out ?_))
   generalize World.setCells _ _ _ _ = w9 at KM9 KA9 KB9 HB9 HR9 ⊢
   go_wp2_with (refine wpList_load_mid rfl 32 (.tmp 5) rfl (N + 3) 0 rfl (msgA 1 1 1 0 0 1 (-1) 5 2 1).toList _ HR9.out Tryz.underlying32 rfl HSG.out ?_)
   refine (valid_ord 1 1 5 _ (by decide) (by decide) (by decide) (by decide) (by decide) (by decide)).mono ?_
   rintro e w10 ⟨rfl, hb10⟩
   have HR10 := Lib.hid (KM9.out.kept (hb10.block _ KM9.out.lt)).range
   have ka10 := KA9.out.kept (hb10.block _ KA9.out.lt)
   have kb10 := KB9.out.kept (hb10.block _ KB9.out.lt)
   have hb11 : Below N W w10 := HB9.out.trans (hb10.mono (by have := KA9.out.lt; omega))
   obtain ⟨w12, hw12⟩ : ∃ w12, w10.setRow N (msgA 1 1 1 0 0 1 (-1) 5 2 1) = w12 := ⟨_, rfl⟩
   have ka12 : Blk w12 N 32 (msgA 1 1 1 0 0 1 (-1) 5 2 1).toList := by rw [← hw12]; exact ka10.setRow _
   have kb12 : Blk w12 (N + 1) 35 [.int .i64 0] := kb10.kept (by rw [← hw12]; exact heap_setRow_other _ _ _ _ (by omega))
   have hb12 : Below N W w12 := by rw [← hw12]; exact below_setRow hb11 (Nat.le_refl _) _
   have c1 := kb12.cell 0
   have f1 := kb12.frozen 0
   simp only [List.getElem?_cons_zero] at c1
   have HK10 := Lib.hid ka10;have HW12 := Lib.hid hw12
   have KA13 := Lib.hid (ka12.other ⟨N + 1, 0, none⟩ (show N + 1 ≠ N by omega) (.int .i64 0))
   have KB13 : Hid (Blk (w12.setCell ⟨N + 1, 0, none⟩ (.int .i64 0)) (N + 1) 35 [.int .i64 0]) := kb12.set 0 (.int .i64 0)
   have HB13 := Lib.hid (hb12.setCell (p := ⟨N + 1, 0, none⟩) (show N ≤ N + 1 by omega) (.int .i64 0))
   clear hb10 ka10 kb10 hb11 hw12 ka12 kb12 hb12 hw7
   go_wp2_with (first | (refine wpList_load_mid rfl 32 (.tmp 5) rfl (N + 3) 0 rfl (msgA 1 1 1 0 0 1 (-1) 5 2 1).toList _ HR10.out Tryz.underlying32 rfl HSG.out ?_) | (refine wpList_store_row rfl 32 (.tmp 2) (.tmp 78) rfl N (msgA 1 1 1 0 0 1 (-1) 5 2 1) rfl rfl 32 _ HK10.out HSG.out HO4.out HO3.out ?_; rw [HW12.out]))
   exact oleave_ok HNN.out rfl KA13.out KB13.out HB13.out _ rfl rfl
open Go.RowKit Go.Extern.Stop Go.Stop Go.Extern Onair
theorem Tryz.isTypeOf (v : Value) (w : World) : (Extern.ReflectliteType.typeOf #[.iface 196 v]).run Tryz.prog w = .ok (.iface 172 (.agg #[.pointer (some ⟨4, 196, none⟩)])) w := by kernel_rfl
def compE : Array Value → Sem Value := Extern.ReflectliteType.method fun t => do Go.Extern.Rtype.noPackHeld "Comparable" t; pure (.bool (← typeInfo t).comparable)
theorem Tryz.isComparable (w : World) : (compE #[.agg #[.pointer (some ⟨4, 196, none⟩)]]).run Tryz.prog w = .ok (.bool true) w := by kernel_rfl
theorem Tryz.isMethodComparable (v : Value) (w : World) : (Go.method 330 172 v "Comparable").run Tryz.prog w = .ok (136, v) w := by kernel_rfl
theorem Tryz.isComp : (Tryz.prog.info? 196).map (·.comparable) = some true := by kernel_rfl
theorem Tryz.isSize : (Tryz.prog.info? 219).map (·.size) = some 1 := by kernel_rfl
theorem Tryz.noIsW (v : Value) (xT : TypeId) (w : World) : (Instr.typeAssert (.iface 89 v) xT 174 true).run Tryz.prog w = .ok (.tuple #[.nilIface, .bool false]) w := run_typeAssert_lacksB Tryz.underlying174 (by kernel_rfl) (by kernel_rfl) v xT w
theorem Tryz.hasUnwrapW (v : Value) (xT : TypeId) (w : World) : (Instr.typeAssert (.iface 89 v) xT 177 true).run Tryz.prog w = .ok (.tuple #[.iface 89 v, .bool true]) w := run_typeAssert_hasB Tryz.underlying177 (by kernel_rfl) v xT w
theorem Tryz.methodUnwrap (v : Value) (w : World) : (Go.method 330 89 v "Unwrap").run Tryz.prog w = .ok (132, v) w := by kernel_rfl
theorem is_fault (a : Int) (b : Addr) (w : World) :
  Calls Tryz.prog 39 #[.iface 89 (.agg #[.int .i64 a, .iface 196 (.pointer (some b))]), .iface 196 (.pointer (some b))] w fun e w' => e = .returned (.bool true) ∧ Below w.heap.size w w' := by
 obtain ⟨i, hi, hcmp⟩ := Option.map_eq_some_iff.1 Tryz.isComp
 obtain ⟨j, hj, hjs⟩ := Option.map_eq_some_iff.1 Tryz.isSize
 have h8 := @run_callFunc_extern Tryz.prog 73 _ Extern.ReflectliteType.typeOf Tryz.func73 (by kernel_rfl) (by kernel_rfl) (by kernel_rfl) (by kernel_rfl)
 have h32 := @run_callFunc_extern Tryz.prog 136 _ compE Tryz.func136 (by kernel_rfl) (by kernel_rfl) (by kernel_rfl) (by kernel_rfl)
 have tT := Tryz.isTypeOf
 have cT := Tryz.isComparable
 have mR := Tryz.isMethodComparable
 have nW := Tryz.noIsW
 have uW := Tryz.hasUnwrapW
 have mU := Tryz.methodUnwrap
 have heq := fun w => run_eql_iface_ptr_same (P := Tryz.prog) w b Tryz.underlying81 Tryz.underlying196 hi hcmp hj
 have hty := fun w => run_eql_iface_types (P := Tryz.prog) 89 196 (.agg #[.int .i64 a, .iface 196 (.pointer (some b))]) (.pointer (some b)) Tryz.underlying81 (by decide) w
 go_enter Tryz.func39, Tryz.ntmps39
 go_wp2
 refine wp_loop_rounds 2 ?_
 rw [rounds_succ]
 go_wp2
 rw [rounds_succ]
 go_wp2
 go_ret
 exact ⟨rfl, (Below.refl _ _).alloc (Nat.le_refl _) _⟩
theorem ocatch_short (r1 r2 : Nat) (a c : Int) (er : Addr) (l : List Value) (w : World) (hl : l.length = 31) (h1 : Blk w r1 32 l) (h2 : Blk w r2 35 [.int .i64 c]) (hne : r1 ≠ r2) (hg : w.cell? ⟨0, 0, none⟩ = some (.iface 196 (.pointer (some er)))) (hg1 : 0 ≠ r1) (hg2 : 0 ≠ r2) :
  CallsD Tryz.prog 38 #[.pointer (some ⟨r1, 0, none⟩), .pointer (some ⟨r2, 0, none⟩)] (.panicking [faultE a (.iface 196 (.pointer (some er)))]) w fun e u' w' =>
   e = .returned (.tuple #[]) ∧ u' = .panicking [{ faultE a (.iface 196 (.pointer (some er))) with recovered := true }] ∧ Blk w' r1 32 (msgJ 0) ∧ Blk w' r2 35 [.int .i64 10] ∧ Fr (fun k => k = r1 ∨ k = r2) w w' := by
 refine callsD_of_wpS Tryz.func38 rfl fun c₀ cs hu => ?_
 have hta : ∀ w : World, (Instr.typeAssert (.iface 89 (.agg #[.int .i64 a, .iface 196 (.pointer (some er))])) 20 89 true).run Tryz.prog w = .ok (.tuple #[.agg #[.int .i64 a, .iface 196 (.pointer (some er))], .bool true]) w := fun w => by kernel_rfl
 obtain ⟨w1, hw1⟩ : ∃ w1, w.setRow r1 aZm = w1 := ⟨_, rfl⟩
 have a1 : Blk w1 r1 32 lZm := by rw [← hw1]; exact h1.setRow lZm
 have b1 : Blk w1 r2 35 [.int .i64 c] := by rw [← hw1]; exact h2.kept (heap_setRow_other _ _ _ _ (fun e => hne e.symm))
 have hf1 : Fr (fun k => k = r1 ∨ k = r2) w w1 := by rw [← hw1]; exact (Fr.refl _ w).setRow r1 _ (.inl (.inl rfl))
 have g1 : w1.cell? ⟨0, 0, none⟩ = some (.iface 196 (.pointer (some er))) := by
  rw [← hw1]
  unfold World.cell? at hg ⊢
  rw [heap_setRow_other _ _ _ _ hg1];exact hg
 have c1 := b1.cell 0
 have f1 := b1.frozen 0
 simp only [List.getElem?_cons_zero] at c1
 have HK1 := Lib.hid h1;have HW1 := Lib.hid hw1
 have HSG := szM
 have HO1 : Hid (aZm.all (·.oneCell') = true) := (by simp [Value.oneCell'] : aZm.all (·.oneCell') = true)
 have HO2 : Hid (l.toArray.size = aZm.size) := (by rw [List.size_toArray, hl]; rfl : l.toArray.size = aZm.size)
 have HA2 := Lib.hid (a1.other ⟨r2, 0, none⟩ (fun e => hne e.symm) (.int .i64 200))
 have HB2 := Lib.hid (b1.set 0 (.int .i64 200))
 have HF2 := Lib.hid (hf1.setCell ⟨r2, 0, none⟩ (.int .i64 200) (.inl (.inr rfl)))
 have HG2 : Hid ((w1.setCell ⟨r2, 0, none⟩ (.int .i64 200)).cell? ⟨0, 0, none⟩ = some (.iface 196 (.pointer (some er)))) := (World.cell?_setCell_far _ _ _ _ (fun e => hg2 e.symm)).trans g1
 have HNE := Lib.hid hne;clear h1 h2 hne hg hg1 hg2 hw1 a1 b1 hf1 g1 hl
 unfold faultE at hu ⊢
 apply wpS_seq
 apply wpS_region
 simp [wpOpsS, go_sem, recoverD, hu, Tryz.ntmps38, Exit.thenS]
 refine wpS_of_wp ?_
 simp only [Array.replicate, List.replicate, List.setIfInBounds_toArray, List.set_cons_zero, List.set_cons_succ, List.append_toArray, List.cons_append, List.nil_append]
 go_upto_region 3 with (refine wpList_store_row rfl 32 (.tmp 0) (.tmp 8) rfl r1 aZm rfl rfl 32 _ HK1.out HSG.out HO2.out HO1.out ?_; rw [HW1.out])
 generalize World.setCell _ _ _ = w2 at HA2 HB2 HF2 HG2 ⊢
 obtain ⟨w3, hw3⟩ : ∃ w3, w2.alloc (.cells #[.int .i64 a, .iface 196 (.pointer (some er))] 89) = w3 := ⟨_, rfl⟩
 have hb3 : Below w2.heap.size w2 w3 := by rw [← hw3]; exact (Below.refl _ w2).alloc (Nat.le_refl _) _
 have g3 : w3.cell? ⟨0, 0, none⟩ = some (.iface 196 (.pointer (some er))) := (hb3.cell (p := ⟨0, 0, none⟩) (block_lt HG2.out)).trans HG2.out
 have HA3 := Lib.hid (HA2.out.kept (hb3.block _ HA2.out.lt))
 have HB3 := Lib.hid (HB2.out.kept (hb3.block _ HB2.out.lt))
 have HF3 := Lib.hid (HF2.out.trans (Fr.under (fun _ => False) hb3) (fun _ _ e => e.elim))
 have kx : Blk w3 w2.heap.size 89 [.int .i64 a, .iface 196 (.pointer (some er))] := by rw [← hw3]; exact Blk.new w2 _ _
 have x0 := kx.cell 0
 have x1 := kx.cell 1
 simp only [gz, gs] at x0 x1
 clear c1 f1 hb3 kx
 go_wp2_with fail
 clear x0 x1
 refine (is_fault a er _).mono ?_
 rintro e w4 ⟨rfl, hb4⟩
 have HA4 := Lib.hid (HA3.out.kept (hb4.block _ HA3.out.lt))
 have hb44 := HB3.out.kept (hb4.block _ HB3.out.lt)
 have HF4 := Lib.hid (HF3.out.trans (Fr.under (fun _ => False) hb4) (fun _ _ e => e.elim))
 have c4 := hb44.cell 0
 have f4 := hb44.frozen 0
 simp only [List.set_cons_zero, List.getElem?_cons_zero] at c4
 have HB5 := Lib.hid (hb44.set 0 (.int .i64 10))
 have HA5 := Lib.hid (HA4.out.other ⟨r2, 0, none⟩ (fun e => HNE.out e.symm) (.int .i64 10))
 have HF5 := Lib.hid (HF4.out.setCell ⟨r2, 0, none⟩ (.int .i64 10) (.inl (.inr rfl)))
 clear hb4 hb44 g3
 go_wp2_with fail
 exact ⟨rfl, _, rfl, _, by simp [results, Tryz.results38, go_sem], rfl, rfl, HA5.out, HB5.out, HF5.out⟩
theorem decode_empty (er : Addr) (W : World) (hg : W.cell? ⟨0, 0, none⟩ = some (.iface 196 (.pointer (some er)))) :
  Calls Tryz.prog 10 #[.string ⟨#[]⟩] W fun e w' => e = .returned (.tuple #[.agg (msgJ 0).toArray, .int .i64 10]) ∧ Below W.heap.size W w' := by
 have hmf : ∀ (fn : Fn) (first cap : Array Value) (w : World), (Instr.makeFunc fn first cap).run Tryz.prog w = .ok (.func fn first cap) w := fun _ _ _ _ => rfl
 obtain ⟨N, hN⟩ : ∃ N, W.heap.size = N := ⟨_, rfl⟩
 have HD0 := Lib.hid (dcs_new W N ⟨#[]⟩ hN)
 have HNN := Lib.hid hN
 have HGL : Hid (0 < N) := (by rw [← hN]; exact block_lt hg : 0 < N)
 have HG := Lib.hid hg;clear hN hg
 go_enter_defers Tryz.func10, Tryz.ntmps10
 go_wp2_with fail
 rw [HNN.out]
 generalize World.alloc _ _ = x0 at HD0 ⊢
 have g0 : x0.cell? ⟨0, 0, none⟩ = some (.iface 196 (.pointer (some er))) := (HD0.out.bel.cell (p := ⟨0, 0, none⟩) HGL.out).trans HG.out
 refine (num_bad (N + 2) ⟨#[]⟩ 0 x0 er g0 (by decide) HD0.out.ki (by decide)).mono ?_
 rintro e w1 ⟨rfl, hb1⟩
 have hd1 := HD0.out.below hb1
 have g1 : w1.cell? ⟨0, 0, none⟩ = some (.iface 196 (.pointer (some er))) := (hb1.cell (p := ⟨0, 0, none⟩) (block_lt g0)).trans g0
 go_wp2_with fail
 have h0 := HGL.out
 refine leaves_cons (f := 38) (args := #[.pointer (some ⟨N, 0, none⟩), .pointer (some ⟨N + 1, 0, none⟩)]) (by simp) (by simp [go_sem]) ?_
 refine (ocatch_short N (N + 1) 0 0 er (msgJ 0) w1 rfl hd1.ka hd1.kb (by omega) g1 (by omega) (by omega)).mono ?_
 rintro e u' w2 ⟨rfl, rfl, k1, k2, hf⟩
 exact ⟨_, res_two Tryz.results10 rfl rfl (load_msg rfl k1) (load_errno k2), rfl, by rw [HNN.out]; exact hd1.bel.trans (hf.below N (by have := hd1.ka.lt; omega) (fun k e => by omega))⟩
end Go.Proofs.YtjkiidhnmljmbaaGreatDoor
