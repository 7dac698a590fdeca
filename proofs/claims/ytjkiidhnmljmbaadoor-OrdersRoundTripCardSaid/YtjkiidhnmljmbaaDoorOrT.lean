/-
  Orders: replan.Decode of a fixed drop order.
-/
import Derived.Defers
import Derived.Recover
import Derived.Test.YtjkiidhnmljmbaaDoorOrS
set_option linter.unusedVariables false
set_option linter.unusedSimpArgs false
namespace Go.Proofs.YtjkiidhnmljmbaaDoor
open Go.RowKit Onair
theorem res_two {P : Program} {f : Func} {i j a b : Nat} {t1 t2 : TypeId} (hres : f.results = #[.cell i t1, .cell j t2]) {tmps : Array Value} {w : World} {v1 v2 : Value} (h2 : tmps[i]?.getD undef = .pointer (some ⟨a, 0, none⟩)) (h3 : tmps[j]?.getD undef = .pointer (some ⟨b, 0, none⟩))
    (l1 : (loadVar t1 ⟨a, 0, none⟩).run P w = .ok v1 w) (l2 : (loadVar t2 ⟨b, 0, none⟩).run P w = .ok v2 w) : (results f tmps).run P w = .ok (.tuple #[v1, v2]) w := by
  simp [results, hres, h2, h3, asAddr, l1, l2, Result.andThen]
set_option maxRecDepth 100000 in
theorem icatch_idle (r1 r2 : Nat) (w : World) :
    CallsD Tryd.prog 64 #[.pointer (some ⟨r1, 0, none⟩), .pointer (some ⟨r2, 0, none⟩)] .returning w fun e u' w' => e = .returned (.tuple #[]) ∧ u' = .returning ∧ w' = w := by
  refine callsD_of_wpS Tryd.func64 rfl fun c₀ cs hu => ?_
  apply wpS_seq
  apply wpS_region
  simp [wpOpsS, go_sem, recoverD, hu, Tryd.ntmps64, Exit.thenS]
  refine wpS_of_wp ?_
  simp only [Array.replicate, List.replicate, List.setIfInBounds_toArray, List.set_cons_zero, List.set_cons_succ, List.append_toArray, List.cons_append, List.nil_append]
  go_wp2
  refine ⟨rfl, _, by rw [← hu], _, by simp [results, Tryd.results64, go_sem], rfl, rfl, rfl⟩
set_option maxRecDepth 100000 in
theorem ocatch_idle (r1 r2 : Nat) (w : World) :
    CallsD Tryd.prog 34 #[.pointer (some ⟨r1, 0, none⟩), .pointer (some ⟨r2, 0, none⟩)] .returning w fun e u' w' => e = .returned (.tuple #[]) ∧ u' = .returning ∧ w' = w := by
  refine callsD_of_wpS Tryd.func34 rfl fun c₀ cs hu => ?_
  apply wpS_seq
  apply wpS_region
  simp [wpOpsS, go_sem, recoverD, hu, Tryd.ntmps34, Exit.thenS]
  refine wpS_of_wp ?_
  simp only [Array.replicate, List.replicate, List.setIfInBounds_toArray, List.set_cons_zero, List.set_cons_succ, List.append_toArray, List.cons_append, List.nil_append]
  go_wp2
  refine ⟨rfl, _, by rw [← hu], _, by simp [results, Tryd.results34, go_sem], rfl, rfl, rfl⟩
theorem load_errno {w : World} {b : Nat} {c : Int} (h : Blk w b 35 [.int .i64 c]) : (loadVar 35 ⟨b, 0, none⟩).run Tryd.prog w = .ok (.int .i64 c) w := by
  have c0 := h.cell 0
  simp only [List.getElem?_cons_zero] at c0
  simp [go_sem, c0]
theorem load_order {w : World} {b : Nat} {l : List Value} (hl : l.length = 26) (h : Blk w b 30 l) : (loadVar 30 ⟨b, 0, none⟩).run Tryd.prog w = .ok (.agg l.toArray) w :=
  run_loadVar_mid w b 0 30 l _ h.range Tryd.underlying30 rfl (by rw [hl]; kernel_rfl)
theorem load_msg {w : World} {b : Nat} {l : List Value} (hl : l.length = 31) (h : Blk w b 32 l) : (loadVar 32 ⟨b, 0, none⟩).run Tryd.prog w = .ok (.agg l.toArray) w :=
  run_loadVar_mid w b 0 32 l _ h.range Tryd.underlying32 rfl (by rw [hl]; kernel_rfl)
/-- The door of replan.Decode behind an answer. -/
theorem ileave_ok {W w : World} {r : Nat} {l : List Value} {c : Int} (hr : W.heap.size = r) (hl : l.length = 26) (b1 : Blk w r 30 l) (b2 : Blk w (r + 1) 35 [.int .i64 c]) (hb : Below r W w) (tmps : Array Value) (h2 : tmps[2]?.getD undef = .pointer (some ⟨r, 0, none⟩)) (h3 : tmps[3]?.getD undef = .pointer (some ⟨r + 1, 0, none⟩)) :
    bodyPostD Tryd.prog Tryd.f39 (fun e w' => e = .returned (.tuple #[.agg l.toArray, .int .i64 c]) ∧ Below W.heap.size W w') .ret { tmps := tmps, defers := [{ target := .fn (.func 64) #[.pointer (some ⟨r, 0, none⟩), .pointer (some ⟨r + 1, 0, none⟩)], args := #[] }] } w := by
  refine leaves_cons (f := 64) (args := #[.pointer (some ⟨r, 0, none⟩), .pointer (some ⟨r + 1, 0, none⟩)]) (by simp) (by simp [go_sem]) ?_
  refine (icatch_idle r (r + 1) w).mono ?_
  rintro e u' w' ⟨rfl, rfl, rfl⟩
  exact ⟨_, res_two Tryd.results39 h2 h3 (load_order hl b1) (load_errno b2), rfl, by rw [hr]; exact hb⟩
theorem oleave_ok {W w : World} {r : Nat} {l : List Value} {c : Int} (hr : W.heap.size = r) (hl : l.length = 31) (b1 : Blk w r 32 l) (b2 : Blk w (r + 1) 35 [.int .i64 c]) (hb : Below r W w) (tmps : Array Value) (h2 : tmps[2]?.getD undef = .pointer (some ⟨r, 0, none⟩)) (h3 : tmps[3]?.getD undef = .pointer (some ⟨r + 1, 0, none⟩)) :
    bodyPostD Tryd.prog Tryd.f12 (fun e w' => e = .returned (.tuple #[.agg l.toArray, .int .i64 c]) ∧ Below W.heap.size W w') .ret { tmps := tmps, defers := [{ target := .fn (.func 34) #[.pointer (some ⟨r, 0, none⟩), .pointer (some ⟨r + 1, 0, none⟩)], args := #[] }] } w := by
  refine leaves_cons (f := 34) (args := #[.pointer (some ⟨r, 0, none⟩), .pointer (some ⟨r + 1, 0, none⟩)]) (by simp) (by simp [go_sem]) ?_
  refine (ocatch_idle r (r + 1) w).mono ?_
  rintro e u' w' ⟨rfl, rfl, rfl⟩
  exact ⟨_, res_two Tryd.results12 h2 h3 (load_msg hl b1) (load_errno b2), rfl, by rw [hr]; exact hb⟩
set_option maxHeartbeats 4000000 in
set_option maxRecDepth 100000 in
theorem idecode_ok (s : ByteArray) (W : World) (hs : s.data.toList = OL) :
    Calls Tryd.prog 39 #[.string s] W fun e w' => e = .returned (.tuple #[.agg (drA 1 5), .int .i64 0]) ∧ Below W.heap.size W w' := by
  have hmf : ∀ (fn : Fn) (first cap : Array Value) (w : World), (Instr.makeFunc fn first cap).run Tryd.prog w = .ok (.func fn first cap) w := fun _ _ _ _ => rfl
  obtain ⟨N, hN⟩ : ∃ N, W.heap.size = N := ⟨_, rfl⟩
  obtain ⟨w1, hw1⟩ : ∃ w1, W.alloc (.cells (ordA 0 0 0 0 0) 30) = w1 := ⟨_, rfl⟩
  obtain ⟨w2, hw2⟩ : ∃ w2, w1.alloc (.cells #[.int .i64 0] 35) = w2 := ⟨_, rfl⟩
  obtain ⟨w3, hw3⟩ : ∃ w3, w2.alloc (.cells #[.string s, .int .i64 0] 136) = w3 := ⟨_, rfl⟩
  have hz1 : w1.heap.size = N + 1 := by rw [← hw1, World.size_alloc, hN]
  have hz2 : w2.heap.size = N + 2 := by rw [← hw2, World.size_alloc, hz1]
  have ka : Blk w3 N 30 (ordA 0 0 0 0 0).toList := by
    have := Blk.new W 30 (ordA 0 0 0 0 0).toList
    rw [hN, show (ordA 0 0 0 0 0).toList.toArray = ordA 0 0 0 0 0 from rfl, hw1] at this
    rw [← hw3, ← hw2]
    exact (this.alloc _).alloc _
  have kb : Blk w3 (N + 1) 35 [.int .i64 0] := by
    have := Blk.new w1 35 [.int .i64 0]
    rw [hz1, hw2] at this
    rw [← hw3]
    exact this.alloc _
  have kc : Blk w3 (N + 2) 136 [.string s, .int .i64 0] := by
    have := Blk.new w2 136 [.string s, .int .i64 0]
    rw [hz2, hw3] at this
    exact this
  have hb3 : Below N W w3 := by
    rw [← hw3, ← hw2, ← hw1, ← hN]
    exact (((Below.refl _ W).alloc (Nat.le_refl _) _).alloc (by simp) _).alloc (by simp; omega) _
  have HOR := Lib.hid (order_ok (N + 2) s w3 hs kc)
  have KA := Lib.hid ka
  have KB := Lib.hid kb
  have KC := Lib.hid kc
  have HB3 := Lib.hid hb3
  have HSZ := Lib.hid (show (Tryd.prog.info? 30).map (·.size) = some 26 from by kernel_rfl)
  have HO1 : Hid ((drA 1 5).all (·.oneCell') = true) := (by unfold drA ordA; simp [Value.oneCell'] : (drA 1 5).all (·.oneCell') = true)
  have HO2 : Hid ((ordA 0 0 0 0 0).toList.toArray.size = (drA 1 5).size) := rfl
  have HNN := Lib.hid hN
  dsimp only [ordA] at hw1
  clear ka kb kc hb3 hs
  go_enter_defers Tryd.func39, Tryd.ntmps39
  go_wp2_with fail
  refine HOR.out.mono ?_
  rintro e w4 ⟨rfl, hf4⟩
  have ka4 := KA.out.kept (hf4.block _ KA.out.lt (by omega))
  have kb4 := KB.out.kept (hf4.block _ KB.out.lt (by omega))
  have hb4 : Below N W w4 := HB3.out.trans (hf4.below N (by have := KC.out.lt; omega) (fun c e => by omega))
  obtain ⟨ob, hob⟩ : ∃ ob, w4.heap.size = ob := ⟨_, rfl⟩
  obtain ⟨w5, hw5⟩ : ∃ w5, w4.alloc (.cells (ordA 0 0 0 0 0) 30) = w5 := ⟨_, rfl⟩
  have hbo5 : Below w4.heap.size w4 w5 := by rw [← hw5]; exact (Below.refl _ w4).alloc (Nat.le_refl _) _
  have ko5 : Blk w5 ob 30 (ordA 0 0 0 0 0).toList := by rw [← hw5, ← hob]; exact Blk.new w4 _ _
  have hNo : N + 1 < ob := by rw [← hob]; exact kb4.lt
  obtain ⟨w6, hw6⟩ : ∃ w6, w5.setRow ob (drA 1 5) = w6 := ⟨_, rfl⟩
  have ko6 : Blk w6 ob 30 (drA 1 5).toList := by rw [← hw6]; exact ko5.setRow _
  have ka6 : Blk w6 N 30 (ordA 0 0 0 0 0).toList := (ka4.kept (hbo5.block _ ka4.lt)).kept (by rw [← hw6]; exact heap_setRow_other _ _ _ _ (by omega))
  have kb6 : Blk w6 (N + 1) 35 [.int .i64 0] := (kb4.kept (hbo5.block _ kb4.lt)).kept (by rw [← hw6]; exact heap_setRow_other _ _ _ _ (by omega))
  have hb6 : Below N W w6 := by
    rw [← hw6]
    exact below_setRow (hb4.trans (hbo5.mono (by omega))) (by omega) _
  have HK5 := Lib.hid ko5
  have HR6 := Lib.hid ko6.range
  have HW6 := Lib.hid hw6
  have KO6 := Lib.hid ko6
  have KA6 := Lib.hid ka6
  have KB6 := Lib.hid kb6
  have HB6 := Lib.hid hb6
  dsimp only [ordA] at hw5
  clear hf4 ka4 kb4 hb4 hbo5 ko5 hw6 ko6 ka6 kb6 hb6 HOR KA KB KC HB3 hw1 hw2 hw3 hz1 hz2
  go_wp2_with (first | (refine wpList_store_row rfl 30 (.tmp 5) (.tmp 11) rfl ob (drA 1 5) rfl rfl 30 _ HK5.out HSZ.out HO2.out HO1.out ?_; rw [HW6.out]) | (refine wpList_load_mid rfl 30 (.tmp 5) rfl ob 0 rfl (drA 1 5).toList _ HR6.out Tryd.underlying30 rfl HSZ.out ?_))
  refine (valid_drop 1 5 _ (by decide) (by decide) (by decide) (by decide)).mono ?_
  rintro e w7 ⟨rfl, hb7⟩
  have HR7 := Lib.hid (KO6.out.kept (hb7.block _ KO6.out.lt)).range
  have ka7 := KA6.out.kept (hb7.block _ KA6.out.lt)
  have kb7 := KB6.out.kept (hb7.block _ KB6.out.lt)
  have hb8 : Below N W w7 := HB6.out.trans (hb7.mono (by have := KA6.out.lt; omega))
  obtain ⟨w8, hw8⟩ : ∃ w8, w7.setRow N (drA 1 5) = w8 := ⟨_, rfl⟩
  have ka8 : Blk w8 N 30 (drA 1 5).toList := by rw [← hw8]; exact ka7.setRow _
  have kb8 : Blk w8 (N + 1) 35 [.int .i64 0] := kb7.kept (by rw [← hw8]; exact heap_setRow_other _ _ _ _ (by omega))
  have hb9 : Below N W w8 := by rw [← hw8]; exact below_setRow hb8 (Nat.le_refl _) _
  have c1 := kb8.cell 0
  have f1 := kb8.frozen 0
  simp only [List.getElem?_cons_zero] at c1
  have HK7 := Lib.hid ka7
  have HW8 := Lib.hid hw8
  have KA9 := Lib.hid (ka8.other ⟨N + 1, 0, none⟩ (show N + 1 ≠ N by omega) (.int .i64 0))
  have KB9 : Hid (Blk (w8.setCell ⟨N + 1, 0, none⟩ (.int .i64 0)) (N + 1) 35 [.int .i64 0]) := kb8.set 0 (.int .i64 0)
  have HB9 := Lib.hid (hb9.setCell (p := ⟨N + 1, 0, none⟩) (show N ≤ N + 1 by omega) (.int .i64 0))
  clear hb7 ka7 kb7 hb8 hw8 ka8 kb8 hb9 hw5
  go_wp2_with (first | (refine wpList_load_mid rfl 30 (.tmp 5) rfl ob 0 rfl (drA 1 5).toList _ HR7.out Tryd.underlying30 rfl HSZ.out ?_) | (refine wpList_store_row rfl 30 (.tmp 2) (.tmp 16) rfl N (drA 1 5) rfl rfl 30 _ HK7.out HSZ.out HO2.out HO1.out ?_; rw [HW8.out]))
  exact ileave_ok HNN.out rfl KA9.out KB9.out HB9.out _ rfl rfl
end Go.Proofs.YtjkiidhnmljmbaaDoor
