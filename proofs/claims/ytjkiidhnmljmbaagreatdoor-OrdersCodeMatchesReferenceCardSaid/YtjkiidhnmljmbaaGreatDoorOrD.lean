/-
  Orders: new senders and receivers, lives, due, Done.
-/
import Derived.RegionTactic
import Derived.BigRegion
import Derived.Deep.QuietTactic
import Derived.BigQuiet
import Derived.Deep.RegionHeld
import Derived.Deep.CutBlock
import Derived.Test.YtjkiidhnmljmbaaGreatDoorOrAC
set_option linter.unusedVariables false
set_option linter.unusedSimpArgs false
namespace Go.Proofs.YtjkiidhnmljmbaaGreatDoor
open Go.RowKit
attribute [local go_sem] Oper.semAt_some
set_option maxHeartbeats 4000000 in
set_option maxRecDepth 100000 in
theorem newSender_ok (tn : Int) (W : World) (h0 : 0 ≤ tn) (h1 : tn < 3) : Calls Tryz.prog 23 #[.int .i64 tn] W fun e w' => ∃ b, e = .returned (.pointer (some ⟨b, 0, none⟩)) ∧ Blk w' b 118 [.int .i64 tn, .bool true, .slice none 0 0, .int .i64 0] ∧ W.heap.size ≤ b ∧ Below W.heap.size W w' := by
  have HEX : Hid (∀ W', Calls Tryz.prog 62 #[.int .i64 tn] W' fun e w' => e = .returned (.bool true) ∧ W' = w') := fun W' => by
    have := exists_any tn W'
    rw [decide_eq_true (show 0 ≤ tn ∧ tn < 3 from ⟨h0, h1⟩)] at this
    exact this
  go_enter Tryz.func23, Tryz.ntmps23
  go_wp2_with fail
  refine (HEX.out _).mono ?_
  rintro e w' ⟨rfl, rfl⟩
  go_wp2_with fail
  go_ret
  exact ⟨_, rfl, Blk.new W _ _, Nat.le_refl _, (Below.refl _ _).alloc (Nat.le_refl _) _⟩
set_option maxHeartbeats 4000000 in
set_option maxRecDepth 100000 in
theorem newReceiver_ok (tn : Int) (W : World) (h0 : 0 ≤ tn) (h1 : tn < 3) : Calls Tryz.prog 24 #[.int .i64 tn] W fun e w' => ∃ b m, e = .returned (.pointer (some ⟨b, 0, none⟩)) ∧ Blk w' b 115 [.int .i64 tn, .bool true, .slice none 0 0, .map (some m)] ∧ w'.heap[m]? = some (.map #[] 0) ∧ W.heap.size ≤ m ∧ m < b ∧ Below W.heap.size W w' := by
  have HEX : Hid (∀ W', Calls Tryz.prog 62 #[.int .i64 tn] W' fun e w' => e = .returned (.bool true) ∧ W' = w') := fun W' => by
    have := exists_any tn W'
    rw [decide_eq_true (show 0 ≤ tn ∧ tn < 3 from ⟨h0, h1⟩)] at this
    exact this
  have hmm := @run_makeMap Tryz.prog
  go_enter Tryz.func24, Tryz.ntmps24
  go_wp2_with fail
  refine (HEX.out _).mono ?_
  rintro e w' ⟨rfl, rfl⟩
  go_wp2_with fail
  go_ret
  refine ⟨_, _, rfl, by have := Blk.new (W.alloc (.map #[] 0)) 115 [.int .i64 tn, .bool true, .slice none 0 0, .map (some W.heap.size)]; rw [World.size_alloc] at this; exact this, ?_, Nat.le_refl _, by simp, ((Below.refl _ _).alloc (Nat.le_refl _) _).alloc (by simp) _⟩
  exact (Below.heap_alloc _ _ _ (by simp)).trans (World.alloc_heap_new W _)
set_option maxHeartbeats 4000000 in
set_option maxRecDepth 100000 in
theorem newSender_bad (tn : Int) (W : World) (h : ¬ (0 ≤ tn ∧ tn < 3)) : Calls Tryz.prog 23 #[.int .i64 tn] W fun e w' => e = .returned (.pointer none) ∧ W = w' := by
  have HEX : Hid (∀ W', Calls Tryz.prog 62 #[.int .i64 tn] W' fun e w' => e = .returned (.bool false) ∧ W' = w') := fun W' => by
    have := exists_any tn W'
    rw [decide_eq_false h] at this
    exact this
  go_enter Tryz.func23, Tryz.ntmps23
  go_wp2_with fail
  refine (HEX.out _).mono ?_
  rintro e w' ⟨rfl, rfl⟩
  go_wp2_with fail
  go_ret
  exact ⟨rfl, rfl⟩
set_option maxHeartbeats 4000000 in
set_option maxRecDepth 100000 in
theorem newReceiver_bad (tn : Int) (W : World) (h : ¬ (0 ≤ tn ∧ tn < 3)) : Calls Tryz.prog 24 #[.int .i64 tn] W fun e w' => e = .returned (.pointer none) ∧ W = w' := by
  have HEX : Hid (∀ W', Calls Tryz.prog 62 #[.int .i64 tn] W' fun e w' => e = .returned (.bool false) ∧ W' = w') := fun W' => by
    have := exists_any tn W'
    rw [decide_eq_false h] at this
    exact this
  go_enter Tryz.func24, Tryz.ntmps24
  go_wp2_with fail
  refine (HEX.out _).mono ?_
  rintro e w' ⟨rfl, rfl⟩
  go_wp2_with fail
  go_ret
  exact ⟨rfl, rfl⟩
set_option maxHeartbeats 4000000 in
set_option maxRecDepth 100000 in
theorem slives_any (b : Nat) (v0 v2 v3 : Value) (W : World) (h : Blk W b 118 [v0, .bool true, v2, v3]) : Calls Tryz.prog 57 #[.pointer (some ⟨b, 0, none⟩)] W fun e w' => e = .returned (.bool true) ∧ W = w' := by
  have c1 := h.cell 1
  simp only [List.getElem?_cons_zero, List.getElem?_cons_succ] at c1
  clear h
  go_enter Tryz.func57, Tryz.ntmps57
  go_wp2_with fail
  go_ret
  exact ⟨rfl, rfl⟩
set_option maxHeartbeats 4000000 in
set_option maxRecDepth 100000 in
theorem rlives_any (b : Nat) (v0 v2 v3 : Value) (W : World) (h : Blk W b 115 [v0, .bool true, v2, v3]) : Calls Tryz.prog 55 #[.pointer (some ⟨b, 0, none⟩)] W fun e w' => e = .returned (.bool true) ∧ W = w' := by
  have c1 := h.cell 1
  simp only [List.getElem?_cons_zero, List.getElem?_cons_succ] at c1
  clear h
  go_enter Tryz.func55, Tryz.ntmps55
  go_wp2_with fail
  go_ret
  exact ⟨rfl, rfl⟩
/-- Is an order sent again at a frame? -/
def dueB (sent : Bool) (a now : Int) : Bool := !sent || decide (now < a) || decide (6 ≤ now - a)
set_option maxHeartbeats 4000000 in
set_option maxRecDepth 100000 in
theorem due_any (g o : Nat) (sent : Bool) (a now : Int) (W : World) (hs : W.cell? ⟨g, o + 26, none⟩ = some (.bool sent)) (ha : W.cell? ⟨g, o + 27, none⟩ = some (.int .i64 a)) (a0 : 0 ≤ a) (a1 : a ≤ 1000000000) (n0 : 0 ≤ now) (n1 : now ≤ 1000000000) : Calls Tryz.prog 59 #[.pointer (some ⟨g, o, none⟩), .int .i64 now] W fun e w' => e = .returned (.bool (dueB sent a now)) ∧ W = w' := by
  have hw : IntKind.i64.wrap (now - a) = now - a := IntWalk.i64_in _ (by omega)
  cases sent with
  | false =>
    go_enter Tryz.func59, Tryz.ntmps59
    go_wp2_with fail
    go_ret
    exact ⟨by simp [dueB], rfl⟩
  | true =>
    by_cases h1 : now < a
    · have q : (now < a) = True := eq_true h1
      clear q
      go_enter Tryz.func59, Tryz.ntmps59
      go_wp2_with fail
      go_ret
      exact ⟨by simp [dueB, h1], rfl⟩
    · by_cases h2 : now - a ≥ 6
      · have h3 : 6 ≤ now - a := h2
        go_enter Tryz.func59, Tryz.ntmps59
        go_wp2_with fail
        go_ret
        exact ⟨by simp [dueB, h1, h3], rfl⟩
      · have h3 : ¬ 6 ≤ now - a := h2
        go_enter Tryz.func59, Tryz.ntmps59
        go_wp2_with fail
        go_ret
        exact ⟨by simp [dueB, h1, h3], rfl⟩
set_option maxHeartbeats 4000000 in
set_option maxRecDepth 100000 in
theorem done_any (b n cap : Nat) (oa : Option Addr) (v0 : Value) (k : Int) (W : World) (h : Blk W b 118 [v0, .bool true, .slice oa n cap, .int .i64 k]) : Calls Tryz.prog 18 #[.pointer (some ⟨b, 0, none⟩)] W fun e w' => e = .returned (.bool (k == (n : Int))) ∧ Below W.heap.size W w' := by
  have HL := Lib.hid (fun W' (h : Blk W' b 118 _) => slives_any b v0 (.slice oa n cap) (.int .i64 k) W' h)
  have HB := Lib.hid h
  have HBD : Hid (Below W.heap.size W W.drew) := (Below.refl _ _).drew
  have c2 := h.cell 2
  have c3 := h.cell 3
  simp only [List.getElem?_cons_zero, List.getElem?_cons_succ] at c2 c3
  clear h
  go_enter Tryz.func18, Tryz.ntmps18
  go_upto_region 1 with (fail)
  refine wp_region_held_drew (S := fun W => W.cell? ⟨b, 2, none⟩ = some (.slice oa n cap) ∧ W.cell? ⟨b, 3, none⟩ = some (.int .i64 k)) (by kernel_rfl) ?_ (fun hHeld => ?_)
  · exact ⟨c2, c3⟩
  refine wpAnyH_take (i := 0) (oi := ⟨some 3, _, _, _, _, _⟩) (v := ?vp1) rfl (by kernel_rfl) (by kernel_rfl) (by kernel_rfl) (fun _ _ _ h => h) (Or.inl ⟨by rfl, ?yp1⟩) (by assumption) ?rp1
  case yp1 => (intro w hSw; (try dsimp only at hSw); go_simp; (try (with_reducible rfl)))
  try simp only [Act.put, List.setIfInBounds_toArray, List.set_cons_zero, List.set_cons_succ]
  refine wpAnyH_ready (rs := [1]) (by kernel_rfl) (by simp) (AllReadyH.cons (o := ⟨some 4, _, _, _, _, _⟩) rfl (fun K hK => ?_) AllReadyH.nil)
  go_simp
  refine (HL.out _ HB.out.drew).mono ?_
  rintro e w1 ⟨rfl, rfl⟩
  go_simp
  refine hK.out _ _ ?_ (fun hHeld2 => ?_)
  · exact ⟨c2, c3⟩
  clear hK K hHeld
  rename _ => hHeld
  try simp only [Act.put, List.setIfInBounds_toArray, List.set_cons_zero, List.set_cons_succ]
  refine wpAnyH_take (i := 2) (oi := ⟨some 5, _, _, _, _, _⟩) (v := ?vp2) rfl (by kernel_rfl) (by kernel_rfl) (by kernel_rfl) (fun _ _ _ h => h) (Or.inl ⟨by rfl, ?yp2⟩) (by assumption) ?rp2
  case yp2 => (intro w hSw; (try dsimp only at hSw); go_simp; (try (with_reducible rfl)))
  try simp only [Act.put, List.setIfInBounds_toArray, List.set_cons_zero, List.set_cons_succ]
  refine wpAnyH_take (i := 3) (oi := ⟨some 6, _, _, _, _, _⟩) (v := ?vp3) rfl (by kernel_rfl) (by kernel_rfl) (by kernel_rfl) (fun _ _ _ h => h) (Or.inl ⟨by rfl, ?yp3⟩) (by assumption) ?rp3
  case yp3 => (intro w hSw; (try dsimp only at hSw); go_simp; (try (with_reducible rfl)))
  try simp only [Act.put, List.setIfInBounds_toArray, List.set_cons_zero, List.set_cons_succ]
  refine wpAnyH_take (i := 4) (oi := ⟨some 7, _, _, _, _, _⟩) (v := ?vp4) rfl (by kernel_rfl) (by kernel_rfl) (by kernel_rfl) (fun _ _ _ h => h) (Or.inl ⟨by rfl, ?yp4⟩) (by assumption) ?rp4
  case yp4 => (intro w hSw; (try dsimp only at hSw); go_simp; (try (with_reducible rfl)))
  try simp only [Act.put, List.setIfInBounds_toArray, List.set_cons_zero, List.set_cons_succ]
  refine wpAnyH_take (i := 5) (oi := ⟨some 8, _, _, _, _, _⟩) (v := ?vp5) rfl (by kernel_rfl) (by kernel_rfl) (by kernel_rfl) (fun _ _ _ h => h) (Or.inl ⟨by rfl, ?yp5⟩) (by assumption) ?rp5
  case yp5 => (intro w hSw; (try dsimp only at hSw); go_simp; (try (with_reducible rfl)))
  try simp only [Act.put, List.setIfInBounds_toArray, List.set_cons_zero, List.set_cons_succ]
  refine wpAnyH_take (i := 6) (oi := ⟨some 9, _, _, _, _, _⟩) (v := ?vp6) rfl (by kernel_rfl) (by kernel_rfl) (by kernel_rfl) (fun _ _ _ h => h) (Or.inl ⟨by rfl, ?yp6⟩) (by assumption) ?rp6
  case yp6 => (intro w hSw; (try dsimp only at hSw); go_simp; (try (with_reducible rfl)))
  try simp only [Act.put, List.setIfInBounds_toArray, List.set_cons_zero, List.set_cons_succ]
  refine wpAnyH_take (i := 7) (oi := ⟨some 10, _, _, _, _, _⟩) (v := ?vp7) rfl (by kernel_rfl) (by kernel_rfl) (by kernel_rfl) (fun _ _ _ h => h) (Or.inl ⟨by rfl, ?yp7⟩) (by assumption) ?rp7
  case yp7 => (intro w hSw; (try dsimp only at hSw); go_simp; (try (with_reducible rfl)))
  try simp only [Act.put, List.setIfInBounds_toArray, List.set_cons_zero, List.set_cons_succ]
  refine wpAnyH_take (i := 8) (oi := ⟨some 11, _, _, _, _, _⟩) (v := ?vp8) rfl (by kernel_rfl) (by kernel_rfl) (by kernel_rfl) (fun _ _ _ h => h) (Or.inl ⟨by rfl, ?yp8⟩) (by assumption) ?rp8
  case yp8 => (intro w hSw; (try dsimp only at hSw); go_simp; (try (with_reducible rfl)))
  try simp only [Act.put, List.setIfInBounds_toArray, List.set_cons_zero, List.set_cons_succ]
  refine wpAnyH_take (i := 9) (oi := ⟨some 12, _, _, _, _, _⟩) (v := ?vp9) rfl (by kernel_rfl) (by kernel_rfl) (by kernel_rfl) (fun _ _ _ h => h) (Or.inl ⟨by rfl, ?yp9⟩) (by assumption) ?rp9
  case yp9 => (intro w hSw; (try dsimp only at hSw); go_simp; (try (with_reducible rfl)))
  try simp only [Act.put, List.setIfInBounds_toArray, List.set_cons_zero, List.set_cons_succ]
  refine wpAnyH_take (i := 10) (oi := ⟨some 13, _, _, _, _, _⟩) (v := ?vp10) rfl (by kernel_rfl) (by kernel_rfl) (by kernel_rfl) (fun _ _ _ h => h) (Or.inl ⟨by rfl, ?yp10⟩) (by assumption) ?rp10
  case yp10 => (intro w hSw; (try dsimp only at hSw); go_simp; (try (with_reducible rfl)))
  try simp only [Act.put, List.setIfInBounds_toArray, List.set_cons_zero, List.set_cons_succ]
  refine wpAnyH_take (i := 11) (oi := ⟨some 14, _, _, _, _, _⟩) (v := ?vp11) rfl (by kernel_rfl) (by kernel_rfl) (by kernel_rfl) (fun _ _ _ h => h) (Or.inl ⟨by rfl, ?yp11⟩) (by assumption) ?rp11
  case yp11 => (intro w hSw; (try dsimp only at hSw); go_simp; (try (with_reducible rfl)))
  try simp only [Act.put, List.setIfInBounds_toArray, List.set_cons_zero, List.set_cons_succ]
  refine wpAnyH_take (i := 12) (oi := ⟨some 15, _, _, _, _, _⟩) (v := ?vp12) rfl (by kernel_rfl) (by kernel_rfl) (by kernel_rfl) (fun _ _ _ h => h) (Or.inl ⟨by rfl, ?yp12⟩) (by assumption) ?rp12
  case yp12 => (intro w hSw; (try dsimp only at hSw); go_simp; (try (with_reducible rfl)))
  try simp only [Act.put, List.setIfInBounds_toArray, List.set_cons_zero, List.set_cons_succ]
  refine wpAnyH_take (i := 13) (oi := ⟨some 16, _, _, _, _, _⟩) (v := ?vp13) rfl (by kernel_rfl) (by kernel_rfl) (by kernel_rfl) (fun _ _ _ h => h) (Or.inl ⟨by rfl, ?yp13⟩) (by assumption) ?rp13
  case yp13 => (intro w hSw; (try dsimp only at hSw); go_simp; (try (with_reducible rfl)))
  try simp only [Act.put, List.setIfInBounds_toArray, List.set_cons_zero, List.set_cons_succ]
  refine wpAnyH_take (i := 14) (oi := ⟨some 2, _, _, _, _, _⟩) (v := ?vp14) rfl (by kernel_rfl) (by kernel_rfl) (by kernel_rfl) (fun _ _ _ h => h) (Or.inl ⟨by rfl, ?yp14⟩) (by assumption) ?rp14
  case yp14 => (intro w hSw; (try dsimp only at hSw); go_simp; (try (with_reducible rfl)))
  try simp only [Act.put, List.setIfInBounds_toArray, List.set_cons_zero, List.set_cons_succ]
  refine wpAnyH_done (by kernel_rfl) ?_ _
  clear hHeld
  go_wp2_with fail
  go_ret
  exact ⟨rfl, HBD.out⟩
end Go.Proofs.YtjkiidhnmljmbaaGreatDoor
