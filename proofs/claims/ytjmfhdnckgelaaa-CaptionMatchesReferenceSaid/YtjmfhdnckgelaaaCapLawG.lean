/-
  The walk of the law CaptionMatchesReference.
-/
import Derived.WalkKit
import Derived.LoopTactic
import Derived.WalkSpells
import Derived.WalkLawsBesides
import Derived.RegionTactic
import Derived.BigRegion
import Derived.Deep.QuietTactic
import Derived.Deep.RegionHeld3
import Derived.BigQuiet
import Derived.IntWalk
import Derived.Outline
import Derived.Test.YtjmfhdnckgelaaaCapSane
import Derived.Test.YtjmfhdnckgelaaaCapRefD
import Derived.Deep.RegionHeld
import Derived.Test.YtjmfhdnckgelaaaCapOpen
set_option linter.unusedVariables false
set_option linter.unusedSimpArgs false
namespace Go.Proofs.Ytjmfhdnckgelaaa
open Go.RowKit
/-- What the law has in memory. -/
structure Mt (W wr : World) (C : Nat) (c : Cue) (ol : Option Addr) (L : List Cue) (r1 r2 : Option Addr) (R : List (List UInt8)) : Prop where
  c : Blk wr C 24 c.cells
  l : RdC wr ol L
  a : RdS wr r1 R
  b : RdS wr r2 R
  bel : Below W.heap.size W wr
theorem Mt.below {W wr w' : World} {C : Nat} {c : Cue} {ol : Option Addr} {L : List Cue} {r1 r2 : Option Addr} {R : List (List UInt8)} (h : Mt W wr C c ol L r1 r2 R) (hb : Below wr.heap.size wr w') : Mt W w' C c ol L r1 r2 R :=
  ⟨h.c.kept (hb.block _ h.c.lt), h.l.kept hb, h.a.kept hb, h.b.kept hb, bstep h.bel hb⟩
/-- All that it has, at the drawn region. -/
structure Mx (W wr : World) (C : Nat) (c : Cue) (ol : Option Addr) (L : List Cue) (r1 r2 : Option Addr) (R : List (List UInt8)) (X Y : Nat) (x : Cue) : Prop where
  m : Mt W wr C c ol L r1 r2 R
  bx : Blk wr X 24 x.cells
  by_ : Blk wr Y 24 x.cells
theorem Mx.below {W wr w' : World} {C : Nat} {c : Cue} {ol : Option Addr} {L : List Cue} {r1 r2 : Option Addr} {R : List (List UInt8)} {X Y : Nat} {x : Cue} (h : Mx W wr C c ol L r1 r2 R X Y x) (hb : Below wr.heap.size wr w') : Mx W w' C c ol L r1 r2 R X Y x :=
  ⟨h.m.below hb, h.bx.kept (hb.block _ h.bx.lt), h.by_.kept (hb.block _ h.by_.lt)⟩
theorem Mx.cells {W w' : World} {C : Nat} {c : Cue} {ol : Option Addr} {L : List Cue} {r1 r2 : Option Addr} {R : List (List UInt8)} {X Y : Nat} {x : Cue} (h : Mx W w' C c ol L r1 r2 R X Y x) : w'.cell? ⟨X, 0, none⟩ = some (.int .i64 x.id) ∧ w'.cell? ⟨X, 1, none⟩ = some (.int .i64 x.fr) ∧ w'.cell? ⟨X, 2, none⟩ = some (.int .i64 x.to) ∧ w'.cell? ⟨X, 3, none⟩ = some (.int .i64 x.pr) ∧ w'.cell? ⟨X, 4, none⟩ = some (.string x.tx) ∧ w'.cell? ⟨Y, 0, none⟩ = some (.int .i64 x.id) ∧ w'.cell? ⟨Y, 1, none⟩ = some (.int .i64 x.fr) ∧ w'.cell? ⟨Y, 2, none⟩ = some (.int .i64 x.to) ∧ w'.cell? ⟨Y, 3, none⟩ = some (.int .i64 x.pr) ∧ w'.cell? ⟨Y, 4, none⟩ = some (.string x.tx) ∧ w'.cell? ⟨C, 0, none⟩ = some (.int .i64 c.id) ∧ w'.cell? ⟨C, 1, none⟩ = some (.int .i64 c.fr) ∧ w'.cell? ⟨C, 2, none⟩ = some (.int .i64 c.to) ∧ w'.cell? ⟨C, 3, none⟩ = some (.int .i64 c.pr) ∧ w'.cell? ⟨C, 4, none⟩ = some (.string c.tx) :=
  ⟨h.bx.cell 0, h.bx.cell 1, h.bx.cell 2, h.bx.cell 3, h.bx.cell 4, h.by_.cell 0, h.by_.cell 1, h.by_.cell 2, h.by_.cell 3, h.by_.cell 4, h.m.c.cell 0, h.m.c.cell 1, h.m.c.cell 2, h.m.c.cell 3, h.m.c.cell 4⟩
theorem drew_below (w : World) : Below w.heap.size w w.drew := ⟨rfl, rfl, rfl, Nat.le_refl _, fun _ _ => rfl⟩
theorem rowsR_len (l : List UInt8) : (rowsR l).length ≤ 4 := by
  unfold rowsR
  split
  · rename_i h
    unfold fitsB at h
    simp only [Bool.and_eq_true, decide_eq_true_eq] at h
    exact h.2.2
  · simp
set_option maxHeartbeats 8000000 in
set_option maxRecDepth 100000 in
theorem walkMatches (W : World) (oa : Option Addr) (cap : Nat) (l : List Cue) (c : Cue) (s0 : ByteArray) (f : Int) (hok : ∀ c ∈ l, c.Ok) (hl : l.length ≤ maxLen) (hr : RdC W oa l) (hc : c.Ok) (hs0 : s0.size ≤ maxLen) :
    Calls Try.prog 3 #[.slice oa l.length cap, .agg #[.int .i64 c.id, .int .i64 c.fr, .int .i64 c.to, .int .i64 c.pr, .string c.tx], .string s0, .int .i64 f] W fun e w' => e = .returned (.bool true) ∧ Below W.heap.size W w' := by
  have HR := Lib.hid hr
  have HOK := Lib.hid hok
  clear hr hok
  unfold maxLen at hs0
  obtain ⟨m, T, h1, h2, h3, h4, h5⟩ : ∃ (m : Nat) (T : ByteArray), m ≤ s0.size ∧ m ≤ 300 ∧ (if (300 : Int) < (s0.size : Int) then (300 : Int) else (s0.size : Int)) = (m : Int) ∧ s0.extract 0 m = T ∧ T.size ≤ 300 := ⟨min 300 s0.size, _, by omega, by omega, by split <;> omega, rfl, by rw [ByteArray.size_extract]; omega⟩
  go_enter Try.func3, Try.ntmps3
  go_wp2_with fail
  refine (sane_any _).mono ?_
  rintro e w1 ⟨rfl, hb1⟩
  have hcb : Blk (W.alloc (.cells #[.int .i64 c.id, .int .i64 c.fr, .int .i64 c.to, .int .i64 c.pr, .string c.tx] 24)) W.heap.size 24 c.cells := Blk.new W 24 c.cells
  have HC1 := Lib.hid (hcb.kept (hb1.block _ hcb.lt))
  have HB1 := Lib.hid (bstep ((Below.refl _ W).alloc (Nat.le_refl _) (.cells #[.int .i64 c.id, .int .i64 c.fr, .int .i64 c.to, .int .i64 c.pr, .string c.tx] 24)) hb1)
  clear hb1 hcb
  go_wp2_with fail
  refine (cut_any w1 oa cap l HOK.out hl (HR.out.kept HB1.out)).mono ?_
  have hll := cutC_len l
  generalize cutC l = L at hll ⊢
  rintro e w2 ⟨ol, cl, rfl, ho2, hb2⟩
  have HL2 := Lib.hid (own_rdc ho2).2
  have HC2 := Lib.hid (HC1.out.kept (hb2.block _ HC1.out.lt))
  have HB2 := Lib.hid (bstep HB1.out hb2)
  clear hb2 ho2 HR HOK hl HC1 HB1
  go_wp2_with fail
  clear h1 h2 h3 h4
  refine (rows_any T _ (small_len T (by omega))).mono ?_
  have hrl := rowsR_len T.data.toList
  obtain ⟨R, hR⟩ : ∃ R, rowsR T.data.toList = R := ⟨_, rfl⟩
  obtain ⟨ft, hft⟩ : ∃ ft, fitsB T.data.toList = ft := ⟨_, rfl⟩
  rw [hR, hft]
  rw [hR] at hrl
  have HRR := Lib.hid hR
  have HFT := Lib.hid hft
  clear hR hft
  rintro e w3 ⟨v3, rfl, ho3, hb3⟩
  obtain ⟨r1, cr1, rfl⟩ := own_slice ho3
  have HA3 := Lib.hid (own_rds ho3).2
  have HL3 := Lib.hid (HL2.out.kept hb3)
  have HC3 := Lib.hid (HC2.out.kept (hb3.block _ HC2.out.lt))
  have HB3 := Lib.hid (bstep HB2.out hb3)
  clear ho3 hb3 HL2 HC2 HB2
  go_wp2_with fail
  refine (refRows_any T _ (small_len T (by omega))).mono ?_
  rw [HRR.out, HFT.out]
  rintro e w4 ⟨v4, rfl, ho4, hb4⟩
  obtain ⟨r2, cr2, rfl⟩ := own_slice ho4
  have HM4 : Hid (Mt W w4 W.heap.size c ol L r1 r2 R) := ⟨HC3.out.kept (hb4.block _ HC3.out.lt), HL3.out.kept hb4, HA3.out.kept hb4, (own_rds ho4).2, bstep HB3.out hb4⟩
  clear ho4 hb4 HA3 HL3 HC3 HB3
  go_wp2_with fail
  refine (active_any w4 ol cl L f (by omega) HM4.out.l).mono ?_
  obtain ⟨o, ho⟩ : ∃ o, activeL L f = o := ⟨_, rfl⟩
  obtain ⟨x, hx⟩ : ∃ x, o.getD cue0 = x := ⟨_, rfl⟩
  obtain ⟨sh, hsh⟩ : ∃ sh, o.isSome = sh := ⟨_, rfl⟩
  rw [ho, hx, hsh]
  have HO := Lib.hid ho
  have HX := Lib.hid hx
  have HSH := Lib.hid hsh
  clear ho hx hsh
  rintro e w5 ⟨rfl, hb5⟩
  have HM5 := Lib.hid (HM4.out.below hb5)
  clear hb5 HM4
  go_wp2_with fail
  have HM6 := Lib.hid (HM5.out.below ((Below.refl _ w5).alloc (Nat.le_refl _) (.cells #[.int .i64 x.id, .int .i64 x.fr, .int .i64 x.to, .int .i64 x.pr, .string x.tx] 24)))
  have HX6 : Hid (Blk (w5.alloc (.cells #[.int .i64 x.id, .int .i64 x.fr, .int .i64 x.to, .int .i64 x.pr, .string x.tx] 24)) w5.heap.size 24 x.cells) := Blk.new w5 24 x.cells
  generalize w5.alloc (.cells #[.int .i64 x.id, .int .i64 x.fr, .int .i64 x.to, .int .i64 x.pr, .string x.tx] 24) = w6 at HM6 HX6 ⊢
  generalize w5.heap.size = X at HX6 ⊢
  clear HM5
  refine (refActive_any w6 ol cl L f (by omega) HM6.out.l).mono ?_
  rw [HO.out, HX.out, HSH.out]
  rintro e w7 ⟨rfl, hb7⟩
  have HM7 := Lib.hid (HM6.out.below hb7)
  have HX7 := Lib.hid (HX6.out.kept (hb7.block _ HX6.out.lt))
  clear hb7 HM6 HX6
  have HM8 := Lib.hid (HM7.out.below ((Below.refl _ w7).alloc (Nat.le_refl _) (.cells #[.int .i64 x.id, .int .i64 x.fr, .int .i64 x.to, .int .i64 x.pr, .string x.tx] 24)))
  have HX8 := Lib.hid (HX7.out.alloc (.cells #[.int .i64 x.id, .int .i64 x.fr, .int .i64 x.to, .int .i64 x.pr, .string x.tx] 24))
  have HY8 : Hid (Blk (w7.alloc (.cells #[.int .i64 x.id, .int .i64 x.fr, .int .i64 x.to, .int .i64 x.pr, .string x.tx] 24)) w7.heap.size 24 x.cells) := Blk.new w7 24 x.cells
  go_wp2_with fail
  generalize w7.alloc (.cells #[.int .i64 x.id, .int .i64 x.fr, .int .i64 x.to, .int .i64 x.pr, .string x.tx] 24) = w8 at HM8 HX8 HY8 ⊢
  generalize w7.heap.size = Y at HY8 ⊢
  clear HM7 HX7
  -- REGION
  have HQ0 : Hid (Mx W w8.drew W.heap.size c ol L r1 r2 R X Y x) := Mx.below ⟨HM8.out, HX8.out, HY8.out⟩ (drew_below w8)
  have hD := HQ0.out.cells
  obtain ⟨eq, hEq⟩ : ∃ eq, decide (L = [c]) = eq := ⟨_, rfl⟩
  have hEq := Lib.hid hEq
  obtain ⟨vb, hVb⟩ : ∃ vb, validB c = vb := ⟨_, rfl⟩
  have hVb := Lib.hid hVb
  clear HM8 HX8 HY8
  refine wp_region_held_drew (S := fun w' => w'.cell? ⟨X, 0, none⟩ = some (.int .i64 x.id) ∧ w'.cell? ⟨X, 1, none⟩ = some (.int .i64 x.fr) ∧ w'.cell? ⟨X, 2, none⟩ = some (.int .i64 x.to) ∧ w'.cell? ⟨X, 3, none⟩ = some (.int .i64 x.pr) ∧ w'.cell? ⟨X, 4, none⟩ = some (.string x.tx) ∧ w'.cell? ⟨Y, 0, none⟩ = some (.int .i64 x.id) ∧ w'.cell? ⟨Y, 1, none⟩ = some (.int .i64 x.fr) ∧ w'.cell? ⟨Y, 2, none⟩ = some (.int .i64 x.to) ∧ w'.cell? ⟨Y, 3, none⟩ = some (.int .i64 x.pr) ∧ w'.cell? ⟨Y, 4, none⟩ = some (.string x.tx) ∧ w'.cell? ⟨W.heap.size, 0, none⟩ = some (.int .i64 c.id) ∧ w'.cell? ⟨W.heap.size, 1, none⟩ = some (.int .i64 c.fr) ∧ w'.cell? ⟨W.heap.size, 2, none⟩ = some (.int .i64 c.to) ∧ w'.cell? ⟨W.heap.size, 3, none⟩ = some (.int .i64 c.pr) ∧ w'.cell? ⟨W.heap.size, 4, none⟩ = some (.string c.tx)) (by kernel_rfl) ?_ (fun hHeld => ?_)
  · exact hD
  clear hD
  generalize w8.drew = z0 at HQ0 hHeld ⊢
  refine wpAnyH_take (i := 0) (oi := ⟨some 48, _, _, _, _, _⟩) (v := .bool true) rfl (by kernel_rfl) (by kernel_rfl) (by kernel_rfl) (fun _ _ _ h => h) (Or.inl ⟨by rfl, ?ya0⟩) (by assumption) ?ra0
  case ya0 => (intro w hSw; (try dsimp only at hSw); go_simp; (try (with_reducible rfl)))
  try simp only [Act.put, List.setIfInBounds_toArray, List.set_cons_zero, List.set_cons_succ]
  refine wpAnyH_take (i := 1) (oi := ⟨some 49, _, _, _, _, _⟩) (v := .bool true) rfl (by kernel_rfl) (by kernel_rfl) (by kernel_rfl) (fun _ _ _ h => h) (Or.inl ⟨by rfl, ?ya1⟩) (by assumption) ?ra1
  case ya1 => (intro w hSw; (try dsimp only at hSw); go_simp; (try (with_reducible rfl)))
  try simp only [Act.put, List.setIfInBounds_toArray, List.set_cons_zero, List.set_cons_succ]
  refine wpAnyH_take (i := 2) (oi := ⟨some 50, _, _, _, _, _⟩) (v := ?va2) rfl (by kernel_rfl) (by kernel_rfl) (by kernel_rfl) (fun _ _ _ h => h) (Or.inl ⟨by rfl, ?ya2⟩) (by assumption) ?ra2
  case ya2 => (intro w hSw; (try dsimp only at hSw); go_simp; (try (with_reducible rfl)))
  try simp only [Act.put, List.setIfInBounds_toArray, List.set_cons_zero, List.set_cons_succ]
  refine wpAnyH_take (i := 3) (oi := ⟨some 51, _, _, _, _, _⟩) (v := ?va3) rfl (by kernel_rfl) (by kernel_rfl) (by kernel_rfl) (fun _ _ _ h => h) (Or.inl ⟨by rfl, ?ya3⟩) (by assumption) ?ra3
  case ya3 => (intro w hSw; (try dsimp only at hSw); go_simp; (try (with_reducible rfl)))
  try simp only [Act.put, List.setIfInBounds_toArray, List.set_cons_zero, List.set_cons_succ]
  refine wpAnyH_take (i := 4) (oi := ⟨some 52, _, _, _, _, _⟩) (v := .bool true) rfl (by kernel_rfl) (by kernel_rfl) (by kernel_rfl) (fun _ _ _ h => h) (Or.inl ⟨by rfl, ?ya4⟩) (by assumption) ?ra4
  case ya4 => (intro w hSw; (try dsimp only at hSw); go_simp; (try (with_reducible rfl)))
  try simp only [Act.put, List.setIfInBounds_toArray, List.set_cons_zero, List.set_cons_succ]
  refine wpAnyH_take (i := 5) (oi := ⟨some 53, _, _, _, _, _⟩) (v := .bool true) rfl (by kernel_rfl) (by kernel_rfl) (by kernel_rfl) (fun _ _ _ h => h) (Or.inl ⟨by rfl, ?ya5⟩) (by assumption) ?ra5
  case ya5 => (intro w hSw; (try dsimp only at hSw); go_simp; (try (with_reducible rfl)))
  try simp only [Act.put, List.setIfInBounds_toArray, List.set_cons_zero, List.set_cons_succ]
  refine wpAnyH_take (i := 6) (oi := ⟨some 54, _, _, _, _, _⟩) (v := .bool true) rfl (by kernel_rfl) (by kernel_rfl) (by kernel_rfl) (fun _ _ _ h => h) (Or.inl ⟨by rfl, ?ya6⟩) (by assumption) ?ra6
  case ya6 => (intro w hSw; (try dsimp only at hSw); go_simp; (try (with_reducible rfl)))
  try simp only [Act.put, List.setIfInBounds_toArray, List.set_cons_zero, List.set_cons_succ]
  refine wpAnyH_take (i := 7) (oi := ⟨some 55, _, _, _, _, _⟩) (v := ?va7) rfl (by kernel_rfl) (by kernel_rfl) (by kernel_rfl) (fun _ _ _ h => h) (Or.inl ⟨by rfl, ?ya7⟩) (by assumption) ?ra7
  case ya7 => (intro w hSw; (try dsimp only at hSw); go_simp; (try (with_reducible rfl)))
  try simp only [Act.put, List.setIfInBounds_toArray, List.set_cons_zero, List.set_cons_succ]
  refine wpAnyH_take (i := 8) (oi := ⟨some 56, _, _, _, _, _⟩) (v := ?va8) rfl (by kernel_rfl) (by kernel_rfl) (by kernel_rfl) (fun _ _ _ h => h) (Or.inl ⟨by rfl, ?ya8⟩) (by assumption) ?ra8
  case ya8 => (intro w hSw; (try dsimp only at hSw); go_simp; (try (with_reducible rfl)))
  try simp only [Act.put, List.setIfInBounds_toArray, List.set_cons_zero, List.set_cons_succ]
  refine wpAnyH_ready (rs := [9]) (by kernel_rfl) (by simp) (AllReadyH.cons (o := ⟨some 57, _, _, _, _, _⟩) rfl (fun K hK => ?_) AllReadyH.nil)
  go_simp
  refine (sameStrings_any z0 r1 r2 cr1 cr2 R R (by omega) (by omega) HQ0.out.m.a HQ0.out.m.b).mono ?_
  rintro e z1 ⟨rfl, hz⟩
  rw [decide_eq_true rfl]
  have HQ1 := Lib.hid (HQ0.out.below hz)
  go_simp
  refine hK.out _ _ ?_ (fun hHeld2 => ?_)
  · exact HQ1.out.cells
  clear hK K hHeld
  rename _ => hHeld
  try simp only [Act.put, List.setIfInBounds_toArray, List.set_cons_zero, List.set_cons_succ]
  refine wpAnyH_take (i := 10) (oi := ⟨some 58, _, _, _, _, _⟩) (v := .bool true) rfl (by kernel_rfl) (by kernel_rfl) (by kernel_rfl) (fun _ _ _ h => h) (Or.inl ⟨by rfl, ?ya10⟩) (by assumption) ?ra10
  case ya10 => (intro w hSw; (try dsimp only at hSw); go_simp; (try (with_reducible rfl)))
  try simp only [Act.put, List.setIfInBounds_toArray, List.set_cons_zero, List.set_cons_succ]
  refine wpAnyH_take (i := 11) (oi := ⟨some 59, _, _, _, _, _⟩) (v := .bool true) rfl (by kernel_rfl) (by kernel_rfl) (by kernel_rfl) (fun _ _ _ h => h) (Or.inl ⟨by rfl, ?ya11⟩) (by assumption) ?ra11
  case ya11 => (intro w hSw; (try dsimp only at hSw); go_simp; (try (with_reducible rfl)))
  try simp only [Act.put, List.setIfInBounds_toArray, List.set_cons_zero, List.set_cons_succ]
  refine wpAnyH_take (i := 12) (oi := ⟨some 60, _, _, _, _, _⟩) (v := ?va12) rfl (by kernel_rfl) (by kernel_rfl) (by kernel_rfl) (fun _ _ _ h => h) (Or.inl ⟨by rfl, ?ya12⟩) (by assumption) ?ra12
  case ya12 => (intro w hSw; (try dsimp only at hSw); go_simp; (try (with_reducible rfl)))
  try simp only [Act.put, List.setIfInBounds_toArray, List.set_cons_zero, List.set_cons_succ]
  refine wpAnyH_take (i := 13) (oi := ⟨some 61, _, _, _, _, _⟩) (v := ?va13) rfl (by kernel_rfl) (by kernel_rfl) (by kernel_rfl) (fun _ _ _ h => h) (Or.inl ⟨by rfl, ?ya13⟩) (by assumption) ?ra13
  case ya13 => (intro w hSw; (try dsimp only at hSw); go_simp; (try (with_reducible rfl)))
  try simp only [Act.put, List.setIfInBounds_toArray, List.set_cons_zero, List.set_cons_succ]
  refine wpAnyH_take (i := 14) (oi := ⟨some 62, _, _, _, _, _⟩) (v := .bool true) rfl (by kernel_rfl) (by kernel_rfl) (by kernel_rfl) (fun _ _ _ h => h) (Or.inl ⟨by rfl, ?ya14⟩) (by assumption) ?ra14
  case ya14 => (intro w hSw; (try dsimp only at hSw); go_simp; (try (with_reducible rfl)))
  try simp only [Act.put, List.setIfInBounds_toArray, List.set_cons_zero, List.set_cons_succ]
  refine wpAnyH_take (i := 15) (oi := ⟨some 63, _, _, _, _, _⟩) (v := .bool true) rfl (by kernel_rfl) (by kernel_rfl) (by kernel_rfl) (fun _ _ _ h => h) (Or.inl ⟨by rfl, ?ya15⟩) (by assumption) ?ra15
  case ya15 => (intro w hSw; (try dsimp only at hSw); go_simp; (try (with_reducible rfl)))
  try simp only [Act.put, List.setIfInBounds_toArray, List.set_cons_zero, List.set_cons_succ]
  refine wpAnyH_take (i := 16) (oi := ⟨some 64, _, _, _, _, _⟩) (v := .bool true) rfl (by kernel_rfl) (by kernel_rfl) (by kernel_rfl) (fun _ _ _ h => h) (Or.inl ⟨by rfl, ?ya16⟩) (by assumption) ?ra16
  case ya16 => (intro w hSw; (try dsimp only at hSw); go_simp; (try (with_reducible rfl)))
  try simp only [Act.put, List.setIfInBounds_toArray, List.set_cons_zero, List.set_cons_succ]
  refine wpAnyH_take (i := 17) (oi := ⟨some 65, _, _, _, _, _⟩) (v := ?va17) rfl (by kernel_rfl) (by kernel_rfl) (by kernel_rfl) (fun _ _ _ h => h) (Or.inl ⟨by rfl, ?ya17⟩) (by assumption) ?ra17
  case ya17 => (intro w hSw; (try dsimp only at hSw); go_simp; (try (with_reducible rfl)))
  try simp only [Act.put, List.setIfInBounds_toArray, List.set_cons_zero, List.set_cons_succ]
  refine wpAnyH_take (i := 18) (oi := ⟨some 66, _, _, _, _, _⟩) (v := ?va18) rfl (by kernel_rfl) (by kernel_rfl) (by kernel_rfl) (fun _ _ _ h => h) (Or.inl ⟨by rfl, ?ya18⟩) (by assumption) ?ra18
  case ya18 => (intro w hSw; (try dsimp only at hSw); go_simp; (try (with_reducible rfl)))
  try simp only [Act.put, List.setIfInBounds_toArray, List.set_cons_zero, List.set_cons_succ]
  refine wpAnyH_ready (rs := [19]) (by kernel_rfl) (by simp) (AllReadyH.cons (o := ⟨some 67, _, _, _, _, _⟩) rfl (fun K hK => ?_) AllReadyH.nil)
  go_simp
  refine (sameCue_any x x z1).mono ?_
  rintro e z2 ⟨rfl, hz⟩
  rw [decide_eq_true rfl]
  have HQ2 := Lib.hid (HQ1.out.below hz)
  go_simp
  refine hK.out _ _ ?_ (fun hHeld2 => ?_)
  · exact HQ2.out.cells
  clear hK K hHeld
  rename _ => hHeld
  try simp only [Act.put, List.setIfInBounds_toArray, List.set_cons_zero, List.set_cons_succ]
  refine wpAnyH_take (i := 20) (oi := ⟨some 68, _, _, _, _, _⟩) (v := .bool true) rfl (by kernel_rfl) (by kernel_rfl) (by kernel_rfl) (fun _ _ _ h => h) (Or.inl ⟨by rfl, ?ya20⟩) (by assumption) ?ra20
  case ya20 => (intro w hSw; (try dsimp only at hSw); go_simp; (try (with_reducible rfl)))
  try simp only [Act.put, List.setIfInBounds_toArray, List.set_cons_zero, List.set_cons_succ]
  refine wpAnyH_take (i := 21) (oi := ⟨some 69, _, _, _, _, _⟩) (v := .bool true) rfl (by kernel_rfl) (by kernel_rfl) (by kernel_rfl) (fun _ _ _ h => h) (Or.inl ⟨by rfl, ?ya21⟩) (by assumption) ?ra21
  case ya21 => (intro w hSw; (try dsimp only at hSw); go_simp; (try (with_reducible rfl)))
  try simp only [Act.put, List.setIfInBounds_toArray, List.set_cons_zero, List.set_cons_succ]
  refine wpAnyH_take (i := 22) (oi := ⟨some 70, _, _, _, _, _⟩) (v := ?va22) rfl (by kernel_rfl) (by kernel_rfl) (by kernel_rfl) (fun _ _ _ h => h) (Or.inl ⟨by rfl, ?ya22⟩) (by assumption) ?ra22
  case ya22 => (intro w hSw; (try dsimp only at hSw); go_simp; (try (with_reducible rfl)))
  try simp only [Act.put, List.setIfInBounds_toArray, List.set_cons_zero, List.set_cons_succ]
  refine wpAnyH_take (i := 24) (oi := ⟨some 72, _, _, _, _, _⟩) (v := ?va24) rfl (by kernel_rfl) (by kernel_rfl) (by kernel_rfl) (fun _ _ _ h => h) (Or.inl ⟨by rfl, ?ya24⟩) (by assumption) ?ra24
  case ya24 => (intro w hSw; (try dsimp only at hSw); go_simp; (try (with_reducible rfl)))
  try simp only [Act.put, List.setIfInBounds_toArray, List.set_cons_zero, List.set_cons_succ]
  refine wpAnyH_ready (rs := [23]) (by kernel_rfl) (by simp) (AllReadyH.cons (o := ⟨some 71, _, _, _, _, _⟩) rfl (fun K hK => ?_) AllReadyH.nil)
  go_simp
  refine (valid_any c z2 hc).mono ?_
  rintro e z3 ⟨rfl, hz⟩
  rw [hVb.out]
  have HQ3 := Lib.hid (HQ2.out.below hz)
  go_simp
  refine hK.out _ _ ?_ (fun hHeld2 => ?_)
  · exact HQ3.out.cells
  clear hK K hHeld
  rename _ => hHeld
  try simp only [Act.put, List.setIfInBounds_toArray, List.set_cons_zero, List.set_cons_succ]
  refine wpAnyH_ready (rs := [25]) (by kernel_rfl) (by simp) (AllReadyH.cons (o := ⟨some 73, _, _, _, _, _⟩) rfl (fun K hK => ?_) AllReadyH.nil)
  go_simp
  refine (refValid_any c z3 hc).mono ?_
  rintro e z4 ⟨rfl, hz⟩
  rw [hVb.out]
  have HQ4 := Lib.hid (HQ3.out.below hz)
  go_simp
  refine hK.out _ _ ?_ (fun hHeld2 => ?_)
  · exact HQ4.out.cells
  clear hK K hHeld
  rename _ => hHeld
  try simp only [Act.put, List.setIfInBounds_toArray, List.set_cons_zero, List.set_cons_succ]
  refine wpAnyH_take (i := 26) (oi := ⟨some 74, _, _, _, _, _⟩) (v := .bool true) rfl (by kernel_rfl) (by kernel_rfl) (by kernel_rfl) (fun _ _ _ h => h) (Or.inl ⟨by rfl, ?ya26⟩) (by assumption) ?ra26
  case ya26 => (intro w hSw; (try dsimp only at hSw); go_simp; (try (with_reducible rfl)))
  try simp only [Act.put, List.setIfInBounds_toArray, List.set_cons_zero, List.set_cons_succ]
  refine wpAnyH_take (i := 27) (oi := ⟨some 75, _, _, _, _, _⟩) (v := .bool true) rfl (by kernel_rfl) (by kernel_rfl) (by kernel_rfl) (fun _ _ _ h => h) (Or.inl ⟨by rfl, ?ya27⟩) (by assumption) ?ra27
  case ya27 => (intro w hSw; (try dsimp only at hSw); go_simp; (try (with_reducible rfl)))
  try simp only [Act.put, List.setIfInBounds_toArray, List.set_cons_zero, List.set_cons_succ]
  refine wpAnyH_take (i := 28) (oi := ⟨some 76, _, _, _, _, _⟩) (v := .bool true) rfl (by kernel_rfl) (by kernel_rfl) (by kernel_rfl) (fun _ _ _ h => h) (Or.inl ⟨by rfl, ?ya28⟩) (by assumption) ?ra28
  case ya28 => (intro w hSw; (try dsimp only at hSw); go_simp; (try (with_reducible rfl)))
  try simp only [Act.put, List.setIfInBounds_toArray, List.set_cons_zero, List.set_cons_succ]
  refine wpAnyH_take (i := 29) (oi := ⟨some 77, _, _, _, _, _⟩) (v := ?va29) rfl (by kernel_rfl) (by kernel_rfl) (by kernel_rfl) (fun _ _ _ h => h) (Or.inl ⟨by rfl, ?ya29⟩) (by assumption) ?ra29
  case ya29 => (intro w hSw; (try dsimp only at hSw); go_simp; (try (with_reducible rfl)))
  try simp only [Act.put, List.setIfInBounds_toArray, List.set_cons_zero, List.set_cons_succ]
  refine wpAnyH_take (i := 30) (oi := ⟨some 78, _, _, _, _, _⟩) (v := ?va30) rfl (by kernel_rfl) (by kernel_rfl) (by kernel_rfl) (fun _ _ _ h => h) (Or.inl ⟨by rfl, ?ya30⟩) (by assumption) ?ra30
  case ya30 => (intro w hSw; (try dsimp only at hSw); go_simp; (try (with_reducible rfl)))
  try simp only [Act.put, List.setIfInBounds_toArray, List.set_cons_zero, List.set_cons_succ]
  refine wpAnyH_take (i := 33) (oi := ⟨some 81, _, _, _, _, _⟩) (v := ?va33) rfl (by kernel_rfl) (by kernel_rfl) (by kernel_rfl) (fun _ _ _ h => h) (Or.inl ⟨by rfl, ?ya33⟩) (by assumption) ?ra33
  case ya33 => (intro w hSw; (try dsimp only at hSw); go_simp; (try (with_reducible rfl)))
  try simp only [Act.put, List.setIfInBounds_toArray, List.set_cons_zero, List.set_cons_succ]
  refine wpAnyH_take (i := 34) (oi := ⟨some 82, _, _, _, _, _⟩) (v := ?va34) rfl (by kernel_rfl) (by kernel_rfl) (by kernel_rfl) (fun _ _ _ h => h) (Or.inl ⟨by rfl, ?ya34⟩) (by assumption) ?ra34
  case ya34 => (intro w hSw; (try dsimp only at hSw); go_simp; (try (with_reducible rfl)))
  try simp only [Act.put, List.setIfInBounds_toArray, List.set_cons_zero, List.set_cons_succ]
  refine wpAnyH_ready (rs := [31, 35]) (by kernel_rfl) (by simp) (AllReadyH.cons (o := ⟨some 79, _, _, _, _, _⟩) rfl (fun K hK => ?_) (AllReadyH.cons (o := ⟨some 83, _, _, _, _, _⟩) rfl (fun K hK => ?_) AllReadyH.nil))
  · skip
    go_simp
    have HRa : Hid (RdC (z4.alloc (.cells #[.int .i64 c.id, .int .i64 c.fr, .int .i64 c.to, .int .i64 c.pr, .string c.tx] 24)) (some ⟨z4.heap.size, 0, none⟩) [c]) := lit_rdc z4 [c]
    have HQ5 := Lib.hid (HQ4.out.below ((Below.refl _ z4).alloc (Nat.le_refl _) (.cells #[.int .i64 c.id, .int .i64 c.fr, .int .i64 c.to, .int .i64 c.pr, .string c.tx] 24)))
    generalize z4.alloc (.cells #[.int .i64 c.id, .int .i64 c.fr, .int .i64 c.to, .int .i64 c.pr, .string c.tx] 24) = z5 at HRa  HQ5 ⊢
    generalize z4.heap.size = D4 at HRa ⊢
    refine hK.out _ _ ?_ (fun hHeld2 => ?_)
    · exact HQ5.out.cells
    clear hK K hHeld
    rename _ => hHeld
    try simp only [Act.put, List.setIfInBounds_toArray, List.set_cons_zero, List.set_cons_succ]
    refine wpAnyH_ready (rs := [32, 35]) (by kernel_rfl) (by simp) (AllReadyH.cons (o := ⟨some 80, _, _, _, _, _⟩) rfl (fun K hK => ?_) (AllReadyH.cons (o := ⟨some 83, _, _, _, _, _⟩) rfl (fun K hK => ?_) AllReadyH.nil))
    · skip
      go_simp
      refine (same_any z5 ol _ cl 1 L [c] (by omega) (by simp) HQ5.out.m.l HRa.out).mono ?_
      rintro e z6 ⟨rfl, hz⟩
      rw [hEq.out]
      have HQ6 := Lib.hid (HQ5.out.below hz)
      go_simp
      refine hK.out _ _ ?_ (fun hHeld2 => ?_)
      · exact HQ6.out.cells
      clear hK K hHeld
      rename _ => hHeld
      try simp only [Act.put, List.setIfInBounds_toArray, List.set_cons_zero, List.set_cons_succ]
      refine wpAnyH_ready (rs := [35]) (by kernel_rfl) (by simp) (AllReadyH.cons (o := ⟨some 83, _, _, _, _, _⟩) rfl (fun K hK => ?_) AllReadyH.nil)
      go_simp
      have HRb : Hid (RdC (z6.alloc (.cells #[.int .i64 c.id, .int .i64 c.fr, .int .i64 c.to, .int .i64 c.pr, .string c.tx] 24)) (some ⟨z6.heap.size, 0, none⟩) [c]) := lit_rdc z6 [c]
      have HQ7 := Lib.hid (HQ6.out.below ((Below.refl _ z6).alloc (Nat.le_refl _) (.cells #[.int .i64 c.id, .int .i64 c.fr, .int .i64 c.to, .int .i64 c.pr, .string c.tx] 24)))
      generalize z6.alloc (.cells #[.int .i64 c.id, .int .i64 c.fr, .int .i64 c.to, .int .i64 c.pr, .string c.tx] 24) = z7 at HRb  HQ7 ⊢
      generalize z6.heap.size = D6 at HRb ⊢
      refine hK.out _ _ ?_ (fun hHeld2 => ?_)
      · exact HQ7.out.cells
      clear hK K hHeld
      rename _ => hHeld
      try simp only [Act.put, List.setIfInBounds_toArray, List.set_cons_zero, List.set_cons_succ]
      refine wpAnyH_ready (rs := [36]) (by kernel_rfl) (by simp) (AllReadyH.cons (o := ⟨some 84, _, _, _, _, _⟩) rfl (fun K hK => ?_) AllReadyH.nil)
      go_simp
      refine (refSame_any z7 ol _ cl 1 L [c] (by omega) (by simp) HQ7.out.m.l HRb.out).mono ?_
      rintro e z8 ⟨rfl, hz⟩
      rw [hEq.out]
      have HQ8 := Lib.hid (HQ7.out.below hz)
      go_simp
      refine hK.out _ _ ?_ (fun hHeld2 => ?_)
      · exact HQ8.out.cells
      clear hK K hHeld
      rename _ => hHeld
      try simp only [Act.put, List.setIfInBounds_toArray, List.set_cons_zero, List.set_cons_succ]
      refine wpAnyH_take (i := 37) (oi := ⟨some 85, _, _, _, _, _⟩) (v := .bool true) rfl (by kernel_rfl) (by kernel_rfl) (by kernel_rfl) (fun _ _ _ h => h) (Or.inl ⟨by rfl, ?yb37⟩) (by assumption) ?rb37
      case yb37 => (intro w hSw; (try dsimp only at hSw); go_simp; (try (with_reducible rfl)))
      try simp only [Act.put, List.setIfInBounds_toArray, List.set_cons_zero, List.set_cons_succ]
      refine wpAnyH_take (i := 38) (oi := ⟨some 86, _, _, _, _, _⟩) (v := .bool true) rfl (by kernel_rfl) (by kernel_rfl) (by kernel_rfl) (fun _ _ _ h => h) (Or.inl ⟨by rfl, ?yb38⟩) (by assumption) ?rb38
      case yb38 => (intro w hSw; (try dsimp only at hSw); go_simp; (try (with_reducible rfl)))
      try simp only [Act.put, List.setIfInBounds_toArray, List.set_cons_zero, List.set_cons_succ]
      refine wpAnyH_take (i := 39) (oi := ⟨some 87, _, _, _, _, _⟩) (v := .bool true) rfl (by kernel_rfl) (by kernel_rfl) (by kernel_rfl) (fun _ _ _ h => h) (Or.inl ⟨by rfl, ?yb39⟩) (by assumption) ?rb39
      case yb39 => (intro w hSw; (try dsimp only at hSw); go_simp; (try (with_reducible rfl)))
      try simp only [Act.put, List.setIfInBounds_toArray, List.set_cons_zero, List.set_cons_succ]
      refine wpAnyH_take (i := 40) (oi := ⟨some 88, _, _, _, _, _⟩) (v := ?vb40) rfl (by kernel_rfl) (by kernel_rfl) (by kernel_rfl) (fun _ _ _ h => h) (Or.inl ⟨by rfl, ?yb40⟩) (by assumption) ?rb40
      case yb40 => (intro w hSw; (try dsimp only at hSw); go_simp; (try (with_reducible rfl)))
      try simp only [Act.put, List.setIfInBounds_toArray, List.set_cons_zero, List.set_cons_succ]
      refine wpAnyH_take (i := 41) (oi := ⟨some 89, _, _, _, _, _⟩) (v := ?vb41) rfl (by kernel_rfl) (by kernel_rfl) (by kernel_rfl) (fun _ _ _ h => h) (Or.inl ⟨by rfl, ?yb41⟩) (by assumption) ?rb41
      case yb41 => (intro w hSw; (try dsimp only at hSw); go_simp; (try (with_reducible rfl)))
      try simp only [Act.put, List.setIfInBounds_toArray, List.set_cons_zero, List.set_cons_succ]
      refine wpAnyH_ready (rs := [42]) (by kernel_rfl) (by simp) (AllReadyH.cons (o := ⟨some 90, _, _, _, _, _⟩) rfl (fun K hK => ?_) AllReadyH.nil)
      go_simp
      refine (same_any z8 ol ol cl cl L L (by omega) (by omega) HQ8.out.m.l HQ8.out.m.l).mono ?_
      rintro e z9 ⟨rfl, hz⟩
      rw [decide_eq_true rfl]
      have HQ9 := Lib.hid (HQ8.out.below hz)
      go_simp
      refine hK.out _ _ ?_ (fun hHeld2 => ?_)
      · exact HQ9.out.cells
      clear hK K hHeld
      rename _ => hHeld
      try simp only [Act.put, List.setIfInBounds_toArray, List.set_cons_zero, List.set_cons_succ]
      refine wpAnyH_take (i := 43) (oi := ⟨some 91, _, _, _, _, _⟩) (v := .bool true) rfl (by kernel_rfl) (by kernel_rfl) (by kernel_rfl) (fun _ _ _ h => h) (Or.inl ⟨by rfl, ?yb43⟩) (by assumption) ?rb43
      case yb43 => (intro w hSw; (try dsimp only at hSw); go_simp; (try (with_reducible rfl)))
      try simp only [Act.put, List.setIfInBounds_toArray, List.set_cons_zero, List.set_cons_succ]
      refine wpAnyH_take (i := 44) (oi := ⟨some 8, _, _, _, _, _⟩) (v := ?vb44) rfl (by kernel_rfl) (by kernel_rfl) (by kernel_rfl) (fun _ _ _ h => h) (Or.inl ⟨by rfl, ?yb44⟩) (by assumption) ?rb44
      case yb44 => (intro w hSw; (try dsimp only at hSw); go_simp; (try (with_reducible rfl)))
      try simp only [Act.put, List.setIfInBounds_toArray, List.set_cons_zero, List.set_cons_succ]
      refine wpAnyH_done (by kernel_rfl) ?_ _
      clear hHeld
      go_wp2_with fail
      go_ret
      exact ⟨rfl, HQ9.out.m.bel⟩
    · skip
      go_simp
      have HRb : Hid (RdC (z5.alloc (.cells #[.int .i64 c.id, .int .i64 c.fr, .int .i64 c.to, .int .i64 c.pr, .string c.tx] 24)) (some ⟨z5.heap.size, 0, none⟩) [c]) := lit_rdc z5 [c]
      have HQ6 := Lib.hid (HQ5.out.below ((Below.refl _ z5).alloc (Nat.le_refl _) (.cells #[.int .i64 c.id, .int .i64 c.fr, .int .i64 c.to, .int .i64 c.pr, .string c.tx] 24)))
      have HRa := Lib.hid (HRa.out.kept ((Below.refl _ z5).alloc (Nat.le_refl _) (.cells #[.int .i64 c.id, .int .i64 c.fr, .int .i64 c.to, .int .i64 c.pr, .string c.tx] 24)))
      generalize z5.alloc (.cells #[.int .i64 c.id, .int .i64 c.fr, .int .i64 c.to, .int .i64 c.pr, .string c.tx] 24) = z6 at HRb HRa HQ6 ⊢
      generalize z5.heap.size = D5 at HRb ⊢
      refine hK.out _ _ ?_ (fun hHeld2 => ?_)
      · exact HQ6.out.cells
      clear hK K hHeld
      rename _ => hHeld
      try simp only [Act.put, List.setIfInBounds_toArray, List.set_cons_zero, List.set_cons_succ]
      refine wpAnyH_ready (rs := [32]) (by kernel_rfl) (by simp) (AllReadyH.cons (o := ⟨some 80, _, _, _, _, _⟩) rfl (fun K hK => ?_) AllReadyH.nil)
      go_simp
      refine (same_any z6 ol _ cl 1 L [c] (by omega) (by simp) HQ6.out.m.l HRa.out).mono ?_
      rintro e z7 ⟨rfl, hz⟩
      rw [hEq.out]
      have HRb := Lib.hid (HRb.out.kept hz)
      have HQ7 := Lib.hid (HQ6.out.below hz)
      go_simp
      refine hK.out _ _ ?_ (fun hHeld2 => ?_)
      · exact HQ7.out.cells
      clear hK K hHeld
      rename _ => hHeld
      try simp only [Act.put, List.setIfInBounds_toArray, List.set_cons_zero, List.set_cons_succ]
      refine wpAnyH_ready (rs := [36]) (by kernel_rfl) (by simp) (AllReadyH.cons (o := ⟨some 84, _, _, _, _, _⟩) rfl (fun K hK => ?_) AllReadyH.nil)
      go_simp
      refine (refSame_any z7 ol _ cl 1 L [c] (by omega) (by simp) HQ7.out.m.l HRb.out).mono ?_
      rintro e z8 ⟨rfl, hz⟩
      rw [hEq.out]
      have HQ8 := Lib.hid (HQ7.out.below hz)
      go_simp
      refine hK.out _ _ ?_ (fun hHeld2 => ?_)
      · exact HQ8.out.cells
      clear hK K hHeld
      rename _ => hHeld
      try simp only [Act.put, List.setIfInBounds_toArray, List.set_cons_zero, List.set_cons_succ]
      refine wpAnyH_take (i := 37) (oi := ⟨some 85, _, _, _, _, _⟩) (v := .bool true) rfl (by kernel_rfl) (by kernel_rfl) (by kernel_rfl) (fun _ _ _ h => h) (Or.inl ⟨by rfl, ?yc37⟩) (by assumption) ?rc37
      case yc37 => (intro w hSw; (try dsimp only at hSw); go_simp; (try (with_reducible rfl)))
      try simp only [Act.put, List.setIfInBounds_toArray, List.set_cons_zero, List.set_cons_succ]
      refine wpAnyH_take (i := 38) (oi := ⟨some 86, _, _, _, _, _⟩) (v := .bool true) rfl (by kernel_rfl) (by kernel_rfl) (by kernel_rfl) (fun _ _ _ h => h) (Or.inl ⟨by rfl, ?yc38⟩) (by assumption) ?rc38
      case yc38 => (intro w hSw; (try dsimp only at hSw); go_simp; (try (with_reducible rfl)))
      try simp only [Act.put, List.setIfInBounds_toArray, List.set_cons_zero, List.set_cons_succ]
      refine wpAnyH_take (i := 39) (oi := ⟨some 87, _, _, _, _, _⟩) (v := .bool true) rfl (by kernel_rfl) (by kernel_rfl) (by kernel_rfl) (fun _ _ _ h => h) (Or.inl ⟨by rfl, ?yc39⟩) (by assumption) ?rc39
      case yc39 => (intro w hSw; (try dsimp only at hSw); go_simp; (try (with_reducible rfl)))
      try simp only [Act.put, List.setIfInBounds_toArray, List.set_cons_zero, List.set_cons_succ]
      refine wpAnyH_take (i := 40) (oi := ⟨some 88, _, _, _, _, _⟩) (v := ?vc40) rfl (by kernel_rfl) (by kernel_rfl) (by kernel_rfl) (fun _ _ _ h => h) (Or.inl ⟨by rfl, ?yc40⟩) (by assumption) ?rc40
      case yc40 => (intro w hSw; (try dsimp only at hSw); go_simp; (try (with_reducible rfl)))
      try simp only [Act.put, List.setIfInBounds_toArray, List.set_cons_zero, List.set_cons_succ]
      refine wpAnyH_take (i := 41) (oi := ⟨some 89, _, _, _, _, _⟩) (v := ?vc41) rfl (by kernel_rfl) (by kernel_rfl) (by kernel_rfl) (fun _ _ _ h => h) (Or.inl ⟨by rfl, ?yc41⟩) (by assumption) ?rc41
      case yc41 => (intro w hSw; (try dsimp only at hSw); go_simp; (try (with_reducible rfl)))
      try simp only [Act.put, List.setIfInBounds_toArray, List.set_cons_zero, List.set_cons_succ]
      refine wpAnyH_ready (rs := [42]) (by kernel_rfl) (by simp) (AllReadyH.cons (o := ⟨some 90, _, _, _, _, _⟩) rfl (fun K hK => ?_) AllReadyH.nil)
      go_simp
      refine (same_any z8 ol ol cl cl L L (by omega) (by omega) HQ8.out.m.l HQ8.out.m.l).mono ?_
      rintro e z9 ⟨rfl, hz⟩
      rw [decide_eq_true rfl]
      have HQ9 := Lib.hid (HQ8.out.below hz)
      go_simp
      refine hK.out _ _ ?_ (fun hHeld2 => ?_)
      · exact HQ9.out.cells
      clear hK K hHeld
      rename _ => hHeld
      try simp only [Act.put, List.setIfInBounds_toArray, List.set_cons_zero, List.set_cons_succ]
      refine wpAnyH_take (i := 43) (oi := ⟨some 91, _, _, _, _, _⟩) (v := .bool true) rfl (by kernel_rfl) (by kernel_rfl) (by kernel_rfl) (fun _ _ _ h => h) (Or.inl ⟨by rfl, ?yc43⟩) (by assumption) ?rc43
      case yc43 => (intro w hSw; (try dsimp only at hSw); go_simp; (try (with_reducible rfl)))
      try simp only [Act.put, List.setIfInBounds_toArray, List.set_cons_zero, List.set_cons_succ]
      refine wpAnyH_take (i := 44) (oi := ⟨some 8, _, _, _, _, _⟩) (v := ?vc44) rfl (by kernel_rfl) (by kernel_rfl) (by kernel_rfl) (fun _ _ _ h => h) (Or.inl ⟨by rfl, ?yc44⟩) (by assumption) ?rc44
      case yc44 => (intro w hSw; (try dsimp only at hSw); go_simp; (try (with_reducible rfl)))
      try simp only [Act.put, List.setIfInBounds_toArray, List.set_cons_zero, List.set_cons_succ]
      refine wpAnyH_done (by kernel_rfl) ?_ _
      clear hHeld
      go_wp2_with fail
      go_ret
      exact ⟨rfl, HQ9.out.m.bel⟩
  · skip
    go_simp
    have HRb : Hid (RdC (z4.alloc (.cells #[.int .i64 c.id, .int .i64 c.fr, .int .i64 c.to, .int .i64 c.pr, .string c.tx] 24)) (some ⟨z4.heap.size, 0, none⟩) [c]) := lit_rdc z4 [c]
    have HQ5 := Lib.hid (HQ4.out.below ((Below.refl _ z4).alloc (Nat.le_refl _) (.cells #[.int .i64 c.id, .int .i64 c.fr, .int .i64 c.to, .int .i64 c.pr, .string c.tx] 24)))
    generalize z4.alloc (.cells #[.int .i64 c.id, .int .i64 c.fr, .int .i64 c.to, .int .i64 c.pr, .string c.tx] 24) = z5 at HRb  HQ5 ⊢
    generalize z4.heap.size = D4 at HRb ⊢
    refine hK.out _ _ ?_ (fun hHeld2 => ?_)
    · exact HQ5.out.cells
    clear hK K hHeld
    rename _ => hHeld
    try simp only [Act.put, List.setIfInBounds_toArray, List.set_cons_zero, List.set_cons_succ]
    refine wpAnyH_ready (rs := [31]) (by kernel_rfl) (by simp) (AllReadyH.cons (o := ⟨some 79, _, _, _, _, _⟩) rfl (fun K hK => ?_) AllReadyH.nil)
    go_simp
    have HRa : Hid (RdC (z5.alloc (.cells #[.int .i64 c.id, .int .i64 c.fr, .int .i64 c.to, .int .i64 c.pr, .string c.tx] 24)) (some ⟨z5.heap.size, 0, none⟩) [c]) := lit_rdc z5 [c]
    have HQ6 := Lib.hid (HQ5.out.below ((Below.refl _ z5).alloc (Nat.le_refl _) (.cells #[.int .i64 c.id, .int .i64 c.fr, .int .i64 c.to, .int .i64 c.pr, .string c.tx] 24)))
    have HRb := Lib.hid (HRb.out.kept ((Below.refl _ z5).alloc (Nat.le_refl _) (.cells #[.int .i64 c.id, .int .i64 c.fr, .int .i64 c.to, .int .i64 c.pr, .string c.tx] 24)))
    generalize z5.alloc (.cells #[.int .i64 c.id, .int .i64 c.fr, .int .i64 c.to, .int .i64 c.pr, .string c.tx] 24) = z6 at HRa HRb HQ6 ⊢
    generalize z5.heap.size = D5 at HRa ⊢
    refine hK.out _ _ ?_ (fun hHeld2 => ?_)
    · exact HQ6.out.cells
    clear hK K hHeld
    rename _ => hHeld
    try simp only [Act.put, List.setIfInBounds_toArray, List.set_cons_zero, List.set_cons_succ]
    refine wpAnyH_ready (rs := [32]) (by kernel_rfl) (by simp) (AllReadyH.cons (o := ⟨some 80, _, _, _, _, _⟩) rfl (fun K hK => ?_) AllReadyH.nil)
    go_simp
    refine (same_any z6 ol _ cl 1 L [c] (by omega) (by simp) HQ6.out.m.l HRa.out).mono ?_
    rintro e z7 ⟨rfl, hz⟩
    rw [hEq.out]
    have HRb := Lib.hid (HRb.out.kept hz)
    have HQ7 := Lib.hid (HQ6.out.below hz)
    go_simp
    refine hK.out _ _ ?_ (fun hHeld2 => ?_)
    · exact HQ7.out.cells
    clear hK K hHeld
    rename _ => hHeld
    try simp only [Act.put, List.setIfInBounds_toArray, List.set_cons_zero, List.set_cons_succ]
    refine wpAnyH_ready (rs := [36]) (by kernel_rfl) (by simp) (AllReadyH.cons (o := ⟨some 84, _, _, _, _, _⟩) rfl (fun K hK => ?_) AllReadyH.nil)
    go_simp
    refine (refSame_any z7 ol _ cl 1 L [c] (by omega) (by simp) HQ7.out.m.l HRb.out).mono ?_
    rintro e z8 ⟨rfl, hz⟩
    rw [hEq.out]
    have HQ8 := Lib.hid (HQ7.out.below hz)
    go_simp
    refine hK.out _ _ ?_ (fun hHeld2 => ?_)
    · exact HQ8.out.cells
    clear hK K hHeld
    rename _ => hHeld
    try simp only [Act.put, List.setIfInBounds_toArray, List.set_cons_zero, List.set_cons_succ]
    refine wpAnyH_take (i := 37) (oi := ⟨some 85, _, _, _, _, _⟩) (v := .bool true) rfl (by kernel_rfl) (by kernel_rfl) (by kernel_rfl) (fun _ _ _ h => h) (Or.inl ⟨by rfl, ?yd37⟩) (by assumption) ?rd37
    case yd37 => (intro w hSw; (try dsimp only at hSw); go_simp; (try (with_reducible rfl)))
    try simp only [Act.put, List.setIfInBounds_toArray, List.set_cons_zero, List.set_cons_succ]
    refine wpAnyH_take (i := 38) (oi := ⟨some 86, _, _, _, _, _⟩) (v := .bool true) rfl (by kernel_rfl) (by kernel_rfl) (by kernel_rfl) (fun _ _ _ h => h) (Or.inl ⟨by rfl, ?yd38⟩) (by assumption) ?rd38
    case yd38 => (intro w hSw; (try dsimp only at hSw); go_simp; (try (with_reducible rfl)))
    try simp only [Act.put, List.setIfInBounds_toArray, List.set_cons_zero, List.set_cons_succ]
    refine wpAnyH_take (i := 39) (oi := ⟨some 87, _, _, _, _, _⟩) (v := .bool true) rfl (by kernel_rfl) (by kernel_rfl) (by kernel_rfl) (fun _ _ _ h => h) (Or.inl ⟨by rfl, ?yd39⟩) (by assumption) ?rd39
    case yd39 => (intro w hSw; (try dsimp only at hSw); go_simp; (try (with_reducible rfl)))
    try simp only [Act.put, List.setIfInBounds_toArray, List.set_cons_zero, List.set_cons_succ]
    refine wpAnyH_take (i := 40) (oi := ⟨some 88, _, _, _, _, _⟩) (v := ?vd40) rfl (by kernel_rfl) (by kernel_rfl) (by kernel_rfl) (fun _ _ _ h => h) (Or.inl ⟨by rfl, ?yd40⟩) (by assumption) ?rd40
    case yd40 => (intro w hSw; (try dsimp only at hSw); go_simp; (try (with_reducible rfl)))
    try simp only [Act.put, List.setIfInBounds_toArray, List.set_cons_zero, List.set_cons_succ]
    refine wpAnyH_take (i := 41) (oi := ⟨some 89, _, _, _, _, _⟩) (v := ?vd41) rfl (by kernel_rfl) (by kernel_rfl) (by kernel_rfl) (fun _ _ _ h => h) (Or.inl ⟨by rfl, ?yd41⟩) (by assumption) ?rd41
    case yd41 => (intro w hSw; (try dsimp only at hSw); go_simp; (try (with_reducible rfl)))
    try simp only [Act.put, List.setIfInBounds_toArray, List.set_cons_zero, List.set_cons_succ]
    refine wpAnyH_ready (rs := [42]) (by kernel_rfl) (by simp) (AllReadyH.cons (o := ⟨some 90, _, _, _, _, _⟩) rfl (fun K hK => ?_) AllReadyH.nil)
    go_simp
    refine (same_any z8 ol ol cl cl L L (by omega) (by omega) HQ8.out.m.l HQ8.out.m.l).mono ?_
    rintro e z9 ⟨rfl, hz⟩
    rw [decide_eq_true rfl]
    have HQ9 := Lib.hid (HQ8.out.below hz)
    go_simp
    refine hK.out _ _ ?_ (fun hHeld2 => ?_)
    · exact HQ9.out.cells
    clear hK K hHeld
    rename _ => hHeld
    try simp only [Act.put, List.setIfInBounds_toArray, List.set_cons_zero, List.set_cons_succ]
    refine wpAnyH_take (i := 43) (oi := ⟨some 91, _, _, _, _, _⟩) (v := .bool true) rfl (by kernel_rfl) (by kernel_rfl) (by kernel_rfl) (fun _ _ _ h => h) (Or.inl ⟨by rfl, ?yd43⟩) (by assumption) ?rd43
    case yd43 => (intro w hSw; (try dsimp only at hSw); go_simp; (try (with_reducible rfl)))
    try simp only [Act.put, List.setIfInBounds_toArray, List.set_cons_zero, List.set_cons_succ]
    refine wpAnyH_take (i := 44) (oi := ⟨some 8, _, _, _, _, _⟩) (v := ?vd44) rfl (by kernel_rfl) (by kernel_rfl) (by kernel_rfl) (fun _ _ _ h => h) (Or.inl ⟨by rfl, ?yd44⟩) (by assumption) ?rd44
    case yd44 => (intro w hSw; (try dsimp only at hSw); go_simp; (try (with_reducible rfl)))
    try simp only [Act.put, List.setIfInBounds_toArray, List.set_cons_zero, List.set_cons_succ]
    refine wpAnyH_done (by kernel_rfl) ?_ _
    clear hHeld
    go_wp2_with fail
    go_ret
    exact ⟨rfl, HQ9.out.m.bel⟩
end Go.Proofs.Ytjmfhdnckgelaaa
