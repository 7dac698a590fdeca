/-
  The walk of onairlaw12.sane.
-/
import Derived.WalkKit
import Derived.LoopTactic
import Derived.WalkSpells
import Derived.WalkLawsBesides
import Derived.RegionTactic
import Derived.BigRegion
import Derived.Deep.QuietTactic
import Derived.Deep.RegionHeld3
import Derived.BigQuiet
import Derived.IntWalk
import Derived.Outline
import Derived.Test.YtfplajafekpccaaMedF
import Derived.Test.YtfplajafekpccaaMedK
set_option linter.unusedVariables false
set_option linter.unusedSimpArgs false
namespace Go.Proofs.Ytfplajafekpccaa
open Go.RowKit Onair
def sA : List Pic := [⟨true, ⟨#[97, 98]⟩, 3⟩]
def sB : List Pic := [⟨true, ⟨#[]⟩, 0⟩, ⟨false, ⟨#[120]⟩, 9⟩, ⟨true, ⟨#[]⟩, 0⟩]
def sC : List Pic := [⟨false, ⟨#[]⟩, 0⟩, ⟨true, ⟨#[]⟩, 0⟩]
theorem ok_of (l : List Pic) (h : l.all (fun p => decide (-9223372036854775808 ≤ p.power) && decide (p.power ≤ 9223372036854775807) && decide (p.data.size ≤ maxLen)) = true) : ∀ p ∈ l, POk p := fun p hp => by
  have := List.all_eq_true.1 h p hp
  simp only [Bool.and_eq_true, decide_eq_true_iff] at this
  exact ⟨this.1.1, this.1.2, this.2⟩
theorem sA_ok : ∀ p ∈ sA, POk p := ok_of sA (by decide)
theorem sB_ok : ∀ p ∈ sB, POk p := ok_of sB (by decide)
theorem sC_ok : ∀ p ∈ sC, POk p := ok_of sC (by decide)
theorem blk_rdp {w : World} {g : Nat} {l : List Pic} (h : Blk w g 42 (pcells l)) : RdP w (some ⟨g, 0, none⟩) l := by
  refine .inr ⟨g, 0, rfl, h.lt, fun i c hi => ?_⟩
  have key : ∀ k, k < 3 → w.cell? ⟨g, i * 3 + k, none⟩ = (pcs c)[k]? := fun k hk => by rw [h.cell, pcells_at l i k c hi hk]
  rw [Nat.zero_add]
  exact ⟨key 0 (by decide), key 1 (by decide), key 2 (by decide)⟩
/-- The memory of sane. -/
structure SM (W : World) (r : Nat) (w : World) : Prop where
  b0 : Blk w r 42 (pcells sA)
  b1 : Blk w (r + 1) 24 [.int .i64 1, .slice (some ⟨r, 0, none⟩) 1 1]
  b2 : Blk w (r + 2) 42 (pcells sB)
  b3 : Blk w (r + 3) 24 [.int .i64 7, .slice (some ⟨r + 2, 0, none⟩) 3 3]
  b4 : Blk w (r + 4) 42 (pcells sC)
  b5 : Blk w (r + 5) 24 [.int .i64 7, .slice (some ⟨r + 4, 0, none⟩) 2 2]
  bel : Below W.heap.size W w
theorem SM.below {W : World} {r : Nat} {w w' : World} (h : SM W r w) (hb : Below w.heap.size w w') : SM W r w' :=
  ⟨h.b0.kept (hb.block _ h.b0.lt), h.b1.kept (hb.block _ h.b1.lt), h.b2.kept (hb.block _ h.b2.lt), h.b3.kept (hb.block _ h.b3.lt), h.b4.kept (hb.block _ h.b4.lt), h.b5.kept (hb.block _ h.b5.lt), bstep h.bel hb⟩
theorem SM.alloc {W : World} {r : Nat} {w : World} (h : SM W r w) (o : Obj) : SM W r (w.alloc o) := h.below ((Below.refl _ w).alloc (Nat.le_refl _) o)
theorem blk_at {w : World} {r : Nat} {t : TypeId} {l : List Value} (h : w.heap.size = r) : Blk (w.alloc (.cells l.toArray t)) r t l := by rw [← h]; exact Blk.new w t l
theorem sm_new (W : World) (r : Nat) (hr : W.heap.size = r) : SM W r ((((((W.alloc (.cells #[.bool true, .string ⟨#[97, 98]⟩, .int .i64 3] 42)).alloc (.cells #[.int .i64 1, .slice (some ⟨r, 0, none⟩) 1 1] 24)).alloc (.cells #[.bool true, .string ⟨#[]⟩, .int .i64 0, .bool false, .string ⟨#[120]⟩, .int .i64 9, .bool true, .string ⟨#[]⟩, .int .i64 0] 42)).alloc (.cells #[.int .i64 7, .slice (some ⟨r + 1 + 1, 0, none⟩) 3 3] 24)).alloc (.cells #[.bool false, .string ⟨#[]⟩, .int .i64 0, .bool true, .string ⟨#[]⟩, .int .i64 0] 42)).alloc (.cells #[.int .i64 7, .slice (some ⟨r + 1 + 1 + 1 + 1, 0, none⟩) 2 2] 24)) := by
  refine ⟨?_, ?_, ?_, ?_, ?_, ?_, ?_⟩
  · exact (((((blk_at (l := pcells sA) hr).alloc _).alloc _).alloc _).alloc _).alloc _
  · exact ((((blk_at (l := [.int .i64 1, .slice (some ⟨r, 0, none⟩) 1 1]) (by simp [hr])).alloc _).alloc _).alloc _).alloc _
  · exact (((blk_at (l := pcells sB) (by simp [hr])).alloc _).alloc _).alloc _
  · exact ((blk_at (l := [.int .i64 7, .slice (some ⟨r + 1 + 1, 0, none⟩) 3 3]) (by simp [hr])).alloc _).alloc _
  · exact (blk_at (l := pcells sC) (by simp [hr])).alloc _
  · exact blk_at (l := [.int .i64 7, .slice (some ⟨r + 1 + 1 + 1 + 1, 0, none⟩) 2 2]) (by simp [hr])
  · exact (((((((Below.refl _ W).alloc (Nat.le_refl _) _).alloc (by simp) _).alloc (by simp; omega) _).alloc (by simp; omega) _).alloc (by simp; omega) _).alloc (by simp; omega) _)
theorem encR_a : encR 1 sA = [2, 2, 2, 6, 4, 97, 98] := by decide
theorem encE_a : encE 1 sA = 0 := by decide
theorem encR_c : encR 7 sC = [] := by decide
theorem encE_c : encE 7 sC = 120 := by decide
theorem dec_a' : decR [2, 2, 2, 6, 4, 97, 98] = .inr (1, sA) := by rfl
theorem dec_1' : decR [2, 0] = .inl 120 := by rfl
theorem dec_2' : decR [2, 2, 4, 0, 0] = .inl 120 := by rfl
theorem enc_a (g : Nat) (w : World) (h : RdP w (some ⟨g, 0, none⟩) sA) : Calls Try.prog 24 #[.agg #[.int .i64 1, .slice (some ⟨g, 0, none⟩) 1 1]] w fun e w' => e = .returned (.tuple #[.string ⟨#[2, 2, 2, 6, 4, 97, 98]⟩, .int .i64 0]) ∧ Below w.heap.size w w' := by
  have := encode_any 1 (some ⟨g, 0, none⟩) 1 sA w (by decide) sA_ok h
  rw [encR_a, encE_a] at this
  exact this
theorem enc_c (g : Nat) (w : World) (h : RdP w (some ⟨g, 0, none⟩) sC) : Calls Try.prog 24 #[.agg #[.int .i64 7, .slice (some ⟨g, 0, none⟩) 2 2]] w fun e w' => e = .returned (.tuple #[.string ⟨#[]⟩, .int .i64 120]) ∧ Below w.heap.size w w' := by
  have := encode_any 7 (some ⟨g, 0, none⟩) 2 sC w (by decide) sC_ok h
  rw [encR_c, encE_c] at this
  exact this
theorem dec_a (w : World) : Calls Try.prog 26 #[.string ⟨#[2, 2, 2, 6, 4, 97, 98]⟩] w fun e w' => ∃ oa cap, e = .returned (.tuple #[.agg #[.int .i64 1, .slice oa 1 cap], .int .i64 0]) ∧ RdP w' oa sA ∧ Below w.heap.size w w' := by
  have := decode_any ⟨#[2, 2, 2, 6, 4, 97, 98]⟩ w (by decide)
  rw [dec_a'] at this
  exact this
theorem dec_1 (w : World) : Calls Try.prog 26 #[.string ⟨#[2, 0]⟩] w fun e w' => e = .returned (.tuple #[.agg #[.int .i64 0, .slice none 0 0], .int .i64 120]) ∧ Below w.heap.size w w' := by
  have := decode_any ⟨#[2, 0]⟩ w (by decide)
  rw [dec_1'] at this
  exact this
theorem dec_2 (w : World) : Calls Try.prog 26 #[.string ⟨#[2, 2, 4, 0, 0]⟩] w fun e w' => e = .returned (.tuple #[.agg #[.int .i64 0, .slice none 0 0], .int .i64 120]) ∧ Below w.heap.size w w' := by
  have := decode_any ⟨#[2, 2, 4, 0, 0]⟩ w (by decide)
  rw [dec_2'] at this
  exact this
theorem find_b (r g : Nat) (w : World) (ha : RdP w (some ⟨r, 0, none⟩) sA) (hb : RdP w (some ⟨r + 2, 0, none⟩) sB) (h : Blk w g 24 [.int .i64 1, .slice (some ⟨r, 0, none⟩) 1 1, .int .i64 7, .slice (some ⟨r + 2, 0, none⟩) 3 3]) :
    Calls Try.prog 28 #[.slice (some ⟨g, 0, none⟩) 2 2, .int .i64 7] w fun e w' => ∃ ob cb, e = .returned (.tuple #[.agg #[.int .i64 7, .slice ob 3 cb], .bool true]) ∧ RdP w' ob sB ∧ Below w.heap.size w w' := by
  have hr : RdA w (some ⟨g, 0, none⟩) [⟨1, some ⟨r, 0, none⟩, 1, sA⟩, ⟨7, some ⟨r + 2, 0, none⟩, 3, sB⟩] := by
    refine .inr ⟨g, 0, rfl, h.lt, fun i a hi => ?_⟩
    match i, hi with
    | 0, hi => simp at hi; subst hi; exact ⟨h.cell 0, h.cell 1⟩
    | 1, hi => simp at hi; subst hi; exact ⟨h.cell 2, h.cell 3⟩
  have := find_any w (some ⟨g, 0, none⟩) 2 [⟨1, some ⟨r, 0, none⟩, 1, sA⟩, ⟨7, some ⟨r + 2, 0, none⟩, 3, sB⟩] 7 (by simp) hr (fun a ha' => by
    simp at ha'
    rcases ha' with rfl | rfl
    · exact ⟨ha, by show sA.length ≤ _; decide⟩
    · exact ⟨hb, by show sB.length ≤ _; decide⟩)
  refine this.mono ?_
  rintro e w' ⟨ob, cb, rfl, ho, hbl⟩
  exact ⟨ob, cb, rfl, (own_rdp ho).2, hbl⟩
theorem keys_b (g : Nat) (w : World) (h : RdP w (some ⟨g, 0, none⟩) sB) : Calls Try.prog 18 #[.agg #[.int .i64 7, .slice (some ⟨g, 0, none⟩) 3 3]] w fun e w' => ∃ oa cap, e = .returned (.slice oa 2 cap) ∧ RdV w' oa (ints [0, 2]) ∧ Below w.heap.size w w' :=
  keys_any w 7 (some ⟨g, 0, none⟩) 3 sB (by decide) sB_ok h
theorem sizes_b (g : Nat) (w : World) (h : RdP w (some ⟨g, 0, none⟩) sB) : Calls Try.prog 20 #[.agg #[.int .i64 7, .slice (some ⟨g, 0, none⟩) 3 3]] w fun e w' => ∃ oa cap, e = .returned (.slice oa 3 cap) ∧ RdV w' oa (ints [0, 1, 0]) ∧ Below w.heap.size w w' :=
  sizes_any w 7 (some ⟨g, 0, none⟩) 3 sB (by decide) sB_ok h
theorem powers_b (g : Nat) (w : World) (h : RdP w (some ⟨g, 0, none⟩) sB) : Calls Try.prog 22 #[.agg #[.int .i64 7, .slice (some ⟨g, 0, none⟩) 3 3]] w fun e w' => ∃ oa cap, e = .returned (.slice oa 3 cap) ∧ RdV w' oa (ints [0, 9, 0]) ∧ Below w.heap.size w w' :=
  powers_any w 7 (some ⟨g, 0, none⟩) 3 sB (by decide) sB_ok h
theorem valid_c (g : Nat) (w : World) (h : RdP w (some ⟨g, 0, none⟩) sC) : Calls Try.prog 13 #[.agg #[.int .i64 7, .slice (some ⟨g, 0, none⟩) 2 2]] w fun e w' => e = .returned (.bool false) ∧ Below w.heap.size w w' :=
  valid_any 7 (some ⟨g, 0, none⟩) 2 sC w (by decide) sC_ok h
theorem same_of (w : World) (i j : Int) (oa ob : Option Addr) (ca cb n m : Nat) (a b : List Pic) (bo : Bool) (hn : a.length = n) (hm : b.length = m) (h : sameA i a j b = bo) (ha : a.length ≤ 1000000) (hb : b.length ≤ 1000000) (hra : RdP w oa a) (hrb : RdP w ob b) :
    Calls Try.prog 15 #[.agg #[.int .i64 i, .slice oa n ca], .agg #[.int .i64 j, .slice ob m cb]] w fun e w' => e = .returned (.bool bo) ∧ Below w.heap.size w w' := by
  subst hn hm h
  exact same_any w i j oa ob ca cb a b ha hb hra hrb
theorem ints_of (w : World) (oa ob : Option Addr) (ca cb n : Nat) (a : List Int) (hn : a.length = n) (ha : a.length ≤ 1000000) (hra : RdV w oa (ints a)) (hrb : RdV w ob (ints a)) :
    Calls Try.prog 17 #[.slice oa n ca, .slice ob n cb] w fun e w' => e = .returned (.bool true) ∧ Below w.heap.size w w' := by
  subst hn
  have := sameInts_any w oa ob ca cb a a ha ha hra hrb
  rw [show sameI a a = true from decide_eq_true rfl] at this
  exact this
theorem blk_rdv {w : World} {g : Nat} {t : TypeId} {xs : List Value} (h : Blk w g t xs) : RdV w (some ⟨g, 0, none⟩) xs :=
  .inr ⟨g, 0, rfl, h.lt, fun i u hi => by rw [Nat.zero_add, h.cell]; exact hi⟩
set_option maxHeartbeats 8000000 in
set_option maxRecDepth 100000 in
theorem sane_any (W : World) : Calls Try.prog 11 #[] W fun e w' => e = .returned (.bool true) ∧ Below W.heap.size W w' := by
  obtain ⟨r, hr⟩ : ∃ r, W.heap.size = r := ⟨_, rfl⟩
  have HR := Lib.hid hr
  have H6 := Lib.hid (sm_new W r hr)
  clear hr
  go_enter Try.func11, Try.ntmps11
  go_wp2_with fail
  rw [HR.out]
  refine (enc_a r _ (blk_rdp H6.out.b0)).mono ?_
  rintro e w7 ⟨rfl, hb7⟩
  have H7 := Lib.hid (H6.out.below hb7)
  clear hb7 H6
  go_wp2_with fail
  refine (dec_a w7).mono ?_
  rintro e w8 ⟨od, cd, rfl, hrd8, hb8⟩
  have H8 := Lib.hid (H7.out.below hb8)
  have HBA : Hid (Below w8.heap.size w8 (w8.alloc (.cells #[.int .i64 1, .slice od 1 cd] 24))) := (Below.refl _ w8).alloc (Nat.le_refl _) _
  have HD8 := Lib.hid (hrd8.kept HBA.out)
  have H8a := Lib.hid (H8.out.below HBA.out)
  have HK8 := Lib.hid (Blk.new w8 24 [.int .i64 1, .slice od 1 cd])
  obtain ⟨kd, hkd⟩ : ∃ kd, w8.heap.size = kd := ⟨_, rfl⟩
  rw [hkd] at HK8
  have HKD := Lib.hid hkd
  clear hb8 hrd8 H7 hkd HBA H8
  go_wp2_with fail
  rw [HKD.out]
  obtain ⟨w8', hw8'⟩ : ∃ w, w8.alloc (.cells #[.int .i64 1, .slice od 1 cd] 24) = w := ⟨_, rfl⟩
  rw [hw8'] at HD8 ⊢
  have H8b : Hid (SM W r w8') := hw8' ▸ H8a.out
  have HK8b : Hid (Blk w8' kd 24 [.int .i64 1, .slice od 1 cd]) := hw8' ▸ HK8.out
  clear hw8' H8a HK8 HKD w8
  refine (dec_1 w8').mono ?_
  rintro e w9 ⟨rfl, hb9⟩
  have H9 := Lib.hid ((H8b.out.below hb9).alloc (.cells #[.int .i64 0, .slice none 0 0] 24))
  have HD9 := Lib.hid ((HD8.out.kept hb9).kept ((Below.refl _ w9).alloc (Nat.le_refl _) (.cells #[.int .i64 0, .slice none 0 0] 24)))
  have HK9 := Lib.hid ((HK8b.out.kept (hb9.block _ HK8b.out.lt)).alloc (.cells #[.int .i64 0, .slice none 0 0] 24))
  clear hb9 H8b HD8 HK8b
  go_wp2_with fail
  obtain ⟨k9, hk9⟩ : ∃ k9, w9.heap.size = k9 := ⟨_, rfl⟩
  rw [hk9]
  clear hk9
  refine (dec_2 _).mono ?_
  rintro e w10 ⟨rfl, hb10⟩
  have H10 := Lib.hid ((H9.out.below hb10).alloc (.cells #[.int .i64 0, .slice none 0 0] 24))
  have HD10 := Lib.hid ((HD9.out.kept hb10).kept ((Below.refl _ w10).alloc (Nat.le_refl _) (.cells #[.int .i64 0, .slice none 0 0] 24)))
  have HK10 := Lib.hid ((HK9.out.kept (hb10.block _ HK9.out.lt)).alloc (.cells #[.int .i64 0, .slice none 0 0] 24))
  clear hb10 H9 HD9 HK9 w9
  have c50 := H10.out.b5.cell 0
  have c51 := H10.out.b5.cell 1
  simp only [List.getElem?_cons_zero, List.getElem?_cons_succ] at c50 c51
  go_wp2_with fail
  refine (enc_c (r + 4) _ (blk_rdp H10.out.b4)).mono ?_
  rintro e w11 ⟨rfl, hb11⟩
  have H11 := Lib.hid (H10.out.below hb11)
  have HD11 := Lib.hid (HD10.out.kept hb11)
  have HK11 := Lib.hid (HK10.out.kept (hb11.block _ HK10.out.lt))
  obtain ⟨k10, hk10⟩ : ∃ k10, w10.heap.size = k10 := ⟨_, rfl⟩
  rw [hk10]
  clear hb11 H10 HD10 HK10 c50 c51 hk10 w10
  have c10 := H11.out.b1.cell 0
  have c11 := H11.out.b1.cell 1
  have c30 := H11.out.b3.cell 0
  have c31 := H11.out.b3.cell 1
  simp only [List.getElem?_cons_zero, List.getElem?_cons_succ] at c10 c11 c30 c31
  have H12 := Lib.hid (H11.out.alloc (.cells #[.int .i64 1, .slice (some ⟨r, 0, none⟩) 1 1, .int .i64 7, .slice (some ⟨r + 2, 0, none⟩) 3 3] 24))
  have HL12 := Lib.hid (Blk.new w11 24 [.int .i64 1, .slice (some ⟨r, 0, none⟩) 1 1, .int .i64 7, .slice (some ⟨r + 2, 0, none⟩) 3 3])
  have HD12 := Lib.hid (HD11.out.kept ((Below.refl _ w11).alloc (Nat.le_refl _) (.cells #[.int .i64 1, .slice (some ⟨r, 0, none⟩) 1 1, .int .i64 7, .slice (some ⟨r + 2, 0, none⟩) 3 3] 24)))
  have HK12 := Lib.hid (HK11.out.alloc (.cells #[.int .i64 1, .slice (some ⟨r, 0, none⟩) 1 1, .int .i64 7, .slice (some ⟨r + 2, 0, none⟩) 3 3] 24))
  clear HD11 HK11
  go_wp2_with fail
  refine (find_b r w11.heap.size _ (blk_rdp H12.out.b0) (blk_rdp H12.out.b2) HL12.out).mono ?_
  rintro e w13 ⟨ox, cx, rfl, hrd13, hb13⟩
  clear c10 c11 c30 c31
  obtain ⟨k11, hk11⟩ : ∃ k11, w11.heap.size = k11 := ⟨_, rfl⟩
  rw [hk11]
  have H13 := Lib.hid ((H12.out.below hb13).alloc (.cells #[.int .i64 7, .slice ox 3 cx] 24))
  have HX13 := Lib.hid (hrd13.kept ((Below.refl _ w13).alloc (Nat.le_refl _) (.cells #[.int .i64 7, .slice ox 3 cx] 24)))
  have HD13 := Lib.hid ((HD12.out.kept hb13).kept ((Below.refl _ w13).alloc (Nat.le_refl _) (.cells #[.int .i64 7, .slice ox 3 cx] 24)))
  have HK13 := Lib.hid ((HK12.out.kept (hb13.block _ HK12.out.lt)).alloc (.cells #[.int .i64 7, .slice ox 3 cx] 24))
  have HX := Lib.hid (Blk.new w13 24 [.int .i64 7, .slice ox 3 cx])
  clear hb13 hrd13 H12 HL12 HD12 HK12 hk11 H11 w11
  obtain ⟨kx, hkx⟩ : ∃ kx, w13.heap.size = kx := ⟨_, rfl⟩
  rw [hkx] at HX
  have HKX := Lib.hid hkx
  clear hkx
  have c10 := H13.out.b1.cell 0
  have c11 := H13.out.b1.cell 1
  have d0 := HK13.out.cell 0
  have d1 := HK13.out.cell 1
  simp only [List.getElem?_cons_zero, List.getElem?_cons_succ] at c10 c11 d0 d1
  go_wp2_with fail
  rw [HKX.out]
  refine (same_of _ 1 1 (some ⟨r, 0, none⟩) od 1 cd 1 1 sA sA true rfl rfl (by decide) (by decide) (by decide) (blk_rdp H13.out.b0) HD13.out).mono ?_
  rintro e w14 ⟨rfl, hb14⟩
  have H14 := Lib.hid (H13.out.below hb14)
  have HX14 := Lib.hid (HX13.out.kept hb14)
  have HXB14 := Lib.hid (HX.out.kept (hb14.block _ HX.out.lt))
  clear hb14 H13 HX13 HD13 HK13 HX c10 c11 d0 d1 HKX w13
  have c10 := H14.out.b1.cell 0
  have c11 := H14.out.b1.cell 1
  have c30 := H14.out.b3.cell 0
  have c31 := H14.out.b3.cell 1
  simp only [List.getElem?_cons_zero, List.getElem?_cons_succ] at c10 c11 c30 c31
  go_wp2_with fail
  refine (same_of _ 1 7 (some ⟨r, 0, none⟩) (some ⟨r + 2, 0, none⟩) 1 3 1 3 sA sB false rfl rfl (by decide) (by decide) (by decide) (blk_rdp H14.out.b0) (blk_rdp H14.out.b2)).mono ?_
  rintro e w15 ⟨rfl, hb15⟩
  have H15 := Lib.hid (H14.out.below hb15)
  have HX15 := Lib.hid (HX14.out.kept hb15)
  have HXB15 := Lib.hid (HXB14.out.kept (hb15.block _ HXB14.out.lt))
  clear hb15 H14 HX14 HXB14 c10 c11 c30 c31 w14
  have c30 := H15.out.b3.cell 0
  have c31 := H15.out.b3.cell 1
  have x0 := HXB15.out.cell 0
  have x1 := HXB15.out.cell 1
  simp only [List.getElem?_cons_zero, List.getElem?_cons_succ] at c30 c31 x0 x1
  go_wp2_with fail
  refine (same_of _ 7 7 ox (some ⟨r + 2, 0, none⟩) cx 3 3 3 sB sB true rfl rfl (by decide) (by decide) (by decide) HX15.out (blk_rdp H15.out.b2)).mono ?_
  rintro e w16 ⟨rfl, hb16⟩
  have H16 := Lib.hid (H15.out.below hb16)
  clear hb16 H15 HX15 HXB15 c30 c31 x0 x1 w15
  have c30 := H16.out.b3.cell 0
  have c31 := H16.out.b3.cell 1
  simp only [List.getElem?_cons_zero, List.getElem?_cons_succ] at c30 c31
  go_wp2_with fail
  refine (keys_b (r + 2) _ (blk_rdp H16.out.b2)).mono ?_
  rintro e w17 ⟨ok, ck, rfl, hk17, hb17⟩
  have H17 := Lib.hid ((H16.out.below hb17).alloc (.cells #[.int .i64 0, .int .i64 2] 3))
  have HV17 := Lib.hid (hk17.kept ((Below.refl _ w17).alloc (Nat.le_refl _) (.cells #[.int .i64 0, .int .i64 2] 3)))
  have HN17 := Lib.hid (blk_rdv (Blk.new w17 3 (ints [0, 2])))
  clear hb17 hk17 H16 c30 c31 w16
  go_wp2_with fail
  refine (ints_of _ ok (some ⟨w17.heap.size, 0, none⟩) ck 2 2 [0, 2] rfl (by decide) HV17.out HN17.out).mono ?_
  rintro e w18 ⟨rfl, hb18⟩
  have H18 := Lib.hid (H17.out.below hb18)
  obtain ⟨k17, hk17⟩ : ∃ k17, w17.heap.size = k17 := ⟨_, rfl⟩
  rw [hk17]
  clear hb18 H17 HV17 HN17 hk17 w17
  have c30 := H18.out.b3.cell 0
  have c31 := H18.out.b3.cell 1
  simp only [List.getElem?_cons_zero, List.getElem?_cons_succ] at c30 c31
  go_wp2_with fail
  refine (sizes_b (r + 2) _ (blk_rdp H18.out.b2)).mono ?_
  rintro e w19 ⟨os, cs, rfl, hk19, hb19⟩
  have H19 := Lib.hid ((H18.out.below hb19).alloc (.cells #[.int .i64 0, .int .i64 1, .int .i64 0] 3))
  have HV19 := Lib.hid (hk19.kept ((Below.refl _ w19).alloc (Nat.le_refl _) (.cells #[.int .i64 0, .int .i64 1, .int .i64 0] 3)))
  have HN19 := Lib.hid (blk_rdv (Blk.new w19 3 (ints [0, 1, 0])))
  clear hb19 hk19 H18 c30 c31 w18
  go_wp2_with fail
  refine (ints_of _ os (some ⟨w19.heap.size, 0, none⟩) cs 3 3 [0, 1, 0] rfl (by decide) HV19.out HN19.out).mono ?_
  rintro e w20 ⟨rfl, hb20⟩
  have H20 := Lib.hid (H19.out.below hb20)
  obtain ⟨k19, hk19⟩ : ∃ k19, w19.heap.size = k19 := ⟨_, rfl⟩
  rw [hk19]
  clear hb20 H19 HV19 HN19 hk19 w19
  have c30 := H20.out.b3.cell 0
  have c31 := H20.out.b3.cell 1
  simp only [List.getElem?_cons_zero, List.getElem?_cons_succ] at c30 c31
  go_wp2_with fail
  refine (powers_b (r + 2) _ (blk_rdp H20.out.b2)).mono ?_
  rintro e w21 ⟨op, cp, rfl, hk21, hb21⟩
  have H21 := Lib.hid ((H20.out.below hb21).alloc (.cells #[.int .i64 0, .int .i64 9, .int .i64 0] 3))
  have HV21 := Lib.hid (hk21.kept ((Below.refl _ w21).alloc (Nat.le_refl _) (.cells #[.int .i64 0, .int .i64 9, .int .i64 0] 3)))
  have HN21 := Lib.hid (blk_rdv (Blk.new w21 3 (ints [0, 9, 0])))
  clear hb21 hk21 H20 c30 c31 w20
  go_wp2_with fail
  refine (ints_of _ op (some ⟨w21.heap.size, 0, none⟩) cp 3 3 [0, 9, 0] rfl (by decide) HV21.out HN21.out).mono ?_
  rintro e w22 ⟨rfl, hb22⟩
  have H22 := Lib.hid (H21.out.below hb22)
  obtain ⟨k21, hk21⟩ : ∃ k21, w21.heap.size = k21 := ⟨_, rfl⟩
  rw [hk21]
  clear hb22 H21 HV21 HN21 hk21 w21
  have c50 := H22.out.b5.cell 0
  have c51 := H22.out.b5.cell 1
  simp only [List.getElem?_cons_zero, List.getElem?_cons_succ] at c50 c51
  go_wp2_with fail
  refine (valid_c (r + 4) _ (blk_rdp H22.out.b4)).mono ?_
  rintro e w23 ⟨rfl, hb23⟩
  have H23 := Lib.hid (H22.out.below hb23)
  clear hb23 H22 c50 c51 w22
  go_wp2_with fail
  go_ret
  exact ⟨rfl, H23.out.bel⟩
end Go.Proofs.Ytfplajafekpccaa
