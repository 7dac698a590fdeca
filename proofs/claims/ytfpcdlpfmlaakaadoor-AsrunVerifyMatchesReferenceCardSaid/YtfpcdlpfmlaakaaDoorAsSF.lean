/-
  The reference's Verify.
-/
import Derived.WalkKit
import Derived.LoopTactic
import Derived.WalkSpells
import Derived.WalkLawsBesides
import Derived.RegionTactic
import Derived.BigRegion
import Derived.IntWalk
import Derived.Outline
import Derived.Deep.QuietTactic
import Derived.BigQuiet
import Derived.Deep.RegionLaw
import Derived.Deep.RegionHeld3
import Derived.Deep.DrawnRows
import Derived.Lib.Hide
import Derived.Test.YtfpcdlpfmlaakaaDoorAsMN
import Derived.Test.YtfpcdlpfmlaakaaDoorEnVa
import Derived.Test.YtfpcdlpfmlaakaaDoorAsSq
set_option linter.unusedVariables false
set_option linter.unusedSimpArgs false
namespace Go.Proofs.YtfpcdlpfmlaakaaDoor
open Go.RowKit Onair
attribute [local go_sem ↓] Go.wp_at_zero Go.wp_at_succ
/-- A proof's cells, and what lies below. -/
structure PW (w : World) (N n : Nat) (A : List Value) (W : World) : Prop where
  bel : Below N w W
  le : N ≤ W.heap.size
  blk : Blk W n 45 A
theorem PW.next {w : World} {N n : Nat} {A : List Value} {W W' : World} (h : PW w N n A W) (hb : Below W.heap.size W W') : PW w N n A W' :=
  ⟨h.bel.trans (hb.mono h.le), Nat.le_trans h.le hb.size, h.blk.kept (hb.block n h.blk.lt)⟩
theorem drew_b (W : World) : Below W.heap.size W W.drew := (Below.refl _ _).drew
theorem pw8 {w : World} {N : Nat} {r0 r1 r2 r3 r4 r5 i n : Int} {salt : ByteArray} {oa : Option Addr} {m cap : Nat} {W : World} (h : PW w N N [.int .i64 r0, .int .i64 r1, .int .i64 r2, .int .i64 r3, .int .i64 r4, .int .i64 r5, .int .i64 i, .int .i64 n, .string salt, .slice oa m cap] W) : W.cell? ⟨N, 0, none⟩ = some (.int .i64 r0) ∧ W.cell? ⟨N, 1, none⟩ = some (.int .i64 r1) ∧ W.cell? ⟨N, 2, none⟩ = some (.int .i64 r2) ∧ W.cell? ⟨N, 3, none⟩ = some (.int .i64 r3) ∧ W.cell? ⟨N, 4, none⟩ = some (.int .i64 r4) ∧ W.cell? ⟨N, 5, none⟩ = some (.int .i64 r5) ∧ W.cell? ⟨N, 6, none⟩ = some (.int .i64 i) ∧ W.cell? ⟨N, 7, none⟩ = some (.int .i64 n) ∧ W.cell? ⟨N, 8, none⟩ = some (.string salt) ∧ W.cell? ⟨N, 9, none⟩ = some (.slice oa m cap) ∧ Hid (PW w N N [.int .i64 r0, .int .i64 r1, .int .i64 r2, .int .i64 r3, .int .i64 r4, .int .i64 r5, .int .i64 i, .int .i64 n, .string salt, .slice oa m cap] W) := ⟨h.blk.cell 0, h.blk.cell 1, h.blk.cell 2, h.blk.cell 3, h.blk.cell 4, h.blk.cell 5, h.blk.cell 6, h.blk.cell 7, h.blk.cell 8, h.blk.cell 9, h⟩
theorem pw8n {w : World} {N : Nat} {r0 r1 r2 r3 r4 r5 i n : Int} {salt : ByteArray} {oa : Option Addr} {m cap : Nat} {W : World} {W' : World} (hb : Below W.heap.size W W') (h : W.cell? ⟨N, 0, none⟩ = some (.int .i64 r0) ∧ W.cell? ⟨N, 1, none⟩ = some (.int .i64 r1) ∧ W.cell? ⟨N, 2, none⟩ = some (.int .i64 r2) ∧ W.cell? ⟨N, 3, none⟩ = some (.int .i64 r3) ∧ W.cell? ⟨N, 4, none⟩ = some (.int .i64 r4) ∧ W.cell? ⟨N, 5, none⟩ = some (.int .i64 r5) ∧ W.cell? ⟨N, 6, none⟩ = some (.int .i64 i) ∧ W.cell? ⟨N, 7, none⟩ = some (.int .i64 n) ∧ W.cell? ⟨N, 8, none⟩ = some (.string salt) ∧ W.cell? ⟨N, 9, none⟩ = some (.slice oa m cap) ∧ Hid (PW w N N [.int .i64 r0, .int .i64 r1, .int .i64 r2, .int .i64 r3, .int .i64 r4, .int .i64 r5, .int .i64 i, .int .i64 n, .string salt, .slice oa m cap] W)) : W'.cell? ⟨N, 0, none⟩ = some (.int .i64 r0) ∧ W'.cell? ⟨N, 1, none⟩ = some (.int .i64 r1) ∧ W'.cell? ⟨N, 2, none⟩ = some (.int .i64 r2) ∧ W'.cell? ⟨N, 3, none⟩ = some (.int .i64 r3) ∧ W'.cell? ⟨N, 4, none⟩ = some (.int .i64 r4) ∧ W'.cell? ⟨N, 5, none⟩ = some (.int .i64 r5) ∧ W'.cell? ⟨N, 6, none⟩ = some (.int .i64 i) ∧ W'.cell? ⟨N, 7, none⟩ = some (.int .i64 n) ∧ W'.cell? ⟨N, 8, none⟩ = some (.string salt) ∧ W'.cell? ⟨N, 9, none⟩ = some (.slice oa m cap) ∧ Hid (PW w N N [.int .i64 r0, .int .i64 r1, .int .i64 r2, .int .i64 r3, .int .i64 r4, .int .i64 r5, .int .i64 i, .int .i64 n, .string salt, .slice oa m cap] W') := pw8 (h.2.2.2.2.2.2.2.2.2.2.out.next hb)
theorem pw8b {w : World} {N : Nat} {r0 r1 r2 r3 r4 r5 i n : Int} {salt : ByteArray} {oa : Option Addr} {m cap : Nat} {W : World} (h : W.cell? ⟨N, 0, none⟩ = some (.int .i64 r0) ∧ W.cell? ⟨N, 1, none⟩ = some (.int .i64 r1) ∧ W.cell? ⟨N, 2, none⟩ = some (.int .i64 r2) ∧ W.cell? ⟨N, 3, none⟩ = some (.int .i64 r3) ∧ W.cell? ⟨N, 4, none⟩ = some (.int .i64 r4) ∧ W.cell? ⟨N, 5, none⟩ = some (.int .i64 r5) ∧ W.cell? ⟨N, 6, none⟩ = some (.int .i64 i) ∧ W.cell? ⟨N, 7, none⟩ = some (.int .i64 n) ∧ W.cell? ⟨N, 8, none⟩ = some (.string salt) ∧ W.cell? ⟨N, 9, none⟩ = some (.slice oa m cap) ∧ Hid (PW w N N [.int .i64 r0, .int .i64 r1, .int .i64 r2, .int .i64 r3, .int .i64 r4, .int .i64 r5, .int .i64 i, .int .i64 n, .string salt, .slice oa m cap] W)) : Below N w W := h.2.2.2.2.2.2.2.2.2.2.out.bel
set_option maxHeartbeats 4000000 in
set_option maxRecDepth 100000 in
theorem refVerify25_any (root : ByteArray) (r : Rec) (i n : Int) (salt : ByteArray) (oa : Option Addr) (p : List ByteArray) (cap : Nat) (w : World) (hr : RecI r) (hn : n ≤ 9223372036854775807) (hp : p.length ≤ 1000000) (hpc : p.length ≤ cap) (hcc : cap ≤ 9223372036854775807) (hrd : RdS w oa p) (hs : salt.size ≤ maxLen) :
    Calls Tryd.prog 28 #[.string root, .agg (proA r i n salt (.slice oa p.length cap))] w fun e w' => e = .returned (.bool (verA root r i n salt p)) ∧ Below w.heap.size w w' := by
  obtain ⟨r0, r1, r2, r3, r4, r5⟩ := r
  obtain ⟨m, hm⟩ : ∃ m, p.length = m := ⟨_, rfl⟩
  obtain ⟨N, hN⟩ : ∃ N, w.heap.size = N := ⟨_, rfl⟩
  have hVE : ∀ W', salt.size = 32 → Below N w W' → Calls Tryd.prog 56 #[.string root, .int .i64 n, .int .i64 i, .string (salt ++ encB ⟨r0, r1, r2, r3, r4, r5⟩), .slice oa p.length cap] W' fun e w' => e = .returned (.bool (verI root n i (salt ++ encB ⟨r0, r1, r2, r3, r4, r5⟩) p)) ∧ Below W'.heap.size W' w' := fun W' h32 hW => by
    refine refVerify_any root n i _ oa p cap W' hn ?_ hp hpc hcc (RdS.kept hrd (hN ▸ hW))
    rw [ByteArray.size_append, h32]
    have := encB_size ⟨r0, r1, r2, r3, r4, r5⟩
    omega
  rw [hm] at hVE ⊢
  have HVE := Lib.hid hVE
  obtain ⟨w1, hw1⟩ : ∃ w1, w.alloc (.cells #[.int .i64 r0, .int .i64 r1, .int .i64 r2, .int .i64 r3, .int .i64 r4, .int .i64 r5, .int .i64 i, .int .i64 n, .string salt, .slice oa m cap] 45) = w1 := ⟨_, rfl⟩
  have hv1 : PW w N N [.int .i64 r0, .int .i64 r1, .int .i64 r2, .int .i64 r3, .int .i64 r4, .int .i64 r5, .int .i64 i, .int .i64 n, .string salt, .slice oa m cap] w1 := by
    have h1 := (Below.refl w.heap.size w).alloc (Nat.le_refl _) (.cells #[.int .i64 r0, .int .i64 r1, .int .i64 r2, .int .i64 r3, .int .i64 r4, .int .i64 r5, .int .i64 i, .int .i64 n, .string salt, .slice oa m cap] 45)
    have h2 := Blk.new w 45 [.int .i64 r0, .int .i64 r1, .int .i64 r2, .int .i64 r3, .int .i64 r4, .int .i64 r5, .int .i64 i, .int .i64 n, .string salt, .slice oa m cap]
    rw [hN] at h1 h2
    rw [← hw1]
    exact ⟨h1, by simp [← hN], h2⟩
  have HV := Lib.hid (refValid25_any ⟨r0, r1, r2, r3, r4, r5⟩ w1 hr)
  have HEN : Hid (∀ W, Calls Tryd.prog 25 #[.agg (recA ⟨r0, r1, r2, r3, r4, r5⟩)] W fun e w' => e = .returned (.string (encB ⟨r0, r1, r2, r3, r4, r5⟩)) ∧ Below W.heap.size W w') := fun W => refEncoded_any _ W
  have HN := Lib.hid hN
  have HX : Hid (validR ⟨r0, r1, r2, r3, r4, r5⟩ = false ∨ salt.size ≠ 32 → verA root ⟨r0, r1, r2, r3, r4, r5⟩ i n salt p = false) := verA_bad root _ i n salt p
  have HG : Hid (validR ⟨r0, r1, r2, r3, r4, r5⟩ = true → salt.size = 32 → verA root ⟨r0, r1, r2, r3, r4, r5⟩ i n salt p = verI root n i (salt ++ encB ⟨r0, r1, r2, r3, r4, r5⟩) p) := verA_good root _ i n salt p
  have hez := encB_size ⟨r0, r1, r2, r3, r4, r5⟩
  obtain ⟨c0, c1, c2, c3, c4, c5, c6, c7, c8, c9, _⟩ := pw8 hv1
  have HV1 := Lib.hid hv1
  have hz32 : salt.size ≤ 9223372036854775807 := by unfold maxLen at hs; omega
  dsimp only [recA] at HV HEN
  dsimp only [proA]
  clear hv1 hrd hs hp hpc hcc hn hr hm hVE
  have fin : ∀ (W3 W4 : World), Below w1.heap.size w1 W3 → Below W3.heap.size W3 W4 → Below w.heap.size w W4 := fun W3 W4 h3 h4 => by
    rw [HN.out]
    exact ((HV1.out.next h3).next h4).bel
  have FIN := Lib.hid fin
  clear fin
  by_cases hv : validR ⟨r0, r1, r2, r3, r4, r5⟩ = true
  · by_cases h32 : salt.size = 32
    · have HE := Lib.hid (HG.out hv h32)
      have HVE' := Lib.hid (fun W' => HVE.out W' h32)
      rw [hv] at HV
      have h32b : ((salt.size : Int) == 32) = true := by rw [h32]; rfl
      have h33 : salt.size ≤ 32 := by omega
      generalize encB ⟨r0, r1, r2, r3, r4, r5⟩ = Z at *
      have hsum : ¬ (salt.size + Z.size > 9223372036854775807) := by omega
      have hsum2 : ¬ (9223372036854775807 < salt.size + Z.size) := by omega
      clear HVE HG HX hv h32
      go_enter Tryd.func28, Tryd.ntmps28
      go_wp2_with fail
      refine HV.out.mono ?_
      rintro e w3 ⟨rfl, hb3⟩
      have hs3 := pw8 (HV1.out.next hb3)
      clear hb3 c0 c1 c2 c3 c4 c5 c6 c7 c8 c9 hw1 HV
      go_wp2_with fail
      go_region_held3 (fun W => W.cell? ⟨N, 0, none⟩ = some (.int .i64 r0) ∧ W.cell? ⟨N, 1, none⟩ = some (.int .i64 r1) ∧ W.cell? ⟨N, 2, none⟩ = some (.int .i64 r2) ∧ W.cell? ⟨N, 3, none⟩ = some (.int .i64 r3) ∧ W.cell? ⟨N, 4, none⟩ = some (.int .i64 r4) ∧ W.cell? ⟨N, 5, none⟩ = some (.int .i64 r5) ∧ W.cell? ⟨N, 6, none⟩ = some (.int .i64 i) ∧ W.cell? ⟨N, 7, none⟩ = some (.int .i64 n) ∧ W.cell? ⟨N, 8, none⟩ = some (.string salt) ∧ W.cell? ⟨N, 9, none⟩ = some (.slice oa m cap) ∧ Hid (PW w N N [.int .i64 r0, .int .i64 r1, .int .i64 r2, .int .i64 r3, .int .i64 r4, .int .i64 r5, .int .i64 i, .int .i64 n, .string salt, .slice oa m cap] W)) (first | exact hs3 | exact pw8n (drew_b _) hs3 | exact pw8n (by assumption) (by assumption)) (first
        | ((with_reducible refine (HEN.out _).mono ?_); rintro e wa ⟨rfl, hba⟩)
        | ((with_reducible refine (HVE'.out _ (pw8b (by assumption))).mono ?_); rintro e wb ⟨rfl, hbb⟩))
      go_wp2_with fail
      go_ret
      exact ⟨by rw [HE.out]; rfl, by rw [HN.out]; exact pw8b (by assumption)⟩
    · have HE := Lib.hid (HX.out (.inr h32))
      rw [hv] at HV
      have h32b : ((salt.size : Int) == 32) = false := by rw [beq_eq_false_iff_ne]; omega
      clear HVE HG HX hv h32
      go_enter Tryd.func28, Tryd.ntmps28
      go_wp2_with fail
      refine HV.out.mono ?_
      rintro e w3 ⟨rfl, hb3⟩
      obtain ⟨d0, d1, d2, d3, d4, d5, d6, d7, d8, d9, _⟩ := pw8 (HV1.out.next hb3)
      have HB3 := Lib.hid hb3
      clear hb3 c0 c1 c2 c3 c4 c5 c6 c7 c8 c9 hw1 HV
      go_wp2_with fail
      go_quiet (fail)
      go_wp2_with fail
      go_ret
      exact ⟨by rw [HE.out]; rfl, FIN.out _ _ HB3.out (drewN_below (Below.refl _ _) _)⟩
  · have hvf : validR ⟨r0, r1, r2, r3, r4, r5⟩ = false := Bool.eq_false_iff.2 hv
    have HE := Lib.hid (HX.out (.inl hvf))
    rw [hvf] at HV
    clear HVE HG HX hv hvf
    go_enter Tryd.func28, Tryd.ntmps28
    go_wp2_with fail
    refine HV.out.mono ?_
    rintro e w3 ⟨rfl, hb3⟩
    obtain ⟨d0, d1, d2, d3, d4, d5, d6, d7, d8, d9, _⟩ := pw8 (HV1.out.next hb3)
    have HB3 := Lib.hid hb3
    clear hb3 c0 c1 c2 c3 c4 c5 c6 c7 c8 c9 hw1 HV
    go_wp2_with fail
    go_quiet (fail)
    go_wp2_with fail
    go_ret
    exact ⟨by rw [HE.out]; rfl, FIN.out _ _ HB3.out (drewN_below (Below.refl _ _) _)⟩
end Go.Proofs.YtfpcdlpfmlaakaaDoor
