/-
  The reference's Encoded.
  The reference's Valid.
-/
import Derived.Test.YtfpcdlpfmlaakaaGreatDoorWrR
import Derived.Test.YtfpcdlpfmlaakaaGreatDoorAsA
set_option linter.unusedVariables false
set_option linter.unusedSimpArgs false
namespace Go.Proofs.YtfpcdlpfmlaakaaGreatDoor
open Go.RowKit Onair
attribute [local go_sem ↓] Go.wp_at_zero Go.wp_at_succ
set_option maxHeartbeats 4000000 in
set_option maxRecDepth 100000 in
theorem refEncoded_any (r : Rec) (w : World) :
    Calls Tryz.prog 67 #[.agg (recA r)] w fun e w' => e = .returned (.string (encB r)) ∧ Below w.heap.size w w' := by
  obtain ⟨L, hL⟩ : ∃ L, r.list = L := ⟨_, rfl⟩
  have HE : Hid (encB r = ⟨(numsL L).toArray⟩) := (show encB r = _ from by rw [← hL]; rfl)
  have hl6 : L.length = 6 := by rw [← hL]; rfl
  obtain ⟨r0, r1, r2, r3, r4, r5⟩ := r
  dsimp only [recA, Rec.list] at hL ⊢
  obtain ⟨N, hN⟩ : ∃ N, w.heap.size = N := ⟨_, rfl⟩
  obtain ⟨w1, hw1⟩ : ∃ w1, w.alloc (.cells #[.int .i64 r0, .int .i64 r1, .int .i64 r2, .int .i64 r3, .int .i64 r4, .int .i64 r5] 62) = w1 := ⟨_, rfl⟩
  obtain ⟨w2, hw2⟩ : ∃ w2, w1.alloc (.cells #[.int .i64 r0, .int .i64 r1, .int .i64 r2, .int .i64 r3, .int .i64 r4, .int .i64 r5] 3) = w2 := ⟨_, rfl⟩
  have hz1 : w1.heap.size = N + 1 := by rw [← hw1, ← hN]; simp
  have k1 : Blk w1 N 62 [.int .i64 r0, .int .i64 r1, .int .i64 r2, .int .i64 r3, .int .i64 r4, .int .i64 r5] := by rw [← hw1, ← hN]; exact Blk.new w _ _
  have k2 : Blk w2 (N + 1) 3 (L.map fun x => Value.int .i64 x) := by rw [← hw2, ← hz1, ← hL]; exact Blk.new w1 _ _
  have hb2 : Below N w w2 := by
    rw [← hw2]
    refine Below.alloc ?_ (by omega) _
    rw [← hw1, ← hN]
    exact (Below.refl _ w).alloc (Nat.le_refl _) _
  have c0 := k1.cell 0
  have c1 := k1.cell 1
  have c2 := k1.cell 2
  have c3 := k1.cell 3
  have c4 := k1.cell 4
  have c5 := k1.cell 5
  simp only [List.getElem?_cons_zero, List.getElem?_cons_succ] at c0 c1 c2 c3 c4 c5
  have HK2 := Lib.hid k2
  have HB2 := Lib.hid hb2
  have HN := Lib.hid hN
  have HL6 := Lib.hid hl6
  clear k1 k2 hb2 hl6 hL
  go_enter Tryz.func67, Tryz.ntmps67
  go_wp2_with fail
  go_loopw [3, 5] (fun vo vi wr => ∃ (k : Nat) (s : ByteArray), k ≤ 6 ∧ vi = .int .i64 k ∧ vo = .string s ∧ s.size ≤ 9 * k ∧ Hid (s.data.toList = numsL (L.take k)) ∧ Hid (Blk wr (N + 1) 3 (L.map fun x => Value.int .i64 x)) ∧ Hid (Below N w wr)) (fun _ i _ => 6 - (intOf i).toNat)
  case atStart => exact ⟨0, ⟨#[]⟩, Nat.zero_le _, rfl, rfl, Nat.zero_le _, by rw [List.take_zero]; rfl, HK2, HB2⟩
  case round =>
    clear HK2 HB2 c0 c1 c2 c3 c4 c5 hw1 hw2 hz1
    obtain ⟨k, s, hk, rfl, rfl, hz, HS, HK, HB⟩ := hrel
    by_cases h : k < 6
    · have q1 : (k : Int) < 6 := by omega
      have q2 : (0 : Int) ≤ (k : Int) := by omega
      obtain ⟨x, hx⟩ : ∃ x, L[k]? = some x := ⟨L[k]'(by rw [HL6.out]; exact h), List.getElem?_eq_getElem _⟩
      have c0 : wr.cell? ⟨N + 1, k, none⟩ = some (.int .i64 x) := by rw [HK.out.cell, List.getElem?_map, hx]; rfl
      have hput := refPut_any x wr
      have hpl := putL_len x
      obtain ⟨p, hp⟩ : ∃ p : ByteArray, (⟨(putL x).toArray⟩ : ByteArray) = p := ⟨_, rfl⟩
      have hpd : p.data.toList = putL x := by rw [← hp]
      have hps : p.size ≤ 9 := by rw [← hp]; show (putL x).toArray.size ≤ 9; rw [List.size_toArray]; exact hpl
      rw [hp] at hput
      generalize Onair.putE x = pe at hput
      have HPUT := Lib.hid hput
      have hn1 : ¬ (s.size + p.size > 9223372036854775807) := by omega
      have hn2 : ¬ (9223372036854775807 < s.size + p.size) := by omega
      have HS2 : Hid ((s ++ p).data.toList = numsL (L.take (k + 1))) := (show _ = _ from by
        rw [List.take_add_one, hx, numsL_append, ← HS.out, ByteArray.data_append, Array.toList_append, hpd]
        congr 1
        exact (numsL_one x).symm)
      have hsz : (s ++ p).size ≤ 9 * (k + 1) := by rw [ByteArray.size_append]; omega
      have HSZ := Lib.hid hsz
      clear hx hput hpl hp hpd h hsz
      go_wp2_with fail
      refine HPUT.out.mono ?_
      rintro e w3 ⟨rfl, hb3⟩
      have HK3 := Lib.hid (HK.out.kept (hb3.block (N + 1) HK.out.lt))
      have HB3 : Hid (Below N w w3) := HB.out.trans (hb3.mono (by have := HB.out.size; rw [HN.out] at this; exact this))
      clear hb3 HK HB HPUT c0
      go_wp2_with fail
      go_roundw
      case rel => exact ⟨k + 1, s ++ p, by omega, by go_num, rfl, HSZ.out, HS2, HK3, HB3⟩
      case measure => simp [intOf]; omega
    · have hk6 : k = 6 := by omega
      have HE2 : Hid (s = encB ⟨r0, r1, r2, r3, r4, r5⟩) := (show s = _ from by
        rw [HE.out]
        apply ba_ext
        have := HS.out
        rw [hk6, List.take_of_length_le (by rw [HL6.out]; exact Nat.le_refl _)] at this
        simpa using this)
      have q1 : ¬ (k : Int) < 6 := by omega
      clear h hk6
      go_wp2_with fail
      go_ret
      exact ⟨by rw [← HE2.out]; rfl, by first | exact HB.out | (rw [HN.out]; exact HB.out)⟩
end Go.Proofs.YtfpcdlpfmlaakaaGreatDoor
namespace Go.Proofs.YtfpcdlpfmlaakaaGreatDoor
open Go.RowKit Onair
set_option maxHeartbeats 4000000 in
set_option maxRecDepth 100000 in
theorem refValid25_any (r : Rec) (w : World) (hr : RecI r) :
    Calls Tryz.prog 52 #[.agg (recA r)] w fun e w' => e = .returned (.bool (validR r)) ∧ Below w.heap.size w w' := by
  have HBW : Hid (Below w.heap.size w (w.alloc (.cells (recA r) 62))) := (Below.refl _ _).alloc (Nat.le_refl _) _
  obtain ⟨ch, rg, fr, fs, it, ix⟩ := r
  obtain ⟨a0, a1, b0, b1, c0, c1, d0, d1, e0, e1, f0, f1⟩ := hr
  dsimp only at a0 a1 b0 b1 c0 c1 d0 d1 e0 e1 f0 f1
  dsimp only [recA] at HBW ⊢
  have HV : Hid (∀ b : Bool, (b = true ↔ (0 ≤ ch ∧ ch < 40 ∧ 0 ≤ rg ∧ rg < 8 ∧ 0 ≤ fr ∧ fr ≤ 100000000 ∧ 1 ≤ fs ∧ fs ≤ 100000001 - fr ∧ 0 ≤ it ∧ it ≤ 4611686018427387903 ∧ 0 ≤ ix ∧ ix ≤ 100000000 ∧ (it = 0 → ix = 0))) → b = validR ⟨ch, rg, fr, fs, it, ix⟩) := fun b hb => by
    rw [Bool.eq_iff_iff, hb]
    unfold validR
    rw [decide_eq_true_iff]
  by_cases h1 : 0 ≤ ch ∧ ch < 40 ∧ 0 ≤ rg ∧ rg < 8 ∧ 0 ≤ fr ∧ fr ≤ 100000000 ∧ 1 ≤ fs ∧ fs ≤ 100000001 - fr
  · obtain ⟨p1, p2, p3, p4, p5, p6, p7, p8⟩ := h1
    by_cases h3 : 0 ≤ it ∧ it ≤ 4611686018427387903 ∧ 0 ≤ ix ∧ ix ≤ 100000000
    · obtain ⟨p9, p10, p11, p12⟩ := h3
      by_cases h4 : it = 0
      · subst h4
        have HX : Hid ((ix == 0) = validR ⟨ch, rg, fr, fs, 0, ix⟩) := HV.out _ (by rw [beq_iff_eq]; omega)
        clear HV
        go_enter Tryz.func52, Tryz.ntmps52
        go_wp2
        go_ret
        exact ⟨ret_bool HX.out, HBW.out⟩
      · have hn : (it != 0) = true := by rw [bne_iff_ne]; exact h4
        have HX : Hid (true = validR ⟨ch, rg, fr, fs, it, ix⟩) := HV.out _ (by simp; omega)
        clear HV
        go_enter Tryz.func52, Tryz.ntmps52
        go_wp2
        go_ret
        exact ⟨ret_bool HX.out, HBW.out⟩
    · have HX : Hid (false = validR ⟨ch, rg, fr, fs, it, ix⟩) := HV.out _ (by simp; omega)
      clear HV
      rcases (show it < 0 ∨ (0 ≤ it ∧ 4611686018427387903 < it) ∨ (0 ≤ it ∧ it ≤ 4611686018427387903 ∧ ix < 0) ∨ (0 ≤ it ∧ it ≤ 4611686018427387903 ∧ 0 ≤ ix ∧ 100000000 < ix) from by omega) with q1 | ⟨q1, q2⟩ | ⟨q1, q2, q3⟩ | ⟨q1, q2, q3, q4⟩
      all_goals
        clear h3
        go_enter Tryz.func52, Tryz.ntmps52
        go_wp2
        go_ret
        exact ⟨ret_bool HX.out, HBW.out⟩
  · have HX : Hid (false = validR ⟨ch, rg, fr, fs, it, ix⟩) := HV.out _ (by simp; omega)
    clear HV
    rcases (show ch < 0 ∨ (0 ≤ ch ∧ 40 ≤ ch) ∨ (0 ≤ ch ∧ ch < 40 ∧ rg < 0) ∨ (0 ≤ ch ∧ ch < 40 ∧ 0 ≤ rg ∧ 8 ≤ rg) ∨ (0 ≤ ch ∧ ch < 40 ∧ 0 ≤ rg ∧ rg < 8 ∧ fr < 0) ∨ (0 ≤ ch ∧ ch < 40 ∧ 0 ≤ rg ∧ rg < 8 ∧ 0 ≤ fr ∧ 100000000 < fr) ∨ (0 ≤ ch ∧ ch < 40 ∧ 0 ≤ rg ∧ rg < 8 ∧ 0 ≤ fr ∧ fr ≤ 100000000 ∧ fs < 1) ∨ (0 ≤ ch ∧ ch < 40 ∧ 0 ≤ rg ∧ rg < 8 ∧ 0 ≤ fr ∧ fr ≤ 100000000 ∧ 1 ≤ fs ∧ 100000001 - fr < fs) from by omega) with q1 | ⟨q1, q2⟩ | ⟨q1, q2, q3⟩ | ⟨q1, q2, q3, q4⟩ | ⟨q1, q2, q3, q4, q5⟩ | ⟨q1, q2, q3, q4, q5, q6⟩ | ⟨q1, q2, q3, q4, q5, q6, q7⟩ | ⟨q1, q2, q3, q4, q5, q6, q7, q8⟩
    all_goals
      clear h1
      go_enter Tryz.func52, Tryz.ntmps52
      go_wp2
      go_ret
      exact ⟨ret_bool HX.out, HBW.out⟩
end Go.Proofs.YtfpcdlpfmlaakaaGreatDoor
