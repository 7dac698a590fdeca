/-
  The walk of asrun.encode.
-/
import Derived.WalkKit
import Derived.LoopTactic
import Derived.WalkSpells
import Derived.WalkLawsBesides
import Derived.IntWalk
import Derived.Outline
import Derived.Lib.Builder
import Derived.Lib.Hide
import Derived.Test.YtfpcdlpfmlaakaaGreatDoorAsA
import Derived.Test.YtfpcdlpfmlaakaaGreatDoorBlQ
set_option linter.unusedVariables false
set_option linter.unusedSimpArgs false
namespace Go.Proofs.YtfpcdlpfmlaakaaGreatDoor
open Go.RowKit Onair
set_option maxRecDepth 100000 in
theorem idx6 (r : Rec) (k : Nat) (h : k < 6) : ∀ w : World, (Instr.index 135 (.agg (recA r)) (.int .i64 (k : Int))).run Tryz.prog w = .ok (.int .i64 (r.list.getD k 0)) w := by
  intro w
  match k, h with
  | 0, _ => rfl
  | 1, _ => rfl
  | 2, _ => rfl
  | 3, _ => rfl
  | 4, _ => rfl
  | 5, _ => rfl
theorem nums_succ (r : Rec) (k : Nat) (h : k < 6) : numsL (r.list.take (k + 1)) = numsL (r.list.take k) ++ putL (r.list.getD k 0) := by
  have hx : k < r.list.length := h
  rw [List.take_succ_eq_append_getElem hx, numsL_append, numsL_one]
  congr 2
  rw [List.getD_eq_getElem?_getD, List.getElem?_eq_getElem hx]
  rfl
set_option maxHeartbeats 2000000 in
set_option maxRecDepth 100000 in
theorem encode_any (r : Rec) (w : World) :
    Calls Tryz.prog 40 #[.agg (recA r)] w fun e w' => e = .returned (.string (encB r)) ∧ Below w.heap.size w w' := by
  obtain ⟨w2, hw2⟩ : ∃ w2, w.alloc (.cells (recA r) 62) = w2 := ⟨_, rfl⟩
  have hb2 : Below w.heap.size w w2 := by rw [← hw2]; exact (Below.refl _ w).alloc (Nat.le_refl _) _
  have hz2 : w2.heap.size = w.heap.size + 1 := by rw [← hw2]; simp
  have HBL3 : Hid (Bld w2.heap.size w2.heap.size [] (w2.alloc (.cells #[.pointer none, .slice none 0 0] 93))) := Lib.fresh_isBuilder _ _ w2
  have HB3 : Hid (Below w.heap.size w (w2.alloc (.cells #[.pointer none, .slice none 0 0] 93))) := hb2.alloc hb2.size _
  have HS3 : Hid (w.heap.size + 2 ≤ (w2.alloc (.cells #[.pointer none, .slice none 0 0] 93)).heap.size) := by show _ ≤ _; simp [hz2]
  have HX := Lib.hid (idx6 r)
  have HRA : Hid (recA r = #[.int .i64 r.ch, .int .i64 r.rg, .int .i64 r.fr, .int .i64 r.fs, .int .i64 r.it, .int .i64 r.ix]) := rfl
  subst hw2
  rw [hz2] at HBL3
  obtain ⟨B, hB⟩ : ∃ B, w.heap.size = B := ⟨_, rfl⟩
  rw [hB] at HBL3 HB3 HS3
  have HBB := Lib.hid hB
  rw [HRA.out] at HBL3 HB3 HS3 HX ⊢
  clear hb2 hz2 hB
  go_enter Tryz.func40, Tryz.ntmps40
  go_upto_region 3 with (fail)
  rw [HBB.out]
  generalize (w.alloc (.cells #[.int .i64 r.ch, .int .i64 r.rg, .int .i64 r.fr, .int .i64 r.fs, .int .i64 r.it, .int .i64 r.ix] 62)).alloc (.cells #[.pointer none, .slice none 0 0] 93) = w3 at HBL3 HB3 HS3 ⊢
  go_loopw [21] (fun x wr => ∃ k : Nat, k ≤ 6 ∧ x = .int .i64 k ∧ Hid (Bld (B + 1) (B + 1) (numsL (r.list.take k)) wr) ∧ Hid (Below B w wr) ∧ Hid (B + 2 ≤ wr.heap.size)) (fun x _ => 6 - (intOf x).toNat)
  case atStart => exact ⟨0, Nat.zero_le _, rfl, HBL3, HB3, HS3⟩
  case round =>
    clear HBL3 HB3 HS3
    obtain ⟨k, hk, rfl, HBL, HB, HS⟩ := hrel
    by_cases hk6 : k = 6
    · have q1 : ¬ (k : Int) < 6 := by omega
      have HE : Hid (Bld (B + 1) (B + 1) (encL r) wr) := by
        have := HBL.out
        rw [hk6] at this
        exact this
      clear hk6
      go_wp2_with fail
      refine (Tryz.Builder_String_any (B + 1) (B + 1) (encL r) wr HE.out (by have := HS.out; omega)).mono ?_
      rintro e w6 ⟨rfl, hb6⟩
      have HB6 : Hid (Below B w w6) := HB.out.trans (hb6.mono (by omega))
      clear hb6
      go_wp2_with fail
      go_ret
      exact ⟨rfl, by rw [HBB.out]; exact HB6.out⟩
    · have q1 : (k : Int) < 6 := by omega
      have hk7 : k < 6 := by omega
      have hx := HX.out k hk7
      have HN := Lib.hid (nums_succ r k hk7)
      have hlen : (numsL (r.list.take k)).length ≤ 54 := by
        have := numsL_len (r.list.take k)
        have h2 : (r.list.take k).length ≤ 6 := List.length_take_le' _ _
        omega
      have HLEN := Lib.hid hlen
      generalize r.list.getD k 0 = v at hx HN
      clear hk6 hlen
      go_wp2_with fail
      refine (putInt_any v wr).mono ?_
      rintro e w4 ⟨rfl, hb4⟩
      have HBL4 : Hid (Bld (B + 1) (B + 1) (numsL (r.list.take k)) w4) := Bld.below HBL.out hb4
      have HB4 : Hid (Below B w w4) := HB.out.trans (hb4.mono (by have := HS.out; omega))
      have HS4 : Hid (B + 2 ≤ w4.heap.size) := Nat.le_trans HS.out hb4.size
      have hpl := putL_len v
      clear hb4 HBL HB HS hx
      go_wp2_with fail
      refine (writeString_any (B + 1) (B + 1) (numsL (r.list.take k)) ⟨(putL v).toArray⟩ w4 HBL4.out (by have := HLEN.out; show _ + (putL v).toArray.size ≤ _; simp; omega) (by have := HS4.out; omega)).mono ?_
      rintro e w5 ⟨⟨v5, rfl⟩, hl5, hb5, _⟩
      have HBL5 : Hid (Bld (B + 1) (B + 1) (numsL (r.list.take (k + 1))) w5) := by show Bld _ _ _ _; rw [HN.out]; simpa using hl5
      have HB5 : Hid (Below B w w5) := HB4.out.trans (hb5.mono (by omega))
      have HS5 : Hid (B + 2 ≤ w5.heap.size) := Nat.le_trans HS4.out hb5.size
      clear hl5 hb5 HBL4 HB4 HS4
      go_wp2_with fail
      go_roundw
      case rel => exact ⟨k + 1, by omega, by go_num, HBL5, HB5, HS5⟩
      case measure => simp [intOf]; omega
end Go.Proofs.YtfpcdlpfmlaakaaGreatDoor
