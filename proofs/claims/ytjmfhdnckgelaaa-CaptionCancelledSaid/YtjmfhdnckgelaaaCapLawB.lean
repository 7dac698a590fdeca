/-
  The walk of the law CaptionCancelled.
-/
import Derived.WalkKit
import Derived.LoopTactic
import Derived.WalkSpells
import Derived.WalkLawsBesides
import Derived.RegionTactic
import Derived.BigRegion
import Derived.Deep.QuietTactic
import Derived.BigQuiet
import Derived.IntWalk
import Derived.Outline
import Derived.Test.YtjmfhdnckgelaaaCapSane
import Derived.Test.YtjmfhdnckgelaaaCapEdP
import Derived.Test.YtjmfhdnckgelaaaCapOpen
set_option linter.unusedVariables false
set_option linter.unusedSimpArgs false
namespace Go.Proofs.Ytjmfhdnckgelaaa
open Go.RowKit
theorem own_cap {W : World} {B : Nat} {t : TypeId} {size : Nat} {oa : Option Addr} {n cap m : Nat} {xs : List Value} (h : W.ownsRow B t size (.slice oa n cap) m xs) : n ≤ cap := by
  rcases h.2 with ⟨e, _⟩ | ⟨g, cap', cur, e, _, _, q, _⟩
  · simp at e
    omega
  · simp at e
    omega
theorem RdC.take {W : World} {oa : Option Addr} {l : List Cue} (h : RdC W oa l) (m : Nat) : RdC W oa (l.take m) := by
  rcases h with rfl | ⟨g, off, rfl, hg, hc⟩
  · exact .inl (by simp)
  · refine .inr ⟨g, off, rfl, hg, fun i c hi => hc i c ?_⟩
    rw [List.getElem?_take] at hi
    split at hi
    · exact hi
    · simp at hi
def cancelCue (id : Int) : Cue := ⟨id, 0, 0, 0, ⟨#[]⟩⟩
theorem cancel_ok (id : Int) (h0 : -9223372036854775808 ≤ id) (h1 : id ≤ 9223372036854775807) : (cancelCue id).Ok := ⟨h0, h1, (by decide : (-9223372036854775808 : Int) ≤ 0), (by decide : (0 : Int) ≤ 9223372036854775807), (by decide : (-9223372036854775808 : Int) ≤ 0), (by decide : (0 : Int) ≤ 9223372036854775807), (by decide : (-9223372036854775808 : Int) ≤ 0), (by decide : (0 : Int) ≤ 9223372036854775807), Nat.zero_le _⟩
theorem cancel_valid (id : Int) : validB (cancelCue id) = (decide (1 ≤ id) && decide (id ≤ 4611686018427387903)) := by
  unfold validB cancelCue
  simp
theorem cancel_edit (l : List Cue) (id : Int) : editL l (cancelCue id) = l.filter fun x => decide (x.id ≠ id) := by
  rw [editL_ed]
  exact ed_cancel (cancelCue id) l
set_option maxHeartbeats 4000000 in
set_option maxRecDepth 100000 in
theorem walkCancelled (W : World) (oa : Option Addr) (cap : Nat) (l : List Cue) (id f : Int) (hok : ∀ c ∈ l, c.Ok) (hl : l.length ≤ maxLen) (hr : RdC W oa l) (hid0 : -9223372036854775808 ≤ id) (hid1 : id ≤ 9223372036854775807) :
    Calls Try.prog 10 #[.slice oa l.length cap, .int .i64 id, .int .i64 f] W fun e w' => e = .returned (.bool true) ∧ Below W.heap.size W w' := by
  have HR := Lib.hid hr
  have HOK := Lib.hid hok
  clear hr hok
  go_enter Try.func10, Try.ntmps10
  go_wp2_with fail
  refine (sane_any W).mono ?_
  rintro e w1 ⟨rfl, hb1⟩
  go_wp2_with fail
  refine (cut_any w1 oa cap l HOK.out hl (HR.out.kept hb1)).mono ?_
  have hll := cutC_len l
  generalize cutC l = L0 at hll ⊢
  rintro e w2 ⟨ol, cl, rfl, ho2, hb2⟩
  obtain ⟨m, hm1, hm2, hm3⟩ : ∃ m : Nat, m ≤ L0.length ∧ m ≤ 200 ∧ (if (200 : Int) < (L0.length : Int) then (200 : Int) else (L0.length : Int)) = (m : Int) := ⟨min 200 L0.length, by omega, by omega, by split <;> omega⟩
  have HL2 := Lib.hid ((own_rdc ho2).2.take m)
  have hcap := own_cap ho2
  have HB2 := Lib.hid (bstep hb1 hb2)
  have hmc : (m : Int) ≤ cl := by omega
  have hm0 : (0 : Int) ≤ m := by omega
  clear hb1 hb2 ho2 HR HOK hl
  have hLm : (L0.take m).length = m := by rw [List.length_take]; omega
  obtain ⟨L, hL⟩ : ∃ L, L0.take m = L := ⟨_, rfl⟩
  rw [hL] at HL2 hLm
  clear hL
  go_wp2_with fail
  obtain rfl : m = L.length := hLm.symm
  refine (edit_any w2 ol cl L (cancelCue id) (cancel_ok id hid0 hid1) (by omega) HL2.out).mono ?_
  have hed := cancel_edit L id
  have hel : (editL L (cancelCue id)).length ≤ 200 := by
    rw [hed]
    have := List.length_filter_le (fun x : Cue => decide (x.id ≠ id)) L
    omega
  by_cases hv : 1 ≤ id ∧ id ≤ 4611686018427387903
  · have hva : editOk L (cancelCue id) = true := by
      unfold editOk
      rw [cancel_valid, decide_eq_true hv.1, decide_eq_true hv.2, decide_eq_true hel]
      rfl
    rw [show editR L (cancelCue id) = L.filter fun x => decide (x.id ≠ id) from by unfold editR; rw [if_pos hva, hed], show editE L (cancelCue id) = 0 from by unfold editE; rw [if_pos hva]]
    have hca := active_cancel L f id
    have hfl := List.length_filter_le (fun x : Cue => decide (x.id ≠ id)) L
    generalize (L.filter fun x => decide (x.id ≠ id)) = M at hca hfl ⊢
    obtain ⟨hv1, hv2⟩ := hv
    have hv3 : ¬ id < 1 := by omega
    clear hva hed hel
    rintro e w3 ⟨om, cm, rfl, ho3, hb3⟩
    have HL3 := Lib.hid (HL2.out.kept hb3)
    have HM3 := Lib.hid (own_rdc ho3).2
    have HB3 := Lib.hid (bstep HB2.out hb3)
    clear ho3 hb3 HL2 HB2
    go_wp2_with fail
    refine (active_any w3 ol cl L f (by omega) HL3.out).mono ?_
    generalize activeL L f = o at hca ⊢
    rintro e w4 ⟨rfl, hb4⟩
    have HM4 := Lib.hid (HM3.out.kept hb4)
    have HB4 := Lib.hid (bstep HB3.out hb4)
    clear hb4 HM3 HB3 HL3
    have hxe : ∃ x, x = o.getD cue0 := ⟨_, rfl⟩
    obtain ⟨x, hx⟩ := hxe
    rw [← hx]
    have HXX := Lib.hid hx
    have HCA := Lib.hid hca
    clear hx hca
    go_wp2_with fail
    refine (active_any (w4.alloc (.cells #[.int .i64 x.id, .int .i64 x.fr, .int .i64 x.to, .int .i64 x.pr, .string x.tx] 24)) om cm M f (by omega) (HM4.out.kept ((Below.refl _ w4).alloc (Nat.le_refl _) _))).mono ?_
    obtain ⟨r, hr⟩ : ∃ r, activeL M f = r := ⟨_, rfl⟩
    have hca := HCA.out
    rw [hr] at hca ⊢
    clear hr HCA
    have hx := HXX.out
    obtain ⟨y, hy⟩ : ∃ y, y = r.getD cue0 := ⟨_, rfl⟩
    rw [← hy]
    rintro e w5 ⟨rfl, hb5⟩
    have hxb : Blk (w4.alloc (.cells #[.int .i64 x.id, .int .i64 x.fr, .int .i64 x.to, .int .i64 x.pr, .string x.tx] 24)) w4.heap.size 24 x.cells := Blk.new w4 24 x.cells
    have HX5 : Hid (Blk (w5.alloc (.cells #[.int .i64 y.id, .int .i64 y.fr, .int .i64 y.to, .int .i64 y.pr, .string y.tx] 24)) w4.heap.size 24 x.cells) := (hxb.kept (hb5.block _ hxb.lt)).alloc _
    have HY5 : Hid (Blk (w5.alloc (.cells #[.int .i64 y.id, .int .i64 y.fr, .int .i64 y.to, .int .i64 y.pr, .string y.tx] 24)) w5.heap.size 24 y.cells) := Blk.new w5 24 y.cells
    have hB5 := bstep (HB4.out.alloc HB4.out.size (.cells #[.int .i64 x.id, .int .i64 x.fr, .int .i64 x.to, .int .i64 x.pr, .string x.tx] 24)) hb5
    have HB5 := Lib.hid (hB5.alloc hB5.size (.cells #[.int .i64 y.id, .int .i64 y.fr, .int .i64 y.to, .int .i64 y.pr, .string y.tx] 24))
    clear hb5 hxb hB5 HM4 HB4
    obtain ⟨x0, x1, x2, x3, x4⟩ := cue_cells HX5.out
    obtain ⟨y0, y1, y2, y3, y4⟩ := cue_cells HY5.out
    clear HX5 HY5
    by_cases hxi : x.id = id
    · have hxi' : (x.id != id) = false := by rw [hxi]; simp
      cases o with
      | none =>
        rw [hx] at hxi
        have : (0 : Int) = id := hxi
        omega
      | some x' =>
        obtain rfl : x = x' := hx
        cases r with
        | none =>
          clear hca hxi hy
          dsimp only [Option.isSome_none, Option.isSome_some]
          go_wp2_with fail
          go_ret
          exact ⟨rfl, HB5.out⟩
        | some y' =>
          obtain rfl : y = y' := hy
          obtain ⟨h1, h2⟩ := hca.2 hxi y rfl
          have h1' : (y.id != id) = true := by simpa using h1
          unfold bet at h2
          have h2' : y.pr ≤ x.pr := by omega
          clear hca hxi h1 h2
          dsimp only [Option.isSome_some]
          go_wp2_with fail
          go_ret
          exact ⟨rfl, HB5.out⟩
    · have hxi' : (x.id != id) = true := by simpa using hxi
      have hor : r = o := by
        cases o with
        | none => exact hca
        | some x' =>
          obtain rfl : x = x' := hx
          exact hca.1 hxi
      have hyx : y = x := by rw [hy, hx, hor]
      subst hor
      clear hca hxi hy hx
      subst hyx
      generalize r.isSome = bb
      have hbb : (bb == bb) = true := by simp
      go_wp2_with fail
      refine (sameCue_any y y _).mono ?_
      rw [decide_eq_true rfl]
      rintro e w6 ⟨rfl, hb6⟩
      have HB6 := Lib.hid (bstep HB5.out hb6)
      clear hb6 x0 x1 x2 x3 x4 y0 y1 y2 y3 y4
      go_wp2_with fail
      go_ret
      exact ⟨rfl, HB6.out⟩
  · have hva : editOk L (cancelCue id) = false := by
      unfold editOk
      rw [cancel_valid, Bool.eq_false_iff]
      intro h
      simp only [Bool.and_eq_true, decide_eq_true_eq] at h
      exact hv h.1
    rw [show editE L (cancelCue id) = 150 from by unfold editE; rw [if_neg (by rw [hva]; decide)]]
    clear hva hed hel
    rintro e w3 ⟨om, cm, rfl, ho3, hb3⟩
    have HB3 := Lib.hid (bstep HB2.out hb3)
    clear ho3 hb3 HL2 HB2
    rcases (show id < 1 ∨ (1 ≤ id ∧ 4611686018427387903 < id) from by omega) with q1 | ⟨q1, q2⟩
    all_goals
      clear hv
      go_wp2_with fail
      go_ret
      exact ⟨rfl, HB3.out⟩
end Go.Proofs.Ytjmfhdnckgelaaa
