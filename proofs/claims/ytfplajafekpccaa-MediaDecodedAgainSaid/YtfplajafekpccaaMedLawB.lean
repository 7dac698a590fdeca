/-
  The walk of the law MediaDecodedAgain.
-/
import Derived.WalkKit
import Derived.LoopTactic
import Derived.WalkSpells
import Derived.WalkLawsBesides
import Derived.RegionTactic
import Derived.BigRegion
import Derived.Deep.QuietTactic
import Derived.Deep.RegionHeld3
import Derived.BigQuiet
import Derived.IntWalk
import Derived.Outline
import Derived.Test.YtfplajafekpccaaMedN
set_option linter.unusedVariables false
set_option linter.unusedSimpArgs false
namespace Go.Proofs.Ytfplajafekpccaa
open Go.RowKit Onair
set_option maxHeartbeats 4000000 in
set_option maxRecDepth 100000 in
theorem walkDecodedAgain (W : World) (s : ByteArray) (hs : s.size ≤ maxLen) :
    Calls Try.prog 8 #[.string s] W fun e w' => e = .returned (.bool true) ∧ Below W.heap.size W w' := by
  unfold maxLen at hs
  obtain ⟨m, T, h1, h2, h3, h4⟩ : ∃ (m : Nat) (T : ByteArray), m ≤ s.size ∧ T.size ≤ 20000 ∧ (if (20000 : Int) < (s.size : Int) then (20000 : Int) else (s.size : Int)) = (m : Int) ∧ s.extract 0 m = T := ⟨min 20000 s.size, _, by omega, by simp; omega, by split <;> omega, rfl⟩
  have h3' : min (s.size : Int) 20000 = (m : Int) := by split at h3 <;> omega
  go_enter Try.func8, Try.ntmps8
  go_wp2_with fail
  refine (sane_any _).mono ?_
  rintro e w1 ⟨rfl, hb1⟩
  have HB1 := Lib.hid hb1
  clear hb1
  go_wp2_with fail
  clear h3 h3' h4
  refine (decode_any T w1 (by unfold maxLen; omega)).mono ?_
  rcases hD : decR T.data.toList with c | ⟨i, l⟩
  · have hc := decR_err _ _ hD
    clear hD
    rintro e w2 ⟨rfl, hb2⟩
    have HB2 := Lib.hid ((bstep HB1.out hb2).alloc (bstep HB1.out hb2).size (.cells #[.int .i64 0, .slice none 0 0] 24))
    clear hb2 HB1
    rcases hc with rfl | rfl
    all_goals
      go_wp2_with fail
      go_ret
      exact ⟨rfl, HB2.out⟩
  · obtain ⟨hv, he⟩ := decR_back _ _ _ hD
    clear hD
    rintro e w2 ⟨oa, cap, rfl, hrd, hb2⟩
    have hb3 : Below w2.heap.size w2 (w2.alloc (.cells #[.int .i64 i, .slice oa l.length cap] 24)) := (Below.refl _ w2).alloc (Nat.le_refl _) _
    have HB3 := Lib.hid (bstep (bstep HB1.out hb2) hb3)
    have HRD := Lib.hid (hrd.kept hb3)
    have HK := Lib.hid (Blk.new w2 24 [.int .i64 i, .slice oa l.length cap])
    have HV := Lib.hid hv
    have hln := (validA_parts hv).2.2.2.1
    have HPK := Lib.hid (valid_pok hv)
    have hT : (⟨(encR i l).toArray⟩ : ByteArray) = T := by
      rw [encR_ok hv, ← he]
    have HT := Lib.hid hT
    clear hb2 hb3 hrd HB1 he hT hv
    go_wp2_with fail
    refine (encode_any i oa cap l _ (by unfold maxLen; omega) HPK.out HRD.out).mono ?_
    rw [HT.out, encE_ok HV.out]
    rintro e w3 ⟨rfl, hb4⟩
    have HB4 := Lib.hid (bstep HB3.out hb4)
    have HK4 := Lib.hid (HK.out.kept (hb4.block _ HK.out.lt))
    have HRD4 := Lib.hid (HRD.out.kept hb4)
    have c0 := HK4.out.cell 0
    have c1 := HK4.out.cell 1
    simp only [List.getElem?_cons_zero, List.getElem?_cons_succ] at c0 c1
    clear hb4 HB3 HK HRD HT
    go_wp2_with fail
    refine (valid_any i oa cap l w3 (by unfold maxLen; omega) HPK.out HRD4.out).mono ?_
    rw [HV.out]
    rintro e w4 ⟨rfl, hb5⟩
    have HB5 := Lib.hid (bstep HB4.out hb5)
    clear hb5 c0 c1
    go_wp2_with fail
    go_ret
    exact ⟨rfl, HB5.out⟩
end Go.Proofs.Ytfplajafekpccaa
