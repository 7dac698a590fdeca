/-
  The walk of the law MediaRoundTrip.
-/
import Derived.WalkKit
import Derived.LoopTactic
import Derived.WalkSpells
import Derived.WalkLawsBesides
import Derived.RegionTactic
import Derived.BigRegion
import Derived.Deep.QuietTactic
import Derived.BigQuiet
import Derived.IntWalk
import Derived.Outline
import Derived.Test.YtfplajafekpccaaMedN
set_option linter.unusedVariables false
set_option linter.unusedSimpArgs false
namespace Go.Proofs.Ytfplajafekpccaa
open Go.RowKit Onair
set_option maxHeartbeats 4000000 in
set_option maxRecDepth 100000 in
theorem walkRoundTrip (W : World) (i : Int) (oa : Option Addr) (cap : Nat) (l : List Pic) (hl : l.length ≤ maxLen) (hok : ∀ p ∈ l, POk p) (hr : RdP W oa l) :
    Calls Try.prog 7 #[.agg #[.int .i64 i, .slice oa l.length cap]] W fun e w' => e = .returned (.bool true) ∧ Below W.heap.size W w' := by
  obtain ⟨r, hr0⟩ : ∃ r, W.heap.size = r := ⟨_, rfl⟩
  have H0 := Lib.hid (AM.new W r i oa cap l hr0 hr)
  have HR0 := Lib.hid hr0
  have HOK := Lib.hid hok
  have HL := Lib.hid hl
  obtain ⟨n, hn⟩ : ∃ n, l.length = n := ⟨_, rfl⟩
  rw [hn] at H0 ⊢
  have HN := Lib.hid hn
  clear hr hr0 hok hl hn
  go_enter Try.func7, Try.ntmps7
  go_wp2_with fail
  rw [HR0.out]
  refine (sane_any _).mono ?_
  rintro e w1 ⟨rfl, hb1⟩
  have H1 := Lib.hid (H0.out.below hb1)
  have c0 := H1.out.blk.cell 0
  have c1 := H1.out.blk.cell 1
  simp only [List.getElem?_cons_zero, List.getElem?_cons_succ, HN.out] at c0 c1
  clear hb1 H0
  go_wp2_with fail
  rw [← HN.out]
  refine (short_any w1 i oa cap l HL.out HOK.out H1.out.rd).mono ?_
  have hll := cutP_len l
  have hko := cutP_ok l HOK.out
  generalize cutP l = L at hll hko ⊢
  have HKO := Lib.hid hko
  rintro e w2 ⟨oL, cL, rfl, ho2, hb2⟩
  have H2 := Lib.hid (H1.out.put HR0.out ho2 hb2)
  have hk2 := (H1.out.below hb2).blk
  have d0 := hk2.cell 0
  have f0 := hk2.frozen 0
  have d1 := (hk2.set 0 (.int .i64 i)).cell 1
  have f1 := (hk2.set 0 (.int .i64 i)).frozen 1
  have e0 := H2.out.blk.cell 0
  have e1 := H2.out.blk.cell 1
  simp only [List.getElem?_cons_zero, List.getElem?_cons_succ, List.set_cons_zero, List.set_cons_succ, HN.out] at d0 d1 e0 e1
  clear hk2 ho2 hb2 hko c0 c1 H1
  go_wp2_with fail
  refine (encode_any i oL cL L _ (by unfold maxLen; omega) HKO.out H2.out.rd).mono ?_
  cases hv : validA i L
  · have HV := Lib.hid hv
    rw [encR_no hv, encE_no hv]
    clear hv
    rintro e w3 ⟨rfl, hb3⟩
    have H3 := Lib.hid (H2.out.below hb3)
    clear d0 d1 f0 f1 e0 e1 hb3 H2
    have c0 := H3.out.blk.cell 0
    have c1 := H3.out.blk.cell 1
    simp only [List.getElem?_cons_zero, List.getElem?_cons_succ] at c0 c1
    go_wp2_with fail
    refine (valid_any i oL cL L w3 (by unfold maxLen; omega) HKO.out H3.out.rd).mono ?_
    rw [HV.out]
    rintro e w4 ⟨rfl, hb4⟩
    have HB4 := Lib.hid (bstep H3.out.bel hb4)
    clear c0 c1 hb4 H3
    go_wp2_with fail
    go_ret
    exact ⟨rfl, HB4.out⟩
  · have HV := Lib.hid hv
    have hE2 := encA_len hv
    have hD := decR_enc i L hv
    rw [encR_ok hv, encE_ok hv]
    obtain ⟨E, hE⟩ : ∃ E : ByteArray, (⟨(encA i L).toArray⟩ : ByteArray) = E := ⟨_, rfl⟩
    have hEl : E.data.toList = encA i L := by rw [← hE]
    rw [← hEl, blen] at hE2
    rw [hE]
    rw [← hEl] at hD
    have HD := Lib.hid hD
    clear hv hE hEl hD
    rintro e w3 ⟨rfl, hb3⟩
    have H3 := Lib.hid (H2.out.below hb3)
    clear d0 d1 f0 f1 e0 e1 hb3 H2
    have c0 := H3.out.blk.cell 0
    have c1 := H3.out.blk.cell 1
    simp only [List.getElem?_cons_zero, List.getElem?_cons_succ] at c0 c1
    go_wp2_with fail
    refine (valid_any i oL cL L w3 (by unfold maxLen; omega) HKO.out H3.out.rd).mono ?_
    rw [HV.out]
    rintro e w4 ⟨rfl, hb4⟩
    have H4 := Lib.hid (H3.out.below hb4)
    clear c0 c1 hb4 H3
    go_wp2_with fail
    refine (decode_any E w4 (by unfold maxLen; omega)).mono ?_
    rw [HD.out]
    rintro e w5 ⟨oD, cD, rfl, hrd5, hb5⟩
    have hb6 : Below w5.heap.size w5 (w5.alloc (.cells #[.int .i64 i, .slice oD L.length cD] 24)) := (Below.refl _ w5).alloc (Nat.le_refl _) _
    have H6 := Lib.hid ((H4.out.below hb5).below hb6)
    have HRD6 := Lib.hid (hrd5.kept hb6)
    have HK6 := Lib.hid (Blk.new w5 24 [.int .i64 i, .slice oD L.length cD])
    have c0 := H6.out.blk.cell 0
    have c1 := H6.out.blk.cell 1
    have d0 := HK6.out.cell 0
    have d1 := HK6.out.cell 1
    simp only [List.getElem?_cons_zero, List.getElem?_cons_succ] at c0 c1 d0 d1
    clear hb5 hb6 hrd5 H4
    go_wp2_with fail
    refine (same_of _ i i oL oD cL cD L.length L.length L L true rfl rfl (sameA_self i L) (by omega) (by omega) H6.out.rd HRD6.out).mono ?_
    rintro e w7 ⟨rfl, hb7⟩
    have HB7 := Lib.hid (bstep H6.out.bel hb7)
    clear c0 c1 d0 d1 hb7
    go_wp2_with fail
    go_ret
    exact ⟨rfl, HB7.out⟩
end Go.Proofs.Ytfplajafekpccaa
