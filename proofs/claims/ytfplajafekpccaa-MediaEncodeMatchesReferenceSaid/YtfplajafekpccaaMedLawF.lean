/-
  The walk of the law MediaEncodeMatchesReference.
-/
import Derived.WalkKit
import Derived.LoopTactic
import Derived.WalkSpells
import Derived.WalkLawsBesides
import Derived.RegionTactic
import Derived.BigRegion
import Derived.Deep.QuietTactic
import Derived.Deep.RegionHeld3
import Derived.BigQuiet
import Derived.IntWalk
import Derived.Outline
import Derived.Test.YtfplajafekpccaaMedRE
set_option linter.unusedVariables false
set_option linter.unusedSimpArgs false
namespace Go.Proofs.Ytfplajafekpccaa
open Go.RowKit Onair
set_option maxHeartbeats 4000000 in
set_option maxRecDepth 100000 in
theorem walkEncodeMatches (W : World) (i : Int) (oa : Option Addr) (cap : Nat) (l : List Pic) (hl : l.length ≤ maxLen) (hok : ∀ p ∈ l, POk p) (hr : RdP W oa l) :
    Calls Try.prog 4 #[.agg #[.int .i64 i, .slice oa l.length cap]] W fun e w' => e = .returned (.bool true) ∧ Below W.heap.size W w' := by
  obtain ⟨r, hr0⟩ : ∃ r, W.heap.size = r := ⟨_, rfl⟩
  have H0 := Lib.hid (AM.new W r i oa cap l hr0 hr)
  have HR0 := Lib.hid hr0
  have HOK := Lib.hid hok
  have HL := Lib.hid hl
  obtain ⟨n, hn⟩ : ∃ n, l.length = n := ⟨_, rfl⟩
  rw [hn] at H0 ⊢
  have HN := Lib.hid hn
  clear hr hr0 hok hl hn
  go_enter Try.func4, Try.ntmps4
  go_wp2_with fail
  rw [HR0.out]
  refine (sane_any _).mono ?_
  rintro e w1 ⟨rfl, hb1⟩
  have H1 := Lib.hid (H0.out.below hb1)
  have c0 := H1.out.blk.cell 0
  have c1 := H1.out.blk.cell 1
  simp only [List.getElem?_cons_zero, List.getElem?_cons_succ, HN.out] at c0 c1
  clear hb1 H0
  go_wp2_with fail
  rw [← HN.out]
  refine (short_any w1 i oa cap l HL.out HOK.out H1.out.rd).mono ?_
  have hll := cutP_len l
  have hko := cutP_ok l HOK.out
  generalize cutP l = L at hll hko ⊢
  have HKO := Lib.hid hko
  rintro e w2 ⟨oL, cL, rfl, ho2, hb2⟩
  have H2 := Lib.hid (H1.out.put HR0.out ho2 hb2)
  have hk2 := (H1.out.below hb2).blk
  have d0 := hk2.cell 0
  have f0 := hk2.frozen 0
  have d1 := (hk2.set 0 (.int .i64 i)).cell 1
  have f1 := (hk2.set 0 (.int .i64 i)).frozen 1
  have e0 := H2.out.blk.cell 0
  have e1 := H2.out.blk.cell 1
  simp only [List.getElem?_cons_zero, List.getElem?_cons_succ, List.set_cons_zero, List.set_cons_succ, HN.out] at d0 d1 e0 e1
  clear hk2 ho2 hb2 hko c0 c1 H1
  go_wp2_with fail
  refine (encode_any i oL cL L _ (by unfold maxLen; omega) HKO.out H2.out.rd).mono ?_
  obtain ⟨S, hS⟩ : ∃ S : ByteArray, (⟨(encR i L).toArray⟩ : ByteArray) = S := ⟨_, rfl⟩
  obtain ⟨c, hc⟩ : ∃ c : Int, encE i L = c := ⟨_, rfl⟩
  rw [hS, hc]
  have HS := Lib.hid hS
  have HC := Lib.hid hc
  clear hS hc
  rintro e w3 ⟨rfl, hb3⟩
  have H3 := Lib.hid (H2.out.below hb3)
  clear d0 d1 f0 f1 e0 e1 hb3 H2
  have c0 := H3.out.blk.cell 0
  have c1 := H3.out.blk.cell 1
  simp only [List.getElem?_cons_zero, List.getElem?_cons_succ] at c0 c1
  go_wp2_with fail
  refine (refEncode_any i oL cL L w3 (by unfold maxLen; omega) HKO.out H3.out.rd).mono ?_
  rw [HS.out, HC.out]
  rintro e w4 ⟨rfl, hb4⟩
  have HB4 := Lib.hid (bstep H3.out.bel hb4)
  clear c0 c1 hb4 H3 HS HC
  have hcc : (c == c) = true := by simp
  go_wp2_with fail
  go_ret
  exact ⟨rfl, HB4.out⟩
end Go.Proofs.Ytfplajafekpccaa
