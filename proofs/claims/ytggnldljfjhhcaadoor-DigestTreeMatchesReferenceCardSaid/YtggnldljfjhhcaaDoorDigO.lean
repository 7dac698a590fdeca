/-
  The fixed calls of the laws of package digest: sane.
-/
import Derived.WalkKit
import Derived.LoopTactic
import Derived.WalkSpells
import Derived.WalkLawsBesides
import Derived.IntWalk
import Derived.Outline
import Derived.Deep.QuietTactic
import Derived.BigQuiet
import Derived.Deep.RegionLaw
import Derived.Deep.RegionHeld3
import Derived.Deep.DrawnRows
import Derived.Deep.AppendLies
import Derived.Laws.EntriesVeiled
import Derived.Lib.Hide
import Derived.Laws.OwnMore
import Derived.Test.YtggnldljfjhhcaaDoorDigSha
import Derived.Test.YtggnldljfjhhcaaDoorDigH
import Derived.Test.YtggnldljfjhhcaaDoorDigJ
import Derived.Test.YtggnldljfjhhcaaDoorDigM
import Derived.Test.YtggnldljfjhhcaaDoorDigN
set_option linter.unusedVariables false
set_option linter.unusedSimpArgs false
namespace Go.Proofs.YtggnldljfjhhcaaDoor
open Go.RowKit Onair
attribute [local go_sem ↓] Go.wp_at_zero Go.wp_at_succ
abbrev pA : ByteArray := ⟨#[97]⟩
abbrev pB : ByteArray := ⟨#[98]⟩
abbrev pC : ByteArray := ⟨#[99]⟩
abbrev pD : ByteArray := ⟨#[100]⟩
abbrev L3 : List ByteArray := [pA, pB, pC]
theorem split3 : splitN 3 = 2 := by decide
theorem split2 : splitN 2 = 1 := by decide
theorem root_ab : rootL [pA, pB] = nodeB (leafB pA) (leafB pB) := by
  rw [rootL_two _ (by decide), show ([pA, pB] : List ByteArray).length = 2 from rfl, split2]
  rfl
theorem root_3 : rootL L3 = nodeB (nodeB (leafB pA) (leafB pB)) (leafB pC) := by
  rw [rootL_two _ (by decide), show L3.length = 3 from rfl, split3, show L3.take 2 = [pA, pB] from rfl, root_ab]
  rfl
theorem proof_3 : proofL L3 2 = [nodeB (leafB pA) (leafB pB)] := by
  rw [proofL_two _ _ (by decide), show L3.length = 3 from rfl, split3, if_neg (by decide), show L3.take 2 = [pA, pB] from rfl, root_ab, show L3.drop 2 = [pC] from rfl, proofL_one _ _ (by decide)]
  rfl
theorem ext_3 : extL L3 1 true = [leafB pB, leafB pC] := by
  rw [extL_two _ _ _ (by decide) (by decide), show L3.length = 3 from rfl, split3, if_pos (by decide), show L3.take 2 = [pA, pB] from rfl, show L3.drop 2 = [pC] from rfl, rootL_one,
    extL_two _ _ _ (by decide) (by decide), show ([pA, pB] : List ByteArray).length = 2 from rfl, split2, if_pos (by decide), show ([pA, pB] : List ByteArray).take 1 = [pA] from rfl, show ([pA, pB] : List ByteArray).drop 1 = [pB] from rfl, rootL_one]
  have := extL_all [pA] true
  rw [show ([pA] : List ByteArray).length = 1 from rfl] at this
  rw [this]
  rfl
theorem ver_yes : verB (rootL L3) 3 2 pC [nodeB (leafB pA) (leafB pB)] = true := by
  have := proof_ver L3 2 (by decide)
  rw [proof_3] at this
  exact this
theorem val_3 (R s : ByteArray) : valR [R] 3 2 s = (nodeB R (leafB s), true) := by
  unfold valR
  rw [if_neg (by decide), split3, if_neg (by decide)]
  rfl
theorem ver_no : verB (rootL L3) 3 2 pD [nodeB (leafB pA) (leafB pB)] = false := by
  unfold verB
  rw [show ([nodeB (leafB pA) (leafB pB)] : List ByteArray).reverse = [nodeB (leafB pA) (leafB pB)] from rfl, val_3, root_3, leaf_a, leaf_b, leaf_c, leaf_d, node_ab, node_abd, node_abc]
  decide +kernel
theorem verx_yes : verXB (rootL [pA]) 1 (rootL L3) 3 [leafB pB, leafB pC] = true := by
  have := ext_ver L3 1 (by decide)
  rw [if_neg (by decide), ext_3] at this
  exact this
theorem vals_3 (old : ByteArray) : valsR [leafB pC, leafB pB] old 1 3 true = (old, nodeB (nodeB old (leafB pB)) (leafB pC), true) := by
  have h1 : valsR [] old 1 1 true = (old, old, true) := by unfold valsR; rw [if_pos rfl, if_pos rfl]
  have h2 : valsR [leafB pB] old 1 2 true = (old, nodeB old (leafB pB), true) := by
    unfold valsR
    rw [if_neg (by decide), split2, if_pos (by decide), h1]
  unfold valsR
  rw [if_neg (by decide), split3, if_pos (by decide), h2]
theorem verx_no : verXB (rootL [pA, pB]) 1 (rootL L3) 3 [leafB pB, leafB pC] = false := by
  unfold verXB
  rw [if_neg (by decide), show ([leafB pB, leafB pC] : List ByteArray).reverse = [leafB pC, leafB pB] from rfl, vals_3, root_3, root_ab]
  rw [leaf_a, leaf_b, leaf_c, node_ab, node_abb, node_abbc, node_abc]
  decide +kernel
theorem hex_e : (⟨(hexL (shaB ⟨#[]⟩).data.toList).toArray⟩ : ByteArray) = ⟨#[101, 51, 98, 48, 99, 52, 52, 50, 57, 56, 102, 99, 49, 99, 49, 52, 57, 97, 102, 98, 102, 52, 99, 56, 57, 57, 54, 102, 98, 57, 50, 52, 50, 55, 97, 101, 52, 49, 101, 52, 54, 52, 57, 98, 57, 51, 52, 99, 97, 52, 57, 53, 57, 57, 49, 98, 55, 56, 53, 50, 98, 56, 53, 53]⟩ := by rw [sum_e]; kernel_rfl
theorem hex_abc : (⟨(hexL (shaB ⟨#[97, 98, 99]⟩).data.toList).toArray⟩ : ByteArray) = ⟨#[98, 97, 55, 56, 49, 54, 98, 102, 56, 102, 48, 49, 99, 102, 101, 97, 52, 49, 52, 49, 52, 48, 100, 101, 53, 100, 97, 101, 50, 50, 50, 51, 98, 48, 48, 51, 54, 49, 97, 51, 57, 54, 49, 55, 55, 97, 57, 99, 98, 52, 49, 48, 102, 102, 54, 49, 102, 50, 48, 48, 49, 53, 97, 100]⟩ := by rw [sum_abc]; kernel_rfl
/-- What the calls of sane leave. -/
structure SN (w : World) (B0 : Nat) (W : World) : Prop where
  l : RdB W B0 0 L3
  tab : TabAt W
  bel : Below w.heap.size w W
theorem SN.next {w : World} {B0 : Nat} {W W' : World} (h : SN w B0 W) (hb : Below W.heap.size W W') : SN w B0 W' := ⟨h.l.kept hb, h.tab.below hb, h.bel.trans (hb.mono h.bel.size)⟩
theorem sz3 : SzB 300000000 L3 := fun x hx => by
  simp only [L3, List.mem_cons, List.not_mem_nil, or_false] at hx
  rcases hx with rfl | rfl | rfl <;> decide
set_option maxHeartbeats 4000000 in
set_option maxRecDepth 100000 in
theorem sane_any (w : World) (ht : TabAt w) : Calls Tryd.prog 10 #[] w fun e w' => e = .returned (.bool true) ∧ Below w.heap.size w w' := by
  have hb0 : Below w.heap.size w (w.alloc (.cells #[.string pA, .string pB, .string pC] 9)) := (Below.refl _ w).alloc (Nat.le_refl _) _
  have hs0 : SN w w.heap.size (w.alloc (.cells #[.string pA, .string pB, .string pC] 9)) :=
    ⟨⟨by simp, fun j x hj => cells_new w L3 9 j x hj⟩, ht.below hb0, hb0⟩
  have HS0 := Lib.hid hs0
  have HP := Lib.hid proof_3
  have HX := Lib.hid ext_3
  obtain ⟨R1, hR1⟩ : ∃ R1, nodeB (leafB pA) (leafB pB) = R1 := ⟨_, rfl⟩
  obtain ⟨lb, hlb⟩ : ∃ lb, leafB pB = lb := ⟨_, rfl⟩
  obtain ⟨lc, hlc⟩ : ∃ lc, leafB pC = lc := ⟨_, rfl⟩
  obtain ⟨B0, hB0⟩ : ∃ B0, w.heap.size = B0 := ⟨_, rfl⟩
  have V1 := Lib.hid ver_yes
  have V2 := Lib.hid ver_no
  have X1 := Lib.hid verx_yes
  have X2 := Lib.hid verx_no
  rw [hR1] at HP V1 V2
  rw [hlb, hlc] at HX X1 X2
  obtain ⟨R, hR⟩ : ∃ R, rootL L3 = R := ⟨_, rfl⟩
  obtain ⟨RA, hRA⟩ : ∃ RA, rootL [pA] = RA := ⟨_, rfl⟩
  obtain ⟨RB, hRB⟩ : ∃ RB, rootL [pA, pB] = RB := ⟨_, rfl⟩
  rw [hR] at V1 V2 X1 X2
  rw [hRA] at X1
  rw [hRB] at X2
  rw [hB0] at HS0
  have HR := Lib.hid hR
  have HRA := Lib.hid hRA
  have HRB := Lib.hid hRB
  have HBB := Lib.hid hB0
  clear hR1 hlb hlc hb0 hs0 ht hR hRA hRB hB0
  go_enter Tryd.func10, Tryd.ntmps10
  go_wp2_with fail
  rw [HBB.out]
  generalize w.alloc (.cells #[.string pA, .string pB, .string pC] 9) = w0 at HS0 ⊢
  refine (proof_in L3 B0 0 3 3 2 w0 rfl (by decide) (by decide) (by decide) (by decide) sz3 HS0.out.l HS0.out.tab).mono ?_
  rw [HP.out]
  rintro e w1 ⟨o1, c1, rfl, hc1, hm1, hr1, hb1⟩
  have HS1 := Lib.hid (HS0.out.next hb1)
  have H1 := Lib.hid hr1
  clear hr1 hb1
  go_wp2_with fail
  refine (ext_in L3 B0 0 3 3 1 w1 rfl (by decide) (by decide) (by decide) (by decide) (by decide) sz3 HS1.out.l HS1.out.tab).mono ?_
  rw [HX.out]
  rintro e w2 ⟨o2, c2, rfl, hc2, hm2, hr2, hb2⟩
  have HS2 := Lib.hid (HS1.out.next hb2)
  have H12 := Lib.hid (H1.out.kept hb2)
  have H2 := Lib.hid hr2
  clear hr2 hb2
  go_wp2_with fail
  refine (proof_out _ 3 3 3 w2 (by decide) (.inr (by decide))).mono ?_
  rintro e w3 ⟨rfl, rfl⟩
  go_wp2_with fail
  refine (root_any 3 L3 _ 3 3 w2 (by decide) rfl (by decide) (by decide) (by decide) sz3 HS2.out.l.rds HS2.out.tab).mono ?_
  rw [HR.out]
  rintro e w3 ⟨rfl, hb3⟩
  have HS3 := Lib.hid (HS2.out.next hb3)
  have H13 := Lib.hid (H12.out.kept hb3)
  have H23 := Lib.hid (H2.out.kept hb3)
  clear hb3
  go_wp2_with fail
  refine (sum_any ⟨#[]⟩ w3 (by decide) HS3.out.tab).mono ?_
  rintro e w4 ⟨rfl, hb4⟩
  have HS4 := Lib.hid (HS3.out.next hb4)
  have H14 := Lib.hid (H13.out.kept hb4)
  have H24 := Lib.hid (H23.out.kept hb4)
  clear hb4
  go_wp2_with fail
  refine (hex_any _ w4 (by rw [shaB_size]; decide)).mono ?_
  rw [hex_e]
  rintro e w5 ⟨rfl, hb5⟩
  have HS5 := Lib.hid (HS4.out.next hb5)
  have H15 := Lib.hid (H14.out.kept hb5)
  have H25 := Lib.hid (H24.out.kept hb5)
  clear hb5
  go_wp2_with fail
  refine (sum_any ⟨#[97, 98, 99]⟩ w5 (by decide) HS5.out.tab).mono ?_
  rintro e w6 ⟨rfl, hb6⟩
  have HS6 := Lib.hid (HS5.out.next hb6)
  have H16 := Lib.hid (H15.out.kept hb6)
  have H26 := Lib.hid (H25.out.kept hb6)
  clear hb6
  go_wp2_with fail
  refine (hex_any _ w6 (by rw [shaB_size]; decide)).mono ?_
  rw [hex_abc]
  rintro e w7 ⟨rfl, hb7⟩
  have HS7 := Lib.hid (HS6.out.next hb7)
  have H17 := Lib.hid (H16.out.kept hb7)
  have H27 := Lib.hid (H26.out.kept hb7)
  clear hb7
  go_wp2_with fail
  refine (verify_in R 3 2 pC o1 [R1] c1 w7 (by decide) (by decide) (by decide) (by simp) hc1 hm1 H17.out HS7.out.tab).mono ?_
  rw [V1.out]
  rintro e w8 ⟨rfl, hb8⟩
  have HS8 := Lib.hid (HS7.out.next hb8)
  have H18 := Lib.hid (H17.out.kept hb8)
  have H28 := Lib.hid (H27.out.kept hb8)
  clear hb8
  go_wp2_with fail
  refine (verify_in R 3 2 pD o1 [R1] c1 w8 (by decide) (by decide) (by decide) (by simp) hc1 hm1 H18.out HS8.out.tab).mono ?_
  rw [V2.out]
  rintro e w9 ⟨rfl, hb9⟩
  have HS9 := Lib.hid (HS8.out.next hb9)
  have H29 := Lib.hid (H28.out.kept hb9)
  clear hb9
  go_wp2_with fail
  refine (root_any 1 [pA] _ 1 3 w9 (by decide) rfl (by decide) (by decide) (by decide) (sz3.take 1) (HS9.out.l.take 1).rds HS9.out.tab).mono ?_
  rw [HRA.out]
  rintro e wa ⟨rfl, hba⟩
  have HSa := Lib.hid (HS9.out.next hba)
  have H2a := Lib.hid (H29.out.kept hba)
  clear hba
  go_wp2_with fail
  refine (verx_in RA R 3 1 o2 [lb, lc] c2 wa (by decide) (by decide) (by simp) hc2 hm2 H2a.out HSa.out.tab).mono ?_
  rw [X1.out]
  rintro e wb ⟨rfl, hbb⟩
  have HSb := Lib.hid (HSa.out.next hbb)
  have H2b := Lib.hid (H2a.out.kept hbb)
  clear hbb
  go_wp2_with fail
  refine (root_any 2 [pA, pB] _ 2 3 wb (by decide) rfl (by decide) (by decide) (by decide) (sz3.take 2) (HSb.out.l.take 2).rds HSb.out.tab).mono ?_
  rw [HRB.out]
  rintro e wc ⟨rfl, hbc⟩
  have HSc := Lib.hid (HSb.out.next hbc)
  have H2c := Lib.hid (H2b.out.kept hbc)
  clear hbc
  go_wp2_with fail
  refine (verx_in RB R 3 1 o2 [lb, lc] c2 wc (by decide) (by decide) (by simp) hc2 hm2 H2c.out HSc.out.tab).mono ?_
  rw [X2.out]
  rintro e wd ⟨rfl, hbd⟩
  have HSd := Lib.hid (HSc.out.next hbd)
  clear hbd
  go_wp2_with fail
  go_ret
  exact ⟨rfl, HSd.out.bel⟩
end Go.Proofs.YtggnldljfjhhcaaDoor
