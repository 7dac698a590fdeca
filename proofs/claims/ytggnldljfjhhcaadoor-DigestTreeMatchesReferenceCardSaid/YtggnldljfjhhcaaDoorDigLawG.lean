/-
  The walk of the law DigestTreeMatchesReference.
-/
import Derived.WalkKit
import Derived.LoopTactic
import Derived.WalkSpells
import Derived.WalkLawsBesides
import Derived.IntWalk
import Derived.Outline
import Derived.Deep.QuietTactic
import Derived.BigQuiet
import Derived.Deep.RegionLaw
import Derived.Deep.RegionHeld3
import Derived.Deep.DrawnRows
import Derived.Deep.AppendLies
import Derived.Laws.EntriesVeiled
import Derived.Lib.Hide
import Derived.Laws.OwnMore
import Derived.Test.YtggnldljfjhhcaaDoorDigSha
import Derived.Test.YtggnldljfjhhcaaDoorDigH
import Derived.Test.YtggnldljfjhhcaaDoorDigJ
import Derived.Test.YtggnldljfjhhcaaDoorDigM
import Derived.Test.YtggnldljfjhhcaaDoorDigN
import Derived.Test.YtggnldljfjhhcaaDoorDigO
import Derived.Test.YtggnldljfjhhcaaDoorDigP
import Derived.Test.YtggnldljfjhhcaaDoorDigQ
import Derived.Test.YtggnldljfjhhcaaDoorDigR
import Derived.Test.YtggnldljfjhhcaaDoorDigLawB
import Derived.Test.YtggnldljfjhhcaaDoorDigLawC
import Derived.Test.YtggnldljfjhhcaaDoorDigRH
import Derived.Test.YtggnldljfjhhcaaDoorDigLawE
import Derived.Test.YtggnldljfjhhcaaDoorDigU
set_option linter.unusedVariables false
set_option linter.unusedSimpArgs false
namespace Go.Proofs.YtggnldljfjhhcaaDoor
open Go.RowKit Onair
attribute [local go_sem ↓] Go.wp_at_zero Go.wp_at_succ
set_option maxHeartbeats 8000000 in
set_option maxRecDepth 100000 in
theorem walkTree (w : World) (oa1 : Option Addr) (len1 cap1 : Nat) (ts1 : Nat → ByteArray) (i j : Int)
    (h1 : len1 ≤ cap1) (h2 : cap1 ≤ maxLen) (hts1 : ∀ i, (ts1 i).size ≤ maxLen) (hr1 : (len1 = 0 ∨ ∃ b off, oa1 = some ⟨b, off, none⟩ ∧ b < w.heap.size ∧ ∀ i, i < len1 → w.cell? ⟨b, off + i, none⟩ = some (.string (ts1 i)))) (ht : TabAt w) :
    Calls Tryd.prog 3 #[.slice oa1 len1 cap1, .int .i64 i, .int .i64 j] w fun e w' => e = .returned (.bool true) ∧ Below w.heap.size w w' := by
  unfold maxLen at h2
  have HR1 := Lib.hid hr1
  have HTS1 := Lib.hid hts1
  have HS := Lib.hid (sane_any w ht)
  have HT := Lib.hid ht
  clear hr1 hts1 ht
  go_enter Tryd.func3, Tryd.ntmps3
  go_wp2_with fail
  refine HS.out.mono ?_
  rintro e w1 ⟨rfl, hb1⟩
  have HF1 := Lib.hid (few_any oa1 len1 cap1 40 ts1 w1 (by decide) (by omega) HTS1.out (rd_step hb1 HR1.out))
  have HT1 := Lib.hid (HT.out.below hb1)
  have HB1 := Lib.hid hb1
  clear hb1 HS HR1 HTS1
  go_wp2_with fail
  refine HF1.out.mono ?_
  rintro e w2 ⟨oL, cL, L, rfl, hl, hz, hc, hcm, hrd, hb2⟩
  have HL2 : Hid (LW w oL L w2) := ⟨hrd, HT1.out.below hb2, HB1.out.trans (hb2.mono HB1.out.size)⟩
  obtain ⟨n, hn⟩ : ∃ n, L.length = n := ⟨_, rfl⟩
  rw [hn] at hc hl ⊢
  have HN := Lib.hid hn
  have HZ := Lib.hid (hz.mono (by decide) : SzB 1000 L)
  have HZ3 := Lib.hid (hz.mono (by decide) : SzB 300000000 L)
  have hpl : (prL L i).1.length ≤ 10000 := by
    unfold prL
    split
    · have := proofL_len L i.toNat; show (proofL L i.toNat).length ≤ _; omega
    · exact Nat.zero_le _
  have hxl : (exL L j).1.length ≤ 10000 := by
    unfold exL
    split
    · show (extP L j.toNat).length ≤ _
      unfold extP
      split
      · exact Nat.zero_le _
      · have := extL_len L j.toNat true; omega
    · exact Nat.zero_le _
  have HPL := Lib.hid hpl
  have HXL := Lib.hid hxl
  clear hn hz hrd hb2 HF1 HT1 HB1 hpl hxl
  obtain ⟨pr, hpr⟩ : ∃ pr, prL L i = pr := ⟨_, rfl⟩
  obtain ⟨ex, hex⟩ : ∃ ex, exL L j = ex := ⟨_, rfl⟩
  rw [hpr] at HPL
  rw [hex] at HXL
  have HPR := Lib.hid hpr
  have HEX := Lib.hid hex
  clear hpr hex
  go_wp2_with fail
  refine (proofG_two L oL n cL i w2 HN.out hc hcm (by omega) HZ.out HL2.out.rd HL2.out.tab).mono ?_
  rw [HPR.out]
  rintro e w3 ⟨o3, c3, rfl, hr3, hb3⟩
  have HL3 := Lib.hid (HL2.out.next hb3)
  have HP3 := Lib.hid hr3
  clear hb3 hr3 HL2
  go_wp2_with fail
  refine (proofR_two L oL n cL i w3 HN.out hc hcm (by omega) HZ.out HL3.out.rd).mono ?_
  rw [HPR.out]
  rintro e w4 ⟨o4, c4, rfl, hr4, hb4⟩
  have HL4 := Lib.hid (HL3.out.next hb4)
  have HP4 := Lib.hid (HP3.out.kept hb4)
  have HQ4 := Lib.hid hr4
  clear hb4 hr4 HL3 HP3
  go_wp2_with fail
  refine (extG_two L oL n cL j w4 HN.out hc hcm (by omega) HZ.out HL4.out.rd HL4.out.tab).mono ?_
  rw [HEX.out]
  rintro e w5 ⟨o5, c5, rfl, hr5, hb5⟩
  have HL5 := Lib.hid (HL4.out.next hb5)
  have HP5 := Lib.hid (HP4.out.kept hb5)
  have HQ5 := Lib.hid (HQ4.out.kept hb5)
  have HX5 := Lib.hid hr5
  clear hb5 hr5 HL4 HP4 HQ4
  go_wp2_with fail
  refine (extR_two L oL n cL j w5 HN.out hc hcm (by omega) HZ.out HL5.out.rd).mono ?_
  rw [HEX.out]
  rintro e w6 ⟨o6, c6, rfl, hr6, hb6⟩
  have HL6 := Lib.hid (HL5.out.next hb6)
  have HP6 := Lib.hid (HP5.out.kept hb6)
  have HQ6 := Lib.hid (HQ5.out.kept hb6)
  have HX6 := Lib.hid (HX5.out.kept hb6)
  have HY6 := Lib.hid hr6
  clear hb6 hr6 HL5 HP5 HQ5 HX5
  go_wp2_with fail
  refine (same_any w6 o3 o4 c3 c4 pr.1 pr.1 HPL.out HPL.out HP6.out HQ6.out).mono ?_
  rintro e w7 ⟨rfl, hb7⟩
  rw [decide_eq_true rfl]
  have HL7 := Lib.hid (HL6.out.next hb7)
  have HX7 := Lib.hid (HX6.out.kept hb7)
  have HY7 := Lib.hid (HY6.out.kept hb7)
  clear hb7 HL6 HX6 HY6
  go_wp2_with fail
  refine (same_any w7 o5 o6 c5 c6 ex.1 ex.1 HXL.out HXL.out HX7.out HY7.out).mono ?_
  rintro e w8 ⟨rfl, hb8⟩
  rw [decide_eq_true rfl]
  have HL8 := Lib.hid (HL7.out.next hb8)
  clear hb8 HL7
  go_wp2_with fail
  refine (root_any n L oL n cL w8 (by rw [HN.out]; exact Nat.le_refl _) HN.out hc hcm (by omega) HZ3.out HL8.out.rd HL8.out.tab).mono ?_
  rintro e w9 ⟨rfl, hb9⟩
  have HL9 := Lib.hid (HL8.out.next hb9)
  clear hb9 HL8
  go_wp2_with fail
  refine (refRoot_any n L oL n cL w9 (by rw [HN.out]; exact Nat.le_refl _) HN.out hc hcm (by omega) HZ.out HL9.out.rd).mono ?_
  rintro e wa ⟨rfl, hba⟩
  have HLa := Lib.hid (HL9.out.next hba)
  clear hba HL9
  go_wp2_with fail
  go_ret
  exact ⟨rfl, HLa.out.bel⟩
end Go.Proofs.YtggnldljfjhhcaaDoor
