/-
  The walk of the law DigestSplit.
-/
import Derived.WalkKit
import Derived.LoopTactic
import Derived.WalkSpells
import Derived.WalkLawsBesides
import Derived.IntWalk
import Derived.Outline
import Derived.Deep.QuietTactic
import Derived.BigQuiet
import Derived.Deep.RegionLaw
import Derived.Deep.RegionHeld3
import Derived.Deep.DrawnRows
import Derived.Deep.AppendLies
import Derived.Laws.EntriesVeiled
import Derived.Lib.Hide
import Derived.Laws.OwnMore
import Derived.Test.YtggnldljfjhhcaaDoorDigSha
import Derived.Test.YtggnldljfjhhcaaDoorDigH
import Derived.Test.YtggnldljfjhhcaaDoorDigJ
import Derived.Test.YtggnldljfjhhcaaDoorDigM
import Derived.Test.YtggnldljfjhhcaaDoorDigN
import Derived.Test.YtggnldljfjhhcaaDoorDigO
import Derived.Test.YtggnldljfjhhcaaDoorDigP
import Derived.Test.YtggnldljfjhhcaaDoorDigQ
import Derived.Test.YtggnldljfjhhcaaDoorDigR
import Derived.Test.YtggnldljfjhhcaaDoorDigLawB
import Derived.Test.YtggnldljfjhhcaaDoorDigLawC
set_option linter.unusedVariables false
set_option linter.unusedSimpArgs false
namespace Go.Proofs.YtggnldljfjhhcaaDoor
open Go.RowKit Onair
attribute [local go_sem ↓] Go.wp_at_zero Go.wp_at_succ
theorem lw_next {w : World} {oa : Option Addr} {L : List ByteArray} {W W' : World} (hb : Below W.heap.size W W') (h : Hid (LW w oa L W)) : Hid (LW w oa L W') := h.out.next hb
theorem lw_bel {w : World} {oa : Option Addr} {L : List ByteArray} {W : World} (h : Hid (LW w oa L W)) : Below w.heap.size w W := h.out.bel
theorem lw_drew {w : World} {oa : Option Addr} {L : List ByteArray} {W : World} (h : Hid (LW w oa L W)) : Hid (LW w oa L W.drew) := h.out.drew
set_option maxHeartbeats 8000000 in
set_option maxRecDepth 100000 in
theorem walkSplit (w : World) (s0 : ByteArray) (oa1 : Option Addr) (len1 cap1 : Nat) (ts1 : Nat → ByteArray) (hs0 : s0.size ≤ maxLen)
    (h1 : len1 ≤ cap1) (h2 : cap1 ≤ maxLen) (hts1 : ∀ i, (ts1 i).size ≤ maxLen) (hr1 : (len1 = 0 ∨ ∃ b off, oa1 = some ⟨b, off, none⟩ ∧ b < w.heap.size ∧ ∀ i, i < len1 → w.cell? ⟨b, off + i, none⟩ = some (.string (ts1 i)))) (ht : TabAt w) :
    Calls Tryd.prog 8 #[.slice oa1 len1 cap1, .string s0] w fun e w' => e = .returned (.bool true) ∧ Below w.heap.size w w' := by
  unfold maxLen at h2 hs0
  have HR1 := Lib.hid hr1
  have HTS1 := Lib.hid hts1
  have HS := Lib.hid (sane_any w ht)
  have HT := Lib.hid ht
  obtain ⟨ms, s, ms1, ms2, ms3, ms4, ms5⟩ := min_cut s0 60
  rw [show ((60 : Nat) : Int) = 60 from rfl] at ms4
  have ms6 : s.size ≤ 60 := by omega
  clear hr1 hts1 ht ms3 hs0
  go_enter Tryd.func8, Tryd.ntmps8
  go_wp2_with fail
  refine HS.out.mono ?_
  rintro e w1 ⟨rfl, hb1⟩
  have HF1 := Lib.hid (few_any oa1 len1 cap1 40 ts1 w1 (by decide) (by omega) HTS1.out (rd_step hb1 HR1.out))
  have HT1 := Lib.hid (HT.out.below hb1)
  have HB1 := Lib.hid hb1
  clear hb1 HS HR1 HTS1
  go_wp2_with fail
  refine HF1.out.mono ?_
  rintro e w2 ⟨oL, cL, L, rfl, hl, hz, hc, hcm, hrd, hb2⟩
  have hlw : LW w oL L w2 := ⟨hrd, HT1.out.below hb2, HB1.out.trans (hb2.mono HB1.out.size)⟩
  obtain ⟨ob, cb, w3, hrun1, hown1, hfr1⟩ := app_list (w2.alloc (.cells #[] 9)) w2.heap.size (.slice (some ⟨w2.heap.size, 0, none⟩) 0 0) [] L oL cL (own_new w2 [] (by simp)) (hrd.kept ((Below.refl _ w2).alloc (Nat.le_refl _) _)) (fun _ _ => trivial) (by simp) (by omega) 22
  rw [List.nil_append] at hrun1 hown1
  have hb3 : Below w2.heap.size w2 w3 := ((Below.refl _ w2).alloc (Nat.le_refl _) (.cells #[] 9)).trans (hfr1.below w2.heap.size (by simp) (fun k hk => hk))
  have hown1' : OwnS w2.heap.size (.slice ob L.length cb) L (w3.alloc (.cells #[.string s] 9)) := hown1.kept ((Below.refl _ w3).alloc (Nat.le_refl _) _)
  have hrs : RdS (w3.alloc (.cells #[.string s] 9)) (some ⟨w3.heap.size, 0, none⟩) [s] := .inr ⟨_, _, rfl, by simp, fun j x hj => cells_new w3 [s] 9 j x hj⟩
  obtain ⟨oM, cM, w4, hrun2, hown2, hfr2⟩ := app_list (w3.alloc (.cells #[.string s] 9)) w2.heap.size (.slice ob L.length cb) L [s] (some ⟨w3.heap.size, 0, none⟩) 1 hown1' hrs (fun _ _ => trivial) (by omega) (by simp) 22
  have hb4 : Below w2.heap.size w2 w4 := hb3.trans (((Below.refl _ w3).alloc (Nat.le_refl _) (.cells #[.string s] 9)).mono hb3.size |>.trans (hfr2.below w2.heap.size (by have := hb3.size; simp; omega) (fun k hk => hk)))
  have hm := own_rds hown2.1
  have HL4 := Lib.hid (hlw.next hb4)
  have hsz : SzB 300000000 (L ++ [s]) := fun x hx => by
    rcases List.mem_append.1 hx with h | h
    · have := hz x h; omega
    · rw [List.mem_singleton] at h; subst h; omega
  have HZL := Lib.hid (hz.mono (by decide) : SzB 300000000 L)
  have e1 : (L ++ [s]).length = L.length + 1 := by simp
  have htk : (L ++ [s]).take L.length = L := by simp
  obtain ⟨n, hn⟩ : ∃ n, L.length = n := ⟨_, rfl⟩
  obtain ⟨M, hM⟩ : ∃ M, L ++ [s] = M := ⟨_, rfl⟩
  have hnl : L = [] → M = [s] := fun e => by rw [← hM, e]; rfl
  rw [hM] at hm hsz e1 htk hrun2
  rw [hn] at hrun1 hrun2 e1 htk hl hc
  rw [hn]
  have HM2 := Lib.hid hm.2.2.2
  have hmc := hm.2.1
  have hmm := hm.2.2.1
  obtain ⟨z, hz0⟩ : ∃ z, M.length = z := ⟨_, rfl⟩
  have hz1 : n + 1 ≤ z := by omega
  have hz2 : z ≤ n + 1 := by omega
  rw [hz0] at hrun2 hmc
  simp only [List.length_cons, List.length_nil, Nat.zero_add] at hrun2
  have HMS := Lib.hid hsz
  have HE1 := Lib.hid hz0
  have HTK := Lib.hid htk
  have HN := Lib.hid hn
  have HNL := Lib.hid hnl
  have HEX := Lib.hid (ext_all M oM z cM n w4 hz0 hmc hmm (by omega) (by omega) hsz hm.2.2.2 HL4.out.tab)
  have hver : verXB (rootL L) n (rootL M) z (extP M n) = true := by
    have := ext_ver M n (by omega)
    rw [htk, hz0] at this
    exact this
  clear hlw hz hrd hb2 HF1 HT1 HB1 hown1 hown1' hfr1 hb3 hb4 hown2 hfr2 hrs hm hsz e1 htk hn hM hnl hz0
  have hxl : (extP M n).length ≤ 1000000 := by
    have h1 := extP_short M n (by rw [HE1.out]; omega)
    have h2 := binN_le M.length
    have h3 := HE1.out
    omega
  obtain ⟨X, hXe⟩ : ∃ X, extP M n = X := ⟨_, rfl⟩
  rw [hXe] at HEX hver hxl
  obtain ⟨RL, hRL⟩ : ∃ RL, rootL L = RL := ⟨_, rfl⟩
  obtain ⟨RM, hRM⟩ : ∃ RM, rootL M = RM := ⟨_, rfl⟩
  rw [hRL, hRM] at hver
  have HV := Lib.hid hver
  have HRL := Lib.hid hRL
  have HRM := Lib.hid hRM
  clear hXe hver hRL hRM
  have tok1 : True := trivial
  go_wp2_with (first | (at_builtin; have _t := tok1; refine wpList_append_run _ rfl _ _ 22 rfl _ _ _ _ rfl rfl hrun1 ?_; clear _t tok1) | (at_builtin; refine wpList_append_run _ rfl _ _ 22 rfl _ _ _ _ rfl rfl hrun2 ?_))
  clear hrun1 hrun2 ms4 ms5
  refine HEX.out.mono ?_
  rintro e w5 ⟨oX, cX, rfl, hx1, hx2, hx3, hb5⟩
  have HL5 := Lib.hid (HL4.out.next hb5)
  have HM5 := Lib.hid (HM2.out.kept hb5)
  have HX5 := Lib.hid hx3
  clear hb5 hx3 HL4 HM2 HEX
  go_wp2_with fail
  refine (root_any n L oL n cL w5 (by rw [HN.out]; exact Nat.le_refl _) HN.out hc hcm (by omega) HZL.out HL5.out.rd HL5.out.tab).mono ?_
  rw [HRL.out]
  rintro e w6 ⟨rfl, hb6⟩
  have HL6 := Lib.hid (HL5.out.next hb6)
  have HM6 := Lib.hid (HM5.out.kept hb6)
  have HX6 := Lib.hid (HX5.out.kept hb6)
  clear hb6 HL5 HM5 HX5
  go_wp2_with fail
  refine (root_any z M oM z cM w6 (by rw [HE1.out]; exact Nat.le_refl _) HE1.out hmc hmm (by omega) HMS.out HM6.out HL6.out.tab).mono ?_
  rw [HRM.out]
  rintro e w7 ⟨rfl, hb7⟩
  have HL7 := Lib.hid (HL6.out.next hb7)
  have HM7 := Lib.hid (HM6.out.kept hb7)
  have HX7 := Lib.hid (HX6.out.kept hb7)
  clear hb7 HL6 HM6 HX6
  go_wp2_with fail
  have HVX := Lib.hid (verx_in RL RM z n oX X cX w7 (by omega) (by omega) hxl hx1 hx2 HX7.out HL7.out.tab)
  rw [HV.out] at HVX
  refine HVX.out.mono ?_
  rintro e w8 ⟨rfl, hb8⟩
  have HL8 := Lib.hid (HL7.out.next hb8)
  have HM8 := Lib.hid (HM7.out.kept hb8)
  clear hb8 HL7 HM7 HX7 HVX
  by_cases hn0 : n = 0
  · obtain rfl := hn0
    have HA : Hid (M = [s]) := HNL.out (List.eq_nil_of_length_eq_zero HN.out)
    have HB : Hid (RL = shaB emptyB) := by
      have : L = [] := List.eq_nil_of_length_eq_zero HN.out
      show RL = _
      rw [← HRL.out, this]
      rfl
    have HC : Hid (RM = leafB s) := by show RM = _; rw [← HRM.out, HA.out]; rfl
    go_wp2_with fail
    refine (root_any z M oM z cM w8 (by rw [HE1.out]; exact Nat.le_refl _) HE1.out hmc hmm (by omega) HMS.out HM8.out HL8.out.tab).mono ?_
    rw [HRM.out]
    rintro e w9 ⟨rfl, hb9⟩
    have HL9 := Lib.hid (HL8.out.next hb9)
    clear hb9
    go_wp2_with fail
    refine (leaf_any s w9 (by omega) HL9.out.tab).mono ?_
    rw [← HC.out]
    rintro e wa ⟨rfl, hba⟩
    have HLa := Lib.hid (HL9.out.next hba)
    clear hba
    go_wp2_with fail
    refine (root_any 0 L oL 0 cL wa (by rw [HN.out]; exact Nat.le_refl _) HN.out hc hcm (by omega) HZL.out HLa.out.rd HLa.out.tab).mono ?_
    rw [HRL.out]
    rintro e wb ⟨rfl, hbb⟩
    have HLb := Lib.hid (HLa.out.next hbb)
    clear hbb
    go_wp2_with fail
    refine (sum_any emptyB wb (by decide) HLb.out.tab).mono ?_
    rw [← HB.out]
    rintro e wc ⟨rfl, hbc⟩
    have HLc := Lib.hid (HLb.out.next hbc)
    clear hbc
    go_wp2_with fail
    go_ret
    exact ⟨rfl, HLc.out.bel⟩
  · have n0 : ((n : Int) == 0) = false := by rw [beq_eq_false_iff_ne]; omega
    have hr2 := rootL_two M (by rw [HE1.out]; omega)
    rw [HE1.out] at hr2
    have hk1 := splitN_lt z (by omega)
    have hk2 := splitN_pos z
    have HSP := Lib.hid (fun W => left_any z W (by omega) (by omega))
    obtain ⟨k, hk⟩ : ∃ k, splitN z = k := ⟨_, rfl⟩
    rw [hk] at hr2 hk1 hk2 HSP
    obtain ⟨bm, om, rfl, hrb⟩ := HM8.out.some (by rw [HE1.out]; omega)
    have IM : Hid (∀ W, Hid (LW w (some ⟨bm, om, none⟩) M W) → Calls Tryd.prog 17 #[.slice (some ⟨bm, om, none⟩) z cM] W fun e w' => e = .returned (.string RM) ∧ Below W.heap.size W w') := fun W hW => by
      have := root_any z M (some ⟨bm, om, none⟩) z cM W (by rw [HE1.out]; exact Nat.le_refl _) HE1.out hmc hmm (by omega) HMS.out hW.out.rd hW.out.tab
      rw [HRM.out] at this
      exact this
    have IL : Hid (∀ W, Hid (LW w (some ⟨bm, om, none⟩) M W) → Calls Tryd.prog 17 #[.slice (some ⟨bm, om, none⟩) k cM] W fun e w' => e = .returned (.string (rootL (M.take k))) ∧ Below W.heap.size W w') := fun W hW =>
      root_any z (M.take k) (some ⟨bm, om, none⟩) k cM W (by rw [List.length_take, HE1.out]; omega) (by rw [List.length_take, HE1.out]; omega) (by omega) hmm (by omega) (HMS.out.take k) (hW.out.rd.take k) hW.out.tab
    have IR : Hid (∀ W, Hid (LW w (some ⟨bm, om, none⟩) M W) → Calls Tryd.prog 17 #[.slice (some ⟨bm, om + k, none⟩) (z - k) (cM - k)] W fun e w' => e = .returned (.string (rootL (M.drop k))) ∧ Below W.heap.size W w') := fun W hW => by
      obtain ⟨b', o', he', hrb'⟩ := hW.out.rd.some (by rw [HE1.out]; omega)
      cases he'
      exact root_any z (M.drop k) _ (z - k) (cM - k) W (by rw [List.length_drop, HE1.out]; omega) (by rw [List.length_drop, HE1.out]) (by omega) (by omega) (by omega) (HMS.out.drop k) (hrb'.drop k).rds hW.out.tab
    have s1 := rootL_size (M.take k)
    have s2 := rootL_size (M.drop k)
    obtain ⟨R1, hR1⟩ : ∃ R1, rootL (M.take k) = R1 := ⟨_, rfl⟩
    obtain ⟨R2, hR2⟩ : ∃ R2, rootL (M.drop k) = R2 := ⟨_, rfl⟩
    rw [hR1] at IL s1 hr2
    rw [hR2] at IR s2 hr2
    have IN : Hid (∀ W, Hid (LW w (some ⟨bm, om, none⟩) M W) → Calls Tryd.prog 28 #[.string R1, .string R2] W fun e w' => e = .returned (.string RM) ∧ Below W.heap.size W w') := fun W hW => by
      have := node_any R1 R2 W (by omega) (by omega) hW.out.tab
      rw [← hr2, HRM.out] at this
      exact this
    have HLM : Hid (LW w (some ⟨bm, om, none⟩) M w8) := ⟨HM8.out, HL8.out.tab, HL8.out.bel⟩
    have k0 : (0 : Int) ≤ (k : Int) := by omega
    have kc : (k : Int) ≤ (cM : Int) := by omega
    have kn : (k : Int) ≤ (z : Int) := by omega
    have kk : (k : Int) < (cM : Int) := by omega
    have nc : (z : Int) ≤ (cM : Int) := by omega
    have kne : ¬ k = cM := by omega
    have kne2 : ¬ cM = k := by omega
    clear hr2 s1 s2 hR1 hR2 hk hrb hn0 HL8 HM8
    go_wp2_with fail
    refine (HSP.out _).mono ?_
    rintro e w9 ⟨rfl, rfl⟩
    go_wp2_with fail
    go_region_held3 (fun W => Hid (LW w (some ⟨bm, om, none⟩) M W)) (first | assumption | exact lw_next (by assumption) (by assumption) | exact lw_drew (by assumption)) (first | ((with_reducible refine (IM.out _ (by assumption)).mono ?_); rintro e w' ⟨rfl, hb⟩) | ((with_reducible refine (IL.out _ (by assumption)).mono ?_); rintro e w' ⟨rfl, hb⟩) | ((with_reducible refine (IR.out _ (by assumption)).mono ?_); rintro e w' ⟨rfl, hb⟩) | ((with_reducible refine (IN.out _ (by assumption)).mono ?_); rintro e w' ⟨rfl, hb⟩))
    go_wp2_with fail
    go_ret
    exact ⟨rfl, lw_bel (oa := some ⟨bm, om, none⟩) (L := M) (by assumption)⟩
end Go.Proofs.YtggnldljfjhhcaaDoor
