/-
  The walk of the law DigestExtensionAccepted.
-/
import Derived.WalkKit
import Derived.LoopTactic
import Derived.WalkSpells
import Derived.WalkLawsBesides
import Derived.IntWalk
import Derived.Outline
import Derived.Deep.QuietTactic
import Derived.BigQuiet
import Derived.Deep.RegionLaw
import Derived.Deep.RegionHeld3
import Derived.Deep.DrawnRows
import Derived.Deep.AppendLies
import Derived.Laws.EntriesVeiled
import Derived.Lib.Hide
import Derived.Laws.OwnMore
import Derived.Test.YtggnldljfjhhcaaDoorDigSha
import Derived.Test.YtggnldljfjhhcaaDoorDigH
import Derived.Test.YtggnldljfjhhcaaDoorDigJ
import Derived.Test.YtggnldljfjhhcaaDoorDigM
import Derived.Test.YtggnldljfjhhcaaDoorDigN
import Derived.Test.YtggnldljfjhhcaaDoorDigO
import Derived.Test.YtggnldljfjhhcaaDoorDigP
set_option linter.unusedVariables false
set_option linter.unusedSimpArgs false
namespace Go.Proofs.YtggnldljfjhhcaaDoor
open Go.RowKit Onair
attribute [local go_sem ↓] Go.wp_at_zero Go.wp_at_succ
set_option maxHeartbeats 4000000 in
set_option maxRecDepth 100000 in
theorem walkExtensionAccepted (w : World) (oa0 : Option Addr) (len cap0 : Nat) (ts : Nat → ByteArray) (m : Int) (h1 : len ≤ cap0) (h2 : cap0 ≤ maxLen) (hts : ∀ i, (ts i).size ≤ maxLen) (hr : len = 0 ∨ ∃ b off, oa0 = some ⟨b, off, none⟩ ∧ b < w.heap.size ∧ ∀ i, i < len → w.cell? ⟨b, off + i, none⟩ = some (.string (ts i)))
    (b0 : -9223372036854775808 ≤ m) (b1 : m ≤ 9223372036854775807) (ht : TabAt w) :
    Calls Tryd.prog 5 #[.slice oa0 len cap0, .int .i64 m] w fun e w' => e = .returned (.bool true) ∧ Below w.heap.size w w' := by
  unfold maxLen at h2
  have HR := Lib.hid hr
  have HTS := Lib.hid hts
  have HS := Lib.hid (sane_any w ht)
  have HT := Lib.hid ht
  clear hr hts ht
  go_enter Tryd.func5, Tryd.ntmps5
  go_wp2_with fail
  refine HS.out.mono ?_
  rintro e w1 ⟨rfl, hb1⟩
  have HB1 := Lib.hid hb1
  have HF := Lib.hid (few_any oa0 len cap0 25 ts w1 (by decide) (by omega) HTS.out (by
    rcases HR.out with h | ⟨b, off, e, hb, hc⟩
    · exact .inl h
    · exact .inr ⟨b, off, e, Nat.lt_of_lt_of_le hb hb1.size, fun i hi => (hb1.cell (p := ⟨b, off + i, none⟩) hb).trans (hc i hi)⟩))
  have HT1 := Lib.hid (HT.out.below hb1)
  clear hb1 HS HR HTS HT
  go_wp2_with fail
  refine HF.out.mono ?_
  rintro e w2 ⟨oa, cap, L, rfl, hl, hz, hc, hcm, hrd, hb2⟩
  have hlw : LW w oa L w2 := ⟨hrd, HT1.out.below hb2, HB1.out.trans (hb2.mono HB1.out.size)⟩
  have HL := Lib.hid hlw
  have HZ := Lib.hid (hz.mono (by decide) : SzB 300000000 L)
  obtain ⟨n, hn⟩ : ∃ n, L.length = n := ⟨_, rfl⟩
  rw [hn] at hl hc
  rw [hn]
  have HN := Lib.hid hn
  clear hlw hz hrd hb2 HF HB1 HT1 hn
  have hcI : (n : Int) ≤ (cap : Int) := by omega
  obtain ⟨R, hR⟩ : ∃ R, rootL L = R := ⟨_, rfl⟩
  have HRR := Lib.hid hR
  clear hR
  go_wp2_with fail
  refine (root_any n L oa n cap w2 (by rw [HN.out]; exact Nat.le_refl _) HN.out hc hcm (by omega) HZ.out HL.out.rd HL.out.tab).mono ?_
  rw [HRR.out]
  rintro e w3 ⟨rfl, hb3⟩
  have HL3 := Lib.hid (HL.out.next hb3)
  clear hb3
  go_wp2_with fail
  go_loopw [7] (fun i wr => ∃ k : Nat, k ≤ n + 1 ∧ i = .int .i64 k ∧ Hid (LW w oa L wr)) (fun i _ => n + 1 - (intOf i).toNat)
  case atStart => exact ⟨0, Nat.zero_le _, rfl, HL3⟩
  case round =>
    obtain ⟨k, hk, rfl, HLr⟩ := hrel
    clear HL HL3
    by_cases hkn : k ≤ n
    · have q1 : (k : Int) ≤ (n : Int) := by omega
      have q0 : (0 : Int) ≤ (k : Int) := by omega
      have qc : (k : Int) ≤ (cap : Int) := by omega
      have hX : (extP L k).length ≤ 2 * binN n := by rw [← HN.out]; exact extP_short L k (by rw [HN.out]; exact hkn)
      have hver : verXB (rootL (L.take k)) k R n (extP L k) = true := by rw [← HRR.out, ← HN.out]; exact ext_ver L k (by rw [HN.out]; exact hkn)
      have hbn := binN_le n
      have HEX := Lib.hid (ext_all L oa n cap k wr HN.out hc hcm (by omega) hkn HZ.out HLr.out.rd HLr.out.tab)
      obtain ⟨X, hXe⟩ : ∃ X, extP L k = X := ⟨_, rfl⟩
      rw [hXe] at hX hver HEX
      obtain ⟨xl, hxl⟩ : ∃ xl, X.length = xl := ⟨_, rfl⟩
      obtain ⟨bn, hbne⟩ : ∃ bn, binN n = bn := ⟨_, rfl⟩
      rw [hbne] at hX hbn
      have HXL := Lib.hid hxl
      have HBN := Lib.hid hbne
      have HV := Lib.hid hver
      rw [hxl] at hX HEX
      have qx : ¬ 2 * (bn : Int) < (xl : Int) := by omega
      clear hXe hxl hbne hver
      go_wp2_with fail
      refine HEX.out.mono ?_
      rintro e w4 ⟨ox, cx, rfl, hx1, hx2, hx3, hb4⟩
      have HL4 := Lib.hid (HLr.out.next hb4)
      have HX4 := Lib.hid hx3
      clear hb4 hx3 HLr HEX
      go_wp2_with fail
      refine (binary_any n w4 (by omega)).mono ?_
      rw [HBN.out]
      rintro e w5 ⟨rfl, rfl⟩
      go_wp2_with fail
      refine (root_any n (L.take k) oa k cap w4 (by rw [List.length_take, HN.out]; omega) (by rw [List.length_take, HN.out]; omega) (by omega) hcm (by omega) (HZ.out.take k) (HL4.out.rd.take k) HL4.out.tab).mono ?_
      rintro e w5 ⟨rfl, hb5⟩
      have HL5 := Lib.hid (HL4.out.next hb5)
      have HX5 := Lib.hid (HX4.out.kept hb5)
      clear hb5 HL4 HX4
      have HVX := Lib.hid (verx_in (rootL (L.take k)) R n k ox X cx w5 hkn (by omega) (by rw [HXL.out]; omega) (by rw [HXL.out]; exact hx1) hx2 HX5.out HL5.out.tab)
      rw [HV.out, HXL.out] at HVX
      go_wp2_with fail
      refine HVX.out.mono ?_
      rintro e w6 ⟨rfl, hb6⟩
      have HL6 := Lib.hid (HL5.out.next hb6)
      clear hb6 HL5 HX5 HVX
      go_wp2_with fail
      go_roundw
      case rel => exact ⟨k + 1, by omega, by go_num, HL6⟩
      case measure => simp [intOf]; omega
    · have q1 : ¬ (k : Int) ≤ (n : Int) := by omega
      by_cases hm : 0 ≤ m ∧ m ≤ n
      · obtain ⟨m0, m1⟩ := hm
        obtain ⟨j, rfl⟩ : ∃ j : Nat, m = (j : Int) := ⟨m.toNat, by omega⟩
        have HEX := Lib.hid (ext_all L oa n cap j wr HN.out hc hcm (by omega) (by omega) HZ.out HLr.out.rd HLr.out.tab)
        obtain ⟨X, hXe⟩ : ∃ X, extP L j = X := ⟨_, rfl⟩
        rw [hXe] at HEX
        clear hXe hkn
        go_wp2_with fail
        refine HEX.out.mono ?_
        rintro e w4 ⟨ox, cx, rfl, hx1, hx2, hx3, hb4⟩
        have HL4 := Lib.hid (HLr.out.next hb4)
        clear hb4 hx3 HLr HEX
        go_wp2_with fail
        go_ret
        exact ⟨rfl, HL4.out.bel⟩
      · have hmo : m < 0 ∨ (n : Int) < m := by omega
        have HEX := Lib.hid (ext_out oa n cap m wr (by omega) hmo)
        have HVX := Lib.hid (verx_out R R n m none 0 0 wr hmo)
        rcases (show m < 0 ∨ ((n : Int) < m ∧ decide (m ≤ (n : Int)) = false ∧ 0 ≤ m) from by
          by_cases g : m < 0
          · exact .inl g
          · exact .inr ⟨by omega, decide_eq_false (by omega), by omega⟩) with g0 | ⟨g0, g1, g2⟩
        all_goals
          clear hm hkn hmo
          go_wp2_with fail
          refine HEX.out.mono ?_
          rintro e w4 ⟨rfl, rfl⟩
          go_wp2_with fail
          refine HVX.out.mono ?_
          rintro e w4 ⟨rfl, hb4⟩
          have HL4 := Lib.hid (HLr.out.next hb4)
          clear hb4
          go_wp2_with fail
          go_ret
          exact ⟨rfl, HL4.out.bel⟩
end Go.Proofs.YtggnldljfjhhcaaDoor
