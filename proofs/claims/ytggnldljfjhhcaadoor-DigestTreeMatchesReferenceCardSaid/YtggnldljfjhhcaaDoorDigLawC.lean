/-
  The walk of the law DigestExtensionBinding.
-/
import Derived.WalkKit
import Derived.LoopTactic
import Derived.WalkSpells
import Derived.WalkLawsBesides
import Derived.IntWalk
import Derived.Outline
import Derived.Deep.QuietTactic
import Derived.BigQuiet
import Derived.Deep.RegionLaw
import Derived.Deep.RegionHeld3
import Derived.Deep.DrawnRows
import Derived.Deep.AppendLies
import Derived.Laws.EntriesVeiled
import Derived.Lib.Hide
import Derived.Laws.OwnMore
import Derived.Test.YtggnldljfjhhcaaDoorDigSha
import Derived.Test.YtggnldljfjhhcaaDoorDigH
import Derived.Test.YtggnldljfjhhcaaDoorDigJ
import Derived.Test.YtggnldljfjhhcaaDoorDigM
import Derived.Test.YtggnldljfjhhcaaDoorDigN
import Derived.Test.YtggnldljfjhhcaaDoorDigO
import Derived.Test.YtggnldljfjhhcaaDoorDigP
import Derived.Test.YtggnldljfjhhcaaDoorDigQ
import Derived.Test.YtggnldljfjhhcaaDoorDigR
import Derived.Test.YtggnldljfjhhcaaDoorDigLawB
import Derived.Test.YtggnldljfjhhcaaDoorDigS
set_option linter.unusedVariables false
set_option linter.unusedSimpArgs false
namespace Go.Proofs.YtggnldljfjhhcaaDoor
open Go.RowKit Onair
attribute [local go_sem ↓] Go.wp_at_zero Go.wp_at_succ
def verXI (old root : ByteArray) (m n : Int) (p : List ByteArray) : Bool := decide (0 ≤ m ∧ m ≤ n) && verXB old m.toNat root n.toNat p
theorem verx_all (old root : ByteArray) (n m : Int) (oa : Option Addr) (p : List ByteArray) (cap : Nat) (w : World) (hn : n ≤ 9223372036854775807) (hp : p.length ≤ 1000000) (hpc : p.length ≤ cap) (hcc : cap ≤ 9223372036854775807) (hr : RdS w oa p) (ht : TabAt w) :
    Calls Tryd.prog 21 #[.string old, .int .i64 m, .string root, .int .i64 n, .slice oa p.length cap] w fun e w' => e = .returned (.bool (verXI old root m n p)) ∧ Below w.heap.size w w' := by
  unfold verXI
  by_cases h : 0 ≤ m ∧ m ≤ n
  · rw [decide_eq_true h, Bool.true_and]
    have := verx_in old root n.toNat m.toNat oa p cap w (by omega) (by omega) hp hpc hcc hr ht
    rw [show ((n.toNat : Nat) : Int) = n by omega, show ((m.toNat : Nat) : Int) = m by omega] at this
    exact this
  · rw [decide_eq_false h, Bool.false_and]
    exact verx_out old root n m oa p.length cap w (by omega)
theorem verXI_parts {old root : ByteArray} {m n : Int} {p : List ByteArray} (h : verXI old root m n p = true) : 0 ≤ m ∧ m ≤ n ∧ old.size = 32 ∧ digB p = true ∧ (if m = 0 then old = shaB emptyB else valsR p.reverse old m.toNat n.toNat true = (old, root, true)) := by
  unfold verXI verXB at h
  simp only [Bool.and_eq_true, decide_eq_true_eq, beq_iff_eq] at h
  obtain ⟨⟨h1, h2⟩, ⟨⟨⟨⟨h3, h4⟩, h5⟩, h6⟩, h7⟩⟩ := h
  refine ⟨h1, h2, h4, h6, ?_⟩
  by_cases h0 : m = 0
  · rw [if_pos h0]
    rw [if_pos (by omega)] at h7
    simp only [Bool.and_eq_true, decide_eq_true_eq] at h7
    exact h7.2
  · rw [if_neg h0]
    rw [if_neg (by omega)] at h7
    simp only [Bool.and_eq_true, decide_eq_true_eq] at h7
    exact Prod.ext h7.1.2 (Prod.ext h7.2 h7.1.1)
set_option maxHeartbeats 8000000 in
set_option maxRecDepth 100000 in
theorem walkExtensionBinding (w : World) (a b root : ByteArray) (n m : Int) (oa1 oa2 : Option Addr) (len1 cap1 len2 cap2 : Nat) (ts1 ts2 : Nat → ByteArray) (n0 : -9223372036854775808 ≤ n) (n1 : n ≤ 9223372036854775807) (i0 : -9223372036854775808 ≤ m) (i1 : m ≤ 9223372036854775807)
    (h1 : len1 ≤ cap1) (h2 : cap1 ≤ maxLen) (hts1 : ∀ i, (ts1 i).size ≤ maxLen) (hr1 : (len1 = 0 ∨ ∃ b off, oa1 = some ⟨b, off, none⟩ ∧ b < w.heap.size ∧ ∀ i, i < len1 → w.cell? ⟨b, off + i, none⟩ = some (.string (ts1 i)))) (h3 : len2 ≤ cap2) (h4 : cap2 ≤ maxLen) (hts2 : ∀ i, (ts2 i).size ≤ maxLen) (hr2 : (len2 = 0 ∨ ∃ b off, oa2 = some ⟨b, off, none⟩ ∧ b < w.heap.size ∧ ∀ i, i < len2 → w.cell? ⟨b, off + i, none⟩ = some (.string (ts2 i)))) (ht : TabAt w) :
    Calls Tryd.prog 7 #[.string a, .slice oa1 len1 cap1, .string b, .slice oa2 len2 cap2, .int .i64 m, .string root, .int .i64 n] w fun e w' => e = .returned (.bool true) ∧ Below w.heap.size w w' := by
  unfold maxLen at h2 h4
  have HR1 := Lib.hid hr1
  have HR2 := Lib.hid hr2
  have HTS1 := Lib.hid hts1
  have HTS2 := Lib.hid hts2
  have HS := Lib.hid (sane_any w ht)
  have HT := Lib.hid ht
  clear hr1 hr2 hts1 hts2 ht
  go_enter Tryd.func7, Tryd.ntmps7
  go_wp2_with fail
  refine HS.out.mono ?_
  rintro e w1 ⟨rfl, hb1⟩
  have HF1 := Lib.hid (few_any oa1 len1 cap1 70 ts1 w1 (by decide) (by omega) HTS1.out (rd_step hb1 HR1.out))
  have HT1 := Lib.hid (HT.out.below hb1)
  have HB1 := Lib.hid hb1
  clear hb1 HS HR1 HTS1
  go_wp2_with fail
  refine HF1.out.mono ?_
  rintro e w2 ⟨ob1, cb1, p, rfl, hpl, hpz, hpc, hpm, hrp, hb2⟩
  have HB2 := Lib.hid (HB1.out.trans (hb2.mono HB1.out.size))
  have HT2 := Lib.hid (HT1.out.below hb2)
  have HF2 := Lib.hid (few_any oa2 len2 cap2 70 ts2 w2 (by decide) (by omega) HTS2.out (rd_step HB2.out HR2.out))
  have HP := Lib.hid hrp
  clear hb2 hrp hpz HF1 HT1 HB1 HR2 HTS2
  go_wp2_with fail
  refine HF2.out.mono ?_
  rintro e w3 ⟨ob2, cb2, q, rfl, hql, hqz, hqc, hqm, hrq, hb3⟩
  have HL : Hid (L2 w ob1 ob2 p q w3) := ⟨HP.out.kept hb3, hrq, HT2.out.below hb3, HB2.out.trans (hb3.mono HB2.out.size)⟩
  clear hb3 hrq hqz HF2 HT2 HB2 HP HT
  go_wp2_with fail
  refine (verx_all a root n m ob1 p cb1 w3 n1 (by omega) hpc hpm HL.out.a HL.out.tab).mono ?_
  obtain ⟨v1, hv1⟩ : ∃ v1, verXI a root m n p = v1 := ⟨_, rfl⟩
  rw [hv1]
  have HV1 := Lib.hid hv1
  rintro e w4 ⟨rfl, hb4⟩
  have HL4 := Lib.hid (HL.out.next hb4)
  clear hb4 HL hv1
  go_wp2_with fail
  refine (verx_all b root n m ob2 q cb2 w4 n1 (by omega) hqc hqm HL4.out.b HL4.out.tab).mono ?_
  obtain ⟨v2, hv2⟩ : ∃ v2, verXI b root m n q = v2 := ⟨_, rfl⟩
  rw [hv2]
  have HV2 := Lib.hid hv2
  rintro e w5 ⟨rfl, hb5⟩
  have HL5 := Lib.hid (HL4.out.next hb5)
  clear hb5 HL4 hv2
  cases v1 with
  | false =>
    go_wp2_with fail
    go_ret
    exact ⟨rfl, HL5.out.bel⟩
  | true =>
    cases v2 with
    | false =>
      go_wp2_with fail
      go_ret
      exact ⟨rfl, HL5.out.bel⟩
    | true =>
      by_cases hst : a = b
      · have e1 : (a.toList == b.toList) = true := by rw [beq_dec]; exact decide_eq_true hst
        clear hst
        go_wp2_with fail
        go_ret
        exact ⟨rfl, HL5.out.bel⟩
      · have e1 : (a.toList == b.toList) = false := by rw [beq_dec]; exact decide_eq_false hst
        have hp1 := verXI_parts HV1.out
        have hp2 := verXI_parts HV2.out
        obtain ⟨g0, g1, g4, g2, g3⟩ := hp1
        obtain ⟨_, _, k4, k2, k3⟩ := hp2
        by_cases hm0 : m = 0
        · rw [if_pos hm0] at g3 k3
          exact absurd (g3.trans k3.symm) hst
        rw [if_neg hm0] at g3 k3
        obtain ⟨N, rfl⟩ : ∃ N : Nat, n = (N : Int) := ⟨n.toNat, by omega⟩
        obtain ⟨I, rfl⟩ : ∃ I : Nat, m = (I : Int) := ⟨m.toNat, by omega⟩
        rw [Int.toNat_natCast, Int.toNat_natCast] at g3 k3
        have hpz := digB_sz g2
        have hqz := digB_sz k2
        have hpr : SzB 32 p.reverse := fun x hx => hpz x (by simpa using hx)
        have hqr : SzB 32 q.reverse := fun x hx => hqz x (by simpa using hx)
        have HC : Hid (collB (sidesR p.reverse a I N true) (sidesR q.reverse b I N true) = true) := side_coll _ _ a b I N true a b root g4 k4 (by rw [digB_rev]; exact g2) (by rw [digB_rev]; exact k2) g3 k3 hst
        have HW1 := Lib.hid (fun W (h : L2 w ob1 ob2 p q W) => sides_any p.length p ob1 p.length N I cb1 a true W rfl rfl hpc (by omega) hpm (by omega) (by omega) (by omega) (by omega) hpz (by rw [g3]) h.a h.tab)
        have HW2 := Lib.hid (fun W (h : L2 w ob1 ob2 p q W) => sides_any q.length q ob2 q.length N I cb2 b true W rfl rfl hqc (by omega) hqm (by omega) (by omega) (by omega) (by omega) hqz (by rw [k3]) h.b h.tab)
        have z1 := sidesR_sz p.reverse a I N true (by omega) hpr
        have z2 := sidesR_sz q.reverse b I N true (by omega) hqr
        have l1 := sidesR_len p.reverse a I N true
        have l2 := sidesR_len q.reverse b I N true
        rw [List.length_reverse] at l1 l2
        obtain ⟨A, hA⟩ : ∃ A, sidesR p.reverse a I N true = A := ⟨_, rfl⟩
        obtain ⟨B, hB⟩ : ∃ B, sidesR q.reverse b I N true = B := ⟨_, rfl⟩
        rw [hA] at HC HW1 z1 l1
        rw [hB] at HC HW2 z2 l2
        have Z1 := Lib.hid z1
        have Z2 := Lib.hid z2
        clear hst g2 g3 g4 k2 k3 k4 hpz hqz hpr hqr z1 z2 hA hB HV1 HV2 hm0
        go_wp2_with fail
        refine (HW1.out _ HL5.out).mono ?_
        rintro e w6 ⟨oA, cA, rfl, hrA, hb6⟩
        have HL6 := Lib.hid (HL5.out.next hb6)
        have HA6 := Lib.hid hrA
        clear hrA hb6
        go_wp2_with fail
        refine (HW2.out _ HL6.out).mono ?_
        rintro e w7 ⟨oB, cB, rfl, hrB, hb7⟩
        have HL7 := Lib.hid (HL6.out.next hb7)
        have HA7 := Lib.hid (HA6.out.kept hb7)
        have HB7 := Lib.hid hrB
        clear hrB hb7
        go_wp2_with fail
        refine (collide_any w7 oA oB cA cB A B (by omega) (by omega) Z1.out Z2.out HA7.out HB7.out HL7.out.tab).mono ?_
        rw [HC.out]
        rintro e w8 ⟨rfl, hb8⟩
        have HL8 := Lib.hid (HL7.out.next hb8)
        clear hb8
        go_wp2_with fail
        go_ret
        exact ⟨rfl, HL8.out.bel⟩
end Go.Proofs.YtggnldljfjhhcaaDoor
