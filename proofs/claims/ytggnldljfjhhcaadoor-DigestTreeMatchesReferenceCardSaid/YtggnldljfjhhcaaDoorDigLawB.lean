/-
  The walk of the law DigestBinding.
-/
import Derived.WalkKit
import Derived.LoopTactic
import Derived.WalkSpells
import Derived.WalkLawsBesides
import Derived.IntWalk
import Derived.Outline
import Derived.Deep.QuietTactic
import Derived.BigQuiet
import Derived.Deep.RegionLaw
import Derived.Deep.RegionHeld3
import Derived.Deep.DrawnRows
import Derived.Deep.AppendLies
import Derived.Laws.EntriesVeiled
import Derived.Lib.Hide
import Derived.Laws.OwnMore
import Derived.Test.YtggnldljfjhhcaaDoorDigSha
import Derived.Test.YtggnldljfjhhcaaDoorDigH
import Derived.Test.YtggnldljfjhhcaaDoorDigJ
import Derived.Test.YtggnldljfjhhcaaDoorDigM
import Derived.Test.YtggnldljfjhhcaaDoorDigN
import Derived.Test.YtggnldljfjhhcaaDoorDigO
import Derived.Test.YtggnldljfjhhcaaDoorDigP
import Derived.Test.YtggnldljfjhhcaaDoorDigQ
import Derived.Test.YtggnldljfjhhcaaDoorDigR
set_option linter.unusedVariables false
set_option linter.unusedSimpArgs false
namespace Go.Proofs.YtggnldljfjhhcaaDoor
open Go.RowKit Onair
attribute [local go_sem ↓] Go.wp_at_zero Go.wp_at_succ
def verI (root : ByteArray) (n i : Int) (s : ByteArray) (p : List ByteArray) : Bool := decide (0 ≤ i ∧ i < n) && verB root n.toNat i.toNat s p
theorem verify_all (root : ByteArray) (n i : Int) (s : ByteArray) (oa : Option Addr) (p : List ByteArray) (cap : Nat) (w : World) (hn : n ≤ 9223372036854775807) (hs : s.size ≤ 900000000) (hp : p.length ≤ 1000000) (hpc : p.length ≤ cap) (hcc : cap ≤ 9223372036854775807) (hr : RdS w oa p) (ht : TabAt w) :
    Calls Tryd.prog 20 #[.string root, .int .i64 n, .int .i64 i, .string s, .slice oa p.length cap] w fun e w' => e = .returned (.bool (verI root n i s p)) ∧ Below w.heap.size w w' := by
  unfold verI
  by_cases h : 0 ≤ i ∧ i < n
  · rw [decide_eq_true h, Bool.true_and]
    have := verify_in root n.toNat i.toNat s oa p cap w (by omega) (by omega) hs hp hpc hcc hr ht
    rw [show ((n.toNat : Nat) : Int) = n by omega, show ((i.toNat : Nat) : Int) = i by omega] at this
    exact this
  · rw [decide_eq_false h, Bool.false_and]
    exact verify_out root n i s oa p.length cap w (by omega)
theorem verI_parts {root : ByteArray} {n i : Int} {s : ByteArray} {p : List ByteArray} (h : verI root n i s p = true) : 0 ≤ i ∧ i < n ∧ digB p = true ∧ valR p.reverse n.toNat i.toNat s = (root, true) := by
  unfold verI verB at h
  simp only [Bool.and_eq_true, decide_eq_true_eq] at h
  obtain ⟨⟨h1, h2⟩, ⟨⟨⟨h3, h4⟩, h5⟩, h6⟩⟩ := h
  exact ⟨h1, h2, h4, Prod.ext h6 h5⟩
theorem digB_rev (p : List ByteArray) : digB p.reverse = digB p := by simp [digB]
theorem wayR_sz : ∀ (q : List ByteArray) (n i : Nat) (s : ByteArray), s.size ≤ 60 → SzB 32 q → SzB 1000000 (wayR q n i s)
  | [], n, i, s, hs, hq => fun x hx => by
    rw [wayR, List.mem_singleton] at hx
    subst hx
    rw [leafS_size]
    omega
  | y :: q, n, i, s, hs, hq => fun x hx => by
    have hy : y.size ≤ 32 := hq y (by simp)
    have hq' : SzB 32 q := fun z hz => hq z (by simp [hz])
    unfold wayR at hx
    split at hx
    · rcases List.mem_cons.1 hx with h | h
      · subst h
        have := valR_size q (splitN n) i s
        rw [nodeS_size]
        omega
      · exact wayR_sz q _ _ s hs hq' x h
    · rcases List.mem_cons.1 hx with h | h
      · subst h
        have := valR_size q (n - splitN n) (i - splitN n) s
        rw [nodeS_size]
        omega
      · exact wayR_sz q _ _ s hs hq' x h
theorem rd_step {w w1 : World} {oa : Option Addr} {len : Nat} {ts : Nat → ByteArray} (hb : Below w.heap.size w w1) (h : len = 0 ∨ ∃ b off, oa = some ⟨b, off, none⟩ ∧ b < w.heap.size ∧ ∀ i, i < len → w.cell? ⟨b, off + i, none⟩ = some (.string (ts i))) :
    len = 0 ∨ ∃ b off, oa = some ⟨b, off, none⟩ ∧ b < w1.heap.size ∧ ∀ i, i < len → w1.cell? ⟨b, off + i, none⟩ = some (.string (ts i)) := by
  rcases h with h | ⟨b, off, e, hlt, hc⟩
  · exact .inl h
  · exact .inr ⟨b, off, e, Nat.lt_of_lt_of_le hlt hb.size, fun i hi => (hb.cell (p := ⟨b, off + i, none⟩) hlt).trans (hc i hi)⟩
set_option maxHeartbeats 8000000 in
set_option maxRecDepth 100000 in
theorem walkBinding (w : World) (root s0 t0 : ByteArray) (n i : Int) (oa1 oa2 : Option Addr) (len1 cap1 len2 cap2 : Nat) (ts1 ts2 : Nat → ByteArray) (hs0 : s0.size ≤ maxLen) (ht0 : t0.size ≤ maxLen) (n0 : -9223372036854775808 ≤ n) (n1 : n ≤ 9223372036854775807) (i0 : -9223372036854775808 ≤ i) (i1 : i ≤ 9223372036854775807)
    (h1 : len1 ≤ cap1) (h2 : cap1 ≤ maxLen) (hts1 : ∀ i, (ts1 i).size ≤ maxLen) (hr1 : (len1 = 0 ∨ ∃ b off, oa1 = some ⟨b, off, none⟩ ∧ b < w.heap.size ∧ ∀ i, i < len1 → w.cell? ⟨b, off + i, none⟩ = some (.string (ts1 i)))) (h3 : len2 ≤ cap2) (h4 : cap2 ≤ maxLen) (hts2 : ∀ i, (ts2 i).size ≤ maxLen) (hr2 : (len2 = 0 ∨ ∃ b off, oa2 = some ⟨b, off, none⟩ ∧ b < w.heap.size ∧ ∀ i, i < len2 → w.cell? ⟨b, off + i, none⟩ = some (.string (ts2 i)))) (ht : TabAt w) :
    Calls Tryd.prog 6 #[.string root, .int .i64 n, .int .i64 i, .string s0, .slice oa1 len1 cap1, .string t0, .slice oa2 len2 cap2] w fun e w' => e = .returned (.bool true) ∧ Below w.heap.size w w' := by
  unfold maxLen at h2 h4 hs0 ht0
  have HR1 := Lib.hid hr1
  have HR2 := Lib.hid hr2
  have HTS1 := Lib.hid hts1
  have HTS2 := Lib.hid hts2
  have HS := Lib.hid (sane_any w ht)
  have HT := Lib.hid ht
  obtain ⟨ms, s, ms1, ms2, ms3, ms4, ms5⟩ := min_cut s0 60
  obtain ⟨mt, t, mt1, mt2, mt3, mt4, mt5⟩ := min_cut t0 60
  rw [show ((60 : Nat) : Int) = 60 from rfl] at ms4 mt4
  have ms6 : s.size ≤ 60 := by omega
  have mt6 : t.size ≤ 60 := by omega
  clear hr1 hr2 hts1 hts2 ht ms3 mt3 hs0 ht0
  go_enter Tryd.func6, Tryd.ntmps6
  go_wp2_with fail
  refine HS.out.mono ?_
  rintro e w1 ⟨rfl, hb1⟩
  have HF1 := Lib.hid (few_any oa1 len1 cap1 70 ts1 w1 (by decide) (by omega) HTS1.out (rd_step hb1 HR1.out))
  have HT1 := Lib.hid (HT.out.below hb1)
  have HB1 := Lib.hid hb1
  clear hb1 HS HR1 HTS1
  go_wp2_with fail
  refine HF1.out.mono ?_
  rintro e w2 ⟨ob1, cb1, p, rfl, hpl, hpz, hpc, hpm, hrp, hb2⟩
  have HB2 := Lib.hid (HB1.out.trans (hb2.mono HB1.out.size))
  have HT2 := Lib.hid (HT1.out.below hb2)
  have HF2 := Lib.hid (few_any oa2 len2 cap2 70 ts2 w2 (by decide) (by omega) HTS2.out (rd_step HB2.out HR2.out))
  have HP := Lib.hid hrp
  clear hb2 hrp hpz HF1 HT1 HB1 HR2 HTS2
  go_wp2_with fail
  refine HF2.out.mono ?_
  rintro e w3 ⟨ob2, cb2, q, rfl, hql, hqz, hqc, hqm, hrq, hb3⟩
  have HL : Hid (L2 w ob1 ob2 p q w3) := ⟨HP.out.kept hb3, hrq, HT2.out.below hb3, HB2.out.trans (hb3.mono HB2.out.size)⟩
  clear hb3 hrq hqz HF2 HT2 HB2 HP HT
  go_wp2_with fail
  refine (verify_all root n i s ob1 p cb1 w3 n1 (by omega) (by omega) hpc hpm HL.out.a HL.out.tab).mono ?_
  obtain ⟨v1, hv1⟩ : ∃ v1, verI root n i s p = v1 := ⟨_, rfl⟩
  rw [hv1]
  have HV1 := Lib.hid hv1
  rintro e w4 ⟨rfl, hb4⟩
  have HL4 := Lib.hid (HL.out.next hb4)
  clear hb4 HL hv1 ms1 ms2 ms4 ms5 mt1 mt2 mt4 mt5
  go_wp2_with fail
  refine (verify_all root n i t ob2 q cb2 w4 n1 (by omega) (by omega) hqc hqm HL4.out.b HL4.out.tab).mono ?_
  obtain ⟨v2, hv2⟩ : ∃ v2, verI root n i t q = v2 := ⟨_, rfl⟩
  rw [hv2]
  have HV2 := Lib.hid hv2
  rintro e w5 ⟨rfl, hb5⟩
  have HL5 := Lib.hid (HL4.out.next hb5)
  clear hb5 HL4 hv2
  cases v1 with
  | false =>
    go_wp2_with fail
    go_ret
    exact ⟨rfl, HL5.out.bel⟩
  | true =>
    cases v2 with
    | false =>
      go_wp2_with fail
      go_ret
      exact ⟨rfl, HL5.out.bel⟩
    | true =>
      by_cases hst : s = t
      · have e1 : (s.toList == t.toList) = true := by rw [beq_dec]; exact decide_eq_true hst
        clear hst
        go_wp2_with fail
        go_ret
        exact ⟨rfl, HL5.out.bel⟩
      · have e1 : (s.toList == t.toList) = false := by rw [beq_dec]; exact decide_eq_false hst
        have hp1 := verI_parts HV1.out
        have hp2 := verI_parts HV2.out
        obtain ⟨g0, g1, g2, g3⟩ := hp1
        obtain ⟨_, _, k2, k3⟩ := hp2
        obtain ⟨N, rfl⟩ : ∃ N : Nat, n = (N : Int) := ⟨n.toNat, by omega⟩
        obtain ⟨I, rfl⟩ : ∃ I : Nat, i = (I : Int) := ⟨i.toNat, by omega⟩
        rw [Int.toNat_natCast, Int.toNat_natCast] at g3 k3
        have hpz := digB_sz g2
        have hqz := digB_sz k2
        have HC : Hid (collB (wayR p.reverse N I s) (wayR q.reverse N I t) = true) := bind_coll _ _ N I s t root (by rw [digB_rev]; exact g2) (by rw [digB_rev]; exact k2) g3 k3 hst
        have HW1 := Lib.hid (fun W (h : L2 w ob1 ob2 p q W) => way_any p.length p ob1 p.length N I cb1 s W rfl rfl hpc (by omega) hpm (by omega) (by omega) (by omega) hpz (by rw [g3]) h.a h.tab)
        have HW2 := Lib.hid (fun W (h : L2 w ob1 ob2 p q W) => way_any q.length q ob2 q.length N I cb2 t W rfl rfl hqc (by omega) hqm (by omega) (by omega) (by omega) hqz (by rw [k3]) h.b h.tab)
        have z1 := wayR_sz p.reverse N I s (by omega) (fun x hx => hpz x (by simpa using hx))
        have z2 := wayR_sz q.reverse N I t (by omega) (fun x hx => hqz x (by simpa using hx))
        have l1 := wayR_len p.reverse N I s
        have l2 := wayR_len q.reverse N I t
        rw [List.length_reverse] at l1 l2
        have l1 := Nat.le_of_eq l1
        have l2 := Nat.le_of_eq l2
        obtain ⟨A, hA⟩ : ∃ A, wayR p.reverse N I s = A := ⟨_, rfl⟩
        obtain ⟨B, hB⟩ : ∃ B, wayR q.reverse N I t = B := ⟨_, rfl⟩
        rw [hA] at HC HW1 z1 l1
        rw [hB] at HC HW2 z2 l2
        have Z1 := Lib.hid z1
        have Z2 := Lib.hid z2
        clear hst g2 g3 k2 k3 hpz hqz z1 z2 hA hB HV1 HV2
        go_wp2_with fail
        refine (HW1.out _ HL5.out).mono ?_
        rintro e w6 ⟨oA, cA, rfl, hrA, hb6⟩
        have HL6 := Lib.hid (HL5.out.next hb6)
        have HA6 := Lib.hid hrA
        clear hrA hb6
        go_wp2_with fail
        refine (HW2.out _ HL6.out).mono ?_
        rintro e w7 ⟨oB, cB, rfl, hrB, hb7⟩
        have HL7 := Lib.hid (HL6.out.next hb7)
        have HA7 := Lib.hid (HA6.out.kept hb7)
        have HB7 := Lib.hid hrB
        clear hrB hb7
        go_wp2_with fail
        refine (collide_any w7 oA oB cA cB A B (by omega) (by omega) Z1.out Z2.out HA7.out HB7.out HL7.out.tab).mono ?_
        rw [HC.out]
        rintro e w8 ⟨rfl, hb8⟩
        have HL8 := Lib.hid (HL7.out.next hb8)
        clear hb8
        go_wp2_with fail
        go_ret
        exact ⟨rfl, HL8.out.bel⟩
end Go.Proofs.YtggnldljfjhhcaaDoor
