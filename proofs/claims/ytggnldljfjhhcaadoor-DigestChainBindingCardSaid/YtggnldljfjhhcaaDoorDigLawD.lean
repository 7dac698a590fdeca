/-
  The walk of the law DigestChainBinding.
-/
import Derived.WalkKit
import Derived.LoopTactic
import Derived.WalkSpells
import Derived.WalkLawsBesides
import Derived.IntWalk
import Derived.Outline
import Derived.Deep.QuietTactic
import Derived.BigQuiet
import Derived.Deep.RegionLaw
import Derived.Deep.RegionHeld3
import Derived.Deep.DrawnRows
import Derived.Deep.AppendLies
import Derived.Laws.EntriesVeiled
import Derived.Lib.Hide
import Derived.Laws.OwnMore
import Derived.Test.YtggnldljfjhhcaaDoorDigSha
import Derived.Test.YtggnldljfjhhcaaDoorDigH
import Derived.Test.YtggnldljfjhhcaaDoorDigJ
import Derived.Test.YtggnldljfjhhcaaDoorDigM
import Derived.Test.YtggnldljfjhhcaaDoorDigN
import Derived.Test.YtggnldljfjhhcaaDoorDigO
import Derived.Test.YtggnldljfjhhcaaDoorDigP
import Derived.Test.YtggnldljfjhhcaaDoorDigQ
import Derived.Test.YtggnldljfjhhcaaDoorDigR
import Derived.Test.YtggnldljfjhhcaaDoorDigLawB
import Derived.Test.YtggnldljfjhhcaaDoorDigU
set_option linter.unusedVariables false
set_option linter.unusedSimpArgs false
namespace Go.Proofs.YtggnldljfjhhcaaDoor
open Go.RowKit Onair
attribute [local go_sem ↓] Go.wp_at_zero Go.wp_at_succ
theorem cv32 (W : World) : (convert 44 9 (.slice (some ⟨W.heap.size, 0, none⟩) 32 32)).run Tryd.prog (W.alloc (.cells #[.int .u8 0, .int .u8 0, .int .u8 0, .int .u8 0, .int .u8 0, .int .u8 0, .int .u8 0, .int .u8 0, .int .u8 0, .int .u8 0, .int .u8 0, .int .u8 0, .int .u8 0, .int .u8 0, .int .u8 0, .int .u8 0, .int .u8 0, .int .u8 0, .int .u8 0, .int .u8 0, .int .u8 0, .int .u8 0, .int .u8 0, .int .u8 0, .int .u8 0, .int .u8 0, .int .u8 0, .int .u8 0, .int .u8 0, .int .u8 0, .int .u8 0, .int .u8 0] 5)) = .ok (.string zB) (W.alloc (.cells #[.int .u8 0, .int .u8 0, .int .u8 0, .int .u8 0, .int .u8 0, .int .u8 0, .int .u8 0, .int .u8 0, .int .u8 0, .int .u8 0, .int .u8 0, .int .u8 0, .int .u8 0, .int .u8 0, .int .u8 0, .int .u8 0, .int .u8 0, .int .u8 0, .int .u8 0, .int .u8 0, .int .u8 0, .int .u8 0, .int .u8 0, .int .u8 0, .int .u8 0, .int .u8 0, .int .u8 0, .int .u8 0, .int .u8 0, .int .u8 0, .int .u8 0, .int .u8 0] 5)) :=
  conv_row (l := List.replicate 32 0) (Blk.new W 5 (cellsB (List.replicate 32 0))) 32 32 (by simp)
theorem conv_after {W W' : World} (hb : Below (W.alloc (.cells #[.int .u8 0, .int .u8 0, .int .u8 0, .int .u8 0, .int .u8 0, .int .u8 0, .int .u8 0, .int .u8 0, .int .u8 0, .int .u8 0, .int .u8 0, .int .u8 0, .int .u8 0, .int .u8 0, .int .u8 0, .int .u8 0, .int .u8 0, .int .u8 0, .int .u8 0, .int .u8 0, .int .u8 0, .int .u8 0, .int .u8 0, .int .u8 0, .int .u8 0, .int .u8 0, .int .u8 0, .int .u8 0, .int .u8 0, .int .u8 0, .int .u8 0, .int .u8 0] 5)).heap.size (W.alloc (.cells #[.int .u8 0, .int .u8 0, .int .u8 0, .int .u8 0, .int .u8 0, .int .u8 0, .int .u8 0, .int .u8 0, .int .u8 0, .int .u8 0, .int .u8 0, .int .u8 0, .int .u8 0, .int .u8 0, .int .u8 0, .int .u8 0, .int .u8 0, .int .u8 0, .int .u8 0, .int .u8 0, .int .u8 0, .int .u8 0, .int .u8 0, .int .u8 0, .int .u8 0, .int .u8 0, .int .u8 0, .int .u8 0, .int .u8 0, .int .u8 0, .int .u8 0, .int .u8 0] 5)) W') : (convert 44 9 (.slice (some ⟨W.heap.size, 0, none⟩) 32 32)).run Tryd.prog W' = .ok (.string zB) W' :=
  conv_row (l := List.replicate 32 0) ((Blk.new W 5 (cellsB (List.replicate 32 0))).kept (hb.block _ (by simp))) 32 32 (by simp)
theorem cz_next {w : World} {oa ob : Option Addr} {A B : List ByteArray} {b1 o1 : Nat} {x : ByteArray} {W W' : World} (hb : Below W.heap.size W W')
    (h : W.cell? ⟨b1, o1, none⟩ = some (.string x) ∧ b1 < W.heap.size ∧ Hid (L2 w oa ob A B W)) :
    W'.cell? ⟨b1, o1, none⟩ = some (.string x) ∧ b1 < W'.heap.size ∧ Hid (L2 w oa ob A B W') :=
  ⟨(hb.cell (p := ⟨b1, o1, none⟩) h.2.1).trans h.1, Nat.lt_of_lt_of_le h.2.1 hb.size, Lib.hid (h.2.2.out.next hb)⟩
set_option maxHeartbeats 8000000 in
set_option maxRecDepth 100000 in
theorem walkChainBinding (w : World) (oa1 oa2 : Option Addr) (len1 cap1 len2 cap2 : Nat) (ts1 ts2 : Nat → ByteArray)
    (h1 : len1 ≤ cap1) (h2 : cap1 ≤ maxLen) (hts1 : ∀ i, (ts1 i).size ≤ maxLen) (hr1 : (len1 = 0 ∨ ∃ b off, oa1 = some ⟨b, off, none⟩ ∧ b < w.heap.size ∧ ∀ i, i < len1 → w.cell? ⟨b, off + i, none⟩ = some (.string (ts1 i)))) (h3 : len2 ≤ cap2) (h4 : cap2 ≤ maxLen) (hts2 : ∀ i, (ts2 i).size ≤ maxLen) (hr2 : (len2 = 0 ∨ ∃ b off, oa2 = some ⟨b, off, none⟩ ∧ b < w.heap.size ∧ ∀ i, i < len2 → w.cell? ⟨b, off + i, none⟩ = some (.string (ts2 i)))) (ht : TabAt w) :
    Calls Tryd.prog 9 #[.slice oa1 len1 cap1, .slice oa2 len2 cap2] w fun e w' => e = .returned (.bool true) ∧ Below w.heap.size w w' := by
  unfold maxLen at h2 h4
  have HR1 := Lib.hid hr1
  have HR2 := Lib.hid hr2
  have HTS1 := Lib.hid hts1
  have HTS2 := Lib.hid hts2
  have HS := Lib.hid (sane_any w ht)
  have HT := Lib.hid ht
  clear hr1 hr2 hts1 hts2 ht
  go_enter Tryd.func9, Tryd.ntmps9
  go_wp2_with fail
  refine HS.out.mono ?_
  rintro e w1 ⟨rfl, hb1⟩
  have HF1 := Lib.hid (few_any oa1 len1 cap1 20 ts1 w1 (by decide) (by omega) HTS1.out (rd_step hb1 HR1.out))
  have HT1 := Lib.hid (HT.out.below hb1)
  have HB1 := Lib.hid hb1
  clear hb1 HS HR1 HTS1
  go_wp2_with fail
  refine HF1.out.mono ?_
  rintro e w2 ⟨ob1, cb1, A, rfl, hpl, hpz, hpc, hpm, hrp, hb2⟩
  have HB2 := Lib.hid (HB1.out.trans (hb2.mono HB1.out.size))
  have HT2 := Lib.hid (HT1.out.below hb2)
  have HF2 := Lib.hid (few_any oa2 len2 cap2 20 ts2 w2 (by decide) (by omega) HTS2.out (rd_step HB2.out HR2.out))
  have HP := Lib.hid hrp
  have PZ := Lib.hid hpz
  clear hb2 hrp hpz HF1 HT1 HB1 HR2 HTS2
  go_wp2_with fail
  refine HF2.out.mono ?_
  rintro e w3 ⟨ob2, cb2, B, rfl, hql, hqz, hqc, hqm, hrq, hb3⟩
  have HL : Hid (L2 w ob1 ob2 A B w3) := ⟨HP.out.kept hb3, hrq, HT2.out.below hb3, HB2.out.trans (hb3.mono HB2.out.size)⟩
  have QZ := Lib.hid hqz
  clear hb3 hrq hqz HF2 HT2 HB2 HP HT
  have l1 : (hdR A.reverse).1.length ≤ 20 := by rw [hdR_len, List.length_reverse]; exact hpl
  have l2 : (hdR B.reverse).1.length ≤ 20 := by rw [hdR_len, List.length_reverse]; exact hql
  have Z1 := Lib.hid (hdR_sz A.reverse (fun x hx => PZ.out x (by simpa using hx)))
  have Z2 := Lib.hid (hdR_sz B.reverse (fun x hx => QZ.out x (by simpa using hx)))
  have s1 := hdR_32 A.reverse
  have HW1 := Lib.hid (heads_any w3 ob1 cb1 A (by omega) PZ.out HL.out.a HL.out.tab)
  have HCC : Hid (¬ A = B → (hdR A.reverse).2 = (hdR B.reverse).2 → collB (hdR A.reverse).1 (hdR B.reverse).1 = true ∨ zeroB (hdR A.reverse).1 (hdR B.reverse).1) := fun n e => chain_coll _ _ (fun h => n (by simpa using congrArg List.reverse h)) e
  have HEQ : Hid (A = B → (hdR A.reverse).2 = (hdR B.reverse).2) := fun e => by rw [e]
  go_wp2_with fail
  refine HW1.out.mono ?_
  rintro e w4 ⟨oA, cA, rfl, hrA, hb4⟩
  have HL4 := Lib.hid (HL.out.next hb4)
  have HA4 := Lib.hid hrA
  clear hrA hb4 HL HW1
  have HW2 := Lib.hid (heads_any w4 ob2 cb2 B (by omega) QZ.out HL4.out.b HL4.out.tab)
  obtain ⟨XH, hXH⟩ : ∃ XH, hdR A.reverse = XH := ⟨_, rfl⟩
  obtain ⟨YK, hYK⟩ : ∃ YK, hdR B.reverse = YK := ⟨_, rfl⟩
  unfold HdP at HW2
  rw [hXH] at l1 Z1 s1 HCC HEQ HA4
  rw [hYK] at l2 Z2 HCC HEQ HW2
  rw [hXH]
  obtain ⟨X, H⟩ := XH
  obtain ⟨Y, K⟩ := YK
  dsimp only at l1 l2 Z1 Z2 s1 HCC HEQ HA4 HW2 ⊢
  have hne : ((H.size : Int) != 32) = false := by rw [s1]; rfl
  clear hXH hYK s1 PZ QZ
  go_wp2_with fail
  refine HW2.out.mono ?_
  rintro e w5 ⟨oB, cB, rfl, hrB, hb5⟩
  have HL5 := Lib.hid (HL4.out.next hb5)
  have HA5 := Lib.hid (HA4.out.kept hb5)
  have HB5 := Lib.hid hrB
  clear hrB hb5 HL4 HA4 HW2
  go_wp2_with fail
  refine (same_any w5 ob1 ob2 cb1 cb2 A B (by omega) (by omega) HL5.out.a HL5.out.b).mono ?_
  by_cases hab : A = B
  · have hHK : (H.toList == K.toList) = true := by rw [beq_dec]; exact decide_eq_true (HEQ.out hab)
    rw [decide_eq_true hab]
    rintro e w6 ⟨rfl, hb6⟩
    have HL6 := Lib.hid (HL5.out.next hb6)
    clear hb6 hab HCC HEQ
    go_wp2_with fail
    go_ret
    exact ⟨rfl, HL6.out.bel⟩
  · rw [decide_eq_false hab]
    rintro e w6 ⟨rfl, hb6⟩
    have HL6 := Lib.hid (HL5.out.next hb6)
    have HL7 : Hid (L2 w oA oB X Y w6) := ⟨HA5.out.kept hb6, HB5.out.kept hb6, HL6.out.tab, HL6.out.bel⟩
    clear hb6 HEQ HL5 HA5 HB5
    by_cases hhk : H = K
    · have hHK : (H.toList == K.toList) = true := by rw [beq_dec]; exact decide_eq_true hhk
      have HC := Lib.hid (HCC.out hab hhk)
      obtain ⟨cb, hcb⟩ : ∃ cb, collB X Y = cb := ⟨_, rfl⟩
      have HCB := Lib.hid hcb
      clear hab hhk HCC hcb
      by_cases hll : X.length = Y.length
      · have q1 : ((X.length : Int) != (Y.length : Int)) = false := by rw [hll]; simp
        have q3 : ((X.length : Int) == (Y.length : Int)) = true := by rw [hll]; simp
        have q2 : ¬ (X.length : Int) < (Y.length : Int) := by omega
        have HT1 : Hid (cb = true) := by
          rcases HC.out with c | c
          · exact HCB.out.symm.trans c
          · exact absurd hll c.1
        clear HC hll
        go_wp2_with fail
        go_quiet (fail)
        have HL8 := Lib.hid (HL7.out.next (drewN_below (Below.refl _ _) nq))
        go_wp2_with fail
        refine (collide_any _ oA oB cA cB X Y (by omega) (by omega) Z1.out Z2.out HL8.out.a HL8.out.b HL8.out.tab).mono ?_
        rw [HCB.out, HT1.out]
        rintro e w9 ⟨rfl, hb9⟩
        have HL9 := Lib.hid (HL8.out.next hb9)
        clear hb9
        go_wp2_with fail
        go_ret
        exact ⟨rfl, HL9.out.bel⟩
      · have q1 : ((X.length : Int) != (Y.length : Int)) = true := by rw [bne_iff_ne]; omega
        have q4 : ((X.length : Int) == (Y.length : Int)) = false := by rw [beq_eq_false_iff_ne]; omega
        obtain ⟨mn, hmn⟩ : ∃ mn, min X.length Y.length = mn := ⟨_, rfl⟩
        have q5 : min (X.length : Int) (Y.length : Int) = (mn : Int) := by omega
        by_cases hlt : X.length < Y.length
        · have q2 : (X.length : Int) < (Y.length : Int) := by omega
          have q6 : (mn : Int) < (Y.length : Int) := by omega
          have q7 : (0 : Int) ≤ (mn : Int) := by omega
          have hmy : mn < Y.length := by omega
          obtain ⟨x, hx⟩ : ∃ x, Y[mn]? = some x := ⟨_, List.getElem?_eq_getElem hmy⟩
          obtain ⟨bl, ol, rfl, hbl⟩ := HL7.out.b.some (by omega)
          have cx := hbl.cell mn x hx
          have lx := hbl.lt
          obtain ⟨zb, hzb⟩ : ∃ zb, decide (shaB x = zB) = zb := ⟨_, rfl⟩
          have HOR : Hid (cb = true ∨ zb = true) := by
            rcases HC.out with c | c
            · exact .inl (HCB.out.symm.trans c)
            · refine .inr ?_
              rw [← hzb]
              have := c.2
              rw [if_pos hlt, hmn, List.getD_eq_getElem?_getD, hx] at this
              exact decide_eq_true this
          have e2 := beq_dec (shaB x) zB
          rw [hzb] at e2
          have hxz := Z2.out x (List.mem_of_getElem? hx)
          have HSX0 : ∀ W, Hid (L2 w oA (some ⟨bl, ol, none⟩) X Y W) → Calls Tryd.prog 26 #[.string x] W fun e w' => e = .returned (.string (shaB x)) ∧ Below W.heap.size W w' := fun W hW => sum_any x W (by omega) hW.out.tab
          obtain ⟨sx, hsx⟩ : ∃ sx, shaB x = sx := ⟨_, rfl⟩
          rw [hsx] at e2 HSX0
          have HSX := Lib.hid HSX0
          clear HC hll hmn hx hbl hzb hsx HSX0 hlt
          go_wp2_with fail
          /- REGION1 -/
          have hQ0 := cz_next (Below.refl _ _).drew (⟨cx, lx, HL7⟩ : _ ∧ _ ∧ Hid (L2 w oA (some ⟨bl, ol, none⟩) X Y w6))
          have HQ := Lib.hid hQ0
          refine wp_region_held_drew (S := fun w' => w'.cell? ⟨bl, ol + mn, none⟩ = some (.string x)) (by kernel_rfl) ?_ (fun hHeld => ?_)
          · exact hQ0.1
          clear hQ0 cx lx
          generalize w6.drew = z0 at HQ hHeld ⊢
          refine wpAnyH_take (i := 0) (oi := ⟨some 61, _, _, _, _, _⟩) (v := ?va0) rfl (by kernel_rfl) (by kernel_rfl) (by kernel_rfl) (fun _ _ _ h => h) (Or.inl ⟨by rfl, ?ya0⟩) (by assumption) ?ra0
          case ya0 => (intro w hSw; (try dsimp only at hSw); go_simp; (try (with_reducible rfl)))
          try simp only [Act.put, List.setIfInBounds_toArray, List.set_cons_zero, List.set_cons_succ]
          refine wpAnyH_take (i := 1) (oi := ⟨some 62, _, _, _, _, _⟩) (v := ?va1) rfl (by kernel_rfl) (by kernel_rfl) (by kernel_rfl) (fun _ _ _ h => h) (Or.inl ⟨by rfl, ?ya1⟩) (by assumption) ?ra1
          case ya1 => (intro w hSw; (try dsimp only at hSw); go_simp; (try (with_reducible rfl)))
          try simp only [Act.put, List.setIfInBounds_toArray, List.set_cons_zero, List.set_cons_succ]
          refine wpAnyH_take (i := 2) (oi := ⟨some 63, _, _, _, _, _⟩) (v := ?va2) rfl (by kernel_rfl) (by kernel_rfl) (by kernel_rfl) (fun _ _ _ h => h) (Or.inl ⟨by rfl, ?ya2⟩) (by assumption) ?ra2
          case ya2 => (intro w hSw; (try dsimp only at hSw); go_simp; (try (with_reducible rfl)))
          try simp only [Act.put, List.setIfInBounds_toArray, List.set_cons_zero, List.set_cons_succ]
          refine wpAnyH_take (i := 3) (oi := ⟨some 64, _, _, _, _, _⟩) (v := ?va3) rfl (by kernel_rfl) (by kernel_rfl) (by kernel_rfl) (fun _ _ _ h => h) (Or.inl ⟨by rfl, ?ya3⟩) (by assumption) ?ra3
          case ya3 => (intro w hSw; (try dsimp only at hSw); go_simp; (try (with_reducible rfl)))
          try simp only [Act.put, List.setIfInBounds_toArray, List.set_cons_zero, List.set_cons_succ]
          refine wpAnyH_take (i := 4) (oi := ⟨some 65, _, _, _, _, _⟩) (v := .bool true) rfl (by kernel_rfl) (by kernel_rfl) (by kernel_rfl) (fun _ _ _ h => h) (Or.inl ⟨by rfl, ?ya4⟩) (by assumption) ?ra4
          case ya4 => (intro w hSw; (try dsimp only at hSw); go_simp; (try (with_reducible rfl)))
          try simp only [Act.put, List.setIfInBounds_toArray, List.set_cons_zero, List.set_cons_succ]
          refine wpAnyH_take (i := 5) (oi := ⟨some 66, _, _, _, _, _⟩) (v := .bool true) rfl (by kernel_rfl) (by kernel_rfl) (by kernel_rfl) (fun _ _ _ h => h) (Or.inl ⟨by rfl, ?ya5⟩) (by assumption) ?ra5
          case ya5 => (intro w hSw; (try dsimp only at hSw); go_simp; (try (with_reducible rfl)))
          try simp only [Act.put, List.setIfInBounds_toArray, List.set_cons_zero, List.set_cons_succ]
          refine wpAnyH_take (i := 6) (oi := ⟨some 67, _, _, _, _, _⟩) (v := ?va6) rfl (by kernel_rfl) (by kernel_rfl) (by kernel_rfl) (fun _ _ _ h => h) (Or.inl ⟨by rfl, ?ya6⟩) (by assumption) ?ra6
          case ya6 => (intro w hSw; (try dsimp only at hSw); go_simp; (try (with_reducible rfl)))
          try simp only [Act.put, List.setIfInBounds_toArray, List.set_cons_zero, List.set_cons_succ]
          refine wpAnyH_take (i := 7) (oi := ⟨some 68, _, _, _, _, _⟩) (v := ?va7) rfl (by kernel_rfl) (by kernel_rfl) (by kernel_rfl) (fun _ _ _ h => h) (Or.inl ⟨by rfl, ?ya7⟩) (by assumption) ?ra7
          case ya7 => (intro w hSw; (try dsimp only at hSw); go_simp; (try (with_reducible rfl)))
          try simp only [Act.put, List.setIfInBounds_toArray, List.set_cons_zero, List.set_cons_succ]
          refine wpAnyH_take (i := 8) (oi := ⟨some 69, _, _, _, _, _⟩) (v := ?va8) rfl (by kernel_rfl) (by kernel_rfl) (by kernel_rfl) (fun _ _ _ h => h) (Or.inl ⟨by rfl, ?ya8⟩) (by assumption) ?ra8
          case ya8 => (intro w hSw; (try dsimp only at hSw); go_simp; (try (with_reducible rfl)))
          try simp only [Act.put, List.setIfInBounds_toArray, List.set_cons_zero, List.set_cons_succ]
          refine wpAnyH_take (i := 9) (oi := ⟨some 70, _, _, _, _, _⟩) (v := ?va9) rfl (by kernel_rfl) (by kernel_rfl) (by kernel_rfl) (fun _ _ _ h => h) (Or.inl ⟨by rfl, ?ya9⟩) (by assumption) ?ra9
          case ya9 => (intro w hSw; (try dsimp only at hSw); go_simp; (try (with_reducible rfl)))
          try simp only [Act.put, List.setIfInBounds_toArray, List.set_cons_zero, List.set_cons_succ]
          refine wpAnyH_take (i := 10) (oi := ⟨some 71, _, _, _, _, _⟩) (v := ?va10) rfl (by kernel_rfl) (by kernel_rfl) (by kernel_rfl) (fun _ _ _ h => h) (Or.inl ⟨by rfl, ?ya10⟩) (by assumption) ?ra10
          case ya10 => (intro w hSw; (try dsimp only at hSw); go_simp; (try (with_reducible rfl)))
          try simp only [Act.put, List.setIfInBounds_toArray, List.set_cons_zero, List.set_cons_succ]
          refine wpAnyH_take (i := 11) (oi := ⟨some 72, _, _, _, _, _⟩) (v := ?va11) rfl (by kernel_rfl) (by kernel_rfl) (by kernel_rfl) (fun _ _ _ h => h) (Or.inl ⟨by rfl, ?ya11⟩) (by assumption) ?ra11
          case ya11 => (intro w hSw; (try dsimp only at hSw); go_simp; (try (with_reducible rfl)))
          try simp only [Act.put, List.setIfInBounds_toArray, List.set_cons_zero, List.set_cons_succ]
          refine wpAnyH_take (i := 12) (oi := ⟨some 73, _, _, _, _, _⟩) (v := ?va12) rfl (by kernel_rfl) (by kernel_rfl) (by kernel_rfl) (fun _ _ _ h => h) (Or.inl ⟨by rfl, ?ya12⟩) (by assumption) ?ra12
          case ya12 => (intro w hSw; (try dsimp only at hSw); go_simp; (try (with_reducible rfl)))
          try simp only [Act.put, List.setIfInBounds_toArray, List.set_cons_zero, List.set_cons_succ]
          refine wpAnyH_take (i := 13) (oi := ⟨some 74, _, _, _, _, _⟩) (v := ?va13) rfl (by kernel_rfl) (by kernel_rfl) (by kernel_rfl) (fun _ _ _ h => h) (Or.inl ⟨by rfl, ?ya13⟩) (by assumption) ?ra13
          case ya13 => (intro w hSw; (try dsimp only at hSw); go_simp; (try (with_reducible rfl)))
          try simp only [Act.put, List.setIfInBounds_toArray, List.set_cons_zero, List.set_cons_succ]
          refine wpAnyH_ready (rs := [14, 15]) (by kernel_rfl) (by simp) (AllReadyH.cons (o := ⟨some 75, _, _, _, _, _⟩) rfl (fun K hK => ?_) (AllReadyH.cons (o := ⟨some 76, _, _, _, _, _⟩) rfl (fun K hK => ?_) AllReadyH.nil))
          · skip
            go_simp
            refine (HSX.out _ HQ.out.2.2).mono ?_
            rintro e z1 ⟨rfl, hz⟩
            have HQ := Lib.hid (cz_next hz HQ.out)
            go_simp
            refine hK.out _ _ ?_ (fun hHeld2 => ?_)
            · exact HQ.out.1
            clear hK K hHeld
            rename _ => hHeld
            try simp only [Act.put, List.setIfInBounds_toArray, List.set_cons_zero, List.set_cons_succ]
            refine wpAnyH_ready (rs := [15]) (by kernel_rfl) (by simp) (AllReadyH.cons (o := ⟨some 76, _, _, _, _, _⟩) rfl (fun K hK => ?_) AllReadyH.nil)
            have hmk := mk32 z1
            go_simp
            have HQ := Lib.hid (cz_next ((Below.refl _ z1).alloc (Nat.le_refl _) (.cells #[.int .u8 0, .int .u8 0, .int .u8 0, .int .u8 0, .int .u8 0, .int .u8 0, .int .u8 0, .int .u8 0, .int .u8 0, .int .u8 0, .int .u8 0, .int .u8 0, .int .u8 0, .int .u8 0, .int .u8 0, .int .u8 0, .int .u8 0, .int .u8 0, .int .u8 0, .int .u8 0, .int .u8 0, .int .u8 0, .int .u8 0, .int .u8 0, .int .u8 0, .int .u8 0, .int .u8 0, .int .u8 0, .int .u8 0, .int .u8 0, .int .u8 0, .int .u8 0] 5)) HQ.out)
            refine hK.out _ _ ?_ (fun hHeld2 => ?_)
            · exact HQ.out.1
            clear hK K hHeld
            rename _ => hHeld
            try simp only [Act.put, List.setIfInBounds_toArray, List.set_cons_zero, List.set_cons_succ]
            clear hmk
            refine wpAnyH_ready (rs := [16]) (by kernel_rfl) (by simp) (AllReadyH.cons (o := ⟨some 77, _, _, _, _, _⟩) rfl (fun K hK => ?_) AllReadyH.nil)
            have hcv := cv32 z1
            go_simp
            refine hK.out _ _ ?_ (fun hHeld2 => ?_)
            · exact HQ.out.1
            clear hK K hHeld
            rename _ => hHeld
            try simp only [Act.put, List.setIfInBounds_toArray, List.set_cons_zero, List.set_cons_succ]
            clear hcv
            refine wpAnyH_take (i := 17) (oi := ⟨some 78, _, _, _, _, _⟩) (v := ?vb17) rfl (by kernel_rfl) (by kernel_rfl) (by kernel_rfl) (fun _ _ _ h => h) (Or.inl ⟨by rfl, ?yb17⟩) (by assumption) ?rb17
            case yb17 => (intro w hSw; (try dsimp only at hSw); go_simp; (try (with_reducible rfl)))
            try simp only [Act.put, List.setIfInBounds_toArray, List.set_cons_zero, List.set_cons_succ]
            refine wpAnyH_take (i := 18) (oi := ⟨some 79, _, _, _, _, _⟩) (v := ?vb18) rfl (by kernel_rfl) (by kernel_rfl) (by kernel_rfl) (fun _ _ _ h => h) (Or.inl ⟨by rfl, ?yb18⟩) (by assumption) ?rb18
            case yb18 => (intro w hSw; (try dsimp only at hSw); go_simp; (try (with_reducible rfl)))
            try simp only [Act.put, List.setIfInBounds_toArray, List.set_cons_zero, List.set_cons_succ]
            refine wpAnyH_take (i := 19) (oi := ⟨some 12, _, _, _, _, _⟩) (v := ?vb19) rfl (by kernel_rfl) (by kernel_rfl) (by kernel_rfl) (fun _ _ _ h => h) (Or.inl ⟨by rfl, ?yb19⟩) (by assumption) ?rb19
            case yb19 => (intro w hSw; (try dsimp only at hSw); go_simp; (try (with_reducible rfl)))
            try simp only [Act.put, List.setIfInBounds_toArray, List.set_cons_zero, List.set_cons_succ]
            refine wpAnyH_done (by kernel_rfl) ?_ _
            clear hHeld
            have HL8 := Lib.hid HQ.out.2.2.out
            go_wp2_with fail
            refine (collide_any _ oA (some ⟨bl, ol, none⟩) cA cB X Y (by omega) (by omega) Z1.out Z2.out HL8.out.a HL8.out.b HL8.out.tab).mono ?_
            rw [HCB.out]
            rintro e w9 ⟨rfl, hb9⟩
            have HL9 := Lib.hid (HL8.out.next hb9)
            clear hb9
            cases cb with
            | true =>
              go_wp2_with fail
              go_ret
              exact ⟨rfl, HL9.out.bel⟩
            | false =>
              have hz1 : zb = true := by
                rcases HOR.out with c | c
                · cases c
                · exact c
              subst hz1
              go_wp2_with fail
              go_ret
              exact ⟨rfl, HL9.out.bel⟩
          · skip
            have hmk := mk32 z0
            go_simp
            have HQ := Lib.hid (cz_next ((Below.refl _ z0).alloc (Nat.le_refl _) (.cells #[.int .u8 0, .int .u8 0, .int .u8 0, .int .u8 0, .int .u8 0, .int .u8 0, .int .u8 0, .int .u8 0, .int .u8 0, .int .u8 0, .int .u8 0, .int .u8 0, .int .u8 0, .int .u8 0, .int .u8 0, .int .u8 0, .int .u8 0, .int .u8 0, .int .u8 0, .int .u8 0, .int .u8 0, .int .u8 0, .int .u8 0, .int .u8 0, .int .u8 0, .int .u8 0, .int .u8 0, .int .u8 0, .int .u8 0, .int .u8 0, .int .u8 0, .int .u8 0] 5)) HQ.out)
            refine hK.out _ _ ?_ (fun hHeld2 => ?_)
            · exact HQ.out.1
            clear hK K hHeld
            rename _ => hHeld
            try simp only [Act.put, List.setIfInBounds_toArray, List.set_cons_zero, List.set_cons_succ]
            clear hmk
            refine wpAnyH_ready (rs := [14, 16]) (by kernel_rfl) (by simp) (AllReadyH.cons (o := ⟨some 75, _, _, _, _, _⟩) rfl (fun K hK => ?_) (AllReadyH.cons (o := ⟨some 77, _, _, _, _, _⟩) rfl (fun K hK => ?_) AllReadyH.nil))
            · skip
              go_simp
              refine (HSX.out _ HQ.out.2.2).mono ?_
              rintro e z1 ⟨rfl, hz⟩
              have hcv := conv_after hz
              have HQ := Lib.hid (cz_next hz HQ.out)
              go_simp
              refine hK.out _ _ ?_ (fun hHeld2 => ?_)
              · exact HQ.out.1
              clear hK K hHeld
              rename _ => hHeld
              try simp only [Act.put, List.setIfInBounds_toArray, List.set_cons_zero, List.set_cons_succ]
              refine wpAnyH_ready (rs := [16]) (by kernel_rfl) (by simp) (AllReadyH.cons (o := ⟨some 77, _, _, _, _, _⟩) rfl (fun K hK => ?_) AllReadyH.nil)
              go_simp
              refine hK.out _ _ ?_ (fun hHeld2 => ?_)
              · exact HQ.out.1
              clear hK K hHeld
              rename _ => hHeld
              try simp only [Act.put, List.setIfInBounds_toArray, List.set_cons_zero, List.set_cons_succ]
              clear hcv
              refine wpAnyH_take (i := 17) (oi := ⟨some 78, _, _, _, _, _⟩) (v := ?vc17) rfl (by kernel_rfl) (by kernel_rfl) (by kernel_rfl) (fun _ _ _ h => h) (Or.inl ⟨by rfl, ?yc17⟩) (by assumption) ?rc17
              case yc17 => (intro w hSw; (try dsimp only at hSw); go_simp; (try (with_reducible rfl)))
              try simp only [Act.put, List.setIfInBounds_toArray, List.set_cons_zero, List.set_cons_succ]
              refine wpAnyH_take (i := 18) (oi := ⟨some 79, _, _, _, _, _⟩) (v := ?vc18) rfl (by kernel_rfl) (by kernel_rfl) (by kernel_rfl) (fun _ _ _ h => h) (Or.inl ⟨by rfl, ?yc18⟩) (by assumption) ?rc18
              case yc18 => (intro w hSw; (try dsimp only at hSw); go_simp; (try (with_reducible rfl)))
              try simp only [Act.put, List.setIfInBounds_toArray, List.set_cons_zero, List.set_cons_succ]
              refine wpAnyH_take (i := 19) (oi := ⟨some 12, _, _, _, _, _⟩) (v := ?vc19) rfl (by kernel_rfl) (by kernel_rfl) (by kernel_rfl) (fun _ _ _ h => h) (Or.inl ⟨by rfl, ?yc19⟩) (by assumption) ?rc19
              case yc19 => (intro w hSw; (try dsimp only at hSw); go_simp; (try (with_reducible rfl)))
              try simp only [Act.put, List.setIfInBounds_toArray, List.set_cons_zero, List.set_cons_succ]
              refine wpAnyH_done (by kernel_rfl) ?_ _
              clear hHeld
              have HL8 := Lib.hid HQ.out.2.2.out
              go_wp2_with fail
              refine (collide_any _ oA (some ⟨bl, ol, none⟩) cA cB X Y (by omega) (by omega) Z1.out Z2.out HL8.out.a HL8.out.b HL8.out.tab).mono ?_
              rw [HCB.out]
              rintro e w9 ⟨rfl, hb9⟩
              have HL9 := Lib.hid (HL8.out.next hb9)
              clear hb9
              cases cb with
              | true =>
                go_wp2_with fail
                go_ret
                exact ⟨rfl, HL9.out.bel⟩
              | false =>
                have hz1 : zb = true := by
                  rcases HOR.out with c | c
                  · cases c
                  · exact c
                subst hz1
                go_wp2_with fail
                go_ret
                exact ⟨rfl, HL9.out.bel⟩
            · skip
              have hcv := cv32 z0
              go_simp
              refine hK.out _ _ ?_ (fun hHeld2 => ?_)
              · exact HQ.out.1
              clear hK K hHeld
              rename _ => hHeld
              try simp only [Act.put, List.setIfInBounds_toArray, List.set_cons_zero, List.set_cons_succ]
              clear hcv
              refine wpAnyH_ready (rs := [14]) (by kernel_rfl) (by simp) (AllReadyH.cons (o := ⟨some 75, _, _, _, _, _⟩) rfl (fun K hK => ?_) AllReadyH.nil)
              go_simp
              refine (HSX.out _ HQ.out.2.2).mono ?_
              rintro e z1 ⟨rfl, hz⟩
              have HQ := Lib.hid (cz_next hz HQ.out)
              go_simp
              refine hK.out _ _ ?_ (fun hHeld2 => ?_)
              · exact HQ.out.1
              clear hK K hHeld
              rename _ => hHeld
              try simp only [Act.put, List.setIfInBounds_toArray, List.set_cons_zero, List.set_cons_succ]
              refine wpAnyH_take (i := 17) (oi := ⟨some 78, _, _, _, _, _⟩) (v := ?vd17) rfl (by kernel_rfl) (by kernel_rfl) (by kernel_rfl) (fun _ _ _ h => h) (Or.inl ⟨by rfl, ?yd17⟩) (by assumption) ?rd17
              case yd17 => (intro w hSw; (try dsimp only at hSw); go_simp; (try (with_reducible rfl)))
              try simp only [Act.put, List.setIfInBounds_toArray, List.set_cons_zero, List.set_cons_succ]
              refine wpAnyH_take (i := 18) (oi := ⟨some 79, _, _, _, _, _⟩) (v := ?vd18) rfl (by kernel_rfl) (by kernel_rfl) (by kernel_rfl) (fun _ _ _ h => h) (Or.inl ⟨by rfl, ?yd18⟩) (by assumption) ?rd18
              case yd18 => (intro w hSw; (try dsimp only at hSw); go_simp; (try (with_reducible rfl)))
              try simp only [Act.put, List.setIfInBounds_toArray, List.set_cons_zero, List.set_cons_succ]
              refine wpAnyH_take (i := 19) (oi := ⟨some 12, _, _, _, _, _⟩) (v := ?vd19) rfl (by kernel_rfl) (by kernel_rfl) (by kernel_rfl) (fun _ _ _ h => h) (Or.inl ⟨by rfl, ?yd19⟩) (by assumption) ?rd19
              case yd19 => (intro w hSw; (try dsimp only at hSw); go_simp; (try (with_reducible rfl)))
              try simp only [Act.put, List.setIfInBounds_toArray, List.set_cons_zero, List.set_cons_succ]
              refine wpAnyH_done (by kernel_rfl) ?_ _
              clear hHeld
              have HL8 := Lib.hid HQ.out.2.2.out
              go_wp2_with fail
              refine (collide_any _ oA (some ⟨bl, ol, none⟩) cA cB X Y (by omega) (by omega) Z1.out Z2.out HL8.out.a HL8.out.b HL8.out.tab).mono ?_
              rw [HCB.out]
              rintro e w9 ⟨rfl, hb9⟩
              have HL9 := Lib.hid (HL8.out.next hb9)
              clear hb9
              cases cb with
              | true =>
                go_wp2_with fail
                go_ret
                exact ⟨rfl, HL9.out.bel⟩
              | false =>
                have hz1 : zb = true := by
                  rcases HOR.out with c | c
                  · cases c
                  · exact c
                subst hz1
                go_wp2_with fail
                go_ret
                exact ⟨rfl, HL9.out.bel⟩
          /- END -/
        · have q2 : ¬ (X.length : Int) < (Y.length : Int) := by omega
          have q6 : (mn : Int) < (X.length : Int) := by omega
          have q7 : (0 : Int) ≤ (mn : Int) := by omega
          have hmy : mn < X.length := by omega
          obtain ⟨x, hx⟩ : ∃ x, X[mn]? = some x := ⟨_, List.getElem?_eq_getElem hmy⟩
          obtain ⟨bl, ol, rfl, hbl⟩ := HL7.out.a.some (by omega)
          have cx := hbl.cell mn x hx
          have lx := hbl.lt
          obtain ⟨zb, hzb⟩ : ∃ zb, decide (shaB x = zB) = zb := ⟨_, rfl⟩
          have HOR : Hid (cb = true ∨ zb = true) := by
            rcases HC.out with c | c
            · exact .inl (HCB.out.symm.trans c)
            · refine .inr ?_
              rw [← hzb]
              have := c.2
              rw [if_neg hlt, hmn, List.getD_eq_getElem?_getD, hx] at this
              exact decide_eq_true this
          have e2 := beq_dec (shaB x) zB
          rw [hzb] at e2
          have hxz := Z1.out x (List.mem_of_getElem? hx)
          have HSX0 : ∀ W, Hid (L2 w (some ⟨bl, ol, none⟩) oB X Y W) → Calls Tryd.prog 26 #[.string x] W fun e w' => e = .returned (.string (shaB x)) ∧ Below W.heap.size W w' := fun W hW => sum_any x W (by omega) hW.out.tab
          obtain ⟨sx, hsx⟩ : ∃ sx, shaB x = sx := ⟨_, rfl⟩
          rw [hsx] at e2 HSX0
          have HSX := Lib.hid HSX0
          clear HC hll hmn hx hbl hzb hsx HSX0 hlt
          go_wp2_with fail
          /- REGION2 -/
          have hQ0 := cz_next (Below.refl _ _).drew (⟨cx, lx, HL7⟩ : _ ∧ _ ∧ Hid (L2 w (some ⟨bl, ol, none⟩) oB X Y w6))
          have HQ := Lib.hid hQ0
          refine wp_region_held_drew (S := fun w' => w'.cell? ⟨bl, ol + mn, none⟩ = some (.string x)) (by kernel_rfl) ?_ (fun hHeld => ?_)
          · exact hQ0.1
          clear hQ0 cx lx
          generalize w6.drew = z0 at HQ hHeld ⊢
          refine wpAnyH_take (i := 0) (oi := ⟨some 61, _, _, _, _, _⟩) (v := ?vp0) rfl (by kernel_rfl) (by kernel_rfl) (by kernel_rfl) (fun _ _ _ h => h) (Or.inl ⟨by rfl, ?yp0⟩) (by assumption) ?rp0
          case yp0 => (intro w hSw; (try dsimp only at hSw); go_simp; (try (with_reducible rfl)))
          try simp only [Act.put, List.setIfInBounds_toArray, List.set_cons_zero, List.set_cons_succ]
          refine wpAnyH_take (i := 1) (oi := ⟨some 62, _, _, _, _, _⟩) (v := ?vp1) rfl (by kernel_rfl) (by kernel_rfl) (by kernel_rfl) (fun _ _ _ h => h) (Or.inl ⟨by rfl, ?yp1⟩) (by assumption) ?rp1
          case yp1 => (intro w hSw; (try dsimp only at hSw); go_simp; (try (with_reducible rfl)))
          try simp only [Act.put, List.setIfInBounds_toArray, List.set_cons_zero, List.set_cons_succ]
          refine wpAnyH_take (i := 2) (oi := ⟨some 63, _, _, _, _, _⟩) (v := ?vp2) rfl (by kernel_rfl) (by kernel_rfl) (by kernel_rfl) (fun _ _ _ h => h) (Or.inl ⟨by rfl, ?yp2⟩) (by assumption) ?rp2
          case yp2 => (intro w hSw; (try dsimp only at hSw); go_simp; (try (with_reducible rfl)))
          try simp only [Act.put, List.setIfInBounds_toArray, List.set_cons_zero, List.set_cons_succ]
          refine wpAnyH_take (i := 3) (oi := ⟨some 64, _, _, _, _, _⟩) (v := ?vp3) rfl (by kernel_rfl) (by kernel_rfl) (by kernel_rfl) (fun _ _ _ h => h) (Or.inl ⟨by rfl, ?yp3⟩) (by assumption) ?rp3
          case yp3 => (intro w hSw; (try dsimp only at hSw); go_simp; (try (with_reducible rfl)))
          try simp only [Act.put, List.setIfInBounds_toArray, List.set_cons_zero, List.set_cons_succ]
          refine wpAnyH_take (i := 4) (oi := ⟨some 65, _, _, _, _, _⟩) (v := .bool true) rfl (by kernel_rfl) (by kernel_rfl) (by kernel_rfl) (fun _ _ _ h => h) (Or.inl ⟨by rfl, ?yp4⟩) (by assumption) ?rp4
          case yp4 => (intro w hSw; (try dsimp only at hSw); go_simp; (try (with_reducible rfl)))
          try simp only [Act.put, List.setIfInBounds_toArray, List.set_cons_zero, List.set_cons_succ]
          refine wpAnyH_take (i := 5) (oi := ⟨some 66, _, _, _, _, _⟩) (v := .bool true) rfl (by kernel_rfl) (by kernel_rfl) (by kernel_rfl) (fun _ _ _ h => h) (Or.inl ⟨by rfl, ?yp5⟩) (by assumption) ?rp5
          case yp5 => (intro w hSw; (try dsimp only at hSw); go_simp; (try (with_reducible rfl)))
          try simp only [Act.put, List.setIfInBounds_toArray, List.set_cons_zero, List.set_cons_succ]
          refine wpAnyH_take (i := 6) (oi := ⟨some 67, _, _, _, _, _⟩) (v := ?vp6) rfl (by kernel_rfl) (by kernel_rfl) (by kernel_rfl) (fun _ _ _ h => h) (Or.inl ⟨by rfl, ?yp6⟩) (by assumption) ?rp6
          case yp6 => (intro w hSw; (try dsimp only at hSw); go_simp; (try (with_reducible rfl)))
          try simp only [Act.put, List.setIfInBounds_toArray, List.set_cons_zero, List.set_cons_succ]
          refine wpAnyH_take (i := 7) (oi := ⟨some 68, _, _, _, _, _⟩) (v := ?vp7) rfl (by kernel_rfl) (by kernel_rfl) (by kernel_rfl) (fun _ _ _ h => h) (Or.inl ⟨by rfl, ?yp7⟩) (by assumption) ?rp7
          case yp7 => (intro w hSw; (try dsimp only at hSw); go_simp; (try (with_reducible rfl)))
          try simp only [Act.put, List.setIfInBounds_toArray, List.set_cons_zero, List.set_cons_succ]
          refine wpAnyH_take (i := 8) (oi := ⟨some 69, _, _, _, _, _⟩) (v := ?vp8) rfl (by kernel_rfl) (by kernel_rfl) (by kernel_rfl) (fun _ _ _ h => h) (Or.inl ⟨by rfl, ?yp8⟩) (by assumption) ?rp8
          case yp8 => (intro w hSw; (try dsimp only at hSw); go_simp; (try (with_reducible rfl)))
          try simp only [Act.put, List.setIfInBounds_toArray, List.set_cons_zero, List.set_cons_succ]
          refine wpAnyH_take (i := 9) (oi := ⟨some 70, _, _, _, _, _⟩) (v := ?vp9) rfl (by kernel_rfl) (by kernel_rfl) (by kernel_rfl) (fun _ _ _ h => h) (Or.inl ⟨by rfl, ?yp9⟩) (by assumption) ?rp9
          case yp9 => (intro w hSw; (try dsimp only at hSw); go_simp; (try (with_reducible rfl)))
          try simp only [Act.put, List.setIfInBounds_toArray, List.set_cons_zero, List.set_cons_succ]
          refine wpAnyH_take (i := 10) (oi := ⟨some 71, _, _, _, _, _⟩) (v := ?vp10) rfl (by kernel_rfl) (by kernel_rfl) (by kernel_rfl) (fun _ _ _ h => h) (Or.inl ⟨by rfl, ?yp10⟩) (by assumption) ?rp10
          case yp10 => (intro w hSw; (try dsimp only at hSw); go_simp; (try (with_reducible rfl)))
          try simp only [Act.put, List.setIfInBounds_toArray, List.set_cons_zero, List.set_cons_succ]
          refine wpAnyH_take (i := 11) (oi := ⟨some 72, _, _, _, _, _⟩) (v := ?vp11) rfl (by kernel_rfl) (by kernel_rfl) (by kernel_rfl) (fun _ _ _ h => h) (Or.inl ⟨by rfl, ?yp11⟩) (by assumption) ?rp11
          case yp11 => (intro w hSw; (try dsimp only at hSw); go_simp; (try (with_reducible rfl)))
          try simp only [Act.put, List.setIfInBounds_toArray, List.set_cons_zero, List.set_cons_succ]
          refine wpAnyH_take (i := 12) (oi := ⟨some 73, _, _, _, _, _⟩) (v := ?vp12) rfl (by kernel_rfl) (by kernel_rfl) (by kernel_rfl) (fun _ _ _ h => h) (Or.inl ⟨by rfl, ?yp12⟩) (by assumption) ?rp12
          case yp12 => (intro w hSw; (try dsimp only at hSw); go_simp; (try (with_reducible rfl)))
          try simp only [Act.put, List.setIfInBounds_toArray, List.set_cons_zero, List.set_cons_succ]
          refine wpAnyH_take (i := 13) (oi := ⟨some 74, _, _, _, _, _⟩) (v := ?vp13) rfl (by kernel_rfl) (by kernel_rfl) (by kernel_rfl) (fun _ _ _ h => h) (Or.inl ⟨by rfl, ?yp13⟩) (by assumption) ?rp13
          case yp13 => (intro w hSw; (try dsimp only at hSw); go_simp; (try (with_reducible rfl)))
          try simp only [Act.put, List.setIfInBounds_toArray, List.set_cons_zero, List.set_cons_succ]
          refine wpAnyH_ready (rs := [14, 15]) (by kernel_rfl) (by simp) (AllReadyH.cons (o := ⟨some 75, _, _, _, _, _⟩) rfl (fun K hK => ?_) (AllReadyH.cons (o := ⟨some 76, _, _, _, _, _⟩) rfl (fun K hK => ?_) AllReadyH.nil))
          · skip
            go_simp
            refine (HSX.out _ HQ.out.2.2).mono ?_
            rintro e z1 ⟨rfl, hz⟩
            have HQ := Lib.hid (cz_next hz HQ.out)
            go_simp
            refine hK.out _ _ ?_ (fun hHeld2 => ?_)
            · exact HQ.out.1
            clear hK K hHeld
            rename _ => hHeld
            try simp only [Act.put, List.setIfInBounds_toArray, List.set_cons_zero, List.set_cons_succ]
            refine wpAnyH_ready (rs := [15]) (by kernel_rfl) (by simp) (AllReadyH.cons (o := ⟨some 76, _, _, _, _, _⟩) rfl (fun K hK => ?_) AllReadyH.nil)
            have hmk := mk32 z1
            go_simp
            have HQ := Lib.hid (cz_next ((Below.refl _ z1).alloc (Nat.le_refl _) (.cells #[.int .u8 0, .int .u8 0, .int .u8 0, .int .u8 0, .int .u8 0, .int .u8 0, .int .u8 0, .int .u8 0, .int .u8 0, .int .u8 0, .int .u8 0, .int .u8 0, .int .u8 0, .int .u8 0, .int .u8 0, .int .u8 0, .int .u8 0, .int .u8 0, .int .u8 0, .int .u8 0, .int .u8 0, .int .u8 0, .int .u8 0, .int .u8 0, .int .u8 0, .int .u8 0, .int .u8 0, .int .u8 0, .int .u8 0, .int .u8 0, .int .u8 0, .int .u8 0] 5)) HQ.out)
            refine hK.out _ _ ?_ (fun hHeld2 => ?_)
            · exact HQ.out.1
            clear hK K hHeld
            rename _ => hHeld
            try simp only [Act.put, List.setIfInBounds_toArray, List.set_cons_zero, List.set_cons_succ]
            clear hmk
            refine wpAnyH_ready (rs := [16]) (by kernel_rfl) (by simp) (AllReadyH.cons (o := ⟨some 77, _, _, _, _, _⟩) rfl (fun K hK => ?_) AllReadyH.nil)
            have hcv := cv32 z1
            go_simp
            refine hK.out _ _ ?_ (fun hHeld2 => ?_)
            · exact HQ.out.1
            clear hK K hHeld
            rename _ => hHeld
            try simp only [Act.put, List.setIfInBounds_toArray, List.set_cons_zero, List.set_cons_succ]
            clear hcv
            refine wpAnyH_take (i := 17) (oi := ⟨some 78, _, _, _, _, _⟩) (v := ?vq17) rfl (by kernel_rfl) (by kernel_rfl) (by kernel_rfl) (fun _ _ _ h => h) (Or.inl ⟨by rfl, ?yq17⟩) (by assumption) ?rq17
            case yq17 => (intro w hSw; (try dsimp only at hSw); go_simp; (try (with_reducible rfl)))
            try simp only [Act.put, List.setIfInBounds_toArray, List.set_cons_zero, List.set_cons_succ]
            refine wpAnyH_take (i := 18) (oi := ⟨some 79, _, _, _, _, _⟩) (v := ?vq18) rfl (by kernel_rfl) (by kernel_rfl) (by kernel_rfl) (fun _ _ _ h => h) (Or.inl ⟨by rfl, ?yq18⟩) (by assumption) ?rq18
            case yq18 => (intro w hSw; (try dsimp only at hSw); go_simp; (try (with_reducible rfl)))
            try simp only [Act.put, List.setIfInBounds_toArray, List.set_cons_zero, List.set_cons_succ]
            refine wpAnyH_take (i := 19) (oi := ⟨some 12, _, _, _, _, _⟩) (v := ?vq19) rfl (by kernel_rfl) (by kernel_rfl) (by kernel_rfl) (fun _ _ _ h => h) (Or.inl ⟨by rfl, ?yq19⟩) (by assumption) ?rq19
            case yq19 => (intro w hSw; (try dsimp only at hSw); go_simp; (try (with_reducible rfl)))
            try simp only [Act.put, List.setIfInBounds_toArray, List.set_cons_zero, List.set_cons_succ]
            refine wpAnyH_done (by kernel_rfl) ?_ _
            clear hHeld
            have HL8 := Lib.hid HQ.out.2.2.out
            go_wp2_with fail
            refine (collide_any _ (some ⟨bl, ol, none⟩) oB cA cB X Y (by omega) (by omega) Z1.out Z2.out HL8.out.a HL8.out.b HL8.out.tab).mono ?_
            rw [HCB.out]
            rintro e w9 ⟨rfl, hb9⟩
            have HL9 := Lib.hid (HL8.out.next hb9)
            clear hb9
            cases cb with
            | true =>
              go_wp2_with fail
              go_ret
              exact ⟨rfl, HL9.out.bel⟩
            | false =>
              have hz1 : zb = true := by
                rcases HOR.out with c | c
                · cases c
                · exact c
              subst hz1
              go_wp2_with fail
              go_ret
              exact ⟨rfl, HL9.out.bel⟩
          · skip
            have hmk := mk32 z0
            go_simp
            have HQ := Lib.hid (cz_next ((Below.refl _ z0).alloc (Nat.le_refl _) (.cells #[.int .u8 0, .int .u8 0, .int .u8 0, .int .u8 0, .int .u8 0, .int .u8 0, .int .u8 0, .int .u8 0, .int .u8 0, .int .u8 0, .int .u8 0, .int .u8 0, .int .u8 0, .int .u8 0, .int .u8 0, .int .u8 0, .int .u8 0, .int .u8 0, .int .u8 0, .int .u8 0, .int .u8 0, .int .u8 0, .int .u8 0, .int .u8 0, .int .u8 0, .int .u8 0, .int .u8 0, .int .u8 0, .int .u8 0, .int .u8 0, .int .u8 0, .int .u8 0] 5)) HQ.out)
            refine hK.out _ _ ?_ (fun hHeld2 => ?_)
            · exact HQ.out.1
            clear hK K hHeld
            rename _ => hHeld
            try simp only [Act.put, List.setIfInBounds_toArray, List.set_cons_zero, List.set_cons_succ]
            clear hmk
            refine wpAnyH_ready (rs := [14, 16]) (by kernel_rfl) (by simp) (AllReadyH.cons (o := ⟨some 75, _, _, _, _, _⟩) rfl (fun K hK => ?_) (AllReadyH.cons (o := ⟨some 77, _, _, _, _, _⟩) rfl (fun K hK => ?_) AllReadyH.nil))
            · skip
              go_simp
              refine (HSX.out _ HQ.out.2.2).mono ?_
              rintro e z1 ⟨rfl, hz⟩
              have hcv := conv_after hz
              have HQ := Lib.hid (cz_next hz HQ.out)
              go_simp
              refine hK.out _ _ ?_ (fun hHeld2 => ?_)
              · exact HQ.out.1
              clear hK K hHeld
              rename _ => hHeld
              try simp only [Act.put, List.setIfInBounds_toArray, List.set_cons_zero, List.set_cons_succ]
              refine wpAnyH_ready (rs := [16]) (by kernel_rfl) (by simp) (AllReadyH.cons (o := ⟨some 77, _, _, _, _, _⟩) rfl (fun K hK => ?_) AllReadyH.nil)
              go_simp
              refine hK.out _ _ ?_ (fun hHeld2 => ?_)
              · exact HQ.out.1
              clear hK K hHeld
              rename _ => hHeld
              try simp only [Act.put, List.setIfInBounds_toArray, List.set_cons_zero, List.set_cons_succ]
              clear hcv
              refine wpAnyH_take (i := 17) (oi := ⟨some 78, _, _, _, _, _⟩) (v := ?vr17) rfl (by kernel_rfl) (by kernel_rfl) (by kernel_rfl) (fun _ _ _ h => h) (Or.inl ⟨by rfl, ?yr17⟩) (by assumption) ?rr17
              case yr17 => (intro w hSw; (try dsimp only at hSw); go_simp; (try (with_reducible rfl)))
              try simp only [Act.put, List.setIfInBounds_toArray, List.set_cons_zero, List.set_cons_succ]
              refine wpAnyH_take (i := 18) (oi := ⟨some 79, _, _, _, _, _⟩) (v := ?vr18) rfl (by kernel_rfl) (by kernel_rfl) (by kernel_rfl) (fun _ _ _ h => h) (Or.inl ⟨by rfl, ?yr18⟩) (by assumption) ?rr18
              case yr18 => (intro w hSw; (try dsimp only at hSw); go_simp; (try (with_reducible rfl)))
              try simp only [Act.put, List.setIfInBounds_toArray, List.set_cons_zero, List.set_cons_succ]
              refine wpAnyH_take (i := 19) (oi := ⟨some 12, _, _, _, _, _⟩) (v := ?vr19) rfl (by kernel_rfl) (by kernel_rfl) (by kernel_rfl) (fun _ _ _ h => h) (Or.inl ⟨by rfl, ?yr19⟩) (by assumption) ?rr19
              case yr19 => (intro w hSw; (try dsimp only at hSw); go_simp; (try (with_reducible rfl)))
              try simp only [Act.put, List.setIfInBounds_toArray, List.set_cons_zero, List.set_cons_succ]
              refine wpAnyH_done (by kernel_rfl) ?_ _
              clear hHeld
              have HL8 := Lib.hid HQ.out.2.2.out
              go_wp2_with fail
              refine (collide_any _ (some ⟨bl, ol, none⟩) oB cA cB X Y (by omega) (by omega) Z1.out Z2.out HL8.out.a HL8.out.b HL8.out.tab).mono ?_
              rw [HCB.out]
              rintro e w9 ⟨rfl, hb9⟩
              have HL9 := Lib.hid (HL8.out.next hb9)
              clear hb9
              cases cb with
              | true =>
                go_wp2_with fail
                go_ret
                exact ⟨rfl, HL9.out.bel⟩
              | false =>
                have hz1 : zb = true := by
                  rcases HOR.out with c | c
                  · cases c
                  · exact c
                subst hz1
                go_wp2_with fail
                go_ret
                exact ⟨rfl, HL9.out.bel⟩
            · skip
              have hcv := cv32 z0
              go_simp
              refine hK.out _ _ ?_ (fun hHeld2 => ?_)
              · exact HQ.out.1
              clear hK K hHeld
              rename _ => hHeld
              try simp only [Act.put, List.setIfInBounds_toArray, List.set_cons_zero, List.set_cons_succ]
              clear hcv
              refine wpAnyH_ready (rs := [14]) (by kernel_rfl) (by simp) (AllReadyH.cons (o := ⟨some 75, _, _, _, _, _⟩) rfl (fun K hK => ?_) AllReadyH.nil)
              go_simp
              refine (HSX.out _ HQ.out.2.2).mono ?_
              rintro e z1 ⟨rfl, hz⟩
              have HQ := Lib.hid (cz_next hz HQ.out)
              go_simp
              refine hK.out _ _ ?_ (fun hHeld2 => ?_)
              · exact HQ.out.1
              clear hK K hHeld
              rename _ => hHeld
              try simp only [Act.put, List.setIfInBounds_toArray, List.set_cons_zero, List.set_cons_succ]
              refine wpAnyH_take (i := 17) (oi := ⟨some 78, _, _, _, _, _⟩) (v := ?vs17) rfl (by kernel_rfl) (by kernel_rfl) (by kernel_rfl) (fun _ _ _ h => h) (Or.inl ⟨by rfl, ?ys17⟩) (by assumption) ?rs17
              case ys17 => (intro w hSw; (try dsimp only at hSw); go_simp; (try (with_reducible rfl)))
              try simp only [Act.put, List.setIfInBounds_toArray, List.set_cons_zero, List.set_cons_succ]
              refine wpAnyH_take (i := 18) (oi := ⟨some 79, _, _, _, _, _⟩) (v := ?vs18) rfl (by kernel_rfl) (by kernel_rfl) (by kernel_rfl) (fun _ _ _ h => h) (Or.inl ⟨by rfl, ?ys18⟩) (by assumption) ?rs18
              case ys18 => (intro w hSw; (try dsimp only at hSw); go_simp; (try (with_reducible rfl)))
              try simp only [Act.put, List.setIfInBounds_toArray, List.set_cons_zero, List.set_cons_succ]
              refine wpAnyH_take (i := 19) (oi := ⟨some 12, _, _, _, _, _⟩) (v := ?vs19) rfl (by kernel_rfl) (by kernel_rfl) (by kernel_rfl) (fun _ _ _ h => h) (Or.inl ⟨by rfl, ?ys19⟩) (by assumption) ?rs19
              case ys19 => (intro w hSw; (try dsimp only at hSw); go_simp; (try (with_reducible rfl)))
              try simp only [Act.put, List.setIfInBounds_toArray, List.set_cons_zero, List.set_cons_succ]
              refine wpAnyH_done (by kernel_rfl) ?_ _
              clear hHeld
              have HL8 := Lib.hid HQ.out.2.2.out
              go_wp2_with fail
              refine (collide_any _ (some ⟨bl, ol, none⟩) oB cA cB X Y (by omega) (by omega) Z1.out Z2.out HL8.out.a HL8.out.b HL8.out.tab).mono ?_
              rw [HCB.out]
              rintro e w9 ⟨rfl, hb9⟩
              have HL9 := Lib.hid (HL8.out.next hb9)
              clear hb9
              cases cb with
              | true =>
                go_wp2_with fail
                go_ret
                exact ⟨rfl, HL9.out.bel⟩
              | false =>
                have hz1 : zb = true := by
                  rcases HOR.out with c | c
                  · cases c
                  · exact c
                subst hz1
                go_wp2_with fail
                go_ret
                exact ⟨rfl, HL9.out.bel⟩
          /- END -/
    · have hHK : (H.toList == K.toList) = false := by rw [beq_dec]; exact decide_eq_false hhk
      clear hhk hab HCC
      go_wp2_with fail
      go_ret
      exact ⟨rfl, HL7.out.bel⟩
end Go.Proofs.YtggnldljfjhhcaaDoor
