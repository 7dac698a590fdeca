/-
  The walk of the law CaptionEditMatchesReference.
-/
import Derived.WalkKit
import Derived.LoopTactic
import Derived.WalkSpells
import Derived.WalkLawsBesides
import Derived.RegionTactic
import Derived.BigRegion
import Derived.Deep.QuietTactic
import Derived.Deep.RegionHeld3
import Derived.BigQuiet
import Derived.IntWalk
import Derived.Outline
import Derived.Test.YtjmfhdnckgelaaaCapSane
import Derived.Test.YtjmfhdnckgelaaaCapRefE
import Derived.Test.YtjmfhdnckgelaaaCapOpen
set_option linter.unusedVariables false
set_option linter.unusedSimpArgs false
namespace Go.Proofs.Ytjmfhdnckgelaaa
open Go.RowKit
/-- Two copies of a list. -/
structure Two (W wr : World) (o1 o2 : Option Addr) (L : List Cue) : Prop where
  a : RdC wr o1 L
  b : RdC wr o2 L
  bel : Below W.heap.size W wr
theorem Two.below {W wr w' : World} {o1 o2 : Option Addr} {L : List Cue} (h : Two W wr o1 o2 L) (hb : Below wr.heap.size wr w') : Two W w' o1 o2 L := ⟨h.a.kept hb, h.b.kept hb, bstep h.bel hb⟩
theorem editR_len200 (l : List Cue) (c : Cue) : (editR l c).length ≤ 200 := by
  unfold editR
  split
  · rename_i h
    unfold editOk at h
    simp only [Bool.and_eq_true, decide_eq_true_eq] at h
    exact h.2
  · simp
set_option maxHeartbeats 8000000 in
set_option maxRecDepth 100000 in
theorem walkEditMatches (W : World) (oa : Option Addr) (cap : Nat) (l : List Cue) (ob : Option Addr) (cbp : Nat) (ed : List Cue) (hok : ∀ c ∈ l, c.Ok) (hl : l.length ≤ maxLen) (hr : RdC W oa l) (heo : ∀ c ∈ ed, c.Ok) (hel : ed.length ≤ maxLen) (her : RdC W ob ed) :
    Calls Try.prog 4 #[.slice oa l.length cap, .slice ob ed.length cbp] W fun e w' => e = .returned (.bool true) ∧ Below W.heap.size W w' := by
  have HR := Lib.hid hr
  have HOK := Lib.hid hok
  have HER := Lib.hid her
  have HEO := Lib.hid heo
  clear hr hok her heo
  have hel' := hel
  unfold maxLen at hel'
  go_enter Try.func4, Try.ntmps4
  go_wp2_with fail
  refine (sane_any W).mono ?_
  rintro e w1 ⟨rfl, hb1⟩
  have HB1 := Lib.hid hb1
  clear hb1
  go_wp2_with fail
  refine (cut_any w1 oa cap l HOK.out hl (HR.out.kept HB1.out)).mono ?_
  have hll := cutC_len l
  obtain ⟨L0, hL0⟩ : ∃ L0, cutC l = L0 := ⟨_, rfl⟩
  rw [hL0] at hll ⊢
  have HL0 := Lib.hid hL0
  clear hL0
  rintro e w2 ⟨o1, c1, rfl, ho2, hb2⟩
  have HA2 := Lib.hid (own_rdc ho2).2
  have HB2 := Lib.hid (bstep HB1.out hb2)
  clear ho2 hb2 HB1
  go_wp2_with fail
  refine (cut_any w2 oa cap l HOK.out hl (HR.out.kept HB2.out)).mono ?_
  rw [HL0.out]
  rintro e w3 ⟨o2, c2, rfl, ho3, hb3⟩
  have HT : Hid (Two W w3 o1 o2 L0) := ⟨HA2.out.kept hb3, (own_rdc ho3).2, bstep HB2.out hb3⟩
  clear ho3 hb3 HA2 HB2 HR HOK hl HL0
  go_wp2_with fail
  go_loopw [6, 7, 8] (fun va vb i wr => ∃ (k : Nat) (o1 : Option Addr) (c1 : Nat) (o2 : Option Addr) (c2 : Nat) (L : List Cue), k ≤ 20 ∧ k ≤ ed.length ∧ i = .int .i64 k ∧ va = .slice o1 L.length c1 ∧ vb = .slice o2 L.length c2 ∧ L.length ≤ 210 ∧ Hid (Two W wr o1 o2 L)) (fun _ _ i _ => 20 - (intOf i).toNat)
  case atStart => exact ⟨0, o1, c1, o2, c2, L0, Nat.zero_le _, Nat.zero_le _, rfl, rfl, rfl, hll, HT⟩
  case round =>
    clear HT
    obtain ⟨k, o1, c1, o2, c2, L, hk20, hkl, rfl, rfl, rfl, hLl, HT⟩ := hrel
    by_cases hend : k = ed.length ∨ k = 20
    · rcases (show ((k : Int) < ed.length ∧ ¬ (k : Int) < 20) ∨ ¬ (k : Int) < ed.length from by
        by_cases h : (k : Int) < ed.length
        · exact .inl ⟨h, by omega⟩
        · exact .inr h) with ⟨q1, q2⟩ | q1
      all_goals
        clear hend
        go_wp2_with fail
        go_ret
        exact ⟨rfl, HT.out.bel⟩
    · have hk1 : (k : Int) < ed.length := by omega
      have hk2 : (k : Int) < 20 := by omega
      have hk3 : k < ed.length := by omega
      obtain ⟨g, off, rfl, c0, d1, d2, d3, d4⟩ := (HER.out.kept HT.out.bel).at k hk3
      have hg := (HER.out.kept HT.out.bel).lt k hk3
      have hxo := HEO.out _ (List.getElem_mem hk3)
      generalize ed[k] = x at c0 d1 d2 d3 d4 hxo
      clear hend
      go_wp2_with fail
      refine (edit_any wr o1 c1 L x hxo (by omega) HT.out.a).mono ?_
      have hrl := editR_len200 L x
      have her2 : editE L x = 0 ∨ editE L x = 150 := by unfold editE; split <;> simp
      obtain ⟨R, hR⟩ : ∃ R, editR L x = R := ⟨_, rfl⟩
      obtain ⟨E, hE⟩ : ∃ E, editE L x = E := ⟨_, rfl⟩
      rw [hR, hE]
      rw [hR] at hrl
      rw [hE] at her2
      have HRR := Lib.hid hR
      have HEE := Lib.hid hE
      clear hR hE
      rintro e w4 ⟨o3, c3, rfl, ho4, hb4⟩
      have HT4 := Lib.hid (HT.out.below hb4)
      have HX4 := Lib.hid (own_rdc ho4).2
      have e0 := (hb4.cell (p := ⟨g, off + k * 5, none⟩) hg).trans c0
      have e1 := (hb4.cell (p := ⟨g, off + k * 5 + 1, none⟩) hg).trans d1
      have e2 := (hb4.cell (p := ⟨g, off + k * 5 + 2, none⟩) hg).trans d2
      have e3 := (hb4.cell (p := ⟨g, off + k * 5 + 3, none⟩) hg).trans d3
      have e4 := (hb4.cell (p := ⟨g, off + k * 5 + 4, none⟩) hg).trans d4
      clear ho4 hb4 HT c0 d1 d2 d3 d4 hg
      go_wp2_with fail
      refine (refEdit_any w4 o2 c2 L x hxo (by omega) HT4.out.b).mono ?_
      rw [HRR.out, HEE.out]
      rintro e w5 ⟨o4, c4, rfl, ho5, hb5⟩
      have HT5 := Lib.hid (HT4.out.below hb5)
      have HU : Hid (Two W w5 o3 o4 R) := ⟨HX4.out.kept hb5, (own_rdc ho5).2, HT5.out.bel⟩
      clear ho5 hb5 HT4 HX4 e0 e1 e2 e3 e4
      have hEn : (E != E) = false := by simp
      go_wp2_with fail
      refine (refSame_any w5 o3 o4 c3 c4 R R (by omega) (by omega) HU.out.a HU.out.b).mono ?_
      rw [decide_eq_true rfl]
      rintro e w6 ⟨rfl, hb6⟩
      have HT6 := Lib.hid (HT5.out.below hb6)
      have HU6 := Lib.hid (HU.out.below hb6)
      clear hb6 HT5 HU
      rcases her2 with rfl | rfl
      · go_wp2_with fail
        go_roundw
        case rel => exact ⟨k + 1, o3, c3, o4, c4, R, by omega, by omega, by go_num, rfl, rfl, by omega, HU6⟩
        case measure => simp [intOf]; omega
      · go_wp2_with fail
        go_roundw
        case rel => exact ⟨k + 1, o1, c1, o2, c2, L, by omega, by omega, by go_num, rfl, rfl, by omega, HT6⟩
        case measure => simp [intOf]; omega
end Go.Proofs.Ytjmfhdnckgelaaa
