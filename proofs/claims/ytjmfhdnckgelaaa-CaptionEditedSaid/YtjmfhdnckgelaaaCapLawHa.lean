/-
  The walk of the law CaptionEdited. Printed by mkedited.py.
-/
import Derived.WalkKit
import Derived.LoopTactic
import Derived.WalkSpells
import Derived.WalkLawsBesides
import Derived.RegionTactic
import Derived.BigRegion
import Derived.Deep.QuietTactic
import Derived.Deep.RegionHeld
import Derived.BigQuiet
import Derived.IntWalk
import Derived.Outline
import Derived.Test.YtjmfhdnckgelaaaCapEdQ
import Derived.Test.YtjmfhdnckgelaaaCapSane
import Derived.Test.YtjmfhdnckgelaaaCapEdP
import Derived.Test.YtjmfhdnckgelaaaCapOpen
set_option linter.unusedVariables false
set_option linter.unusedSimpArgs false
namespace Go.Proofs.Ytjmfhdnckgelaaa
open Go.RowKit
set_option maxHeartbeats 8000000 in
set_option maxRecDepth 100000 in
theorem walkEditedA (W : World) (oa : Option Addr) (cap : Nat) (l : List Cue) (c : Cue) (hok : ∀ c ∈ l, c.Ok) (hl : l.length ≤ maxLen) (hr : RdC W oa l) (hc : c.Ok) (hto : c.to = 0) :
    Calls Try.prog 7 #[.slice oa l.length cap, .agg #[.int .i64 c.id, .int .i64 c.fr, .int .i64 c.to, .int .i64 c.pr, .string c.tx]] W fun e w' => e = .returned (.bool true) ∧ Below W.heap.size W w' := by
  have HTO := Lib.hid hto
  clear hto
  have HR := Lib.hid hr
  have HOK := Lib.hid hok
  clear hr hok
  go_enter Try.func7, Try.ntmps7
  go_wp2_with fail
  refine (sane_any _).mono ?_
  rintro e w1 ⟨rfl, hb1⟩
  have hcb : Blk (W.alloc (.cells #[.int .i64 c.id, .int .i64 c.fr, .int .i64 c.to, .int .i64 c.pr, .string c.tx] 24)) W.heap.size 24 c.cells := Blk.new W 24 c.cells
  have HC1 := Lib.hid (hcb.kept (hb1.block _ hcb.lt))
  have HB1 := Lib.hid (bstep ((Below.refl _ W).alloc (Nat.le_refl _) (.cells #[.int .i64 c.id, .int .i64 c.fr, .int .i64 c.to, .int .i64 c.pr, .string c.tx] 24)) hb1)
  clear hb1 hcb
  go_wp2_with fail
  refine (cut_any w1 oa cap l HOK.out hl (HR.out.kept HB1.out)).mono ?_
  have hll := cutC_len l
  generalize cutC l = L at hll ⊢
  rintro e w2 ⟨ol, cl, rfl, ho2, hb2⟩
  have HL2 := Lib.hid (own_rdc ho2).2
  have HC2 := Lib.hid (HC1.out.kept (hb2.block _ HC1.out.lt))
  have HB2 := Lib.hid (bstep HB1.out hb2)
  clear hb2 ho2 HR HOK hl HC1 HB1
  obtain ⟨b0, b1, b2, b3, b4⟩ := cue_cells HC2.out
  go_wp2_with fail
  clear b0 b1 b2 b3 b4
  refine (edit_any w2 ol cl L c hc (by omega) HL2.out).mono ?_
  cases hE : editOk L c
  · have he : editE L c = 150 := by unfold editE; rw [hE]; rfl
    have hrr : editR L c = [] := by unfold editR; rw [hE]; rfl
    rw [he, hrr]
    have HE := Lib.hid hE
    clear he hrr hE
    rintro e w3 ⟨om, cm, rfl, ho3, hb3⟩
    have HC3 := Lib.hid (HC2.out.kept (hb3.block _ HC2.out.lt))
    have HB3 := Lib.hid (bstep HB2.out hb3)
    clear ho3 hb3 HL2 HC2 HB2
    obtain ⟨b0, b1, b2, b3, b4⟩ := cue_cells HC3.out
    go_wp2_with fail
    clear b0 b1 b2 b3 b4
    refine (valid_any c w3 hc).mono ?_
    rintro e w4 ⟨rfl, hb4⟩
    have HB4 := Lib.hid (bstep HB3.out hb4)
    clear hb4 HC3 HB3
    cases hv : validB c
    · clear hv HE
      go_wp2_with fail
      go_ret
      exact ⟨rfl, HB4.out⟩
    · have h200 : (200 : Int) ≤ (L.length : Int) := by
        have h1 := HE.out
        unfold editOk at h1
        rw [hv, Bool.true_and, decide_eq_false_iff_not] at h1
        have h2 := edit_len L c
        omega
      clear hv HE
      go_wp2_with fail
      go_ret
      exact ⟨rfl, HB4.out⟩
  · have hE2 := hE
    unfold editOk at hE2
    rw [Bool.and_eq_true, decide_eq_true_eq] at hE2
    have he : editE L c = 0 := by unfold editE; rw [hE]; rfl
    have hrr : editR L c = editL L c := by unfold editR; rw [hE]; rfl
    rw [he, hrr]
    have hML := hE2.2
    have HV := Lib.hid hE2.1
    have HF := Lib.hid (find_edit L c)
    have HRE := Lib.hid (rest_edit L c)
    have HAG := Lib.hid (edit_again L c)
    have HAS := Lib.hid (edit_asc L c)
    clear he hrr hE hE2
    generalize editL L c = M at hML HF HRE HAG HAS ⊢
    rintro e w3 ⟨om, cm, rfl, ho3, hb3⟩
    have HD3 : Hid (Ed W w3 W.heap.size c ol L om M) := ⟨HC2.out.kept (hb3.block _ HC2.out.lt), HL2.out.kept hb3, (own_rdc ho3).2, bstep HB2.out hb3⟩
    clear ho3 hb3 HL2 HC2 HB2
    obtain ⟨b0, b1, b2, b3, b4⟩ := cue_cells HD3.out.c
    go_wp2_with fail
    clear b0 b1 b2 b3 b4
    refine (find_any w3 om cm M c.id (by omega) HD3.out.m).mono ?_
    have hto := HTO.out
    clear HTO
    have hF : findL M c.id = [] := by rw [HF.out, if_neg (by simp [hto])]
    rw [hF]
    clear hF HF
    rintro e w4 ⟨of, cf, rfl, ho4, hb4⟩
    have HD4 := Lib.hid (HD3.out.below hb4)
    have hto' : (c.to == 0) = true := by rw [hto]; rfl
    have hto2 : (c.to != 0) = false := by rw [hto]; rfl
    clear ho4 hb4 HD3
    obtain ⟨b0, b1, b2, b3, b4⟩ := cue_cells HD4.out.c
    go_wp2_with fail
    go_quiet (fail)
    have HD5 := Lib.hid (HD4.out.below (drewN_below' w4 nq))
    clear b0 b1 b2 b3 b4 HD4
    generalize w4.drewN nq = w5 at HD5 ⊢
    clear hto hto' hto2
    go_wp2_with fail
    go_loopw [9, 11, 13] (fun v bv i wr => ∃ (k : Nat) (b : Bool) (R : List Cue), k ≤ L.length ∧ i = .int .i64 k ∧ bv = .bool b ∧ Hid (restL (L.take k) c.id = R) ∧ Hid (b = true ↔ asc (L.take k)) ∧ Hid (LO w5 wr v R)) (fun _ _ i _ => L.length - (intOf i).toNat)
    case atStart => exact ⟨0, true, [], Nat.zero_le _, rfl, rfl, by show _ = _; rfl, ⟨fun _ => List.Pairwise.nil, fun _ => rfl⟩, ⟨World.ownsRow_nil _ _ _ _, Below.refl _ _⟩⟩
    case round =>
      obtain ⟨k, b, R, hk, rfl, rfl, HL, HA, HO⟩ := hrel
      have hRl : R.length ≤ 1000 := by
        rw [← HL.out]
        have h1 := restL_len (L.take k) c.id
        have h2 : (L.take k).length ≤ L.length := by rw [List.length_take]; omega
        omega
      obtain ⟨oR, cR, rfl⟩ := own_slice HO.out.own
      by_cases hend : k = L.length
      · have HEL : Hid (restL L c.id = R) := by
          show _ = _
          rw [← HL.out, hend, List.take_length]
        have HEA : Hid (b = true ↔ asc L) := by
          have := HA.out
          rw [hend, List.take_length] at this
          exact this
        have q1 : ¬ (k : Int) < L.length := by omega
        clear hend HL HA
        have HRr := Lib.hid (own_rdc HO.out.own).2
        have HD6 := Lib.hid (HD5.out.below HO.out.bel)
        have HE1 := HEL
        have HA1 := HEA
        clear HO HD5 HEL HEA
        obtain ⟨R1, rfl⟩ : ∃ z, z = R := ⟨_, rfl⟩
        obtain ⟨b1', rfl⟩ : ∃ z, z = b := ⟨_, rfl⟩
        obtain ⟨o1, rfl⟩ : ∃ z, z = oR := ⟨_, rfl⟩
        obtain ⟨c1', rfl⟩ : ∃ z, z = cR := ⟨_, rfl⟩
        obtain ⟨w6, rfl⟩ : ∃ z, z = wr := ⟨_, rfl⟩
        go_wp2_with fail
        go_loopw [10, 12, 14] (fun v bv i wr => ∃ (k : Nat) (b : Bool) (R : List Cue), k ≤ M.length ∧ i = .int .i64 k ∧ bv = .bool b ∧ Hid (restL (M.take k) c.id = R) ∧ Hid (b = true ↔ asc (M.take k)) ∧ Hid (LO w6 wr v R)) (fun _ _ i _ => M.length - (intOf i).toNat)
        case atStart => exact ⟨0, true, [], Nat.zero_le _, rfl, rfl, by show _ = _; rfl, ⟨fun _ => List.Pairwise.nil, fun _ => rfl⟩, ⟨World.ownsRow_nil _ _ _ _, Below.refl _ _⟩⟩
        case round =>
          obtain ⟨k, b, R, hk, rfl, rfl, HL, HA, HO⟩ := hrel
          have hRl : R.length ≤ 1000 := by
            rw [← HL.out]
            have h1 := restL_len (M.take k) c.id
            have h2 : (M.take k).length ≤ M.length := by rw [List.length_take]; omega
            omega
          obtain ⟨oR, cR, rfl⟩ := own_slice HO.out.own
          by_cases hend : k = M.length
          · have HEL : Hid (restL M c.id = R) := by
              show _ = _
              rw [← HL.out, hend, List.take_length]
            have HEA : Hid (b = true ↔ asc M) := by
              have := HA.out
              rw [hend, List.take_length] at this
              exact this
            have q1 : ¬ (k : Int) < M.length := by omega
            clear hend HL HA
            have HRo := Lib.hid (own_rdc HO.out.own).2
            have HRr6 := Lib.hid (HRr.out.kept HO.out.bel)
            have HD7 := Lib.hid (HD6.out.below HO.out.bel)
            clear HO HRr HD6
            have HQ : Hid (R1 = R) := by
              show _ = _
              rw [← HEL.out, ← HE1.out, HRE.out]
            obtain rfl := HQ.out
            have HBB : Hid (b1' = true → b = true) := fun h => HEA.out.2 (HAS.out (HA1.out.1 h))
            clear HQ HEL HE1 HRE HEA HAS HA1
            obtain ⟨b0, b1, b2, b3, b4⟩ := cue_cells HD7.out.c
            go_wp2_with fail
            clear b0 b1 b2 b3 b4
            refine (edit_any wr om cm M c hc (by omega) HD7.out.m).mono ?_
            have hg := edit_good' M c HV.out (by rw [HAG.out]; omega)
            rw [hg.1, hg.2, HAG.out]
            clear hg HV HAG
            rintro e w8 ⟨oz, cz, rfl, ho8, hb8⟩
            have HD8 := Lib.hid (HD7.out.below hb8)
            have HZ8 := Lib.hid (own_rdc ho8).2
            have HR8 := Lib.hid (HRo.out.kept hb8)
            have HS8 := Lib.hid (HRr6.out.kept hb8)
            clear ho8 hb8 HD7 HRo HRr6
            go_wp2_with fail
            refine (refSame_any w8 o1 oR c1' cR R1 R1 (by omega) (by omega) HS8.out HR8.out).mono ?_
            rw [decide_eq_true rfl]
            rintro e w9 ⟨rfl, hb9⟩
            have HD9 := Lib.hid (HD8.out.below hb9)
            have HZ9 := Lib.hid (HZ8.out.kept hb9)
            clear hb9 HD8 HZ8 HR8 HS8
            cases b1' <;> cases b
            case true.false => exact absurd (HBB.out rfl) (by decide)
            all_goals
              clear HBB
              go_wp2_with fail
              refine (refSame_any w9 oz om cz cm M M (by omega) (by omega) HZ9.out HD9.out.m).mono ?_
              rw [decide_eq_true rfl]
              rintro e w10 ⟨rfl, hb10⟩
              have HD10 := Lib.hid (HD9.out.below hb10)
              have h200 : (M.length : Int) ≤ 200 := by omega
              clear hb10
              go_wp2_with fail
              go_ret
              exact ⟨rfl, HD10.out.bel⟩
          · have hk1 : (k : Int) < M.length := by omega
            have hk3 : k < M.length := by omega
            have HAS2 := Lib.hid (asc_step M k hk3)
            have HD := Lib.hid (HD6.out.below HO.out.bel)
            obtain ⟨g, off, rfl, c0, c1, c2, c3, c4⟩ := HD.out.m.at k hk3
            have HTK : Hid (M.take (k + 1) = M.take k ++ [M[k]]) := List.take_succ_eq_append_getElem hk3
            have HPR : Hid (k ≠ 0 → wr.cell? ⟨g, off + (k - 1) * 5, none⟩ = some (.int .i64 (M[k - 1]).id)) := fun h0 => by
              obtain ⟨g', off', e', d0, _⟩ := HD.out.m.at (k - 1) (by omega)
              simp at e'
              obtain ⟨rfl, rfl⟩ := e'
              exact d0
            obtain ⟨x, hx⟩ : ∃ x, M[k] = x := ⟨_, rfl⟩
            rw [hx] at c0 c1 c2 c3 c4 HTK HAS2
            obtain ⟨y, hy⟩ : ∃ y, M[k - 1] = y := ⟨_, rfl⟩
            rw [hy] at HPR HAS2
            clear hx hy hend
            obtain ⟨b0, b1, b2, b3, b4⟩ := cue_cells HD.out.c
            have HNa : Hid (x.id = c.id → restL (M.take (k + 1)) c.id = R) := fun hid => by
              rw [HTK.out, ← HL.out]
              unfold restL
              rw [List.filter_append]
              simp [hid]
            have HNb : Hid (x.id ≠ c.id → restL (M.take (k + 1)) c.id = R ++ [x]) := fun hid => by
              rw [HTK.out, ← HL.out]
              unfold restL
              rw [List.filter_append]
              simp [hid]
            clear HTK HL
            cases b
            · skip
              have HB' : Hid (¬ asc (M.take (k + 1))) := by
                show ¬ asc _
                rw [HAS2.out, ← HA.out]; simp
              clear HAS2 HA HPR
              try clear hk0
              go_wp2_with fail
              go_quiet (fail)
              have HOY := Lib.hid (HO.out.drewN nq)
              have HDY := Lib.hid (HD.out.below (drewN_below' wr nq))
              have d0 : (wr.drewN nq).cell? ⟨g, off + k * 5, none⟩ = some (.int .i64 x.id) := c0
              have d1 : (wr.drewN nq).cell? ⟨g, off + k * 5 + 1, none⟩ = some (.int .i64 x.fr) := c1
              have d2 : (wr.drewN nq).cell? ⟨g, off + k * 5 + 2, none⟩ = some (.int .i64 x.to) := c2
              have d3 : (wr.drewN nq).cell? ⟨g, off + k * 5 + 3, none⟩ = some (.int .i64 x.pr) := c3
              have d4 : (wr.drewN nq).cell? ⟨g, off + k * 5 + 4, none⟩ = some (.string x.tx) := c4
              clear c0 c1 c2 c3 c4 b0 b1 b2 b3 b4 HO HD
              try clear p0
              generalize wr.drewN nq = w2 at HOY HDY d0 d1 d2 d3 d4 ⊢
              obtain ⟨b0, b1, b2, b3, b4⟩ := cue_cells HDY.out.c
              by_cases hid : x.id = c.id
              · have HN := Lib.hid (HNa.out hid)
                have hid' : (x.id == c.id) = true := by rw [hid]; exact beq_self_eq_true _
                have hid2 : (x.id != c.id) = false := by rw [hid]; simp
                clear hid HNa HNb
                go_wp2_with fail
                go_quiet (fail)
                have HOZ := Lib.hid (HOY.out.drewN nq)
                go_wp2_with fail
                go_roundw
                case rel => exact ⟨k + 1, false, _, by omega, by go_num, rfl, HN, ⟨fun h => absurd h (by decide), fun h => absurd h HB'.out⟩, HOZ⟩
                case measure => simp [intOf]; omega
              · have HN := Lib.hid (HNb.out hid)
                have hid' : (x.id == c.id) = false := by rw [beq_eq_false_iff_ne]; exact hid
                have hid2 : (x.id != c.id) = true := by rw [bne_iff_ne]; exact hid
                clear hid HNa HNb
                go_wp2_with fail
                go_quiet (fail)
                have HOZ := Lib.hid (HOY.out.drewN nq)
                have e0 : (w2.drewN nq).cell? ⟨g, off + k * 5, none⟩ = some (.int .i64 x.id) := d0
                have e1 : (w2.drewN nq).cell? ⟨g, off + k * 5 + 1, none⟩ = some (.int .i64 x.fr) := d1
                have e2 : (w2.drewN nq).cell? ⟨g, off + k * 5 + 2, none⟩ = some (.int .i64 x.to) := d2
                have e3 : (w2.drewN nq).cell? ⟨g, off + k * 5 + 3, none⟩ = some (.int .i64 x.pr) := d3
                have e4 : (w2.drewN nq).cell? ⟨g, off + k * 5 + 4, none⟩ = some (.string x.tx) := d4
                clear d0 d1 d2 d3 d4 b0 b1 b2 b3 b4 HOY HDY
                generalize w2.drewN nq = w3 at HOZ e0 e1 e2 e3 e4 ⊢
                obtain ⟨oM, cM, w4, hrun, ho4, hf4⟩ := app_cue w3 w6.heap.size _ R x HOZ.out.own (by omega) HOZ.out.bel.size 22
                have HO4 := Lib.hid (HOZ.out.app ho4 hf4)
                clear ho4 hf4
                go_wp2_with (at_builtin; refine wpList_append_run _ rfl _ _ 22 rfl _ _ _ _ rfl rfl hrun ?_)
                go_roundw
                case rel => exact ⟨k + 1, false, _, by omega, by go_num, rfl, HN, ⟨fun h => absurd h (by decide), fun h => absurd h HB'.out⟩, HO4⟩
                case measure => simp [intOf]; omega
            · by_cases hk0 : k = 0
              · have hz : ((k : Int) == 0) = true := by rw [beq_iff_eq]; omega
                have HB' : Hid (asc (M.take (k + 1))) := by
                  show asc _
                  rw [HAS2.out, ← HA.out]; simp [hk0]
                clear HAS2 HA HPR
                try clear hk0
                go_wp2_with fail
                go_quiet (fail)
                have HOY := Lib.hid (HO.out.drewN nq)
                have HDY := Lib.hid (HD.out.below (drewN_below' wr nq))
                have d0 : (wr.drewN nq).cell? ⟨g, off + k * 5, none⟩ = some (.int .i64 x.id) := c0
                have d1 : (wr.drewN nq).cell? ⟨g, off + k * 5 + 1, none⟩ = some (.int .i64 x.fr) := c1
                have d2 : (wr.drewN nq).cell? ⟨g, off + k * 5 + 2, none⟩ = some (.int .i64 x.to) := c2
                have d3 : (wr.drewN nq).cell? ⟨g, off + k * 5 + 3, none⟩ = some (.int .i64 x.pr) := c3
                have d4 : (wr.drewN nq).cell? ⟨g, off + k * 5 + 4, none⟩ = some (.string x.tx) := c4
                clear c0 c1 c2 c3 c4 b0 b1 b2 b3 b4 HO HD
                try clear p0
                generalize wr.drewN nq = w2 at HOY HDY d0 d1 d2 d3 d4 ⊢
                obtain ⟨b0, b1, b2, b3, b4⟩ := cue_cells HDY.out.c
                by_cases hid : x.id = c.id
                · have HN := Lib.hid (HNa.out hid)
                  have hid' : (x.id == c.id) = true := by rw [hid]; exact beq_self_eq_true _
                  have hid2 : (x.id != c.id) = false := by rw [hid]; simp
                  clear hid HNa HNb
                  go_wp2_with fail
                  go_quiet (fail)
                  have HOZ := Lib.hid (HOY.out.drewN nq)
                  go_wp2_with fail
                  go_roundw
                  case rel => exact ⟨k + 1, true, _, by omega, by go_num, rfl, HN, ⟨fun _ => HB'.out, fun _ => rfl⟩, HOZ⟩
                  case measure => simp [intOf]; omega
                · have HN := Lib.hid (HNb.out hid)
                  have hid' : (x.id == c.id) = false := by rw [beq_eq_false_iff_ne]; exact hid
                  have hid2 : (x.id != c.id) = true := by rw [bne_iff_ne]; exact hid
                  clear hid HNa HNb
                  go_wp2_with fail
                  go_quiet (fail)
                  have HOZ := Lib.hid (HOY.out.drewN nq)
                  have e0 : (w2.drewN nq).cell? ⟨g, off + k * 5, none⟩ = some (.int .i64 x.id) := d0
                  have e1 : (w2.drewN nq).cell? ⟨g, off + k * 5 + 1, none⟩ = some (.int .i64 x.fr) := d1
                  have e2 : (w2.drewN nq).cell? ⟨g, off + k * 5 + 2, none⟩ = some (.int .i64 x.to) := d2
                  have e3 : (w2.drewN nq).cell? ⟨g, off + k * 5 + 3, none⟩ = some (.int .i64 x.pr) := d3
                  have e4 : (w2.drewN nq).cell? ⟨g, off + k * 5 + 4, none⟩ = some (.string x.tx) := d4
                  clear d0 d1 d2 d3 d4 b0 b1 b2 b3 b4 HOY HDY
                  generalize w2.drewN nq = w3 at HOZ e0 e1 e2 e3 e4 ⊢
                  obtain ⟨oM, cM, w4, hrun, ho4, hf4⟩ := app_cue w3 w6.heap.size _ R x HOZ.out.own (by omega) HOZ.out.bel.size 22
                  have HO4 := Lib.hid (HOZ.out.app ho4 hf4)
                  clear ho4 hf4
                  go_wp2_with (at_builtin; refine wpList_append_run _ rfl _ _ 22 rfl _ _ _ _ rfl rfl hrun ?_)
                  go_roundw
                  case rel => exact ⟨k + 1, true, _, by omega, by go_num, rfl, HN, ⟨fun _ => HB'.out, fun _ => rfl⟩, HO4⟩
                  case measure => simp [intOf]; omega
              · have p0 := HPR.out hk0
                have hz : ((k : Int) == 0) = false := by rw [beq_eq_false_iff_ne]; omega
                have hz2 : ¬ (k : Int) = 0 := by omega
                have hs : IntKind.i64.wrap ((k : Int) - 1) = ((k - 1 : Nat) : Int) := by rw [IntWalk.i64_in _ (by omega)]; omega
                have hs2 : ((k - 1 : Nat) : Int) < M.length := by omega
                have hk2 : k - 1 < M.length := by omega
                by_cases hgt : y.id < x.id
                · have hgt' : decide (y.id < x.id) = true := decide_eq_true hgt
                  have HB' : Hid (asc (M.take (k + 1))) := by
                    show asc _
                    rw [HAS2.out, ← HA.out]; simp [hgt]
                  clear HAS2 HA HPR
                  try clear hk0
                  go_wp2_with fail
                  go_quiet (fail)
                  have HOY := Lib.hid (HO.out.drewN nq)
                  have HDY := Lib.hid (HD.out.below (drewN_below' wr nq))
                  have d0 : (wr.drewN nq).cell? ⟨g, off + k * 5, none⟩ = some (.int .i64 x.id) := c0
                  have d1 : (wr.drewN nq).cell? ⟨g, off + k * 5 + 1, none⟩ = some (.int .i64 x.fr) := c1
                  have d2 : (wr.drewN nq).cell? ⟨g, off + k * 5 + 2, none⟩ = some (.int .i64 x.to) := c2
                  have d3 : (wr.drewN nq).cell? ⟨g, off + k * 5 + 3, none⟩ = some (.int .i64 x.pr) := c3
                  have d4 : (wr.drewN nq).cell? ⟨g, off + k * 5 + 4, none⟩ = some (.string x.tx) := c4
                  clear c0 c1 c2 c3 c4 b0 b1 b2 b3 b4 HO HD
                  try clear p0
                  generalize wr.drewN nq = w2 at HOY HDY d0 d1 d2 d3 d4 ⊢
                  obtain ⟨b0, b1, b2, b3, b4⟩ := cue_cells HDY.out.c
                  by_cases hid : x.id = c.id
                  · have HN := Lib.hid (HNa.out hid)
                    have hid' : (x.id == c.id) = true := by rw [hid]; exact beq_self_eq_true _
                    have hid2 : (x.id != c.id) = false := by rw [hid]; simp
                    clear hid HNa HNb
                    go_wp2_with fail
                    go_quiet (fail)
                    have HOZ := Lib.hid (HOY.out.drewN nq)
                    go_wp2_with fail
                    go_roundw
                    case rel => exact ⟨k + 1, true, _, by omega, by go_num, rfl, HN, ⟨fun _ => HB'.out, fun _ => rfl⟩, HOZ⟩
                    case measure => simp [intOf]; omega
                  · have HN := Lib.hid (HNb.out hid)
                    have hid' : (x.id == c.id) = false := by rw [beq_eq_false_iff_ne]; exact hid
                    have hid2 : (x.id != c.id) = true := by rw [bne_iff_ne]; exact hid
                    clear hid HNa HNb
                    go_wp2_with fail
                    go_quiet (fail)
                    have HOZ := Lib.hid (HOY.out.drewN nq)
                    have e0 : (w2.drewN nq).cell? ⟨g, off + k * 5, none⟩ = some (.int .i64 x.id) := d0
                    have e1 : (w2.drewN nq).cell? ⟨g, off + k * 5 + 1, none⟩ = some (.int .i64 x.fr) := d1
                    have e2 : (w2.drewN nq).cell? ⟨g, off + k * 5 + 2, none⟩ = some (.int .i64 x.to) := d2
                    have e3 : (w2.drewN nq).cell? ⟨g, off + k * 5 + 3, none⟩ = some (.int .i64 x.pr) := d3
                    have e4 : (w2.drewN nq).cell? ⟨g, off + k * 5 + 4, none⟩ = some (.string x.tx) := d4
                    clear d0 d1 d2 d3 d4 b0 b1 b2 b3 b4 HOY HDY
                    generalize w2.drewN nq = w3 at HOZ e0 e1 e2 e3 e4 ⊢
                    obtain ⟨oM, cM, w4, hrun, ho4, hf4⟩ := app_cue w3 w6.heap.size _ R x HOZ.out.own (by omega) HOZ.out.bel.size 22
                    have HO4 := Lib.hid (HOZ.out.app ho4 hf4)
                    clear ho4 hf4
                    go_wp2_with (at_builtin; refine wpList_append_run _ rfl _ _ 22 rfl _ _ _ _ rfl rfl hrun ?_)
                    go_roundw
                    case rel => exact ⟨k + 1, true, _, by omega, by go_num, rfl, HN, ⟨fun _ => HB'.out, fun _ => rfl⟩, HO4⟩
                    case measure => simp [intOf]; omega
                · have hgt' : decide (y.id < x.id) = false := decide_eq_false hgt
                  have HB' : Hid (¬ asc (M.take (k + 1))) := by
                    show ¬ asc _
                    rw [HAS2.out, ← HA.out]; simp [hgt, hk0]
                  clear HAS2 HA HPR
                  try clear hk0
                  go_wp2_with fail
                  go_quiet (fail)
                  have HOY := Lib.hid (HO.out.drewN nq)
                  have HDY := Lib.hid (HD.out.below (drewN_below' wr nq))
                  have d0 : (wr.drewN nq).cell? ⟨g, off + k * 5, none⟩ = some (.int .i64 x.id) := c0
                  have d1 : (wr.drewN nq).cell? ⟨g, off + k * 5 + 1, none⟩ = some (.int .i64 x.fr) := c1
                  have d2 : (wr.drewN nq).cell? ⟨g, off + k * 5 + 2, none⟩ = some (.int .i64 x.to) := c2
                  have d3 : (wr.drewN nq).cell? ⟨g, off + k * 5 + 3, none⟩ = some (.int .i64 x.pr) := c3
                  have d4 : (wr.drewN nq).cell? ⟨g, off + k * 5 + 4, none⟩ = some (.string x.tx) := c4
                  clear c0 c1 c2 c3 c4 b0 b1 b2 b3 b4 HO HD
                  try clear p0
                  generalize wr.drewN nq = w2 at HOY HDY d0 d1 d2 d3 d4 ⊢
                  obtain ⟨b0, b1, b2, b3, b4⟩ := cue_cells HDY.out.c
                  by_cases hid : x.id = c.id
                  · have HN := Lib.hid (HNa.out hid)
                    have hid' : (x.id == c.id) = true := by rw [hid]; exact beq_self_eq_true _
                    have hid2 : (x.id != c.id) = false := by rw [hid]; simp
                    clear hid HNa HNb
                    go_wp2_with fail
                    go_quiet (fail)
                    have HOZ := Lib.hid (HOY.out.drewN nq)
                    go_wp2_with fail
                    go_roundw
                    case rel => exact ⟨k + 1, false, _, by omega, by go_num, rfl, HN, ⟨fun h => absurd h (by decide), fun h => absurd h HB'.out⟩, HOZ⟩
                    case measure => simp [intOf]; omega
                  · have HN := Lib.hid (HNb.out hid)
                    have hid' : (x.id == c.id) = false := by rw [beq_eq_false_iff_ne]; exact hid
                    have hid2 : (x.id != c.id) = true := by rw [bne_iff_ne]; exact hid
                    clear hid HNa HNb
                    go_wp2_with fail
                    go_quiet (fail)
                    have HOZ := Lib.hid (HOY.out.drewN nq)
                    have e0 : (w2.drewN nq).cell? ⟨g, off + k * 5, none⟩ = some (.int .i64 x.id) := d0
                    have e1 : (w2.drewN nq).cell? ⟨g, off + k * 5 + 1, none⟩ = some (.int .i64 x.fr) := d1
                    have e2 : (w2.drewN nq).cell? ⟨g, off + k * 5 + 2, none⟩ = some (.int .i64 x.to) := d2
                    have e3 : (w2.drewN nq).cell? ⟨g, off + k * 5 + 3, none⟩ = some (.int .i64 x.pr) := d3
                    have e4 : (w2.drewN nq).cell? ⟨g, off + k * 5 + 4, none⟩ = some (.string x.tx) := d4
                    clear d0 d1 d2 d3 d4 b0 b1 b2 b3 b4 HOY HDY
                    generalize w2.drewN nq = w3 at HOZ e0 e1 e2 e3 e4 ⊢
                    obtain ⟨oM, cM, w4, hrun, ho4, hf4⟩ := app_cue w3 w6.heap.size _ R x HOZ.out.own (by omega) HOZ.out.bel.size 22
                    have HO4 := Lib.hid (HOZ.out.app ho4 hf4)
                    clear ho4 hf4
                    go_wp2_with (at_builtin; refine wpList_append_run _ rfl _ _ 22 rfl _ _ _ _ rfl rfl hrun ?_)
                    go_roundw
                    case rel => exact ⟨k + 1, false, _, by omega, by go_num, rfl, HN, ⟨fun h => absurd h (by decide), fun h => absurd h HB'.out⟩, HO4⟩
                    case measure => simp [intOf]; omega
      · have hk1 : (k : Int) < L.length := by omega
        have hk3 : k < L.length := by omega
        have HAS2 := Lib.hid (asc_step L k hk3)
        have HD := Lib.hid (HD5.out.below HO.out.bel)
        obtain ⟨g, off, rfl, c0, c1, c2, c3, c4⟩ := HD.out.l.at k hk3
        have HTK : Hid (L.take (k + 1) = L.take k ++ [L[k]]) := List.take_succ_eq_append_getElem hk3
        have HPR : Hid (k ≠ 0 → wr.cell? ⟨g, off + (k - 1) * 5, none⟩ = some (.int .i64 (L[k - 1]).id)) := fun h0 => by
          obtain ⟨g', off', e', d0, _⟩ := HD.out.l.at (k - 1) (by omega)
          simp at e'
          obtain ⟨rfl, rfl⟩ := e'
          exact d0
        obtain ⟨x, hx⟩ : ∃ x, L[k] = x := ⟨_, rfl⟩
        rw [hx] at c0 c1 c2 c3 c4 HTK HAS2
        obtain ⟨y, hy⟩ : ∃ y, L[k - 1] = y := ⟨_, rfl⟩
        rw [hy] at HPR HAS2
        clear hx hy hend
        obtain ⟨b0, b1, b2, b3, b4⟩ := cue_cells HD.out.c
        have HNa : Hid (x.id = c.id → restL (L.take (k + 1)) c.id = R) := fun hid => by
          rw [HTK.out, ← HL.out]
          unfold restL
          rw [List.filter_append]
          simp [hid]
        have HNb : Hid (x.id ≠ c.id → restL (L.take (k + 1)) c.id = R ++ [x]) := fun hid => by
          rw [HTK.out, ← HL.out]
          unfold restL
          rw [List.filter_append]
          simp [hid]
        clear HTK HL
        cases b
        · skip
          have HB' : Hid (¬ asc (L.take (k + 1))) := by
            show ¬ asc _
            rw [HAS2.out, ← HA.out]; simp
          clear HAS2 HA HPR
          try clear hk0
          go_wp2_with fail
          go_quiet (fail)
          have HOY := Lib.hid (HO.out.drewN nq)
          have HDY := Lib.hid (HD.out.below (drewN_below' wr nq))
          have d0 : (wr.drewN nq).cell? ⟨g, off + k * 5, none⟩ = some (.int .i64 x.id) := c0
          have d1 : (wr.drewN nq).cell? ⟨g, off + k * 5 + 1, none⟩ = some (.int .i64 x.fr) := c1
          have d2 : (wr.drewN nq).cell? ⟨g, off + k * 5 + 2, none⟩ = some (.int .i64 x.to) := c2
          have d3 : (wr.drewN nq).cell? ⟨g, off + k * 5 + 3, none⟩ = some (.int .i64 x.pr) := c3
          have d4 : (wr.drewN nq).cell? ⟨g, off + k * 5 + 4, none⟩ = some (.string x.tx) := c4
          clear c0 c1 c2 c3 c4 b0 b1 b2 b3 b4 HO HD
          try clear p0
          generalize wr.drewN nq = w2 at HOY HDY d0 d1 d2 d3 d4 ⊢
          obtain ⟨b0, b1, b2, b3, b4⟩ := cue_cells HDY.out.c
          by_cases hid : x.id = c.id
          · have HN := Lib.hid (HNa.out hid)
            have hid' : (x.id == c.id) = true := by rw [hid]; exact beq_self_eq_true _
            have hid2 : (x.id != c.id) = false := by rw [hid]; simp
            clear hid HNa HNb
            go_wp2_with fail
            go_quiet (fail)
            have HOZ := Lib.hid (HOY.out.drewN nq)
            go_wp2_with fail
            go_roundw
            case rel => exact ⟨k + 1, false, _, by omega, by go_num, rfl, HN, ⟨fun h => absurd h (by decide), fun h => absurd h HB'.out⟩, HOZ⟩
            case measure => simp [intOf]; omega
          · have HN := Lib.hid (HNb.out hid)
            have hid' : (x.id == c.id) = false := by rw [beq_eq_false_iff_ne]; exact hid
            have hid2 : (x.id != c.id) = true := by rw [bne_iff_ne]; exact hid
            clear hid HNa HNb
            go_wp2_with fail
            go_quiet (fail)
            have HOZ := Lib.hid (HOY.out.drewN nq)
            have e0 : (w2.drewN nq).cell? ⟨g, off + k * 5, none⟩ = some (.int .i64 x.id) := d0
            have e1 : (w2.drewN nq).cell? ⟨g, off + k * 5 + 1, none⟩ = some (.int .i64 x.fr) := d1
            have e2 : (w2.drewN nq).cell? ⟨g, off + k * 5 + 2, none⟩ = some (.int .i64 x.to) := d2
            have e3 : (w2.drewN nq).cell? ⟨g, off + k * 5 + 3, none⟩ = some (.int .i64 x.pr) := d3
            have e4 : (w2.drewN nq).cell? ⟨g, off + k * 5 + 4, none⟩ = some (.string x.tx) := d4
            clear d0 d1 d2 d3 d4 b0 b1 b2 b3 b4 HOY HDY
            generalize w2.drewN nq = w3 at HOZ e0 e1 e2 e3 e4 ⊢
            obtain ⟨oM, cM, w4, hrun, ho4, hf4⟩ := app_cue w3 w5.heap.size _ R x HOZ.out.own (by omega) HOZ.out.bel.size 22
            have HO4 := Lib.hid (HOZ.out.app ho4 hf4)
            clear ho4 hf4
            go_wp2_with (at_builtin; refine wpList_append_run _ rfl _ _ 22 rfl _ _ _ _ rfl rfl hrun ?_)
            go_roundw
            case rel => exact ⟨k + 1, false, _, by omega, by go_num, rfl, HN, ⟨fun h => absurd h (by decide), fun h => absurd h HB'.out⟩, HO4⟩
            case measure => simp [intOf]; omega
        · by_cases hk0 : k = 0
          · have hz : ((k : Int) == 0) = true := by rw [beq_iff_eq]; omega
            have HB' : Hid (asc (L.take (k + 1))) := by
              show asc _
              rw [HAS2.out, ← HA.out]; simp [hk0]
            clear HAS2 HA HPR
            try clear hk0
            go_wp2_with fail
            go_quiet (fail)
            have HOY := Lib.hid (HO.out.drewN nq)
            have HDY := Lib.hid (HD.out.below (drewN_below' wr nq))
            have d0 : (wr.drewN nq).cell? ⟨g, off + k * 5, none⟩ = some (.int .i64 x.id) := c0
            have d1 : (wr.drewN nq).cell? ⟨g, off + k * 5 + 1, none⟩ = some (.int .i64 x.fr) := c1
            have d2 : (wr.drewN nq).cell? ⟨g, off + k * 5 + 2, none⟩ = some (.int .i64 x.to) := c2
            have d3 : (wr.drewN nq).cell? ⟨g, off + k * 5 + 3, none⟩ = some (.int .i64 x.pr) := c3
            have d4 : (wr.drewN nq).cell? ⟨g, off + k * 5 + 4, none⟩ = some (.string x.tx) := c4
            clear c0 c1 c2 c3 c4 b0 b1 b2 b3 b4 HO HD
            try clear p0
            generalize wr.drewN nq = w2 at HOY HDY d0 d1 d2 d3 d4 ⊢
            obtain ⟨b0, b1, b2, b3, b4⟩ := cue_cells HDY.out.c
            by_cases hid : x.id = c.id
            · have HN := Lib.hid (HNa.out hid)
              have hid' : (x.id == c.id) = true := by rw [hid]; exact beq_self_eq_true _
              have hid2 : (x.id != c.id) = false := by rw [hid]; simp
              clear hid HNa HNb
              go_wp2_with fail
              go_quiet (fail)
              have HOZ := Lib.hid (HOY.out.drewN nq)
              go_wp2_with fail
              go_roundw
              case rel => exact ⟨k + 1, true, _, by omega, by go_num, rfl, HN, ⟨fun _ => HB'.out, fun _ => rfl⟩, HOZ⟩
              case measure => simp [intOf]; omega
            · have HN := Lib.hid (HNb.out hid)
              have hid' : (x.id == c.id) = false := by rw [beq_eq_false_iff_ne]; exact hid
              have hid2 : (x.id != c.id) = true := by rw [bne_iff_ne]; exact hid
              clear hid HNa HNb
              go_wp2_with fail
              go_quiet (fail)
              have HOZ := Lib.hid (HOY.out.drewN nq)
              have e0 : (w2.drewN nq).cell? ⟨g, off + k * 5, none⟩ = some (.int .i64 x.id) := d0
              have e1 : (w2.drewN nq).cell? ⟨g, off + k * 5 + 1, none⟩ = some (.int .i64 x.fr) := d1
              have e2 : (w2.drewN nq).cell? ⟨g, off + k * 5 + 2, none⟩ = some (.int .i64 x.to) := d2
              have e3 : (w2.drewN nq).cell? ⟨g, off + k * 5 + 3, none⟩ = some (.int .i64 x.pr) := d3
              have e4 : (w2.drewN nq).cell? ⟨g, off + k * 5 + 4, none⟩ = some (.string x.tx) := d4
              clear d0 d1 d2 d3 d4 b0 b1 b2 b3 b4 HOY HDY
              generalize w2.drewN nq = w3 at HOZ e0 e1 e2 e3 e4 ⊢
              obtain ⟨oM, cM, w4, hrun, ho4, hf4⟩ := app_cue w3 w5.heap.size _ R x HOZ.out.own (by omega) HOZ.out.bel.size 22
              have HO4 := Lib.hid (HOZ.out.app ho4 hf4)
              clear ho4 hf4
              go_wp2_with (at_builtin; refine wpList_append_run _ rfl _ _ 22 rfl _ _ _ _ rfl rfl hrun ?_)
              go_roundw
              case rel => exact ⟨k + 1, true, _, by omega, by go_num, rfl, HN, ⟨fun _ => HB'.out, fun _ => rfl⟩, HO4⟩
              case measure => simp [intOf]; omega
          · have p0 := HPR.out hk0
            have hz : ((k : Int) == 0) = false := by rw [beq_eq_false_iff_ne]; omega
            have hz2 : ¬ (k : Int) = 0 := by omega
            have hs : IntKind.i64.wrap ((k : Int) - 1) = ((k - 1 : Nat) : Int) := by rw [IntWalk.i64_in _ (by omega)]; omega
            have hs2 : ((k - 1 : Nat) : Int) < L.length := by omega
            have hk2 : k - 1 < L.length := by omega
            by_cases hgt : y.id < x.id
            · have hgt' : decide (y.id < x.id) = true := decide_eq_true hgt
              have HB' : Hid (asc (L.take (k + 1))) := by
                show asc _
                rw [HAS2.out, ← HA.out]; simp [hgt]
              clear HAS2 HA HPR
              try clear hk0
              go_wp2_with fail
              go_quiet (fail)
              have HOY := Lib.hid (HO.out.drewN nq)
              have HDY := Lib.hid (HD.out.below (drewN_below' wr nq))
              have d0 : (wr.drewN nq).cell? ⟨g, off + k * 5, none⟩ = some (.int .i64 x.id) := c0
              have d1 : (wr.drewN nq).cell? ⟨g, off + k * 5 + 1, none⟩ = some (.int .i64 x.fr) := c1
              have d2 : (wr.drewN nq).cell? ⟨g, off + k * 5 + 2, none⟩ = some (.int .i64 x.to) := c2
              have d3 : (wr.drewN nq).cell? ⟨g, off + k * 5 + 3, none⟩ = some (.int .i64 x.pr) := c3
              have d4 : (wr.drewN nq).cell? ⟨g, off + k * 5 + 4, none⟩ = some (.string x.tx) := c4
              clear c0 c1 c2 c3 c4 b0 b1 b2 b3 b4 HO HD
              try clear p0
              generalize wr.drewN nq = w2 at HOY HDY d0 d1 d2 d3 d4 ⊢
              obtain ⟨b0, b1, b2, b3, b4⟩ := cue_cells HDY.out.c
              by_cases hid : x.id = c.id
              · have HN := Lib.hid (HNa.out hid)
                have hid' : (x.id == c.id) = true := by rw [hid]; exact beq_self_eq_true _
                have hid2 : (x.id != c.id) = false := by rw [hid]; simp
                clear hid HNa HNb
                go_wp2_with fail
                go_quiet (fail)
                have HOZ := Lib.hid (HOY.out.drewN nq)
                go_wp2_with fail
                go_roundw
                case rel => exact ⟨k + 1, true, _, by omega, by go_num, rfl, HN, ⟨fun _ => HB'.out, fun _ => rfl⟩, HOZ⟩
                case measure => simp [intOf]; omega
              · have HN := Lib.hid (HNb.out hid)
                have hid' : (x.id == c.id) = false := by rw [beq_eq_false_iff_ne]; exact hid
                have hid2 : (x.id != c.id) = true := by rw [bne_iff_ne]; exact hid
                clear hid HNa HNb
                go_wp2_with fail
                go_quiet (fail)
                have HOZ := Lib.hid (HOY.out.drewN nq)
                have e0 : (w2.drewN nq).cell? ⟨g, off + k * 5, none⟩ = some (.int .i64 x.id) := d0
                have e1 : (w2.drewN nq).cell? ⟨g, off + k * 5 + 1, none⟩ = some (.int .i64 x.fr) := d1
                have e2 : (w2.drewN nq).cell? ⟨g, off + k * 5 + 2, none⟩ = some (.int .i64 x.to) := d2
                have e3 : (w2.drewN nq).cell? ⟨g, off + k * 5 + 3, none⟩ = some (.int .i64 x.pr) := d3
                have e4 : (w2.drewN nq).cell? ⟨g, off + k * 5 + 4, none⟩ = some (.string x.tx) := d4
                clear d0 d1 d2 d3 d4 b0 b1 b2 b3 b4 HOY HDY
                generalize w2.drewN nq = w3 at HOZ e0 e1 e2 e3 e4 ⊢
                obtain ⟨oM, cM, w4, hrun, ho4, hf4⟩ := app_cue w3 w5.heap.size _ R x HOZ.out.own (by omega) HOZ.out.bel.size 22
                have HO4 := Lib.hid (HOZ.out.app ho4 hf4)
                clear ho4 hf4
                go_wp2_with (at_builtin; refine wpList_append_run _ rfl _ _ 22 rfl _ _ _ _ rfl rfl hrun ?_)
                go_roundw
                case rel => exact ⟨k + 1, true, _, by omega, by go_num, rfl, HN, ⟨fun _ => HB'.out, fun _ => rfl⟩, HO4⟩
                case measure => simp [intOf]; omega
            · have hgt' : decide (y.id < x.id) = false := decide_eq_false hgt
              have HB' : Hid (¬ asc (L.take (k + 1))) := by
                show ¬ asc _
                rw [HAS2.out, ← HA.out]; simp [hgt, hk0]
              clear HAS2 HA HPR
              try clear hk0
              go_wp2_with fail
              go_quiet (fail)
              have HOY := Lib.hid (HO.out.drewN nq)
              have HDY := Lib.hid (HD.out.below (drewN_below' wr nq))
              have d0 : (wr.drewN nq).cell? ⟨g, off + k * 5, none⟩ = some (.int .i64 x.id) := c0
              have d1 : (wr.drewN nq).cell? ⟨g, off + k * 5 + 1, none⟩ = some (.int .i64 x.fr) := c1
              have d2 : (wr.drewN nq).cell? ⟨g, off + k * 5 + 2, none⟩ = some (.int .i64 x.to) := c2
              have d3 : (wr.drewN nq).cell? ⟨g, off + k * 5 + 3, none⟩ = some (.int .i64 x.pr) := c3
              have d4 : (wr.drewN nq).cell? ⟨g, off + k * 5 + 4, none⟩ = some (.string x.tx) := c4
              clear c0 c1 c2 c3 c4 b0 b1 b2 b3 b4 HO HD
              try clear p0
              generalize wr.drewN nq = w2 at HOY HDY d0 d1 d2 d3 d4 ⊢
              obtain ⟨b0, b1, b2, b3, b4⟩ := cue_cells HDY.out.c
              by_cases hid : x.id = c.id
              · have HN := Lib.hid (HNa.out hid)
                have hid' : (x.id == c.id) = true := by rw [hid]; exact beq_self_eq_true _
                have hid2 : (x.id != c.id) = false := by rw [hid]; simp
                clear hid HNa HNb
                go_wp2_with fail
                go_quiet (fail)
                have HOZ := Lib.hid (HOY.out.drewN nq)
                go_wp2_with fail
                go_roundw
                case rel => exact ⟨k + 1, false, _, by omega, by go_num, rfl, HN, ⟨fun h => absurd h (by decide), fun h => absurd h HB'.out⟩, HOZ⟩
                case measure => simp [intOf]; omega
              · have HN := Lib.hid (HNb.out hid)
                have hid' : (x.id == c.id) = false := by rw [beq_eq_false_iff_ne]; exact hid
                have hid2 : (x.id != c.id) = true := by rw [bne_iff_ne]; exact hid
                clear hid HNa HNb
                go_wp2_with fail
                go_quiet (fail)
                have HOZ := Lib.hid (HOY.out.drewN nq)
                have e0 : (w2.drewN nq).cell? ⟨g, off + k * 5, none⟩ = some (.int .i64 x.id) := d0
                have e1 : (w2.drewN nq).cell? ⟨g, off + k * 5 + 1, none⟩ = some (.int .i64 x.fr) := d1
                have e2 : (w2.drewN nq).cell? ⟨g, off + k * 5 + 2, none⟩ = some (.int .i64 x.to) := d2
                have e3 : (w2.drewN nq).cell? ⟨g, off + k * 5 + 3, none⟩ = some (.int .i64 x.pr) := d3
                have e4 : (w2.drewN nq).cell? ⟨g, off + k * 5 + 4, none⟩ = some (.string x.tx) := d4
                clear d0 d1 d2 d3 d4 b0 b1 b2 b3 b4 HOY HDY
                generalize w2.drewN nq = w3 at HOZ e0 e1 e2 e3 e4 ⊢
                obtain ⟨oM, cM, w4, hrun, ho4, hf4⟩ := app_cue w3 w5.heap.size _ R x HOZ.out.own (by omega) HOZ.out.bel.size 22
                have HO4 := Lib.hid (HOZ.out.app ho4 hf4)
                clear ho4 hf4
                go_wp2_with (at_builtin; refine wpList_append_run _ rfl _ _ 22 rfl _ _ _ _ rfl rfl hrun ?_)
                go_roundw
                case rel => exact ⟨k + 1, false, _, by omega, by go_num, rfl, HN, ⟨fun h => absurd h (by decide), fun h => absurd h HB'.out⟩, HO4⟩
                case measure => simp [intOf]; omega
end Go.Proofs.Ytjmfhdnckgelaaa
