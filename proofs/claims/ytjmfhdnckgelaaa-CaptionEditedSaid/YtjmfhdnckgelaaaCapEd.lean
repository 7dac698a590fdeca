/-
  The walk of caption.Edit.
-/
import Derived.WalkKit
import Derived.LoopTactic
import Derived.WalkSpells
import Derived.WalkLawsBesides
import Derived.RegionTactic
import Derived.BigRegion
import Derived.Deep.QuietTactic
import Derived.BigQuiet
import Derived.IntWalk
import Derived.Outline
import Derived.Test.YtjmfhdnckgelaaaCapSlice
set_option linter.unusedVariables false
set_option linter.unusedSimpArgs false
namespace Go.Proofs.Ytjmfhdnckgelaaa
open Go.RowKit
/-- The list that Edit makes, and the edit's own box. -/
structure EO (w wr : World) (v : Value) (L : List Cue) (c : Cue) : Prop where
  own : wr.ownsRow (w.heap.size + 1) 24 5 v L.length (ccells L)
  blk : Blk wr w.heap.size 24 c.cells
  bel : Below w.heap.size w wr
theorem EO.alloc {w wr : World} {v : Value} {L : List Cue} {c : Cue} (h : EO w wr v L c) (o : Obj) : EO w (wr.alloc o) v L c := ⟨h.own.alloc o, h.blk.alloc o, h.bel.alloc h.bel.size o⟩
theorem EO.app {w wr w' : World} {v v' : Value} {L : List Cue} {c x : Cue} (h : EO w wr v L c) (ho : w'.ownsRow (w.heap.size + 1) 24 5 v' (L.length + 1) (ccells (L ++ [x]))) (hf : Fr (fun k => v.ownBlock = some k) wr w') : EO w w' v' (L ++ [x]) c := by
  have hge := own_ge h.own
  refine ⟨by rw [List.length_append]; exact ho, h.blk.kept (hf.block _ h.blk.lt (fun e => ?_)), h.bel.trans (hf.below _ h.bel.size (fun k hk => ?_))⟩
  · have := hge _ e; omega
  · have := hge k hk; omega
theorem editL_of (l : List Cue) (c : Cue) : escan c (l.take l.length) = escan c l := by rw [List.take_length]
theorem escan_take (l : List Cue) (c : Cue) (k : Nat) (hk : k < l.length) : escan c (l.take (k + 1)) = estep c (escan c (l.take k)) l[k] := by
  rw [List.take_succ_eq_append_getElem hk, escan_snoc]
set_option maxHeartbeats 2000000 in
set_option maxRecDepth 100000 in
theorem edit_any (w : World) (oa : Option Addr) (cap : Nat) (l : List Cue) (c : Cue) (hc : c.Ok) (hl : l.length ≤ 1000) (hr : RdC w oa l) :
    Calls Try.prog 23 #[.slice oa l.length cap, .agg #[.int .i64 c.id, .int .i64 c.fr, .int .i64 c.to, .int .i64 c.pr, .string c.tx]] w fun e w' => ∃ oa' cap', e = .returned (.tuple #[.slice oa' (editR l c).length cap', .int .i64 (editE l c)]) ∧ w'.ownsRow w.heap.size 24 5 (.slice oa' (editR l c).length cap') (editR l c).length (ccells (editR l c)) ∧ Below w.heap.size w w' := by
  have HR := Lib.hid hr
  clear hr
  cases hv : validB c
  · have he : editE l c = 150 := by unfold editE editOk; rw [hv]; rfl
    have hrr : editR l c = [] := by unfold editR editOk; rw [hv]; rfl
    rw [he, hrr]
    have HV := Lib.hid hv
    clear hv he hrr
    go_enter Try.func23, Try.ntmps23
    go_wp2_with fail
    refine (valid_any c _ hc).mono ?_
    rw [HV.out]
    rintro e w' ⟨rfl, hb⟩
    go_wp2_with fail
    go_ret2
    exact ⟨none, 0, rfl, World.ownsRow_nil _ _ _ _, bstep ((Below.refl _ w).alloc (Nat.le_refl _) _) hb⟩
  · have HV := Lib.hid hv
    clear hv
    go_enter Try.func23, Try.ntmps23
    go_wp2_with fail
    refine (valid_any c _ hc).mono ?_
    rw [HV.out]
    rintro e w1 ⟨rfl, hb⟩
    have hk1 : Blk w1 w.heap.size 24 c.cells := (Blk.new w 24 c.cells).kept (hb.block _ (by simp))
    have HE : Hid (EO w w1 (.slice none 0 0) [] c) := ⟨World.ownsRow_nil _ _ _ _, hk1, bstep ((Below.refl _ w).alloc (Nat.le_refl _) _) hb⟩
    have c2 := hk1.cell 2
    simp only [Cue.cells, List.getElem?_cons_zero, List.getElem?_cons_succ] at c2
    obtain ⟨pd, hpd⟩ : ∃ pd, decide (c.to ≠ 0) = pd := ⟨_, rfl⟩
    have hne : (c.to != 0) = pd := by rw [← hpd, Bool.eq_iff_iff]; simp
    have HPD := Lib.hid hpd
    clear hk1 hb hpd
    go_wp2_with fail
    go_loopw [6, 7, 18] (fun v p i wr => ∃ (k : Nat) (L : List Cue) (q : Bool), k ≤ l.length ∧ i = .int .i64 k ∧ p = .bool q ∧ Hid (escan c (l.take k) = (L, q)) ∧ Hid (EO w wr v L c)) (fun _ _ i _ => l.length - (intOf i).toNat)
    case atStart => exact ⟨0, [], pd, Nat.zero_le _, rfl, rfl, by show _ = _; simp [escan, HPD.out], HE⟩
    case round =>
      clear c2 hne HE
      obtain ⟨k, L, q, hk, rfl, rfl, HS, HE⟩ := hrel
      have hLl : L.length ≤ l.length + 1 := by
        have h1 := escan_len c (l.take k)
        rw [HS.out] at h1
        have h2 : (l.take k).length ≤ l.length := by rw [List.length_take]; omega
        simp only at h1
        omega
      obtain ⟨oL, cL, rfl⟩ := own_slice HE.out.own
      have b0 := HE.out.blk.cell 0
      have b1 := HE.out.blk.cell 1
      have b2 := HE.out.blk.cell 2
      have b3 := HE.out.blk.cell 3
      have b4 := HE.out.blk.cell 4
      simp only [Cue.cells, List.getElem?_cons_zero, List.getElem?_cons_succ] at b0 b1 b2 b3 b4
      by_cases hkl : k = l.length
      · have HSL : Hid (escan c l = (L, q)) := by
          have := HS.out
          rwa [hkl, List.take_length] at this
        have hk' : ¬ (k : Int) < l.length := by omega
        clear hkl HS
        cases q
        · have HED : Hid (editL l c = L) := by show _ = _; unfold editL efin; rw [HSL.out]; rfl
          by_cases h200 : (L).length ≤ 200
          · have h200' : ((L).length : Int) ≤ 200 := by omega
            have he : editE l c = 0 := by unfold editE editOk; rw [HV.out, HED.out, decide_eq_true h200]; rfl
            have hrr : editR l c = L := by unfold editR editOk; rw [HV.out, HED.out, decide_eq_true h200]; rfl
            have HE1 := Lib.hid he
            have HE2 := Lib.hid hrr
            clear he hrr h200
            go_wp2_with fail
            go_ret2
            rw [HE1.out, HE2.out]
            exact ⟨_, _, rfl, own_base HE.out.own (by omega), HE.out.bel⟩
          · have h200' : ¬ ((L).length : Int) ≤ 200 := by omega
            have he : editE l c = 150 := by unfold editE editOk; rw [HV.out, HED.out, decide_eq_false h200]; rfl
            have hrr : editR l c = [] := by unfold editR editOk; rw [HV.out, HED.out, decide_eq_false h200]; rfl
            have HE1 := Lib.hid he
            have HE2 := Lib.hid hrr
            clear he hrr h200
            go_wp2_with fail
            go_ret2
            rw [HE1.out, HE2.out]
            exact ⟨none, 0, rfl, World.ownsRow_nil _ _ _ _, HE.out.bel⟩
        · have HED : Hid (editL l c = L ++ [c]) := by show _ = _; unfold editL efin; rw [HSL.out]; rfl
          obtain ⟨oM, cM, w2, hrun, ho2, hf2⟩ := app_cue wr (w.heap.size + 1) _ L c HE.out.own (by omega) (by have := HE.out.blk.lt; omega) 22
          have HE2' := Lib.hid (HE.out.app ho2 hf2)
          clear ho2 hf2
          by_cases h200 : (L ++ [c]).length ≤ 200
          · have h200' : (L.length : Int) + 1 ≤ 200 := by rw [List.length_append, List.length_singleton] at h200; omega
            have he : editE l c = 0 := by unfold editE editOk; rw [HV.out, HED.out, decide_eq_true h200]; rfl
            have hrr : editR l c = L ++ [c] := by unfold editR editOk; rw [HV.out, HED.out, decide_eq_true h200]; rfl
            have HE1 := Lib.hid he
            have HE2 := Lib.hid hrr
            clear he hrr h200
            go_wp2_with (at_builtin; refine wpList_append_run _ rfl _ _ 22 rfl _ _ _ _ rfl rfl hrun ?_)
            go_ret2
            rw [HE1.out, HE2.out]
            exact ⟨oM, cM, by rw [List.length_append]; rfl, by have := own_base HE2'.out.own (Nat.le_succ _); rw [List.length_append] at this ⊢; exact this, HE2'.out.bel⟩
          · have h200' : ¬ (L.length : Int) + 1 ≤ 200 := by rw [List.length_append, List.length_singleton] at h200; omega
            have he : editE l c = 150 := by unfold editE editOk; rw [HV.out, HED.out, decide_eq_false h200]; rfl
            have hrr : editR l c = [] := by unfold editR editOk; rw [HV.out, HED.out, decide_eq_false h200]; rfl
            have HE1 := Lib.hid he
            have HE2 := Lib.hid hrr
            clear he hrr h200
            go_wp2_with (at_builtin; refine wpList_append_run _ rfl _ _ 22 rfl _ _ _ _ rfl rfl hrun ?_)
            go_ret2
            rw [HE1.out, HE2.out]
            exact ⟨none, 0, rfl, World.ownsRow_nil _ _ _ _, HE2'.out.bel⟩
      · have hk' : (k : Int) < l.length := by omega
        have hk2 : k < l.length := by omega
        obtain ⟨g, off, rfl, c0, c1, c2, c3, c4⟩ := (HR.out.kept HE.out.bel).at k hk2
        have HN := Lib.hid (escan_take l c k hk2)
        obtain ⟨x, hx⟩ : ∃ x, l[k] = x := ⟨_, rfl⟩
        rw [HS.out] at HN
        rw [hx] at c0 c1 c2 c3 c4 HN
        clear hx hkl
        have HEX := Lib.hid (HE.out.alloc (.cells #[.int .i64 x.id, .int .i64 x.fr, .int .i64 x.to, .int .i64 x.pr, .string x.tx] 24))
        clear b0 b1 b2 b3 b4
        have b0 := HEX.out.blk.cell 0
        have b1 := HEX.out.blk.cell 1
        have b2 := HEX.out.blk.cell 2
        have b3 := HEX.out.blk.cell 3
        have b4 := HEX.out.blk.cell 4
        simp only [Cue.cells, List.getElem?_cons_zero, List.getElem?_cons_succ] at b0 b1 b2 b3 b4
        by_cases hid : x.id = c.id
        · have hid' : (x.id == c.id) = true := by rw [hid]; exact beq_self_eq_true _
          have HN2 : Hid (escan c (l.take (k + 1)) = (L, q)) := by
            have := HN.out
            unfold estep at this
            rwa [if_pos hid] at this
          clear hid HN
          go_wp2_with fail
          go_roundw
          case rel => exact ⟨k + 1, L, q, by omega, by go_num, rfl, HN2, HEX⟩
          case measure => simp [intOf]; omega
        · have hid' : (x.id == c.id) = false := by rw [beq_eq_false_iff_ne]; exact hid
          have hBX : w.heap.size + 1 ≤ (wr.alloc (.cells #[.int .i64 x.id, .int .i64 x.fr, .int .i64 x.to, .int .i64 x.pr, .string x.tx] 24)).heap.size := by have := HE.out.blk.lt; simp; omega
          by_cases hgo : q = true ∧ c.id < x.id
          · obtain ⟨rfl, hgt⟩ := hgo
            have HN2 : Hid (escan c (l.take (k + 1)) = (L ++ [c] ++ [x], false)) := by
              have := HN.out
              unfold estep at this
              rwa [if_neg hid, if_pos ⟨rfl, hgt⟩] at this
            obtain ⟨oM, cM, w2, hrun, ho2, hf2⟩ := app_cue _ (w.heap.size + 1) _ L c HEX.out.own (by omega) hBX 22
            have HE2' := Lib.hid (HEX.out.app ho2 hf2)
            have hx2 : Blk w2 wr.heap.size 24 x.cells := (Blk.new wr 24 x.cells).kept (hf2.block _ (by simp) (fun e => by have := own_lt HE.out.own _ e; omega))
            have x0 := hx2.cell 0
            have x1 := hx2.cell 1
            have x2 := hx2.cell 2
            have x3 := hx2.cell 3
            have x4 := hx2.cell 4
            simp only [Cue.cells, List.getElem?_cons_zero, List.getElem?_cons_succ] at x0 x1 x2 x3 x4
            obtain ⟨oN, cN, w3, hrun3, ho3, hf3⟩ := app_cue w2 (w.heap.size + 1) _ (L ++ [c]) x HE2'.out.own (by rw [List.length_append, List.length_singleton]; omega) (by have := HE2'.out.blk.lt; omega) 22
            have HE3' := Lib.hid (HE2'.out.app ho3 hf3)
            rw [List.length_append, List.length_singleton] at hrun3 HE3'
            clear ho2 hf2 hid HN ho3 hf3 hx2
            rw [show (wr.alloc (.cells #[.int .i64 x.id, .int .i64 x.fr, .int .i64 x.to, .int .i64 x.pr, .string x.tx] 24)).heap.size = wr.heap.size + 1 from by simp] at hrun
            have tok1 : True := trivial
            go_wp2_with (first | (at_builtin; have _t := tok1; refine wpList_append_run _ rfl _ _ 22 rfl _ _ _ _ rfl rfl hrun ?_; clear _t tok1) | (at_builtin; refine wpList_append_run _ rfl _ _ 22 rfl _ _ _ _ rfl rfl hrun3 ?_))
            go_roundw
            case rel => exact ⟨k + 1, _, _, by omega, by go_num, rfl, HN2, HE3'⟩
            case measure => simp [intOf]; omega
          · have HN2 : Hid (escan c (l.take (k + 1)) = (L ++ [x], q)) := by
              have := HN.out
              unfold estep at this
              rwa [if_neg hid, if_neg hgo] at this
            obtain ⟨oM, cM, w2, hrun, ho2, hf2⟩ := app_cue _ (w.heap.size + 1) _ L x HEX.out.own (by omega) hBX 22
            have HE2' := Lib.hid (HEX.out.app ho2 hf2)
            rw [show (wr.alloc (.cells #[.int .i64 x.id, .int .i64 x.fr, .int .i64 x.to, .int .i64 x.pr, .string x.tx] 24)).heap.size = wr.heap.size + 1 from by simp] at hrun
            clear ho2 hf2 hid HN
            cases q
            · go_wp2_with (at_builtin; refine wpList_append_run _ rfl _ _ 22 rfl _ _ _ _ rfl rfl hrun ?_)
              go_roundw
              case rel => exact ⟨k + 1, _, _, by omega, by go_num, rfl, HN2, HE2'⟩
              case measure => simp [intOf]; omega
            · have hgt : ¬ c.id < x.id := fun h => hgo ⟨rfl, h⟩
              clear hgo
              go_wp2_with (at_builtin; refine wpList_append_run _ rfl _ _ 22 rfl _ _ _ _ rfl rfl hrun ?_)
              go_roundw
              case rel => exact ⟨k + 1, _, _, by omega, by go_num, rfl, HN2, HE2'⟩
              case measure => simp [intOf]; omega
end Go.Proofs.Ytjmfhdnckgelaaa
