/-
  The walk of the reference: Active.
-/
import Derived.WalkKit
import Derived.LoopTactic
import Derived.WalkSpells
import Derived.WalkLawsBesides
import Derived.RegionTactic
import Derived.BigRegion
import Derived.Deep.QuietTactic
import Derived.Deep.RegionHeld3
import Derived.BigQuiet
import Derived.IntWalk
import Derived.Outline
import Derived.Test.YtjmfhdnckgelaaaCapRefC
set_option linter.unusedVariables false
set_option linter.unusedSimpArgs false
namespace Go.Proofs.Ytjmfhdnckgelaaa
open Go.RowKit
/-- What Active of the reference keeps in memory. -/
structure AR (w wr : World) (o : Option Cue) : Prop where
  res : Blk wr w.heap.size 24 cue0.cells
  best : Blk wr (w.heap.size + 1) 24 (o.getD cue0).cells
  bel : Below w.heap.size w wr
theorem AR.below {w wr w' : World} {o : Option Cue} (h : AR w wr o) (hb : Below wr.heap.size wr w') : AR w w' o :=
  ⟨h.res.kept (hb.block _ h.res.lt), h.best.kept (hb.block _ h.best.lt), bstep h.bel hb⟩
theorem AR.drewN {w wr : World} {o : Option Cue} (h : AR w wr o) (n : Nat) : AR w (wr.drewN n) o := h.below (drewN_below (Below.refl _ _) n)
theorem AR.set {w wr : World} {o : Option Cue} (h : AR w wr o) (x : Cue) : AR w (((((wr.setCell ⟨w.heap.size + 1, 0, none⟩ (.int .i64 x.id)).setCell ⟨w.heap.size + 1, 1, none⟩ (.int .i64 x.fr)).setCell ⟨w.heap.size + 1, 2, none⟩ (.int .i64 x.to)).setCell ⟨w.heap.size + 1, 3, none⟩ (.int .i64 x.pr)).setCell ⟨w.heap.size + 1, 4, none⟩ (.string x.tx)) (some x) := by
  refine ⟨?_, ?_, ?_⟩
  · exact ((((h.res.other _ (by simp) _).other _ (by simp) _).other _ (by simp) _).other _ (by simp) _).other _ (by simp) _
  · have := ((((h.best.set 0 (.int .i64 x.id)).set 1 (.int .i64 x.fr)).set 2 (.int .i64 x.to)).set 3 (.int .i64 x.pr)).set 4 (.string x.tx)
    exact this
  · exact ((((h.bel.setCell (by simp) _).setCell (by simp) _).setCell (by simp) _).setCell (by simp) _).setCell (by simp) _
set_option maxHeartbeats 4000000 in
set_option maxRecDepth 100000 in
theorem refActive_any (w : World) (oa : Option Addr) (cap : Nat) (l : List Cue) (f : Int) (hl : l.length ≤ 1000) (hr : RdC w oa l) :
    Calls Try.prog 16 #[.slice oa l.length cap, .int .i64 f] w fun e w' => e = .returned (.tuple #[.agg #[.int .i64 ((activeL l f).getD cue0).id, .int .i64 ((activeL l f).getD cue0).fr, .int .i64 ((activeL l f).getD cue0).to, .int .i64 ((activeL l f).getD cue0).pr, .string ((activeL l f).getD cue0).tx], .bool (activeL l f).isSome]) ∧ Below w.heap.size w w' := by
  have HR := Lib.hid hr
  clear hr
  go_enter Try.func16, Try.ntmps16
  go_wp2_with fail
  have HA : Hid (AR w ((w.alloc (.cells #[.int .i64 0, .int .i64 0, .int .i64 0, .int .i64 0, .string ⟨#[]⟩] 24)).alloc (.cells #[.int .i64 0, .int .i64 0, .int .i64 0, .int .i64 0, .string ⟨#[]⟩] 24)) none) := by
    refine ⟨(Blk.new w 24 cue0.cells).alloc _, ?_, ((Below.refl _ w).alloc (Nat.le_refl _) _).alloc (by simp) _⟩
    have := Blk.new (w.alloc (.cells #[.int .i64 0, .int .i64 0, .int .i64 0, .int .i64 0, .string ⟨#[]⟩] 24)) 24 cue0.cells
    rw [show (w.alloc (.cells #[.int .i64 0, .int .i64 0, .int .i64 0, .int .i64 0, .string ⟨#[]⟩] 24)).heap.size = w.heap.size + 1 from by simp] at this
    exact this
  generalize ((w.alloc (.cells #[.int .i64 0, .int .i64 0, .int .i64 0, .int .i64 0, .string ⟨#[]⟩] 24)).alloc (.cells #[.int .i64 0, .int .i64 0, .int .i64 0, .int .i64 0, .string ⟨#[]⟩] 24)) = w0 at HA ⊢
  go_loopw [7, 8] (fun t i wr => ∃ (k : Nat) (o : Option Cue), k ≤ l.length ∧ i = .int .i64 k ∧ t = .bool o.isSome ∧ Hid (activeL (l.take k) f = o) ∧ Hid (AR w wr o)) (fun _ i _ => l.length - (intOf i).toNat)
  case atStart => exact ⟨0, none, Nat.zero_le _, rfl, rfl, by show _ = _; rfl, HA⟩
  case round =>
    clear HA w0
    obtain ⟨k, o, hk, rfl, rfl, HO, HA⟩ := hrel
    by_cases hkl : k = l.length
    · have HOL : Hid (activeL l f = o) := by
        have := HO.out
        rwa [hkl, List.take_length] at this
      have hk' : ¬ (k : Int) < l.length := by omega
      clear hkl HO
      obtain ⟨b0, b1, b2, b3, b4⟩ := cue_cells HA.out.best
      obtain ⟨r0, r1, r2, r3, r4⟩ := cue_cells HA.out.res
      obtain ⟨z0, z1, z2, z3, z4⟩ := cue_free HA.out.res
      have HX : Hid (Blk (((((wr.setCell ⟨w.heap.size, 0, none⟩ (.int .i64 (o.getD cue0).id)).setCell ⟨w.heap.size, 1, none⟩ (.int .i64 (o.getD cue0).fr)).setCell ⟨w.heap.size, 2, none⟩ (.int .i64 (o.getD cue0).to)).setCell ⟨w.heap.size, 3, none⟩ (.int .i64 (o.getD cue0).pr)).setCell ⟨w.heap.size, 4, none⟩ (.string (o.getD cue0).tx)) w.heap.size 24 (o.getD cue0).cells ∧ Below w.heap.size w (((((wr.setCell ⟨w.heap.size, 0, none⟩ (.int .i64 (o.getD cue0).id)).setCell ⟨w.heap.size, 1, none⟩ (.int .i64 (o.getD cue0).fr)).setCell ⟨w.heap.size, 2, none⟩ (.int .i64 (o.getD cue0).to)).setCell ⟨w.heap.size, 3, none⟩ (.int .i64 (o.getD cue0).pr)).setCell ⟨w.heap.size, 4, none⟩ (.string (o.getD cue0).tx))) := by
        refine ⟨?_, ?_⟩
        · have := ((((HA.out.res.set 0 (.int .i64 (o.getD cue0).id)).set 1 (.int .i64 (o.getD cue0).fr)).set 2 (.int .i64 (o.getD cue0).to)).set 3 (.int .i64 (o.getD cue0).pr)).set 4 (.string (o.getD cue0).tx)
          exact this
        · exact ((((HA.out.bel.setCell (by simp) _).setCell (by simp) _).setCell (by simp) _).setCell (by simp) _).setCell (by simp) _
      have HFD : Hid ((activeL l f).isSome = o.isSome) := by show _ = _; rw [HOL.out]
      generalize o.isSome = fd at HFD ⊢
      go_wp2_with fail
      generalize (((((wr.setCell ⟨w.heap.size, 0, none⟩ (.int .i64 (o.getD cue0).id)).setCell ⟨w.heap.size, 1, none⟩ (.int .i64 (o.getD cue0).fr)).setCell ⟨w.heap.size, 2, none⟩ (.int .i64 (o.getD cue0).to)).setCell ⟨w.heap.size, 3, none⟩ (.int .i64 (o.getD cue0).pr)).setCell ⟨w.heap.size, 4, none⟩ (.string (o.getD cue0).tx)) = X at HX ⊢
      clear b0 b1 b2 b3 b4 r0 r1 r2 r3 r4 z0 z1 z2 z3 z4
      obtain ⟨hx1, hx2⟩ := HX.out
      obtain ⟨x0, x1, x2, x3, x4⟩ := cue_cells hx1
      clear HX hx1
      refine bodyPost_ret (v := .tuple #[.agg #[.int .i64 (o.getD cue0).id, .int .i64 (o.getD cue0).fr, .int .i64 (o.getD cue0).to, .int .i64 (o.getD cue0).pr, .string (o.getD cue0).tx], .bool fd]) (by simp [results, Try.results16, go_sem, x0, x1, x2, x3, x4]) rfl ⟨?_, hx2⟩
      rw [HFD.out, HOL.out]
    · have hk' : (k : Int) < l.length := by omega
      have hk2 : k < l.length := by omega
      obtain ⟨g, off, rfl, c0, c1, c2, c3, c4⟩ := (HR.out.kept HA.out.bel).at k hk2
      have hg1 : g < wr.heap.size := (HR.out.kept HA.out.bel).lt k hk2
      have HN := Lib.hid (active_take l f k hk2)
      obtain ⟨x, hx⟩ : ∃ x, l[k] = x := ⟨_, rfl⟩
      rw [HO.out] at HN
      rw [hx] at c0 c1 c2 c3 c4 HN
      clear hx hkl
      by_cases hin : x.fr ≤ f ∧ f < x.to
      · obtain ⟨hi1, hi2⟩ := hin
        have hi1' : decide (x.fr ≤ f) = true := decide_eq_true hi1
        have hi2' : decide (f < x.to) = true := decide_eq_true hi2
        cases o with
        | none =>
          have HST : Hid (activeL (l.take (k + 1)) f = some x) := by
            show _ = _
            rw [HN.out]
            unfold astep
            rw [if_pos ⟨hi1, hi2⟩]
          dsimp only [Option.isSome_none]
          go_wp2_with fail
          go_quiet (fail)
          have HA2 := Lib.hid (HA.out.drewN nq)
          have HR2 : Hid (RdC (wr.drewN nq) (some ⟨g, off, none⟩) l) := (HR.out.kept HA.out.bel).kept (drewN_below (Below.refl _ _) nq)
          have d0 : (wr.drewN nq).cell? ⟨g, off + k * 5, none⟩ = some (.int .i64 x.id) := c0
          have d1 : (wr.drewN nq).cell? ⟨g, off + k * 5 + 1, none⟩ = some (.int .i64 x.fr) := c1
          have d2 : (wr.drewN nq).cell? ⟨g, off + k * 5 + 2, none⟩ = some (.int .i64 x.to) := c2
          have d3 : (wr.drewN nq).cell? ⟨g, off + k * 5 + 3, none⟩ = some (.int .i64 x.pr) := c3
          have d4 : (wr.drewN nq).cell? ⟨g, off + k * 5 + 4, none⟩ = some (.string x.tx) := c4
          clear c0 c1 c2 c3 c4 HA hi1' hi2' hg1
          generalize wr.drewN nq = w3 at HA2 HR2 d0 d1 d2 d3 d4 ⊢
          obtain ⟨b0, b1, b2, b3, b4⟩ := cue_cells HA2.out.best
          obtain ⟨z0, z1, z2, z3, z4⟩ := cue_free HA2.out.best
          have HA3 := Lib.hid (HA2.out.set x)
          clear HA2
          go_wp2_with fail
          go_roundw
          case rel => exact ⟨k + 1, some x, by omega, by go_num, rfl, HST, HA3⟩
          case measure => simp [intOf]; omega
        | some b =>
          have HST : Hid (activeL (l.take (k + 1)) f = if aheadB x b = true then some x else some b) := by
            show _ = _
            rw [HN.out]
            unfold astep
            rw [if_pos ⟨hi1, hi2⟩]
          obtain ⟨b0, b1, b2, b3, b4⟩ := cue_cells HA.out.best
          dsimp only [Option.getD_some] at b0 b1 b2 b3 b4
          have hg2 : w.heap.size + 1 < wr.heap.size := HA.out.best.lt
          dsimp only [Option.isSome_some]
          go_wp2_with fail
          go_region_held3 (fun w' => w'.cell? ⟨g, off + k * 5, none⟩ = some (.int .i64 x.id) ∧ w'.cell? ⟨g, off + k * 5 + 1, none⟩ = some (.int .i64 x.fr) ∧ w'.cell? ⟨g, off + k * 5 + 2, none⟩ = some (.int .i64 x.to) ∧ w'.cell? ⟨g, off + k * 5 + 3, none⟩ = some (.int .i64 x.pr) ∧ w'.cell? ⟨g, off + k * 5 + 4, none⟩ = some (.string x.tx) ∧ w'.cell? ⟨w.heap.size + 1, 0, none⟩ = some (.int .i64 b.id) ∧ w'.cell? ⟨w.heap.size + 1, 1, none⟩ = some (.int .i64 b.fr) ∧ w'.cell? ⟨w.heap.size + 1, 2, none⟩ = some (.int .i64 b.to) ∧ w'.cell? ⟨w.heap.size + 1, 3, none⟩ = some (.int .i64 b.pr) ∧ w'.cell? ⟨w.heap.size + 1, 4, none⟩ = some (.string b.tx)) (first | go_keep | exact ⟨(hb4.cell (p := ⟨g, _, none⟩) hg1).trans c0, (hb4.cell (p := ⟨g, _, none⟩) hg1).trans c1, (hb4.cell (p := ⟨g, _, none⟩) hg1).trans c2, (hb4.cell (p := ⟨g, _, none⟩) hg1).trans c3, (hb4.cell (p := ⟨g, _, none⟩) hg1).trans c4, (hb4.cell (p := ⟨w.heap.size + 1, _, none⟩) hg2).trans b0, (hb4.cell (p := ⟨w.heap.size + 1, _, none⟩) hg2).trans b1, (hb4.cell (p := ⟨w.heap.size + 1, _, none⟩) hg2).trans b2, (hb4.cell (p := ⟨w.heap.size + 1, _, none⟩) hg2).trans b3, (hb4.cell (p := ⟨w.heap.size + 1, _, none⟩) hg2).trans b4⟩)
            (first | (go_at_call 31; refine (ahead_any x b _).mono ?_; rintro e w4 ⟨rfl, hb4⟩))
          have hb4' : Below wr.heap.size wr w4 := bstep ((Below.refl _ wr).drew) hb4
          have HA4 := Lib.hid (HA.out.below hb4')
          have d0 := (hb4.cell (p := ⟨g, off + k * 5, none⟩) hg1).trans c0
          have d1 := (hb4.cell (p := ⟨g, off + k * 5 + 1, none⟩) hg1).trans c1
          have d2 := (hb4.cell (p := ⟨g, off + k * 5 + 2, none⟩) hg1).trans c2
          have d3 := (hb4.cell (p := ⟨g, off + k * 5 + 3, none⟩) hg1).trans c3
          have d4 := (hb4.cell (p := ⟨g, off + k * 5 + 4, none⟩) hg1).trans c4
          clear c0 c1 c2 c3 c4 b0 b1 b2 b3 b4 hb4 hb4' hg1 hg2 HA
          cases ha : aheadB x b
          · have HST2 : Hid (activeL (l.take (k + 1)) f = some b) := by
              have := HST.out
              rwa [ha, if_neg (by decide)] at this
            clear ha
            go_wp2_with fail
            go_roundw
            case rel => exact ⟨k + 1, some b, by omega, by go_num, rfl, HST2, HA4⟩
            case measure => simp [intOf]; omega
          · have HST2 : Hid (activeL (l.take (k + 1)) f = some x) := by
              have := HST.out
              rwa [ha, if_pos rfl] at this
            clear ha
            obtain ⟨b0, b1, b2, b3, b4⟩ := cue_cells HA4.out.best
            obtain ⟨z0, z1, z2, z3, z4⟩ := cue_free HA4.out.best
            have HA5 := Lib.hid (HA4.out.set x)
            clear HA4
            go_wp2_with fail
            go_roundw
            case rel => exact ⟨k + 1, some x, by omega, by go_num, rfl, HST2, HA5⟩
            case measure => simp [intOf]; omega
      · have HST2 : Hid (activeL (l.take (k + 1)) f = o) := by
          have := HN.out
          unfold astep at this
          rwa [if_neg hin] at this
        clear HN
        rcases (show ¬ x.fr ≤ f ∨ (x.fr ≤ f ∧ ¬ f < x.to) from by omega) with q1 | ⟨q1, q2⟩
        · have q1' : decide (x.fr ≤ f) = false := decide_eq_false q1
          clear hin
          go_wp2_with fail
          go_quiet (fail)
          have HA2 := Lib.hid (HA.out.drewN nq)
          go_wp2_with fail
          go_roundw
          case rel => exact ⟨k + 1, o, by omega, by go_num, rfl, HST2, HA2⟩
          case measure => simp [intOf]; omega
        · have q1' : decide (x.fr ≤ f) = true := decide_eq_true q1
          have q2' : decide (f < x.to) = false := decide_eq_false q2
          clear hin
          go_wp2_with fail
          go_quiet (fail)
          have HA2 := Lib.hid (HA.out.drewN nq)
          go_wp2_with fail
          go_roundw
          case rel => exact ⟨k + 1, o, by omega, by go_num, rfl, HST2, HA2⟩
          case measure => simp [intOf]; omega
end Go.Proofs.Ytjmfhdnckgelaaa
