/-
  The walk of the law MediaMatchesReference (printed by mkmedmatch.py).
-/
import Derived.WalkKit
import Derived.LoopTactic
import Derived.WalkSpells
import Derived.WalkLawsBesides
import Derived.RegionTactic
import Derived.BigRegion
import Derived.Deep.QuietTactic
import Derived.Deep.RegionHeld3
import Derived.BigQuiet
import Derived.IntWalk
import Derived.Outline
import Derived.Test.YtfplajafekpccaaMedRA
import Derived.Test.YtfplajafekpccaaMedRB
import Derived.Test.YtfplajafekpccaaMedRC
set_option linter.unusedVariables false
set_option linter.unusedSimpArgs false
namespace Go.Proofs.Ytfplajafekpccaa
open Go.RowKit Onair
theorem sizes_any' (w : World) (i : Int) (oa : Option Addr) (cap : Nat) (l : List Pic) (hl : l.length ≤ 1000000) (hok : ∀ p ∈ l, POk p) (hr : RdP w oa l) :
    Calls Try.prog 20 #[.agg #[.int .i64 i, .slice oa l.length cap]] w fun e w' => ∃ oa' cap', e = .returned (.slice oa' (sizesL l).length cap') ∧ RdV w' oa' (ints (sizesL l)) ∧ Below w.heap.size w w' := by
  have := sizes_any w i oa cap l hl hok hr
  rw [show (l.map fun x => Value.int .i64 ((x.data.size : Int))) = ints (sizesL l) from by simp [ints, sizesL]] at this
  rw [show (sizesL l).length = l.length from by simp [sizesL]]
  exact this
theorem powers_any' (w : World) (i : Int) (oa : Option Addr) (cap : Nat) (l : List Pic) (hl : l.length ≤ 1000000) (hok : ∀ p ∈ l, POk p) (hr : RdP w oa l) :
    Calls Try.prog 22 #[.agg #[.int .i64 i, .slice oa l.length cap]] w fun e w' => ∃ oa' cap', e = .returned (.slice oa' (powersL l).length cap') ∧ RdV w' oa' (ints (powersL l)) ∧ Below w.heap.size w w' := by
  have := powers_any w i oa cap l hl hok hr
  rw [show (l.map fun x => Value.int .i64 (x.power)) = ints (powersL l) from by simp [ints, powersL]] at this
  rw [show (powersL l).length = l.length from by simp [powersL]]
  exact this
/-- Two assets at r and r + 1. -/
structure AB (W : World) (r : Nat) (i : Int) (oL : Option Addr) (cL : Nat) (L : List Pic) (j : Int) (oM : Option Addr) (cM : Nat) (M : List Pic) (w : World) : Prop where
  a : AM W r i oL cL L w
  b : AM W (r + 1) j oM cM M w
theorem AB.below {W : World} {r : Nat} {i j : Int} {oL oM : Option Addr} {cL cM : Nat} {L M : List Pic} {w w' : World} (h : AB W r i oL cL L j oM cM M w) (hb : Below w.heap.size w w') : AB W r i oL cL L j oM cM M w' := ⟨h.a.below hb, h.b.below hb⟩
theorem AB.cells {W : World} {r : Nat} {i j : Int} {oL oM : Option Addr} {cL cM : Nat} {L M : List Pic} {w : World} (h : AB W r i oL cL L j oM cM M w) :
    w.cell? ⟨r, 0, none⟩ = some (.int .i64 i) ∧ w.cell? ⟨r, 1, none⟩ = some (.slice oL L.length cL) ∧ w.cell? ⟨r + 1, 0, none⟩ = some (.int .i64 j) ∧ w.cell? ⟨r + 1, 1, none⟩ = some (.slice oM M.length cM) :=
  ⟨h.a.blk.cell 0, h.a.blk.cell 1, h.b.blk.cell 0, h.b.blk.cell 1⟩
theorem AB.two {W : World} {r : Nat} {i j : Int} {u0 u1 v0 v1 : Value} {oL oM : Option Addr} {cL cM : Nat} {L M : List Pic} {w1 w2 w3 : World} (hr : W.heap.size = r) (hA : Blk w1 r 24 [u0, u1]) (hB : Blk w1 (r + 1) 24 [v0, v1]) (hb : Below W.heap.size W w1)
    (ho2 : w2.ownsRow w1.heap.size 42 3 (.slice oL L.length cL) L.length (pcells L)) (hb2 : Below w1.heap.size w1 w2)
    (ho3 : w3.ownsRow ((w2.setCell ⟨r, 0, none⟩ (.int .i64 i)).setCell ⟨r, 1, none⟩ (.slice oL L.length cL)).heap.size 42 3 (.slice oM M.length cM) M.length (pcells M))
    (hb3 : Below ((w2.setCell ⟨r, 0, none⟩ (.int .i64 i)).setCell ⟨r, 1, none⟩ (.slice oL L.length cL)).heap.size ((w2.setCell ⟨r, 0, none⟩ (.int .i64 i)).setCell ⟨r, 1, none⟩ (.slice oL L.length cL)) w3) :
    AB W r i oL cL L j oM cM M ((w3.setCell ⟨r + 1, 0, none⟩ (.int .i64 j)).setCell ⟨r + 1, 1, none⟩ (.slice oM M.length cM)) := by
  have hs : ((w2.setCell ⟨r, 0, none⟩ (.int .i64 i)).setCell ⟨r, 1, none⟩ (.slice oL L.length cL)).heap.size = w2.heap.size := by simp [World.setCell]
  rw [hs] at ho3 hb3
  have l1 := hA.lt
  have l2 := hB.lt
  have hz := hb2.size
  have kA := hA.kept (hb2.block _ l1)
  have kB := hB.kept (hb2.block _ l2)
  have kA2 : Blk ((w2.setCell ⟨r, 0, none⟩ (.int .i64 i)).setCell ⟨r, 1, none⟩ (.slice oL L.length cL)) r 24 [.int .i64 i, .slice oL L.length cL] := (kA.set 0 _).set 1 _
  have kB2 : Blk ((w2.setCell ⟨r, 0, none⟩ (.int .i64 i)).setCell ⟨r, 1, none⟩ (.slice oL L.length cL)) (r + 1) 24 [v0, v1] := (kB.other _ (by show r ≠ r + 1; omega) _).other _ (by show r ≠ r + 1; omega) _
  have kA3 := kA2.kept (hb3.block _ (by omega))
  have kB3 := kB2.kept (hb3.block _ (by omega))
  have b2 : Below W.heap.size W ((w2.setCell ⟨r, 0, none⟩ (.int .i64 i)).setCell ⟨r, 1, none⟩ (.slice oL L.length cL)) := ((bstep hb hb2).setCell (p := ⟨r, 0, none⟩) (Nat.le_of_eq hr) _).setCell (p := ⟨r, 1, none⟩) (Nat.le_of_eq hr) _
  have b3 : Below W.heap.size W ((w3.setCell ⟨r + 1, 0, none⟩ (.int .i64 j)).setCell ⟨r + 1, 1, none⟩ (.slice oM M.length cM)) := ((b2.trans (hb3.mono (by omega))).setCell (p := ⟨r + 1, 0, none⟩) (by show _ ≤ r + 1; omega) _).setCell (p := ⟨r + 1, 1, none⟩) (by show _ ≤ r + 1; omega) _
  refine ⟨⟨(kA3.other _ (by show r + 1 ≠ r; omega) _).other _ (by show r + 1 ≠ r; omega) _, ?_, b3⟩, ⟨(kB3.set 0 _).set 1 _, ?_, b3⟩⟩
  · refine (own_rdp (B := w1.heap.size) (n := L.length) (cap := cL) (ownsRow_kept' ho2 (fun g hg => ?_))).2
    have g1 := own_ge ho2 g hg
    have g2 : g < w2.heap.size := by
      rcases ho2.2 with ⟨e, _⟩ | ⟨g', cap', cur, e, _, q2, _⟩
      · rw [e] at hg; simp [Value.ownBlock] at hg
      · rw [e] at hg
        simp [Value.ownBlock] at hg
        subst hg
        exact (Array.getElem?_eq_some_iff.1 q2).1
    rw [Below.heap_setCell _ _ _ _ (by show g ≠ r + 1; omega), Below.heap_setCell _ _ _ _ (by show g ≠ r + 1; omega), hb3.block g g2, Below.heap_setCell _ _ _ _ (by show g ≠ r; omega), Below.heap_setCell _ _ _ _ (by show g ≠ r; omega)]
  · refine (own_rdp (B := w2.heap.size) (n := M.length) (cap := cM) (ownsRow_kept' ho3 (fun g hg => ?_))).2
    have g1 := own_ge ho3 g hg
    rw [Below.heap_setCell _ _ _ _ (by show g ≠ r + 1; omega), Below.heap_setCell _ _ _ _ (by show g ≠ r + 1; omega)]
set_option maxHeartbeats 16000000 in
set_option maxRecDepth 100000 in
theorem walkMatches (W : World) (i : Int) (oa : Option Addr) (ca : Nat) (la : List Pic) (j : Int) (ob : Option Addr) (cb : Nat) (lb : List Pic) (hla : la.length ≤ maxLen) (hoka : ∀ p ∈ la, POk p) (hra : RdP W oa la) (hlb : lb.length ≤ maxLen) (hokb : ∀ p ∈ lb, POk p) (hrb : RdP W ob lb) :
    Calls Try.prog 3 #[.agg #[.int .i64 i, .slice oa la.length ca], .agg #[.int .i64 j, .slice ob lb.length cb]] W fun e w' => e = .returned (.bool true) ∧ Below W.heap.size W w' := by
  obtain ⟨r, hr0⟩ : ∃ r, W.heap.size = r := ⟨_, rfl⟩
  have h1 := AM.new W r i oa ca la hr0 hra
  have h2 := AM.new (W.alloc (.cells #[.int .i64 i, .slice oa la.length ca] 24)) (r + 1) j ob cb lb (by simp [hr0]) (hrb.kept h1.bel)
  have HA0 := Lib.hid (h1.alloc (.cells #[.int .i64 j, .slice ob lb.length cb] 24))
  have HB0 := Lib.hid h2.blk
  have HRA := Lib.hid hra
  have HRB := Lib.hid hrb
  have HR0 := Lib.hid hr0
  have HOKA := Lib.hid hoka
  have HLA := Lib.hid hla
  have HOKB := Lib.hid hokb
  have HLB := Lib.hid hlb
  clear hra hrb h1 h2 hr0 hoka hla hokb hlb
  go_enter Try.func3, Try.ntmps3
  go_wp2_with fail
  rw [HR0.out]
  refine (sane_any _).mono ?_
  rintro e w1 ⟨rfl, hb1⟩
  have HA1 := Lib.hid (HA0.out.below hb1)
  have HB1 := Lib.hid (HB0.out.kept (hb1.block _ HB0.out.lt))
  have c0 := HA1.out.blk.cell 0
  have c1 := HA1.out.blk.cell 1
  simp only [List.getElem?_cons_zero, List.getElem?_cons_succ] at c0 c1
  clear hb1 HA0 HB0
  go_wp2_with fail
  refine (short_any w1 i oa ca la HLA.out HOKA.out HA1.out.rd).mono ?_
  have hlL := cutP_len la
  have hkL := cutP_ok la HOKA.out
  generalize cutP la = L at hlL hkL ⊢
  have HKL := Lib.hid hkL
  rintro e w2 ⟨oL, cL, rfl, ho2, hb2⟩
  have HO2 := Lib.hid ho2
  have HB2 := Lib.hid hb2
  have kA := HA1.out.blk.kept (hb2.block _ HA1.out.blk.lt)
  have kB := HB1.out.kept (hb2.block _ HB1.out.lt)
  have d0 := kA.cell 0
  have f0 := kA.frozen 0
  have d1 := (kA.set 0 (.int .i64 i)).cell 1
  have f1 := (kA.set 0 (.int .i64 i)).frozen 1
  have kB2 := (kB.other ⟨r, 0, none⟩ (by show r ≠ r + 1; omega) (.int .i64 i)).other ⟨r, 1, none⟩ (by show r ≠ r + 1; omega) (.slice oL L.length cL)
  have e0 := kB2.cell 0
  have e1 := kB2.cell 1
  have hbW := ((bstep HA1.out.bel hb2).setCell (p := ⟨r, 0, none⟩) (Nat.le_of_eq HR0.out) (.int .i64 i)).setCell (p := ⟨r, 1, none⟩) (Nat.le_of_eq HR0.out) (.slice oL L.length cL)
  have HRB2 := Lib.hid (HRB.out.kept hbW)
  simp only [List.getElem?_cons_zero, List.getElem?_cons_succ, List.set_cons_zero, List.set_cons_succ] at d0 d1 e0 e1
  have KB2 := Lib.hid kB2
  clear kA kB kB2 ho2 hb2 hkL c0 c1 hbW
  go_wp2_with fail
  refine (short_any _ j ob cb lb HLB.out HOKB.out HRB2.out).mono ?_
  have hlM := cutP_len lb
  have hkM := cutP_ok lb HOKB.out
  generalize cutP lb = M at hlM hkM ⊢
  have HKM := Lib.hid hkM
  rintro e w3 ⟨oM, cM, rfl, ho3, hb3⟩
  have HT := Lib.hid (AB.two (j := j) HR0.out HA1.out.blk HB1.out HA1.out.bel HO2.out HB2.out ho3 hb3)
  have kB3 := KB2.out.kept (hb3.block _ KB2.out.lt)
  clear d0 d1 f0 f1 e0 e1
  have d0 := kB3.cell 0
  have f0 := kB3.frozen 0
  have d1 := (kB3.set 0 (.int .i64 j)).cell 1
  have f1 := (kB3.set 0 (.int .i64 j)).frozen 1
  simp only [List.getElem?_cons_zero, List.getElem?_cons_succ, List.set_cons_zero, List.set_cons_succ] at d0 d1
  clear kB3 ho3 hb3 hkM HA1 HB1 HO2 HB2 KB2 HRB2
  go_wp2_with fail
  clear d0 d1 f0 f1
  generalize (w3.setCell ⟨r + 1, 0, none⟩ (.int .i64 j)).setCell ⟨r + 1, 1, none⟩ (.slice oM M.length cM) = w4 at HT ⊢
  have HQ0 : Hid (AB W r i oL cL L j oM cM M w4.drew) := HT.out.below ((Below.refl _ w4).drew)
  have hD := HQ0.out.cells
  obtain ⟨vb, hVb⟩ : ∃ vb, validA i L = vb := ⟨_, rfl⟩
  have hVb := Lib.hid hVb
  obtain ⟨sb, hSb⟩ : ∃ sb, sameA i L j M = sb := ⟨_, rfl⟩
  have hSb := Lib.hid hSb
  have hkk := keysF_len' L
  have hss := sizesL_len' L
  have hpp := powersL_len' L
  clear HT
  refine wp_region_held_drew (S := fun w' => w'.cell? ⟨r, 0, none⟩ = some (.int .i64 i) ∧ w'.cell? ⟨r, 1, none⟩ = some (.slice oL L.length cL) ∧ w'.cell? ⟨r + 1, 0, none⟩ = some (.int .i64 j) ∧ w'.cell? ⟨r + 1, 1, none⟩ = some (.slice oM M.length cM)) (by kernel_rfl) ?_ (fun hHeld => ?_)
  · exact hD
  clear hD
  generalize w4.drew = z0 at HQ0 hHeld ⊢
  refine wpAnyH_take (i := 0) (oi := ⟨some 11, _, _, _, _, _⟩) (v := .bool true) rfl (by kernel_rfl) (by kernel_rfl) (by kernel_rfl) (fun _ _ _ h => h) (Or.inl ⟨by rfl, ?ya0⟩) (by assumption) ?ra0
  case ya0 => (intro w hSw; (try dsimp only at hSw); go_simp; (try (with_reducible rfl)))
  try simp only [Act.put, List.setIfInBounds_toArray, List.set_cons_zero, List.set_cons_succ]
  refine wpAnyH_take (i := 1) (oi := ⟨some 12, _, _, _, _, _⟩) (v := .bool true) rfl (by kernel_rfl) (by kernel_rfl) (by kernel_rfl) (fun _ _ _ h => h) (Or.inl ⟨by rfl, ?ya1⟩) (by assumption) ?ra1
  case ya1 => (intro w hSw; (try dsimp only at hSw); go_simp; (try (with_reducible rfl)))
  try simp only [Act.put, List.setIfInBounds_toArray, List.set_cons_zero, List.set_cons_succ]
  refine wpAnyH_take (i := 2) (oi := ⟨some 13, _, _, _, _, _⟩) (v := ?va2) rfl (by kernel_rfl) (by kernel_rfl) (by kernel_rfl) (fun _ _ _ h => h) (Or.inl ⟨by rfl, ?ya2⟩) (by assumption) ?ra2
  case ya2 => (intro w hSw; (try dsimp only at hSw); go_simp; (try (with_reducible rfl)))
  try simp only [Act.put, List.setIfInBounds_toArray, List.set_cons_zero, List.set_cons_succ]
  refine wpAnyH_take (i := 4) (oi := ⟨some 15, _, _, _, _, _⟩) (v := ?va4) rfl (by kernel_rfl) (by kernel_rfl) (by kernel_rfl) (fun _ _ _ h => h) (Or.inl ⟨by rfl, ?ya4⟩) (by assumption) ?ra4
  case ya4 => (intro w hSw; (try dsimp only at hSw); go_simp; (try (with_reducible rfl)))
  try simp only [Act.put, List.setIfInBounds_toArray, List.set_cons_zero, List.set_cons_succ]
  refine wpAnyH_ready (rs := [3]) (by kernel_rfl) (by simp) (AllReadyH.cons (o := ⟨some 14, _, _, _, _, _⟩) rfl (fun K hK => ?_) AllReadyH.nil)
  go_simp
  refine (valid_any i oL cL L z0 (by unfold maxLen; omega) HKL.out HQ0.out.a.rd).mono ?_
  rintro e z1 ⟨rfl, hz⟩
  have HQ1 := Lib.hid (HQ0.out.below hz)
  rw [hVb.out]
  clear hz
  go_simp
  refine hK.out _ _ ?_ (fun hHeld2 => ?_)
  · exact HQ1.out.cells
  clear hK K hHeld HQ0
  rename _ => hHeld
  try simp only [Act.put, List.setIfInBounds_toArray, List.set_cons_zero, List.set_cons_succ]
  refine wpAnyH_ready (rs := [5]) (by kernel_rfl) (by simp) (AllReadyH.cons (o := ⟨some 16, _, _, _, _, _⟩) rfl (fun K hK => ?_) AllReadyH.nil)
  go_simp
  refine (refValid_any i oL cL L z1 (by unfold maxLen; omega) HKL.out HQ1.out.a.rd).mono ?_
  rintro e z2 ⟨rfl, hz⟩
  have HQ2 := Lib.hid (HQ1.out.below hz)
  rw [hVb.out]
  clear hz
  go_simp
  refine hK.out _ _ ?_ (fun hHeld2 => ?_)
  · exact HQ2.out.cells
  clear hK K hHeld HQ1
  rename _ => hHeld
  try simp only [Act.put, List.setIfInBounds_toArray, List.set_cons_zero, List.set_cons_succ]
  refine wpAnyH_take (i := 6) (oi := ⟨some 17, _, _, _, _, _⟩) (v := .bool true) rfl (by kernel_rfl) (by kernel_rfl) (by kernel_rfl) (fun _ _ _ h => h) (Or.inl ⟨by rfl, ?ya6⟩) (by assumption) ?ra6
  case ya6 => (intro w hSw; (try dsimp only at hSw); go_simp; (try (with_reducible rfl)))
  try simp only [Act.put, List.setIfInBounds_toArray, List.set_cons_zero, List.set_cons_succ]
  refine wpAnyH_take (i := 7) (oi := ⟨some 18, _, _, _, _, _⟩) (v := .bool true) rfl (by kernel_rfl) (by kernel_rfl) (by kernel_rfl) (fun _ _ _ h => h) (Or.inl ⟨by rfl, ?ya7⟩) (by assumption) ?ra7
  case ya7 => (intro w hSw; (try dsimp only at hSw); go_simp; (try (with_reducible rfl)))
  try simp only [Act.put, List.setIfInBounds_toArray, List.set_cons_zero, List.set_cons_succ]
  refine wpAnyH_take (i := 8) (oi := ⟨some 19, _, _, _, _, _⟩) (v := .bool true) rfl (by kernel_rfl) (by kernel_rfl) (by kernel_rfl) (fun _ _ _ h => h) (Or.inl ⟨by rfl, ?ya8⟩) (by assumption) ?ra8
  case ya8 => (intro w hSw; (try dsimp only at hSw); go_simp; (try (with_reducible rfl)))
  try simp only [Act.put, List.setIfInBounds_toArray, List.set_cons_zero, List.set_cons_succ]
  refine wpAnyH_take (i := 9) (oi := ⟨some 20, _, _, _, _, _⟩) (v := ?va9) rfl (by kernel_rfl) (by kernel_rfl) (by kernel_rfl) (fun _ _ _ h => h) (Or.inl ⟨by rfl, ?ya9⟩) (by assumption) ?ra9
  case ya9 => (intro w hSw; (try dsimp only at hSw); go_simp; (try (with_reducible rfl)))
  try simp only [Act.put, List.setIfInBounds_toArray, List.set_cons_zero, List.set_cons_succ]
  refine wpAnyH_take (i := 10) (oi := ⟨some 21, _, _, _, _, _⟩) (v := ?va10) rfl (by kernel_rfl) (by kernel_rfl) (by kernel_rfl) (fun _ _ _ h => h) (Or.inl ⟨by rfl, ?ya10⟩) (by assumption) ?ra10
  case ya10 => (intro w hSw; (try dsimp only at hSw); go_simp; (try (with_reducible rfl)))
  try simp only [Act.put, List.setIfInBounds_toArray, List.set_cons_zero, List.set_cons_succ]
  refine wpAnyH_take (i := 12) (oi := ⟨some 23, _, _, _, _, _⟩) (v := ?va12) rfl (by kernel_rfl) (by kernel_rfl) (by kernel_rfl) (fun _ _ _ h => h) (Or.inl ⟨by rfl, ?ya12⟩) (by assumption) ?ra12
  case ya12 => (intro w hSw; (try dsimp only at hSw); go_simp; (try (with_reducible rfl)))
  try simp only [Act.put, List.setIfInBounds_toArray, List.set_cons_zero, List.set_cons_succ]
  refine wpAnyH_take (i := 13) (oi := ⟨some 24, _, _, _, _, _⟩) (v := ?va13) rfl (by kernel_rfl) (by kernel_rfl) (by kernel_rfl) (fun _ _ _ h => h) (Or.inl ⟨by rfl, ?ya13⟩) (by assumption) ?ra13
  case ya13 => (intro w hSw; (try dsimp only at hSw); go_simp; (try (with_reducible rfl)))
  try simp only [Act.put, List.setIfInBounds_toArray, List.set_cons_zero, List.set_cons_succ]
  refine wpAnyH_ready (rs := [11]) (by kernel_rfl) (by simp) (AllReadyH.cons (o := ⟨some 22, _, _, _, _, _⟩) rfl (fun K hK => ?_) AllReadyH.nil)
  go_simp
  refine (same_any z2 i j oL oM cL cM L M (by omega) (by omega) HQ2.out.a.rd HQ2.out.b.rd).mono ?_
  rintro e z3 ⟨rfl, hz⟩
  have HQ3 := Lib.hid (HQ2.out.below hz)
  rw [hSb.out]
  clear hz
  go_simp
  refine hK.out _ _ ?_ (fun hHeld2 => ?_)
  · exact HQ3.out.cells
  clear hK K hHeld HQ2
  rename _ => hHeld
  try simp only [Act.put, List.setIfInBounds_toArray, List.set_cons_zero, List.set_cons_succ]
  refine wpAnyH_ready (rs := [14]) (by kernel_rfl) (by simp) (AllReadyH.cons (o := ⟨some 25, _, _, _, _, _⟩) rfl (fun K hK => ?_) AllReadyH.nil)
  go_simp
  refine (refSame_any z3 i j oL oM cL cM L M (by omega) (by omega) HQ3.out.a.rd HQ3.out.b.rd).mono ?_
  rintro e z4 ⟨rfl, hz⟩
  have HQ4 := Lib.hid (HQ3.out.below hz)
  rw [hSb.out]
  clear hz
  go_simp
  refine hK.out _ _ ?_ (fun hHeld2 => ?_)
  · exact HQ4.out.cells
  clear hK K hHeld HQ3
  rename _ => hHeld
  try simp only [Act.put, List.setIfInBounds_toArray, List.set_cons_zero, List.set_cons_succ]
  refine wpAnyH_take (i := 15) (oi := ⟨some 26, _, _, _, _, _⟩) (v := .bool true) rfl (by kernel_rfl) (by kernel_rfl) (by kernel_rfl) (fun _ _ _ h => h) (Or.inl ⟨by rfl, ?ya15⟩) (by assumption) ?ra15
  case ya15 => (intro w hSw; (try dsimp only at hSw); go_simp; (try (with_reducible rfl)))
  try simp only [Act.put, List.setIfInBounds_toArray, List.set_cons_zero, List.set_cons_succ]
  refine wpAnyH_take (i := 16) (oi := ⟨some 27, _, _, _, _, _⟩) (v := .bool true) rfl (by kernel_rfl) (by kernel_rfl) (by kernel_rfl) (fun _ _ _ h => h) (Or.inl ⟨by rfl, ?ya16⟩) (by assumption) ?ra16
  case ya16 => (intro w hSw; (try dsimp only at hSw); go_simp; (try (with_reducible rfl)))
  try simp only [Act.put, List.setIfInBounds_toArray, List.set_cons_zero, List.set_cons_succ]
  refine wpAnyH_take (i := 17) (oi := ⟨some 28, _, _, _, _, _⟩) (v := .bool true) rfl (by kernel_rfl) (by kernel_rfl) (by kernel_rfl) (fun _ _ _ h => h) (Or.inl ⟨by rfl, ?ya17⟩) (by assumption) ?ra17
  case ya17 => (intro w hSw; (try dsimp only at hSw); go_simp; (try (with_reducible rfl)))
  try simp only [Act.put, List.setIfInBounds_toArray, List.set_cons_zero, List.set_cons_succ]
  refine wpAnyH_take (i := 18) (oi := ⟨some 29, _, _, _, _, _⟩) (v := ?va18) rfl (by kernel_rfl) (by kernel_rfl) (by kernel_rfl) (fun _ _ _ h => h) (Or.inl ⟨by rfl, ?ya18⟩) (by assumption) ?ra18
  case ya18 => (intro w hSw; (try dsimp only at hSw); go_simp; (try (with_reducible rfl)))
  try simp only [Act.put, List.setIfInBounds_toArray, List.set_cons_zero, List.set_cons_succ]
  refine wpAnyH_take (i := 19) (oi := ⟨some 30, _, _, _, _, _⟩) (v := ?va19) rfl (by kernel_rfl) (by kernel_rfl) (by kernel_rfl) (fun _ _ _ h => h) (Or.inl ⟨by rfl, ?ya19⟩) (by assumption) ?ra19
  case ya19 => (intro w hSw; (try dsimp only at hSw); go_simp; (try (with_reducible rfl)))
  try simp only [Act.put, List.setIfInBounds_toArray, List.set_cons_zero, List.set_cons_succ]
  refine wpAnyH_ready (rs := [20]) (by kernel_rfl) (by simp) (AllReadyH.cons (o := ⟨some 31, _, _, _, _, _⟩) rfl (fun K hK => ?_) AllReadyH.nil)
  go_simp
  refine (same_any z4 i i oL oL cL cL L L (by omega) (by omega) HQ4.out.a.rd HQ4.out.a.rd).mono ?_
  rintro e z5 ⟨rfl, hz⟩
  have HQ5 := Lib.hid (HQ4.out.below hz)
  rw [sameA_self]
  clear hz
  go_simp
  refine hK.out _ _ ?_ (fun hHeld2 => ?_)
  · exact HQ5.out.cells
  clear hK K hHeld HQ4
  rename _ => hHeld
  try simp only [Act.put, List.setIfInBounds_toArray, List.set_cons_zero, List.set_cons_succ]
  refine wpAnyH_take (i := 21) (oi := ⟨some 32, _, _, _, _, _⟩) (v := .bool true) rfl (by kernel_rfl) (by kernel_rfl) (by kernel_rfl) (fun _ _ _ h => h) (Or.inl ⟨by rfl, ?ya21⟩) (by assumption) ?ra21
  case ya21 => (intro w hSw; (try dsimp only at hSw); go_simp; (try (with_reducible rfl)))
  try simp only [Act.put, List.setIfInBounds_toArray, List.set_cons_zero, List.set_cons_succ]
  refine wpAnyH_take (i := 22) (oi := ⟨some 33, _, _, _, _, _⟩) (v := .bool true) rfl (by kernel_rfl) (by kernel_rfl) (by kernel_rfl) (fun _ _ _ h => h) (Or.inl ⟨by rfl, ?ya22⟩) (by assumption) ?ra22
  case ya22 => (intro w hSw; (try dsimp only at hSw); go_simp; (try (with_reducible rfl)))
  try simp only [Act.put, List.setIfInBounds_toArray, List.set_cons_zero, List.set_cons_succ]
  refine wpAnyH_take (i := 23) (oi := ⟨some 34, _, _, _, _, _⟩) (v := ?va23) rfl (by kernel_rfl) (by kernel_rfl) (by kernel_rfl) (fun _ _ _ h => h) (Or.inl ⟨by rfl, ?ya23⟩) (by assumption) ?ra23
  case ya23 => (intro w hSw; (try dsimp only at hSw); go_simp; (try (with_reducible rfl)))
  try simp only [Act.put, List.setIfInBounds_toArray, List.set_cons_zero, List.set_cons_succ]
  refine wpAnyH_take (i := 25) (oi := ⟨some 36, _, _, _, _, _⟩) (v := ?va25) rfl (by kernel_rfl) (by kernel_rfl) (by kernel_rfl) (fun _ _ _ h => h) (Or.inl ⟨by rfl, ?ya25⟩) (by assumption) ?ra25
  case ya25 => (intro w hSw; (try dsimp only at hSw); go_simp; (try (with_reducible rfl)))
  try simp only [Act.put, List.setIfInBounds_toArray, List.set_cons_zero, List.set_cons_succ]
  refine wpAnyH_ready (rs := [24]) (by kernel_rfl) (by simp) (AllReadyH.cons (o := ⟨some 35, _, _, _, _, _⟩) rfl (fun K hK => ?_) AllReadyH.nil)
  go_simp
  refine (keys_any z5 i oL cL L (by omega) HKL.out HQ5.out.a.rd).mono ?_
  rintro e z6 ⟨o24, c24, rfl, hx, hz⟩
  have HQ6 := Lib.hid (HQ5.out.below hz)
  have HX := Lib.hid hx
  clear hx
  clear hz
  go_simp
  refine hK.out _ _ ?_ (fun hHeld2 => ?_)
  · exact HQ6.out.cells
  clear hK K hHeld HQ5
  rename _ => hHeld
  try simp only [Act.put, List.setIfInBounds_toArray, List.set_cons_zero, List.set_cons_succ]
  refine wpAnyH_ready (rs := [26]) (by kernel_rfl) (by simp) (AllReadyH.cons (o := ⟨some 37, _, _, _, _, _⟩) rfl (fun K hK => ?_) AllReadyH.nil)
  go_simp
  refine (refKeys_any z6 i oL cL L (by omega) HKL.out HQ6.out.a.rd).mono ?_
  rintro e z7 ⟨o26, c26, rfl, hy, hz⟩
  have HQ7 := Lib.hid (HQ6.out.below hz)
  have HX := Lib.hid (HX.out.kept hz)
  have HY := Lib.hid hy
  clear hy
  clear hz
  go_simp
  refine hK.out _ _ ?_ (fun hHeld2 => ?_)
  · exact HQ7.out.cells
  clear hK K hHeld HQ6
  rename _ => hHeld
  try simp only [Act.put, List.setIfInBounds_toArray, List.set_cons_zero, List.set_cons_succ]
  refine wpAnyH_ready (rs := [27]) (by kernel_rfl) (by simp) (AllReadyH.cons (o := ⟨some 38, _, _, _, _, _⟩) rfl (fun K hK => ?_) AllReadyH.nil)
  go_simp
  refine (sameInts_any z7 o24 o26 c24 c26 (keysF 0 L) (keysF 0 L) (by omega) (by omega) HX.out HY.out).mono ?_
  rintro e z8 ⟨rfl, hz⟩
  have HQ8 := Lib.hid (HQ7.out.below hz)
  rw [show sameI (keysF 0 L) (keysF 0 L) = true from decide_eq_true rfl]
  clear HX HY
  clear hz
  go_simp
  refine hK.out _ _ ?_ (fun hHeld2 => ?_)
  · exact HQ8.out.cells
  clear hK K hHeld HQ7
  rename _ => hHeld
  try simp only [Act.put, List.setIfInBounds_toArray, List.set_cons_zero, List.set_cons_succ]
  refine wpAnyH_take (i := 28) (oi := ⟨some 39, _, _, _, _, _⟩) (v := .bool true) rfl (by kernel_rfl) (by kernel_rfl) (by kernel_rfl) (fun _ _ _ h => h) (Or.inl ⟨by rfl, ?ya28⟩) (by assumption) ?ra28
  case ya28 => (intro w hSw; (try dsimp only at hSw); go_simp; (try (with_reducible rfl)))
  try simp only [Act.put, List.setIfInBounds_toArray, List.set_cons_zero, List.set_cons_succ]
  refine wpAnyH_take (i := 29) (oi := ⟨some 40, _, _, _, _, _⟩) (v := .bool true) rfl (by kernel_rfl) (by kernel_rfl) (by kernel_rfl) (fun _ _ _ h => h) (Or.inl ⟨by rfl, ?ya29⟩) (by assumption) ?ra29
  case ya29 => (intro w hSw; (try dsimp only at hSw); go_simp; (try (with_reducible rfl)))
  try simp only [Act.put, List.setIfInBounds_toArray, List.set_cons_zero, List.set_cons_succ]
  refine wpAnyH_take (i := 30) (oi := ⟨some 41, _, _, _, _, _⟩) (v := ?va30) rfl (by kernel_rfl) (by kernel_rfl) (by kernel_rfl) (fun _ _ _ h => h) (Or.inl ⟨by rfl, ?ya30⟩) (by assumption) ?ra30
  case ya30 => (intro w hSw; (try dsimp only at hSw); go_simp; (try (with_reducible rfl)))
  try simp only [Act.put, List.setIfInBounds_toArray, List.set_cons_zero, List.set_cons_succ]
  refine wpAnyH_take (i := 32) (oi := ⟨some 43, _, _, _, _, _⟩) (v := ?va32) rfl (by kernel_rfl) (by kernel_rfl) (by kernel_rfl) (fun _ _ _ h => h) (Or.inl ⟨by rfl, ?ya32⟩) (by assumption) ?ra32
  case ya32 => (intro w hSw; (try dsimp only at hSw); go_simp; (try (with_reducible rfl)))
  try simp only [Act.put, List.setIfInBounds_toArray, List.set_cons_zero, List.set_cons_succ]
  refine wpAnyH_ready (rs := [31]) (by kernel_rfl) (by simp) (AllReadyH.cons (o := ⟨some 42, _, _, _, _, _⟩) rfl (fun K hK => ?_) AllReadyH.nil)
  go_simp
  refine (sizes_any' z8 i oL cL L (by omega) HKL.out HQ8.out.a.rd).mono ?_
  rintro e z9 ⟨o31, c31, rfl, hx, hz⟩
  have HQ9 := Lib.hid (HQ8.out.below hz)
  have HX := Lib.hid hx
  clear hx
  clear hz
  go_simp
  refine hK.out _ _ ?_ (fun hHeld2 => ?_)
  · exact HQ9.out.cells
  clear hK K hHeld HQ8
  rename _ => hHeld
  try simp only [Act.put, List.setIfInBounds_toArray, List.set_cons_zero, List.set_cons_succ]
  refine wpAnyH_ready (rs := [33]) (by kernel_rfl) (by simp) (AllReadyH.cons (o := ⟨some 44, _, _, _, _, _⟩) rfl (fun K hK => ?_) AllReadyH.nil)
  go_simp
  refine (refSizes_any z9 i oL cL L (by omega) HKL.out HQ9.out.a.rd).mono ?_
  rintro e z10 ⟨o33, c33, rfl, hy, hz⟩
  have HQ10 := Lib.hid (HQ9.out.below hz)
  have HX := Lib.hid (HX.out.kept hz)
  have HY := Lib.hid hy
  clear hy
  clear hz
  go_simp
  refine hK.out _ _ ?_ (fun hHeld2 => ?_)
  · exact HQ10.out.cells
  clear hK K hHeld HQ9
  rename _ => hHeld
  try simp only [Act.put, List.setIfInBounds_toArray, List.set_cons_zero, List.set_cons_succ]
  refine wpAnyH_ready (rs := [34]) (by kernel_rfl) (by simp) (AllReadyH.cons (o := ⟨some 45, _, _, _, _, _⟩) rfl (fun K hK => ?_) AllReadyH.nil)
  go_simp
  refine (sameInts_any z10 o31 o33 c31 c33 (sizesL L) (sizesL L) (by omega) (by omega) HX.out HY.out).mono ?_
  rintro e z11 ⟨rfl, hz⟩
  have HQ11 := Lib.hid (HQ10.out.below hz)
  rw [show sameI (sizesL L) (sizesL L) = true from decide_eq_true rfl]
  clear HX HY
  clear hz
  go_simp
  refine hK.out _ _ ?_ (fun hHeld2 => ?_)
  · exact HQ11.out.cells
  clear hK K hHeld HQ10
  rename _ => hHeld
  try simp only [Act.put, List.setIfInBounds_toArray, List.set_cons_zero, List.set_cons_succ]
  refine wpAnyH_take (i := 35) (oi := ⟨some 46, _, _, _, _, _⟩) (v := .bool true) rfl (by kernel_rfl) (by kernel_rfl) (by kernel_rfl) (fun _ _ _ h => h) (Or.inl ⟨by rfl, ?ya35⟩) (by assumption) ?ra35
  case ya35 => (intro w hSw; (try dsimp only at hSw); go_simp; (try (with_reducible rfl)))
  try simp only [Act.put, List.setIfInBounds_toArray, List.set_cons_zero, List.set_cons_succ]
  refine wpAnyH_take (i := 36) (oi := ⟨some 47, _, _, _, _, _⟩) (v := .bool true) rfl (by kernel_rfl) (by kernel_rfl) (by kernel_rfl) (fun _ _ _ h => h) (Or.inl ⟨by rfl, ?ya36⟩) (by assumption) ?ra36
  case ya36 => (intro w hSw; (try dsimp only at hSw); go_simp; (try (with_reducible rfl)))
  try simp only [Act.put, List.setIfInBounds_toArray, List.set_cons_zero, List.set_cons_succ]
  refine wpAnyH_take (i := 37) (oi := ⟨some 48, _, _, _, _, _⟩) (v := ?va37) rfl (by kernel_rfl) (by kernel_rfl) (by kernel_rfl) (fun _ _ _ h => h) (Or.inl ⟨by rfl, ?ya37⟩) (by assumption) ?ra37
  case ya37 => (intro w hSw; (try dsimp only at hSw); go_simp; (try (with_reducible rfl)))
  try simp only [Act.put, List.setIfInBounds_toArray, List.set_cons_zero, List.set_cons_succ]
  refine wpAnyH_take (i := 39) (oi := ⟨some 50, _, _, _, _, _⟩) (v := ?va39) rfl (by kernel_rfl) (by kernel_rfl) (by kernel_rfl) (fun _ _ _ h => h) (Or.inl ⟨by rfl, ?ya39⟩) (by assumption) ?ra39
  case ya39 => (intro w hSw; (try dsimp only at hSw); go_simp; (try (with_reducible rfl)))
  try simp only [Act.put, List.setIfInBounds_toArray, List.set_cons_zero, List.set_cons_succ]
  refine wpAnyH_ready (rs := [38]) (by kernel_rfl) (by simp) (AllReadyH.cons (o := ⟨some 49, _, _, _, _, _⟩) rfl (fun K hK => ?_) AllReadyH.nil)
  go_simp
  refine (powers_any' z11 i oL cL L (by omega) HKL.out HQ11.out.a.rd).mono ?_
  rintro e z12 ⟨o38, c38, rfl, hx, hz⟩
  have HQ12 := Lib.hid (HQ11.out.below hz)
  have HX := Lib.hid hx
  clear hx
  clear hz
  go_simp
  refine hK.out _ _ ?_ (fun hHeld2 => ?_)
  · exact HQ12.out.cells
  clear hK K hHeld HQ11
  rename _ => hHeld
  try simp only [Act.put, List.setIfInBounds_toArray, List.set_cons_zero, List.set_cons_succ]
  refine wpAnyH_ready (rs := [40]) (by kernel_rfl) (by simp) (AllReadyH.cons (o := ⟨some 51, _, _, _, _, _⟩) rfl (fun K hK => ?_) AllReadyH.nil)
  go_simp
  refine (refPowers_any z12 i oL cL L (by omega) HKL.out HQ12.out.a.rd).mono ?_
  rintro e z13 ⟨o40, c40, rfl, hy, hz⟩
  have HQ13 := Lib.hid (HQ12.out.below hz)
  have HX := Lib.hid (HX.out.kept hz)
  have HY := Lib.hid hy
  clear hy
  clear hz
  go_simp
  refine hK.out _ _ ?_ (fun hHeld2 => ?_)
  · exact HQ13.out.cells
  clear hK K hHeld HQ12
  rename _ => hHeld
  try simp only [Act.put, List.setIfInBounds_toArray, List.set_cons_zero, List.set_cons_succ]
  refine wpAnyH_ready (rs := [41]) (by kernel_rfl) (by simp) (AllReadyH.cons (o := ⟨some 52, _, _, _, _, _⟩) rfl (fun K hK => ?_) AllReadyH.nil)
  go_simp
  refine (sameInts_any z13 o38 o40 c38 c40 (powersL L) (powersL L) (by omega) (by omega) HX.out HY.out).mono ?_
  rintro e z14 ⟨rfl, hz⟩
  have HQ14 := Lib.hid (HQ13.out.below hz)
  rw [show sameI (powersL L) (powersL L) = true from decide_eq_true rfl]
  clear HX HY
  clear hz
  go_simp
  refine hK.out _ _ ?_ (fun hHeld2 => ?_)
  · exact HQ14.out.cells
  clear hK K hHeld HQ13
  rename _ => hHeld
  try simp only [Act.put, List.setIfInBounds_toArray, List.set_cons_zero, List.set_cons_succ]
  refine wpAnyH_take (i := 42) (oi := ⟨some 53, _, _, _, _, _⟩) (v := .bool true) rfl (by kernel_rfl) (by kernel_rfl) (by kernel_rfl) (fun _ _ _ h => h) (Or.inl ⟨by rfl, ?ya42⟩) (by assumption) ?ra42
  case ya42 => (intro w hSw; (try dsimp only at hSw); go_simp; (try (with_reducible rfl)))
  try simp only [Act.put, List.setIfInBounds_toArray, List.set_cons_zero, List.set_cons_succ]
  refine wpAnyH_take (i := 43) (oi := ⟨some 4, _, _, _, _, _⟩) (v := .bool true) rfl (by kernel_rfl) (by kernel_rfl) (by kernel_rfl) (fun _ _ _ h => h) (Or.inl ⟨by rfl, ?ya43⟩) (by assumption) ?ra43
  case ya43 => (intro w hSw; (try dsimp only at hSw); go_simp; (try (with_reducible rfl)))
  try simp only [Act.put, List.setIfInBounds_toArray, List.set_cons_zero, List.set_cons_succ]
  refine wpAnyH_done (by kernel_rfl) ?_ _
  clear hHeld
  go_wp2_with fail
  go_ret
  exact ⟨rfl, HQ14.out.a.bel⟩
end Go.Proofs.Ytfplajafekpccaa
