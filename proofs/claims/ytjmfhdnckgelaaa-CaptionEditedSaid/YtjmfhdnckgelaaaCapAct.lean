/-
  The walks of caption.Active and caption.Same.
-/
import Derived.WalkKit
import Derived.LoopTactic
import Derived.WalkSpells
import Derived.WalkLawsBesides
import Derived.RegionTactic
import Derived.BigRegion
import Derived.Deep.QuietTactic
import Derived.BigQuiet
import Derived.IntWalk
import Derived.Outline
import Derived.Test.YtjmfhdnckgelaaaCapSlice
set_option linter.unusedVariables false
set_option linter.unusedSimpArgs false
namespace Go.Proofs.Ytjmfhdnckgelaaa
open Go.RowKit
/-- The five cells of a cue in block g. -/
theorem cue_cells {W : World} {g : Nat} {t : TypeId} {c : Cue} (h : Blk W g t c.cells) : W.cell? ⟨g, 0, none⟩ = some (.int .i64 c.id) ∧ W.cell? ⟨g, 1, none⟩ = some (.int .i64 c.fr) ∧ W.cell? ⟨g, 2, none⟩ = some (.int .i64 c.to) ∧ W.cell? ⟨g, 3, none⟩ = some (.int .i64 c.pr) ∧ W.cell? ⟨g, 4, none⟩ = some (.string c.tx) :=
  ⟨h.cell 0, h.cell 1, h.cell 2, h.cell 3, h.cell 4⟩
theorem cue_free {W : World} {g : Nat} {t : TypeId} {c : Cue} (h : Blk W g t c.cells) : W.frozen? ⟨g, 0, none⟩ = false ∧ W.frozen? ⟨g, 1, none⟩ = false ∧ W.frozen? ⟨g, 2, none⟩ = false ∧ W.frozen? ⟨g, 3, none⟩ = false ∧ W.frozen? ⟨g, 4, none⟩ = false :=
  ⟨h.frozen 0, h.frozen 1, h.frozen 2, h.frozen 3, h.frozen 4⟩
def prefB (x : Cue) (o : Option Cue) : Bool := match o with | none => true | some b => aheadB x b
set_option maxHeartbeats 1000000 in
set_option maxRecDepth 100000 in
theorem pref_any (x : Cue) (o : Option Cue) (Bf Bb : Nat) (w : World) (hf : Blk w Bf 4 [.bool o.isSome]) (hb : Blk w Bb 24 (o.getD cue0).cells) :
    Calls Try.prog 30 #[.agg #[.int .i64 x.id, .int .i64 x.fr, .int .i64 x.to, .int .i64 x.pr, .string x.tx], .pointer (some ⟨Bf, 0, none⟩), .pointer (some ⟨Bb, 0, none⟩)] w fun e w' => e = .returned (.bool (prefB x o)) ∧ Below w.heap.size w w' := by
  have hf' := hf.alloc (.cells #[.int .i64 x.id, .int .i64 x.fr, .int .i64 x.to, .int .i64 x.pr, .string x.tx] 24)
  have hb' := hb.alloc (.cells #[.int .i64 x.id, .int .i64 x.fr, .int .i64 x.to, .int .i64 x.pr, .string x.tx] 24)
  have f0 := hf'.cell 0
  simp only [List.getElem?_cons_zero] at f0
  obtain ⟨b0, b1, b2, b3, b4⟩ := cue_cells hb'
  clear hf hb hf' hb'
  cases o with
  | none =>
    simp only [Option.isSome_none] at f0
    clear b0 b1 b2 b3 b4
    go_enter Try.func30, Try.ntmps30
    go_wp2_with fail
    go_ret
    exact ⟨rfl, (Below.refl _ w).alloc (Nat.le_refl _) _⟩
  | some b =>
    simp only [Option.isSome_some] at f0
    simp only [Option.getD_some] at b0 b1 b2 b3 b4
    show Calls _ _ _ _ fun e w' => e = .returned (.bool (aheadB x b)) ∧ _
    clear b2 b4
    by_cases h1 : x.pr = b.pr
    · have h1' : (x.pr != b.pr) = false := by rw [h1]; simp
      by_cases h2 : x.fr = b.fr
      · have h2' : (x.fr != b.fr) = false := by rw [h2]; simp
        have HA : Hid (aheadB x b = decide (b.id ≤ x.id)) := by
          show _ = _
          unfold aheadB
          rw [if_neg (by rw [h1]; simp), if_neg (by rw [h2]; simp)]
        clear h1 h2
        go_enter Try.func30, Try.ntmps30
        go_wp2_with fail
        go_ret
        exact ⟨by rw [HA.out]; rfl, (Below.refl _ w).alloc (Nat.le_refl _) _⟩
      · have h2' : (x.fr != b.fr) = true := by simpa using h2
        have HA : Hid (aheadB x b = decide (b.fr < x.fr)) := by
          show _ = _
          unfold aheadB
          rw [if_neg (by rw [h1]; simp), if_pos h2]
        clear h1 h2
        go_enter Try.func30, Try.ntmps30
        go_wp2_with fail
        go_ret
        exact ⟨by rw [HA.out]; rfl, (Below.refl _ w).alloc (Nat.le_refl _) _⟩
    · have h1' : (x.pr != b.pr) = true := by simpa using h1
      have HA : Hid (aheadB x b = decide (b.pr < x.pr)) := by
        show _ = _
        unfold aheadB
        rw [if_pos h1]
      clear h1
      go_enter Try.func30, Try.ntmps30
      go_wp2_with fail
      go_ret
      exact ⟨by rw [HA.out]; rfl, (Below.refl _ w).alloc (Nat.le_refl _) _⟩
theorem active_take (l : List Cue) (f : Int) (k : Nat) (hk : k < l.length) : activeL (l.take (k + 1)) f = astep f (activeL (l.take k) f) l[k] := by
  rw [List.take_succ_eq_append_getElem hk, activeL_snoc]
/-- What Active keeps in memory. -/
structure AO (w wr : World) (o : Option Cue) : Prop where
  res : Blk wr w.heap.size 24 cue0.cells
  best : Blk wr (w.heap.size + 1) 24 (o.getD cue0).cells
  found : Blk wr (w.heap.size + 1 + 1) 4 [.bool o.isSome]
  bel : Below w.heap.size w wr
theorem AO.below {w wr w' : World} {o : Option Cue} (h : AO w wr o) (hb : Below wr.heap.size wr w') : AO w w' o :=
  ⟨h.res.kept (hb.block _ h.res.lt), h.best.kept (hb.block _ h.best.lt), h.found.kept (hb.block _ h.found.lt), bstep h.bel hb⟩
theorem AO.set {w wr : World} {o : Option Cue} (h : AO w wr o) (x : Cue) : AO w ((((((wr.setCell ⟨w.heap.size + 1, 0, none⟩ (.int .i64 x.id)).setCell ⟨w.heap.size + 1, 1, none⟩ (.int .i64 x.fr)).setCell ⟨w.heap.size + 1, 2, none⟩ (.int .i64 x.to)).setCell ⟨w.heap.size + 1, 3, none⟩ (.int .i64 x.pr)).setCell ⟨w.heap.size + 1, 4, none⟩ (.string x.tx)).setCell ⟨w.heap.size + 1 + 1, 0, none⟩ (.bool true)) (some x) := by
  refine ⟨?_, ?_, ?_, ?_⟩
  · exact (((((h.res.other _ (by simp) _).other _ (by simp) _).other _ (by simp) _).other _ (by simp) _).other _ (by simp) _).other _ (by simp; omega) _
  · have := (((((h.best.set 0 (.int .i64 x.id)).set 1 (.int .i64 x.fr)).set 2 (.int .i64 x.to)).set 3 (.int .i64 x.pr)).set 4 (.string x.tx)).other ⟨w.heap.size + 1 + 1, 0, none⟩ (by simp) (.bool true)
    exact this
  · have := (((((h.found.other ⟨w.heap.size + 1, 0, none⟩ (by simp) (.int .i64 x.id)).other ⟨w.heap.size + 1, 1, none⟩ (by simp) (.int .i64 x.fr)).other ⟨w.heap.size + 1, 2, none⟩ (by simp) (.int .i64 x.to)).other ⟨w.heap.size + 1, 3, none⟩ (by simp) (.int .i64 x.pr)).other ⟨w.heap.size + 1, 4, none⟩ (by simp) (.string x.tx)).set 0 (.bool true)
    exact this
  · exact (((((h.bel.setCell (by simp) _).setCell (by simp) _).setCell (by simp) _).setCell (by simp) _).setCell (by simp) _).setCell (by simp; omega) _
set_option maxHeartbeats 2000000 in
set_option maxRecDepth 100000 in
theorem active_any (w : World) (oa : Option Addr) (cap : Nat) (l : List Cue) (f : Int) (hl : l.length ≤ 1000) (hr : RdC w oa l) :
    Calls Try.prog 15 #[.slice oa l.length cap, .int .i64 f] w fun e w' => e = .returned (.tuple #[.agg #[.int .i64 ((activeL l f).getD cue0).id, .int .i64 ((activeL l f).getD cue0).fr, .int .i64 ((activeL l f).getD cue0).to, .int .i64 ((activeL l f).getD cue0).pr, .string ((activeL l f).getD cue0).tx], .bool (activeL l f).isSome]) ∧ Below w.heap.size w w' := by
  have HR := Lib.hid hr
  clear hr
  go_enter Try.func15, Try.ntmps15
  go_wp2_with fail
  have HA : Hid (AO w (((w.alloc (.cells #[.int .i64 0, .int .i64 0, .int .i64 0, .int .i64 0, .string ⟨#[]⟩] 24)).alloc (.cells #[.int .i64 0, .int .i64 0, .int .i64 0, .int .i64 0, .string ⟨#[]⟩] 24)).alloc (.cells #[.bool false] 4)) none) := by
    refine ⟨((Blk.new w 24 cue0.cells).alloc _).alloc _, ?_, ?_, (((Below.refl _ w).alloc (Nat.le_refl _) _).alloc (by simp) _).alloc (by simp; omega) _⟩
    · have := (Blk.new (w.alloc (.cells #[.int .i64 0, .int .i64 0, .int .i64 0, .int .i64 0, .string ⟨#[]⟩] 24)) 24 cue0.cells).alloc (.cells #[.bool false] 4)
      rw [show (w.alloc (.cells #[.int .i64 0, .int .i64 0, .int .i64 0, .int .i64 0, .string ⟨#[]⟩] 24)).heap.size = w.heap.size + 1 from by simp] at this
      exact this
    · have := Blk.new ((w.alloc (.cells #[.int .i64 0, .int .i64 0, .int .i64 0, .int .i64 0, .string ⟨#[]⟩] 24)).alloc (.cells #[.int .i64 0, .int .i64 0, .int .i64 0, .int .i64 0, .string ⟨#[]⟩] 24)) 4 [.bool false]
      simpa using this
  generalize (((w.alloc (.cells #[.int .i64 0, .int .i64 0, .int .i64 0, .int .i64 0, .string ⟨#[]⟩] 24)).alloc (.cells #[.int .i64 0, .int .i64 0, .int .i64 0, .int .i64 0, .string ⟨#[]⟩] 24)).alloc (.cells #[.bool false] 4)) = w0 at HA ⊢
  go_loopw [14] (fun i wr => ∃ (k : Nat) (o : Option Cue), k ≤ l.length ∧ i = .int .i64 k ∧ Hid (activeL (l.take k) f = o) ∧ Hid (AO w wr o)) (fun i _ => l.length - (intOf i).toNat)
  case atStart => exact ⟨0, none, Nat.zero_le _, rfl, by show _ = _; rfl, HA⟩
  case round =>
    clear HA w0
    obtain ⟨k, o, hk, rfl, HO, HA⟩ := hrel
    by_cases hkl : k = l.length
    · have HOL : Hid (activeL l f = o) := by
        have := HO.out
        rwa [hkl, List.take_length] at this
      have hk' : ¬ (k : Int) < l.length := by omega
      clear hkl HO
      obtain ⟨b0, b1, b2, b3, b4⟩ := cue_cells HA.out.best
      obtain ⟨r0, r1, r2, r3, r4⟩ := cue_cells HA.out.res
      obtain ⟨z0, z1, z2, z3, z4⟩ := cue_free HA.out.res
      have f0 := HA.out.found.cell 0
      simp only [List.getElem?_cons_zero] at f0
      have HX : Hid (Blk (((((wr.setCell ⟨w.heap.size, 0, none⟩ (.int .i64 (o.getD cue0).id)).setCell ⟨w.heap.size, 1, none⟩ (.int .i64 (o.getD cue0).fr)).setCell ⟨w.heap.size, 2, none⟩ (.int .i64 (o.getD cue0).to)).setCell ⟨w.heap.size, 3, none⟩ (.int .i64 (o.getD cue0).pr)).setCell ⟨w.heap.size, 4, none⟩ (.string (o.getD cue0).tx)).drew w.heap.size 24 (o.getD cue0).cells ∧ Below w.heap.size w (((((wr.setCell ⟨w.heap.size, 0, none⟩ (.int .i64 (o.getD cue0).id)).setCell ⟨w.heap.size, 1, none⟩ (.int .i64 (o.getD cue0).fr)).setCell ⟨w.heap.size, 2, none⟩ (.int .i64 (o.getD cue0).to)).setCell ⟨w.heap.size, 3, none⟩ (.int .i64 (o.getD cue0).pr)).setCell ⟨w.heap.size, 4, none⟩ (.string (o.getD cue0).tx)).drew) := by
        refine ⟨?_, ?_⟩
        · have := ((((HA.out.res.set 0 (.int .i64 (o.getD cue0).id)).set 1 (.int .i64 (o.getD cue0).fr)).set 2 (.int .i64 (o.getD cue0).to)).set 3 (.int .i64 (o.getD cue0).pr)).set 4 (.string (o.getD cue0).tx)
          exact this.drew
        · exact (((((HA.out.bel.setCell (by simp) _).setCell (by simp) _).setCell (by simp) _).setCell (by simp) _).setCell (by simp) _).drew
      have HFD : Hid ((activeL l f).isSome = o.isSome) := by show _ = _; rw [HOL.out]
      generalize o.isSome = fd at f0 HFD
      go_wp2_with fail
      go_region
      generalize (((((wr.setCell ⟨w.heap.size, 0, none⟩ (.int .i64 (o.getD cue0).id)).setCell ⟨w.heap.size, 1, none⟩ (.int .i64 (o.getD cue0).fr)).setCell ⟨w.heap.size, 2, none⟩ (.int .i64 (o.getD cue0).to)).setCell ⟨w.heap.size, 3, none⟩ (.int .i64 (o.getD cue0).pr)).setCell ⟨w.heap.size, 4, none⟩ (.string (o.getD cue0).tx)).drew = X at HX ⊢
      clear b0 b1 b2 b3 b4 r0 r1 r2 r3 r4 z0 z1 z2 z3 z4 f0
      obtain ⟨hx1, hx2⟩ := HX.out
      obtain ⟨x0, x1, x2, x3, x4⟩ := cue_cells hx1
      clear HX hx1
      go_wp2_with fail
      refine bodyPost_ret (v := .tuple #[.agg #[.int .i64 (o.getD cue0).id, .int .i64 (o.getD cue0).fr, .int .i64 (o.getD cue0).to, .int .i64 (o.getD cue0).pr, .string (o.getD cue0).tx], .bool fd]) (by simp [results, Try.results15, go_sem, x0, x1, x2, x3, x4]) rfl ⟨?_, hx2⟩
      rw [HFD.out, HOL.out]
    · have hk' : (k : Int) < l.length := by omega
      have hk2 : k < l.length := by omega
      obtain ⟨g, off, rfl, c0, c1, c2, c3, c4⟩ := (HR.out.kept HA.out.bel).at k hk2
      have HN := Lib.hid (active_take l f k hk2)
      obtain ⟨x, hx⟩ : ∃ x, l[k] = x := ⟨_, rfl⟩
      rw [HO.out] at HN
      rw [hx] at c0 c1 c2 c3 c4 HN
      clear hx hkl
      have HAX := Lib.hid (HA.out.below ((Below.refl _ wr).alloc (Nat.le_refl _) (.cells #[.int .i64 x.id, .int .i64 x.fr, .int .i64 x.to, .int .i64 x.pr, .string x.tx] 24)))
      have HBX : Hid (Blk (wr.alloc (.cells #[.int .i64 x.id, .int .i64 x.fr, .int .i64 x.to, .int .i64 x.pr, .string x.tx] 24)) wr.heap.size 24 x.cells) := Blk.new wr 24 x.cells
      by_cases hin : x.fr ≤ f ∧ f < x.to
      · obtain ⟨hi1, hi2⟩ := hin
        go_wp2_with fail
        refine (pref_any x o _ _ _ HAX.out.found HAX.out.best).mono ?_
        have hstep : activeL (l.take (k + 1)) f = if prefB x o = true then some x else o := by
          rw [HN.out]
          unfold astep
          rw [if_pos ⟨hi1, hi2⟩]
          cases o with
          | none => rfl
          | some b =>
            show (if aheadB x b = true then some x else some b) = _
            rfl
        have HST := Lib.hid hstep
        clear hstep
        cases hp : prefB x o
        · rw [hp] at HST
          rintro e w2 ⟨rfl, hb2⟩
          have HA2 := Lib.hid (HAX.out.below hb2)
          have HST2 : Hid (activeL (l.take (k + 1)) f = o) := by
            have := HST.out
            rwa [if_neg (by decide)] at this
          clear hp hb2 HST HAX HBX HN
          go_wp2_with fail
          go_roundw
          case rel => exact ⟨k + 1, _, by omega, by go_num, HST2, HA2⟩
          case measure => simp [intOf]; omega
        · rw [hp] at HST
          rintro e w2 ⟨rfl, hb2⟩
          have HA2 := Lib.hid (HAX.out.below hb2)
          obtain ⟨x0, x1, x2, x3, x4⟩ := cue_cells (HBX.out.kept (hb2.block _ HBX.out.lt))
          obtain ⟨b0, b1, b2, b3, b4⟩ := cue_cells HA2.out.best
          obtain ⟨z0, z1, z2, z3, z4⟩ := cue_free HA2.out.best
          have f0 := HA2.out.found.cell 0
          have g0 := HA2.out.found.frozen 0
          simp only [List.getElem?_cons_zero] at f0
          have HA3 := Lib.hid (HA2.out.set x)
          have HST2 : Hid (activeL (l.take (k + 1)) f = some x) := by
            have := HST.out
            rwa [if_pos rfl] at this
          clear hp hb2 HST HAX HBX HN HA2
          go_wp2_with fail
          go_roundw
          case rel => exact ⟨k + 1, _, by omega, by go_num, HST2, HA3⟩
          case measure => simp [intOf]; omega
      · have HST2 : Hid (activeL (l.take (k + 1)) f = o) := by
          have := HN.out
          unfold astep at this
          rwa [if_neg hin] at this
        clear HN
        by_cases hi1 : x.fr ≤ f
        · have hi2 : ¬ f < x.to := fun h => hin ⟨hi1, h⟩
          clear hin
          go_wp2_with fail
          go_roundw
          case rel => exact ⟨k + 1, _, by omega, by go_num, HST2, HAX⟩
          case measure => simp [intOf]; omega
        · clear hin
          go_wp2_with fail
          go_roundw
          case rel => exact ⟨k + 1, _, by omega, by go_num, HST2, HAX⟩
          case measure => simp [intOf]; omega
theorem drewN_below {B : Nat} {a w : World} (h : Below B a w) (n : Nat) : Below B a (w.drewN n) := h.trans ⟨rfl, rfl, rfl, Nat.le_refl _, fun _ _ => rfl⟩
theorem cue_ne {x y : Cue} (h : x ≠ y) : x.id ≠ y.id ∨ (x.id = y.id ∧ x.fr ≠ y.fr) ∨ (x.id = y.id ∧ x.fr = y.fr ∧ x.to ≠ y.to) ∨ (x.id = y.id ∧ x.fr = y.fr ∧ x.to = y.to ∧ x.pr ≠ y.pr) ∨ (x.id = y.id ∧ x.fr = y.fr ∧ x.to = y.to ∧ x.pr = y.pr ∧ x.tx ≠ y.tx) := by
  by_cases h1 : x.id = y.id
  · by_cases h2 : x.fr = y.fr
    · by_cases h3 : x.to = y.to
      · by_cases h4 : x.pr = y.pr
        · exact .inr (.inr (.inr (.inr ⟨h1, h2, h3, h4, fun h5 => h (Cue.ext' h1 h2 h3 h4 h5)⟩)))
        · exact .inr (.inr (.inr (.inl ⟨h1, h2, h3, h4⟩)))
      · exact .inr (.inr (.inl ⟨h1, h2, h3⟩))
    · exact .inr (.inl ⟨h1, h2⟩)
  · exact .inl h1
theorem tolist_ne {a b : ByteArray} (h : a ≠ b) : ¬ a.toList = b.toList := fun e => h (by
  rw [ByteArray.toList_eq, ByteArray.toList_eq] at e
  exact ByteArray.ext (Array.ext' e))
set_option maxHeartbeats 2000000 in
set_option maxRecDepth 100000 in
theorem same_any (w : World) (oa ob : Option Addr) (ca cb : Nat) (a b : List Cue) (ha : a.length ≤ 1000) (hb : b.length ≤ 1000) (hra : RdC w oa a) (hrb : RdC w ob b) :
    Calls Try.prog 21 #[.slice oa a.length ca, .slice ob b.length cb] w fun e w' => e = .returned (.bool (decide (a = b))) ∧ Below w.heap.size w w' := by
  have HA := Lib.hid hra
  have HB := Lib.hid hrb
  clear hra hrb
  by_cases hl : a.length = b.length
  · have hl' : ((a.length : Int) != b.length) = false := by rw [hl]; simp
    have HL := Lib.hid hl
    clear hl
    go_enter Try.func21, Try.ntmps21
    go_wp2_with fail
    clear hl'
    go_loopw [13] (fun i wr => ∃ k : Nat, k ≤ a.length ∧ i = .int .i64 k ∧ Hid (a.take k = b.take k) ∧ Hid (Below w.heap.size w wr)) (fun i _ => a.length - (intOf i).toNat)
    case atStart => exact ⟨0, Nat.zero_le _, rfl, by show _ = _; simp, Below.refl _ _⟩
    case round =>
      obtain ⟨k, hk, rfl, HT, HW⟩ := hrel
      by_cases hkl : k = a.length
      · have HE : Hid (a = b) := by
          have := HT.out
          rw [hkl, List.take_length, HL.out, List.take_length] at this
          exact this
        have hk' : ¬ (k : Int) < a.length := by omega
        clear hkl
        go_wp2_with fail
        go_ret
        exact ⟨by rw [decide_eq_true HE.out]; rfl, HW.out⟩
      · have hk' : (k : Int) < a.length := by omega
        have hk2 : k < a.length := by omega
        have hk3 : k < b.length := by have := HL.out; omega
        have hk4 : (k : Int) < b.length := by omega
        obtain ⟨g, off, rfl, c0, c1, c2, c3, c4⟩ := (HA.out.kept HW.out).at k hk2
        obtain ⟨g', off', rfl, d0, d1, d2, d3, d4⟩ := (HB.out.kept HW.out).at k hk3
        have HTA : Hid (a.take (k + 1) = a.take k ++ [a[k]]) := List.take_succ_eq_append_getElem hk2
        have HTB : Hid (b.take (k + 1) = b.take k ++ [b[k]]) := List.take_succ_eq_append_getElem hk3
        have HGA : Hid (a[k]? = some a[k]) := List.getElem?_eq_getElem hk2
        have HGB : Hid (b[k]? = some b[k]) := List.getElem?_eq_getElem hk3
        obtain ⟨x, hx⟩ : ∃ x, a[k] = x := ⟨_, rfl⟩
        obtain ⟨y, hy⟩ : ∃ y, b[k] = y := ⟨_, rfl⟩
        rw [hx] at c0 c1 c2 c3 c4 HTA HGA
        rw [hy] at d0 d1 d2 d3 d4 HTB HGB
        clear hx hy hkl
        by_cases hxy : x = y
        · subst hxy
          have HT2 : Hid (a.take (k + 1) = b.take (k + 1)) := by show _ = _; rw [HTA.out, HTB.out, HT.out]
          go_wp2_with fail
          go_quiet (fail)
          have HW2 := Lib.hid (drewN_below HW.out nq)
          go_wp2_with fail
          go_roundw
          case rel => exact ⟨k + 1, by omega, by go_num, HT2, HW2⟩
          case measure => simp [intOf]; omega
        · have HNE : Hid (decide (a = b) = false) := by
            show _ = _
            rw [decide_eq_false_iff_not]
            intro e
            have h1 := HGA.out
            rw [e, HGB.out] at h1
            simp at h1
            exact hxy h1.symm
          rcases cue_ne hxy with e1 | ⟨e1, e2⟩ | ⟨e1, e2, e3⟩ | ⟨e1, e2, e3, e4⟩ | ⟨e1, e2, e3, e4, e5'⟩
          all_goals
            try have e5 := tolist_ne e5'
            try clear e5'
            clear hxy HTA HTB HGA HGB
            go_wp2_with fail
            go_quiet (fail)
            have HW2 := Lib.hid (drewN_below HW.out nq)
            go_wp2_with fail
            go_ret
            exact ⟨by rw [HNE.out]; rfl, HW2.out⟩
  · have hl' : ((a.length : Int) != b.length) = true := by
      rw [bne_iff_ne]
      omega
    have HN : Hid (decide (a = b) = false) := by
      show _ = _
      rw [decide_eq_false_iff_not]
      intro e
      exact hl (by rw [e])
    clear hl
    go_enter Try.func21, Try.ntmps21
    go_wp2_with fail
    go_ret
    exact ⟨by rw [HN.out]; rfl, Below.refl _ _⟩
end Go.Proofs.Ytjmfhdnckgelaaa
