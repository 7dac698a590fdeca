/-
  The walk of asrun.decode.
-/
import Derived.WalkKit
import Derived.LoopTactic
import Derived.WalkSpells
import Derived.WalkLawsBesides
import Derived.RegionTactic
import Derived.BigRegion
import Derived.Deep.QuietTactic
import Derived.Deep.RegionHeld3
import Derived.BigQuiet
import Derived.IntWalk
import Derived.Outline
import Derived.Lib.Hide
import Derived.Test.YtfpcdlpfmlaakaaGreatDoorAsA
import Derived.Test.YtfpcdlpfmlaakaaGreatDoorWaA
set_option linter.unusedVariables false
set_option linter.unusedSimpArgs false
namespace Go.Proofs.YtfpcdlpfmlaakaaGreatDoor
open Go.RowKit Onair
/-- The world of a goal under a name, known by what it holds. -/
theorem gen_world {P : World → Prop} {W : World} (Q : World → Prop) (hq : Q W) (h : ∀ W9, Q W9 → P W9) : P W := h W hq
theorem blk6 {W : World} {g : Nat} {t : TypeId} (h : Blk W g t [.int .i64 0, .int .i64 0, .int .i64 0, .int .i64 0, .int .i64 0, .int .i64 0]) (x0 x1 x2 x3 x4 x5 : Value) :
    Blk ((((((W.setCell ⟨g, 0, none⟩ x0).setCell ⟨g, 1, none⟩ x1).setCell ⟨g, 2, none⟩ x2).setCell ⟨g, 3, none⟩ x3).setCell ⟨g, 4, none⟩ x4).setCell ⟨g, 5, none⟩ x5) g t [x0, x1, x2, x3, x4, x5] :=
  (((((h.set 0 x0).set 1 x1).set 2 x2).set 3 x3).set 4 x4).set 5 x5
theorem below6 {B : Nat} {w W : World} {g : Nat} (h : Below B w W) (hg : B ≤ g) (x0 x1 x2 x3 x4 x5 : Value) :
    Below B w ((((((W.setCell ⟨g, 0, none⟩ x0).setCell ⟨g, 1, none⟩ x1).setCell ⟨g, 2, none⟩ x2).setCell ⟨g, 3, none⟩ x3).setCell ⟨g, 4, none⟩ x4).setCell ⟨g, 5, none⟩ x5) :=
  (((((h.setCell (p := ⟨g, 0, none⟩) hg _).setCell (p := ⟨g, 1, none⟩) hg _).setCell (p := ⟨g, 2, none⟩) hg _).setCell (p := ⟨g, 3, none⟩) hg _).setCell (p := ⟨g, 4, none⟩) hg _).setCell (p := ⟨g, 5, none⟩) hg _
theorem drew_up {B : Nat} {w W : World} (h : Below B w W) : Below B w W.drew := h.drew
theorem alloc_up {B : Nat} {w W : World} (h : Below B w W) (hb : B ≤ W.heap.size) (o : Obj) : Below B w (W.alloc o) := h.alloc hb o
def decV (l : List Int) (n : Nat) : List Value := (l ++ List.replicate n 0).map fun x => Value.int .i64 x
theorem decV_set (l : List Int) (n : Nat) (v : Int) : (decV l (n + 1)).set l.length (.int .i64 v) = decV (l ++ [v]) n := by
  unfold decV
  rw [List.replicate_succ, List.map_append, List.map_append, List.map_cons, List.set_append_right _ _ (by simp)]
  simp
def zero6 : List Value := [.int .i64 0, .int .i64 0, .int .i64 0, .int .i64 0, .int .i64 0, .int .i64 0]
/-- The head of a round of decode. -/
structure DcI (w : World) (B : Nat) (s : List UInt8) (k : Nat) (l : List Int) (a : Int) (W : World) : Prop where
  dec : decS s k = some (l, a)
  res : Blk W B 62 zero6
  arr : Blk W (B + 1) 135 (decV l (6 - k))
  bel : Below B w W
theorem DcI.next {w : World} {B : Nat} {s : List UInt8} {k : Nat} {l : List Int} {a : Int} {W : World} (h : DcI w B s k l a W) (hk : k < 6) (he : (intR s a).2.2 = 0) (n x : Int) (hn : (intR s a).1 = n) (hx : (intR s a).2.1 = x) :
    DcI w B s (k + 1) (l ++ [n]) x (W.setCell ⟨B + 1, k, none⟩ (.int .i64 n)) := by
  have hl := (decS_some s k l a h.dec).1
  refine ⟨?_, h.res.other _ (by show B + 1 ≠ B; omega) _, ?_, h.bel.setCell (p := ⟨B + 1, k, none⟩) (by show B ≤ B + 1; omega) _⟩
  · unfold decS
    rw [h.dec]
    dsimp only
    rw [if_pos he, hn, hx]
  · have := h.arr.set k (.int .i64 n)
    obtain ⟨m, hm⟩ : ∃ m, 6 - k = m + 1 := ⟨5 - k, by omega⟩
    rw [hm, ← hl, decV_set] at this
    rw [show 6 - (k + 1) = m by omega, ← hl]
    exact this
theorem DcI.err {w : World} {B : Nat} {s : List UInt8} {k : Nat} {l : List Int} {a : Int} {W : World} (h : DcI w B s k l a W) (hk : k < 6) (he : (intR s a).2.2 ≠ 0) : decP s = none := by
  have : decS s 6 = none := decS_none s (k + 1) 6 (by unfold decS; rw [h.dec]; dsimp only; rw [if_neg he]) (by omega)
  unfold decP
  rw [this]
def DecP (s : ByteArray) (w : World) (e : Ending) (w' : World) : Prop := ∃ r : Rec, e = .returned (.tuple #[.agg (recA r), .bool (decP s.data.toList).isSome]) ∧ (∀ r', decP s.data.toList = some r' → r = r') ∧ RecI r ∧ Below w.heap.size w w'
theorem rec0_I : RecI ⟨0, 0, 0, 0, 0, 0⟩ := by constructor <;> decide
set_option maxHeartbeats 2000000 in
set_option maxRecDepth 100000 in
theorem decode_any (s : ByteArray) (w : World) (hs : s.size ≤ maxLen) :
    Calls Tryz.prog 119 #[.string s] w (DecP s w) := by
  obtain ⟨B, hB⟩ : ∃ B, w.heap.size = B := ⟨_, rfl⟩
  have hD0 : DcI w B s.data.toList 0 [] 0 ((w.alloc (.cells #[.int .i64 0, .int .i64 0, .int .i64 0, .int .i64 0, .int .i64 0, .int .i64 0] 62)).alloc (.cells #[.int .i64 0, .int .i64 0, .int .i64 0, .int .i64 0, .int .i64 0, .int .i64 0] 135)) := by
    subst hB
    refine ⟨rfl, (Blk.new w 62 zero6).alloc _, ?_, ((Below.refl _ w).alloc (Nat.le_refl _) _).alloc (by simp) _⟩
    have := Blk.new (w.alloc (.cells #[.int .i64 0, .int .i64 0, .int .i64 0, .int .i64 0, .int .i64 0, .int .i64 0] 62)) 135 zero6
    rw [World.size_alloc] at this
    exact this
  have HD0 := Lib.hid hD0
  have HBB := Lib.hid hB
  have HF : Hid (∀ (e : Ending) (w' : World) (r : Rec), e = .returned (.tuple #[.agg (recA r), .bool (decP s.data.toList).isSome]) → (∀ r', decP s.data.toList = some r' → r = r') → RecI r → Below B w w' → DecP s w e w') := fun e w' r h1 h2 h3 h4 => ⟨r, h1, h2, h3, by rw [HBB.out]; exact h4⟩
  have hs9 := hs
  unfold maxLen at hs9
  clear hD0 hB
  go_enter Tryz.func119, Tryz.ntmps119
  go_upto_region 4 with (fail)
  rw [HBB.out]
  generalize (w.alloc (.cells #[.int .i64 0, .int .i64 0, .int .i64 0, .int .i64 0, .int .i64 0, .int .i64 0] 62)).alloc (.cells #[.int .i64 0, .int .i64 0, .int .i64 0, .int .i64 0, .int .i64 0, .int .i64 0] 135) = w3 at HD0 ⊢
  go_loopw [5, 11] (fun x y wr => ∃ (k : Nat) (l : List Int) (a : Int), k ≤ 6 ∧ y = .int .i64 k ∧ x = .int .i64 a ∧ Hid (DcI w B s.data.toList k l a wr)) (fun _ y _ => 6 - (intOf y).toNat)
  case atStart => exact ⟨0, [], 0, Nat.zero_le _, rfl, rfl, HD0⟩
  case round =>
    clear HD0
    obtain ⟨k, l, a, hk, rfl, rfl, HD⟩ := hrel
    have hwB : B + 1 < wr.heap.size := HD.out.arr.lt
    by_cases hk6 : k = 6
    · have q1 : ¬ (k : Int) < 6 := by omega
      obtain rfl := hk6
      obtain ⟨dl, dx, da, dt, dz⟩ := decS_some _ _ _ _ HD.out.dec
      obtain ⟨x0, x1, x2, x3, x4, x5, rfl⟩ : ∃ x0 x1 x2 x3 x4 x5, l = [x0, x1, x2, x3, x4, x5] := by
        match l, dl with
        | [x0, x1, x2, x3, x4, x5], _ => exact ⟨x0, x1, x2, x3, x4, x5, rfl⟩
      have c0 := HD.out.arr.cell 0
      have c1 := HD.out.arr.cell 1
      have c2 := HD.out.arr.cell 2
      have c3 := HD.out.arr.cell 3
      have c4 := HD.out.arr.cell 4
      have c5 := HD.out.arr.cell 5
      simp only [decV, Nat.sub_self, List.replicate_zero, List.append_nil, List.map_cons, List.map_nil, List.getElem?_cons_zero, List.getElem?_cons_succ] at c0 c1 c2 c3 c4 c5
      have b4 : Blk (wr.alloc (.cells #[.int .i64 x0, .int .i64 x1, .int .i64 x2, .int .i64 x3, .int .i64 x4, .int .i64 x5] 62)) wr.heap.size 62 [.int .i64 x0, .int .i64 x1, .int .i64 x2, .int .i64 x3, .int .i64 x4, .int .i64 x5] := Blk.new wr _ _
      have r4 := HD.out.res.alloc (.cells #[.int .i64 x0, .int .i64 x1, .int .i64 x2, .int .i64 x3, .int .i64 x4, .int .i64 x5] 62)
      have e4 := HD.out.bel.alloc (show B ≤ wr.heap.size by omega) (.cells #[.int .i64 x0, .int .i64 x1, .int .i64 x2, .int .i64 x3, .int .i64 x4, .int .i64 x5] 62)
      have B4 := Lib.hid b4
      have R4 := Lib.hid r4
      have E4 := Lib.hid e4
      have HDL := Lib.hid HD.out.dec
      have HRI : Hid (RecI ⟨x0, x1, x2, x3, x4, x5⟩) := by
        have : ∀ x ∈ [x0, x1, x2, x3, x4, x5], -4611686018427387903 ≤ x ∧ x ≤ 4611686018427387903 := fun x hx => (okInt_iff x).1 (dx x hx)
        simp only [List.mem_cons, List.not_mem_nil, or_false, forall_eq_or_imp, forall_eq] at this
        show RecI _
        constructor <;> (dsimp only; omega)
      clear dl dx da dt dz b4 r4 e4 HD
      go_upto_region 12 with (fail)
      obtain ⟨R, hR⟩ : ∃ R, wr.heap.size = R := ⟨_, rfl⟩
      rw [hR] at B4 ⊢
      have hRB : B < R := by omega
      clear hR
      generalize wr.alloc (.cells #[.int .i64 x0, .int .i64 x1, .int .i64 x2, .int .i64 x3, .int .i64 x4, .int .i64 x5] 62) = w4 at B4 R4 E4 ⊢
      clear c0 c1 c2 c3 c4 c5
      have c0 := B4.out.cell 0
      have c1 := B4.out.cell 1
      have c2 := B4.out.cell 2
      have c3 := B4.out.cell 3
      have c4 := B4.out.cell 4
      have c5 := B4.out.cell 5
      have f0 := R4.out.frozen 0
      have f1 := R4.out.frozen 1
      have f2 := R4.out.frozen 2
      have f3 := R4.out.frozen 3
      have f4 := R4.out.frozen 4
      have f5 := R4.out.frozen 5
      have d0 := R4.out.cell 0
      have d1 := R4.out.cell 1
      have d2 := R4.out.cell 2
      have d3 := R4.out.cell 3
      have d4 := R4.out.cell 4
      have d5 := R4.out.cell 5
      simp only [zero6, List.getElem?_cons_zero, List.getElem?_cons_succ] at c0 c1 c2 c3 c4 c5 d0 d1 d2 d3 d4 d5
      have R4Z : Hid (Blk w4 B 62 [.int .i64 0, .int .i64 0, .int .i64 0, .int .i64 0, .int .i64 0, .int .i64 0]) := R4.out
      have hRz := B4.out.lt
      have hBz := R4.out.lt
      by_cases hal : a = (s.size : Int)
      · have qa : (a == (s.size : Int)) = true := by rw [beq_iff_eq]; exact hal
        obtain ⟨vb, hvb⟩ : ∃ vb, validR ⟨x0, x1, x2, x3, x4, x5⟩ = vb := ⟨_, rfl⟩
        have hv : ∀ W : World, Calls Tryz.prog 39 #[.agg #[.int .i64 x0, .int .i64 x1, .int .i64 x2, .int .i64 x3, .int .i64 x4, .int .i64 x5]] W fun e w' => e = .returned (.bool vb) ∧ w' = W.alloc (.cells #[.int .i64 x0, .int .i64 x1, .int .i64 x2, .int .i64 x3, .int .i64 x4, .int .i64 x5] 62) := fun W => by
          rw [← hvb]
          exact valid_any ⟨x0, x1, x2, x3, x4, x5⟩ W HRI.out
        have HV := Lib.hid hv
        have HVB := Lib.hid hvb
        have HAL := Lib.hid hal
        clear hv hvb hal
        have HX : Hid (decP s.data.toList = if vb = true then some ⟨x0, x1, x2, x3, x4, x5⟩ else none) := by
          show _ = _
          unfold decP
          rw [HDL.out]
          dsimp only
          rw [show recOf [x0, x1, x2, x3, x4, x5] = ⟨x0, x1, x2, x3, x4, x5⟩ from rfl, HVB.out]
          by_cases hb : vb = true
          · rw [if_pos ⟨by rw [blen]; exact HAL.out, hb⟩, if_pos hb]
          · rw [if_neg (fun h => hb h.2), if_neg hb]
        have HY : Hid (∀ r', decP s.data.toList = some r' → (⟨x0, x1, x2, x3, x4, x5⟩ : Rec) = r') := fun r' h => by
          rw [HX.out] at h
          cases vb <;> simp at h
          exact h
        have HZ : Hid ((decP s.data.toList).isSome = vb) := by
          show _ = _
          rw [HX.out]
          cases vb <;> rfl
        go_region_with (((with_reducible refine (HV.out _).mono ?_); rintro e w' ⟨rfl, rfl⟩))
        all_goals
          go_wp2_with fail
          refine gen_world (fun W9 => Blk W9 B 62 [.int .i64 x0, .int .i64 x1, .int .i64 x2, .int .i64 x3, .int .i64 x4, .int .i64 x5] ∧ Below B w W9) ⟨?_, ?_⟩ ?_
          · repeat (first | (with_reducible exact R4Z.out) | (with_reducible refine Blk.drew ?_) | (with_reducible refine blk6 ?_ _ _ _ _ _ _) | (with_reducible refine Blk.alloc ?_ _))
          · repeat (first | (with_reducible exact E4.out) | (with_reducible refine drew_up ?_) | (with_reducible refine below6 ?_ (Nat.le_refl _) _ _ _ _ _ _) | (with_reducible refine alloc_up ?_ (by simp; omega) _))
          · rintro W9 ⟨hb9, he9⟩
            have g0 := hb9.cell 0
            have g1 := hb9.cell 1
            have g2 := hb9.cell 2
            have g3 := hb9.cell 3
            have g4 := hb9.cell 4
            have g5 := hb9.cell 5
            simp only [List.getElem?_cons_zero, List.getElem?_cons_succ] at g0 g1 g2 g3 g4 g5
            refine bodyPost_ret (v := .tuple #[.agg #[.int .i64 x0, .int .i64 x1, .int .i64 x2, .int .i64 x3, .int .i64 x4, .int .i64 x5], .bool vb]) (by simp [results, Tryz.results119, go_sem, g0, g1, g2, g3, g4, g5]) rfl (HF.out _ _ ⟨x0, x1, x2, x3, x4, x5⟩ (by rw [HZ.out]; rfl) HY.out HRI.out he9)
      · have qa : (a == (s.size : Int)) = false := by rw [beq_eq_false_iff_ne]; exact hal
        have HX : Hid (decP s.data.toList = none) := by
          show _ = _
          unfold decP
          rw [HDL.out]
          dsimp only
          rw [if_neg (fun h => hal (by have := h.1; rw [blen] at this; exact this))]
        have HY : Hid (∀ r', decP s.data.toList = some r' → (⟨x0, x1, x2, x3, x4, x5⟩ : Rec) = r') := fun r' h => by
          rw [HX.out] at h
          cases h
        clear hal
        go_region
        all_goals
          go_wp2_with fail
          refine gen_world (fun W9 => Blk W9 B 62 [.int .i64 x0, .int .i64 x1, .int .i64 x2, .int .i64 x3, .int .i64 x4, .int .i64 x5] ∧ Below B w W9) ⟨?_, ?_⟩ ?_
          · repeat (first | (with_reducible exact R4Z.out) | (with_reducible refine Blk.drew ?_) | (with_reducible refine blk6 ?_ _ _ _ _ _ _) | (with_reducible refine Blk.alloc ?_ _))
          · repeat (first | (with_reducible exact E4.out) | (with_reducible refine drew_up ?_) | (with_reducible refine below6 ?_ (Nat.le_refl _) _ _ _ _ _ _) | (with_reducible refine alloc_up ?_ (by simp; omega) _))
          · rintro W9 ⟨hb9, he9⟩
            have g0 := hb9.cell 0
            have g1 := hb9.cell 1
            have g2 := hb9.cell 2
            have g3 := hb9.cell 3
            have g4 := hb9.cell 4
            have g5 := hb9.cell 5
            simp only [List.getElem?_cons_zero, List.getElem?_cons_succ] at g0 g1 g2 g3 g4 g5
            refine bodyPost_ret (v := .tuple #[.agg #[.int .i64 x0, .int .i64 x1, .int .i64 x2, .int .i64 x3, .int .i64 x4, .int .i64 x5], .bool false]) (by simp [results, Tryz.results119, go_sem, g0, g1, g2, g3, g4, g5]) rfl (HF.out _ _ ⟨x0, x1, x2, x3, x4, x5⟩ (by rw [HX.out]; rfl) HY.out HRI.out he9)
    · have q1 : (k : Int) < 6 := by omega
      have hk7 : k < 6 := by omega
      obtain ⟨n, x, er, hr⟩ : ∃ n x er, intR s.data.toList a = (n, x, er) := ⟨_, _, _, rfl⟩
      have HI := Lib.hid (int_any s a wr hs)
      rw [hr] at HI
      dsimp only at HI
      obtain ⟨u, cm⟩ : ∃ u, wr.cell? ⟨B + 1, k, none⟩ = some u := ⟨_, by rw [HD.out.arr.cell]; exact List.getElem?_eq_getElem (by
        have := (decS_some _ _ _ _ HD.out.dec).1
        unfold decV
        simp
        omega)⟩
      have fm := HD.out.arr.frozen k
      by_cases he : er = 0
      · subst he
        have HN : Hid (DcI w B s.data.toList (k + 1) (l ++ [n]) x (wr.setCell ⟨B + 1, k, none⟩ (.int .i64 n))) := HD.out.next hk7 (by rw [hr]) n x (by rw [hr]) (by rw [hr])
        clear hk6 hr
        go_wp2_with fail
        refine HI.out.mono ?_
        rintro e w4 ⟨rfl, rfl⟩
        go_wp2_with fail
        go_roundw
        case rel => exact ⟨k + 1, l ++ [n], x, by omega, by go_num, rfl, HN⟩
        case measure => simp [intOf]; omega
      · have HE : Hid (decP s.data.toList = none) := HD.out.err hk7 (by rw [hr]; exact he)
        have ene : (er != 0) = true := by rw [bne_iff_ne]; exact he
        have c0 := HD.out.res.cell 0
        have c1 := HD.out.res.cell 1
        have c2 := HD.out.res.cell 2
        have c3 := HD.out.res.cell 3
        have c4 := HD.out.res.cell 4
        have c5 := HD.out.res.cell 5
        have f0 := HD.out.res.frozen 0
        have f1 := HD.out.res.frozen 1
        have f2 := HD.out.res.frozen 2
        have f3 := HD.out.res.frozen 3
        have f4 := HD.out.res.frozen 4
        have f5 := HD.out.res.frozen 5
        have hBE : Below B w ((((((wr.setCell ⟨B, 0, none⟩ (.int .i64 0)).setCell ⟨B, 1, none⟩ (.int .i64 0)).setCell ⟨B, 2, none⟩ (.int .i64 0)).setCell ⟨B, 3, none⟩ (.int .i64 0)).setCell ⟨B, 4, none⟩ (.int .i64 0)).setCell ⟨B, 5, none⟩ (.int .i64 0)) :=
          (((((HD.out.bel.setCell (p := ⟨B, 0, none⟩) (Nat.le_refl _) _).setCell (p := ⟨B, 1, none⟩) (Nat.le_refl _) _).setCell (p := ⟨B, 2, none⟩) (Nat.le_refl _) _).setCell (p := ⟨B, 3, none⟩) (Nat.le_refl _) _).setCell (p := ⟨B, 4, none⟩) (Nat.le_refl _) _).setCell (p := ⟨B, 5, none⟩) (Nat.le_refl _) _
        have HBE := Lib.hid hBE
        have HBK : Hid (Blk ((((((wr.setCell ⟨B, 0, none⟩ (.int .i64 0)).setCell ⟨B, 1, none⟩ (.int .i64 0)).setCell ⟨B, 2, none⟩ (.int .i64 0)).setCell ⟨B, 3, none⟩ (.int .i64 0)).setCell ⟨B, 4, none⟩ (.int .i64 0)).setCell ⟨B, 5, none⟩ (.int .i64 0)) B 62 zero6) :=
          (((((HD.out.res.set 0 (.int .i64 0)).set 1 (.int .i64 0)).set 2 (.int .i64 0)).set 3 (.int .i64 0)).set 4 (.int .i64 0)).set 5 (.int .i64 0)
        clear hBE
        simp only [zero6, List.getElem?_cons_zero, List.getElem?_cons_succ] at c0 c1 c2 c3 c4 c5
        clear hk6 hr he
        go_wp2_with fail
        refine HI.out.mono ?_
        rintro e w4 ⟨rfl, rfl⟩
        go_wp2_with fail
        generalize ((((((wr.setCell ⟨B, 0, none⟩ (.int .i64 0)).setCell ⟨B, 1, none⟩ (.int .i64 0)).setCell ⟨B, 2, none⟩ (.int .i64 0)).setCell ⟨B, 3, none⟩ (.int .i64 0)).setCell ⟨B, 4, none⟩ (.int .i64 0)).setCell ⟨B, 5, none⟩ (.int .i64 0)) = W5 at HBE HBK ⊢
        have d0 := HBK.out.cell 0
        have d1 := HBK.out.cell 1
        have d2 := HBK.out.cell 2
        have d3 := HBK.out.cell 3
        have d4 := HBK.out.cell 4
        have d5 := HBK.out.cell 5
        simp only [zero6, List.getElem?_cons_zero, List.getElem?_cons_succ] at d0 d1 d2 d3 d4 d5
        refine bodyPost_ret (v := .tuple #[.agg #[.int .i64 0, .int .i64 0, .int .i64 0, .int .i64 0, .int .i64 0, .int .i64 0], .bool false]) (by simp [results, Tryz.results119, go_sem, d0, d1, d2, d3, d4, d5]) rfl (HF.out _ _ ⟨0, 0, 0, 0, 0, 0⟩ (by rw [HE.out]; rfl) (fun r' h => by rw [HE.out] at h; cases h) rec0_I HBE.out)
end Go.Proofs.YtfpcdlpfmlaakaaGreatDoor
