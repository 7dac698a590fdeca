/-
  The walk of asrun.read.
-/
import Derived.WalkKit
import Derived.LoopTactic
import Derived.WalkSpells
import Derived.WalkLawsBesides
import Derived.RegionTactic
import Derived.BigRegion
import Derived.Deep.QuietTactic
import Derived.Deep.RegionHeld3
import Derived.BigQuiet
import Derived.IntWalk
import Derived.Outline
import Derived.Lib.Hide
import Derived.Test.YtfpcdlpfmlaakaaGreatDoorAsC
import Derived.Test.YtfpcdlpfmlaakaaGreatDoorAsB
set_option linter.unusedVariables false
set_option linter.unusedSimpArgs false
namespace Go.Proofs.YtfpcdlpfmlaakaaGreatDoor
open Go.RowKit Onair
theorem TabAt.mono' {w w' : World} {B : Nat} (h : TabAt w) (hb : Below B w w') (hB : w.heap.size = B) : TabAt w' := h.below (hB ▸ hb)
def stA (r : Rec) (enc head : ByteArray) (e : Int) : Array Value := #[.int .i64 r.ch, .int .i64 r.rg, .int .i64 r.fr, .int .i64 r.fs, .int .i64 r.it, .int .i64 r.ix, .string enc, .string head, .int .i64 e]
def ReadP (c : ByteArray) (a : Nat) (head : ByteArray) (w : World) (e : Ending) (w' : World) : Prop :=
  ∃ (r : Rec) (enc h : ByteArray) (n : Int), e = .returned (.tuple #[.agg (stA r enc h n), .bool (readP c.data.toList a head).isSome]) ∧ (∀ r' h' n', readP c.data.toList a head = some (r', h', n') → r = r' ∧ enc = encB r' ∧ h = h' ∧ n = ((n' : Nat) : Int)) ∧ Below w.heap.size w w'
def zero9 : List Value := [.int .i64 0, .int .i64 0, .int .i64 0, .int .i64 0, .int .i64 0, .int .i64 0, .string ⟨#[]⟩, .string ⟨#[]⟩, .int .i64 0]
theorem blk9 {W : World} {g : Nat} {t : TypeId} (h : Blk W g t [.int .i64 0, .int .i64 0, .int .i64 0, .int .i64 0, .int .i64 0, .int .i64 0, .string ⟨#[]⟩, .string ⟨#[]⟩, .int .i64 0]) (x0 x1 x2 x3 x4 x5 x6 x7 x8 : Value) :
    Blk (((((((((W.setCell ⟨g, 0, none⟩ x0).setCell ⟨g, 1, none⟩ x1).setCell ⟨g, 2, none⟩ x2).setCell ⟨g, 3, none⟩ x3).setCell ⟨g, 4, none⟩ x4).setCell ⟨g, 5, none⟩ x5).setCell ⟨g, 6, none⟩ x6).setCell ⟨g, 7, none⟩ x7).setCell ⟨g, 8, none⟩ x8) g t [x0, x1, x2, x3, x4, x5, x6, x7, x8] :=
  ((((((((h.set 0 x0).set 1 x1).set 2 x2).set 3 x3).set 4 x4).set 5 x5).set 6 x6).set 7 x7).set 8 x8
theorem below9 {B : Nat} {w W : World} {g : Nat} (h : Below B w W) (hg : B ≤ g) (x0 x1 x2 x3 x4 x5 x6 x7 x8 : Value) :
    Below B w (((((((((W.setCell ⟨g, 0, none⟩ x0).setCell ⟨g, 1, none⟩ x1).setCell ⟨g, 2, none⟩ x2).setCell ⟨g, 3, none⟩ x3).setCell ⟨g, 4, none⟩ x4).setCell ⟨g, 5, none⟩ x5).setCell ⟨g, 6, none⟩ x6).setCell ⟨g, 7, none⟩ x7).setCell ⟨g, 8, none⟩ x8) :=
  ((((((((h.setCell (p := ⟨g, 0, none⟩) hg _).setCell (p := ⟨g, 1, none⟩) hg _).setCell (p := ⟨g, 2, none⟩) hg _).setCell (p := ⟨g, 3, none⟩) hg _).setCell (p := ⟨g, 4, none⟩) hg _).setCell (p := ⟨g, 5, none⟩) hg _).setCell (p := ⟨g, 6, none⟩) hg _).setCell (p := ⟨g, 7, none⟩) hg _).setCell (p := ⟨g, 8, none⟩) hg _
theorem readP_none1 {c : List UInt8} {a : Nat} {head : ByteArray} (h : ¬ c[a]? = some 1) : readP c a head = none := by
  unfold readP
  rw [if_neg (fun e => h e.1)]
theorem readP_none2 {c : List UInt8} {a : Nat} {head : ByteArray} (h : ¬ (strR c ((a + 1 : Nat) : Int)).2.2 = 0) : readP c a head = none := by
  unfold readP
  rw [if_neg (fun e => h e.2.1)]
theorem readP_none3 {c : List UInt8} {a : Nat} {head : ByteArray} (h : ¬ (strR c ((a + 1 : Nat) : Int)).2.1 + 32 ≤ (c.length : Int)) : readP c a head = none := by
  unfold readP
  rw [if_neg (fun e => h e.2.2)]
theorem readP_full {c t : List UInt8} {a nx : Nat} {head : ByteArray} (h1 : c[a]? = some 1) (h2 : strR c ((a + 1 : Nat) : Int) = (t, (nx : Int), 0)) (h3 : nx + 32 ≤ c.length) :
    readP c a head = match decP t with
      | none => none
      | some r => if (c.drop nx).take 32 = (chainB head (encB r)).data.toList then some (r, chainB head (encB r), nx + 32) else none := by
  unfold readP
  rw [h2]
  dsimp only
  rw [if_pos ⟨h1, rfl, by omega⟩]
  rfl
theorem mark_eq (c : ByteArray) (a : Nat) (ha : a < c.size) : ((c.extract a (a + 1)).toList == [1]) = decide (c.data.toList[a]? = some 1) := by
  have e : c.extract a (a + 1) = ⟨((c.data.toList.drop a).take 1).toArray⟩ := extract_list c a 1
  have hl : a < c.data.toList.length := by rw [blen]; exact ha
  rw [e, ByteArray.toList_eq, List.toList_toArray, List.drop_eq_getElem_cons hl, List.take_succ_cons, List.take_zero, List.getElem?_eq_getElem hl, Bool.eq_iff_iff, beq_iff_eq, decide_eq_true_iff]
  simp
set_option maxHeartbeats 4000000 in
set_option maxRecDepth 100000 in
theorem read_any' (c : ByteArray) (a : Nat) (head : ByteArray) (w : World) (hc : c.size ≤ 4194304) (ha : a < c.size) (hh : head.size ≤ 32) (ht : TabAt w) :
    Calls Tryz.prog 102 #[.string c, .int .i64 (a : Int), .string head] w (ReadP c a head w) := by
  have q1 : (a : Int) + 1 ≤ c.size := by omega
  have q2 : (a : Int) ≤ (a : Int) + 1 := by omega
  obtain ⟨B, hB⟩ : ∃ B, w.heap.size = B := ⟨_, rfl⟩
  have RZ : Hid (Blk (w.alloc (.cells #[.int .i64 0, .int .i64 0, .int .i64 0, .int .i64 0, .int .i64 0, .int .i64 0, .string ⟨#[]⟩, .string ⟨#[]⟩, .int .i64 0] 103)) B 103 [.int .i64 0, .int .i64 0, .int .i64 0, .int .i64 0, .int .i64 0, .int .i64 0, .string ⟨#[]⟩, .string ⟨#[]⟩, .int .i64 0]) := by
    rw [← hB]
    exact Blk.new w 103 zero9
  have EZ : Hid (Below B w (w.alloc (.cells #[.int .i64 0, .int .i64 0, .int .i64 0, .int .i64 0, .int .i64 0, .int .i64 0, .string ⟨#[]⟩, .string ⟨#[]⟩, .int .i64 0] 103))) := by
    rw [← hB]
    exact (Below.refl _ w).alloc (Nat.le_refl _) _
  have HF : Hid (∀ (e : Ending) (w' : World) (r : Rec) (enc h : ByteArray) (n : Int) (b : Bool), (readP c.data.toList a head).isSome = b → e = .returned (.tuple #[.agg (stA r enc h n), .bool b]) → (∀ r' h' n', readP c.data.toList a head = some (r', h', n') → r = r' ∧ enc = encB r' ∧ h = h' ∧ n = ((n' : Nat) : Int)) → Below B w w' → ReadP c a head w e w') :=
    fun e w' r enc h n b hb h1 h2 h3 => ⟨r, enc, h, n, by rw [h1, hb], h2, by rw [hB]; exact h3⟩
  have HT := Lib.hid ht
  have HBB := Lib.hid hB
  have hm := mark_eq c a ha
  clear ht hB
  by_cases h1 : c.data.toList[a]? = some 1
  · rw [decide_eq_true h1] at hm
    have H1 := Lib.hid h1
    obtain ⟨t, x, er, hs⟩ : ∃ t x er, strR c.data.toList ((a + 1 : Nat) : Int) = (t, x, er) := ⟨_, _, _, rfl⟩
    have hst : ∀ W, Calls Tryz.prog 118 #[.string c, .int .i64 ((a : Int) + 1)] W fun e w' => e = .returned (.tuple #[.string ⟨t.toArray⟩, .int .i64 x, .int .i64 er]) ∧ W = w' := fun W => by
      have := string_any c ((a + 1 : Nat) : Int) W (by unfold maxLen; omega)
      rw [hs] at this
      exact this
    have HS := Lib.hid hst
    clear h1 hst
    by_cases he : er = 0
    · subst he
      obtain ⟨b1, b2, b3, b4⟩ := strR_back c.data.toList (a + 1) (by rw [hs])
      rw [hs] at b1 b2
      dsimp only at b1 b2
      obtain ⟨nx, rfl⟩ : ∃ nx : Nat, x = nx := ⟨x.toNat, by omega⟩
      clear b3
      by_cases h3 : nx + 32 ≤ c.size
      · have hl := blen c
        have hfull := readP_full (head := head) H1.out hs (by rw [blen]; exact h3)
        have HFU := Lib.hid hfull
        have q3 : (nx : Int) + 32 ≤ c.size := by omega
        have q4 : ¬ (c.size : Int) - (nx : Int) < 32 := by omega
        have q5 : (nx : Int) ≤ (nx : Int) + 32 := by omega
        have q6 : (0 : Int) ≤ (nx : Int) := by omega
        have hex : c.extract nx (nx + 32) = ⟨((c.data.toList.drop nx).take 32).toArray⟩ := extract_list c nx 32
        have HEX := Lib.hid hex
        obtain ⟨T, hT⟩ : ∃ T : ByteArray, (⟨t.toArray⟩ : ByteArray) = T := ⟨_, rfl⟩
        have hTs : T.size ≤ 65536 := by
          rw [← hT]
          show t.toArray.size ≤ 65536
          simpa using b1
        have hTd : T.data.toList = t := by rw [← hT]
        rw [hT] at HS
        have HTD := Lib.hid hTd
        obtain ⟨hd, hhd⟩ : ∃ hd, chainB head T = hd := ⟨_, rfl⟩
        have HHD := Lib.hid hhd
        clear h3 b1 b2 b4 hs hl hfull hex hT hTd hhd
        go_enter Tryz.func102, Tryz.ntmps102
        go_upto_region 1 with (fail)
        rw [HBB.out]
        generalize w.alloc (.cells #[.int .i64 0, .int .i64 0, .int .i64 0, .int .i64 0, .int .i64 0, .int .i64 0, .string ⟨#[]⟩, .string ⟨#[]⟩, .int .i64 0] 103) = w3 at RZ EZ ⊢
        go_wp2_with fail
        refine (HS.out _).mono ?_
        rintro e w4 ⟨rfl, rfl⟩
        go_wp2_with fail
        refine (decode_any T w3 (by unfold maxLen; omega)).mono ?_
        rintro e w4 ⟨r, rfl, hr1, hr2, hb4⟩
        have hsz4 : B < w4.heap.size := Nat.lt_of_lt_of_le RZ.out.lt hb4.size
        have EZ4 : Hid (Below B w w4) := EZ.out.trans (hb4.mono (by have := RZ.out.lt; omega))
        have RZ4 : Hid (Blk w4 B 103 [.int .i64 0, .int .i64 0, .int .i64 0, .int .i64 0, .int .i64 0, .int .i64 0, .string ⟨#[]⟩, .string ⟨#[]⟩, .int .i64 0]) := RZ.out.kept (hb4.block B RZ.out.lt)
        have HR1 := Lib.hid hr1
        have HR2 := Lib.hid hr2
        clear RZ EZ hb4 hr1 hr2
        obtain ⟨ch, rg, fr, fs, it, ix⟩ := r
        obtain ⟨ok, hok⟩ : ∃ ok, (decP T.data.toList).isSome = ok := ⟨_, rfl⟩
        have HOK := Lib.hid hok
        rw [hok]
        clear hok
        dsimp only [recA]
        go_wp2_with fail
        have hb5 : Below w4.heap.size w4 (w4.alloc (.cells #[.int .i64 ch, .int .i64 rg, .int .i64 fr, .int .i64 fs, .int .i64 it, .int .i64 ix] 62)) := (Below.refl _ w4).alloc (Nat.le_refl _) _
        have RB5 : Hid (Blk (w4.alloc (.cells #[.int .i64 ch, .int .i64 rg, .int .i64 fr, .int .i64 fs, .int .i64 it, .int .i64 ix] 62)) w4.heap.size 62 [.int .i64 ch, .int .i64 rg, .int .i64 fr, .int .i64 fs, .int .i64 it, .int .i64 ix]) := Blk.new w4 _ _
        have EZ5 : Hid (Below B w (w4.alloc (.cells #[.int .i64 ch, .int .i64 rg, .int .i64 fr, .int .i64 fs, .int .i64 it, .int .i64 ix] 62))) := EZ4.out.trans (hb5.mono (by omega))
        have RZ5 : Hid (Blk (w4.alloc (.cells #[.int .i64 ch, .int .i64 rg, .int .i64 fr, .int .i64 fs, .int .i64 it, .int .i64 ix] 62)) B 103 [.int .i64 0, .int .i64 0, .int .i64 0, .int .i64 0, .int .i64 0, .int .i64 0, .string ⟨#[]⟩, .string ⟨#[]⟩, .int .i64 0]) := RZ4.out.kept (hb5.block B RZ4.out.lt)
        obtain ⟨R, hR⟩ : ∃ R, w4.heap.size = R := ⟨_, rfl⟩
        rw [hR] at RB5 hsz4 ⊢
        clear hb5 RZ4 EZ4 hR
        generalize w4.alloc (.cells #[.int .i64 ch, .int .i64 rg, .int .i64 fr, .int .i64 fs, .int .i64 it, .int .i64 ix] 62) = w5 at RB5 EZ5 RZ5 ⊢
        refine (chain_any head T w5 (by omega) (by omega) (HT.out.mono' EZ5.out HBB.out)).mono ?_
        rw [HHD.out]
        rintro e w6 ⟨rfl, hb6⟩
        have EZ6 : Hid (Below B w w6) := EZ5.out.trans (hb6.mono (by have := RB5.out.lt; omega))
        have RZ6 : Hid (Blk w6 B 103 [.int .i64 0, .int .i64 0, .int .i64 0, .int .i64 0, .int .i64 0, .int .i64 0, .string ⟨#[]⟩, .string ⟨#[]⟩, .int .i64 0]) := RZ5.out.kept (hb6.block B RZ5.out.lt)
        have RB6 : Hid (Blk w6 R 62 [.int .i64 ch, .int .i64 rg, .int .i64 fr, .int .i64 fs, .int .i64 it, .int .i64 ix]) := RB5.out.kept (hb6.block R RB5.out.lt)
        clear hb6 EZ5 RZ5 RB5
        have d0 := RZ6.out.cell 0
        have f0 := RZ6.out.frozen 0
        have d1 := RZ6.out.cell 1
        have f1 := RZ6.out.frozen 1
        have d2 := RZ6.out.cell 2
        have f2 := RZ6.out.frozen 2
        have d3 := RZ6.out.cell 3
        have f3 := RZ6.out.frozen 3
        have d4 := RZ6.out.cell 4
        have f4 := RZ6.out.frozen 4
        have d5 := RZ6.out.cell 5
        have f5 := RZ6.out.frozen 5
        have d6 := RZ6.out.cell 6
        have f6 := RZ6.out.frozen 6
        have d7 := RZ6.out.cell 7
        have f7 := RZ6.out.frozen 7
        have d8 := RZ6.out.cell 8
        have f8 := RZ6.out.frozen 8
        have c0 := RB6.out.cell 0
        have c1 := RB6.out.cell 1
        have c2 := RB6.out.cell 2
        have c3 := RB6.out.cell 3
        have c4 := RB6.out.cell 4
        have c5 := RB6.out.cell 5
        have hBz := RZ6.out.lt
        have hRz := RB6.out.lt
        simp only [List.getElem?_cons_zero, List.getElem?_cons_succ] at d0 d1 d2 d3 d4 d5 d6 d7 d8 c0 c1 c2 c3 c4 c5
        cases ok with
        | false =>
          have HN : Hid (readP c.data.toList a head = none) := by
            show _ = _
            rw [HFU.out, ← HTD.out]
            cases hd' : decP T.data.toList with
            | none => rfl
            | some r0 => rw [hd'] at HOK; cases HOK.out
          go_upto_region 9 with (fail)
          go_region
          all_goals
            go_wp2_with fail
            refine gen_world (fun W9 => Blk W9 B 103 [.int .i64 ch, .int .i64 rg, .int .i64 fr, .int .i64 fs, .int .i64 it, .int .i64 ix, .string T, .string hd, .int .i64 ((nx : Int) + 32)] ∧ Below B w W9) ⟨?_, ?_⟩ ?_
            · repeat (first | (with_reducible exact RZ6.out) | (with_reducible refine Blk.drew ?_) | (with_reducible refine blk9 ?_ _ _ _ _ _ _ _ _ _) | (with_reducible refine Blk.alloc ?_ _))
            · repeat (first | (with_reducible exact EZ6.out) | (with_reducible refine drew_up ?_) | (with_reducible refine below9 ?_ (Nat.le_refl _) _ _ _ _ _ _ _ _ _) | (with_reducible refine alloc_up ?_ (by simp; omega) _))
            · rintro W9 ⟨hb9, he9⟩
              have g0 := hb9.cell 0
              have g1 := hb9.cell 1
              have g2 := hb9.cell 2
              have g3 := hb9.cell 3
              have g4 := hb9.cell 4
              have g5 := hb9.cell 5
              have g6 := hb9.cell 6
              have g7 := hb9.cell 7
              have g8 := hb9.cell 8
              simp only [List.getElem?_cons_zero, List.getElem?_cons_succ] at g0 g1 g2 g3 g4 g5 g6 g7 g8
              refine bodyPost_ret (v := .tuple #[.agg #[.int .i64 ch, .int .i64 rg, .int .i64 fr, .int .i64 fs, .int .i64 it, .int .i64 ix, .string T, .string hd, .int .i64 ((nx : Int) + 32)], .bool false]) (by simp [results, Tryz.results102, go_sem, g0, g1, g2, g3, g4, g5, g6, g7, g8]) rfl (HF.out _ _ ⟨ch, rg, fr, fs, it, ix⟩ T hd ((nx : Int) + 32) false (by rw [HN.out]; rfl) rfl (fun r' h' n' h => by rw [HN.out] at h; cases h) he9)
        | true =>
          have hdec : decP T.data.toList = some ⟨ch, rg, fr, fs, it, ix⟩ := by
            cases hd' : decP T.data.toList with
            | none => rw [hd'] at HOK; cases HOK.out
            | some r0 => rw [HR1.out r0 hd']
          have henc : T = encB ⟨ch, rg, fr, fs, it, ix⟩ := by
            apply ba_ext
            rw [encB_data]
            exact (decP_back hdec).1
          have HDEC := Lib.hid hdec
          have HENC := Lib.hid henc
          clear hdec henc
          have HFV : Hid (readP c.data.toList a head = if (c.data.toList.drop nx).take 32 = hd.data.toList then some (⟨ch, rg, fr, fs, it, ix⟩, hd, nx + 32) else none) := by
            show _ = _
            rw [HFU.out, ← HTD.out, HDEC.out]
            dsimp only
            rw [← HENC.out, HHD.out]
          by_cases hcmp : (c.data.toList.drop nx).take 32 = hd.data.toList
          · have hq : ((c.extract nx (nx + 32)).toList == hd.toList) = true := by
              rw [beq_iff_eq, HEX.out, ByteArray.toList_eq, ByteArray.toList_eq]
              exact hcmp
            have HSM : Hid (readP c.data.toList a head = some (⟨ch, rg, fr, fs, it, ix⟩, hd, nx + 32)) := by
              show _ = _
              rw [HFV.out, if_pos hcmp]
            clear hcmp
            go_upto_region 9 with (fail)
            go_region
            all_goals
              go_wp2_with fail
              refine gen_world (fun W9 => Blk W9 B 103 [.int .i64 ch, .int .i64 rg, .int .i64 fr, .int .i64 fs, .int .i64 it, .int .i64 ix, .string T, .string hd, .int .i64 ((nx : Int) + 32)] ∧ Below B w W9) ⟨?_, ?_⟩ ?_
              · repeat (first | (with_reducible exact RZ6.out) | (with_reducible refine Blk.drew ?_) | (with_reducible refine blk9 ?_ _ _ _ _ _ _ _ _ _) | (with_reducible refine Blk.alloc ?_ _))
              · repeat (first | (with_reducible exact EZ6.out) | (with_reducible refine drew_up ?_) | (with_reducible refine below9 ?_ (Nat.le_refl _) _ _ _ _ _ _ _ _ _) | (with_reducible refine alloc_up ?_ (by simp; omega) _))
              · rintro W9 ⟨hb9, he9⟩
                have g0 := hb9.cell 0
                have g1 := hb9.cell 1
                have g2 := hb9.cell 2
                have g3 := hb9.cell 3
                have g4 := hb9.cell 4
                have g5 := hb9.cell 5
                have g6 := hb9.cell 6
                have g7 := hb9.cell 7
                have g8 := hb9.cell 8
                simp only [List.getElem?_cons_zero, List.getElem?_cons_succ] at g0 g1 g2 g3 g4 g5 g6 g7 g8
                refine bodyPost_ret (v := .tuple #[.agg #[.int .i64 ch, .int .i64 rg, .int .i64 fr, .int .i64 fs, .int .i64 it, .int .i64 ix, .string T, .string hd, .int .i64 ((nx : Int) + 32)], .bool true]) (by simp [results, Tryz.results102, go_sem, g0, g1, g2, g3, g4, g5, g6, g7, g8]) rfl (HF.out _ _ ⟨ch, rg, fr, fs, it, ix⟩ T hd ((nx : Int) + 32) true (by rw [HSM.out]; rfl) rfl (fun r' h' n' h => by rw [HSM.out] at h; cases h; exact ⟨rfl, HENC.out, rfl, by omega⟩) he9)
          · have hq : ((c.extract nx (nx + 32)).toList == hd.toList) = false := by
              rw [beq_eq_false_iff_ne, HEX.out, ByteArray.toList_eq, ByteArray.toList_eq]
              exact hcmp
            have HN : Hid (readP c.data.toList a head = none) := by
              show _ = _
              rw [HFV.out, if_neg hcmp]
            clear hcmp
            go_upto_region 9 with (fail)
            go_region
            all_goals
              go_wp2_with fail
              refine gen_world (fun W9 => Blk W9 B 103 [.int .i64 ch, .int .i64 rg, .int .i64 fr, .int .i64 fs, .int .i64 it, .int .i64 ix, .string T, .string hd, .int .i64 ((nx : Int) + 32)] ∧ Below B w W9) ⟨?_, ?_⟩ ?_
              · repeat (first | (with_reducible exact RZ6.out) | (with_reducible refine Blk.drew ?_) | (with_reducible refine blk9 ?_ _ _ _ _ _ _ _ _ _) | (with_reducible refine Blk.alloc ?_ _))
              · repeat (first | (with_reducible exact EZ6.out) | (with_reducible refine drew_up ?_) | (with_reducible refine below9 ?_ (Nat.le_refl _) _ _ _ _ _ _ _ _ _) | (with_reducible refine alloc_up ?_ (by simp; omega) _))
              · rintro W9 ⟨hb9, he9⟩
                have g0 := hb9.cell 0
                have g1 := hb9.cell 1
                have g2 := hb9.cell 2
                have g3 := hb9.cell 3
                have g4 := hb9.cell 4
                have g5 := hb9.cell 5
                have g6 := hb9.cell 6
                have g7 := hb9.cell 7
                have g8 := hb9.cell 8
                simp only [List.getElem?_cons_zero, List.getElem?_cons_succ] at g0 g1 g2 g3 g4 g5 g6 g7 g8
                refine bodyPost_ret (v := .tuple #[.agg #[.int .i64 ch, .int .i64 rg, .int .i64 fr, .int .i64 fs, .int .i64 it, .int .i64 ix, .string T, .string hd, .int .i64 ((nx : Int) + 32)], .bool false]) (by simp [results, Tryz.results102, go_sem, g0, g1, g2, g3, g4, g5, g6, g7, g8]) rfl (HF.out _ _ ⟨ch, rg, fr, fs, it, ix⟩ T hd ((nx : Int) + 32) false (by rw [HN.out]; rfl) rfl (fun r' h' n' h => by rw [HN.out] at h; cases h) he9)
      · have HN : Hid (readP c.data.toList a head = none) := readP_none3 (by rw [hs, blen]; dsimp only; omega)
        have h4 : (c.size : Int) - (nx : Int) < 32 := by omega
        have hnx : (nx : Int) ≤ c.size := by rw [hs, blen] at b4; dsimp only at b4; omega
        clear h3 b1 b2 b4 hs
        go_enter Tryz.func102, Tryz.ntmps102
        go_upto_region 1 with (fail)
        rw [HBB.out]
        generalize w.alloc (.cells #[.int .i64 0, .int .i64 0, .int .i64 0, .int .i64 0, .int .i64 0, .int .i64 0, .string ⟨#[]⟩, .string ⟨#[]⟩, .int .i64 0] 103) = w3 at RZ EZ ⊢
        have d0 := RZ.out.cell 0
        have d1 := RZ.out.cell 1
        have d2 := RZ.out.cell 2
        have d3 := RZ.out.cell 3
        have d4 := RZ.out.cell 4
        have d5 := RZ.out.cell 5
        have d6 := RZ.out.cell 6
        have d7 := RZ.out.cell 7
        have d8 := RZ.out.cell 8
        have f0 := RZ.out.frozen 0
        have f1 := RZ.out.frozen 1
        have f2 := RZ.out.frozen 2
        have f3 := RZ.out.frozen 3
        have f4 := RZ.out.frozen 4
        have f5 := RZ.out.frozen 5
        have f6 := RZ.out.frozen 6
        have f7 := RZ.out.frozen 7
        have f8 := RZ.out.frozen 8
        have hlt := RZ.out.lt
        simp only [List.getElem?_cons_zero, List.getElem?_cons_succ] at d0 d1 d2 d3 d4 d5 d6 d7 d8
        go_wp2_with fail
        refine (HS.out _).mono ?_
        rintro e w4 ⟨rfl, rfl⟩
        go_wp2_with fail
        refine gen_world (fun W9 => Blk W9 B 103 [.int .i64 0, .int .i64 0, .int .i64 0, .int .i64 0, .int .i64 0, .int .i64 0, .string ⟨#[]⟩, .string ⟨#[]⟩, .int .i64 0] ∧ Below B w W9) ⟨?_, ?_⟩ ?_
        · repeat (first | (with_reducible exact RZ.out) | (with_reducible refine Blk.drew ?_) | (with_reducible refine blk9 ?_ _ _ _ _ _ _ _ _ _) | (with_reducible refine Blk.alloc ?_ _))
        · repeat (first | (with_reducible exact EZ.out) | (with_reducible refine drew_up ?_) | (with_reducible refine below9 ?_ (Nat.le_refl _) _ _ _ _ _ _ _ _ _) | (with_reducible refine alloc_up ?_ (by simp; omega) _))
        · rintro W9 ⟨hb9, he9⟩
          have g0 := hb9.cell 0
          have g1 := hb9.cell 1
          have g2 := hb9.cell 2
          have g3 := hb9.cell 3
          have g4 := hb9.cell 4
          have g5 := hb9.cell 5
          have g6 := hb9.cell 6
          have g7 := hb9.cell 7
          have g8 := hb9.cell 8
          simp only [List.getElem?_cons_zero, List.getElem?_cons_succ] at g0 g1 g2 g3 g4 g5 g6 g7 g8
          refine bodyPost_ret (v := .tuple #[.agg #[.int .i64 0, .int .i64 0, .int .i64 0, .int .i64 0, .int .i64 0, .int .i64 0, .string ⟨#[]⟩, .string ⟨#[]⟩, .int .i64 0], .bool false]) (by simp [results, Tryz.results102, go_sem, g0, g1, g2, g3, g4, g5, g6, g7, g8]) rfl (HF.out _ _ ⟨0, 0, 0, 0, 0, 0⟩ ⟨#[]⟩ ⟨#[]⟩ 0 false (by rw [HN.out]; rfl) rfl (fun r' h' n' h => by rw [HN.out] at h; cases h) he9)
    · have HN : Hid (readP c.data.toList a head = none) := readP_none2 (by rw [hs]; exact he)
      have hne : (er != 0) = true := by rw [bne_iff_ne]; exact he
      clear he hs
      go_enter Tryz.func102, Tryz.ntmps102
      go_upto_region 1 with (fail)
      rw [HBB.out]
      generalize w.alloc (.cells #[.int .i64 0, .int .i64 0, .int .i64 0, .int .i64 0, .int .i64 0, .int .i64 0, .string ⟨#[]⟩, .string ⟨#[]⟩, .int .i64 0] 103) = w3 at RZ EZ ⊢
      have d0 := RZ.out.cell 0
      have d1 := RZ.out.cell 1
      have d2 := RZ.out.cell 2
      have d3 := RZ.out.cell 3
      have d4 := RZ.out.cell 4
      have d5 := RZ.out.cell 5
      have d6 := RZ.out.cell 6
      have d7 := RZ.out.cell 7
      have d8 := RZ.out.cell 8
      have f0 := RZ.out.frozen 0
      have f1 := RZ.out.frozen 1
      have f2 := RZ.out.frozen 2
      have f3 := RZ.out.frozen 3
      have f4 := RZ.out.frozen 4
      have f5 := RZ.out.frozen 5
      have f6 := RZ.out.frozen 6
      have f7 := RZ.out.frozen 7
      have f8 := RZ.out.frozen 8
      have hlt := RZ.out.lt
      simp only [List.getElem?_cons_zero, List.getElem?_cons_succ] at d0 d1 d2 d3 d4 d5 d6 d7 d8
      go_wp2_with fail
      refine (HS.out _).mono ?_
      rintro e w4 ⟨rfl, rfl⟩
      go_wp2_with fail
      refine gen_world (fun W9 => Blk W9 B 103 [.int .i64 0, .int .i64 0, .int .i64 0, .int .i64 0, .int .i64 0, .int .i64 0, .string ⟨#[]⟩, .string ⟨#[]⟩, .int .i64 0] ∧ Below B w W9) ⟨?_, ?_⟩ ?_
      · repeat (first | (with_reducible exact RZ.out) | (with_reducible refine Blk.drew ?_) | (with_reducible refine blk9 ?_ _ _ _ _ _ _ _ _ _) | (with_reducible refine Blk.alloc ?_ _))
      · repeat (first | (with_reducible exact EZ.out) | (with_reducible refine drew_up ?_) | (with_reducible refine below9 ?_ (Nat.le_refl _) _ _ _ _ _ _ _ _ _) | (with_reducible refine alloc_up ?_ (by simp; omega) _))
      · rintro W9 ⟨hb9, he9⟩
        have g0 := hb9.cell 0
        have g1 := hb9.cell 1
        have g2 := hb9.cell 2
        have g3 := hb9.cell 3
        have g4 := hb9.cell 4
        have g5 := hb9.cell 5
        have g6 := hb9.cell 6
        have g7 := hb9.cell 7
        have g8 := hb9.cell 8
        simp only [List.getElem?_cons_zero, List.getElem?_cons_succ] at g0 g1 g2 g3 g4 g5 g6 g7 g8
        refine bodyPost_ret (v := .tuple #[.agg #[.int .i64 0, .int .i64 0, .int .i64 0, .int .i64 0, .int .i64 0, .int .i64 0, .string ⟨#[]⟩, .string ⟨#[]⟩, .int .i64 0], .bool false]) (by simp [results, Tryz.results102, go_sem, g0, g1, g2, g3, g4, g5, g6, g7, g8]) rfl (HF.out _ _ ⟨0, 0, 0, 0, 0, 0⟩ ⟨#[]⟩ ⟨#[]⟩ 0 false (by rw [HN.out]; rfl) rfl (fun r' h' n' h => by rw [HN.out] at h; cases h) he9)
  · rw [decide_eq_false h1] at hm
    have HN : Hid (readP c.data.toList a head = none) := readP_none1 h1
    clear h1
    go_enter Tryz.func102, Tryz.ntmps102
    go_upto_region 1 with (fail)
    rw [HBB.out]
    generalize w.alloc (.cells #[.int .i64 0, .int .i64 0, .int .i64 0, .int .i64 0, .int .i64 0, .int .i64 0, .string ⟨#[]⟩, .string ⟨#[]⟩, .int .i64 0] 103) = w3 at RZ EZ ⊢
    have d0 := RZ.out.cell 0
    have d1 := RZ.out.cell 1
    have d2 := RZ.out.cell 2
    have d3 := RZ.out.cell 3
    have d4 := RZ.out.cell 4
    have d5 := RZ.out.cell 5
    have d6 := RZ.out.cell 6
    have d7 := RZ.out.cell 7
    have d8 := RZ.out.cell 8
    have f0 := RZ.out.frozen 0
    have f1 := RZ.out.frozen 1
    have f2 := RZ.out.frozen 2
    have f3 := RZ.out.frozen 3
    have f4 := RZ.out.frozen 4
    have f5 := RZ.out.frozen 5
    have f6 := RZ.out.frozen 6
    have f7 := RZ.out.frozen 7
    have f8 := RZ.out.frozen 8
    have hlt := RZ.out.lt
    simp only [List.getElem?_cons_zero, List.getElem?_cons_succ] at d0 d1 d2 d3 d4 d5 d6 d7 d8
    go_wp2_with fail
    refine gen_world (fun W9 => Blk W9 B 103 [.int .i64 0, .int .i64 0, .int .i64 0, .int .i64 0, .int .i64 0, .int .i64 0, .string ⟨#[]⟩, .string ⟨#[]⟩, .int .i64 0] ∧ Below B w W9) ⟨?_, ?_⟩ ?_
    · repeat (first | (with_reducible exact RZ.out) | (with_reducible refine Blk.drew ?_) | (with_reducible refine blk9 ?_ _ _ _ _ _ _ _ _ _) | (with_reducible refine Blk.alloc ?_ _))
    · repeat (first | (with_reducible exact EZ.out) | (with_reducible refine drew_up ?_) | (with_reducible refine below9 ?_ (Nat.le_refl _) _ _ _ _ _ _ _ _ _) | (with_reducible refine alloc_up ?_ (by simp; omega) _))
    · rintro W9 ⟨hb9, he9⟩
      have g0 := hb9.cell 0
      have g1 := hb9.cell 1
      have g2 := hb9.cell 2
      have g3 := hb9.cell 3
      have g4 := hb9.cell 4
      have g5 := hb9.cell 5
      have g6 := hb9.cell 6
      have g7 := hb9.cell 7
      have g8 := hb9.cell 8
      simp only [List.getElem?_cons_zero, List.getElem?_cons_succ] at g0 g1 g2 g3 g4 g5 g6 g7 g8
      refine bodyPost_ret (v := .tuple #[.agg #[.int .i64 0, .int .i64 0, .int .i64 0, .int .i64 0, .int .i64 0, .int .i64 0, .string ⟨#[]⟩, .string ⟨#[]⟩, .int .i64 0], .bool false]) (by simp [results, Tryz.results102, go_sem, g0, g1, g2, g3, g4, g5, g6, g7, g8]) rfl (HF.out _ _ ⟨0, 0, 0, 0, 0, 0⟩ ⟨#[]⟩ ⟨#[]⟩ 0 false (by rw [HN.out]; rfl) rfl (fun r' h' n' h => by rw [HN.out] at h; cases h) he9)
end Go.Proofs.YtfpcdlpfmlaakaaGreatDoor
