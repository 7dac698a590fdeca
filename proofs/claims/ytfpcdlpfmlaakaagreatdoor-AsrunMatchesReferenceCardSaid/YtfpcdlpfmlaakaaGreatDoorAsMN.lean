/-
  The walk of asrun.Verify.
  The walks of slices.Clone at records, of Records, Prove, Extension.
-/
import Derived.WalkKit
import Derived.LoopTactic
import Derived.WalkSpells
import Derived.WalkLawsBesides
import Derived.RegionTactic
import Derived.BigRegion
import Derived.IntWalk
import Derived.Outline
import Derived.Deep.QuietTactic
import Derived.BigQuiet
import Derived.Deep.RegionLaw
import Derived.Deep.RegionHeld3
import Derived.Lib.Hide
import Derived.OwnWalk
import Derived.Lib.SliceRun
import Derived.Test.YtfpcdlpfmlaakaaGreatDoorAsB
import Derived.Test.YtfpcdlpfmlaakaaGreatDoorDgN
import Derived.Test.YtfpcdlpfmlaakaaGreatDoorAsGk
import Derived.Test.YtfpcdlpfmlaakaaGreatDoorDgG
set_option linter.unusedVariables false
set_option linter.unusedSimpArgs false
namespace Go.Proofs.YtfpcdlpfmlaakaaGreatDoor
open Go.RowKit Onair
theorem below_undrew {W w' : World} (h : Below W.drew.heap.size W.drew w') : Below W.heap.size W w' := ⟨h.os, h.tape, h.output, h.size, h.block⟩
/-- The cells of a proof. -/
def proA (r : Rec) (i n : Int) (salt : ByteArray) (vp : Value) : Array Value := #[.int .i64 r.ch, .int .i64 r.rg, .int .i64 r.fr, .int .i64 r.fs, .int .i64 r.it, .int .i64 r.ix, .int .i64 i, .int .i64 n, .string salt, vp]
theorem verA_bad (root : ByteArray) (r : Rec) (i n : Int) (salt : ByteArray) (p : List ByteArray) (h : validR r = false ∨ salt.size ≠ 32) : verA root r i n salt p = false := by
  unfold verA
  rcases h with h | h
  · rw [h]; rfl
  · rw [beq_false_of_ne h, Bool.and_false]; rfl
theorem verA_good (root : ByteArray) (r : Rec) (i n : Int) (salt : ByteArray) (p : List ByteArray) (h : validR r = true) (h2 : salt.size = 32) : verA root r i n salt p = verI root n i (salt ++ encB r) p := by
  unfold verA
  rw [h, h2]
  rfl
set_option maxHeartbeats 2000000 in
set_option maxRecDepth 100000 in
theorem asVerify_any (root : ByteArray) (r : Rec) (i n : Int) (salt : ByteArray) (oa : Option Addr) (p : List ByteArray) (cap : Nat) (w : World) (hr : RecI r) (hn : n ≤ 9223372036854775807) (hp : p.length ≤ 1000000) (hpc : p.length ≤ cap) (hcc : cap ≤ 9223372036854775807) (hrd : RdS w oa p) (ht : TabAt w) (hs : salt.size ≤ maxLen) :
    Calls Tryz.prog 34 #[.string root, .agg (proA r i n salt (.slice oa p.length cap))] w fun e w' => e = .returned (.bool (verA root r i n salt p)) ∧ Below w.heap.size w w' := by
  obtain ⟨w1, hw1⟩ : ∃ w1, w.alloc (.cells (proA r i n salt (.slice oa p.length cap)) 65) = w1 := ⟨_, rfl⟩
  obtain ⟨w2, hw2⟩ : ∃ w2, w1.alloc (.cells (recA r) 62) = w2 := ⟨_, rfl⟩
  obtain ⟨N, hN⟩ : ∃ N, w.heap.size = N := ⟨_, rfl⟩
  have hb1 : Below N w w1 := by rw [← hw1, ← hN]; exact (Below.refl _ w).alloc (Nat.le_refl _) _
  have hz1 : w1.heap.size = N + 1 := by rw [← hw1, ← hN]; simp
  have hb2 : Below N w w2 := by rw [← hw2]; exact hb1.alloc (by omega) _
  have k2 : Blk w2 N 65 (proA r i n salt (.slice oa p.length cap)).toList := by
    rw [← hw2, ← hw1, ← hN]
    exact (Blk.new w _ _).alloc _
  have k1 : Blk w1 N 65 (proA r i n salt (.slice oa p.length cap)).toList := by
    rw [← hw1, ← hN]
    exact Blk.new w _ _
  have HV := Lib.hid (valid_any r w1 hr)
  rw [hw2] at HV
  have HEN : Hid (∀ W, Calls Tryz.prog 40 #[.agg (recA r)] W fun e w' => e = .returned (.string (encB r)) ∧ Below W.heap.size W w') := fun W => encode_any r W
  have HVE : Hid (salt.size = 32 → ∀ W', Below w2.heap.size w2 W' → Calls Tryz.prog 79 #[.string root, .int .i64 n, .int .i64 i, .string (salt ++ encB r), .slice oa p.length cap] W' fun e w' => e = .returned (.bool (verI root n i (salt ++ encB r) p)) ∧ Below W'.heap.size W' w') := fun h32 W' hW => by
    have hbb : Below N w W' := hb2.trans (hW.mono (hN ▸ hb2.size))
    refine verify_all root n i (salt ++ encB r) oa p cap W' hn ?_ hp hpc hcc (RdS.kept hrd (hN ▸ hbb)) (ht.below (hN ▸ hbb))
    rw [ByteArray.size_append, h32]
    have := encB_size r
    omega
  have HB2 := Lib.hid hb2
  have HB1 := Lib.hid hb1
  have HN := Lib.hid hN
  have HX : Hid (validR r = false ∨ salt.size ≠ 32 → verA root r i n salt p = false) := verA_bad root r i n salt p
  have HG : Hid (validR r = true → salt.size = 32 → verA root r i n salt p = verI root n i (salt ++ encB r) p) := verA_good root r i n salt p
  have b6 := k2.cell 6
  have b7 := k2.cell 7
  have b8 := k2.cell 8
  have b9 := k2.cell 9
  have c0 := k2.cell 0
  have c1 := k2.cell 1
  have c2 := k2.cell 2
  have c3 := k2.cell 3
  have c4 := k2.cell 4
  have c5 := k2.cell 5
  have d0 := k1.cell 0
  have d1 := k1.cell 1
  have d2 := k1.cell 2
  have d3 := k1.cell 3
  have d4 := k1.cell 4
  have d5 := k1.cell 5
  have hlt := k2.lt
  have hz32 : salt.size ≤ 9223372036854775807 := by unfold maxLen at hs; omega
  generalize p.length = m at *
  clear hb1 hb2 hz1 k1 k2 hrd ht hs hp hpc hcc hn hr
  dsimp only [proA, recA, Array.toList, List.getElem?_cons_zero, List.getElem?_cons_succ] at *
  clear hw2
  by_cases hv : validR r = true
  · by_cases h32 : salt.size = 32
    · have HE := Lib.hid (HG.out hv h32)
      have HVE' := Lib.hid (HVE.out h32)
      rw [hv] at HV
      have h32' : (salt.size : Int) = 32 := by omega
      have h33 : salt.size ≤ 32 := by omega
      have hez := encB_size r
      have hsum : ¬ (salt.size + (encB r).size > 9223372036854775807) := by omega
      have hsum2 : ¬ (9223372036854775807 < salt.size + (encB r).size) := by omega
      generalize encB r = Z at *
      clear HVE HG HX hv h32
      go_enter Tryz.func34, Tryz.ntmps34
      go_wp2_with fail
      refine HV.out.mono ?_
      rintro e w3 ⟨rfl, hw3⟩
      subst w3
      go_upto_region 3 with (fail)
      go_region_held3 (fun W => W.cell? ⟨N, 0, none⟩ = some (.int .i64 r.ch) ∧ W.cell? ⟨N, 1, none⟩ = some (.int .i64 r.rg) ∧ W.cell? ⟨N, 2, none⟩ = some (.int .i64 r.fr) ∧ W.cell? ⟨N, 3, none⟩ = some (.int .i64 r.fs) ∧ W.cell? ⟨N, 4, none⟩ = some (.int .i64 r.it) ∧ W.cell? ⟨N, 5, none⟩ = some (.int .i64 r.ix) ∧ W.cell? ⟨N, 6, none⟩ = some (.int .i64 i) ∧ W.cell? ⟨N, 7, none⟩ = some (.int .i64 n) ∧ W.cell? ⟨N, 8, none⟩ = some (.string salt) ∧ W.cell? ⟨N, 9, none⟩ = some (.slice oa m cap)) (first | go_keep | assumption) (first
        | ((with_reducible refine (HEN.out _).mono ?_); rintro e w' ⟨rfl, hb⟩; have HB : Hid (Below w2.heap.size w2 w') := (by first | exact hb | exact below_undrew hb); have e0 := (hb.cell (p := ⟨N, 0, none⟩) hlt).trans c0; have e1 := (hb.cell (p := ⟨N, 1, none⟩) hlt).trans c1; have e2 := (hb.cell (p := ⟨N, 2, none⟩) hlt).trans c2; have e3 := (hb.cell (p := ⟨N, 3, none⟩) hlt).trans c3; have e4 := (hb.cell (p := ⟨N, 4, none⟩) hlt).trans c4; have e5 := (hb.cell (p := ⟨N, 5, none⟩) hlt).trans c5; have e6 := (hb.cell (p := ⟨N, 6, none⟩) hlt).trans b6; have e7 := (hb.cell (p := ⟨N, 7, none⟩) hlt).trans b7; have e8 := (hb.cell (p := ⟨N, 8, none⟩) hlt).trans b8; have e9 := (hb.cell (p := ⟨N, 9, none⟩) hlt).trans b9; clear hb)
        | ((with_reducible refine (HVE'.out _ (by first | exact HB.out | exact HB.out.drew)).mono ?_); rintro e w'' ⟨rfl, hb⟩; have hbz : Below w2.heap.size w2 w'' := HB.out.trans (by first | exact hb.mono HB.out.size | exact (below_undrew hb).mono HB.out.size); have HBZ := Lib.hid hbz; have g0 := (hbz.cell (p := ⟨N, 0, none⟩) hlt).trans c0; have g1 := (hbz.cell (p := ⟨N, 1, none⟩) hlt).trans c1; have g2 := (hbz.cell (p := ⟨N, 2, none⟩) hlt).trans c2; have g3 := (hbz.cell (p := ⟨N, 3, none⟩) hlt).trans c3; have g4 := (hbz.cell (p := ⟨N, 4, none⟩) hlt).trans c4; have g5 := (hbz.cell (p := ⟨N, 5, none⟩) hlt).trans c5; have g6 := (hbz.cell (p := ⟨N, 6, none⟩) hlt).trans b6; have g7 := (hbz.cell (p := ⟨N, 7, none⟩) hlt).trans b7; have g8 := (hbz.cell (p := ⟨N, 8, none⟩) hlt).trans b8; have g9 := (hbz.cell (p := ⟨N, 9, none⟩) hlt).trans b9; clear hb hbz))
      all_goals (go_wp2_with fail; go_ret; exact ⟨by rw [HE.out]; rfl, by rw [HN.out]; exact HB2.out.trans (HBZ.out.mono (by omega))⟩)
    · have HE := Lib.hid (HX.out (.inr h32))
      rw [hv] at HV
      have h32' : ¬ (salt.size : Int) = 32 := by omega
      clear HVE HG HX hv h32
      go_enter Tryz.func34, Tryz.ntmps34
      go_wp2_with fail
      refine HV.out.mono ?_
      rintro e w3 ⟨rfl, hw3⟩
      subst w3
      go_wp2_with fail
      go_ret
      exact ⟨by rw [HE.out]; rfl, by rw [HN.out]; exact HB2.out⟩
  · have hvf : validR r = false := Bool.eq_false_iff.2 hv
    have HE := Lib.hid (HX.out (.inl hvf))
    rw [hvf] at HV
    clear HVE HG HX hv hvf
    go_enter Tryz.func34, Tryz.ntmps34
    go_wp2_with fail
    refine HV.out.mono ?_
    rintro e w3 ⟨rfl, hw3⟩
    subst w3
    go_wp2_with fail
    go_ret
    exact ⟨by rw [HE.out]; rfl, by rw [HN.out]; exact HB2.out⟩
end Go.Proofs.YtfpcdlpfmlaakaaGreatDoor
namespace Go.Proofs.YtfpcdlpfmlaakaaGreatDoor
open Go.RowKit Onair
/-- A copy of records, its own from block B on. -/
def CloP (B : Nat) (W : World) (l : List Rec) (e : Ending) (w' : World) : Prop := ∃ oa cap, e = .returned (.slice oa l.length cap) ∧ w'.ownsRow B 62 6 (.slice oa l.length cap) l.length (rcells l) ∧ Below W.heap.size W w'
set_option maxHeartbeats 2000000 in
set_option maxRecDepth 100000 in
theorem clone_any (l : List Rec) (oa : Option Addr) (n c : Nat) (w : World) (hn : l.length = n) (hb : n ≤ 1000000) (hr : RdR w oa l) :
    Calls Tryz.prog 58 #[.slice oa n c] w (CloP w.heap.size w l) := by
  have q22 : ∀ (w : World) (a : Option Addr) (n c n' c' : Nat), (binOp .eql 38 (.slice a n c) (.slice none n' c')).run Tryz.prog w = .ok (.bool a.isNone) w := fun w a n c n' c' => Lib.run_eql_slice_nil w _ _ a n c n' c' Tryz.underlying38
  obtain ⟨i0, hi, hz0, hz1, hz2⟩ := info_parts Tryz.infoRec
  cases oa with
  | none =>
    have h0 : l = [] := by
      rcases hr with h | ⟨b, o, e, _⟩
      · exact h
      · cases e
    subst h0
    cases hn
    go_enter Tryz.func58, Tryz.ntmps58
    go_wp2
    go_ret
    exact ⟨none, 0, rfl, World.ownsRow_nil _ _ _ _, Below.refl _ _⟩
  | some a =>
    have hcells : ∀ (j : Nat) v, (rcells l)[j]? = some v → w.cell? (a.add j) = some v := by
      intro j v hj
      rcases hr with h | ⟨b, o, e, _, hc⟩
      · subst h
        simp [rcells] at hj
      · cases e
        rw [Addr.add_lit]
        exact hc j v hj
    have hl : (rcells l).length = n * 6 := by rw [rcells_len, hn]
    have h1 : ∀ u ∈ rcells l, u.oneCell' = true := by
      intro u hu
      unfold rcells at hu
      obtain ⟨r, _, hr⟩ := List.mem_flatMap.1 hu
      simp [recA] at hr
      rcases hr with rfl | rfl | rfl | rfl | rfl | rfl <;> rfl
    have A := Lib.hid hcells
    have HN := Lib.hid hn
    obtain ⟨X, hX⟩ : ∃ X, rcells l = X := ⟨_, rfl⟩
    rw [hX] at A hl h1
    have HX := Lib.hid hX
    clear hcells hr hn hX
    go_enter Tryz.func58, Tryz.ntmps58
    go_wp2_with (at_builtin; refine wpList_append_own _ rfl _ _ 38 rfl w.heap.size 62 i0 (.agg #[.int .i64 0, .int .i64 0, .int .i64 0, .int .i64 0, .int .i64 0, .int .i64 0]) 6 48 Tryz.underlying38 hi hz0 hz1 hz2 rfl (by decide) _ _ _ rfl (World.ownsRow_made w #[] 0 (Nat.le_refl _) (Nat.zero_le _) (by simp)) a n c X rfl ?qc1 ?qc2 ?qc3 ?qc4 ?qc5 ?qc6 ?_)
    case qc1 => exact hl
    case qc2 =>
      intro j u hj
      exact Lib.cell?_alloc_some _ (A.out j u hj)
    case qc3 => exact h1
    case qc4 => unfold maxLen; omega
    case qc5 => omega
    case qc6 => simp
    intro v' w1 hown hgrow hnil
    go_wp2
    go_ret
    have hx := HX.out
    obtain rfl := HN.out
    obtain ⟨oa', cap', rfl⟩ := own_slice hown
    refine ⟨oa', cap', rfl, ?_, ((Below.refl _ w).alloc (Nat.le_refl _) _).grown hgrow (by simp) (by intro k hk; simp [Value.ownBlock] at hk; omega)⟩
    rw [hx]
    exact hown
theorem own_rdr {W : World} {B : Nat} {oa : Option Addr} {n cap : Nat} {l : List Rec} (h : W.ownsRow B 62 6 (.slice oa n cap) l.length (rcells l)) : n = l.length ∧ n ≤ cap ∧ cap ≤ 9223372036854775807 ∧ RdR W oa l := by
  have h' := h
  rcases h.2 with ⟨he, h0⟩ | ⟨g, cap', cur, he, q1, q2, q3⟩
  · simp at he
    have : l = [] := List.eq_nil_of_length_eq_zero h0
    exact ⟨by rw [he.2.1, h0], by omega, by omega, .inl this⟩
  · simp at he
    obtain ⟨rfl, rfl, rfl⟩ := he
    refine ⟨rfl, by obtain ⟨q4, q5, q6⟩ := q3; omega, by obtain ⟨q4, q5, q6⟩ := q3; unfold maxLen at q5; omega, .inr ⟨g, 0, rfl, (Array.getElem?_eq_some_iff.1 q2).1, fun i c hi => ?_⟩⟩
    have hil : i < (rcells l).length := (List.getElem?_eq_some_iff.1 hi).1
    rw [rcells_len] at hil
    rw [Nat.zero_add, h'.cellAt _ hil]
    simp [hi]
set_option maxRecDepth 100000 in
theorem records_any (W : World) (B2 b bl : Nat) (vr ve : Value) (R : List Rec) (br : Bool) (hn : R.length ≤ 900000) (hl : LgAt W B2 bl b vr ve R br) :
    Calls Tryz.prog 17 #[.pointer (some ⟨bl, 0, none⟩)] W (CloP W.heap.size W R) := by
  have c1 := hl.blk.cell 1
  simp only [List.getElem?_cons_zero, List.getElem?_cons_succ] at c1
  obtain ⟨oa, cap, rfl⟩ := own_slice hl.recs
  obtain ⟨h1, h2, h3, h4⟩ := own_rdr hl.recs
  have HC := Lib.hid (clone_any R oa R.length cap W rfl (by omega) h4)
  have HL := Lib.hid hl
  generalize R.length = m at HC c1 HL
  clear hl h1 h2 h3 h4
  go_enter Tryz.func17, Tryz.ntmps17
  go_wp2_with fail
  refine (absent_no W B2 bl b _ ve R br HL.out).mono ?_
  rintro e w' ⟨rfl, rfl⟩
  go_wp2_with fail
  refine HC.out.mono ?_
  rintro e w' ⟨oa', cap', rfl, hb⟩
  have HB := Lib.hid hb
  clear hb
  go_wp2_with fail
  go_ret
  exact ⟨oa', cap', rfl, HB.out⟩
theorem records_nil (W : World) :
    Calls Tryz.prog 17 #[.pointer none] W fun e w' => e = .returned (.slice none 0 0) ∧ W = w' := by
  go_enter Tryz.func17, Tryz.ntmps17
  go_wp2_with fail
  refine (absent_nil W).mono ?_
  rintro e w' ⟨rfl, rfl⟩
  go_wp2_with fail
  go_ret
  exact ⟨rfl, rfl⟩
theorem blk10 {W : World} {g : Nat} {t : TypeId} (h : Blk W g t [.int .i64 0, .int .i64 0, .int .i64 0, .int .i64 0, .int .i64 0, .int .i64 0, .int .i64 0, .int .i64 0, .string ⟨#[]⟩, .slice none 0 0]) (x0 x1 x2 x3 x4 x5 x6 x7 x8 x9 : Value) : Blk ((((((((((W.setCell ⟨g, 0, none⟩ x0).setCell ⟨g, 1, none⟩ x1).setCell ⟨g, 2, none⟩ x2).setCell ⟨g, 3, none⟩ x3).setCell ⟨g, 4, none⟩ x4).setCell ⟨g, 5, none⟩ x5).setCell ⟨g, 6, none⟩ x6).setCell ⟨g, 7, none⟩ x7).setCell ⟨g, 8, none⟩ x8).setCell ⟨g, 9, none⟩ x9) g t [x0, x1, x2, x3, x4, x5, x6, x7, x8, x9] := ((((((((((h.set 0 x0).set 1 x1).set 2 x2).set 3 x3).set 4 x4).set 5 x5).set 6 x6).set 7 x7).set 8 x8).set 9 x9)
theorem below10 {B : Nat} {w W : World} {g : Nat} (h : Below B w W) (hg : B ≤ g) (x0 x1 x2 x3 x4 x5 x6 x7 x8 x9 : Value) : Below B w ((((((((((W.setCell ⟨g, 0, none⟩ x0).setCell ⟨g, 1, none⟩ x1).setCell ⟨g, 2, none⟩ x2).setCell ⟨g, 3, none⟩ x3).setCell ⟨g, 4, none⟩ x4).setCell ⟨g, 5, none⟩ x5).setCell ⟨g, 6, none⟩ x6).setCell ⟨g, 7, none⟩ x7).setCell ⟨g, 8, none⟩ x8).setCell ⟨g, 9, none⟩ x9) := ((((((((((h.setCell (p := ⟨g, 0, none⟩) hg _).setCell (p := ⟨g, 1, none⟩) hg _).setCell (p := ⟨g, 2, none⟩) hg _).setCell (p := ⟨g, 3, none⟩) hg _).setCell (p := ⟨g, 4, none⟩) hg _).setCell (p := ⟨g, 5, none⟩) hg _).setCell (p := ⟨g, 6, none⟩) hg _).setCell (p := ⟨g, 7, none⟩) hg _).setCell (p := ⟨g, 8, none⟩) hg _).setCell (p := ⟨g, 9, none⟩) hg _)
theorem fr10 {A W : World} {g : Nat} (h : Fr (fun k => k = g) A W) (x0 x1 x2 x3 x4 x5 x6 x7 x8 x9 : Value) : Fr (fun k => k = g) A ((((((((((W.setCell ⟨g, 0, none⟩ x0).setCell ⟨g, 1, none⟩ x1).setCell ⟨g, 2, none⟩ x2).setCell ⟨g, 3, none⟩ x3).setCell ⟨g, 4, none⟩ x4).setCell ⟨g, 5, none⟩ x5).setCell ⟨g, 6, none⟩ x6).setCell ⟨g, 7, none⟩ x7).setCell ⟨g, 8, none⟩ x8).setCell ⟨g, 9, none⟩ x9) := ((((((((((h.setCell ⟨g, 0, none⟩ x0 (.inl rfl)).setCell ⟨g, 1, none⟩ x1 (.inl rfl)).setCell ⟨g, 2, none⟩ x2 (.inl rfl)).setCell ⟨g, 3, none⟩ x3 (.inl rfl)).setCell ⟨g, 4, none⟩ x4 (.inl rfl)).setCell ⟨g, 5, none⟩ x5 (.inl rfl)).setCell ⟨g, 6, none⟩ x6 (.inl rfl)).setCell ⟨g, 7, none⟩ x7 (.inl rfl)).setCell ⟨g, 8, none⟩ x8 (.inl rfl)).setCell ⟨g, 9, none⟩ x9 (.inl rfl))
def ProP (W : World) (r : Rec) (i n : Nat) (s : ByteArray) (p : List ByteArray) (e : Ending) (w' : World) : Prop := ∃ oa cap, e = .returned (.tuple #[.agg (proA r i n s (.slice oa p.length cap)), .int .i64 0]) ∧ w'.ownsRow W.heap.size 9 1 (.slice oa p.length cap) p.length (p.map Value.string) ∧ Below W.heap.size W w'
def zeroPro : Array Value := proA ⟨0, 0, 0, 0, 0, 0⟩ 0 0 ⟨#[]⟩ (.slice none 0 0)
set_option maxHeartbeats 2000000 in
set_option maxRecDepth 100000 in
theorem prove_at (W : World) (B2 b bl : Nat) (vr ve : Value) (R : List Rec) (br : Bool) (i : Nat) (r : Rec) (x : ByteArray) (hn : R.length ≤ 900000) (ht : TabAt W) (hl : LgAt W B2 bl b vr ve R br) (hr : R[i]? = some r) (hx : (entR R)[i]? = some x) :
    Calls Tryz.prog 26 #[.pointer (some ⟨bl, 0, none⟩), .int .i64 (i : Int)] W (ProP W r i R.length (x.extract 0 32) (proofL (entR R) i)) := by
  obtain ⟨N, hN⟩ : ∃ N, W.heap.size = N := ⟨_, rfl⟩
  obtain ⟨w1, hw1⟩ : ∃ w1, W.alloc (.cells zeroPro 65) = w1 := ⟨_, rfl⟩
  have hb1 : Below N W w1 := by rw [← hw1, ← hN]; exact (Below.refl _ W).alloc (Nat.le_refl _) _
  have hl1 : LgAt w1 B2 bl b vr ve R br := hl.below (hN ▸ hb1)
  have k1 : Blk w1 N 65 zeroPro.toList := by rw [← hw1, ← hN]; exact Blk.new W _ _
  have ht1 : TabAt w1 := ht.below (hN ▸ hb1)
  have hi : i < R.length := (List.getElem?_eq_some_iff.1 hr).1
  have hblN : bl < N := hN ▸ hl.blk.lt
  have hx32 : 32 ≤ x.size := by
    have : ∀ (l : List Rec) (h : ByteArray) (y : ByteArray), y ∈ entF h l → 32 ≤ y.size := by
      intro l
      induction l with
      | nil => intro h y hy; simp [entF] at hy
      | cons r l ih =>
        intro h y hy
        rcases List.mem_cons.1 hy with rfl | hy
        · rw [entB_size]; omega
        · exact ih _ y hy
    exact this R zero32 x (List.mem_of_getElem? hx)
  obtain ⟨oa, cap, rfl⟩ := own_slice hl.ents
  obtain ⟨h1, h2, h3, h4⟩ := hl.ents_rd
  obtain ⟨oR, cR, rfl⟩ := own_slice hl.recs
  obtain ⟨g1, g2, g3, g4⟩ := own_rdr hl.recs
  obtain ⟨gb, go, rfl, glt, ra⟩ := g4.at i r hr
  obtain ⟨eb, eo, rfl, hre⟩ := h4.some (by rw [entR_len]; omega)
  obtain ⟨r0, r1, r2, r3, r4, r5⟩ := ra
  have hec : W.cell? ⟨eb, eo + i, none⟩ = some (.string x) := hre.2 i x hx
  have helt : eb < W.heap.size := hre.1
  have c1 := hl.blk.cell 1
  have c2 := hl.blk.cell 2
  simp only [List.getElem?_cons_zero, List.getElem?_cons_succ] at c1 c2
  rw [entR_len] at c2
  have HC : Hid (∀ W', Below N w1 W' → Calls Tryz.prog 68 #[.slice (some ⟨eb, eo, none⟩) R.length cap, .int .i64 (i : Int)] W' fun e w' => ∃ oa cap, e = .returned (.tuple #[.slice oa (proofL (entR R) i).length cap, .int .i64 0]) ∧ w'.ownsRow W'.heap.size 9 1 (.slice oa (proofL (entR R) i).length cap) (proofL (entR R) i).length ((proofL (entR R) i).map Value.string) ∧ Below W'.heap.size W' w') := fun W' hW => by
    have hb : Below W.heap.size W W' := hN ▸ hb1.trans hW
    exact proof_own (entR R) eb eo R.length cap i W' (entR_len R) (by rw [← entR_len R]; exact h2) h3 (by omega) hi (fun y hy => Nat.le_trans (entF_sz R zero32 y hy) (by decide)) (hre.kept hb) (ht.below hb)
  have up : ∀ (W' : World), Below N w1 W' → ∀ (p : Addr) (v : Value), p.block < W.heap.size → W.cell? p = some v → W'.cell? p = some v := fun W' hW p v hp hv => ((hb1.trans hW).cell (by rw [← hN]; exact hp)).trans hv
  have UP := Lib.hid up
  have C1 := Lib.hid c1
  have C2 := Lib.hid c2
  have HEC := Lib.hid hec
  have R0 := Lib.hid r0
  have R1 := Lib.hid r1
  have R2 := Lib.hid r2
  have R3 := Lib.hid r3
  have R4 := Lib.hid r4
  have R5 := Lib.hid r5
  have d2 := up _ (Below.refl _ _) _ _ hl.blk.lt c2
  have d1 := up _ (Below.refl _ _) _ _ hl.blk.lt c1
  have HL := Lib.hid hl1
  have HK := Lib.hid k1
  have HN := Lib.hid hN
  have HB1 := Lib.hid hb1
  have hi0 : (0 : Int) ≤ (i : Int) := by omega
  have hi1 : ¬ (i : Int) < 0 := by omega
  have hi2 : ¬ (i : Int) ≥ (R.length : Int) := by omega
  have hi3 : (i : Int) < (R.length : Int) := by omega
  have hnp : N < w1.heap.size := k1.lt
  have hx9 : (32 : Int) ≤ (x.size : Int) := by omega
  obtain ⟨S, hS⟩ : ∃ S, x.extract 0 32 = S := ⟨_, rfl⟩
  rw [hS]
  have HS := Lib.hid hS
  generalize proofL (entR R) i = P at HC ⊢
  have HM : Hid (LgAt w1 B2 bl b (.slice (some ⟨gb, go, none⟩) R.length cR) (.slice (some ⟨eb, eo, none⟩) (entR R).length cap) R br) := HL
  clear hb1 hl1 k1 ht1 ht hl hr hx hx32 h1 h2 h3 h4 g1 g2 g3 g4 r0 r1 r2 r3 r4 r5 c1 c2 up hre hec hS HL
  obtain ⟨m, hm⟩ : ∃ m, R.length = m := ⟨_, rfl⟩
  have HMM := Lib.hid hm
  rw [hm] at d1 d2 hi2 hi3 HC ⊢
  clear hm
  dsimp only [zeroPro, proA] at hw1 HK
  go_enter Tryz.func26, Tryz.ntmps26
  go_wp2_with fail
  refine (absent_no w1 B2 bl b _ _ R br HM.out).mono ?_
  rintro e w' ⟨rfl, rfl⟩
  go_wp2_with fail
  refine (HC.out _ (Below.refl _ _)).mono ?_
  rintro e w2 ⟨oa', cap', rfl, p3, p4⟩
  have hbw : Below N w1 w2 := p4.mono (by omega)
  have e1 := UP.out w2 hbw _ _ (by rw [HN.out]; exact hblN) C1.out
  have e2 := UP.out w2 hbw _ _ (by rw [HN.out]; exact hblN) C2.out
  rw [HMM.out] at e1 e2
  have e3 := UP.out w2 hbw _ _ helt HEC.out
  have e4 := UP.out w2 hbw _ _ glt R0.out
  have e5 := UP.out w2 hbw _ _ glt R1.out
  have e6 := UP.out w2 hbw _ _ glt R2.out
  have e7 := UP.out w2 hbw _ _ glt R3.out
  have e8 := UP.out w2 hbw _ _ glt R4.out
  have e9 := UP.out w2 hbw _ _ glt R5.out
  have hk2 := HK.out.kept (p4.block N hnp)
  have n1 : bl ≠ N := by omega
  have n2 : gb ≠ N := by have := HN.out; omega
  have n3 : N ≠ bl := by omega
  have n4 : N ≠ gb := by have := HN.out; omega
  have HK2 := Lib.hid hk2
  have f0 := hk2.cell 0
  have z0 := hk2.frozen 0
  have f1 := hk2.cell 1
  have z1 := hk2.frozen 1
  have f2 := hk2.cell 2
  have z2 := hk2.frozen 2
  have f3 := hk2.cell 3
  have z3 := hk2.frozen 3
  have f4 := hk2.cell 4
  have z4 := hk2.frozen 4
  have f5 := hk2.cell 5
  have z5 := hk2.frozen 5
  have f6 := hk2.cell 6
  have z6 := hk2.frozen 6
  have f7 := hk2.cell 7
  have z7 := hk2.frozen 7
  have f8 := hk2.cell 8
  have z8 := hk2.frozen 8
  have f9 := hk2.cell 9
  have z9 := hk2.frozen 9
  dsimp only [Array.toList, List.getElem?_cons_zero, List.getElem?_cons_succ] at f0 f1 f2 f3 f4 f5 f6 f7 f8 f9
  have P3 := Lib.hid p3
  have HB2 : Hid (Below N W w2) := HB1.out.trans hbw
  clear d1 d2 UP C1 C2 HEC R0 R1 R2 R3 R4 R5 HC HM HK hbw p3 p4 hk2 HB1
  go_wp2_with fail
  go_region_held3 (fun W => W.cell? ⟨bl, 1, none⟩ = some (.slice (some ⟨gb, go, none⟩) m cR) ∧ W.cell? ⟨gb, go + i * 6, none⟩ = some (.int .i64 r.ch) ∧ W.cell? ⟨gb, go + i * 6 + 1, none⟩ = some (.int .i64 r.rg) ∧ W.cell? ⟨gb, go + i * 6 + 2, none⟩ = some (.int .i64 r.fr) ∧ W.cell? ⟨gb, go + i * 6 + 3, none⟩ = some (.int .i64 r.fs) ∧ W.cell? ⟨gb, go + i * 6 + 4, none⟩ = some (.int .i64 r.it) ∧ W.cell? ⟨gb, go + i * 6 + 5, none⟩ = some (.int .i64 r.ix)) (first | go_keep | assumption | (show World.cell? (World.setCell _ _ _) _ = _; iterate 10 rw [World.cell?_setCell_other _ _ _ _ (by simp; omega)]; assumption)) (fail)
  all_goals
    go_wp2_with fail
    refine gen_world (fun W9 => Blk W9 N 65 [.int .i64 r.ch, .int .i64 r.rg, .int .i64 r.fr, .int .i64 r.fs, .int .i64 r.it, .int .i64 r.ix, .int .i64 (i : Int), .int .i64 (m : Int), .string (x.extract 0 32), .slice oa' P.length cap'] ∧ Below N w2 W9 ∧ Fr (fun k => k = N) w2 W9) ⟨?_, ?_, ?_⟩ ?_
    · repeat (first | (with_reducible exact HK2.out) | (with_reducible refine Blk.drew ?_) | (with_reducible refine blk10 ?_ _ _ _ _ _ _ _ _ _ _))
    · repeat (first | (with_reducible exact Below.refl _ _) | (with_reducible refine drew_up ?_) | (with_reducible refine below10 ?_ (Nat.le_refl _) _ _ _ _ _ _ _ _ _ _))
    · repeat (first | (with_reducible exact Fr.refl _ _) | (with_reducible refine Fr.drew ?_) | (with_reducible refine fr10 ?_ _ _ _ _ _ _ _ _ _ _))
    · rintro W9 ⟨hb9, he9, hr9⟩
      have g0 := hb9.cell 0
      have g1 := hb9.cell 1
      have g2 := hb9.cell 2
      have g3 := hb9.cell 3
      have g4 := hb9.cell 4
      have g5 := hb9.cell 5
      have g6 := hb9.cell 6
      have g7 := hb9.cell 7
      have g8 := hb9.cell 8
      have g9 := hb9.cell 9
      dsimp only [Array.toList, List.getElem?_cons_zero, List.getElem?_cons_succ] at g0 g1 g2 g3 g4 g5 g6 g7 g8 g9
      refine bodyPost_ret (v := .tuple #[.agg #[.int .i64 r.ch, .int .i64 r.rg, .int .i64 r.fr, .int .i64 r.fs, .int .i64 r.it, .int .i64 r.ix, .int .i64 (i : Int), .int .i64 (m : Int), .string (x.extract 0 32), .slice oa' P.length cap'], .int .i64 0]) (by simp [results, Tryz.results26, go_sem, g0, g1, g2, g3, g4, g5, g6, g7, g8, g9]) rfl ⟨oa', cap', by rw [← HS.out]; rfl, own_base (ownsRow_keptF P3.out (fun k e => hr9.block k (own_lt P3.out k e) (fun e9 => by have := own_ge P3.out k e; omega))) (by rw [HN.out]; omega), by rw [HN.out]; exact HB2.out.trans he9⟩
end Go.Proofs.YtfpcdlpfmlaakaaGreatDoor
