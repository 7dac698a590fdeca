/-
  The walk of asrun.Extend.
-/
import Derived.WalkKit
import Derived.LoopTactic
import Derived.WalkSpells
import Derived.WalkLawsBesides
import Derived.IntWalk
import Derived.Outline
import Derived.OwnWalk
import Derived.Lib.Hide
import Derived.Test.YtfpcdlpfmlaakaaGreatDoorAsMN
import Derived.Test.YtfpcdlpfmlaakaaGreatDoorPlA
import Derived.Test.YtfpcdlpfmlaakaaGreatDoorAsHq
set_option linter.unusedVariables false
set_option linter.unusedSimpArgs false
namespace Go.Proofs.YtfpcdlpfmlaakaaGreatDoor
open Go.RowKit Onair
/-- The numbers of a record are far from the ends of int. -/
structure RecS (r : Rec) : Prop where
  fr0 : -1000000000000 ≤ r.fr
  fr1 : r.fr ≤ 1000000000000
  fs0 : -1000000000000 ≤ r.fs
  fs1 : r.fs ≤ 1000000000000
  ix0 : -1000000000000 ≤ r.ix
  ix1 : r.ix ≤ 4611686018427387904
structure ExI (w : World) (N : Nat) (oa : Option Addr) (cap : Nat) (l : List Rec) (it ix vz : Int) (W : World) : Prop where
  own : W.ownsRow (N + 1) 62 6 (.slice oa l.length cap) l.length (rcells l)
  box : Blk W N 77 [.int .i64 it, .int .i64 ix, .int .i64 vz]
  bel : Below N w W
theorem blk7 {W : World} {g : Nat} {t : TypeId} (h : Blk W g t [.int .i64 0, .int .i64 0, .int .i64 0, .int .i64 0, .int .i64 0, .int .i64 0]) (x0 x1 x2 x3 x4 x5 x6 : Value) :
    Blk (((((((W.setCell ⟨g, 0, none⟩ x0).setCell ⟨g, 1, none⟩ x1).setCell ⟨g, 2, none⟩ x2).setCell ⟨g, 3, none⟩ x3).setCell ⟨g, 4, none⟩ x4).setCell ⟨g, 5, none⟩ x5).setCell ⟨g, 5, none⟩ x6) g t [x0, x1, x2, x3, x4, x6] := (blk6 h x0 x1 x2 x3 x4 x5).set 5 x6
theorem ExI.rdr {w : World} {N : Nat} {oa : Option Addr} {cap : Nat} {l : List Rec} {it ix vz : Int} {W : World} (h : ExI w N oa cap l it ix vz W) : RdR W oa l := (own_rdr h.own).2.2.2
theorem own_set {W : World} {B : Nat} {t : TypeId} {size : Nat} {g o n cap : Nat} {xs : List Value} (h : W.ownsRow B t size (.slice (some ⟨g, o, none⟩) n cap) n xs) (k : Nat) (u : Value) : (W.setCell ⟨g, k, none⟩ u).ownsRow B t size (.slice (some ⟨g, o, none⟩) n cap) n (xs.set k u) := by
  refine ⟨by rw [List.length_set]; exact h.1, ?_⟩
  rcases h.2 with ⟨e, _⟩ | ⟨g', cap', cur, e, q1, q2, q3, q4, q5, q6⟩
  · simp at e
  · simp at e
    obtain ⟨⟨rfl, rfl⟩, rfl⟩ := e
    refine .inr ⟨_, _, cur.setIfInBounds k u, rfl, q1, ?_, q3, q4, by simpa using q5, ?_⟩
    · simp [World.setCell, Array.getElem?_modify, q2]
    · rw [Array.toList_setIfInBounds, List.take_set, q6]
theorem add_at (g j : Nat) : ((⟨g, 0, none⟩ : Addr).add j) = ⟨g, j, none⟩ := by unfold Addr.add; split <;> simp_all
theorem own_frozen {W : World} {B : Nat} {t : TypeId} {size : Nat} {g o n cap : Nat} {xs : List Value} (h : W.ownsRow B t size (.slice (some ⟨g, o, none⟩) n cap) n xs) (k : Nat) : W.frozen? ⟨g, k, none⟩ = false := by
  rcases h.2 with ⟨e, _⟩ | ⟨g', cap', cur, e, q1, q2, _⟩
  · simp at e
  · simp at e
    obtain ⟨⟨rfl, rfl⟩, rfl⟩ := e
    simp [World.frozen?, q2]
theorem own_zero {W : World} {B : Nat} {t : TypeId} {size : Nat} {g o n cap : Nat} {xs : List Value} (h : W.ownsRow B t size (.slice (some ⟨g, o, none⟩) n cap) n xs) : o = 0 := by
  rcases h.2 with ⟨e, _⟩ | ⟨g', cap', cur, e, _⟩
  · simp at e
  · simp at e
    exact e.1.2
theorem rcells_more (l : List Rec) : ∀ (j : Nat) (r : Rec), l[j]? = some r → rcells (l.set j (moreR r)) = (rcells l).set (j * 6 + 3) (.int .i64 (r.fs + 1)) := by
  induction l with
  | nil => intro j r h; simp at h
  | cons x l ih =>
    intro j r h
    have e : ∀ (x : Rec) (l : List Rec), rcells (x :: l) = (recA x).toList ++ rcells l := fun _ _ => rfl
    cases j with
    | zero =>
      simp only [List.getElem?_cons_zero, Option.some.injEq] at h
      subst h
      rw [List.set_cons_zero, e, e, List.set_append_left _ _ (by show 0 * 6 + 3 < 6; omega)]
      rfl
    | succ j =>
      rw [List.set_cons_succ, e, e, List.set_append_right _ _ (by show 6 ≤ _; omega), ih j r h]
      rw [show (j + 1) * 6 + 3 - (recA x).toList.length = j * 6 + 3 from by show (j + 1) * 6 + 3 - 6 = _; omega]
def ExtP (w : World) (l : List Rec) (e : Ending) (w' : World) : Prop := CloP w.heap.size w l e w'
set_option maxHeartbeats 2000000 in
set_option maxRecDepth 100000 in
theorem extend_any (l : List Rec) (oa : Option Addr) (c : Nat) (ch rg fr it ix vz : Int) (w : World) (hn : l.length ≤ 100000) (hs : ∀ r ∈ l, RecS r) (hr : RdR w oa l) :
    Calls Tryz.prog 33 #[.slice oa l.length c, .int .i64 ch, .int .i64 rg, .int .i64 fr, .agg #[.int .i64 it, .int .i64 ix, .int .i64 vz]] w (ExtP w (extendL l ch rg fr it ix)) := by
  obtain ⟨N, hN⟩ : ∃ N, w.heap.size = N := ⟨_, rfl⟩
  obtain ⟨w1, hw1⟩ : ∃ w1, w.alloc (.cells #[.int .i64 it, .int .i64 ix, .int .i64 vz] 77) = w1 := ⟨_, rfl⟩
  have hb1 : Below N w w1 := by rw [← hw1, ← hN]; exact (Below.refl _ w).alloc (Nat.le_refl _) _
  have hz1 : w1.heap.size = N + 1 := by rw [← hw1, ← hN]; simp
  have k1 : Blk w1 N 77 [.int .i64 it, .int .i64 ix, .int .i64 vz] := by rw [← hw1, ← hN]; exact Blk.new w _ _
  have HC := Lib.hid (clone_any l oa l.length c w1 rfl (by omega) (hr.kept (hN ▸ hb1)))
  have HK := Lib.hid k1
  have HB1 := Lib.hid hb1
  have HZ := Lib.hid hz1
  have HN := Lib.hid hN
  have HS := Lib.hid hs
  obtain ⟨n, hln⟩ : ∃ n, l.length = n := ⟨_, rfl⟩
  have HLN := Lib.hid hln
  rw [hln] at HC hn ⊢
  have hs1 : IntKind.i64.wrap ((n : Int) - 1) = (n : Int) - 1 := IntWalk.i64_in _ (by omega)
  clear hb1 hz1 k1 hr hs hln
  go_enter Tryz.func33, Tryz.ntmps33
  go_wp2_with fail
  refine HC.out.mono ?_
  rintro e w2 ⟨oa', cap', rfl, ho2, hb2⟩
  rw [HZ.out] at ho2 hb2
  have hE0 : Hid (ExI w N oa' cap' l it ix vz w2) := ⟨ho2, HK.out.kept (hb2.block N (by omega)), HB1.out.trans (hb2.mono (by omega))⟩
  rw [HLN.out]
  clear ho2 hb2 HC HK
  go_wp2_with fail
  go_loopw [12] (fun x wr => ∃ k : Nat, k ≤ n ∧ x = .int .i64 ((k : Int) - 1) ∧ Hid (lastAt l ch rg l.length = lastAt l ch rg k) ∧ Hid (ExI w N oa' cap' l it ix vz wr)) (fun x _ => (intOf x + 1).toNat)
  case atStart => exact ⟨n, Nat.le_refl _, rfl, congrArg (lastAt l ch rg) HLN.out, hE0⟩
  case round =>
    obtain ⟨k, hk, rfl, HLA, HE⟩ := hrel
    obtain ⟨i0, hi, hz0, hz1, hz2⟩ := info_parts Tryz.infoRec
    have hN1 : N < wr.heap.size := HE.out.box.lt
    have hN2 : ¬ N = wr.heap.size := by omega
    have hN3 : ¬ wr.heap.size = N := by omega
    cases k with
    | zero =>
      have q1 : ¬ (((0 : Nat) : Int) - 1 ≥ 0) := by omega
      have q2 : (0 : Int) - 1 = -1 := by omega
      have hbox := HE.out.box.cell 0
      have hbox1 := HE.out.box.cell 1
      simp only [List.getElem?_cons_zero, List.getElem?_cons_succ] at hbox hbox1
      have HXT : Hid (extendL l ch rg fr it ix = l ++ [newR ch rg fr it ix]) := by
        show extendL l ch rg fr it ix = l ++ [newR ch rg fr it ix]
        unfold extendL
        rw [HLA.out]
        rfl
      by_cases h0 : it = 0
      · subst h0
        go_upto_region 13 with (fail)
        refine gen_world (fun W9 => Blk W9 wr.heap.size 62 [.int .i64 ch, .int .i64 rg, .int .i64 fr, .int .i64 1, .int .i64 0, .int .i64 0] ∧ Fr (fun k => k = wr.heap.size) wr W9) ⟨?_, ?_⟩ ?_
        · repeat (first | (with_reducible exact Blk.new _ _ _) | (with_reducible refine Blk.drew ?_) | (with_reducible refine blk6 ?_ _ _ _ _ _ _))
        · repeat (first | (with_reducible exact Fr.refl _ _) | (with_reducible refine Fr.drew ?_) | (with_reducible refine fr1 ?_ _ rfl) | (with_reducible refine Fr.alloc ?_ _))
        · rintro W9 ⟨hb9, hf9⟩
          have own9 := ownsRow_keptF HE.out.own (fun k e => hf9.block k (own_lt HE.out.own k e) (fun e9 => by have := own_lt HE.out.own k e; omega))
          have hl9 : (rcells l).length = n * 6 := by rw [rcells_len, HLN.out]
          rw [HLN.out] at own9
          have hb9' := hb9
          have c0 := hb9.cell 0
          have c1 := hb9.cell 1
          have c2 := hb9.cell 2
          have c3 := hb9.cell 3
          have c4 := hb9.cell 4
          have c5 := hb9.cell 5
          simp only [List.getElem?_cons_zero, List.getElem?_cons_succ] at c0 c1 c2 c3 c4 c5
          have hz9 := hf9.size
          have hB9 : Below N w W9 := HE.out.bel.trans (hf9.below N (by omega) (fun k e => by omega))
          have HB9 := Lib.hid hB9
          have HF9 := Lib.hid hf9
          clear hB9 hf9 hb9 hb9'
          go_wp2_with (at_builtin; refine wpList_append_own _ rfl _ _ 38 rfl (N + 1) 62 i0 (.agg #[.int .i64 0, .int .i64 0, .int .i64 0, .int .i64 0, .int .i64 0, .int .i64 0]) 6 48 Tryz.underlying38 hi hz0 hz1 hz2 rfl (by decide) _ _ _ rfl (own9.alloc _) ⟨W9.heap.size, 0, none⟩ 1 1 [.int .i64 ch, .int .i64 rg, .int .i64 fr, .int .i64 1, .int .i64 0, .int .i64 0] rfl ?qa1 ?qa2 ?qa3 ?qa4 ?qa5 ?qa6 ?_)
          all_goals first | (unfold maxLen; omega) | omega | (refine ⟨rfl, rfl, rfl, rfl, ?_⟩; rfl) | (refine ⟨rfl, rfl, rfl, rfl, rfl, ?_⟩; rfl) | rfl | (intro j u hj; rw [add_at, (Blk.new W9 62 [.int .i64 ch, .int .i64 rg, .int .i64 fr, .int .i64 1, .int .i64 0, .int .i64 0]).cell]; exact hj) | (rw [World.size_alloc]; omega) | (intro u hu; simp only [List.mem_cons, List.not_mem_nil, or_false] at hu; rcases hu with rfl | rfl | rfl | rfl | rfl | rfl <;> rfl) | skip
          rintro v' w3 hown3 hgrow3 hnil3
          have HO3 := Lib.hid hown3
          have hB3 : Below N w w3 := (HB9.out.alloc (by have := HE.out.bel.size; omega) _).grown hgrow3 (by simp; omega) (fun k e => by have := own_ge own9 k e; omega)
          have HB3 := Lib.hid hB3
          clear hown3 hgrow3 hB3
          go_wp2_with fail
          go_ret
          obtain ⟨oa3, cap3, rfl⟩ := own_slice HO3.out
          have hx := HXT.out
          unfold newR at hx
          rw [if_pos rfl] at hx
          have hlen : (l ++ [(⟨ch, rg, fr, 1, 0, 0⟩ : Rec)]).length = n + 1 := by rw [List.length_append, HLN.out]; rfl
          rw [hx]
          refine ⟨oa3, cap3, ?_, ?_, ?_⟩
          · rw [hlen]
            rfl
          · rw [hlen, ← rcells_snoc]
            exact own_base HO3.out (by rw [HN.out]; omega)
          · rw [HN.out]
            exact HB3.out
      · have h1 : (it != 0) = true := by rw [bne_iff_ne]; exact h0
        go_upto_region 13 with (fail)
        refine gen_world (fun W9 => Blk W9 wr.heap.size 62 [.int .i64 ch, .int .i64 rg, .int .i64 fr, .int .i64 1, .int .i64 it, .int .i64 ix] ∧ Fr (fun k => k = wr.heap.size) wr W9) ⟨?_, ?_⟩ ?_
        · repeat (first | (with_reducible exact Blk.new _ _ _) | (with_reducible refine Blk.drew ?_) | (with_reducible refine blk7 ?_ _ _ _ _ _ _ _))
        · repeat (first | (with_reducible exact Fr.refl _ _) | (with_reducible refine Fr.drew ?_) | (with_reducible refine fr1 ?_ _ rfl) | (with_reducible refine Fr.alloc ?_ _))
        · rintro W9 ⟨hb9, hf9⟩
          have own9 := ownsRow_keptF HE.out.own (fun k e => hf9.block k (own_lt HE.out.own k e) (fun e9 => by have := own_lt HE.out.own k e; omega))
          have hl9 : (rcells l).length = n * 6 := by rw [rcells_len, HLN.out]
          rw [HLN.out] at own9
          have hb9' := hb9
          have c0 := hb9.cell 0
          have c1 := hb9.cell 1
          have c2 := hb9.cell 2
          have c3 := hb9.cell 3
          have c4 := hb9.cell 4
          have c5 := hb9.cell 5
          simp only [List.getElem?_cons_zero, List.getElem?_cons_succ] at c0 c1 c2 c3 c4 c5
          have hz9 := hf9.size
          have hB9 : Below N w W9 := HE.out.bel.trans (hf9.below N (by omega) (fun k e => by omega))
          have HB9 := Lib.hid hB9
          have HF9 := Lib.hid hf9
          clear hB9 hf9 hb9 hb9'
          go_wp2_with (at_builtin; refine wpList_append_own _ rfl _ _ 38 rfl (N + 1) 62 i0 (.agg #[.int .i64 0, .int .i64 0, .int .i64 0, .int .i64 0, .int .i64 0, .int .i64 0]) 6 48 Tryz.underlying38 hi hz0 hz1 hz2 rfl (by decide) _ _ _ rfl (own9.alloc _) ⟨W9.heap.size, 0, none⟩ 1 1 [.int .i64 ch, .int .i64 rg, .int .i64 fr, .int .i64 1, .int .i64 it, .int .i64 ix] rfl ?qb1 ?qb2 ?qb3 ?qb4 ?qb5 ?qb6 ?_)
          all_goals first | (unfold maxLen; omega) | omega | (refine ⟨rfl, rfl, rfl, rfl, ?_⟩; rfl) | (refine ⟨rfl, rfl, rfl, rfl, rfl, ?_⟩; rfl) | rfl | (intro j u hj; rw [add_at, (Blk.new W9 62 [.int .i64 ch, .int .i64 rg, .int .i64 fr, .int .i64 1, .int .i64 it, .int .i64 ix]).cell]; exact hj) | (rw [World.size_alloc]; omega) | (intro u hu; simp only [List.mem_cons, List.not_mem_nil, or_false] at hu; rcases hu with rfl | rfl | rfl | rfl | rfl | rfl <;> rfl) | skip
          rintro v' w3 hown3 hgrow3 hnil3
          have HO3 := Lib.hid hown3
          have hB3 : Below N w w3 := (HB9.out.alloc (by have := HE.out.bel.size; omega) _).grown hgrow3 (by simp; omega) (fun k e => by have := own_ge own9 k e; omega)
          have HB3 := Lib.hid hB3
          clear hown3 hgrow3 hB3
          go_wp2_with fail
          go_ret
          obtain ⟨oa3, cap3, rfl⟩ := own_slice HO3.out
          have hx := HXT.out
          unfold newR at hx
          rw [if_neg h0] at hx
          have hlen : (l ++ [(⟨ch, rg, fr, 1, it, ix⟩ : Rec)]).length = n + 1 := by rw [List.length_append, HLN.out]; rfl
          rw [hx]
          refine ⟨oa3, cap3, ?_, ?_, ?_⟩
          · rw [hlen]
            rfl
          · rw [hlen, ← rcells_snoc]
            exact own_base HO3.out (by rw [HN.out]; omega)
          · rw [HN.out]
            exact HB3.out
    | succ j =>
      have q1 : (((j + 1 : Nat)) : Int) - 1 = (j : Int) := by omega
      have q2 : (j : Int) ≥ 0 := by omega
      have q3 : (0 : Int) ≤ (j : Int) := q2
      have q4 : (j : Int) < (n : Int) := by omega
      rw [q1]
      have hjl : j < l.length := by rw [HLN.out]; omega
      obtain ⟨r, hrj⟩ : ∃ r, l[j]? = some r := ⟨_, List.getElem?_eq_getElem hjl⟩
      obtain ⟨gb, go, hoa, glt, ra⟩ := HE.out.rdr.at j r hrj
      subst hoa
      have hS := HS.out r (List.mem_of_getElem? hrj)
      have HD : Hid (l.getD j rec0 = r) := (show l.getD j rec0 = r from by rw [List.getD_eq_getElem?_getD, hrj]; rfl)
      have HRJ := Lib.hid hrj
      clear hrj
      obtain ⟨a0, a1, a2, a3, a4, a5⟩ := r
      obtain ⟨c0, c1, c2, c3, c4, c5⟩ := ra
      obtain ⟨s0, s1, s2, s3, s4, s5⟩ := hS
      dsimp only at c0 c1 c2 c3 c4 c5 s0 s1 s2 s3 s4 s5
      go_upto_region 6 with (fail)
      refine gen_world (fun W9 => Blk W9 wr.heap.size 62 [.int .i64 a0, .int .i64 a1, .int .i64 a2, .int .i64 a3, .int .i64 a4, .int .i64 a5] ∧ Fr (fun k => k = wr.heap.size) wr W9) ⟨?_, ?_⟩ ?_
      · repeat (first | (with_reducible exact Blk.new _ _ _) | (with_reducible refine Blk.drew ?_) | (with_reducible refine blk6 ?_ _ _ _ _ _ _))
      · repeat (first | (with_reducible exact Fr.refl _ _) | (with_reducible refine Fr.drew ?_) | (with_reducible refine fr1 ?_ _ rfl) | (with_reducible refine Fr.alloc ?_ _))
      · rintro wx ⟨hbx, hfx⟩
        have hEx : ExI w N (some ⟨gb, go, none⟩) cap' l it ix vz wx := ⟨ownsRow_keptF HE.out.own (fun k e => hfx.block k (own_lt HE.out.own k e) (fun e9 => by have := own_lt HE.out.own k e; omega)), HE.out.box.kept (hfx.block N hN1 (by omega)), HE.out.bel.trans (hfx.below N (by omega) (fun k e => by omega))⟩
        have HE2 := Lib.hid hEx
        have hg0 : go = 0 := own_zero hEx.own
        subst hg0
        have x0 := hbx.cell 0
        have x1 := hbx.cell 1
        have x2 := hbx.cell 2
        have x3 := hbx.cell 3
        have x4 := hbx.cell 4
        have x5 := hbx.cell 5
        have y0 := hEx.box.cell 0
        have y1 := hEx.box.cell 1
        simp only [List.getElem?_cons_zero, List.getElem?_cons_succ] at x0 x1 x2 x3 x4 x5 y0 y1
        have hgM : gb ≠ wr.heap.size := by omega
        have e3 := (hfx.cell ⟨gb, 0 + j * 6 + 3, none⟩ glt hgM).trans c3
        have hN1' : N < wx.heap.size := hEx.box.lt
        have hN2' : ¬ N = wx.heap.size := by omega
        have hN3' : ¬ wx.heap.size = N := by omega
        have hzx := hfx.size
        have w1 : IntKind.i64.wrap (a2 + a3) = a2 + a3 := IntWalk.i64_in _ (by omega)
        have w2 : IntKind.i64.wrap (a5 + a3) = a5 + a3 := IntWalk.i64_in _ (by omega)
        have w3 : IntKind.i64.wrap (a3 + 1) = a3 + 1 := IntWalk.i64_in _ (by omega)
        have w4 : IntKind.i64.wrap ((j : Int) - 1) = (j : Int) - 1 := IntWalk.i64_in _ (by omega)
        have HLS : Hid (lastAt l ch rg (j + 1) = if matR (l.getD j rec0) ch rg = true then some j else lastAt l ch rg j) := lastAt_succ l ch rg j
        clear c0 c1 c2 c3 c4 c5 hbx hfx hEx
        by_cases hch : a0 = ch
        · subst hch
          by_cases hrg : a1 = rg
          · subst hrg
            have HLB : Hid (lastAt l a0 a1 l.length = some j) := (show lastAt l a0 a1 l.length = some j from by
              rw [HLA.out, HLS.out, HD.out, if_pos ((mat_iff _ _ _).2 ⟨rfl, rfl⟩)])
            have HFI : Hid (fitsR ⟨a0, a1, a2, a3, a4, a5⟩ fr it ix = true ↔ (a2 + a3 = fr ∧ a4 = it ∧ (a4 = 0 ∨ a5 + a3 = ix))) := (show _ ↔ _ from by unfold fitsR; rw [decide_eq_true_iff])
            by_cases f1 : a2 + a3 = fr
            · have g1 : (a2 + a3 == fr) = true := beq_iff_eq.2 f1
              have F1 := Lib.hid f1
              clear f1
              by_cases f2 : a4 = it
              · have g2 : (a4 == it) = true := beq_iff_eq.2 f2
                have F2 := Lib.hid f2
                clear f2
                by_cases f3 : a4 = 0
                · have g3 : (a4 == 0) = true := beq_iff_eq.2 f3
                  have HF : Hid (fitsR (l.getD j rec0) fr it ix = true) := (show _ = _ from by rw [HD.out]; exact HFI.out.2 ⟨F1.out, F2.out, .inl f3⟩)
                  clear f3
                  have HXT : Hid (extendL l a0 a1 fr it ix = l.set j (moreR ⟨a0, a1, a2, a3, a4, a5⟩)) := (show _ = _ from by
                    unfold extendL
                    rw [HLB.out]
                    dsimp only
                    rw [if_pos HF.out, HD.out])
                  have f3 := own_frozen HE2.out.own (j * 6 + 3)
                  rw [Nat.zero_add] at e3
                  go_wp2_with fail
                  go_ret
                  rw [HXT.out]
                  have hln2 : (l.set j (moreR ⟨a0, a1, a2, a3, a4, a5⟩)).length = n := by rw [List.length_set, HLN.out]
                  refine ⟨some ⟨gb, 0, none⟩, cap', ?_, ?_, ?_⟩
                  · rw [hln2]
                    rfl
                  · rw [hln2, rcells_more l j _ HRJ.out]
                    have ho := own_set HE2.out.own (j * 6 + 3) (.int .i64 (a3 + 1))
                    rw [HLN.out] at ho
                    exact own_base ho (by rw [HN.out]; omega)
                  · rw [HN.out]
                    exact HE2.out.bel.setCell (p := ⟨gb, j * 6 + 3, none⟩) (by have := own_ge HE2.out.own gb rfl; show N ≤ gb; omega) _
                · have g3 : (a4 == 0) = false := beq_false_of_ne f3
                  have F3 := Lib.hid f3
                  clear f3
                  by_cases f4 : a5 + a3 = ix
                  · have g4 : (a5 + a3 == ix) = true := beq_iff_eq.2 f4
                    have HF : Hid (fitsR (l.getD j rec0) fr it ix = true) := (show _ = _ from by rw [HD.out]; exact HFI.out.2 ⟨F1.out, F2.out, .inr f4⟩)
                    clear f4
                    have HXT : Hid (extendL l a0 a1 fr it ix = l.set j (moreR ⟨a0, a1, a2, a3, a4, a5⟩)) := (show _ = _ from by
                      unfold extendL
                      rw [HLB.out]
                      dsimp only
                      rw [if_pos HF.out, HD.out])
                    have f3 := own_frozen HE2.out.own (j * 6 + 3)
                    rw [Nat.zero_add] at e3
                    go_wp2_with fail
                    go_ret
                    rw [HXT.out]
                    have hln2 : (l.set j (moreR ⟨a0, a1, a2, a3, a4, a5⟩)).length = n := by rw [List.length_set, HLN.out]
                    refine ⟨some ⟨gb, 0, none⟩, cap', ?_, ?_, ?_⟩
                    · rw [hln2]
                      rfl
                    · rw [hln2, rcells_more l j _ HRJ.out]
                      have ho := own_set HE2.out.own (j * 6 + 3) (.int .i64 (a3 + 1))
                      rw [HLN.out] at ho
                      exact own_base ho (by rw [HN.out]; omega)
                    · rw [HN.out]
                      exact HE2.out.bel.setCell (p := ⟨gb, j * 6 + 3, none⟩) (by have := own_ge HE2.out.own gb rfl; show N ≤ gb; omega) _
                  · have g4 : (a5 + a3 == ix) = false := beq_false_of_ne f4
                    have HF : Hid (¬ fitsR (l.getD j rec0) fr it ix = true) := (show ¬ _ from by rw [HD.out, HFI.out]; exact fun e => e.2.2.elim F3.out f4)
                    clear f4
                    have HXT : Hid (extendL l a0 a1 fr it ix = l ++ [newR a0 a1 fr it ix]) := (show _ = _ from by
                      unfold extendL
                      rw [HLB.out]
                      dsimp only
                      rw [if_neg HF.out])
                    by_cases h0 : it = 0
                    · subst h0
                      go_upto_region 13 with (fail)
                      refine gen_world (fun W9 => Blk W9 wx.heap.size 62 [.int .i64 a0, .int .i64 a1, .int .i64 fr, .int .i64 1, .int .i64 0, .int .i64 0] ∧ Fr (fun k => k = wx.heap.size) wx W9) ⟨?_, ?_⟩ ?_
                      · repeat (first | (with_reducible exact Blk.new _ _ _) | (with_reducible refine Blk.drew ?_) | (with_reducible refine blk6 ?_ _ _ _ _ _ _))
                      · repeat (first | (with_reducible exact Fr.refl _ _) | (with_reducible refine Fr.drew ?_) | (with_reducible refine fr1 ?_ _ rfl) | (with_reducible refine Fr.alloc ?_ _))
                      · rintro W9 ⟨hb9, hf9⟩
                        have own9 := ownsRow_keptF HE2.out.own (fun k e => hf9.block k (own_lt HE2.out.own k e) (fun e9 => by have := own_lt HE2.out.own k e; omega))
                        have hl9 : (rcells l).length = n * 6 := by rw [rcells_len, HLN.out]
                        rw [HLN.out] at own9
                        have hb9' := hb9
                        have c0 := hb9.cell 0
                        have c1 := hb9.cell 1
                        have c2 := hb9.cell 2
                        have c3 := hb9.cell 3
                        have c4 := hb9.cell 4
                        have c5 := hb9.cell 5
                        simp only [List.getElem?_cons_zero, List.getElem?_cons_succ] at c0 c1 c2 c3 c4 c5
                        have hz9 := hf9.size
                        have hB9 : Below N w W9 := HE2.out.bel.trans (hf9.below N (by omega) (fun k e => by omega))
                        have HB9 := Lib.hid hB9
                        have HF9 := Lib.hid hf9
                        clear hB9 hf9 hb9 hb9'
                        go_wp2_with (at_builtin; refine wpList_append_own _ rfl _ _ 38 rfl (N + 1) 62 i0 (.agg #[.int .i64 0, .int .i64 0, .int .i64 0, .int .i64 0, .int .i64 0, .int .i64 0]) 6 48 Tryz.underlying38 hi hz0 hz1 hz2 rfl (by decide) _ _ _ rfl (own9.alloc _) ⟨W9.heap.size, 0, none⟩ 1 1 [.int .i64 a0, .int .i64 a1, .int .i64 fr, .int .i64 1, .int .i64 0, .int .i64 0] rfl ?c3z1 ?c3z2 ?c3z3 ?c3z4 ?c3z5 ?c3z6 ?_)
                        all_goals first | (unfold maxLen; omega) | omega | (refine ⟨rfl, rfl, rfl, rfl, ?_⟩; rfl) | (refine ⟨rfl, rfl, rfl, rfl, rfl, ?_⟩; rfl) | rfl | (intro j u hj; rw [add_at, (Blk.new W9 62 [.int .i64 a0, .int .i64 a1, .int .i64 fr, .int .i64 1, .int .i64 0, .int .i64 0]).cell]; exact hj) | (rw [World.size_alloc]; omega) | (intro u hu; simp only [List.mem_cons, List.not_mem_nil, or_false] at hu; rcases hu with rfl | rfl | rfl | rfl | rfl | rfl <;> rfl) | skip
                        rintro v' w3 hown3 hgrow3 hnil3
                        have HO3 := Lib.hid hown3
                        have hB3 : Below N w w3 := (HB9.out.alloc (by have := HE2.out.bel.size; omega) _).grown hgrow3 (by simp; omega) (fun k e => by have := own_ge own9 k e; omega)
                        have HB3 := Lib.hid hB3
                        clear hown3 hgrow3 hB3
                        go_wp2_with fail
                        go_ret
                        obtain ⟨oa3, cap3, rfl⟩ := own_slice HO3.out
                        have hx := HXT.out
                        unfold newR at hx
                        rw [if_pos rfl] at hx
                        have hlen : (l ++ [(⟨a0, a1, fr, 1, 0, 0⟩ : Rec)]).length = n + 1 := by rw [List.length_append, HLN.out]; rfl
                        rw [hx]
                        refine ⟨oa3, cap3, ?_, ?_, ?_⟩
                        · rw [hlen]
                          rfl
                        · rw [hlen, ← rcells_snoc]
                          exact own_base HO3.out (by rw [HN.out]; omega)
                        · rw [HN.out]
                          exact HB3.out
                    · have h1 : (it != 0) = true := by rw [bne_iff_ne]; exact h0
                      go_upto_region 13 with (fail)
                      refine gen_world (fun W9 => Blk W9 wx.heap.size 62 [.int .i64 a0, .int .i64 a1, .int .i64 fr, .int .i64 1, .int .i64 it, .int .i64 ix] ∧ Fr (fun k => k = wx.heap.size) wx W9) ⟨?_, ?_⟩ ?_
                      · repeat (first | (with_reducible exact Blk.new _ _ _) | (with_reducible refine Blk.drew ?_) | (with_reducible refine blk7 ?_ _ _ _ _ _ _ _))
                      · repeat (first | (with_reducible exact Fr.refl _ _) | (with_reducible refine Fr.drew ?_) | (with_reducible refine fr1 ?_ _ rfl) | (with_reducible refine Fr.alloc ?_ _))
                      · rintro W9 ⟨hb9, hf9⟩
                        have own9 := ownsRow_keptF HE2.out.own (fun k e => hf9.block k (own_lt HE2.out.own k e) (fun e9 => by have := own_lt HE2.out.own k e; omega))
                        have hl9 : (rcells l).length = n * 6 := by rw [rcells_len, HLN.out]
                        rw [HLN.out] at own9
                        have hb9' := hb9
                        have c0 := hb9.cell 0
                        have c1 := hb9.cell 1
                        have c2 := hb9.cell 2
                        have c3 := hb9.cell 3
                        have c4 := hb9.cell 4
                        have c5 := hb9.cell 5
                        simp only [List.getElem?_cons_zero, List.getElem?_cons_succ] at c0 c1 c2 c3 c4 c5
                        have hz9 := hf9.size
                        have hB9 : Below N w W9 := HE2.out.bel.trans (hf9.below N (by omega) (fun k e => by omega))
                        have HB9 := Lib.hid hB9
                        have HF9 := Lib.hid hf9
                        clear hB9 hf9 hb9 hb9'
                        go_wp2_with (at_builtin; refine wpList_append_own _ rfl _ _ 38 rfl (N + 1) 62 i0 (.agg #[.int .i64 0, .int .i64 0, .int .i64 0, .int .i64 0, .int .i64 0, .int .i64 0]) 6 48 Tryz.underlying38 hi hz0 hz1 hz2 rfl (by decide) _ _ _ rfl (own9.alloc _) ⟨W9.heap.size, 0, none⟩ 1 1 [.int .i64 a0, .int .i64 a1, .int .i64 fr, .int .i64 1, .int .i64 it, .int .i64 ix] rfl ?c3n1 ?c3n2 ?c3n3 ?c3n4 ?c3n5 ?c3n6 ?_)
                        all_goals first | (unfold maxLen; omega) | omega | (refine ⟨rfl, rfl, rfl, rfl, ?_⟩; rfl) | (refine ⟨rfl, rfl, rfl, rfl, rfl, ?_⟩; rfl) | rfl | (intro j u hj; rw [add_at, (Blk.new W9 62 [.int .i64 a0, .int .i64 a1, .int .i64 fr, .int .i64 1, .int .i64 it, .int .i64 ix]).cell]; exact hj) | (rw [World.size_alloc]; omega) | (intro u hu; simp only [List.mem_cons, List.not_mem_nil, or_false] at hu; rcases hu with rfl | rfl | rfl | rfl | rfl | rfl <;> rfl) | skip
                        rintro v' w3 hown3 hgrow3 hnil3
                        have HO3 := Lib.hid hown3
                        have hB3 : Below N w w3 := (HB9.out.alloc (by have := HE2.out.bel.size; omega) _).grown hgrow3 (by simp; omega) (fun k e => by have := own_ge own9 k e; omega)
                        have HB3 := Lib.hid hB3
                        clear hown3 hgrow3 hB3
                        go_wp2_with fail
                        go_ret
                        obtain ⟨oa3, cap3, rfl⟩ := own_slice HO3.out
                        have hx := HXT.out
                        unfold newR at hx
                        rw [if_neg h0] at hx
                        have hlen : (l ++ [(⟨a0, a1, fr, 1, it, ix⟩ : Rec)]).length = n + 1 := by rw [List.length_append, HLN.out]; rfl
                        rw [hx]
                        refine ⟨oa3, cap3, ?_, ?_, ?_⟩
                        · rw [hlen]
                          rfl
                        · rw [hlen, ← rcells_snoc]
                          exact own_base HO3.out (by rw [HN.out]; omega)
                        · rw [HN.out]
                          exact HB3.out
              · have g2 : (a4 == it) = false := beq_false_of_ne f2
                have HF : Hid (¬ fitsR (l.getD j rec0) fr it ix = true) := (show ¬ _ from by rw [HD.out, HFI.out]; exact fun e => f2 e.2.1)
                clear f2
                have HXT : Hid (extendL l a0 a1 fr it ix = l ++ [newR a0 a1 fr it ix]) := (show _ = _ from by
                  unfold extendL
                  rw [HLB.out]
                  dsimp only
                  rw [if_neg HF.out])
                by_cases h0 : it = 0
                · subst h0
                  go_upto_region 13 with (fail)
                  refine gen_world (fun W9 => Blk W9 wx.heap.size 62 [.int .i64 a0, .int .i64 a1, .int .i64 fr, .int .i64 1, .int .i64 0, .int .i64 0] ∧ Fr (fun k => k = wx.heap.size) wx W9) ⟨?_, ?_⟩ ?_
                  · repeat (first | (with_reducible exact Blk.new _ _ _) | (with_reducible refine Blk.drew ?_) | (with_reducible refine blk6 ?_ _ _ _ _ _ _))
                  · repeat (first | (with_reducible exact Fr.refl _ _) | (with_reducible refine Fr.drew ?_) | (with_reducible refine fr1 ?_ _ rfl) | (with_reducible refine Fr.alloc ?_ _))
                  · rintro W9 ⟨hb9, hf9⟩
                    have own9 := ownsRow_keptF HE2.out.own (fun k e => hf9.block k (own_lt HE2.out.own k e) (fun e9 => by have := own_lt HE2.out.own k e; omega))
                    have hl9 : (rcells l).length = n * 6 := by rw [rcells_len, HLN.out]
                    rw [HLN.out] at own9
                    have hb9' := hb9
                    have c0 := hb9.cell 0
                    have c1 := hb9.cell 1
                    have c2 := hb9.cell 2
                    have c3 := hb9.cell 3
                    have c4 := hb9.cell 4
                    have c5 := hb9.cell 5
                    simp only [List.getElem?_cons_zero, List.getElem?_cons_succ] at c0 c1 c2 c3 c4 c5
                    have hz9 := hf9.size
                    have hB9 : Below N w W9 := HE2.out.bel.trans (hf9.below N (by omega) (fun k e => by omega))
                    have HB9 := Lib.hid hB9
                    have HF9 := Lib.hid hf9
                    clear hB9 hf9 hb9 hb9'
                    go_wp2_with (at_builtin; refine wpList_append_own _ rfl _ _ 38 rfl (N + 1) 62 i0 (.agg #[.int .i64 0, .int .i64 0, .int .i64 0, .int .i64 0, .int .i64 0, .int .i64 0]) 6 48 Tryz.underlying38 hi hz0 hz1 hz2 rfl (by decide) _ _ _ rfl (own9.alloc _) ⟨W9.heap.size, 0, none⟩ 1 1 [.int .i64 a0, .int .i64 a1, .int .i64 fr, .int .i64 1, .int .i64 0, .int .i64 0] rfl ?c2z1 ?c2z2 ?c2z3 ?c2z4 ?c2z5 ?c2z6 ?_)
                    all_goals first | (unfold maxLen; omega) | omega | (refine ⟨rfl, rfl, rfl, rfl, ?_⟩; rfl) | (refine ⟨rfl, rfl, rfl, rfl, rfl, ?_⟩; rfl) | rfl | (intro j u hj; rw [add_at, (Blk.new W9 62 [.int .i64 a0, .int .i64 a1, .int .i64 fr, .int .i64 1, .int .i64 0, .int .i64 0]).cell]; exact hj) | (rw [World.size_alloc]; omega) | (intro u hu; simp only [List.mem_cons, List.not_mem_nil, or_false] at hu; rcases hu with rfl | rfl | rfl | rfl | rfl | rfl <;> rfl) | skip
                    rintro v' w3 hown3 hgrow3 hnil3
                    have HO3 := Lib.hid hown3
                    have hB3 : Below N w w3 := (HB9.out.alloc (by have := HE2.out.bel.size; omega) _).grown hgrow3 (by simp; omega) (fun k e => by have := own_ge own9 k e; omega)
                    have HB3 := Lib.hid hB3
                    clear hown3 hgrow3 hB3
                    go_wp2_with fail
                    go_ret
                    obtain ⟨oa3, cap3, rfl⟩ := own_slice HO3.out
                    have hx := HXT.out
                    unfold newR at hx
                    rw [if_pos rfl] at hx
                    have hlen : (l ++ [(⟨a0, a1, fr, 1, 0, 0⟩ : Rec)]).length = n + 1 := by rw [List.length_append, HLN.out]; rfl
                    rw [hx]
                    refine ⟨oa3, cap3, ?_, ?_, ?_⟩
                    · rw [hlen]
                      rfl
                    · rw [hlen, ← rcells_snoc]
                      exact own_base HO3.out (by rw [HN.out]; omega)
                    · rw [HN.out]
                      exact HB3.out
                · have h1 : (it != 0) = true := by rw [bne_iff_ne]; exact h0
                  go_upto_region 13 with (fail)
                  refine gen_world (fun W9 => Blk W9 wx.heap.size 62 [.int .i64 a0, .int .i64 a1, .int .i64 fr, .int .i64 1, .int .i64 it, .int .i64 ix] ∧ Fr (fun k => k = wx.heap.size) wx W9) ⟨?_, ?_⟩ ?_
                  · repeat (first | (with_reducible exact Blk.new _ _ _) | (with_reducible refine Blk.drew ?_) | (with_reducible refine blk7 ?_ _ _ _ _ _ _ _))
                  · repeat (first | (with_reducible exact Fr.refl _ _) | (with_reducible refine Fr.drew ?_) | (with_reducible refine fr1 ?_ _ rfl) | (with_reducible refine Fr.alloc ?_ _))
                  · rintro W9 ⟨hb9, hf9⟩
                    have own9 := ownsRow_keptF HE2.out.own (fun k e => hf9.block k (own_lt HE2.out.own k e) (fun e9 => by have := own_lt HE2.out.own k e; omega))
                    have hl9 : (rcells l).length = n * 6 := by rw [rcells_len, HLN.out]
                    rw [HLN.out] at own9
                    have hb9' := hb9
                    have c0 := hb9.cell 0
                    have c1 := hb9.cell 1
                    have c2 := hb9.cell 2
                    have c3 := hb9.cell 3
                    have c4 := hb9.cell 4
                    have c5 := hb9.cell 5
                    simp only [List.getElem?_cons_zero, List.getElem?_cons_succ] at c0 c1 c2 c3 c4 c5
                    have hz9 := hf9.size
                    have hB9 : Below N w W9 := HE2.out.bel.trans (hf9.below N (by omega) (fun k e => by omega))
                    have HB9 := Lib.hid hB9
                    have HF9 := Lib.hid hf9
                    clear hB9 hf9 hb9 hb9'
                    go_wp2_with (at_builtin; refine wpList_append_own _ rfl _ _ 38 rfl (N + 1) 62 i0 (.agg #[.int .i64 0, .int .i64 0, .int .i64 0, .int .i64 0, .int .i64 0, .int .i64 0]) 6 48 Tryz.underlying38 hi hz0 hz1 hz2 rfl (by decide) _ _ _ rfl (own9.alloc _) ⟨W9.heap.size, 0, none⟩ 1 1 [.int .i64 a0, .int .i64 a1, .int .i64 fr, .int .i64 1, .int .i64 it, .int .i64 ix] rfl ?c2n1 ?c2n2 ?c2n3 ?c2n4 ?c2n5 ?c2n6 ?_)
                    all_goals first | (unfold maxLen; omega) | omega | (refine ⟨rfl, rfl, rfl, rfl, ?_⟩; rfl) | (refine ⟨rfl, rfl, rfl, rfl, rfl, ?_⟩; rfl) | rfl | (intro j u hj; rw [add_at, (Blk.new W9 62 [.int .i64 a0, .int .i64 a1, .int .i64 fr, .int .i64 1, .int .i64 it, .int .i64 ix]).cell]; exact hj) | (rw [World.size_alloc]; omega) | (intro u hu; simp only [List.mem_cons, List.not_mem_nil, or_false] at hu; rcases hu with rfl | rfl | rfl | rfl | rfl | rfl <;> rfl) | skip
                    rintro v' w3 hown3 hgrow3 hnil3
                    have HO3 := Lib.hid hown3
                    have hB3 : Below N w w3 := (HB9.out.alloc (by have := HE2.out.bel.size; omega) _).grown hgrow3 (by simp; omega) (fun k e => by have := own_ge own9 k e; omega)
                    have HB3 := Lib.hid hB3
                    clear hown3 hgrow3 hB3
                    go_wp2_with fail
                    go_ret
                    obtain ⟨oa3, cap3, rfl⟩ := own_slice HO3.out
                    have hx := HXT.out
                    unfold newR at hx
                    rw [if_neg h0] at hx
                    have hlen : (l ++ [(⟨a0, a1, fr, 1, it, ix⟩ : Rec)]).length = n + 1 := by rw [List.length_append, HLN.out]; rfl
                    rw [hx]
                    refine ⟨oa3, cap3, ?_, ?_, ?_⟩
                    · rw [hlen]
                      rfl
                    · rw [hlen, ← rcells_snoc]
                      exact own_base HO3.out (by rw [HN.out]; omega)
                    · rw [HN.out]
                      exact HB3.out
            · have HF : Hid (¬ fitsR (l.getD j rec0) fr it ix = true) := (show ¬ _ from by rw [HD.out, HFI.out]; exact fun e => f1 e.1)
              have f5 : (a2 + a3 == fr) = false := beq_false_of_ne f1
              clear f1
              have HXT : Hid (extendL l a0 a1 fr it ix = l ++ [newR a0 a1 fr it ix]) := (show _ = _ from by
                unfold extendL
                rw [HLB.out]
                dsimp only
                rw [if_neg HF.out])
              by_cases h0 : it = 0
              · subst h0
                go_upto_region 13 with (fail)
                refine gen_world (fun W9 => Blk W9 wx.heap.size 62 [.int .i64 a0, .int .i64 a1, .int .i64 fr, .int .i64 1, .int .i64 0, .int .i64 0] ∧ Fr (fun k => k = wx.heap.size) wx W9) ⟨?_, ?_⟩ ?_
                · repeat (first | (with_reducible exact Blk.new _ _ _) | (with_reducible refine Blk.drew ?_) | (with_reducible refine blk6 ?_ _ _ _ _ _ _))
                · repeat (first | (with_reducible exact Fr.refl _ _) | (with_reducible refine Fr.drew ?_) | (with_reducible refine fr1 ?_ _ rfl) | (with_reducible refine Fr.alloc ?_ _))
                · rintro W9 ⟨hb9, hf9⟩
                  have own9 := ownsRow_keptF HE2.out.own (fun k e => hf9.block k (own_lt HE2.out.own k e) (fun e9 => by have := own_lt HE2.out.own k e; omega))
                  have hl9 : (rcells l).length = n * 6 := by rw [rcells_len, HLN.out]
                  rw [HLN.out] at own9
                  have hb9' := hb9
                  have c0 := hb9.cell 0
                  have c1 := hb9.cell 1
                  have c2 := hb9.cell 2
                  have c3 := hb9.cell 3
                  have c4 := hb9.cell 4
                  have c5 := hb9.cell 5
                  simp only [List.getElem?_cons_zero, List.getElem?_cons_succ] at c0 c1 c2 c3 c4 c5
                  have hz9 := hf9.size
                  have hB9 : Below N w W9 := HE2.out.bel.trans (hf9.below N (by omega) (fun k e => by omega))
                  have HB9 := Lib.hid hB9
                  have HF9 := Lib.hid hf9
                  clear hB9 hf9 hb9 hb9'
                  go_wp2_with (at_builtin; refine wpList_append_own _ rfl _ _ 38 rfl (N + 1) 62 i0 (.agg #[.int .i64 0, .int .i64 0, .int .i64 0, .int .i64 0, .int .i64 0, .int .i64 0]) 6 48 Tryz.underlying38 hi hz0 hz1 hz2 rfl (by decide) _ _ _ rfl (own9.alloc _) ⟨W9.heap.size, 0, none⟩ 1 1 [.int .i64 a0, .int .i64 a1, .int .i64 fr, .int .i64 1, .int .i64 0, .int .i64 0] rfl ?c1z1 ?c1z2 ?c1z3 ?c1z4 ?c1z5 ?c1z6 ?_)
                  all_goals first | (unfold maxLen; omega) | omega | (refine ⟨rfl, rfl, rfl, rfl, ?_⟩; rfl) | (refine ⟨rfl, rfl, rfl, rfl, rfl, ?_⟩; rfl) | rfl | (intro j u hj; rw [add_at, (Blk.new W9 62 [.int .i64 a0, .int .i64 a1, .int .i64 fr, .int .i64 1, .int .i64 0, .int .i64 0]).cell]; exact hj) | (rw [World.size_alloc]; omega) | (intro u hu; simp only [List.mem_cons, List.not_mem_nil, or_false] at hu; rcases hu with rfl | rfl | rfl | rfl | rfl | rfl <;> rfl) | skip
                  rintro v' w3 hown3 hgrow3 hnil3
                  have HO3 := Lib.hid hown3
                  have hB3 : Below N w w3 := (HB9.out.alloc (by have := HE2.out.bel.size; omega) _).grown hgrow3 (by simp; omega) (fun k e => by have := own_ge own9 k e; omega)
                  have HB3 := Lib.hid hB3
                  clear hown3 hgrow3 hB3
                  go_wp2_with fail
                  go_ret
                  obtain ⟨oa3, cap3, rfl⟩ := own_slice HO3.out
                  have hx := HXT.out
                  unfold newR at hx
                  rw [if_pos rfl] at hx
                  have hlen : (l ++ [(⟨a0, a1, fr, 1, 0, 0⟩ : Rec)]).length = n + 1 := by rw [List.length_append, HLN.out]; rfl
                  rw [hx]
                  refine ⟨oa3, cap3, ?_, ?_, ?_⟩
                  · rw [hlen]
                    rfl
                  · rw [hlen, ← rcells_snoc]
                    exact own_base HO3.out (by rw [HN.out]; omega)
                  · rw [HN.out]
                    exact HB3.out
              · have h1 : (it != 0) = true := by rw [bne_iff_ne]; exact h0
                go_upto_region 13 with (fail)
                refine gen_world (fun W9 => Blk W9 wx.heap.size 62 [.int .i64 a0, .int .i64 a1, .int .i64 fr, .int .i64 1, .int .i64 it, .int .i64 ix] ∧ Fr (fun k => k = wx.heap.size) wx W9) ⟨?_, ?_⟩ ?_
                · repeat (first | (with_reducible exact Blk.new _ _ _) | (with_reducible refine Blk.drew ?_) | (with_reducible refine blk7 ?_ _ _ _ _ _ _ _))
                · repeat (first | (with_reducible exact Fr.refl _ _) | (with_reducible refine Fr.drew ?_) | (with_reducible refine fr1 ?_ _ rfl) | (with_reducible refine Fr.alloc ?_ _))
                · rintro W9 ⟨hb9, hf9⟩
                  have own9 := ownsRow_keptF HE2.out.own (fun k e => hf9.block k (own_lt HE2.out.own k e) (fun e9 => by have := own_lt HE2.out.own k e; omega))
                  have hl9 : (rcells l).length = n * 6 := by rw [rcells_len, HLN.out]
                  rw [HLN.out] at own9
                  have hb9' := hb9
                  have c0 := hb9.cell 0
                  have c1 := hb9.cell 1
                  have c2 := hb9.cell 2
                  have c3 := hb9.cell 3
                  have c4 := hb9.cell 4
                  have c5 := hb9.cell 5
                  simp only [List.getElem?_cons_zero, List.getElem?_cons_succ] at c0 c1 c2 c3 c4 c5
                  have hz9 := hf9.size
                  have hB9 : Below N w W9 := HE2.out.bel.trans (hf9.below N (by omega) (fun k e => by omega))
                  have HB9 := Lib.hid hB9
                  have HF9 := Lib.hid hf9
                  clear hB9 hf9 hb9 hb9'
                  go_wp2_with (at_builtin; refine wpList_append_own _ rfl _ _ 38 rfl (N + 1) 62 i0 (.agg #[.int .i64 0, .int .i64 0, .int .i64 0, .int .i64 0, .int .i64 0, .int .i64 0]) 6 48 Tryz.underlying38 hi hz0 hz1 hz2 rfl (by decide) _ _ _ rfl (own9.alloc _) ⟨W9.heap.size, 0, none⟩ 1 1 [.int .i64 a0, .int .i64 a1, .int .i64 fr, .int .i64 1, .int .i64 it, .int .i64 ix] rfl ?c1n1 ?c1n2 ?c1n3 ?c1n4 ?c1n5 ?c1n6 ?_)
                  all_goals first | (unfold maxLen; omega) | omega | (refine ⟨rfl, rfl, rfl, rfl, ?_⟩; rfl) | (refine ⟨rfl, rfl, rfl, rfl, rfl, ?_⟩; rfl) | rfl | (intro j u hj; rw [add_at, (Blk.new W9 62 [.int .i64 a0, .int .i64 a1, .int .i64 fr, .int .i64 1, .int .i64 it, .int .i64 ix]).cell]; exact hj) | (rw [World.size_alloc]; omega) | (intro u hu; simp only [List.mem_cons, List.not_mem_nil, or_false] at hu; rcases hu with rfl | rfl | rfl | rfl | rfl | rfl <;> rfl) | skip
                  rintro v' w3 hown3 hgrow3 hnil3
                  have HO3 := Lib.hid hown3
                  have hB3 : Below N w w3 := (HB9.out.alloc (by have := HE2.out.bel.size; omega) _).grown hgrow3 (by simp; omega) (fun k e => by have := own_ge own9 k e; omega)
                  have HB3 := Lib.hid hB3
                  clear hown3 hgrow3 hB3
                  go_wp2_with fail
                  go_ret
                  obtain ⟨oa3, cap3, rfl⟩ := own_slice HO3.out
                  have hx := HXT.out
                  unfold newR at hx
                  rw [if_neg h0] at hx
                  have hlen : (l ++ [(⟨a0, a1, fr, 1, it, ix⟩ : Rec)]).length = n + 1 := by rw [List.length_append, HLN.out]; rfl
                  rw [hx]
                  refine ⟨oa3, cap3, ?_, ?_, ?_⟩
                  · rw [hlen]
                    rfl
                  · rw [hlen, ← rcells_snoc]
                    exact own_base HO3.out (by rw [HN.out]; omega)
                  · rw [HN.out]
                    exact HB3.out
          · have hb1 : (a1 != rg) = true := by rw [bne_iff_ne]; exact hrg
            have HLA2 : Hid (lastAt l a0 rg l.length = lastAt l a0 rg j) := (show lastAt l a0 rg l.length = lastAt l a0 rg j from by
              rw [HLA.out, HLS.out, HD.out, if_neg (fun e => hrg ((mat_iff _ _ _).1 e).2)])
            go_wp2_with fail
            go_roundw
            case rel => exact ⟨j, by omega, by go_num, HLA2, HE2⟩
            case measure => simp [intOf] <;> omega
        · have hb1 : (a0 != ch) = true := by rw [bne_iff_ne]; exact hch
          have HLA2 : Hid (lastAt l ch rg l.length = lastAt l ch rg j) := (show lastAt l ch rg l.length = lastAt l ch rg j from by
            rw [HLA.out, HLS.out, HD.out, if_neg (fun e => hch ((mat_iff _ _ _).1 e).1)])
          go_wp2_with fail
          go_roundw
          case rel => exact ⟨j, by omega, by go_num, HLA2, HE2⟩
          case measure => simp [intOf] <;> omega
end Go.Proofs.YtfpcdlpfmlaakaaGreatDoor
