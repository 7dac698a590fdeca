/- Orders of every kind: a receiver's Orders: a copy of its own. -/
import Derived.Test.YtjkiidhnmljmbaaGreatDoorGsAB
import Derived.Test.YtjkiidhnmljmbaaGreatDoorOrRp
set_option linter.unusedVariables false
set_option linter.unusedSimpArgs false
set_option maxRecDepth 100000
set_option maxHeartbeats 8000000
namespace Go.Proofs.YtjkiidhnmljmbaaGreatDoor
open Go.RowKit
theorem gCells_snoc (l : List GP) (q : GP) : gCells (l ++ [q]) = gCells l ++ q.o.l := by simp [gCells]
theorem gCells_len (l : List GP) : (gCells l).length = l.length * 26 := by
 induction l with
 | nil => rfl
 | cons p l ih =>
  have h : (gCells (p :: l)).length = p.o.l.length + (gCells l).length := by simp [gCells]
  rw [h, ih, GOd.len, List.length_cons]
  omega
theorem gCells_at : ∀ (l : List GP) (i : Nat) (q : GP) (j : Nat), l[i]? = some q → j < 26 → (gCells l)[i * 26 + j]? = q.o.l[j]?
 | [], _, _, _, h, _ => by simp at h
 | p :: l, 0, q, j, h, hj => by
  simp at h
  subst h
  have e : gCells (p :: l) = p.o.l ++ gCells l := by simp [gCells]
  rw [e, List.getElem?_append_left (by rw [GOd.len]; omega), Nat.zero_mul, Nat.zero_add]
 | p :: l, i + 1, q, j, h, hj => by
  have e : gCells (p :: l) = p.o.l ++ gCells l := by simp [gCells]
  rw [e, List.getElem?_append_right (by rw [GOd.len]; omega), GOd.len, show (i + 1) * 26 + j - 26 = i * 26 + j by omega]
  exact gCells_at l i q j (by simpa using h) hj
structure RdG (W : World) (oa : Option Addr) (l : List GP) : Prop where
 row : l = [] ∨ ∃ b o, oa = some ⟨b, o, none⟩ ∧ b < W.heap.size ∧ ∀ (j : Nat) v, (gCells l)[j]? = some v → W.cell? ⟨b, o + j, none⟩ = some v
 als : ∀ p ∈ l, p.al.length = p.o.an ∧ p.o.an ≤ 1000000 ∧ RdA W p.o.ao p.al
theorem RdG.kept {W W' : World} {oa : Option Addr} {l : List GP} (h : RdG W oa l) (hb : Below W.heap.size W W') : RdG W' oa l := by
 refine ⟨?_, fun p hp => ⟨(h.als p hp).1, (h.als p hp).2.1, (h.als p hp).2.2.kept hb⟩⟩
 rcases h.row with rfl | ⟨b, o, e, hlt, hc⟩
 ·exact .inl rfl
 ·exact .inr ⟨b, o, e, Nat.lt_of_lt_of_le hlt hb.size, fun j v hj => (hb.cell (p := ⟨b, o + j, none⟩) hlt).trans (hc j v hj)⟩
theorem RdG.at {W : World} {oa : Option Addr} {l : List GP} (h : RdG W oa l) (i : Nat) (q : GP) (hq : l[i]? = some q) : ∃ b o, oa = some ⟨b, o, none⟩ ∧ b < W.heap.size ∧ W.rangeAt b (o + i * 26) q.o.l := by
 rcases h.row with rfl | ⟨b, o, e, hlt, hc⟩
 ·simp at hq
 ·refine ⟨b, o, e, hlt, fun j v hj => ?_⟩
  have hjl : j < 26 := (List.getElem?_eq_some_iff.1 hj).1
  rw [Nat.add_assoc]
  exact hc (i * 26 + j) v ((gCells_at l i q j hq hjl).trans hj)
theorem rdg_of {W : World} {B : Nat} {oa : Option Addr} {n cap : Nat} {l : List GP} (h : W.ownsRow B 30 26 (.slice oa n cap) l.length (gCells l)) (ha : ∀ p ∈ l, p.al.length = p.o.an ∧ p.o.an ≤ 1000000 ∧ RdA W p.o.ao p.al) : RdG W oa l := by
 refine ⟨?_, ha⟩
 rcases h.2 with ⟨_, hz⟩ | ⟨g, cap', cur, h1, h2, h3, h4⟩
 ·exact .inl (List.eq_nil_of_length_eq_zero hz)
 ·simp only [Value.slice.injEq] at h1
  obtain ⟨rfl, rfl, rfl⟩ := h1
  refine .inr ⟨g, 0, rfl, (Array.getElem?_eq_some_iff.1 h3).1, fun j v hj => ?_⟩
  rw [Nat.zero_add, h.cellAt j (by have := (List.getElem?_eq_some_iff.1 hj).1; rw [gCells_len] at this; exact this)]
  exact hj
theorem RcG.rd {W : World} {B br m : Nat} {tn : Int} {oa : Option Addr} {n cap : Nat} {l : List GP} {E : List (Int × GP)} (h : RcG W B br tn (.slice oa n cap) l m E) : RdG W oa l :=
 rdg_of h.own (fun p hp => ⟨(h.alts p (.inl hp)).len, (h.alts p (.inl hp)).few, (h.alts p (.inl hp)).rd⟩)
def CopyG (W : World) (B br : Nat) (vo : Value) (p p' : GP) : Prop := p'.al = p.al ∧ (∃ oa ac, p'.o = p.o.withA oa ac) ∧ GAt W B br br vo p'
def CopyL (W : World) (B br : Nat) (vo : Value) (l l' : List GP) (i : Nat) : Prop := l'.length = i ∧ ∀ (j : Nat) p, j < i → l[j]? = some p → ∃ p', l'[j]? = some p' ∧ CopyG W B br vo p p'
theorem CopyL.turn {W W' : World} {B br : Nat} {vo vo' : Value} {l l' : List GP} {i : Nat} (h : CopyL W B br vo l l' i) {S : Nat → Prop} (hf : Fr S W W') (hS : ∀ c, S c → vo.ownBlock = some c) (hv : ∀ c, vo'.ownBlock = some c → vo.ownBlock = some c ∨ W.heap.size ≤ c) : CopyL W' B br vo' l l' i :=
 ⟨h.1, fun j p hj hp => by
  obtain ⟨p', h1, h2, h3, h4⟩ := h.2 j p hj hp
  exact ⟨p', h1, h2, h3, h4.turn hf (fun hn a e hs => (h4.own hn a e).2.2.2.2 (hS _ hs)) hv⟩⟩
theorem CopyL.snoc {W : World} {B br : Nat} {vo : Value} {l l' : List GP} {i : Nat} {p p' : GP} (h : CopyL W B br vo l l' i) (hp : l[i]? = some p) (hc : CopyG W B br vo p p') : CopyL W B br vo l (l' ++ [p']) (i + 1) := by
 obtain ⟨rfl, h2⟩ := h
 refine ⟨by simp, fun j q hj hq => ?_⟩
 by_cases e : j = l'.length
 ·subst e
  rw [hp] at hq
  cases hq
  exact ⟨p', by simp, hc⟩
 ·obtain ⟨q', h3, h4⟩ := h2 j q (by omega) hq
  exact ⟨q', by rw [List.getElem?_append_left (by omega)]; exact h3, h4⟩
def OrdersG (W : World) (br n : Nat) (l : List GP) (e : Ending) (w' : World) : Prop := ∃ ob cb l', e = .returned (.slice ob n cb) ∧ CopyL w' W.heap.size br (.slice ob n cb) l l' n ∧ w'.ownsRow W.heap.size 30 26 (.slice ob n cb) n (gCells l') ∧ Below W.heap.size W w'
theorem gOrders (W : World) (br n c : Nat) (v0 v3 : Value) (oa : Option Addr) (l : List GP) (hblk : Blk W br 115 [v0, .bool true, .slice oa n c, v3]) (hn : l.length = n) (hnm : n ≤ 1000) (hr : RdG W oa l) :
  Calls Tryz.prog 17 #[.pointer (some ⟨br, 0, none⟩)] W (OrdersG W br n l) := by
 have HR := Lib.hid hr;have HN := Lib.hid hn
 have HSZ := szO
 have HLV := Lib.hid (rlives_any br v0 (.slice oa n c) v3 W hblk)
 have HBK := Lib.hid hblk
 obtain ⟨i0, hi, hz0, hz1, hz2⟩ := info_parts Tryz.infoOrd
 have HI := Lib.hid hi;have HI0 := Lib.hid hz0;have HI1 := Lib.hid hz1;have HI2 := Lib.hid hz2
 have b2 := hblk.cell 2
 simp only [gz, gs] at b2
 clear hr hn hi hz0 hz1 hz2 hblk
 go_enter Tryz.func17, Tryz.ntmps17
 go_wp2_with fail
 refine HLV.out.mono ?_
 rintro e w' ⟨rfl, rfl⟩
 go_wp2_with (refine wpList_make_own _ rfl _ _ 50 rfl W.heap.size 30 i0 (.agg aZo) 26 Tryz.underlying50 HI.out HI0.out HI1.out .i64 .i64 n n rfl rfl rfl ?c1 ?c2 ?c3 ?_)
 case c1 => rw [HI2.out]; omega
 case c2 => unfold maxLen; omega
 case c3 => exact Nat.le_refl _
 intro w2 hown hgrow
 have hb2 : Below W.heap.size W w2 := (Below.refl _ W).grown hgrow (Nat.le_refl _) (fun k e => by cases e)
 have d2 := (HBK.out.kept (hb2.block br HBK.out.lt)).cell 2
 simp only [gz, gs] at d2
 have HO2 := Lib.hid hown;have HB2 := Lib.hid hb2;clear hown hgrow hb2 b2
 go_wp2_with fail
 clear d2
 go_loopw [3, 20] (fun vl vi wr => ∃ (i cb : Nat) (ob : Option Addr) (li : List GP), i ≤ n ∧ vi = .int .i64 i ∧ vl = .slice ob i cb ∧ Hid (CopyL wr W.heap.size br (.slice ob i cb) l li i) ∧ Hid (wr.ownsRow W.heap.size 30 26 (.slice ob i cb) i (gCells li)) ∧ Hid (Below W.heap.size W wr)) (fun _ v _ => n - (intOf v).toNat)
 case atStart => exact ⟨0, n, _, [], Nat.zero_le _, rfl, rfl, ⟨rfl, fun j p hj _ => absurd hj (Nat.not_lt_zero j)⟩, HO2, HB2⟩
 case round =>
  clear HO2 HB2
  obtain ⟨i, cb, ob, li, hin, rfl, rfl, HC, HO, HB⟩ := hrel
  by_cases h : i < n
  ·have q1 : (i : Int) < (n : Int) := by omega
   have q2 : (0 : Int) ≤ (i : Int) := by omega
   obtain ⟨q, hq⟩ : ∃ q, l[i]? = some q := ⟨l[i]'(by rw [HN.out]; exact h), List.getElem?_eq_getElem _⟩
   obtain ⟨b, o, rfl, hlt, hrg⟩ := (HR.out.kept HB.out).at i q hq
   obtain ⟨hq1, hq2, hq3⟩ := (HR.out.kept HB.out).als q (List.mem_of_getElem? hq)
   have HQ1 := Lib.hid hq1;have HQ2 := Lib.hid hq2;have HQ3 := Lib.hid hq3;have HQI := Lib.hid hq
   obtain ⟨o9, qal⟩ := q
   obtain ⟨M, hM⟩ : ∃ M, wr.heap.size = M := ⟨_, rfl⟩
   obtain ⟨w1, hw1⟩ : ∃ w1, wr.alloc (.cells aZo 30) = w1 := ⟨_, rfl⟩
   have hk1 : Blk w1 M 30 lZo := by rw [← hw1, ← hM]; exact Blk.new wr _ _
   obtain ⟨w3, hw3⟩ : ∃ w3, w1.setRow M o9.l.toArray = w3 := ⟨_, rfl⟩
   have hk3 : Blk w3 M 30 o9.l := by rw [← hw3]; exact hk1.setRow _
   have hb13 : Below M wr w3 := by
    rw [← hw3, ← hw1, ← hM]
    exact below_setRow ((Below.refl _ wr).alloc (Nat.le_refl _) _) (Nat.le_refl _) _
   have HO1 : Hid (o9.l.toArray.all (·.oneCell') = true) := o9.oneC
   have HOZ : Hid (aZo.size = o9.l.toArray.size) := rfl
   have HRG : Hid (wr.rangeAt b (o + i * 26) o9.l) := hrg
   have HK1 := Lib.hid hk1;have HW3 := Lib.hid hw3;have HR3 := Lib.hid hk3.range
   have hMW : W.heap.size ≤ M := by rw [← hM]; exact HB.out.size
   have HB3 : Hid (Below W.heap.size W w3) := HB.out.trans (hb13.mono hMW)
   have HO3 : Hid (w3.ownsRow W.heap.size 30 26 (.slice ob i cb) i (gCells li)) := ownsRow_keptF HO.out (fun k e => hb13.block k (by rw [← hM]; exact own_lt HO.out k e))
   have HC3 : Hid (CopyL w3 W.heap.size br (.slice ob i cb) l li i) := HC.out.turn (Fr.under (fun _ => False) (by rw [hM]; exact hb13)) (fun _ e => e.elim) (fun c e => .inl e)
   have HRA3 : Hid (RdA w3 o9.ao qal) := HQ3.out.kept (by rw [hM]; exact hb13)
   clear hq hq1 hq2 hq3 hlt hrg hk1 hk3 hw3 hb13 HO HB HC HQ3
   go_wp2_with (first | (refine wpList_load_mid rfl 30 (.tmp 22) rfl b (o + i * 26) rfl o9.l _ HRG.out Tryz.underlying30 rfl HSZ.out ?_) | (refine wpList_store_row rfl 30 (.tmp 5) (.tmp 23) rfl M o9.l.toArray rfl rfl 30 _ HK1.out HSZ.out HOZ.out HO1.out ?_; rw [HW3.out]) | (refine wpList_load_mid rfl 30 (.tmp 5) rfl M 0 rfl o9.l _ HR3.out Tryz.underlying30 rfl HSZ.out ?_))
   refine (gOwn o9 qal _ HQ1.out HQ2.out HRA3.out).mono ?_
   rintro e w4 ⟨oa9, ac9, rfl, hra9, hba9, hb4⟩
   have hc4 := HC3.out.turn (Fr.under (fun _ => False) hb4) (fun _ e => e.elim) (fun c e => .inl e)
   have ho4 := ownsRow_keptF HO3.out (fun k e => hb4.block k (own_lt HO3.out k e))
   have HB4 : Hid (Below W.heap.size W w4) := HB3.out.trans (hb4.mono HB3.out.size)
   obtain ⟨oc, cc, w5, hrun, ho5, hf5, hk5⟩ := app_ord w4 W.heap.size (.slice ob i cb) i (gCells li) [.int .i64 o9.s, .int .i64 o9.ch, .int .i64 o9.f, .int .i64 o9.k, .int .i64 o9.e, .int .i64 o9.n, .int .i64 o9.nid, .int .i64 o9.item, .int .i64 o9.frs, .int .i64 o9.ear, .int .i64 o9.lat, .int .i64 o9.book, .slice oa9 o9.an ac9, .int .i64 o9.cl.kind, .int .i64 o9.cl.item, .int .i64 o9.cl.frm, .int .i64 o9.cl.til, .int .i64 o9.cl.regs, .int .i64 o9.cl.n, .int .i64 o9.cl.a, .int .i64 o9.cl.b, .int .i64 o9.qid, .int .i64 o9.qf, .int .i64 o9.qt, .int .i64 o9.qp, .string o9.txt] ho4 (by omega) HB4.out.size 50 rfl (by simp [Value.oneCell'])
   have hb5 : Below W.heap.size W w5 := HB4.out.trans (hf5.below _ HB4.out.size (fun k e => own_ge ho4 k e))
   have hn4 : W.heap.size ≤ w4.heap.size := HB4.out.size
   have hgn : GAt w4 W.heap.size br br (.slice ob i cb) ⟨o9.withA oa9 ac9, qal⟩ := ⟨HQ1.out, HQ2.out, hra9, fun hn a e => by
    have h9 := hba9 a e
    have h8 := HB3.out.size
    refine ⟨by omega, ?_, by have := HBK.out.lt; omega, by have := HBK.out.lt; omega, fun e => by have := own_lt HO3.out _ e; omega⟩
    rcases hra9 with h3 | ⟨b, o, h6, h7, _⟩
    ·exact absurd h3 hn
    ·have e9 : oa9 = some a := e
     rw [h6] at e9
     cases e9
     exact h7⟩
   have hc5 := hc4.turn hf5 (fun c e => e) hk5
   have hg5 := hgn.turn hf5 (fun hn a e hs => (hgn.own hn a e).2.2.2.2 hs) hk5
   have HC5 := Lib.hid (hc5.snoc (p' := ⟨o9.withA oa9 ac9, qal⟩) HQI.out ⟨rfl, ⟨oa9, ac9, rfl⟩, hg5⟩)
   have HO5 : Hid (w5.ownsRow W.heap.size 30 26 (.slice oc (i + 1) cc) (i + 1) (gCells (li ++ [⟨o9.withA oa9 ac9, qal⟩]))) := by rw [gCells_snoc]; exact ho5
   have HB5 := Lib.hid hb5
   simp only [GOd.l, GOd.withA, ClD.l, List.cons_append, List.nil_append]
   clear ho4 ho5 hf5 hk5 hb4 hb5 hc4 hgn hc5 hg5 hn4 hra9 hba9
   go_wp2_with (at_builtin; refine wpList_append_run _ rfl _ _ 50 rfl _ _ _ _ rfl rfl hrun ?_)
   clear hrun
   go_wp2_with fail
   go_roundw
   case rel => exact ⟨i + 1, cc, oc, _, by omega, by go_num, rfl, HC5, HO5, HB5⟩
   case measure => simp [intOf]; omega
  ·have q1 : ¬ (i : Int) < (n : Int) := by omega
   have e : i = n := by omega
   subst e;clear h
   go_wp2_with fail
   go_ret;exact ⟨_, _, _, rfl, HC.out, HO.out, HB.out⟩
attribute [local go_sem] Oper.semAt_some
theorem gSRecv_no (W : World) (bs : Nat) (tn : Int) (ov : Option Addr) (n cv : Nat) (k : Int) (mo : MOd) (al : List (Int × Int)) (h : Blk W bs 118 [.int .i64 tn, .bool true, .slice ov n cv, .int .i64 k]) (hna : al.length = mo.o.an) (hlm : mo.o.an ≤ 1000000) (hr : RdA W mo.o.ao al) (hts : mo.o.txt.size ≤ maxLen) (htk : ((mo.kd == 2) && ((mo.tn == tn) && okM mo al)) = false) :
  Calls Tryz.prog 22 #[.pointer (some ⟨bs, 0, none⟩), .agg mo.l.toArray] W fun e w' => (∃ v, e = .returned v) ∧ Below W.heap.size W w' := by
 obtain ⟨N, w1, hN, hw1, hb1, hk1⟩ := bx W (aM mo) mo.l 32 rfl
 have hblk1 := h.kept (hb1.block bs (by rw [← hN]; exact h.lt))
 have hrd : RdA w1 mo.o.ao al := hr.kept (by rw [hN]; exact hb1)
 obtain ⟨P, hP⟩ : ∃ P, w1.heap.size = P := ⟨_, rfl⟩
 have up : ∀ W', Below P w1 W' → Blk W' bs 118 [.int .i64 tn, .bool true, .slice ov n cv, .int .i64 k] := fun W' hW => hblk1.kept (hW.block _ (by rw [← hP]; exact hblk1.lt))
 have HKP : Hid (∀ W, Below P w1 W → W.rangeAt N 0 mo.l ∧ W.cell? ⟨bs, 0, none⟩ = some (.int .i64 tn) ∧ W.cell? ⟨bs, 2, none⟩ = some (.slice ov n cv) ∧ W.cell? ⟨N, 2, none⟩ = some (.int .i64 mo.sq)) := fun W' hW => by
  have hb := up W' hW
  have hm := hk1.kept (hW.block N (by rw [← hP]; exact hk1.lt))
  exact ⟨hm.range, hb.cell 0, hb.cell 2, hm.cell 2⟩
 have HLV : Hid (∀ W', Below P w1 W' → _) := fun W' hW => slives_any bs _ _ _ W' (up W' hW)
 have HTK := Lib.hid (fun W' (hW : Below P w1 W') => by
  have := gTakes mo al tn 2 W' hna hlm (hrd.kept (by rw [hP]; exact hW)) hts
  rw [htk] at this
  exact this : ∀ W', Below P w1 W' → _)
 have HSZ := szM
 have HN := Lib.hid hN;have HP := Lib.hid hP;have HB1 := Lib.hid hb1
 have HNP : Hid (N ≤ P) := (by rw [← hP]; exact bnl9 hN hb1 : N ≤ P)
 have HQ : Hid (Below P w1 w1) := Below.refl _ _
 show Calls Tryz.prog 22 #[.pointer (some ⟨bs, 0, none⟩), .agg (aM mo)] W _
 clear hb1 hk1 hblk1 h up hrd hr htk
 go_enter Tryz.func22, Tryz.ntmps22
 go_upto_region 1 with (fail)
 refine wp_region_held_drew (S := fun W => W.rangeAt N 0 mo.l ∧ W.cell? ⟨bs, 0, none⟩ = some (.int .i64 tn) ∧ W.cell? ⟨bs, 2, none⟩ = some (.slice ov n cv) ∧ W.cell? ⟨N, 2, none⟩ = some (.int .i64 mo.sq)) (by kernel_rfl) ?_ (fun hHeld => ?_)
 ·exact HKP.out _ HQ.out.drew
 have HQ : Hid (Below P w1 _) := HQ.out.drew
 generalize World.drew _ = z0 at HQ hHeld ⊢
 refine tk 0 (some 5) ?_
 refine rd1 1 (some 6) (fun K hK => ?_)
 go_simp
 refine (HLV.out _ HQ.out).mono ?_
 rintro e w' ⟨rfl, rfl⟩;go_simp
 refine hK.out _ _ ?_ (fun hHeld2 => ?_)
 ·exact HKP.out _ HQ.out
 clear hK K hHeld;rename _ => hHeld;refine tk 2 (some 7) ?_;refine tk 3 (some 8) ?_;refine tk 4 (some 9) ?_;refine tk 5 (some 10) ?_;refine tk 6 (some 11) ?_;refine tk 7 (some 12) ?_
 refine tkL 8 (some 13) 32 (.tmp 3) N 0 mo.l (fun _ h => h.1) Tryz.underlying32 HSZ.out ?_
 refine rd1 9 (some 14) (fun K hK => ?_)
 go_simp
 refine (HTK.out _ HQ.out).mono ?_
 rintro e z1 ⟨rfl, hbz⟩
 have HQ : Hid (Below P w1 z1) := HQ.out.trans (hbz.mono (bnl9 HP.out HQ.out))
 clear hbz;go_simp
 refine hK.out _ _ ?_ (fun hHeld2 => ?_)
 ·exact HKP.out _ HQ.out
 clear hK K hHeld;rename _ => hHeld;refine tk 10 (some 15) ?_;refine tk 11 (some 16) ?_;refine tk 12 (some 17) ?_;refine tkU 13 (some 18) ?_;refine tkU 14 (some 19) ?_;refine tkU 15 (some 20) ?_;refine tkU 16 (some 21) ?_;refine tkU 17 (some 22) ?_;refine tkU 18 (some 23) ?_
 refine tkU 19 (some 24) ?_;refine tkU 20 (some 25) ?_;refine tk 21 (some 26) ?_;refine wpAnyH_done (by kernel_rfl) ?_ _;clear hHeld
 go_wp2_with fail
 try rw [Exit.noGoto_ret]
 first | (refine bodyPost_ret (results_none rfl _ _ _) rfl ?_) | (refine bodyPost_end (results_none rfl _ _ _) rfl ?_)
 exact ⟨⟨_, rfl⟩, by rw [HN.out]; exact HB1.out.trans (HQ.out.mono HNP.out)⟩
theorem gSRecv_far (W : World) (bs : Nat) (tn : Int) (ov : Option Addr) (n cv : Nat) (k : Int) (mo : MOd) (al : List (Int × Int)) (h : Blk W bs 118 [.int .i64 tn, .bool true, .slice ov n cv, .int .i64 k]) (hna : al.length = mo.o.an) (hlm : mo.o.an ≤ 1000000) (hr : RdA W mo.o.ao al) (hts : mo.o.txt.size ≤ maxLen) (htk : ((mo.kd == 2) && ((mo.tn == tn) && okM mo al)) = true) (hgt : mo.sq > (n : Int)) :
  Calls Tryz.prog 22 #[.pointer (some ⟨bs, 0, none⟩), .agg mo.l.toArray] W fun e w' => (∃ v, e = .returned v) ∧ Below W.heap.size W w' := by
 obtain ⟨N, w1, hN, hw1, hb1, hk1⟩ := bx W (aM mo) mo.l 32 rfl
 have hblk1 := h.kept (hb1.block bs (by rw [← hN]; exact h.lt))
 have hrd : RdA w1 mo.o.ao al := hr.kept (by rw [hN]; exact hb1)
 obtain ⟨P, hP⟩ : ∃ P, w1.heap.size = P := ⟨_, rfl⟩
 have up : ∀ W', Below P w1 W' → Blk W' bs 118 [.int .i64 tn, .bool true, .slice ov n cv, .int .i64 k] := fun W' hW => hblk1.kept (hW.block _ (by rw [← hP]; exact hblk1.lt))
 have HKP : Hid (∀ W, Below P w1 W → W.rangeAt N 0 mo.l ∧ W.cell? ⟨bs, 0, none⟩ = some (.int .i64 tn) ∧ W.cell? ⟨bs, 2, none⟩ = some (.slice ov n cv) ∧ W.cell? ⟨N, 2, none⟩ = some (.int .i64 mo.sq)) := fun W' hW => by
  have hb := up W' hW
  have hm := hk1.kept (hW.block N (by rw [← hP]; exact hk1.lt))
  exact ⟨hm.range, hb.cell 0, hb.cell 2, hm.cell 2⟩
 have HLV : Hid (∀ W', Below P w1 W' → _) := fun W' hW => slives_any bs _ _ _ W' (up W' hW)
 have HTK := Lib.hid (fun W' (hW : Below P w1 W') => by
  have := gTakes mo al tn 2 W' hna hlm (hrd.kept (by rw [hP]; exact hW)) hts
  rw [htk] at this
  exact this : ∀ W', Below P w1 W' → _)
 have HSZ := szM
 have HN := Lib.hid hN;have HP := Lib.hid hP;have HB1 := Lib.hid hb1
 have HNP : Hid (N ≤ P) := (by rw [← hP]; exact bnl9 hN hb1 : N ≤ P)
 have HQ : Hid (Below P w1 w1) := Below.refl _ _
 show Calls Tryz.prog 22 #[.pointer (some ⟨bs, 0, none⟩), .agg (aM mo)] W _
 clear hb1 hk1 hblk1 h up hrd hr htk
 go_enter Tryz.func22, Tryz.ntmps22
 go_upto_region 1 with (fail)
 refine wp_region_held_drew (S := fun W => W.rangeAt N 0 mo.l ∧ W.cell? ⟨bs, 0, none⟩ = some (.int .i64 tn) ∧ W.cell? ⟨bs, 2, none⟩ = some (.slice ov n cv) ∧ W.cell? ⟨N, 2, none⟩ = some (.int .i64 mo.sq)) (by kernel_rfl) ?_ (fun hHeld => ?_)
 ·exact HKP.out _ HQ.out.drew
 have HQ : Hid (Below P w1 _) := HQ.out.drew
 generalize World.drew _ = z0 at HQ hHeld ⊢
 refine tk 0 (some 5) ?_
 refine rd1 1 (some 6) (fun K hK => ?_)
 go_simp
 refine (HLV.out _ HQ.out).mono ?_
 rintro e w' ⟨rfl, rfl⟩;go_simp
 refine hK.out _ _ ?_ (fun hHeld2 => ?_)
 ·exact HKP.out _ HQ.out
 clear hK K hHeld;rename _ => hHeld;refine tk 2 (some 7) ?_;refine tk 3 (some 8) ?_;refine tk 4 (some 9) ?_;refine tk 5 (some 10) ?_;refine tk 6 (some 11) ?_;refine tk 7 (some 12) ?_
 refine tkL 8 (some 13) 32 (.tmp 3) N 0 mo.l (fun _ h => h.1) Tryz.underlying32 HSZ.out ?_
 refine rd1 9 (some 14) (fun K hK => ?_)
 go_simp
 refine (HTK.out _ HQ.out).mono ?_
 rintro e z1 ⟨rfl, hbz⟩
 have HQ : Hid (Below P w1 z1) := HQ.out.trans (hbz.mono (bnl9 HP.out HQ.out))
 clear hbz;go_simp
 refine hK.out _ _ ?_ (fun hHeld2 => ?_)
 ·exact HKP.out _ HQ.out
 clear hK K hHeld;rename _ => hHeld;refine tk 10 (some 15) ?_;refine tk 11 (some 16) ?_;refine tk 12 (some 17) ?_;refine tk 13 (some 18) ?_;refine tk 14 (some 19) ?_;refine tk 15 (some 20) ?_;refine tk 16 (some 21) ?_;refine tk 17 (some 22) ?_;refine tk 18 (some 23) ?_;refine tk 19 (some 24) ?_
 refine tk 20 (some 25) (v := .bool true) ?_ (hy := by (intro w hSw; (try dsimp only at hSw); go_simp; (first | done | (with_reducible rfl) | exact (decide_eq_true hgt) | simpa using (decide_eq_true hgt))))
 refine tk 21 (some 26) ?_;refine wpAnyH_done (by kernel_rfl) ?_ _;clear hHeld
 go_wp2_with fail
 try rw [Exit.noGoto_ret]
 first | (refine bodyPost_ret (results_none rfl _ _ _) rfl ?_) | (refine bodyPost_end (results_none rfl _ _ _) rfl ?_)
 exact ⟨⟨_, rfl⟩, by rw [HN.out]; exact HB1.out.trans (HQ.out.mono HNP.out)⟩
theorem gRecv_no (W : World) (br : Nat) (tn : Int) (vo vm : Value) (mo : MOd) (al : List (Int × Int)) (h : Blk W br 115 [.int .i64 tn, .bool true, vo, vm]) (hna : al.length = mo.o.an) (hlm : mo.o.an ≤ 1000000) (hr : RdA W mo.o.ao al) (hts : mo.o.txt.size ≤ maxLen) (htk : ((mo.kd == 1) && ((mo.tn == tn) && okM mo al)) = false) :
  Calls Tryz.prog 21 #[.pointer (some ⟨br, 0, none⟩), .agg mo.l.toArray] W fun e w' => e = .returned (.slice none 0 0) ∧ Below W.heap.size W w' := by
 obtain ⟨N, w1, hN, hw1, hb1, hk1⟩ := bx W (aM mo) mo.l 32 rfl
 have hblk1 := h.kept (hb1.block br (by rw [← hN]; exact h.lt))
 have hrd : RdA w1 mo.o.ao al := hr.kept (by rw [hN]; exact hb1)
 obtain ⟨P, hP⟩ : ∃ P, w1.heap.size = P := ⟨_, rfl⟩
 have up : ∀ W', Below P w1 W' → Blk W' br 115 [.int .i64 tn, .bool true, vo, vm] := fun W' hW => hblk1.kept (hW.block _ (by rw [← hP]; exact hblk1.lt))
 have HKP : Hid (∀ W, Below P w1 W → W.rangeAt N 0 mo.l ∧ W.cell? ⟨br, 0, none⟩ = some (.int .i64 tn)) := fun W' hW => by
  have hb := up W' hW
  have hm := hk1.kept (hW.block N (by rw [← hP]; exact hk1.lt))
  exact ⟨hm.range, hb.cell 0⟩
 have HLV : Hid (∀ W', Below P w1 W' → _) := fun W' hW => rlives_any br _ _ _ W' (up W' hW)
 have HTK := Lib.hid (fun W' (hW : Below P w1 W') => by
  have := gTakes mo al tn 1 W' hna hlm (hrd.kept (by rw [hP]; exact hW)) hts
  rw [htk] at this
  exact this : ∀ W', Below P w1 W' → _)
 have HSZ := szM
 have HN := Lib.hid hN;have HP := Lib.hid hP;have HB1 := Lib.hid hb1
 have HNP : Hid (N ≤ P) := (by rw [← hP]; exact bnl9 hN hb1 : N ≤ P)
 have HQ : Hid (Below P w1 w1) := Below.refl _ _
 show Calls Tryz.prog 21 #[.pointer (some ⟨br, 0, none⟩), .agg (aM mo)] W _
 clear hb1 hk1 hblk1 h up hrd hr htk
 go_enter Tryz.func21, Tryz.ntmps21
 go_upto_region 1 with (fail)
 go_step3
 go_upto_region 1 with (fail)
 refine wp_region_held_drew (S := fun W => W.rangeAt N 0 mo.l ∧ W.cell? ⟨br, 0, none⟩ = some (.int .i64 tn)) (by kernel_rfl) ?_ (fun hHeld => ?_)
 ·exact HKP.out _ HQ.out.drew
 have HQ : Hid (Below P w1 _) := HQ.out.drew
 generalize World.drew _ = z0 at HQ hHeld ⊢
 refine tk 0 (some 10) ?_
 refine rd1 1 (some 11) (fun K hK => ?_)
 go_simp
 refine (HLV.out _ HQ.out).mono ?_
 rintro e w' ⟨rfl, rfl⟩;go_simp
 refine hK.out _ _ ?_ (fun hHeld2 => ?_)
 ·exact HKP.out _ HQ.out
 clear hK K hHeld;rename _ => hHeld;refine tk 2 (some 12) ?_;refine tk 3 (some 13) ?_;refine tk 4 (some 14) ?_;refine tk 5 (some 15) ?_;refine tk 6 (some 16) ?_;refine tk 7 (some 17) ?_
 refine tkL 8 (some 18) 32 (.tmp 3) N 0 mo.l (fun _ h => h.1) Tryz.underlying32 HSZ.out ?_
 refine rd1 9 (some 19) (fun K hK => ?_)
 go_simp
 refine (HTK.out _ HQ.out).mono ?_
 rintro e z1 ⟨rfl, hbz⟩
 have HQ : Hid (Below P w1 z1) := HQ.out.trans (hbz.mono (bnl9 HP.out HQ.out))
 clear hbz;go_simp
 refine hK.out _ _ ?_ (fun hHeld2 => ?_)
 ·exact HKP.out _ HQ.out
 clear hK K hHeld;rename _ => hHeld;refine tk 10 (some 20) ?_;refine tk 11 (some 21) ?_;refine wpAnyH_done (by kernel_rfl) ?_ _;clear hHeld
 go_wp2_with fail
 try rw [Exit.noGoto_ret]
 go_ret
 exact ⟨rfl, by rw [HN.out]; exact HB1.out.trans (HQ.out.mono HNP.out)⟩
end Go.Proofs.YtjkiidhnmljmbaaGreatDoor
