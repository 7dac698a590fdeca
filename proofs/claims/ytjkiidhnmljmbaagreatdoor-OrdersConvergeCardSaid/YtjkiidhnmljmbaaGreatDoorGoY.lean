/- Orders of every kind: the reference's SameAlts, SameEntry, SameOrder, SameMessage. -/
import Derived.Test.YtjkiidhnmljmbaaGreatDoorGoJK
set_option linter.unusedVariables false
set_option linter.unusedSimpArgs false
set_option maxRecDepth 100000
set_option maxHeartbeats 8000000
namespace Go.Proofs.YtjkiidhnmljmbaaGreatDoor
open Go.RowKit
attribute [local go_sem] Oper.semAt_some
theorem eqAlt (a b c d : Int) (w : World) : (Op.equalIn 10000 140 (.agg #[.int .i64 a, .int .i64 b]) (.agg #[.int .i64 c, .int .i64 d])).run Tryz.prog w = .ok (a == c && b == d) w := by
 have u3 := Tryz.underlying3
 have hS : Tryz.prog.underlying 140 = some (.struct (Tryz.prog.fieldsOf 140)) := by kernel_rfl
 have hp : Tryz.prog.stoodInHeld 140 = false := by kernel_rfl
 rw [show (10000 : Nat) = 9999 + 1 from rfl, run_equalIn_agg w 9999 140 _ _ hS hp]
 simp only [Program.fieldsOf, Tryz.underlying140]
 go_simp
 repeat' split
 all_goals simp_all
theorem take_eq_snoc {α : Type} {l m : List α} {i : Nat} {p q : α} (hp : l[i]? = some p) (hq : m[i]? = some q) : (l.take (i + 1) = m.take (i + 1)) ↔ (l.take i = m.take i ∧ p = q) := by
 rw [List.take_add_one, List.take_add_one, hp, hq]
 have h1 : (l.take i).length = i := by rw [List.length_take]; have := (List.getElem?_eq_some_iff.1 hp).1; omega
 have h2 : (m.take i).length = i := by rw [List.length_take]; have := (List.getElem?_eq_some_iff.1 hq).1; omega
 constructor
 ·intro h
  have := List.append_inj h (by rw [h1, h2])
  exact ⟨this.1, by simpa using this.2⟩
 ·rintro ⟨h, rfl⟩
  rw [h]
theorem gSameAlts (al bl : List (Int × Int)) (oa ob : Option Addr) (an ac bn bc : Nat) (W : World) (h1 : al.length = an) (h2 : bl.length = bn) (hm : an ≤ 1000000) (hm2 : bn ≤ 1000000) (ha : RdA W oa al) (hb : RdA W ob bl) : Calls Tryz.prog 110 #[.slice oa an ac, .slice ob bn bc] W fun e w' => e = .returned (.bool (decide (al = bl))) ∧ Below W.heap.size W w' := by
 have HA := Lib.hid ha;have HB := Lib.hid hb;have H1 := Lib.hid h1;have H2 := Lib.hid h2;clear ha hb h1 h2
 by_cases hn : an = bn
 ·subst hn
  have hne : ((an : Int) != (an : Int)) = false := by simp
  go_enter Tryz.func110, Tryz.ntmps110
  go_wp2_with fail
  clear hne
  go_loopw [5] (fun vi wr => ∃ (i : Nat), i ≤ an ∧ vi = .int .i64 i ∧ Hid (al.take i = bl.take i) ∧ Hid (Below W.heap.size W wr)) (fun v _ => an - (intOf v).toNat)
  case atStart => exact ⟨0, Nat.zero_le _, rfl, (show al.take 0 = bl.take 0 by simp), Below.refl _ _⟩
  case round =>
   obtain ⟨i, hi, rfl, HE, HBW⟩ := hrel
   by_cases h : i < an
   ·have q1 : (i : Int) < (an : Int) := by omega
    have q2 : (0 : Int) ≤ (i : Int) := by omega
    have q3 : (i : Int) * 2 ≤ 2000000 := by omega
    obtain ⟨p, hp⟩ : ∃ p, al[i]? = some p := ⟨al[i]'(by rw [H1.out]; exact h), List.getElem?_eq_getElem _⟩
    obtain ⟨q, hq⟩ : ∃ q, bl[i]? = some q := ⟨bl[i]'(by rw [H2.out]; exact h), List.getElem?_eq_getElem _⟩
    obtain ⟨g1, f1, rfl, hg1, a0, a1⟩ := (HA.out.kept HBW.out).at i p hp
    obtain ⟨g2, f2, rfl, hg2, b0, b1⟩ := (HB.out.kept HBW.out).at i q hq
    have HTS := Lib.hid (take_eq_snoc hp hq)
    have HPI := Lib.hid hp;have HQI := Lib.hid hq
    obtain ⟨x1, y1⟩ := p
    obtain ⟨x2, y2⟩ := q
    dsimp only at a0 a1 b0 b1
    have heq := fun V : World => eqAlt x1 y1 x2 y2 V
    have HBD := Lib.hid HBW.out.drew;clear hp hq hg1 hg2
    cases hbb : (x1 == x2 && y1 == y2)
    ·rw [hbb] at heq
     have HNE : Hid (decide (al = bl) = false) := (by
      apply decide_eq_false
      intro e
      have h9 : ((x1, y1) : Int × Int) = (x2, y2) := by
       have h1 := HPI.out
       rw [e, HQI.out] at h1
       exact (Option.some.inj h1).symm
      cases h9
      simp at hbb : decide (al = bl) = false)
     clear h hbb HTS HPI HQI
     go_upto_region 6 with (fail)
     refine wp_region_held_drew (S := fun W => (W.cell? ⟨g1, f1 + i * 2, none⟩ = some (.int .i64 x1) ∧ W.cell? ⟨g1, f1 + i * 2 + 1, none⟩ = some (.int .i64 y1)) ∧ (W.cell? ⟨g2, f2 + i * 2, none⟩ = some (.int .i64 x2) ∧ W.cell? ⟨g2, f2 + i * 2 + 1, none⟩ = some (.int .i64 y2))) (by kernel_rfl) ?_ (fun hHeld => ?_)
     ·exact ⟨⟨a0, a1⟩, b0, b1⟩
     refine tk 0 (some 17) ?_;refine tk 1 (some 18) ?_;refine tk 2 (some 19) ?_;refine tk 3 (some 20) ?_;refine tk 4 (some 21) ?_;refine tk 5 (some 22) ?_;refine tk 6 (some 23) ?_;refine tk 7 (some 24) ?_
     refine tk 8 (some 25) (v := .bool true) ?_ (hy := by (intro w hSw; (try dsimp only at hSw); go_simp; (first | done | (with_reducible rfl) | exact rfl | simpa using rfl)))
     refine wpAnyH_done (by kernel_rfl) ?_ _;clear hHeld
     go_wp2_with fail
     go_ret;exact ⟨ret_bool HNE.out.symm, HBD.out⟩
    ·rw [hbb] at heq
     have HEN : Hid (al.take (i + 1) = bl.take (i + 1)) := HTS.out.2 ⟨HE.out, by simp at hbb; rw [hbb.1, hbb.2]⟩
     clear h hbb HTS HPI HQI HE
     go_upto_region 6 with (fail)
     refine wp_region_held_drew (S := fun W => (W.cell? ⟨g1, f1 + i * 2, none⟩ = some (.int .i64 x1) ∧ W.cell? ⟨g1, f1 + i * 2 + 1, none⟩ = some (.int .i64 y1)) ∧ (W.cell? ⟨g2, f2 + i * 2, none⟩ = some (.int .i64 x2) ∧ W.cell? ⟨g2, f2 + i * 2 + 1, none⟩ = some (.int .i64 y2))) (by kernel_rfl) ?_ (fun hHeld => ?_)
     ·exact ⟨⟨a0, a1⟩, b0, b1⟩
     refine tk 0 (some 17) ?_;refine tk 1 (some 18) ?_;refine tk 2 (some 19) ?_;refine tk 3 (some 20) ?_;refine tk 4 (some 21) ?_;refine tk 5 (some 22) ?_;refine tk 6 (some 23) ?_;refine tk 7 (some 24) ?_
     refine tk 8 (some 25) (v := .bool false) ?_ (hy := by (intro w hSw; (try dsimp only at hSw); go_simp; (first | done | (with_reducible rfl) | exact rfl | simpa using rfl)))
     refine wpAnyH_done (by kernel_rfl) ?_ _;clear hHeld
     go_wp2_with fail
     go_roundw
     case rel => exact ⟨i + 1, by omega, by go_num, HEN, HBD⟩
     case measure => simp [intOf]; omega
   ·have q1 : ¬ (i : Int) < (an : Int) := by omega
    have HEE : Hid (decide (al = bl) = true) := (by
     apply decide_eq_true
     have h9 := HE.out
     rw [List.take_of_length_le (by rw [H1.out]; omega), List.take_of_length_le (by rw [H2.out]; omega)] at h9
     exact h9 : decide (al = bl) = true)
    clear h
    go_wp2_with fail
    go_ret;exact ⟨ret_bool HEE.out.symm, HBW.out⟩
 ·have hne : ((an : Int) != (bn : Int)) = true := by rw [bne_iff_ne]; omega
  have HNE : Hid (decide (al = bl) = false) := (by
   apply decide_eq_false
   intro e
   have h9 := congrArg List.length e
   rw [H1.out, H2.out] at h9
   exact hn h9 : decide (al = bl) = false)
  clear hn
  go_enter Tryz.func110, Tryz.ntmps110
  go_wp2_with fail
  go_ret;exact ⟨ret_bool HNE.out.symm, Below.refl _ _⟩
def sameE (o : GOd) (al : List (Int × Int)) (p : GOd) (bl : List (Int × Int)) : Bool := decide (al = bl) && ((o.nid == p.nid) && ((o.item == p.item) && ((o.frs == p.frs) && ((o.ear == p.ear) && ((o.lat == p.lat) && (o.book == p.book))))))
theorem gSameEntry (o p : GOd) (al bl : List (Int × Int)) (W : World) (h1 : al.length = o.an) (h2 : bl.length = p.an) (hm : o.an ≤ 1000000) (hm2 : p.an ≤ 1000000) (ha : RdA W o.ao al) (hb : RdA W p.ao bl) : Calls Tryz.prog 101 #[.agg #[.int .i64 o.nid, .int .i64 o.item, .int .i64 o.frs, .int .i64 o.ear, .int .i64 o.lat, .int .i64 o.book, .slice o.ao o.an o.ac], .agg #[.int .i64 p.nid, .int .i64 p.item, .int .i64 p.frs, .int .i64 p.ear, .int .i64 p.lat, .int .i64 p.book, .slice p.ao p.an p.ac]] W fun e w' => e = .returned (.bool (sameE o al p bl)) ∧ Below W.heap.size W w' := by
 obtain ⟨N, w1, hN, hw1, hb1, hk1⟩ := bx W #[.int .i64 o.nid, .int .i64 o.item, .int .i64 o.frs, .int .i64 o.ear, .int .i64 o.lat, .int .i64 o.book, .slice o.ao o.an o.ac] [.int .i64 o.nid, .int .i64 o.item, .int .i64 o.frs, .int .i64 o.ear, .int .i64 o.lat, .int .i64 o.book, .slice o.ao o.an o.ac] 24 rfl
 obtain ⟨L, w2, hL, hw2, hb2, hk2⟩ := bx w1 #[.int .i64 p.nid, .int .i64 p.item, .int .i64 p.frs, .int .i64 p.ear, .int .i64 p.lat, .int .i64 p.book, .slice p.ao p.an p.ac] [.int .i64 p.nid, .int .i64 p.item, .int .i64 p.frs, .int .i64 p.ear, .int .i64 p.lat, .int .i64 p.book, .slice p.ao p.an p.ac] 24 rfl
 have hNL : N < L := by rw [← hL]; exact hk1.lt
 have hk3 := hk1.kept (hb2.block N hNL)
 have hb12 : Below N W w2 := hb1.trans (hb2.mono (Nat.le_of_lt hNL))
 have HN := Lib.hid hN;have HB := Lib.hid hb12
 have n1 : N ≠ L := by omega
 have n2 : L ≠ N := by omega
 have HC := Lib.hid (gSameAlts al bl o.ao p.ao o.an o.ac p.an p.ac w2 h1 h2 hm hm2 (ha.kept (hN ▸ hb12)) (hb.kept (hN ▸ hb12)))
 have a6 : w2.cell? ⟨N, 6, none⟩ = some (.slice o.ao o.an o.ac) := hk3.cell 6
 have b6 : w2.cell? ⟨L, 6, none⟩ = some (.slice p.ao p.an p.ac) := hk2.cell 6
 have HK3 := Lib.hid hk3;have HK2 := Lib.hid hk2
 obtain ⟨sp, hsp⟩ : ∃ sp, sameE o al p bl = sp := ⟨_, rfl⟩
 rw [hsp]
 simp only [sameE] at hsp
 obtain ⟨b0, hb0⟩ : ∃ b0, decide (al = bl) = b0 := ⟨_, rfl⟩
 rw [hb0] at HC hsp;have HSP := Lib.hid hsp;clear hb1 hb2 hk1 hk2 hk3 hNL hb12 ha hb h1 h2 hm hm2 hsp hb0
 go_enter Tryz.func101, Tryz.ntmps101
 go_wp2_with fail
 refine HC.out.mono ?_
 rintro e w3 ⟨rfl, hb3⟩
 have hk4 := HK3.out.kept (hb3.block _ HK3.out.lt)
 have hk5 := HK2.out.kept (hb3.block _ HK2.out.lt)
 have HB3 : Hid (Below N W w3) := HB.out.trans (hb3.mono (bnl9 HN.out HB.out))
 have c0 : w3.cell? ⟨N, 0, none⟩ = some (.int .i64 o.nid) := hk4.cell 0
 have d0 : w3.cell? ⟨L, 0, none⟩ = some (.int .i64 p.nid) := hk5.cell 0
 have c1 : w3.cell? ⟨N, 1, none⟩ = some (.int .i64 o.item) := hk4.cell 1
 have d1 : w3.cell? ⟨L, 1, none⟩ = some (.int .i64 p.item) := hk5.cell 1
 have c2 : w3.cell? ⟨N, 2, none⟩ = some (.int .i64 o.frs) := hk4.cell 2
 have d2 : w3.cell? ⟨L, 2, none⟩ = some (.int .i64 p.frs) := hk5.cell 2
 have c3 : w3.cell? ⟨N, 3, none⟩ = some (.int .i64 o.ear) := hk4.cell 3
 have d3 : w3.cell? ⟨L, 3, none⟩ = some (.int .i64 p.ear) := hk5.cell 3
 have c4 : w3.cell? ⟨N, 4, none⟩ = some (.int .i64 o.lat) := hk4.cell 4
 have d4 : w3.cell? ⟨L, 4, none⟩ = some (.int .i64 p.lat) := hk5.cell 4
 have c5 : w3.cell? ⟨N, 5, none⟩ = some (.int .i64 o.book) := hk4.cell 5
 have d5 : w3.cell? ⟨L, 5, none⟩ = some (.int .i64 p.book) := hk5.cell 5
 clear hb3 hk4 hk5 a6 b6
 cases b0
 ·have HV : Hid (sp = false) := HSP.out.symm.trans (by simp)
  go_wp2_with fail
  go_ret;exact rb HV HB3 HN
 cases q0 : (o.nid == p.nid)
 ·have HV : Hid (sp = false) := HSP.out.symm.trans (by rw [q0]; simp)
  go_wp2_with fail
  go_ret;exact rb HV HB3 HN
 ·cases q1 : (o.item == p.item)
  ·have HV : Hid (sp = false) := HSP.out.symm.trans (by rw [q0, q1]; simp)
   go_wp2_with fail
   go_ret;exact rb HV HB3 HN
  ·cases q2 : (o.frs == p.frs)
   ·have HV : Hid (sp = false) := HSP.out.symm.trans (by rw [q0, q1, q2]; simp)
    go_wp2_with fail
    go_ret;exact rb HV HB3 HN
   ·cases q3 : (o.ear == p.ear)
    ·have HV : Hid (sp = false) := HSP.out.symm.trans (by rw [q0, q1, q2, q3]; simp)
     go_wp2_with fail
     go_ret;exact rb HV HB3 HN
    ·cases q4 : (o.lat == p.lat)
     ·have HV : Hid (sp = false) := HSP.out.symm.trans (by rw [q0, q1, q2, q3, q4]; simp)
      go_wp2_with fail
      go_ret;exact rb HV HB3 HN
     ·cases q5 : (o.book == p.book)
      ·have HV : Hid (sp = false) := HSP.out.symm.trans (by rw [q0, q1, q2, q3, q4, q5]; simp)
       go_wp2_with fail
       go_ret;exact rb HV HB3 HN
      ·have HV : Hid (sp = true) := HSP.out.symm.trans (by rw [q0, q1, q2, q3, q4, q5]; simp)
       go_wp2_with fail
       go_ret;exact rb HV HB3 HN
def sameOB (o : GOd) (al : List (Int × Int)) (p : GOd) (bl : List (Int × Int)) : Bool := sameE o al p bl && ((o.s == p.s) && ((o.ch == p.ch) && ((o.f == p.f) && ((o.k == p.k) && ((o.e == p.e) && ((o.n == p.n) && (o.cl.eqB p.cl && cueEq o.qid o.qf o.qt o.qp o.txt p.qid p.qf p.qt p.qp p.txt)))))))
theorem gSameOrd (o p : GOd) (al bl : List (Int × Int)) (W : World) (h1 : al.length = o.an) (h2 : bl.length = p.an) (hm : o.an ≤ 1000000) (hm2 : p.an ≤ 1000000) (ha : RdA W o.ao al) (hb : RdA W p.ao bl) : Calls Tryz.prog 83 #[.agg o.l.toArray, .agg p.l.toArray] W fun e w' => e = .returned (.bool (sameOB o al p bl)) ∧ Below W.heap.size W w' := by
 have heq1 := fun V : World => eqClause o.cl p.cl V
 have heq2 := fun V : World => eqCue o.qid o.qf o.qt o.qp o.txt p.qid p.qf p.qt p.qp p.txt V
 obtain ⟨sp, hsp⟩ : ∃ sp, sameOB o al p bl = sp := ⟨_, rfl⟩
 rw [hsp]
 simp only [sameOB] at hsp
 obtain ⟨bc, hbc⟩ : ∃ bc, o.cl.eqB p.cl = bc := ⟨_, rfl⟩
 obtain ⟨bq, hbq⟩ : ∃ bq, cueEq o.qid o.qf o.qt o.qp o.txt p.qid p.qf p.qt p.qp p.txt = bq := ⟨_, rfl⟩
 obtain ⟨b0, hb0⟩ : ∃ b0, sameE o al p bl = b0 := ⟨_, rfl⟩
 have hbc2 := hbc
 simp only [ClD.eqB] at hbc2
 rw [hbc2] at heq1;rw [hbq] at heq2;rw [hbc, hbq, hb0] at hsp;clear hbc hbc2 hbq
 simp only [ClD.l] at heq1
 simp only [cueL] at heq2
 obtain ⟨N, w1, hN, hw1, hb1, hk1⟩ := bx W (aO o) (lO o) 30 rfl
 obtain ⟨L, w2, hL, hw2, hb2, hk2⟩ := bx w1 (aO p) (lO p) 30 rfl
 have hNL : N < L := by rw [← hL]; exact hk1.lt
 have hk3 := hk1.kept (hb2.block N hNL)
 have hb12 : Below N W w2 := hb1.trans (hb2.mono (Nat.le_of_lt hNL))
 have HN := Lib.hid hN;have HB := Lib.hid hb12
 have n1 : N ≠ L := by omega
 have n2 : L ≠ N := by omega
 have a6 : w2.cell? ⟨N, 6, none⟩ = some (.int .i64 o.nid) := hk3.cell 6
 have b6 : w2.cell? ⟨L, 6, none⟩ = some (.int .i64 p.nid) := hk2.cell 6
 have a7 : w2.cell? ⟨N, 7, none⟩ = some (.int .i64 o.item) := hk3.cell 7
 have b7 : w2.cell? ⟨L, 7, none⟩ = some (.int .i64 p.item) := hk2.cell 7
 have a8 : w2.cell? ⟨N, 8, none⟩ = some (.int .i64 o.frs) := hk3.cell 8
 have b8 : w2.cell? ⟨L, 8, none⟩ = some (.int .i64 p.frs) := hk2.cell 8
 have a9 : w2.cell? ⟨N, 9, none⟩ = some (.int .i64 o.ear) := hk3.cell 9
 have b9 : w2.cell? ⟨L, 9, none⟩ = some (.int .i64 p.ear) := hk2.cell 9
 have a10 : w2.cell? ⟨N, 10, none⟩ = some (.int .i64 o.lat) := hk3.cell 10
 have b10 : w2.cell? ⟨L, 10, none⟩ = some (.int .i64 p.lat) := hk2.cell 10
 have a11 : w2.cell? ⟨N, 11, none⟩ = some (.int .i64 o.book) := hk3.cell 11
 have b11 : w2.cell? ⟨L, 11, none⟩ = some (.int .i64 p.book) := hk2.cell 11
 have a12 : w2.cell? ⟨N, 12, none⟩ = some (.slice o.ao o.an o.ac) := hk3.cell 12
 have b12 : w2.cell? ⟨L, 12, none⟩ = some (.slice p.ao p.an p.ac) := hk2.cell 12
 have HK3 := Lib.hid hk3;have HK2 := Lib.hid hk2
 have HC := Lib.hid (gSameEntry o p al bl w2 h1 h2 hm hm2 (ha.kept (hN ▸ hb12)) (hb.kept (hN ▸ hb12)))
 rw [hb0] at HC;have HSP := Lib.hid hsp
 show Calls Tryz.prog 83 #[.agg (aO o), .agg (aO p)] W _
 clear hb1 hb2 hk1 hk2 hk3 hNL hb12 ha hb h1 h2 hm hm2 hsp hb0
 go_enter Tryz.func83, Tryz.ntmps83
 go_wp2_with fail
 refine HC.out.mono ?_
 rintro e w3 ⟨rfl, hb3⟩
 have hk4 := HK3.out.kept (hb3.block _ HK3.out.lt)
 have hk5 := HK2.out.kept (hb3.block _ HK2.out.lt)
 have HB3 : Hid (Below N W w3) := HB.out.trans (hb3.mono (bnl9 HN.out HB.out))
 have c0 : w3.cell? ⟨N, 0, none⟩ = some (.int .i64 o.s) := hk4.cell 0
 have d0 : w3.cell? ⟨L, 0, none⟩ = some (.int .i64 p.s) := hk5.cell 0
 have c1 : w3.cell? ⟨N, 1, none⟩ = some (.int .i64 o.ch) := hk4.cell 1
 have d1 : w3.cell? ⟨L, 1, none⟩ = some (.int .i64 p.ch) := hk5.cell 1
 have c2 : w3.cell? ⟨N, 2, none⟩ = some (.int .i64 o.f) := hk4.cell 2
 have d2 : w3.cell? ⟨L, 2, none⟩ = some (.int .i64 p.f) := hk5.cell 2
 have c3 : w3.cell? ⟨N, 3, none⟩ = some (.int .i64 o.k) := hk4.cell 3
 have d3 : w3.cell? ⟨L, 3, none⟩ = some (.int .i64 p.k) := hk5.cell 3
 have c4 : w3.cell? ⟨N, 4, none⟩ = some (.int .i64 o.e) := hk4.cell 4
 have d4 : w3.cell? ⟨L, 4, none⟩ = some (.int .i64 p.e) := hk5.cell 4
 have c5 : w3.cell? ⟨N, 5, none⟩ = some (.int .i64 o.n) := hk4.cell 5
 have d5 : w3.cell? ⟨L, 5, none⟩ = some (.int .i64 p.n) := hk5.cell 5
 have c13 : w3.cell? ⟨N, 13, none⟩ = some (.int .i64 o.cl.kind) := hk4.cell 13
 have d13 : w3.cell? ⟨L, 13, none⟩ = some (.int .i64 p.cl.kind) := hk5.cell 13
 have c14 : w3.cell? ⟨N, 14, none⟩ = some (.int .i64 o.cl.item) := hk4.cell 14
 have d14 : w3.cell? ⟨L, 14, none⟩ = some (.int .i64 p.cl.item) := hk5.cell 14
 have c15 : w3.cell? ⟨N, 15, none⟩ = some (.int .i64 o.cl.frm) := hk4.cell 15
 have d15 : w3.cell? ⟨L, 15, none⟩ = some (.int .i64 p.cl.frm) := hk5.cell 15
 have c16 : w3.cell? ⟨N, 16, none⟩ = some (.int .i64 o.cl.til) := hk4.cell 16
 have d16 : w3.cell? ⟨L, 16, none⟩ = some (.int .i64 p.cl.til) := hk5.cell 16
 have c17 : w3.cell? ⟨N, 17, none⟩ = some (.int .i64 o.cl.regs) := hk4.cell 17
 have d17 : w3.cell? ⟨L, 17, none⟩ = some (.int .i64 p.cl.regs) := hk5.cell 17
 have c18 : w3.cell? ⟨N, 18, none⟩ = some (.int .i64 o.cl.n) := hk4.cell 18
 have d18 : w3.cell? ⟨L, 18, none⟩ = some (.int .i64 p.cl.n) := hk5.cell 18
 have c19 : w3.cell? ⟨N, 19, none⟩ = some (.int .i64 o.cl.a) := hk4.cell 19
 have d19 : w3.cell? ⟨L, 19, none⟩ = some (.int .i64 p.cl.a) := hk5.cell 19
 have c20 : w3.cell? ⟨N, 20, none⟩ = some (.int .i64 o.cl.b) := hk4.cell 20
 have d20 : w3.cell? ⟨L, 20, none⟩ = some (.int .i64 p.cl.b) := hk5.cell 20
 have c21 : w3.cell? ⟨N, 21, none⟩ = some (.int .i64 o.qid) := hk4.cell 21
 have d21 : w3.cell? ⟨L, 21, none⟩ = some (.int .i64 p.qid) := hk5.cell 21
 have c22 : w3.cell? ⟨N, 22, none⟩ = some (.int .i64 o.qf) := hk4.cell 22
 have d22 : w3.cell? ⟨L, 22, none⟩ = some (.int .i64 p.qf) := hk5.cell 22
 have c23 : w3.cell? ⟨N, 23, none⟩ = some (.int .i64 o.qt) := hk4.cell 23
 have d23 : w3.cell? ⟨L, 23, none⟩ = some (.int .i64 p.qt) := hk5.cell 23
 have c24 : w3.cell? ⟨N, 24, none⟩ = some (.int .i64 o.qp) := hk4.cell 24
 have d24 : w3.cell? ⟨L, 24, none⟩ = some (.int .i64 p.qp) := hk5.cell 24
 have c25 : w3.cell? ⟨N, 25, none⟩ = some (.string o.txt) := hk4.cell 25
 have d25 : w3.cell? ⟨L, 25, none⟩ = some (.string p.txt) := hk5.cell 25
 clear hb3 hk4 hk5 a6 b6 a7 b7 a8 b8 a9 b9 a10 b10 a11 b11 a12 b12
 cases b0
 ·have HV : Hid (sp = false) := HSP.out.symm.trans (by simp)
  go_wp2_with fail
  go_ret;exact rb HV HB3 HN
 cases q0 : (o.s == p.s)
 ·have HV : Hid (sp = false) := HSP.out.symm.trans (by rw [q0]; simp)
  go_wp2_with fail
  go_ret;exact rb HV HB3 HN
 ·cases q1 : (o.ch == p.ch)
  ·have HV : Hid (sp = false) := HSP.out.symm.trans (by rw [q0, q1]; simp)
   go_wp2_with fail
   go_ret;exact rb HV HB3 HN
  ·cases q2 : (o.f == p.f)
   ·have HV : Hid (sp = false) := HSP.out.symm.trans (by rw [q0, q1, q2]; simp)
    go_wp2_with fail
    go_ret;exact rb HV HB3 HN
   ·cases q3 : (o.k == p.k)
    ·have HV : Hid (sp = false) := HSP.out.symm.trans (by rw [q0, q1, q2, q3]; simp)
     go_wp2_with fail
     go_ret;exact rb HV HB3 HN
    ·cases q4 : (o.e == p.e)
     ·have HV : Hid (sp = false) := HSP.out.symm.trans (by rw [q0, q1, q2, q3, q4]; simp)
      go_wp2_with fail
      go_ret;exact rb HV HB3 HN
     ·cases q5 : (o.n == p.n)
      ·have HV : Hid (sp = false) := HSP.out.symm.trans (by rw [q0, q1, q2, q3, q4, q5]; simp)
       go_wp2_with fail
       go_ret;exact rb HV HB3 HN
      ·cases bc
       ·have HV : Hid (sp = false) := HSP.out.symm.trans (by rw [q0, q1, q2, q3, q4, q5]; simp)
        go_wp2_with fail
        go_ret;exact rb HV HB3 HN
       ·cases bq
        ·have HV : Hid (sp = false) := HSP.out.symm.trans (by rw [q0, q1, q2, q3, q4, q5]; simp)
         go_wp2_with fail
         go_ret;exact rb HV HB3 HN
        ·have HV : Hid (sp = true) := HSP.out.symm.trans (by rw [q0, q1, q2, q3, q4, q5]; simp)
         go_wp2_with fail
         go_ret;exact rb HV HB3 HN
theorem gSameOrder (o p : GOd) (al bl : List (Int × Int)) (W : World) (h1 : al.length = o.an) (h2 : bl.length = p.an) (hm : o.an ≤ 1000000) (hm2 : p.an ≤ 1000000) (ha : RdA W o.ao al) (hb : RdA W p.ao bl) : Calls Tryz.prog 47 #[.agg o.l.toArray, .agg p.l.toArray] W fun e w' => e = .returned (.bool (sameOB o al p bl)) ∧ Below W.heap.size W w' := by
 obtain ⟨N, w1, hN, hw1, hb1, hk1⟩ := bx W (aO o) (lO o) 30 rfl
 obtain ⟨L, w2, hL, hw2, hb2, hk2⟩ := bx w1 (aO p) (lO p) 30 rfl
 have hNL : N < L := by rw [← hL]; exact hk1.lt
 have hk3 := hk1.kept (hb2.block N hNL)
 have hb12 : Below N W w2 := hb1.trans (hb2.mono (Nat.le_of_lt hNL))
 have HN := Lib.hid hN;have HB := Lib.hid hb12
 have n1 : N ≠ L := by omega
 have n2 : L ≠ N := by omega
 have HK3 := Lib.hid hk3.range;have HK2 := Lib.hid hk2.range
 have HSZ := szO
 have HC := Lib.hid (gSameOrd o p al bl w2 h1 h2 hm hm2 (ha.kept (hN ▸ hb12)) (hb.kept (hN ▸ hb12)))
 show Calls Tryz.prog 47 #[.agg (aO o), .agg (aO p)] W _
 clear hb1 hb2 hk1 hk2 hk3 hNL hb12 ha hb h1 h2 hm hm2
 go_enter Tryz.func47, Tryz.ntmps47
 go_wp2_with (first | (refine wpList_load_mid rfl 30 (.tmp 2) rfl N 0 rfl o.l _ HK3.out Tryz.underlying30 rfl HSZ.out ?_) | (refine wpList_load_mid rfl 30 (.tmp 3) rfl L 0 rfl p.l _ HK2.out Tryz.underlying30 rfl HSZ.out ?_))
 refine HC.out.mono ?_
 rintro e w3 ⟨rfl, hb3⟩
 have HB3 : Hid (Below N W w3) := HB.out.trans (hb3.mono (bnl9 HN.out HB.out))
 clear hb3
 go_wp2_with fail
 go_ret
 exact ⟨rfl, by first | exact HB3.out | (rw [HN.out]; exact HB3.out)⟩
def sameMB (m : MOd) (al : List (Int × Int)) (k : MOd) (bl : List (Int × Int)) : Bool := sameOB m.o al k.o bl && ((m.kd == k.kd) && ((m.tn == k.tn) && ((m.sq == k.sq) && ((m.fr == k.fr) && (m.n == k.n)))))
theorem gSameMsg (m k : MOd) (al bl : List (Int × Int)) (W : World) (h1 : al.length = m.o.an) (h2 : bl.length = k.o.an) (hm : m.o.an ≤ 1000000) (hm2 : k.o.an ≤ 1000000) (ha : RdA W m.o.ao al) (hb : RdA W k.o.ao bl) : Calls Tryz.prog 12 #[.agg m.l.toArray, .agg k.l.toArray] W fun e w' => e = .returned (.bool (sameMB m al k bl)) ∧ Below W.heap.size W w' := by
 obtain ⟨N, w1, hN, hw1, hb1, hk1⟩ := bx W (aM m) (lM m) 32 rfl
 obtain ⟨L, w2, hL, hw2, hb2, hk2⟩ := bx w1 (aM k) (lM k) 32 rfl
 have hNL : N < L := by rw [← hL]; exact hk1.lt
 have hk3 := hk1.kept (hb2.block N hNL)
 have hb12 : Below N W w2 := hb1.trans (hb2.mono (Nat.le_of_lt hNL))
 have HN := Lib.hid hN;have HB := Lib.hid hb12
 have n1 : N ≠ L := by omega
 have n2 : L ≠ N := by omega
 have HK3 := Lib.hid hk3;have HK2 := Lib.hid hk2
 have HR3 : Hid (w2.rangeAt N 5 m.o.l) := hk3.rangeO 5 rfl
 have HR2 : Hid (w2.rangeAt L 5 k.o.l) := hk2.rangeO 5 rfl
 have HSZ := szO
 have HC := Lib.hid (gSameOrder m.o k.o al bl w2 h1 h2 hm hm2 (ha.kept (hN ▸ hb12)) (hb.kept (hN ▸ hb12)))
 obtain ⟨sp, hsp⟩ : ∃ sp, sameMB m al k bl = sp := ⟨_, rfl⟩
 rw [hsp]
 simp only [sameMB] at hsp
 obtain ⟨b0, hb0⟩ : ∃ b0, sameOB m.o al k.o bl = b0 := ⟨_, rfl⟩
 rw [hb0] at HC hsp;have HSP := Lib.hid hsp
 show Calls Tryz.prog 12 #[.agg (aM m), .agg (aM k)] W _
 clear hb1 hb2 hk1 hk2 hk3 hNL hb12 ha hb h1 h2 hm hm2 hsp hb0
 go_enter Tryz.func12, Tryz.ntmps12
 go_wp2_with (first | (refine wpList_load_mid rfl 30 (.tmp 6) rfl N 5 rfl m.o.l _ HR3.out Tryz.underlying30 rfl HSZ.out ?_) | (refine wpList_load_mid rfl 30 (.tmp 8) rfl L 5 rfl k.o.l _ HR2.out Tryz.underlying30 rfl HSZ.out ?_))
 refine HC.out.mono ?_
 rintro e w3 ⟨rfl, hb3⟩
 have hk4 := HK3.out.kept (hb3.block _ HK3.out.lt)
 have hk5 := HK2.out.kept (hb3.block _ HK2.out.lt)
 have HB3 : Hid (Below N W w3) := HB.out.trans (hb3.mono (bnl9 HN.out HB.out))
 have c0 : w3.cell? ⟨N, 0, none⟩ = some (.int .i64 m.kd) := hk4.cell 0
 have d0 : w3.cell? ⟨L, 0, none⟩ = some (.int .i64 k.kd) := hk5.cell 0
 have c1 : w3.cell? ⟨N, 1, none⟩ = some (.int .i64 m.tn) := hk4.cell 1
 have d1 : w3.cell? ⟨L, 1, none⟩ = some (.int .i64 k.tn) := hk5.cell 1
 have c2 : w3.cell? ⟨N, 2, none⟩ = some (.int .i64 m.sq) := hk4.cell 2
 have d2 : w3.cell? ⟨L, 2, none⟩ = some (.int .i64 k.sq) := hk5.cell 2
 have c3 : w3.cell? ⟨N, 3, none⟩ = some (.int .i64 m.fr) := hk4.cell 3
 have d3 : w3.cell? ⟨L, 3, none⟩ = some (.int .i64 k.fr) := hk5.cell 3
 have c4 : w3.cell? ⟨N, 4, none⟩ = some (.int .i64 m.n) := hk4.cell 4
 have d4 : w3.cell? ⟨L, 4, none⟩ = some (.int .i64 k.n) := hk5.cell 4
 clear hb3 hk4 hk5
 cases b0
 ·have HV : Hid (sp = false) := HSP.out.symm.trans (by simp)
  go_wp2_with fail
  go_ret;exact rb HV HB3 HN
 cases q0 : (m.kd == k.kd)
 ·have HV : Hid (sp = false) := HSP.out.symm.trans (by rw [q0]; simp)
  go_wp2_with fail
  go_ret;exact rb HV HB3 HN
 ·cases q1 : (m.tn == k.tn)
  ·have HV : Hid (sp = false) := HSP.out.symm.trans (by rw [q0, q1]; simp)
   go_wp2_with fail
   go_ret;exact rb HV HB3 HN
  ·cases q2 : (m.sq == k.sq)
   ·have HV : Hid (sp = false) := HSP.out.symm.trans (by rw [q0, q1, q2]; simp)
    go_wp2_with fail
    go_ret;exact rb HV HB3 HN
   ·cases q3 : (m.fr == k.fr)
    ·have HV : Hid (sp = false) := HSP.out.symm.trans (by rw [q0, q1, q2, q3]; simp)
     go_wp2_with fail
     go_ret;exact rb HV HB3 HN
    ·cases q4 : (m.n == k.n)
     ·have HV : Hid (sp = false) := HSP.out.symm.trans (by rw [q0, q1, q2, q3, q4]; simp)
      go_wp2_with fail
      go_ret;exact rb HV HB3 HN
     ·have HV : Hid (sp = true) := HSP.out.symm.trans (by rw [q0, q1, q2, q3, q4]; simp)
      go_wp2_with fail
      go_ret;exact rb HV HB3 HN
end Go.Proofs.YtjkiidhnmljmbaaGreatDoor
