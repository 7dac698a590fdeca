/- Orders: the reference's validNew. -/
import Derived.Test.YtjkiidhnmljmbaaGreatDoorGoY
import Derived.Test.YtjkiidhnmljmbaaGreatDoorGqAC
set_option linter.unusedVariables false
set_option linter.unusedSimpArgs false
set_option maxRecDepth 100000
set_option maxHeartbeats 8000000
namespace Go.Proofs.YtjkiidhnmljmbaaGreatDoor
open Go.RowKit
theorem gId15 (n : Int) (w : World) : Calls Tryz.prog 93 #[.int .i64 n] w fun e w' => e = .returned (.bool (decide (1 ≤ n ∧ n ≤ 1000000))) ∧ w = w' := by
 rcases (show ¬ n ≥ 1 ∨ (n ≥ 1 ∧ n ≤ 1000000) ∨ (n ≥ 1 ∧ ¬ n ≤ 1000000) from by omega) with h | ⟨h, h2⟩ | ⟨h, h2⟩
 ·rw [show decide (1 ≤ n ∧ n ≤ 1000000) = false from decide_eq_false (by omega)]
  go_enter Tryz.func93, Tryz.ntmps93
  go_wp2_with fail
  go_ret;exact ⟨rfl, rfl⟩
 ·rw [show decide (1 ≤ n ∧ n ≤ 1000000) = true from decide_eq_true ⟨h, h2⟩]
  go_enter Tryz.func93, Tryz.ntmps93
  go_wp2_with fail
  go_ret;exact ⟨rfl, rfl⟩
 ·rw [show decide (1 ≤ n ∧ n ≤ 1000000) = false from decide_eq_false (by omega)]
  go_enter Tryz.func93, Tryz.ntmps93
  go_wp2_with fail
  go_ret;exact ⟨rfl, rfl⟩
theorem gValidNew (nid item frs ear lat book : Int) (ao : Option Addr) (an ac : Nat) (al : List (Int × Int)) (W : World) (hn : al.length = an) (hlm : an ≤ 1000000) (hr : RdA W ao al) : Calls Tryz.prog 94 #[.agg #[.int .i64 nid, .int .i64 item, .int .i64 frs, .int .i64 ear, .int .i64 lat, .int .i64 book, .slice ao an ac]] W fun e w' => e = .returned (.bool (insB nid item frs ear lat book al)) ∧ Below W.heap.size W w' := by
 obtain ⟨sp, hsp⟩ : ∃ sp, insB nid item frs ear lat book al = sp := ⟨_, rfl⟩
 rw [hsp]
 simp only [insB] at hsp
 obtain ⟨ab, hab⟩ : ∃ ab, altsB 0 al = ab := ⟨_, rfl⟩
 rw [hab] at hsp
 obtain ⟨N, w1, hN, hw1, hb1, hk1⟩ := bx W #[.int .i64 nid, .int .i64 item, .int .i64 frs, .int .i64 ear, .int .i64 lat, .int .i64 book, .slice ao an ac] [.int .i64 nid, .int .i64 item, .int .i64 frs, .int .i64 ear, .int .i64 lat, .int .i64 book, .slice ao an ac] 24 rfl
 have b0 : w1.cell? ⟨N, 0, none⟩ = some (.int .i64 nid) := hk1.cell 0
 have b1 : w1.cell? ⟨N, 1, none⟩ = some (.int .i64 item) := hk1.cell 1
 have b2 : w1.cell? ⟨N, 2, none⟩ = some (.int .i64 frs) := hk1.cell 2
 have b3 : w1.cell? ⟨N, 3, none⟩ = some (.int .i64 ear) := hk1.cell 3
 have b4 : w1.cell? ⟨N, 4, none⟩ = some (.int .i64 lat) := hk1.cell 4
 have b5 : w1.cell? ⟨N, 5, none⟩ = some (.int .i64 book) := hk1.cell 5
 have b6 : w1.cell? ⟨N, 6, none⟩ = some (.slice ao an ac) := hk1.cell 6
 have HN := Lib.hid hN;have HB1 := Lib.hid hb1;have HK1 := Lib.hid hk1;have HSP := Lib.hid hsp;have HAB := Lib.hid hab;have HLN := Lib.hid hn
 have HR := Lib.hid (hr.kept (hN ▸ hb1))
 clear hb1 hk1 hsp hab hr hn
 go_enter Tryz.func94, Tryz.ntmps94
 go_wp2_with fail
 refine (gId15 item _).mono ?_
 rintro e w' ⟨rfl, rfl⟩
 obtain ⟨r1, hr1⟩ : ∃ r1, decide (1 ≤ item ∧ item ≤ 1000000) = r1 := ⟨_, rfl⟩
 rw [hr1];have HR1 := Lib.hid hr1;clear hr1
 go_wp2_with fail
 refine (gId15 nid _).mono ?_
 rintro e w' ⟨rfl, rfl⟩
 obtain ⟨r2, hr2⟩ : ∃ r2, decide (1 ≤ nid ∧ nid ≤ 1000000) = r2 := ⟨_, rfl⟩
 rw [hr2];have HR2 := Lib.hid hr2;clear hr2
 cases qb : (book == 0)
 ·have HBK : Hid (¬ book = 0) := (by simpa using qb : ¬ book = 0)
  go_wp2_with fail
  refine (gId15 book _).mono ?_
  rintro e w' ⟨rfl, rfl⟩
  obtain ⟨r3, hr3⟩ : ∃ r3, decide (1 ≤ book ∧ book ≤ 1000000) = r3 := ⟨_, rfl⟩
  rw [hr3];have HR3 := Lib.hid hr3;clear hr3
  cases r1
  ·have HV : Hid (sp = false) := HSP.out.symm.trans (by rw [decide_eq_false (fun h => of_decide_eq_false HR1.out h.2.1)]; rfl)
   clear HSP
   go_wp2_with fail
   go_ret;exact rb HV HB1 HN
  cases r2
  ·have HV : Hid (sp = false) := HSP.out.symm.trans (by rw [decide_eq_false (fun h => of_decide_eq_false HR2.out h.1)]; rfl)
   clear HSP
   go_wp2_with fail
   go_ret;exact rb HV HB1 HN
  cases r3
  ·have HV : Hid (sp = false) := HSP.out.symm.trans (by rw [decide_eq_false (fun h => h.2.2.2.2.elim (fun e => HBK.out e) (fun e => of_decide_eq_false HR3.out e))]; rfl)
   clear HSP
   go_wp2_with fail
   go_ret;exact rb HV HB1 HN
  rcases (show frs < 1 ∨ (¬ frs < 1 ∧ frs > 100000000) ∨ (¬ frs < 1 ∧ ¬ frs > 100000000 ∧ ear < 0) ∨ (¬ frs < 1 ∧ ¬ frs > 100000000 ∧ ¬ ear < 0 ∧ ear > lat) ∨ (¬ frs < 1 ∧ ¬ frs > 100000000 ∧ ¬ ear < 0 ∧ ¬ ear > lat ∧ lat > 100000000) ∨ (¬ frs < 1 ∧ ¬ frs > 100000000 ∧ ¬ ear < 0 ∧ ¬ ear > lat ∧ ¬ lat > 100000000) from by omega) with h3 | ⟨h3, h4⟩ | ⟨h3, h4, h5⟩ | ⟨h3, h4, h5, h6⟩ | ⟨h3, h4, h5, h6, h7⟩ | ⟨h3, h4, h5, h6, h7⟩
  ·have HV : Hid (sp = false) := HSP.out.symm.trans (by rw [decide_eq_false (by omega)]; rfl)
   clear HSP
   go_wp2_with fail
   go_ret;exact rb HV HB1 HN
  ·have HV : Hid (sp = false) := HSP.out.symm.trans (by rw [decide_eq_false (by omega)]; rfl)
   clear HSP
   go_wp2_with fail
   go_ret;exact rb HV HB1 HN
  ·have HV : Hid (sp = false) := HSP.out.symm.trans (by rw [decide_eq_false (by omega)]; rfl)
   clear HSP
   go_wp2_with fail
   go_ret;exact rb HV HB1 HN
  ·have HV : Hid (sp = false) := HSP.out.symm.trans (by rw [decide_eq_false (by omega)]; rfl)
   clear HSP
   go_wp2_with fail
   go_ret;exact rb HV HB1 HN
  ·have HV : Hid (sp = false) := HSP.out.symm.trans (by rw [decide_eq_false (by omega)]; rfl)
   clear HSP
   go_wp2_with fail
   go_ret;exact rb HV HB1 HN
  ·have HV : Hid (sp = ab) := HSP.out.symm.trans (by rw [decide_eq_true (show (1 ≤ nid ∧ nid ≤ 1000000) ∧ (1 ≤ item ∧ item ≤ 1000000) ∧ (1 ≤ frs ∧ frs ≤ 100000000) ∧ (0 ≤ ear ∧ ear ≤ lat ∧ lat ≤ 100000000) ∧ (book = 0 ∨ (1 ≤ book ∧ book ≤ 1000000)) from ⟨of_decide_eq_true HR2.out, of_decide_eq_true HR1.out, by omega, by omega, .inr (of_decide_eq_true HR3.out)⟩)]; rfl)
   clear HSP
   go_wp2_with fail
   go_loopw [6, 7] (fun vr vi wr => ∃ (i : Nat) (r : Int), i ≤ an ∧ vi = .int .i64 i ∧ vr = .int .i64 r ∧ Hid (ab = altsB r (al.drop i)) ∧ Hid (Below w1.heap.size w1 wr)) (fun _ v _ => an - (intOf v).toNat)
   case atStart => exact ⟨0, 0, Nat.zero_le _, rfl, rfl, HAB.out.symm, Below.refl _ _⟩
   case round =>
    obtain ⟨i, r, hin, rfl, rfl, HA, HBW⟩ := hrel
    have c6 : wr.cell? ⟨N, 6, none⟩ = some (.slice ao an ac) := (HBW.out.cell (p := ⟨N, 6, none⟩) HK1.out.lt).trans (HK1.out.cell 6)
    have HBB : Hid (Below W.heap.size W wr) := (by rw [HN.out]; exact HB1.out.trans (HBW.out.mono (bnl9 HN.out HB1.out)) : Below W.heap.size W wr)
    clear b0 b1 b2 b3 b4 b5 b6
    by_cases h : i < an
    ·have q1 : (i : Int) < (an : Int) := by omega
     have q2 : (0 : Int) ≤ (i : Int) := by omega
     have q3 : (i : Int) * 2 ≤ 2000000 := by omega
     obtain ⟨p, hp⟩ : ∃ p, al[i]? = some p := ⟨al[i]'(by rw [HLN.out]; exact h), List.getElem?_eq_getElem _⟩
     obtain ⟨b, o, rfl, hlt, a0, a1⟩ := (HR.out.kept HBW.out).at i p hp
     have hA := HA.out
     rw [adrop_cons hp] at hA
     obtain ⟨pr, pi⟩ := p
     simp only [altsB] at hA
     dsimp only at a0 a1
     have HA2 := Lib.hid hA;clear hA HA hp hlt
     go_wp2_with fail
     refine (gId15 pi _).mono ?_
     rintro e w' ⟨rfl, rfl⟩
     unfold idB at HA2
     cases h3 : (decide (1 ≤ pi ∧ pi ≤ 1000000))
     ·rw [h3] at HA2
      have HV2 : Hid (sp = false) := HV.out.trans (HA2.out.trans (by simp))
      go_wp2_with fail
      go_ret
      exact ⟨ret_bool HV2.out.symm, by first | exact HBB.out | (rw [← HN.out]; exact HBB.out)⟩
     ·rw [h3] at HA2
      rcases (show pr ≤ r ∨ (¬ pr ≤ r ∧ pr ≥ 8) ∨ (¬ pr ≤ r ∧ ¬ pr ≥ 8) from by omega) with h1 | ⟨h1, h2⟩ | ⟨h1, h2⟩
      ·have HV2 : Hid (sp = false) := HV.out.trans (HA2.out.trans (by rw [decide_eq_false (by omega : ¬ r < pr)]; rfl))
       go_wp2_with fail
       go_ret
       exact ⟨ret_bool HV2.out.symm, by first | exact HBB.out | (rw [← HN.out]; exact HBB.out)⟩
      ·have HV2 : Hid (sp = false) := HV.out.trans (HA2.out.trans (by rw [decide_eq_false (by omega : ¬ pr ≤ 7)]; simp))
       go_wp2_with fail
       go_ret
       exact ⟨ret_bool HV2.out.symm, by first | exact HBB.out | (rw [← HN.out]; exact HBB.out)⟩
      ·have HA3 : Hid (ab = altsB pr (al.drop (i + 1))) := HA2.out.trans (by rw [decide_eq_true (by omega : r < pr), decide_eq_true (by omega : pr ≤ 7)]; simp)
       go_wp2_with fail
       go_roundw
       case rel => exact ⟨i + 1, pr, by omega, by go_num, rfl, HA3, HBW⟩
       case measure => simp [intOf]; omega
    ·have q1 : ¬ (i : Int) < (an : Int) := by omega
     have HV2 : Hid (sp = true) := HV.out.trans (HA.out.trans (by rw [List.drop_of_length_le (by rw [HLN.out]; omega)]; rfl))
     clear h
     go_wp2_with fail
     go_ret
     exact ⟨ret_bool HV2.out.symm, by first | exact HBB.out | (rw [← HN.out]; exact HBB.out)⟩
 ·have pb : book = 0 := by simpa using qb
  subst pb
  cases r1
  ·have HV : Hid (sp = false) := HSP.out.symm.trans (by rw [decide_eq_false (fun h => of_decide_eq_false HR1.out h.2.1)]; rfl)
   clear HSP
   go_wp2_with fail
   go_ret;exact rb HV HB1 HN
  cases r2
  ·have HV : Hid (sp = false) := HSP.out.symm.trans (by rw [decide_eq_false (fun h => of_decide_eq_false HR2.out h.1)]; rfl)
   clear HSP
   go_wp2_with fail
   go_ret;exact rb HV HB1 HN
  rcases (show frs < 1 ∨ (¬ frs < 1 ∧ frs > 100000000) ∨ (¬ frs < 1 ∧ ¬ frs > 100000000 ∧ ear < 0) ∨ (¬ frs < 1 ∧ ¬ frs > 100000000 ∧ ¬ ear < 0 ∧ ear > lat) ∨ (¬ frs < 1 ∧ ¬ frs > 100000000 ∧ ¬ ear < 0 ∧ ¬ ear > lat ∧ lat > 100000000) ∨ (¬ frs < 1 ∧ ¬ frs > 100000000 ∧ ¬ ear < 0 ∧ ¬ ear > lat ∧ ¬ lat > 100000000) from by omega) with h3 | ⟨h3, h4⟩ | ⟨h3, h4, h5⟩ | ⟨h3, h4, h5, h6⟩ | ⟨h3, h4, h5, h6, h7⟩ | ⟨h3, h4, h5, h6, h7⟩
  ·have HV : Hid (sp = false) := HSP.out.symm.trans (by rw [decide_eq_false (by omega)]; rfl)
   clear HSP
   go_wp2_with fail
   go_ret;exact rb HV HB1 HN
  ·have HV : Hid (sp = false) := HSP.out.symm.trans (by rw [decide_eq_false (by omega)]; rfl)
   clear HSP
   go_wp2_with fail
   go_ret;exact rb HV HB1 HN
  ·have HV : Hid (sp = false) := HSP.out.symm.trans (by rw [decide_eq_false (by omega)]; rfl)
   clear HSP
   go_wp2_with fail
   go_ret;exact rb HV HB1 HN
  ·have HV : Hid (sp = false) := HSP.out.symm.trans (by rw [decide_eq_false (by omega)]; rfl)
   clear HSP
   go_wp2_with fail
   go_ret;exact rb HV HB1 HN
  ·have HV : Hid (sp = false) := HSP.out.symm.trans (by rw [decide_eq_false (by omega)]; rfl)
   clear HSP
   go_wp2_with fail
   go_ret;exact rb HV HB1 HN
  ·have HV : Hid (sp = ab) := HSP.out.symm.trans (by rw [decide_eq_true (show (1 ≤ nid ∧ nid ≤ 1000000) ∧ (1 ≤ item ∧ item ≤ 1000000) ∧ (1 ≤ frs ∧ frs ≤ 100000000) ∧ (0 ≤ ear ∧ ear ≤ lat ∧ lat ≤ 100000000) ∧ ((0 : Int) = 0 ∨ (1 ≤ (0 : Int) ∧ (0 : Int) ≤ 1000000)) from ⟨of_decide_eq_true HR2.out, of_decide_eq_true HR1.out, by omega, by omega, .inl rfl⟩)]; rfl)
   clear HSP
   go_wp2_with fail
   go_loopw [6, 7] (fun vr vi wr => ∃ (i : Nat) (r : Int), i ≤ an ∧ vi = .int .i64 i ∧ vr = .int .i64 r ∧ Hid (ab = altsB r (al.drop i)) ∧ Hid (Below w1.heap.size w1 wr)) (fun _ v _ => an - (intOf v).toNat)
   case atStart => exact ⟨0, 0, Nat.zero_le _, rfl, rfl, HAB.out.symm, Below.refl _ _⟩
   case round =>
    obtain ⟨i, r, hin, rfl, rfl, HA, HBW⟩ := hrel
    have c6 : wr.cell? ⟨N, 6, none⟩ = some (.slice ao an ac) := (HBW.out.cell (p := ⟨N, 6, none⟩) HK1.out.lt).trans (HK1.out.cell 6)
    have HBB : Hid (Below W.heap.size W wr) := (by rw [HN.out]; exact HB1.out.trans (HBW.out.mono (bnl9 HN.out HB1.out)) : Below W.heap.size W wr)
    clear b0 b1 b2 b3 b4 b5 b6
    by_cases h : i < an
    ·have q1 : (i : Int) < (an : Int) := by omega
     have q2 : (0 : Int) ≤ (i : Int) := by omega
     have q3 : (i : Int) * 2 ≤ 2000000 := by omega
     obtain ⟨p, hp⟩ : ∃ p, al[i]? = some p := ⟨al[i]'(by rw [HLN.out]; exact h), List.getElem?_eq_getElem _⟩
     obtain ⟨b, o, rfl, hlt, a0, a1⟩ := (HR.out.kept HBW.out).at i p hp
     have hA := HA.out
     rw [adrop_cons hp] at hA
     obtain ⟨pr, pi⟩ := p
     simp only [altsB] at hA
     dsimp only at a0 a1
     have HA2 := Lib.hid hA;clear hA HA hp hlt
     go_wp2_with fail
     refine (gId15 pi _).mono ?_
     rintro e w' ⟨rfl, rfl⟩
     unfold idB at HA2
     cases h3 : (decide (1 ≤ pi ∧ pi ≤ 1000000))
     ·rw [h3] at HA2
      have HV2 : Hid (sp = false) := HV.out.trans (HA2.out.trans (by simp))
      go_wp2_with fail
      go_ret
      exact ⟨ret_bool HV2.out.symm, by first | exact HBB.out | (rw [← HN.out]; exact HBB.out)⟩
     ·rw [h3] at HA2
      rcases (show pr ≤ r ∨ (¬ pr ≤ r ∧ pr ≥ 8) ∨ (¬ pr ≤ r ∧ ¬ pr ≥ 8) from by omega) with h1 | ⟨h1, h2⟩ | ⟨h1, h2⟩
      ·have HV2 : Hid (sp = false) := HV.out.trans (HA2.out.trans (by rw [decide_eq_false (by omega : ¬ r < pr)]; rfl))
       go_wp2_with fail
       go_ret
       exact ⟨ret_bool HV2.out.symm, by first | exact HBB.out | (rw [← HN.out]; exact HBB.out)⟩
      ·have HV2 : Hid (sp = false) := HV.out.trans (HA2.out.trans (by rw [decide_eq_false (by omega : ¬ pr ≤ 7)]; simp))
       go_wp2_with fail
       go_ret
       exact ⟨ret_bool HV2.out.symm, by first | exact HBB.out | (rw [← HN.out]; exact HBB.out)⟩
      ·have HA3 : Hid (ab = altsB pr (al.drop (i + 1))) := HA2.out.trans (by rw [decide_eq_true (by omega : r < pr), decide_eq_true (by omega : pr ≤ 7)]; simp)
       go_wp2_with fail
       go_roundw
       case rel => exact ⟨i + 1, pr, by omega, by go_num, rfl, HA3, HBW⟩
       case measure => simp [intOf]; omega
    ·have q1 : ¬ (i : Int) < (an : Int) := by omega
     have HV2 : Hid (sp = true) := HV.out.trans (HA.out.trans (by rw [List.drop_of_length_le (by rw [HLN.out]; omega)]; rfl))
     clear h
     go_wp2_with fail
     go_ret
     exact ⟨ret_bool HV2.out.symm, by first | exact HBB.out | (rw [← HN.out]; exact HBB.out)⟩
def GOd.w0 (o : GOd) : GOd := { s := o.s, ch := o.ch, f := o.f, k := o.k, e := 0, n := 0, nid := 0, item := 0, frs := 0, ear := 0, lat := 0, book := 0, ao := none, an := 0, ac := 0, cl := ⟨0, 0, 0, 0, 0, 0, 0, 0⟩, qid := 0, qf := 0, qt := 0, qp := 0, txt := ⟨#[]⟩ }
def GOd.wN (o : GOd) : GOd := { o.w0 with e := o.e, n := o.n }
def GOd.wE (o : GOd) : GOd := { o.w0 with e := o.e }
def GOd.wW (o : GOd) : GOd := { o.w0 with nid := o.nid, item := o.item, frs := o.frs, ear := o.ear, lat := o.lat, book := o.book, ao := o.ao, an := o.an, ac := o.ac }
def GOd.wC (o : GOd) : GOd := { o.w0 with cl := o.cl }
def GOd.wQ (o : GOd) : GOd := { o.w0 with qid := o.qid, qf := o.qf, qt := o.qt, qp := o.qp, txt := o.txt }
theorem gRef15_head (o : GOd) (W : World) (h : headB o = false) : Calls Tryz.prog 69 #[.agg o.l.toArray] W fun e w' => e = .returned (.bool false) ∧ Below W.heap.size W w' := by
 obtain ⟨N, w1, hN, hw1, hb1, hk2⟩ := bx W (aO o) o.l 30 rfl
 obtain ⟨c0, c1, c2, c3, c4, c5⟩ := cellsO hk2
 have HN := Lib.hid hN;have HB1 := Lib.hid hb1
 show Calls Tryz.prog 69 #[.agg (aO o)] W _
 have h' : ¬ (0 ≤ o.s ∧ o.s ≤ 200 ∧ -1 ≤ o.ch ∧ o.ch < 40 ∧ 0 ≤ o.f ∧ o.f ≤ 100000000) := by simpa [headB] using h
 clear h hk2 hb1
 rcases (show o.s < 0 ∨ (¬ o.s < 0 ∧ o.s > 200) ∨ (¬ o.s < 0 ∧ ¬ o.s > 200 ∧ o.ch < -1) ∨ (¬ o.s < 0 ∧ ¬ o.s > 200 ∧ ¬ o.ch < -1 ∧ o.ch ≥ 40) ∨ (¬ o.s < 0 ∧ ¬ o.s > 200 ∧ ¬ o.ch < -1 ∧ ¬ o.ch ≥ 40 ∧ o.f < 0) ∨ (¬ o.s < 0 ∧ ¬ o.s > 200 ∧ ¬ o.ch < -1 ∧ ¬ o.ch ≥ 40 ∧ ¬ o.f < 0 ∧ o.f > 100000000) from by omega) with h1 | ⟨h1, h2⟩ | ⟨h1, h2, h3⟩ | ⟨h1, h2, h3, h4⟩ | ⟨h1, h2, h3, h4, h5⟩ | ⟨h1, h2, h3, h4, h5, h6⟩
 ·clear h'
  go_enter Tryz.func69, Tryz.ntmps69
  go_wp2_with fail
  go_ret
  exact ⟨rfl, by first | exact HB1.out | (rw [HN.out]; exact HB1.out)⟩
 ·clear h'
  go_enter Tryz.func69, Tryz.ntmps69
  go_wp2_with fail
  go_ret
  exact ⟨rfl, by first | exact HB1.out | (rw [HN.out]; exact HB1.out)⟩
 ·clear h'
  go_enter Tryz.func69, Tryz.ntmps69
  go_wp2_with fail
  go_ret
  exact ⟨rfl, by first | exact HB1.out | (rw [HN.out]; exact HB1.out)⟩
 ·clear h'
  go_enter Tryz.func69, Tryz.ntmps69
  go_wp2_with fail
  go_ret
  exact ⟨rfl, by first | exact HB1.out | (rw [HN.out]; exact HB1.out)⟩
 ·clear h'
  go_enter Tryz.func69, Tryz.ntmps69
  go_wp2_with fail
  go_ret
  exact ⟨rfl, by first | exact HB1.out | (rw [HN.out]; exact HB1.out)⟩
 ·clear h'
  go_enter Tryz.func69, Tryz.ntmps69
  go_wp2_with fail
  go_ret
  exact ⟨rfl, by first | exact HB1.out | (rw [HN.out]; exact HB1.out)⟩
theorem gRef15_2 (o : GOd) (W : World) (al : List (Int × Int)) (hn : al.length = o.an) (hlm : o.an ≤ 1000000) (hr : RdA W o.ao al) (h : headB o = true) (hk : o.k = 2) : Calls Tryz.prog 69 #[.agg o.l.toArray] W fun e w' => e = .returned (.bool (idB o.e && sameOB o al o.wE [])) ∧ Below W.heap.size W w' := by
 obtain ⟨N, w1, hN, hw1, hb1, hk2⟩ := bx W (aO o) o.l 30 rfl
 obtain ⟨c0, c1, c2, c3, c4, c5⟩ := cellsO hk2
 have HN := Lib.hid hN;have HB1 := Lib.hid hb1
 show Calls Tryz.prog 69 #[.agg (aO o)] W _
 have h' : 0 ≤ o.s ∧ o.s ≤ 200 ∧ -1 ≤ o.ch ∧ o.ch < 40 ∧ 0 ≤ o.f ∧ o.f ≤ 100000000 := by simpa [headB] using h
 clear h
 obtain ⟨h1, h2, h3, h4, h5, h6⟩ := h'
 obtain ⟨M, w2, hM, hw2, hb2, hk3⟩ := bx w1 aZo lZo 30 rfl
 have hNM : N < M := by rw [← hM]; exact hk2.lt
 obtain ⟨w3, hw3⟩ : ∃ w3, w2.setRow M o.w0.l.toArray = w3 := ⟨_, rfl⟩
 have hk4 : Blk w3 M 30 o.w0.l := by rw [← hw3]; exact hk3.setRow _
 have hk5 : Blk w3 N 30 o.l := (hk2.kept (hb2.block N (by omega))).kept (by rw [← hw3]; exact heap_setRow_other _ _ _ _ (by omega))
 have hb3 : Below N W w3 := by rw [← hw3]; exact below_setRow (hb1.trans (hb2.mono (Nat.le_of_lt hNM))) (Nat.le_of_lt hNM) _
 have HSZ := szO
 have HO1 : Hid (o.w0.l.toArray.all (·.oneCell') = true) := o.w0.oneC
 have HO2 : Hid (aZo.size = o.w0.l.toArray.size) := rfl
 have HLE : Hid (N ≤ M) := Nat.le_of_lt hNM
 have HK3 := Lib.hid hk3;have HW3 := Lib.hid hw3
 have n1 : N ≠ M := by omega
 have n2 : M ≠ N := by omega
 have q1 : ¬ o.s < 0 := by omega
 have q2 : ¬ o.s > 200 := by omega
 have q3 : ¬ o.ch < -1 := by omega
 have q4 : ¬ o.ch ≥ 40 := by omega
 have q5 : ¬ o.f < 0 := by omega
 have q6 : ¬ o.f > 100000000 := by omega
 have d3 : w3.cell? ⟨N, 3, none⟩ = some (.int .i64 o.k) := hk5.cell 3
 rw [hk] at d3
 obtain ⟨sb, hsb⟩ : ∃ sb, sameOB o al o.wE [] = sb := ⟨_, rfl⟩
 have HS : ∀ w : World, RdA w o.ao al → Calls Tryz.prog 83 #[.agg o.l.toArray, .agg o.wE.l.toArray] w fun e w' => e = .returned (.bool sb) ∧ Below w.heap.size w w' := by
  intro w hw; rw [← hsb]; exact gSameOrd o o.wE al [] w hn rfl hlm (Nat.zero_le _) hw (Or.inl rfl)
 rw [hsb];clear hsb
 obtain ⟨sp, hsp⟩ : ∃ sp, (idB o.e && sb) = sp := ⟨_, rfl⟩
 rw [hsp];have HSP := Lib.hid hsp;clear hsp
 obtain ⟨v1, hv1⟩ : ∃ x, w3.setCell ⟨M, 4, none⟩ (.int .i64 o.e) = x := ⟨_, rfl⟩
 have hk6 : Blk v1 M 30 o.wE.l := by rw [← hv1]; exact (hk4.set 4 (.int .i64 o.e))
 have hk7 : Blk v1 N 30 o.l := by rw [← hv1]; exact (hk5.other ⟨M, 4, none⟩ n2 (.int .i64 o.e))
 have HB4 : Hid (Below N W v1) := by rw [← hv1]; exact (hb3.setCell (p := ⟨M, 4, none⟩) (Nat.le_of_lt hNM) _)
 have y4 : w3.cell? ⟨M, 4, none⟩ = some (.int .i64 0) := hk4.cell 4
 have z4 := hk4.frozen 4
 have kx1 := hk4.set 4 (.int .i64 o.e)
 rw [hv1] at kx1
 have ko1 := hk5.other ⟨M, 4, none⟩ n2 (.int .i64 o.e)
 rw [hv1] at ko1
 have e4 : w3.cell? ⟨N, 4, none⟩ = some (.int .i64 o.e) := hk5.cell 4
 have d4 : v1.cell? ⟨N, 4, none⟩ = some (.int .i64 o.e) := hk7.cell 4
 clear kx1 ko1;have HK6 := Lib.hid hk6;have HK7 := Lib.hid hk7
 have HRD : Hid (RdA W o.ao al) := hr
 clear hb1 hk2 hb2 hk3 hNM hk4 hk5 hb3 hw3 hk6 hk7 h1 h2 h3 h4 h5 h6 hk
 go_enter Tryz.func69, Tryz.ntmps69
 go_wp2_with (refine wpList_store_row rfl 30 (.tmp 3) (.tmp 42) rfl M o.w0.l.toArray rfl rfl 30 _ HK3.out HSZ.out HO2.out HO1.out ?_; rw [HW3.out])
 refine (gId15 o.e _).mono ?_
 rintro e w' ⟨rfl, rfl⟩
 have HB9 := HB4
 have HR9 := Lib.hid HK6.out.range;have HRN := Lib.hid HK7.out.range
 have HS9 := Lib.hid (HS _ (HRD.out.kept (hN ▸ HB4.out)))
 clear HS HRD
 by_cases hi : 1 ≤ o.e ∧ o.e ≤ 1000000
 ·rw [decide_eq_true hi]
  have HV : Hid (sp = sb) := HSP.out.symm.trans (by rw [idB, decide_eq_true hi]; rfl)
  go_wp2_with (first | (refine wpList_load_mid rfl 30 (.tmp 1) rfl N 0 rfl o.l _ HRN.out Tryz.underlying30 rfl HSZ.out ?_) | (refine wpList_load_mid rfl 30 (.tmp 3) rfl M 0 rfl o.wE.l _ HR9.out Tryz.underlying30 rfl HSZ.out ?_))
  refine HS9.out.mono ?_
  rintro e w9 ⟨rfl, hbs⟩
  have HBF : Hid (Below N W w9) := HB9.out.trans (hbs.mono (bnl9 HN.out HB9.out))
  clear hbs
  go_wp2_with fail
  go_ret;exact rb HV HBF HN
 ·rw [decide_eq_false hi]
  have HV : Hid (sp = false) := HSP.out.symm.trans (by rw [idB, decide_eq_false hi]; simp)
  go_wp2_with (first | (refine wpList_load_mid rfl 30 (.tmp 1) rfl N 0 rfl o.l _ HRN.out Tryz.underlying30 rfl HSZ.out ?_) | (refine wpList_load_mid rfl 30 (.tmp 3) rfl M 0 rfl o.wE.l _ HR9.out Tryz.underlying30 rfl HSZ.out ?_))
  refine HS9.out.mono ?_
  rintro e w9 ⟨rfl, hbs⟩
  have HBF : Hid (Below N W w9) := HB9.out.trans (hbs.mono (bnl9 HN.out HB9.out))
  clear hbs
  go_wp2_with fail
  go_ret;exact rb HV HBF HN
theorem gRef15_1 (o : GOd) (W : World) (al : List (Int × Int)) (hn : al.length = o.an) (hlm : o.an ≤ 1000000) (hr : RdA W o.ao al) (h : headB o = true) (hk : o.k = 1) : Calls Tryz.prog 69 #[.agg o.l.toArray] W fun e w' => e = .returned (.bool ((decide (-100000000 ≤ o.n ∧ o.n ≤ 100000000) && idB o.e) && sameOB o al o.wN [])) ∧ Below W.heap.size W w' := by
 obtain ⟨N, w1, hN, hw1, hb1, hk2⟩ := bx W (aO o) o.l 30 rfl
 obtain ⟨c0, c1, c2, c3, c4, c5⟩ := cellsO hk2
 have HN := Lib.hid hN;have HB1 := Lib.hid hb1
 show Calls Tryz.prog 69 #[.agg (aO o)] W _
 have h' : 0 ≤ o.s ∧ o.s ≤ 200 ∧ -1 ≤ o.ch ∧ o.ch < 40 ∧ 0 ≤ o.f ∧ o.f ≤ 100000000 := by simpa [headB] using h
 clear h
 obtain ⟨h1, h2, h3, h4, h5, h6⟩ := h'
 obtain ⟨M, w2, hM, hw2, hb2, hk3⟩ := bx w1 aZo lZo 30 rfl
 have hNM : N < M := by rw [← hM]; exact hk2.lt
 obtain ⟨w3, hw3⟩ : ∃ w3, w2.setRow M o.w0.l.toArray = w3 := ⟨_, rfl⟩
 have hk4 : Blk w3 M 30 o.w0.l := by rw [← hw3]; exact hk3.setRow _
 have hk5 : Blk w3 N 30 o.l := (hk2.kept (hb2.block N (by omega))).kept (by rw [← hw3]; exact heap_setRow_other _ _ _ _ (by omega))
 have hb3 : Below N W w3 := by rw [← hw3]; exact below_setRow (hb1.trans (hb2.mono (Nat.le_of_lt hNM))) (Nat.le_of_lt hNM) _
 have HSZ := szO
 have HO1 : Hid (o.w0.l.toArray.all (·.oneCell') = true) := o.w0.oneC
 have HO2 : Hid (aZo.size = o.w0.l.toArray.size) := rfl
 have HLE : Hid (N ≤ M) := Nat.le_of_lt hNM
 have HK3 := Lib.hid hk3;have HW3 := Lib.hid hw3
 have n1 : N ≠ M := by omega
 have n2 : M ≠ N := by omega
 have q1 : ¬ o.s < 0 := by omega
 have q2 : ¬ o.s > 200 := by omega
 have q3 : ¬ o.ch < -1 := by omega
 have q4 : ¬ o.ch ≥ 40 := by omega
 have q5 : ¬ o.f < 0 := by omega
 have q6 : ¬ o.f > 100000000 := by omega
 have d3 : w3.cell? ⟨N, 3, none⟩ = some (.int .i64 o.k) := hk5.cell 3
 rw [hk] at d3
 obtain ⟨sb, hsb⟩ : ∃ sb, sameOB o al o.wN [] = sb := ⟨_, rfl⟩
 have HS : ∀ w : World, RdA w o.ao al → Calls Tryz.prog 83 #[.agg o.l.toArray, .agg o.wN.l.toArray] w fun e w' => e = .returned (.bool sb) ∧ Below w.heap.size w w' := by
  intro w hw; rw [← hsb]; exact gSameOrd o o.wN al [] w hn rfl hlm (Nat.zero_le _) hw (Or.inl rfl)
 rw [hsb];clear hsb
 obtain ⟨sp, hsp⟩ : ∃ sp, ((decide (-100000000 ≤ o.n ∧ o.n ≤ 100000000) && idB o.e) && sb) = sp := ⟨_, rfl⟩
 rw [hsp];have HSP := Lib.hid hsp;clear hsp
 obtain ⟨v1, hv1⟩ : ∃ x, w3.setCell ⟨M, 4, none⟩ (.int .i64 o.e) = x := ⟨_, rfl⟩
 obtain ⟨v2, hv2⟩ : ∃ x, v1.setCell ⟨M, 5, none⟩ (.int .i64 o.n) = x := ⟨_, rfl⟩
 have hk6 : Blk v2 M 30 o.wN.l := by rw [← hv2, ← hv1]; exact ((hk4.set 4 (.int .i64 o.e)).set 5 (.int .i64 o.n))
 have hk7 : Blk v2 N 30 o.l := by rw [← hv2, ← hv1]; exact ((hk5.other ⟨M, 4, none⟩ n2 (.int .i64 o.e)).other ⟨M, 5, none⟩ n2 (.int .i64 o.n))
 have HB4 : Hid (Below N W v2) := by rw [← hv2, ← hv1]; exact ((hb3.setCell (p := ⟨M, 4, none⟩) (Nat.le_of_lt hNM) _).setCell (p := ⟨M, 5, none⟩) (Nat.le_of_lt hNM) _)
 have y4 : w3.cell? ⟨M, 4, none⟩ = some (.int .i64 0) := hk4.cell 4
 have z4 := hk4.frozen 4
 have kx1 := hk4.set 4 (.int .i64 o.e)
 rw [hv1] at kx1
 have e4 : w3.cell? ⟨N, 4, none⟩ = some (.int .i64 o.e) := hk5.cell 4
 have ko1 := hk5.other ⟨M, 4, none⟩ n2 (.int .i64 o.e)
 rw [hv1] at ko1
 have y5 : v1.cell? ⟨M, 5, none⟩ = some (.int .i64 0) := kx1.cell 5
 have z5 := kx1.frozen 5
 have kx2 := kx1.set 5 (.int .i64 o.n)
 rw [hv2] at kx2
 have e5 : v1.cell? ⟨N, 5, none⟩ = some (.int .i64 o.n) := ko1.cell 5
 have ko2 := ko1.other ⟨M, 5, none⟩ n2 (.int .i64 o.n)
 rw [hv2] at ko2
 have d4 : v2.cell? ⟨N, 4, none⟩ = some (.int .i64 o.e) := hk7.cell 4
 have d5 : v2.cell? ⟨N, 5, none⟩ = some (.int .i64 o.n) := hk7.cell 5
 clear kx1 ko1 kx2 ko2;have HK6 := Lib.hid hk6;have HK7 := Lib.hid hk7
 have HRD : Hid (RdA W o.ao al) := hr
 clear hb1 hk2 hb2 hk3 hNM hk4 hk5 hb3 hw3 hk6 hk7 h1 h2 h3 h4 h5 h6 hk
 go_enter Tryz.func69, Tryz.ntmps69
 go_wp2_with (refine wpList_store_row rfl 30 (.tmp 3) (.tmp 42) rfl M o.w0.l.toArray rfl rfl 30 _ HK3.out HSZ.out HO2.out HO1.out ?_; rw [HW3.out])
 refine (gId15 o.e _).mono ?_
 rintro e w' ⟨rfl, rfl⟩
 have HB9 := HB4
 have HR9 := Lib.hid HK6.out.range;have HRN := Lib.hid HK7.out.range
 have HS9 := Lib.hid (HS _ (HRD.out.kept (hN ▸ HB4.out)))
 clear HS HRD
 by_cases hi : 1 ≤ o.e ∧ o.e ≤ 1000000
 ·rw [decide_eq_true hi]
  rcases (show ¬ o.n ≥ -100000000 ∨ (o.n ≥ -100000000 ∧ ¬ o.n ≤ 100000000) ∨ (o.n ≥ -100000000 ∧ o.n ≤ 100000000) from by omega) with g1 | ⟨g1, g2⟩ | ⟨g1, g2⟩
  ·have HV : Hid (sp = false) := HSP.out.symm.trans (by rw [decide_eq_false (show ¬ (-100000000 ≤ o.n ∧ o.n ≤ 100000000) by omega)]; rfl)
   go_wp2_with (first | (refine wpList_load_mid rfl 30 (.tmp 1) rfl N 0 rfl o.l _ HRN.out Tryz.underlying30 rfl HSZ.out ?_) | (refine wpList_load_mid rfl 30 (.tmp 3) rfl M 0 rfl o.wN.l _ HR9.out Tryz.underlying30 rfl HSZ.out ?_))
   refine HS9.out.mono ?_
   rintro e w9 ⟨rfl, hbs⟩
   have HBF : Hid (Below N W w9) := HB9.out.trans (hbs.mono (bnl9 HN.out HB9.out))
   clear hbs
   go_wp2_with fail
   go_ret;exact rb HV HBF HN
  ·have HV : Hid (sp = false) := HSP.out.symm.trans (by rw [decide_eq_false (show ¬ (-100000000 ≤ o.n ∧ o.n ≤ 100000000) by omega)]; rfl)
   go_wp2_with (first | (refine wpList_load_mid rfl 30 (.tmp 1) rfl N 0 rfl o.l _ HRN.out Tryz.underlying30 rfl HSZ.out ?_) | (refine wpList_load_mid rfl 30 (.tmp 3) rfl M 0 rfl o.wN.l _ HR9.out Tryz.underlying30 rfl HSZ.out ?_))
   refine HS9.out.mono ?_
   rintro e w9 ⟨rfl, hbs⟩
   have HBF : Hid (Below N W w9) := HB9.out.trans (hbs.mono (bnl9 HN.out HB9.out))
   clear hbs
   go_wp2_with fail
   go_ret;exact rb HV HBF HN
  ·have HV : Hid (sp = sb) := HSP.out.symm.trans (by rw [idB, decide_eq_true hi, decide_eq_true (show (-100000000 ≤ o.n ∧ o.n ≤ 100000000) by omega)]; rfl)
   go_wp2_with (first | (refine wpList_load_mid rfl 30 (.tmp 1) rfl N 0 rfl o.l _ HRN.out Tryz.underlying30 rfl HSZ.out ?_) | (refine wpList_load_mid rfl 30 (.tmp 3) rfl M 0 rfl o.wN.l _ HR9.out Tryz.underlying30 rfl HSZ.out ?_))
   refine HS9.out.mono ?_
   rintro e w9 ⟨rfl, hbs⟩
   have HBF : Hid (Below N W w9) := HB9.out.trans (hbs.mono (bnl9 HN.out HB9.out))
   clear hbs
   go_wp2_with fail
   go_ret;exact rb HV HBF HN
 ·rw [decide_eq_false hi]
  have HV : Hid (sp = false) := HSP.out.symm.trans (by rw [idB, decide_eq_false hi]; simp)
  go_wp2_with (first | (refine wpList_load_mid rfl 30 (.tmp 1) rfl N 0 rfl o.l _ HRN.out Tryz.underlying30 rfl HSZ.out ?_) | (refine wpList_load_mid rfl 30 (.tmp 3) rfl M 0 rfl o.wN.l _ HR9.out Tryz.underlying30 rfl HSZ.out ?_))
  refine HS9.out.mono ?_
  rintro e w9 ⟨rfl, hbs⟩
  have HBF : Hid (Below N W w9) := HB9.out.trans (hbs.mono (bnl9 HN.out HB9.out))
  clear hbs
  go_wp2_with fail
  go_ret;exact rb HV HBF HN
theorem gRef15_4 (o : GOd) (W : World) (al : List (Int × Int)) (hn : al.length = o.an) (hlm : o.an ≤ 1000000) (hr : RdA W o.ao al) (h : headB o = true) (hk : o.k = 4) : Calls Tryz.prog 69 #[.agg o.l.toArray] W fun e w' => e = .returned (.bool (o.cl.ok && sameOB o al o.wC [])) ∧ Below W.heap.size W w' := by
 obtain ⟨N, w1, hN, hw1, hb1, hk2⟩ := bx W (aO o) o.l 30 rfl
 obtain ⟨c0, c1, c2, c3, c4, c5⟩ := cellsO hk2
 have HN := Lib.hid hN;have HB1 := Lib.hid hb1
 show Calls Tryz.prog 69 #[.agg (aO o)] W _
 have h' : 0 ≤ o.s ∧ o.s ≤ 200 ∧ -1 ≤ o.ch ∧ o.ch < 40 ∧ 0 ≤ o.f ∧ o.f ≤ 100000000 := by simpa [headB] using h
 clear h
 obtain ⟨h1, h2, h3, h4, h5, h6⟩ := h'
 obtain ⟨M, w2, hM, hw2, hb2, hk3⟩ := bx w1 aZo lZo 30 rfl
 have hNM : N < M := by rw [← hM]; exact hk2.lt
 obtain ⟨w3, hw3⟩ : ∃ w3, w2.setRow M o.w0.l.toArray = w3 := ⟨_, rfl⟩
 have hk4 : Blk w3 M 30 o.w0.l := by rw [← hw3]; exact hk3.setRow _
 have hk5 : Blk w3 N 30 o.l := (hk2.kept (hb2.block N (by omega))).kept (by rw [← hw3]; exact heap_setRow_other _ _ _ _ (by omega))
 have hb3 : Below N W w3 := by rw [← hw3]; exact below_setRow (hb1.trans (hb2.mono (Nat.le_of_lt hNM))) (Nat.le_of_lt hNM) _
 have HSZ := szO
 have HO1 : Hid (o.w0.l.toArray.all (·.oneCell') = true) := o.w0.oneC
 have HO2 : Hid (aZo.size = o.w0.l.toArray.size) := rfl
 have HLE : Hid (N ≤ M) := Nat.le_of_lt hNM
 have HK3 := Lib.hid hk3;have HW3 := Lib.hid hw3
 have n1 : N ≠ M := by omega
 have n2 : M ≠ N := by omega
 have q1 : ¬ o.s < 0 := by omega
 have q2 : ¬ o.s > 200 := by omega
 have q3 : ¬ o.ch < -1 := by omega
 have q4 : ¬ o.ch ≥ 40 := by omega
 have q5 : ¬ o.f < 0 := by omega
 have q6 : ¬ o.f > 100000000 := by omega
 have d3 : w3.cell? ⟨N, 3, none⟩ = some (.int .i64 o.k) := hk5.cell 3
 rw [hk] at d3
 obtain ⟨sb, hsb⟩ : ∃ sb, sameOB o al o.wC [] = sb := ⟨_, rfl⟩
 have HS : ∀ w : World, RdA w o.ao al → Calls Tryz.prog 83 #[.agg o.l.toArray, .agg o.wC.l.toArray] w fun e w' => e = .returned (.bool sb) ∧ Below w.heap.size w w' := by
  intro w hw; rw [← hsb]; exact gSameOrd o o.wC al [] w hn rfl hlm (Nat.zero_le _) hw (Or.inl rfl)
 rw [hsb];clear hsb
 obtain ⟨sp, hsp⟩ : ∃ sp, (o.cl.ok && sb) = sp := ⟨_, rfl⟩
 rw [hsp];have HSP := Lib.hid hsp;clear hsp
 obtain ⟨v1, hv1⟩ : ∃ x, w3.setCell ⟨M, 13, none⟩ (.int .i64 o.cl.kind) = x := ⟨_, rfl⟩
 obtain ⟨v2, hv2⟩ : ∃ x, v1.setCell ⟨M, 14, none⟩ (.int .i64 o.cl.item) = x := ⟨_, rfl⟩
 obtain ⟨v3, hv3⟩ : ∃ x, v2.setCell ⟨M, 15, none⟩ (.int .i64 o.cl.frm) = x := ⟨_, rfl⟩
 obtain ⟨v4, hv4⟩ : ∃ x, v3.setCell ⟨M, 16, none⟩ (.int .i64 o.cl.til) = x := ⟨_, rfl⟩
 obtain ⟨v5, hv5⟩ : ∃ x, v4.setCell ⟨M, 17, none⟩ (.int .i64 o.cl.regs) = x := ⟨_, rfl⟩
 obtain ⟨v6, hv6⟩ : ∃ x, v5.setCell ⟨M, 18, none⟩ (.int .i64 o.cl.n) = x := ⟨_, rfl⟩
 obtain ⟨v7, hv7⟩ : ∃ x, v6.setCell ⟨M, 19, none⟩ (.int .i64 o.cl.a) = x := ⟨_, rfl⟩
 obtain ⟨v8, hv8⟩ : ∃ x, v7.setCell ⟨M, 20, none⟩ (.int .i64 o.cl.b) = x := ⟨_, rfl⟩
 have hk6 : Blk v8 M 30 o.wC.l := by rw [← hv8, ← hv7, ← hv6, ← hv5, ← hv4, ← hv3, ← hv2, ← hv1]; exact ((((((((hk4.set 13 (.int .i64 o.cl.kind)).set 14 (.int .i64 o.cl.item)).set 15 (.int .i64 o.cl.frm)).set 16 (.int .i64 o.cl.til)).set 17 (.int .i64 o.cl.regs)).set 18 (.int .i64 o.cl.n)).set 19 (.int .i64 o.cl.a)).set 20 (.int .i64 o.cl.b))
 have hk7 : Blk v8 N 30 o.l := by rw [← hv8, ← hv7, ← hv6, ← hv5, ← hv4, ← hv3, ← hv2, ← hv1]; exact ((((((((hk5.other ⟨M, 13, none⟩ n2 (.int .i64 o.cl.kind)).other ⟨M, 14, none⟩ n2 (.int .i64 o.cl.item)).other ⟨M, 15, none⟩ n2 (.int .i64 o.cl.frm)).other ⟨M, 16, none⟩ n2 (.int .i64 o.cl.til)).other ⟨M, 17, none⟩ n2 (.int .i64 o.cl.regs)).other ⟨M, 18, none⟩ n2 (.int .i64 o.cl.n)).other ⟨M, 19, none⟩ n2 (.int .i64 o.cl.a)).other ⟨M, 20, none⟩ n2 (.int .i64 o.cl.b))
 have HB4 : Hid (Below N W v8) := by rw [← hv8, ← hv7, ← hv6, ← hv5, ← hv4, ← hv3, ← hv2, ← hv1]; exact ((((((((hb3.setCell (p := ⟨M, 13, none⟩) (Nat.le_of_lt hNM) _).setCell (p := ⟨M, 14, none⟩) (Nat.le_of_lt hNM) _).setCell (p := ⟨M, 15, none⟩) (Nat.le_of_lt hNM) _).setCell (p := ⟨M, 16, none⟩) (Nat.le_of_lt hNM) _).setCell (p := ⟨M, 17, none⟩) (Nat.le_of_lt hNM) _).setCell (p := ⟨M, 18, none⟩) (Nat.le_of_lt hNM) _).setCell (p := ⟨M, 19, none⟩) (Nat.le_of_lt hNM) _).setCell (p := ⟨M, 20, none⟩) (Nat.le_of_lt hNM) _)
 have y13 : w3.cell? ⟨M, 13, none⟩ = some (.int .i64 0) := hk4.cell 13
 have z13 := hk4.frozen 13
 have kx1 := hk4.set 13 (.int .i64 o.cl.kind)
 rw [hv1] at kx1
 have ko1 := hk5.other ⟨M, 13, none⟩ n2 (.int .i64 o.cl.kind)
 rw [hv1] at ko1
 have y14 : v1.cell? ⟨M, 14, none⟩ = some (.int .i64 0) := kx1.cell 14
 have z14 := kx1.frozen 14
 have kx2 := kx1.set 14 (.int .i64 o.cl.item)
 rw [hv2] at kx2
 have ko2 := ko1.other ⟨M, 14, none⟩ n2 (.int .i64 o.cl.item)
 rw [hv2] at ko2
 have y15 : v2.cell? ⟨M, 15, none⟩ = some (.int .i64 0) := kx2.cell 15
 have z15 := kx2.frozen 15
 have kx3 := kx2.set 15 (.int .i64 o.cl.frm)
 rw [hv3] at kx3
 have ko3 := ko2.other ⟨M, 15, none⟩ n2 (.int .i64 o.cl.frm)
 rw [hv3] at ko3
 have y16 : v3.cell? ⟨M, 16, none⟩ = some (.int .i64 0) := kx3.cell 16
 have z16 := kx3.frozen 16
 have kx4 := kx3.set 16 (.int .i64 o.cl.til)
 rw [hv4] at kx4
 have ko4 := ko3.other ⟨M, 16, none⟩ n2 (.int .i64 o.cl.til)
 rw [hv4] at ko4
 have y17 : v4.cell? ⟨M, 17, none⟩ = some (.int .i64 0) := kx4.cell 17
 have z17 := kx4.frozen 17
 have kx5 := kx4.set 17 (.int .i64 o.cl.regs)
 rw [hv5] at kx5
 have ko5 := ko4.other ⟨M, 17, none⟩ n2 (.int .i64 o.cl.regs)
 rw [hv5] at ko5
 have y18 : v5.cell? ⟨M, 18, none⟩ = some (.int .i64 0) := kx5.cell 18
 have z18 := kx5.frozen 18
 have kx6 := kx5.set 18 (.int .i64 o.cl.n)
 rw [hv6] at kx6
 have ko6 := ko5.other ⟨M, 18, none⟩ n2 (.int .i64 o.cl.n)
 rw [hv6] at ko6
 have y19 : v6.cell? ⟨M, 19, none⟩ = some (.int .i64 0) := kx6.cell 19
 have z19 := kx6.frozen 19
 have kx7 := kx6.set 19 (.int .i64 o.cl.a)
 rw [hv7] at kx7
 have ko7 := ko6.other ⟨M, 19, none⟩ n2 (.int .i64 o.cl.a)
 rw [hv7] at ko7
 have y20 : v7.cell? ⟨M, 20, none⟩ = some (.int .i64 0) := kx7.cell 20
 have z20 := kx7.frozen 20
 have kx8 := kx7.set 20 (.int .i64 o.cl.b)
 rw [hv8] at kx8
 have ko8 := ko7.other ⟨M, 20, none⟩ n2 (.int .i64 o.cl.b)
 rw [hv8] at ko8
 have e13 : w3.cell? ⟨N, 13, none⟩ = some (.int .i64 o.cl.kind) := hk5.cell 13
 have e14 : w3.cell? ⟨N, 14, none⟩ = some (.int .i64 o.cl.item) := hk5.cell 14
 have e15 : w3.cell? ⟨N, 15, none⟩ = some (.int .i64 o.cl.frm) := hk5.cell 15
 have e16 : w3.cell? ⟨N, 16, none⟩ = some (.int .i64 o.cl.til) := hk5.cell 16
 have e17 : w3.cell? ⟨N, 17, none⟩ = some (.int .i64 o.cl.regs) := hk5.cell 17
 have e18 : w3.cell? ⟨N, 18, none⟩ = some (.int .i64 o.cl.n) := hk5.cell 18
 have e19 : w3.cell? ⟨N, 19, none⟩ = some (.int .i64 o.cl.a) := hk5.cell 19
 have e20 : w3.cell? ⟨N, 20, none⟩ = some (.int .i64 o.cl.b) := hk5.cell 20
 have d13 : v8.cell? ⟨N, 13, none⟩ = some (.int .i64 o.cl.kind) := hk7.cell 13
 have d14 : v8.cell? ⟨N, 14, none⟩ = some (.int .i64 o.cl.item) := hk7.cell 14
 have d15 : v8.cell? ⟨N, 15, none⟩ = some (.int .i64 o.cl.frm) := hk7.cell 15
 have d16 : v8.cell? ⟨N, 16, none⟩ = some (.int .i64 o.cl.til) := hk7.cell 16
 have d17 : v8.cell? ⟨N, 17, none⟩ = some (.int .i64 o.cl.regs) := hk7.cell 17
 have d18 : v8.cell? ⟨N, 18, none⟩ = some (.int .i64 o.cl.n) := hk7.cell 18
 have d19 : v8.cell? ⟨N, 19, none⟩ = some (.int .i64 o.cl.a) := hk7.cell 19
 have d20 : v8.cell? ⟨N, 20, none⟩ = some (.int .i64 o.cl.b) := hk7.cell 20
 clear kx1 ko1 kx2 ko2 kx3 ko3 kx4 ko4 kx5 ko5 kx6 ko6 kx7 ko7 kx8 ko8;have HK6 := Lib.hid hk6;have HK7 := Lib.hid hk7
 have HRD : Hid (RdA W o.ao al) := hr
 have HC := Lib.hid (gRef06 o.cl v8)
 obtain ⟨tb, htb⟩ : ∃ tb, o.cl.ok = tb := ⟨_, rfl⟩
 have HV0 : Hid (sp = (tb && sb)) := by rw [← HSP.out, htb]; exact Lib.hid rfl
 rw [htb] at HC;clear htb HSP;clear hb1 hk2 hb2 hk3 hNM hk4 hk5 hb3 hw3 hk6 hk7 h1 h2 h3 h4 h5 h6 hk
 go_enter Tryz.func69, Tryz.ntmps69
 go_wp2_with (refine wpList_store_row rfl 30 (.tmp 3) (.tmp 42) rfl M o.w0.l.toArray rfl rfl 30 _ HK3.out HSZ.out HO2.out HO1.out ?_; rw [HW3.out])
 refine HC.out.mono ?_
 rintro e w' ⟨rfl, hbc⟩
 have HB9 : Hid (Below N W w') := HB4.out.trans (hbc.mono (bnl9 HN.out HB4.out))
 have HR9 := Lib.hid (HK6.out.kept (hbc.block M HK6.out.lt)).range
 have HRN := Lib.hid (HK7.out.kept (hbc.block N HK7.out.lt)).range
 have HS9 := Lib.hid (HS _ (HRD.out.kept (hN ▸ HB9.out)))
 clear hbc HC HS HRD
 cases tb
 ·have HV : Hid (sp = false) := HV0.out.trans (by rfl)
  go_wp2_with (first | (refine wpList_load_mid rfl 30 (.tmp 1) rfl N 0 rfl o.l _ HRN.out Tryz.underlying30 rfl HSZ.out ?_) | (refine wpList_load_mid rfl 30 (.tmp 3) rfl M 0 rfl o.wC.l _ HR9.out Tryz.underlying30 rfl HSZ.out ?_))
  refine HS9.out.mono ?_
  rintro e w9 ⟨rfl, hbs⟩
  have HBF : Hid (Below N W w9) := HB9.out.trans (hbs.mono (bnl9 HN.out HB9.out))
  clear hbs
  go_wp2_with fail
  go_ret;exact rb HV HBF HN
 ·have HV : Hid (sp = sb) := HV0.out.trans (by rfl)
  go_wp2_with (first | (refine wpList_load_mid rfl 30 (.tmp 1) rfl N 0 rfl o.l _ HRN.out Tryz.underlying30 rfl HSZ.out ?_) | (refine wpList_load_mid rfl 30 (.tmp 3) rfl M 0 rfl o.wC.l _ HR9.out Tryz.underlying30 rfl HSZ.out ?_))
  refine HS9.out.mono ?_
  rintro e w9 ⟨rfl, hbs⟩
  have HBF : Hid (Below N W w9) := HB9.out.trans (hbs.mono (bnl9 HN.out HB9.out))
  clear hbs
  go_wp2_with fail
  go_ret;exact rb HV HBF HN
theorem gRef15_3 (o : GOd) (W : World) (al : List (Int × Int)) (hn : al.length = o.an) (hlm : o.an ≤ 1000000) (hr : RdA W o.ao al) (h : headB o = true) (hk : o.k = 3) : Calls Tryz.prog 69 #[.agg o.l.toArray] W fun e w' => e = .returned (.bool (insB o.nid o.item o.frs o.ear o.lat o.book al && sameOB o al o.wW al)) ∧ Below W.heap.size W w' := by
 obtain ⟨N, w1, hN, hw1, hb1, hk2⟩ := bx W (aO o) o.l 30 rfl
 obtain ⟨c0, c1, c2, c3, c4, c5⟩ := cellsO hk2
 have HN := Lib.hid hN;have HB1 := Lib.hid hb1
 show Calls Tryz.prog 69 #[.agg (aO o)] W _
 have h' : 0 ≤ o.s ∧ o.s ≤ 200 ∧ -1 ≤ o.ch ∧ o.ch < 40 ∧ 0 ≤ o.f ∧ o.f ≤ 100000000 := by simpa [headB] using h
 clear h
 obtain ⟨h1, h2, h3, h4, h5, h6⟩ := h'
 obtain ⟨M, w2, hM, hw2, hb2, hk3⟩ := bx w1 aZo lZo 30 rfl
 have hNM : N < M := by rw [← hM]; exact hk2.lt
 obtain ⟨w3, hw3⟩ : ∃ w3, w2.setRow M o.w0.l.toArray = w3 := ⟨_, rfl⟩
 have hk4 : Blk w3 M 30 o.w0.l := by rw [← hw3]; exact hk3.setRow _
 have hk5 : Blk w3 N 30 o.l := (hk2.kept (hb2.block N (by omega))).kept (by rw [← hw3]; exact heap_setRow_other _ _ _ _ (by omega))
 have hb3 : Below N W w3 := by rw [← hw3]; exact below_setRow (hb1.trans (hb2.mono (Nat.le_of_lt hNM))) (Nat.le_of_lt hNM) _
 have HSZ := szO
 have HO1 : Hid (o.w0.l.toArray.all (·.oneCell') = true) := o.w0.oneC
 have HO2 : Hid (aZo.size = o.w0.l.toArray.size) := rfl
 have HLE : Hid (N ≤ M) := Nat.le_of_lt hNM
 have HK3 := Lib.hid hk3;have HW3 := Lib.hid hw3
 have n1 : N ≠ M := by omega
 have n2 : M ≠ N := by omega
 have q1 : ¬ o.s < 0 := by omega
 have q2 : ¬ o.s > 200 := by omega
 have q3 : ¬ o.ch < -1 := by omega
 have q4 : ¬ o.ch ≥ 40 := by omega
 have q5 : ¬ o.f < 0 := by omega
 have q6 : ¬ o.f > 100000000 := by omega
 have d3 : w3.cell? ⟨N, 3, none⟩ = some (.int .i64 o.k) := hk5.cell 3
 rw [hk] at d3
 obtain ⟨sb, hsb⟩ : ∃ sb, sameOB o al o.wW al = sb := ⟨_, rfl⟩
 have HS : ∀ w : World, RdA w o.ao al → Calls Tryz.prog 83 #[.agg o.l.toArray, .agg o.wW.l.toArray] w fun e w' => e = .returned (.bool sb) ∧ Below w.heap.size w w' := by
  intro w hw; rw [← hsb]; exact gSameOrd o o.wW al al w hn hn hlm hlm hw hw
 rw [hsb];clear hsb
 obtain ⟨sp, hsp⟩ : ∃ sp, (insB o.nid o.item o.frs o.ear o.lat o.book al && sb) = sp := ⟨_, rfl⟩
 rw [hsp];have HSP := Lib.hid hsp;clear hsp
 obtain ⟨v1, hv1⟩ : ∃ x, w3.setCell ⟨M, 6, none⟩ (.int .i64 o.nid) = x := ⟨_, rfl⟩
 obtain ⟨v2, hv2⟩ : ∃ x, v1.setCell ⟨M, 7, none⟩ (.int .i64 o.item) = x := ⟨_, rfl⟩
 obtain ⟨v3, hv3⟩ : ∃ x, v2.setCell ⟨M, 8, none⟩ (.int .i64 o.frs) = x := ⟨_, rfl⟩
 obtain ⟨v4, hv4⟩ : ∃ x, v3.setCell ⟨M, 9, none⟩ (.int .i64 o.ear) = x := ⟨_, rfl⟩
 obtain ⟨v5, hv5⟩ : ∃ x, v4.setCell ⟨M, 10, none⟩ (.int .i64 o.lat) = x := ⟨_, rfl⟩
 obtain ⟨v6, hv6⟩ : ∃ x, v5.setCell ⟨M, 11, none⟩ (.int .i64 o.book) = x := ⟨_, rfl⟩
 obtain ⟨v7, hv7⟩ : ∃ x, v6.setCell ⟨M, 12, none⟩ (.slice o.ao o.an o.ac) = x := ⟨_, rfl⟩
 have hk6 : Blk v7 M 30 o.wW.l := by rw [← hv7, ← hv6, ← hv5, ← hv4, ← hv3, ← hv2, ← hv1]; exact (((((((hk4.set 6 (.int .i64 o.nid)).set 7 (.int .i64 o.item)).set 8 (.int .i64 o.frs)).set 9 (.int .i64 o.ear)).set 10 (.int .i64 o.lat)).set 11 (.int .i64 o.book)).set 12 (.slice o.ao o.an o.ac))
 have hk7 : Blk v7 N 30 o.l := by rw [← hv7, ← hv6, ← hv5, ← hv4, ← hv3, ← hv2, ← hv1]; exact (((((((hk5.other ⟨M, 6, none⟩ n2 (.int .i64 o.nid)).other ⟨M, 7, none⟩ n2 (.int .i64 o.item)).other ⟨M, 8, none⟩ n2 (.int .i64 o.frs)).other ⟨M, 9, none⟩ n2 (.int .i64 o.ear)).other ⟨M, 10, none⟩ n2 (.int .i64 o.lat)).other ⟨M, 11, none⟩ n2 (.int .i64 o.book)).other ⟨M, 12, none⟩ n2 (.slice o.ao o.an o.ac))
 have HB4 : Hid (Below N W v7) := by rw [← hv7, ← hv6, ← hv5, ← hv4, ← hv3, ← hv2, ← hv1]; exact (((((((hb3.setCell (p := ⟨M, 6, none⟩) (Nat.le_of_lt hNM) _).setCell (p := ⟨M, 7, none⟩) (Nat.le_of_lt hNM) _).setCell (p := ⟨M, 8, none⟩) (Nat.le_of_lt hNM) _).setCell (p := ⟨M, 9, none⟩) (Nat.le_of_lt hNM) _).setCell (p := ⟨M, 10, none⟩) (Nat.le_of_lt hNM) _).setCell (p := ⟨M, 11, none⟩) (Nat.le_of_lt hNM) _).setCell (p := ⟨M, 12, none⟩) (Nat.le_of_lt hNM) _)
 have y6 : w3.cell? ⟨M, 6, none⟩ = some (.int .i64 0) := hk4.cell 6
 have z6 := hk4.frozen 6
 have kx1 := hk4.set 6 (.int .i64 o.nid)
 rw [hv1] at kx1
 have ko1 := hk5.other ⟨M, 6, none⟩ n2 (.int .i64 o.nid)
 rw [hv1] at ko1
 have y7 : v1.cell? ⟨M, 7, none⟩ = some (.int .i64 0) := kx1.cell 7
 have z7 := kx1.frozen 7
 have kx2 := kx1.set 7 (.int .i64 o.item)
 rw [hv2] at kx2
 have ko2 := ko1.other ⟨M, 7, none⟩ n2 (.int .i64 o.item)
 rw [hv2] at ko2
 have y8 : v2.cell? ⟨M, 8, none⟩ = some (.int .i64 0) := kx2.cell 8
 have z8 := kx2.frozen 8
 have kx3 := kx2.set 8 (.int .i64 o.frs)
 rw [hv3] at kx3
 have ko3 := ko2.other ⟨M, 8, none⟩ n2 (.int .i64 o.frs)
 rw [hv3] at ko3
 have y9 : v3.cell? ⟨M, 9, none⟩ = some (.int .i64 0) := kx3.cell 9
 have z9 := kx3.frozen 9
 have kx4 := kx3.set 9 (.int .i64 o.ear)
 rw [hv4] at kx4
 have ko4 := ko3.other ⟨M, 9, none⟩ n2 (.int .i64 o.ear)
 rw [hv4] at ko4
 have y10 : v4.cell? ⟨M, 10, none⟩ = some (.int .i64 0) := kx4.cell 10
 have z10 := kx4.frozen 10
 have kx5 := kx4.set 10 (.int .i64 o.lat)
 rw [hv5] at kx5
 have ko5 := ko4.other ⟨M, 10, none⟩ n2 (.int .i64 o.lat)
 rw [hv5] at ko5
 have y11 : v5.cell? ⟨M, 11, none⟩ = some (.int .i64 0) := kx5.cell 11
 have z11 := kx5.frozen 11
 have kx6 := kx5.set 11 (.int .i64 o.book)
 rw [hv6] at kx6
 have ko6 := ko5.other ⟨M, 11, none⟩ n2 (.int .i64 o.book)
 rw [hv6] at ko6
 have y12 : v6.cell? ⟨M, 12, none⟩ = some (.slice none 0 0) := kx6.cell 12
 have z12 := kx6.frozen 12
 have kx7 := kx6.set 12 (.slice o.ao o.an o.ac)
 rw [hv7] at kx7
 have ko7 := ko6.other ⟨M, 12, none⟩ n2 (.slice o.ao o.an o.ac)
 rw [hv7] at ko7
 have e6 : w3.cell? ⟨N, 6, none⟩ = some (.int .i64 o.nid) := hk5.cell 6
 have e7 : w3.cell? ⟨N, 7, none⟩ = some (.int .i64 o.item) := hk5.cell 7
 have e8 : w3.cell? ⟨N, 8, none⟩ = some (.int .i64 o.frs) := hk5.cell 8
 have e9 : w3.cell? ⟨N, 9, none⟩ = some (.int .i64 o.ear) := hk5.cell 9
 have e10 : w3.cell? ⟨N, 10, none⟩ = some (.int .i64 o.lat) := hk5.cell 10
 have e11 : w3.cell? ⟨N, 11, none⟩ = some (.int .i64 o.book) := hk5.cell 11
 have e12 : w3.cell? ⟨N, 12, none⟩ = some (.slice o.ao o.an o.ac) := hk5.cell 12
 have d6 : v7.cell? ⟨N, 6, none⟩ = some (.int .i64 o.nid) := hk7.cell 6
 have d7 : v7.cell? ⟨N, 7, none⟩ = some (.int .i64 o.item) := hk7.cell 7
 have d8 : v7.cell? ⟨N, 8, none⟩ = some (.int .i64 o.frs) := hk7.cell 8
 have d9 : v7.cell? ⟨N, 9, none⟩ = some (.int .i64 o.ear) := hk7.cell 9
 have d10 : v7.cell? ⟨N, 10, none⟩ = some (.int .i64 o.lat) := hk7.cell 10
 have d11 : v7.cell? ⟨N, 11, none⟩ = some (.int .i64 o.book) := hk7.cell 11
 have d12 : v7.cell? ⟨N, 12, none⟩ = some (.slice o.ao o.an o.ac) := hk7.cell 12
 clear kx1 ko1 kx2 ko2 kx3 ko3 kx4 ko4 kx5 ko5 kx6 ko6 kx7 ko7;have HK6 := Lib.hid hk6;have HK7 := Lib.hid hk7
 have HRD : Hid (RdA W o.ao al) := hr
 have HC := Lib.hid (gValidNew o.nid o.item o.frs o.ear o.lat o.book o.ao o.an o.ac al v7 hn hlm (hr.kept (hN ▸ HB4.out)))
 obtain ⟨tb, htb⟩ : ∃ tb, insB o.nid o.item o.frs o.ear o.lat o.book al = tb := ⟨_, rfl⟩
 have HV0 : Hid (sp = (tb && sb)) := by rw [← HSP.out, htb]; exact Lib.hid rfl
 rw [htb] at HC;clear htb HSP;clear hb1 hk2 hb2 hk3 hNM hk4 hk5 hb3 hw3 hk6 hk7 h1 h2 h3 h4 h5 h6 hk
 go_enter Tryz.func69, Tryz.ntmps69
 go_wp2_with (refine wpList_store_row rfl 30 (.tmp 3) (.tmp 42) rfl M o.w0.l.toArray rfl rfl 30 _ HK3.out HSZ.out HO2.out HO1.out ?_; rw [HW3.out])
 refine HC.out.mono ?_
 rintro e w' ⟨rfl, hbc⟩
 have HB9 : Hid (Below N W w') := HB4.out.trans (hbc.mono (bnl9 HN.out HB4.out))
 have HR9 := Lib.hid (HK6.out.kept (hbc.block M HK6.out.lt)).range
 have HRN := Lib.hid (HK7.out.kept (hbc.block N HK7.out.lt)).range
 have HS9 := Lib.hid (HS _ (HRD.out.kept (hN ▸ HB9.out)))
 clear hbc HC HS HRD
 cases tb
 ·have HV : Hid (sp = false) := HV0.out.trans (by rfl)
  go_wp2_with (first | (refine wpList_load_mid rfl 30 (.tmp 1) rfl N 0 rfl o.l _ HRN.out Tryz.underlying30 rfl HSZ.out ?_) | (refine wpList_load_mid rfl 30 (.tmp 3) rfl M 0 rfl o.wW.l _ HR9.out Tryz.underlying30 rfl HSZ.out ?_))
  refine HS9.out.mono ?_
  rintro e w9 ⟨rfl, hbs⟩
  have HBF : Hid (Below N W w9) := HB9.out.trans (hbs.mono (bnl9 HN.out HB9.out))
  clear hbs
  go_wp2_with fail
  go_ret;exact rb HV HBF HN
 ·have HV : Hid (sp = sb) := HV0.out.trans (by rfl)
  go_wp2_with (first | (refine wpList_load_mid rfl 30 (.tmp 1) rfl N 0 rfl o.l _ HRN.out Tryz.underlying30 rfl HSZ.out ?_) | (refine wpList_load_mid rfl 30 (.tmp 3) rfl M 0 rfl o.wW.l _ HR9.out Tryz.underlying30 rfl HSZ.out ?_))
  refine HS9.out.mono ?_
  rintro e w9 ⟨rfl, hbs⟩
  have HBF : Hid (Below N W w9) := HB9.out.trans (hbs.mono (bnl9 HN.out HB9.out))
  clear hbs
  go_wp2_with fail
  go_ret;exact rb HV HBF HN
theorem gRef15_5 (o : GOd) (W : World) (al : List (Int × Int)) (hn : al.length = o.an) (hlm : o.an ≤ 1000000) (hr : RdA W o.ao al) (hts : o.txt.size ≤ maxLen) (h : headB o = true) (hk : o.k = 5) : Calls Tryz.prog 69 #[.agg o.l.toArray] W fun e w' => e = .returned (.bool (Cp.validB ⟨o.qid, o.qf, o.qt, o.qp, o.txt⟩ && sameOB o al o.wQ [])) ∧ Below W.heap.size W w' := by
 obtain ⟨N, w1, hN, hw1, hb1, hk2⟩ := bx W (aO o) o.l 30 rfl
 obtain ⟨c0, c1, c2, c3, c4, c5⟩ := cellsO hk2
 have HN := Lib.hid hN;have HB1 := Lib.hid hb1
 show Calls Tryz.prog 69 #[.agg (aO o)] W _
 have h' : 0 ≤ o.s ∧ o.s ≤ 200 ∧ -1 ≤ o.ch ∧ o.ch < 40 ∧ 0 ≤ o.f ∧ o.f ≤ 100000000 := by simpa [headB] using h
 clear h
 obtain ⟨h1, h2, h3, h4, h5, h6⟩ := h'
 obtain ⟨M, w2, hM, hw2, hb2, hk3⟩ := bx w1 aZo lZo 30 rfl
 have hNM : N < M := by rw [← hM]; exact hk2.lt
 obtain ⟨w3, hw3⟩ : ∃ w3, w2.setRow M o.w0.l.toArray = w3 := ⟨_, rfl⟩
 have hk4 : Blk w3 M 30 o.w0.l := by rw [← hw3]; exact hk3.setRow _
 have hk5 : Blk w3 N 30 o.l := (hk2.kept (hb2.block N (by omega))).kept (by rw [← hw3]; exact heap_setRow_other _ _ _ _ (by omega))
 have hb3 : Below N W w3 := by rw [← hw3]; exact below_setRow (hb1.trans (hb2.mono (Nat.le_of_lt hNM))) (Nat.le_of_lt hNM) _
 have HSZ := szO
 have HO1 : Hid (o.w0.l.toArray.all (·.oneCell') = true) := o.w0.oneC
 have HO2 : Hid (aZo.size = o.w0.l.toArray.size) := rfl
 have HLE : Hid (N ≤ M) := Nat.le_of_lt hNM
 have HK3 := Lib.hid hk3;have HW3 := Lib.hid hw3
 have n1 : N ≠ M := by omega
 have n2 : M ≠ N := by omega
 have q1 : ¬ o.s < 0 := by omega
 have q2 : ¬ o.s > 200 := by omega
 have q3 : ¬ o.ch < -1 := by omega
 have q4 : ¬ o.ch ≥ 40 := by omega
 have q5 : ¬ o.f < 0 := by omega
 have q6 : ¬ o.f > 100000000 := by omega
 have d3 : w3.cell? ⟨N, 3, none⟩ = some (.int .i64 o.k) := hk5.cell 3
 rw [hk] at d3
 obtain ⟨sb, hsb⟩ : ∃ sb, sameOB o al o.wQ [] = sb := ⟨_, rfl⟩
 have HS : ∀ w : World, RdA w o.ao al → Calls Tryz.prog 83 #[.agg o.l.toArray, .agg o.wQ.l.toArray] w fun e w' => e = .returned (.bool sb) ∧ Below w.heap.size w w' := by
  intro w hw; rw [← hsb]; exact gSameOrd o o.wQ al [] w hn rfl hlm (Nat.zero_le _) hw (Or.inl rfl)
 rw [hsb];clear hsb
 obtain ⟨sp, hsp⟩ : ∃ sp, (Cp.validB ⟨o.qid, o.qf, o.qt, o.qp, o.txt⟩ && sb) = sp := ⟨_, rfl⟩
 rw [hsp];have HSP := Lib.hid hsp;clear hsp
 obtain ⟨v1, hv1⟩ : ∃ x, w3.setCell ⟨M, 21, none⟩ (.int .i64 o.qid) = x := ⟨_, rfl⟩
 obtain ⟨v2, hv2⟩ : ∃ x, v1.setCell ⟨M, 22, none⟩ (.int .i64 o.qf) = x := ⟨_, rfl⟩
 obtain ⟨v3, hv3⟩ : ∃ x, v2.setCell ⟨M, 23, none⟩ (.int .i64 o.qt) = x := ⟨_, rfl⟩
 obtain ⟨v4, hv4⟩ : ∃ x, v3.setCell ⟨M, 24, none⟩ (.int .i64 o.qp) = x := ⟨_, rfl⟩
 obtain ⟨v5, hv5⟩ : ∃ x, v4.setCell ⟨M, 25, none⟩ (.string o.txt) = x := ⟨_, rfl⟩
 have hk6 : Blk v5 M 30 o.wQ.l := by rw [← hv5, ← hv4, ← hv3, ← hv2, ← hv1]; exact (((((hk4.set 21 (.int .i64 o.qid)).set 22 (.int .i64 o.qf)).set 23 (.int .i64 o.qt)).set 24 (.int .i64 o.qp)).set 25 (.string o.txt))
 have hk7 : Blk v5 N 30 o.l := by rw [← hv5, ← hv4, ← hv3, ← hv2, ← hv1]; exact (((((hk5.other ⟨M, 21, none⟩ n2 (.int .i64 o.qid)).other ⟨M, 22, none⟩ n2 (.int .i64 o.qf)).other ⟨M, 23, none⟩ n2 (.int .i64 o.qt)).other ⟨M, 24, none⟩ n2 (.int .i64 o.qp)).other ⟨M, 25, none⟩ n2 (.string o.txt))
 have HB4 : Hid (Below N W v5) := by rw [← hv5, ← hv4, ← hv3, ← hv2, ← hv1]; exact (((((hb3.setCell (p := ⟨M, 21, none⟩) (Nat.le_of_lt hNM) _).setCell (p := ⟨M, 22, none⟩) (Nat.le_of_lt hNM) _).setCell (p := ⟨M, 23, none⟩) (Nat.le_of_lt hNM) _).setCell (p := ⟨M, 24, none⟩) (Nat.le_of_lt hNM) _).setCell (p := ⟨M, 25, none⟩) (Nat.le_of_lt hNM) _)
 have y21 : w3.cell? ⟨M, 21, none⟩ = some (.int .i64 0) := hk4.cell 21
 have z21 := hk4.frozen 21
 have kx1 := hk4.set 21 (.int .i64 o.qid)
 rw [hv1] at kx1
 have ko1 := hk5.other ⟨M, 21, none⟩ n2 (.int .i64 o.qid)
 rw [hv1] at ko1
 have y22 : v1.cell? ⟨M, 22, none⟩ = some (.int .i64 0) := kx1.cell 22
 have z22 := kx1.frozen 22
 have kx2 := kx1.set 22 (.int .i64 o.qf)
 rw [hv2] at kx2
 have ko2 := ko1.other ⟨M, 22, none⟩ n2 (.int .i64 o.qf)
 rw [hv2] at ko2
 have y23 : v2.cell? ⟨M, 23, none⟩ = some (.int .i64 0) := kx2.cell 23
 have z23 := kx2.frozen 23
 have kx3 := kx2.set 23 (.int .i64 o.qt)
 rw [hv3] at kx3
 have ko3 := ko2.other ⟨M, 23, none⟩ n2 (.int .i64 o.qt)
 rw [hv3] at ko3
 have y24 : v3.cell? ⟨M, 24, none⟩ = some (.int .i64 0) := kx3.cell 24
 have z24 := kx3.frozen 24
 have kx4 := kx3.set 24 (.int .i64 o.qp)
 rw [hv4] at kx4
 have ko4 := ko3.other ⟨M, 24, none⟩ n2 (.int .i64 o.qp)
 rw [hv4] at ko4
 have y25 : v4.cell? ⟨M, 25, none⟩ = some (.string ⟨#[]⟩) := kx4.cell 25
 have z25 := kx4.frozen 25
 have kx5 := kx4.set 25 (.string o.txt)
 rw [hv5] at kx5
 have ko5 := ko4.other ⟨M, 25, none⟩ n2 (.string o.txt)
 rw [hv5] at ko5
 have e21 : w3.cell? ⟨N, 21, none⟩ = some (.int .i64 o.qid) := hk5.cell 21
 have e22 : w3.cell? ⟨N, 22, none⟩ = some (.int .i64 o.qf) := hk5.cell 22
 have e23 : w3.cell? ⟨N, 23, none⟩ = some (.int .i64 o.qt) := hk5.cell 23
 have e24 : w3.cell? ⟨N, 24, none⟩ = some (.int .i64 o.qp) := hk5.cell 24
 have e25 : w3.cell? ⟨N, 25, none⟩ = some (.string o.txt) := hk5.cell 25
 have d21 : v5.cell? ⟨N, 21, none⟩ = some (.int .i64 o.qid) := hk7.cell 21
 have d22 : v5.cell? ⟨N, 22, none⟩ = some (.int .i64 o.qf) := hk7.cell 22
 have d23 : v5.cell? ⟨N, 23, none⟩ = some (.int .i64 o.qt) := hk7.cell 23
 have d24 : v5.cell? ⟨N, 24, none⟩ = some (.int .i64 o.qp) := hk7.cell 24
 have d25 : v5.cell? ⟨N, 25, none⟩ = some (.string o.txt) := hk7.cell 25
 clear kx1 ko1 kx2 ko2 kx3 ko3 kx4 ko4 kx5 ko5;have HK6 := Lib.hid hk6;have HK7 := Lib.hid hk7
 have HRD : Hid (RdA W o.ao al) := hr
 have HC := Lib.hid (Cp.refValid_any ⟨o.qid, o.qf, o.qt, o.qp, o.txt⟩ v5 hts)
 obtain ⟨tb, htb⟩ : ∃ tb, Cp.validB ⟨o.qid, o.qf, o.qt, o.qp, o.txt⟩ = tb := ⟨_, rfl⟩
 have HV0 : Hid (sp = (tb && sb)) := by rw [← HSP.out, htb]; exact Lib.hid rfl
 rw [htb] at HC;clear htb HSP;clear hb1 hk2 hb2 hk3 hNM hk4 hk5 hb3 hw3 hk6 hk7 h1 h2 h3 h4 h5 h6 hk
 go_enter Tryz.func69, Tryz.ntmps69
 go_wp2_with (refine wpList_store_row rfl 30 (.tmp 3) (.tmp 42) rfl M o.w0.l.toArray rfl rfl 30 _ HK3.out HSZ.out HO2.out HO1.out ?_; rw [HW3.out])
 refine HC.out.mono ?_
 rintro e w' ⟨rfl, hbc⟩
 have HB9 : Hid (Below N W w') := HB4.out.trans (hbc.mono (bnl9 HN.out HB4.out))
 have HR9 := Lib.hid (HK6.out.kept (hbc.block M HK6.out.lt)).range
 have HRN := Lib.hid (HK7.out.kept (hbc.block N HK7.out.lt)).range
 have HS9 := Lib.hid (HS _ (HRD.out.kept (hN ▸ HB9.out)))
 clear hbc HC HS HRD
 cases tb
 ·have HV : Hid (sp = false) := HV0.out.trans (by rfl)
  go_wp2_with (first | (refine wpList_load_mid rfl 30 (.tmp 1) rfl N 0 rfl o.l _ HRN.out Tryz.underlying30 rfl HSZ.out ?_) | (refine wpList_load_mid rfl 30 (.tmp 3) rfl M 0 rfl o.wQ.l _ HR9.out Tryz.underlying30 rfl HSZ.out ?_))
  refine HS9.out.mono ?_
  rintro e w9 ⟨rfl, hbs⟩
  have HBF : Hid (Below N W w9) := HB9.out.trans (hbs.mono (bnl9 HN.out HB9.out))
  clear hbs
  go_wp2_with fail
  go_ret;exact rb HV HBF HN
 ·have HV : Hid (sp = sb) := HV0.out.trans (by rfl)
  go_wp2_with (first | (refine wpList_load_mid rfl 30 (.tmp 1) rfl N 0 rfl o.l _ HRN.out Tryz.underlying30 rfl HSZ.out ?_) | (refine wpList_load_mid rfl 30 (.tmp 3) rfl M 0 rfl o.wQ.l _ HR9.out Tryz.underlying30 rfl HSZ.out ?_))
  refine HS9.out.mono ?_
  rintro e w9 ⟨rfl, hbs⟩
  have HBF : Hid (Below N W w9) := HB9.out.trans (hbs.mono (bnl9 HN.out HB9.out))
  clear hbs
  go_wp2_with fail
  go_ret;exact rb HV HBF HN
theorem gRef15_no (o : GOd) (W : World) (al : List (Int × Int)) (hn : al.length = o.an) (hlm : o.an ≤ 1000000) (hr : RdA W o.ao al) (h : headB o = true) (k1 : o.k ≠ 1) (k2 : o.k ≠ 2) (k3 : o.k ≠ 3) (k4 : o.k ≠ 4) (k5 : o.k ≠ 5) : Calls Tryz.prog 69 #[.agg o.l.toArray] W fun e w' => e = .returned (.bool (false)) ∧ Below W.heap.size W w' := by
 obtain ⟨N, w1, hN, hw1, hb1, hk2⟩ := bx W (aO o) o.l 30 rfl
 obtain ⟨c0, c1, c2, c3, c4, c5⟩ := cellsO hk2
 have HN := Lib.hid hN;have HB1 := Lib.hid hb1
 show Calls Tryz.prog 69 #[.agg (aO o)] W _
 have h' : 0 ≤ o.s ∧ o.s ≤ 200 ∧ -1 ≤ o.ch ∧ o.ch < 40 ∧ 0 ≤ o.f ∧ o.f ≤ 100000000 := by simpa [headB] using h
 clear h
 obtain ⟨h1, h2, h3, h4, h5, h6⟩ := h'
 obtain ⟨M, w2, hM, hw2, hb2, hk3⟩ := bx w1 aZo lZo 30 rfl
 have hNM : N < M := by rw [← hM]; exact hk2.lt
 obtain ⟨w3, hw3⟩ : ∃ w3, w2.setRow M o.w0.l.toArray = w3 := ⟨_, rfl⟩
 have hk4 : Blk w3 M 30 o.w0.l := by rw [← hw3]; exact hk3.setRow _
 have hk5 : Blk w3 N 30 o.l := (hk2.kept (hb2.block N (by omega))).kept (by rw [← hw3]; exact heap_setRow_other _ _ _ _ (by omega))
 have hb3 : Below N W w3 := by rw [← hw3]; exact below_setRow (hb1.trans (hb2.mono (Nat.le_of_lt hNM))) (Nat.le_of_lt hNM) _
 have HSZ := szO
 have HO1 : Hid (o.w0.l.toArray.all (·.oneCell') = true) := o.w0.oneC
 have HO2 : Hid (aZo.size = o.w0.l.toArray.size) := rfl
 have HLE : Hid (N ≤ M) := Nat.le_of_lt hNM
 have HK3 := Lib.hid hk3;have HW3 := Lib.hid hw3
 have n1 : N ≠ M := by omega
 have n2 : M ≠ N := by omega
 have q1 : ¬ o.s < 0 := by omega
 have q2 : ¬ o.s > 200 := by omega
 have q3 : ¬ o.ch < -1 := by omega
 have q4 : ¬ o.ch ≥ 40 := by omega
 have q5 : ¬ o.f < 0 := by omega
 have q6 : ¬ o.f > 100000000 := by omega
 have d3 : w3.cell? ⟨N, 3, none⟩ = some (.int .i64 o.k) := hk5.cell 3
 obtain ⟨sb, hsb⟩ : ∃ sb, sameOB o al o.w0 [] = sb := ⟨_, rfl⟩
 have HB9 := Lib.hid hb3
 have HS9 := Lib.hid (gSameOrd o o.w0 al [] w3 hn rfl hlm (Nat.zero_le _) (hr.kept (hN ▸ hb3)) (Or.inl rfl))
 rw [hsb] at HS9;clear hsb;have HR9 := Lib.hid hk4.range;have HRN := Lib.hid hk5.range
 have g1 : (o.k == 1) = false := beq_eq_false_iff_ne.2 k1
 have g2 : (o.k == 2) = false := beq_eq_false_iff_ne.2 k2
 have g3 : (o.k == 3) = false := beq_eq_false_iff_ne.2 k3
 have g4 : (o.k == 4) = false := beq_eq_false_iff_ne.2 k4
 have g5 : (o.k == 5) = false := beq_eq_false_iff_ne.2 k5
 clear hb1 hk2 hb2 hk3 hNM hk4 hk5 hb3 hw3 h1 h2 h3 h4 h5 h6 k1 k2 k3 k4 k5
 go_enter Tryz.func69, Tryz.ntmps69
 go_wp2_with (first | (refine wpList_store_row rfl 30 (.tmp 3) (.tmp 42) rfl M o.w0.l.toArray rfl rfl 30 _ HK3.out HSZ.out HO2.out HO1.out ?_; rw [HW3.out]) | (refine wpList_load_mid rfl 30 (.tmp 1) rfl N 0 rfl o.l _ HRN.out Tryz.underlying30 rfl HSZ.out ?_) | (refine wpList_load_mid rfl 30 (.tmp 3) rfl M 0 rfl o.w0.l _ HR9.out Tryz.underlying30 rfl HSZ.out ?_))
 refine HS9.out.mono ?_
 rintro e w9 ⟨rfl, hbs⟩
 have HBF : Hid (Below N W w9) := HB9.out.trans (hbs.mono (bnl9 HN.out HB9.out))
 clear hbs
 go_wp2_with fail
 go_ret
 exact ⟨rfl, by first | exact HBF.out | (rw [HN.out]; exact HBF.out)⟩
theorem ref15_blank (o p q : GOd) (al bl : List (Int × Int)) (hs : p.s = o.s) (hc : p.ch = o.ch) (hf : p.f = o.f) (hk : p.k = o.k)
  (h1 : (decide (al = bl) = true) ↔ (q.an = 0)) (h2 : (o.e = p.e) ↔ q.e = 0) (h3 : (o.n = p.n) ↔ q.n = 0) (h4 : (o.nid = p.nid) ↔ q.nid = 0) (h5 : (o.item = p.item) ↔ q.item = 0) (h6 : (o.frs = p.frs) ↔ q.frs = 0) (h7 : (o.ear = p.ear) ↔ q.ear = 0) (h8 : (o.lat = p.lat) ↔ q.lat = 0) (h9 : (o.book = p.book) ↔ q.book = 0)
  (h10 : o.cl.eqB p.cl = q.cl.eqB ⟨0, 0, 0, 0, 0, 0, 0, 0⟩) (h11 : cueEq o.qid o.qf o.qt o.qp o.txt p.qid p.qf p.qt p.qp p.txt = cueEq q.qid q.qf q.qt q.qp q.txt 0 0 0 0 ⟨#[]⟩) :
  sameOB o al p bl = q.blankB := by
 rw [Bool.eq_iff_iff]
 simp only [sameOB, sameE, GOd.blankB, Bool.and_eq_true, beq_iff_eq, hs, hc, hf, hk, h1, h2, h3, h4, h5, h6, h7, h8, h9, h10, h11, decide_eq_true_eq]
 constructor
 ·rintro ⟨⟨a1, a2, a3, a4, a5, a6, a7⟩, -, -, -, -, b1, b2, b3, b4⟩
  exact ⟨⟨⟨⟨⟨⟨⟨⟨⟨⟨b1, b2⟩, b3⟩, b4⟩, a2⟩, a3⟩, a4⟩, a5⟩, a6⟩, a7⟩, a1⟩
 ·rintro ⟨⟨⟨⟨⟨⟨⟨⟨⟨⟨b1, b2⟩, b3⟩, b4⟩, a2⟩, a3⟩, a4⟩, a5⟩, a6⟩, a7⟩, a1⟩
  exact ⟨⟨a1, a2, a3, a4, a5, a6, a7⟩, by simp, by simp, by simp, by simp, b1, b2, b3, b4⟩
theorem ClD.eqB_self (c : ClD) : c.eqB c = true := by simp [ClD.eqB]
theorem cueEq_self (a b c d : Int) (t : ByteArray) : cueEq a b c d t a b c d t = true := by simp [cueEq]
theorem altn {al : List (Int × Int)} {n : Nat} (h : al.length = n) : (decide (al = []) = true) ↔ (n = 0) := by
 rw [decide_eq_true_eq, ← h, List.length_eq_zero_iff]
theorem ref15_wN (o : GOd) (al : List (Int × Int)) (hn : al.length = o.an) : sameOB o al o.wN [] = o.noN.blankB :=
 ref15_blank o o.wN o.noN al [] rfl rfl rfl rfl (altn hn) ⟨fun _ => rfl, fun _ => rfl⟩ ⟨fun _ => rfl, fun _ => rfl⟩ Iff.rfl Iff.rfl Iff.rfl Iff.rfl Iff.rfl Iff.rfl (rfl) (rfl)
theorem ref15_wE (o : GOd) (al : List (Int × Int)) (hn : al.length = o.an) : sameOB o al o.wE [] = o.noE.blankB :=
 ref15_blank o o.wE o.noE al [] rfl rfl rfl rfl (altn hn) ⟨fun _ => rfl, fun _ => rfl⟩ Iff.rfl Iff.rfl Iff.rfl Iff.rfl Iff.rfl Iff.rfl Iff.rfl (rfl) (rfl)
theorem ref15_wC (o : GOd) (al : List (Int × Int)) (hn : al.length = o.an) : sameOB o al o.wC [] = o.noC.blankB :=
 ref15_blank o o.wC o.noC al [] rfl rfl rfl rfl (altn hn) Iff.rfl Iff.rfl Iff.rfl Iff.rfl Iff.rfl Iff.rfl Iff.rfl Iff.rfl ((ClD.eqB_self o.cl).trans (ClD.eqB_self ⟨0, 0, 0, 0, 0, 0, 0, 0⟩).symm) (rfl)
theorem ref15_wQ (o : GOd) (al : List (Int × Int)) (hn : al.length = o.an) : sameOB o al o.wQ [] = o.noQ.blankB :=
 ref15_blank o o.wQ o.noQ al [] rfl rfl rfl rfl (altn hn) Iff.rfl Iff.rfl Iff.rfl Iff.rfl Iff.rfl Iff.rfl Iff.rfl Iff.rfl (rfl) (by show cueEq o.qid o.qf o.qt o.qp o.txt o.qid o.qf o.qt o.qp o.txt = cueEq 0 0 0 0 ⟨#[]⟩ 0 0 0 0 ⟨#[]⟩; rw [cueEq_self, cueEq_self])
theorem ref15_wW (o : GOd) (al : List (Int × Int)) : sameOB o al o.wW al = o.noW.blankB :=
 ref15_blank o o.wW o.noW al al rfl rfl rfl rfl (by simp [GOd.noW]) Iff.rfl Iff.rfl ⟨fun _ => rfl, fun _ => rfl⟩ ⟨fun _ => rfl, fun _ => rfl⟩ ⟨fun _ => rfl, fun _ => rfl⟩ ⟨fun _ => rfl, fun _ => rfl⟩ ⟨fun _ => rfl, fun _ => rfl⟩ ⟨fun _ => rfl, fun _ => rfl⟩ rfl rfl
theorem gRef15 (o : GOd) (al : List (Int × Int)) (W : World) (hn : al.length = o.an) (hlm : o.an ≤ 1000000) (hr : RdA W o.ao al) (hts : o.txt.size ≤ maxLen) : Calls Tryz.prog 69 #[.agg o.l.toArray] W fun e w' => e = .returned (.bool (okB o al)) ∧ Below W.heap.size W w' := by
 by_cases h : headB o = true
 ·by_cases k1 : o.k = 1
  ·refine (gRef15_1 o W al hn hlm hr h k1).mono fun e w' he => ⟨he.1.trans (ret_bool ?_), he.2⟩
   rw [okB, h, if_pos k1, ref15_wN o al hn, Bool.and_assoc]; rfl
  by_cases k2 : o.k = 2
  ·refine (gRef15_2 o W al hn hlm hr h k2).mono fun e w' he => ⟨he.1.trans (ret_bool ?_), he.2⟩
   rw [okB, h, if_neg k1, if_pos k2, ref15_wE o al hn]; rfl
  by_cases k3 : o.k = 3
  ·refine (gRef15_3 o W al hn hlm hr h k3).mono fun e w' he => ⟨he.1.trans (ret_bool ?_), he.2⟩
   rw [okB, h, if_neg k1, if_neg k2, if_pos k3, ref15_wW o al]; rfl
  by_cases k4 : o.k = 4
  ·refine (gRef15_4 o W al hn hlm hr h k4).mono fun e w' he => ⟨he.1.trans (ret_bool ?_), he.2⟩
   rw [okB, h, if_neg k1, if_neg k2, if_neg k3, if_pos k4, ref15_wC o al hn]; rfl
  by_cases k5 : o.k = 5
  ·refine (gRef15_5 o W al hn hlm hr hts h k5).mono fun e w' he => ⟨he.1.trans (ret_bool ?_), he.2⟩
   rw [okB, h, if_neg k1, if_neg k2, if_neg k3, if_neg k4, if_pos k5, ref15_wQ o al hn]; rfl
  refine (gRef15_no o W al hn hlm hr h k1 k2 k3 k4 k5).mono fun e w' he => ⟨he.1.trans (ret_bool ?_), he.2⟩
  rw [okB, h, if_neg k1, if_neg k2, if_neg k3, if_neg k4, if_neg k5]; rfl
 ·have h' : headB o = false := by simpa using h
  refine (gRef15_head o W h').mono fun e w' he => ⟨he.1.trans (ret_bool ?_), he.2⟩
  rw [okB, h']; rfl
end Go.Proofs.YtjkiidhnmljmbaaGreatDoor
