/- Orders of every kind: '==' of two cues; replan.blank. -/
import Derived.Test.YtjkiidhnmljmbaaGreatDoorGoEF
set_option linter.unusedVariables false
set_option linter.unusedSimpArgs false
set_option maxRecDepth 100000
set_option maxHeartbeats 8000000
namespace Go.Proofs.YtjkiidhnmljmbaaGreatDoor
open Go.RowKit
theorem ba_inj {a b : ByteArray} : a.toList = b.toList ↔ a = b := ⟨fun h => by rw [ByteArray.toList_eq, ByteArray.toList_eq] at h; apply ByteArray.ext; exact Array.ext' h, fun h => by rw [h]⟩
def cueL (i f t p : Int) (s : ByteArray) : List Value := [.int .i64 i, .int .i64 f, .int .i64 t, .int .i64 p, .string s]
def cueEq (i f t p : Int) (s : ByteArray) (i2 f2 t2 p2 : Int) (s2 : ByteArray) : Bool := (i == i2 && (f == f2 && (t == t2 && (p == p2 && decide (s = s2)))))
theorem eqCue (i f t p : Int) (s : ByteArray) (i2 f2 t2 p2 : Int) (s2 : ByteArray) (w : World) : (Op.equalIn 10000 28 (.agg (cueL i f t p s).toArray) (.agg (cueL i2 f2 t2 p2 s2).toArray)).run Tryz.prog w = .ok (cueEq i f t p s i2 f2 t2 p2 s2) w := by
 have u3 := Tryz.underlying3
 have u4 := Tryz.underlying9
 have hS : Tryz.prog.underlying 28 = some (.struct (Tryz.prog.fieldsOf 28)) := by kernel_rfl
 have hp : Tryz.prog.stoodInHeld 28 = false := by kernel_rfl
 rw [show (10000 : Nat) = 9999 + 1 from rfl, run_equalIn_agg w 9999 28 _ _ hS hp]
 simp only [Program.fieldsOf, Tryz.underlying28, cueL, cueEq]
 go_simp
 repeat' split
 all_goals simp_all [ba_inj]
def GOd.blankB (o : GOd) : Bool := decide (o.e = 0) && decide (o.n = 0) && o.cl.eqB ⟨0, 0, 0, 0, 0, 0, 0, 0⟩ && cueEq o.qid o.qf o.qt o.qp o.txt 0 0 0 0 ⟨#[]⟩ && decide (o.nid = 0) && decide (o.item = 0) && decide (o.frs = 0) && decide (o.ear = 0) && decide (o.lat = 0) && decide (o.book = 0) && decide (o.an = 0)
theorem gBlank (o : GOd) (W : World) : Calls Tryz.prog 87 #[.agg o.l.toArray] W fun e w' => e = .returned (.bool o.blankB) ∧ Below W.heap.size W w' := by
 obtain ⟨s, ch, f, k, e, n, nid, item, frs, ear, lat, book, ao, an, ac, cl, qid, qf, qt, qp, txt⟩ := o
 have heq1 := fun V : World => eqClause cl ⟨0, 0, 0, 0, 0, 0, 0, 0⟩ V
 have heq2 := fun V : World => eqCue qid qf qt qp txt 0 0 0 0 ⟨#[]⟩ V
 obtain ⟨sp, hsp⟩ : ∃ sp, (GOd.mk s ch f k e n nid item frs ear lat book ao an ac cl qid qf qt qp txt).blankB = sp := ⟨_, rfl⟩
 rw [hsp]
 simp only [GOd.blankB] at hsp
 obtain ⟨bc, hbc⟩ : ∃ bc, cl.eqB ⟨0, 0, 0, 0, 0, 0, 0, 0⟩ = bc := ⟨_, rfl⟩
 obtain ⟨bq, hbq⟩ : ∃ bq, cueEq qid qf qt qp txt 0 0 0 0 ⟨#[]⟩ = bq := ⟨_, rfl⟩
 have hbc2 := hbc
 simp only [ClD.eqB] at hbc2
 rw [hbc2] at heq1;rw [hbq] at heq2;rw [hbc, hbq] at hsp;clear hbc hbc2 hbq
 obtain ⟨c1, c2, c3, c4, c5, c6, c7, c8⟩ := cl
 dsimp only [ClD.l] at heq1
 dsimp only [cueL] at heq2
 obtain ⟨N, w1, hN, hw1, hb1, hk2⟩ := bx W #[.int .i64 s, .int .i64 ch, .int .i64 f, .int .i64 k, .int .i64 e, .int .i64 n, .int .i64 nid, .int .i64 item, .int .i64 frs, .int .i64 ear, .int .i64 lat, .int .i64 book, .slice ao an ac, .int .i64 c1, .int .i64 c2, .int .i64 c3, .int .i64 c4, .int .i64 c5, .int .i64 c6, .int .i64 c7, .int .i64 c8, .int .i64 qid, .int .i64 qf, .int .i64 qt, .int .i64 qp, .string txt] [.int .i64 s, .int .i64 ch, .int .i64 f, .int .i64 k, .int .i64 e, .int .i64 n, .int .i64 nid, .int .i64 item, .int .i64 frs, .int .i64 ear, .int .i64 lat, .int .i64 book, .slice ao an ac, .int .i64 c1, .int .i64 c2, .int .i64 c3, .int .i64 c4, .int .i64 c5, .int .i64 c6, .int .i64 c7, .int .i64 c8, .int .i64 qid, .int .i64 qf, .int .i64 qt, .int .i64 qp, .string txt] 30 rfl
 obtain ⟨M, w2, hM, hw2, hb2, hk3⟩ := bx w1 #[.int .i64 0, .int .i64 0, .int .i64 0, .int .i64 0, .int .i64 0, .int .i64 0, .slice none 0 0] [.int .i64 0, .int .i64 0, .int .i64 0, .int .i64 0, .int .i64 0, .int .i64 0, .slice none 0 0] 24 rfl
 have hNM : N < M := by rw [← hM]; exact hk2.lt
 have hk4 := hk2.kept (hb2.block N (by rw [← hM] at hNM ⊢; exact hNM))
 have HN := Lib.hid hN;have HB1 := Lib.hid hb1;have HB2 := Lib.hid hb2;have HNM := Lib.hid hNM
 have n1 : N ≠ M := by omega
 have n2 : M ≠ N := by omega
 have b6 := hk2.cell 6
 have b7 := hk2.cell 7
 have b8 := hk2.cell 8
 have b9 := hk2.cell 9
 have b10 := hk2.cell 10
 have b11 := hk2.cell 11
 have b12 := hk2.cell 12
 have d4 := hk4.cell 4
 have d5 := hk4.cell 5
 have d13 := hk4.cell 13
 have d14 := hk4.cell 14
 have d15 := hk4.cell 15
 have d16 := hk4.cell 16
 have d17 := hk4.cell 17
 have d18 := hk4.cell 18
 have d19 := hk4.cell 19
 have d20 := hk4.cell 20
 have d21 := hk4.cell 21
 have d22 := hk4.cell 22
 have d23 := hk4.cell 23
 have d24 := hk4.cell 24
 have d25 := hk4.cell 25
 have e0 := hk3.cell 0
 have e1 := hk3.cell 1
 have e2 := hk3.cell 2
 have e3 := hk3.cell 3
 have e4 := hk3.cell 4
 have e5 := hk3.cell 5
 have e6 := hk3.cell 6
 have z0 := hk3.frozen 0
 have z1 := hk3.frozen 1
 have z2 := hk3.frozen 2
 have z3 := hk3.frozen 3
 have z4 := hk3.frozen 4
 have z5 := hk3.frozen 5
 have z6 := hk3.frozen 6
 simp only [gz, gs] at b6 b7 b8 b9 b10 b11 b12 d4 d5 d13 d14 d15 d16 d17 d18 d19 d20 d21 d22 d23 d24 d25 e0 e1 e2 e3 e4 e5 e6
 show Calls Tryz.prog 87 #[.agg #[.int .i64 s, .int .i64 ch, .int .i64 f, .int .i64 k, .int .i64 e, .int .i64 n, .int .i64 nid, .int .i64 item, .int .i64 frs, .int .i64 ear, .int .i64 lat, .int .i64 book, .slice ao an ac, .int .i64 c1, .int .i64 c2, .int .i64 c3, .int .i64 c4, .int .i64 c5, .int .i64 c6, .int .i64 c7, .int .i64 c8, .int .i64 qid, .int .i64 qf, .int .i64 qt, .int .i64 qp, .string txt]] W _
 clear hb1 hb2 hk2 hk3 hk4 hNM
 have HLE : Hid (N ≤ M) := Nat.le_of_lt HNM.out
 have HBX : Hid (Below N W w2) := HB1.out.trans (HB2.out.mono HLE.out)
 have HSP := Lib.hid hsp;clear hsp
 cases q_e : (e == 0)
 ·have p_e : ¬ e = 0 := by simpa using q_e
  have HV : Hid (sp = false) := HSP.out.symm.trans (by simp [p_e])
  go_enter Tryz.func87, Tryz.ntmps87
  go_wp2_with fail
  go_ret
  exact ⟨by rw [HV.out]; rfl, by first | exact bwS HBX.out HLE.out | (rw [HN.out]; exact bwS HBX.out HLE.out)⟩
 ·have p_e : e = 0 := by simpa using q_e
  subst p_e
  cases q_n : (n == 0)
  ·have p_n : ¬ n = 0 := by simpa using q_n
   have HV : Hid (sp = false) := HSP.out.symm.trans (by simp [p_n])
   go_enter Tryz.func87, Tryz.ntmps87
   go_wp2_with fail
   go_ret
   exact ⟨by rw [HV.out]; rfl, by first | exact bwS HBX.out HLE.out | (rw [HN.out]; exact bwS HBX.out HLE.out)⟩
  ·have p_n : n = 0 := by simpa using q_n
   subst p_n
   cases bc
   ·have HV : Hid (sp = false) := HSP.out.symm.trans (by simp [])
    go_enter Tryz.func87, Tryz.ntmps87
    go_wp2_with fail
    go_ret
    exact ⟨by rw [HV.out]; rfl, by first | exact bwS HBX.out HLE.out | (rw [HN.out]; exact bwS HBX.out HLE.out)⟩
   ·cases bq
    ·have HV : Hid (sp = false) := HSP.out.symm.trans (by simp [])
     go_enter Tryz.func87, Tryz.ntmps87
     go_wp2_with fail
     go_ret
     exact ⟨by rw [HV.out]; rfl, by first | exact bwS HBX.out HLE.out | (rw [HN.out]; exact bwS HBX.out HLE.out)⟩
    ·cases q_nid : (nid == 0)
     ·have p_nid : ¬ nid = 0 := by simpa using q_nid
      have HV : Hid (sp = false) := HSP.out.symm.trans (by simp [p_nid])
      go_enter Tryz.func87, Tryz.ntmps87
      go_wp2_with fail
      go_ret
      exact ⟨by rw [HV.out]; rfl, by first | exact bwS HBX.out HLE.out | (rw [HN.out]; exact bwS HBX.out HLE.out)⟩
     ·have p_nid : nid = 0 := by simpa using q_nid
      subst p_nid
      cases q_item : (item == 0)
      ·have p_item : ¬ item = 0 := by simpa using q_item
       have HV : Hid (sp = false) := HSP.out.symm.trans (by simp [p_item])
       go_enter Tryz.func87, Tryz.ntmps87
       go_wp2_with fail
       go_ret
       exact ⟨by rw [HV.out]; rfl, by first | exact bwS HBX.out HLE.out | (rw [HN.out]; exact bwS HBX.out HLE.out)⟩
      ·have p_item : item = 0 := by simpa using q_item
       subst p_item
       cases q_frs : (frs == 0)
       ·have p_frs : ¬ frs = 0 := by simpa using q_frs
        have HV : Hid (sp = false) := HSP.out.symm.trans (by simp [p_frs])
        go_enter Tryz.func87, Tryz.ntmps87
        go_wp2_with fail
        go_ret
        exact ⟨by rw [HV.out]; rfl, by first | exact bwS HBX.out HLE.out | (rw [HN.out]; exact bwS HBX.out HLE.out)⟩
       ·have p_frs : frs = 0 := by simpa using q_frs
        subst p_frs
        cases q_ear : (ear == 0)
        ·have p_ear : ¬ ear = 0 := by simpa using q_ear
         have HV : Hid (sp = false) := HSP.out.symm.trans (by simp [p_ear])
         go_enter Tryz.func87, Tryz.ntmps87
         go_wp2_with fail
         go_ret
         exact ⟨by rw [HV.out]; rfl, by first | exact bwS HBX.out HLE.out | (rw [HN.out]; exact bwS HBX.out HLE.out)⟩
        ·have p_ear : ear = 0 := by simpa using q_ear
         subst p_ear
         cases q_lat : (lat == 0)
         ·have p_lat : ¬ lat = 0 := by simpa using q_lat
          have HV : Hid (sp = false) := HSP.out.symm.trans (by simp [p_lat])
          go_enter Tryz.func87, Tryz.ntmps87
          go_wp2_with fail
          go_ret
          exact ⟨by rw [HV.out]; rfl, by first | exact bwS HBX.out HLE.out | (rw [HN.out]; exact bwS HBX.out HLE.out)⟩
         ·have p_lat : lat = 0 := by simpa using q_lat
          subst p_lat
          cases q_book : (book == 0)
          ·have p_book : ¬ book = 0 := by simpa using q_book
           have HV : Hid (sp = false) := HSP.out.symm.trans (by simp [p_book])
           go_enter Tryz.func87, Tryz.ntmps87
           go_wp2_with fail
           go_ret
           exact ⟨by rw [HV.out]; rfl, by first | exact bwS HBX.out HLE.out | (rw [HN.out]; exact bwS HBX.out HLE.out)⟩
          ·have p_book : book = 0 := by simpa using q_book
           subst p_book
           cases q_an : ((an : Int) == 0)
           ·have p_an : ¬ an = 0 := by simpa using q_an
            have HV : Hid (sp = false) := HSP.out.symm.trans (by simp [p_an])
            go_enter Tryz.func87, Tryz.ntmps87
            go_wp2_with fail
            go_ret
            exact ⟨by rw [HV.out]; rfl, by first | exact bwS HBX.out HLE.out | (rw [HN.out]; exact bwS HBX.out HLE.out)⟩
           ·have p_an : an = 0 := by simpa using q_an
            subst p_an
            have HV : Hid (sp = true) := HSP.out.symm.trans (by simp [])
            go_enter Tryz.func87, Tryz.ntmps87
            go_wp2_with fail
            go_ret
            exact ⟨by rw [HV.out]; rfl, by first | exact bwS HBX.out HLE.out | (rw [HN.out]; exact bwS HBX.out HLE.out)⟩
def idB (n : Int) : Bool := decide (1 ≤ n ∧ n ≤ 1000000)
def RdA (W : World) (oa : Option Addr) (l : List (Int × Int)) : Prop := l = [] ∨ ∃ b o, oa = some ⟨b, o, none⟩ ∧ b < W.heap.size ∧ ∀ (i : Nat) (p : Int × Int), l[i]? = some p → W.cell? ⟨b, o + i * 2, none⟩ = some (.int .i64 p.1) ∧ W.cell? ⟨b, o + i * 2 + 1, none⟩ = some (.int .i64 p.2)
theorem RdA.kept {W W' : World} {oa : Option Addr} {l : List (Int × Int)} (h : RdA W oa l) (hb : Below W.heap.size W W') : RdA W' oa l := by
 rcases h with rfl | ⟨b, o, e, hlt, hc⟩
 ·exact .inl rfl
 ·exact .inr ⟨b, o, e, Nat.lt_of_lt_of_le hlt hb.size, fun i p hp => ⟨(hb.cell (p := ⟨b, o + i * 2, none⟩) hlt).trans (hc i p hp).1, (hb.cell (p := ⟨b, o + i * 2 + 1, none⟩) hlt).trans (hc i p hp).2⟩⟩
theorem RdA.keptB {W W' : World} {oa : Option Addr} {l : List (Int × Int)} (h : RdA W oa l) (hs : W.heap.size ≤ W'.heap.size) (hb : ∀ b o, oa = some ⟨b, o, none⟩ → b < W.heap.size → W'.heap[b]? = W.heap[b]?) : RdA W' oa l := by
 rcases h with rfl | ⟨b, o, e, hlt, hc⟩
 ·exact .inl rfl
 ·refine .inr ⟨b, o, e, Nat.lt_of_lt_of_le hlt hs, fun i p hp => ?_⟩
  have he := hb b o e hlt
  obtain ⟨h1, h2⟩ := hc i p hp
  unfold World.cell? at *
  dsimp only at *
  rw [he];exact ⟨h1, h2⟩
theorem RdA.at {W : World} {oa : Option Addr} {l : List (Int × Int)} (h : RdA W oa l) (i : Nat) (p : Int × Int) (hp : l[i]? = some p) : ∃ b o, oa = some ⟨b, o, none⟩ ∧ b < W.heap.size ∧ W.cell? ⟨b, o + i * 2, none⟩ = some (.int .i64 p.1) ∧ W.cell? ⟨b, o + i * 2 + 1, none⟩ = some (.int .i64 p.2) := by
 rcases h with rfl | ⟨b, o, e, hlt, hc⟩
 ·simp at hp
 ·exact ⟨b, o, e, hlt, hc i p hp⟩
def altsB : Int → List (Int × Int) → Bool
 | _, [] => true
 | r, p :: l => decide (r < p.1) && (decide (p.1 ≤ 7) && (idB p.2 && altsB p.1 l))
def insB (nid item frs ear lat book : Int) (al : List (Int × Int)) : Bool :=
 decide ((1 ≤ nid ∧ nid ≤ 1000000) ∧ (1 ≤ item ∧ item ≤ 1000000) ∧ (1 ≤ frs ∧ frs ≤ 100000000) ∧ (0 ≤ ear ∧ ear ≤ lat ∧ lat ≤ 100000000) ∧ (book = 0 ∨ (1 ≤ book ∧ book ≤ 1000000))) && altsB 0 al
theorem adrop_cons {α : Type} {l : List α} {i : Nat} {p : α} (h : l[i]? = some p) : l.drop i = p :: l.drop (i + 1) := by
 obtain ⟨hi, he⟩ := List.getElem?_eq_some_iff.1 h
 rw [List.drop_eq_getElem_cons hi, he]
theorem gInsertable (nid item frs ear lat book : Int) (ao : Option Addr) (an ac : Nat) (al : List (Int × Int)) (W : World) (hn : al.length = an) (hlm : an ≤ 1000000) (hr : RdA W ao al) : Calls Tryz.prog 88 #[.agg #[.int .i64 nid, .int .i64 item, .int .i64 frs, .int .i64 ear, .int .i64 lat, .int .i64 book, .slice ao an ac]] W fun e w' => e = .returned (.bool (insB nid item frs ear lat book al)) ∧ Below W.heap.size W w' := by
 obtain ⟨sp, hsp⟩ : ∃ sp, insB nid item frs ear lat book al = sp := ⟨_, rfl⟩
 rw [hsp]
 simp only [insB] at hsp
 obtain ⟨ab, hab⟩ : ∃ ab, altsB 0 al = ab := ⟨_, rfl⟩
 rw [hab] at hsp
 obtain ⟨N, w1, hN, hw1, hb1, hk1⟩ := bx W #[.int .i64 nid, .int .i64 item, .int .i64 frs, .int .i64 ear, .int .i64 lat, .int .i64 book, .slice ao an ac] [.int .i64 nid, .int .i64 item, .int .i64 frs, .int .i64 ear, .int .i64 lat, .int .i64 book, .slice ao an ac] 24 rfl
 have b0 := hk1.cell 0
 have b1 := hk1.cell 1
 have b2 := hk1.cell 2
 have b3 := hk1.cell 3
 have b4 := hk1.cell 4
 have b5 := hk1.cell 5
 have b6 := hk1.cell 6
 simp only [gz, gs] at b0 b1 b2 b3 b4 b5 b6
 have HN := Lib.hid hN;have HB1 := Lib.hid hb1;have HSP := Lib.hid hsp;have HAB := Lib.hid hab;have HLN := Lib.hid hn
 have HR := Lib.hid (hr.kept (hN ▸ hb1))
 have HID := Lib.hid (fun (n : Int) (w : World) => gIsID n w)
 clear hb1 hk1 hsp hab hr hn
 go_enter Tryz.func88, Tryz.ntmps88
 go_wp2_with fail
 refine (HID.out _ _).mono ?_
 rintro e w' ⟨rfl, rfl⟩
 by_cases h1 : 1 ≤ nid ∧ nid ≤ 1000000
 ·rw [decide_eq_true h1]
  go_wp2_with fail
  refine (HID.out _ _).mono ?_
  rintro e w' ⟨rfl, rfl⟩
  by_cases h2 : 1 ≤ item ∧ item ≤ 1000000
  ·rw [decide_eq_true h2]
   rcases (show frs < 1 ∨ (¬ frs < 1 ∧ frs > 100000000) ∨ (¬ frs < 1 ∧ ¬ frs > 100000000) from by omega) with h3 | ⟨h3, h4⟩ | ⟨h3, h4⟩
   ·have HV : Hid (sp = false) := HSP.out.symm.trans (by rw [decide_eq_false (by omega)]; rfl)
    clear HSP
    go_wp2_with fail
    go_ret;exact rb HV HB1 HN
   ·have HV : Hid (sp = false) := HSP.out.symm.trans (by rw [decide_eq_false (by omega)]; rfl)
    clear HSP
    go_wp2_with fail
    go_ret;exact rb HV HB1 HN
   ·rcases (show ear < 0 ∨ (¬ ear < 0 ∧ ear > lat) ∨ (¬ ear < 0 ∧ ¬ ear > lat ∧ lat > 100000000) ∨ (¬ ear < 0 ∧ ¬ ear > lat ∧ ¬ lat > 100000000) from by omega) with h5 | ⟨h5, h6⟩ | ⟨h5, h6, h7⟩ | ⟨h5, h6, h7⟩
    ·have HV : Hid (sp = false) := HSP.out.symm.trans (by rw [decide_eq_false (by omega)]; rfl)
     clear HSP
     go_wp2_with fail
     go_ret;exact rb HV HB1 HN
    ·have HV : Hid (sp = false) := HSP.out.symm.trans (by rw [decide_eq_false (by omega)]; rfl)
     clear HSP
     go_wp2_with fail
     go_ret;exact rb HV HB1 HN
    ·have HV : Hid (sp = false) := HSP.out.symm.trans (by rw [decide_eq_false (by omega)]; rfl)
     clear HSP
     go_wp2_with fail
     go_ret;exact rb HV HB1 HN
    ·by_cases h8 : book = 0
     ·subst h8
      have HV : Hid (sp = ab) := HSP.out.symm.trans (by rw [decide_eq_true ⟨h1, h2, by omega, by omega, .inl rfl⟩]; rfl)
      clear HSP
      go_wp2_with fail
      go_loopw [3, 53] (fun vr vi wr => ∃ (i : Nat) (r : Int), i ≤ an ∧ vi = .int .i64 i ∧ vr = .int .i64 r ∧ Hid (ab = altsB r (al.drop i)) ∧ Hid (Below w1.heap.size w1 wr)) (fun _ v _ => an - (intOf v).toNat)
      case atStart => exact ⟨0, 0, Nat.zero_le _, rfl, rfl, HAB.out.symm, Below.refl _ _⟩
      case round =>
       obtain ⟨i, r, hin, rfl, rfl, HA, HB⟩ := hrel
       by_cases h : i < an
       ·have q1 : (i : Int) < (an : Int) := by omega
        have q2 : (0 : Int) ≤ (i : Int) := by omega
        obtain ⟨p, hp⟩ : ∃ p, al[i]? = some p := ⟨al[i]'(by rw [HLN.out]; exact h), List.getElem?_eq_getElem _⟩
        obtain ⟨b, o, rfl, hlt, a0, a1⟩ := (HR.out.kept HB.out).at i p hp
        have hA := HA.out
        rw [adrop_cons hp] at hA
        obtain ⟨pr, pi⟩ := p
        simp only [altsB] at hA
        dsimp only at a0 a1
        obtain ⟨M, hM⟩ : ∃ M, wr.heap.size = M := ⟨_, rfl⟩
        have HA2 := Lib.hid hA
        have HNM : Hid (w1.heap.size ≤ M) := (by rw [← hM]; exact HB.out.size : w1.heap.size ≤ M)
        obtain ⟨w2, hw2⟩ : ∃ w2, wr.alloc (.cells #[.int .i64 0, .int .i64 0] 140) = w2 := ⟨_, rfl⟩
        have hb2 : Below w1.heap.size w1 w2 := by rw [← hw2]; exact HB.out.alloc HB.out.size _
        have hk2 : Blk w2 M 140 [.int .i64 0, .int .i64 0] := by rw [← hw2, ← hM]; exact Blk.new wr _ _
        have x0 := hk2.cell 0
        have x1 := hk2.cell 1
        have y0 := hk2.frozen 0
        have y1 := hk2.frozen 1
        simp only [gz, gs] at x0 x1
        have hb3 : Below w1.heap.size w1 ((w2.setCell ⟨M, 0, none⟩ (.int .i64 pr)).setCell ⟨M, 1, none⟩ (.int .i64 pi)) := (hb2.setCell (p := ⟨M, 0, none⟩) HNM.out _).setCell (p := ⟨M, 1, none⟩) HNM.out _
        have HB3 := Lib.hid hb3
        have HBB : Hid (Below W.heap.size W ((w2.setCell ⟨M, 0, none⟩ (.int .i64 pr)).setCell ⟨M, 1, none⟩ (.int .i64 pi))) := (by rw [HN.out]; exact HB1.out.trans (hb3.mono (bnl9 HN.out HB1.out)) : Below W.heap.size W ((w2.setCell ⟨M, 0, none⟩ (.int .i64 pr)).setCell ⟨M, 1, none⟩ (.int .i64 pi)))
        clear hA HA hb2 hb3 hk2 hp hlt HB b0 b1 b2 b3 b4 b5 b6
        have q3 : (i : Int) * 2 ≤ 2000000 := by omega
        rcases (show pr ≤ r ∨ (¬ pr ≤ r ∧ pr > 7) ∨ (¬ pr ≤ r ∧ ¬ pr > 7) from by omega) with h1 | ⟨h1, h2⟩ | ⟨h1, h2⟩
        ·have HV2 : Hid (sp = false) := HV.out.trans (HA2.out.trans (by rw [decide_eq_false (by omega : ¬ r < pr)]; rfl))
         go_wp2_with fail
         go_ret
         exact ⟨ret_bool HV2.out.symm, by first | exact HBB.out | (rw [← HN.out]; exact HBB.out)⟩
        ·have HV2 : Hid (sp = false) := HV.out.trans (HA2.out.trans (by rw [decide_eq_false (by omega : ¬ pr ≤ 7)]; simp))
         go_wp2_with fail
         go_ret
         exact ⟨ret_bool HV2.out.symm, by first | exact HBB.out | (rw [← HN.out]; exact HBB.out)⟩
        ·have HA3 : Hid (ab = (idB pi && altsB pr (al.drop (i + 1)))) := HA2.out.trans (by rw [decide_eq_true (by omega : r < pr), decide_eq_true (by omega : pr ≤ 7)]; rfl)
         go_wp2_with fail
         refine (HID.out _ _).mono ?_
         rintro e w' ⟨rfl, rfl⟩
         unfold idB at HA3
         by_cases h3 : 1 ≤ pi ∧ pi ≤ 1000000
         ·rw [decide_eq_true h3] at HA3 ⊢
          go_wp2_with fail
          go_roundw
          case rel => exact ⟨i + 1, pr, by omega, by go_num, rfl, HA3.out.trans (by simp), HB3.out⟩
          case measure => simp [intOf]; omega
         ·rw [decide_eq_false h3] at HA3 ⊢
          have HV2 : Hid (sp = false) := HV.out.trans (HA3.out.trans (by simp))
          go_wp2_with fail
          go_ret
          exact ⟨ret_bool HV2.out.symm, by first | exact HBB.out | (rw [← HN.out]; exact HBB.out)⟩
       ·have q1 : ¬ (i : Int) < (an : Int) := by omega
        have HV2 : Hid (sp = true) := HV.out.trans (HA.out.trans (by rw [List.drop_of_length_le (by rw [HLN.out]; omega)]; rfl))
        clear h b0 b1 b2 b3 b4 b5 b6
        go_wp2_with fail
        go_ret
        exact ⟨ret_bool HV2.out.symm, by first | exact HB1.out.trans (HB.out.mono (bnl9 HN.out HB1.out)) | (rw [HN.out]; exact HB1.out.trans (HB.out.mono (bnl9 HN.out HB1.out)))⟩
     ·have h9 : (book != 0) = true := by rw [bne_iff_ne]; exact h8
      go_wp2_with fail
      refine (HID.out _ _).mono ?_
      rintro e w' ⟨rfl, rfl⟩
      by_cases h10 : 1 ≤ book ∧ book ≤ 1000000
      ·rw [decide_eq_true h10]
       have HV : Hid (sp = ab) := HSP.out.symm.trans (by rw [decide_eq_true ⟨h1, h2, by omega, by omega, .inr h10⟩]; rfl)
       clear HSP
       go_wp2_with fail
       go_loopw [3, 53] (fun vr vi wr => ∃ (i : Nat) (r : Int), i ≤ an ∧ vi = .int .i64 i ∧ vr = .int .i64 r ∧ Hid (ab = altsB r (al.drop i)) ∧ Hid (Below w1.heap.size w1 wr)) (fun _ v _ => an - (intOf v).toNat)
       case atStart => exact ⟨0, 0, Nat.zero_le _, rfl, rfl, HAB.out.symm, Below.refl _ _⟩
       case round =>
        obtain ⟨i, r, hin, rfl, rfl, HA, HB⟩ := hrel
        by_cases h : i < an
        ·have q1 : (i : Int) < (an : Int) := by omega
         have q2 : (0 : Int) ≤ (i : Int) := by omega
         obtain ⟨p, hp⟩ : ∃ p, al[i]? = some p := ⟨al[i]'(by rw [HLN.out]; exact h), List.getElem?_eq_getElem _⟩
         obtain ⟨b, o, rfl, hlt, a0, a1⟩ := (HR.out.kept HB.out).at i p hp
         have hA := HA.out
         rw [adrop_cons hp] at hA
         obtain ⟨pr, pi⟩ := p
         simp only [altsB] at hA
         dsimp only at a0 a1
         obtain ⟨M, hM⟩ : ∃ M, wr.heap.size = M := ⟨_, rfl⟩
         have HA2 := Lib.hid hA
         have HNM : Hid (w1.heap.size ≤ M) := (by rw [← hM]; exact HB.out.size : w1.heap.size ≤ M)
         obtain ⟨w2, hw2⟩ : ∃ w2, wr.alloc (.cells #[.int .i64 0, .int .i64 0] 140) = w2 := ⟨_, rfl⟩
         have hb2 : Below w1.heap.size w1 w2 := by rw [← hw2]; exact HB.out.alloc HB.out.size _
         have hk2 : Blk w2 M 140 [.int .i64 0, .int .i64 0] := by rw [← hw2, ← hM]; exact Blk.new wr _ _
         have x0 := hk2.cell 0
         have x1 := hk2.cell 1
         have y0 := hk2.frozen 0
         have y1 := hk2.frozen 1
         simp only [gz, gs] at x0 x1
         have hb3 : Below w1.heap.size w1 ((w2.setCell ⟨M, 0, none⟩ (.int .i64 pr)).setCell ⟨M, 1, none⟩ (.int .i64 pi)) := (hb2.setCell (p := ⟨M, 0, none⟩) HNM.out _).setCell (p := ⟨M, 1, none⟩) HNM.out _
         have HB3 := Lib.hid hb3
         have HBB : Hid (Below W.heap.size W ((w2.setCell ⟨M, 0, none⟩ (.int .i64 pr)).setCell ⟨M, 1, none⟩ (.int .i64 pi))) := (by rw [HN.out]; exact HB1.out.trans (hb3.mono (bnl9 HN.out HB1.out)) : Below W.heap.size W ((w2.setCell ⟨M, 0, none⟩ (.int .i64 pr)).setCell ⟨M, 1, none⟩ (.int .i64 pi)))
         clear hA HA hb2 hb3 hk2 hp hlt HB b0 b1 b2 b3 b4 b5 b6
         have q3 : (i : Int) * 2 ≤ 2000000 := by omega
         rcases (show pr ≤ r ∨ (¬ pr ≤ r ∧ pr > 7) ∨ (¬ pr ≤ r ∧ ¬ pr > 7) from by omega) with h1 | ⟨h1, h2⟩ | ⟨h1, h2⟩
         ·have HV2 : Hid (sp = false) := HV.out.trans (HA2.out.trans (by rw [decide_eq_false (by omega : ¬ r < pr)]; rfl))
          go_wp2_with fail
          go_ret
          exact ⟨ret_bool HV2.out.symm, by first | exact HBB.out | (rw [← HN.out]; exact HBB.out)⟩
         ·have HV2 : Hid (sp = false) := HV.out.trans (HA2.out.trans (by rw [decide_eq_false (by omega : ¬ pr ≤ 7)]; simp))
          go_wp2_with fail
          go_ret
          exact ⟨ret_bool HV2.out.symm, by first | exact HBB.out | (rw [← HN.out]; exact HBB.out)⟩
         ·have HA3 : Hid (ab = (idB pi && altsB pr (al.drop (i + 1)))) := HA2.out.trans (by rw [decide_eq_true (by omega : r < pr), decide_eq_true (by omega : pr ≤ 7)]; rfl)
          go_wp2_with fail
          refine (HID.out _ _).mono ?_
          rintro e w' ⟨rfl, rfl⟩
          unfold idB at HA3
          by_cases h3 : 1 ≤ pi ∧ pi ≤ 1000000
          ·rw [decide_eq_true h3] at HA3 ⊢
           go_wp2_with fail
           go_roundw
           case rel => exact ⟨i + 1, pr, by omega, by go_num, rfl, HA3.out.trans (by simp), HB3.out⟩
           case measure => simp [intOf]; omega
          ·rw [decide_eq_false h3] at HA3 ⊢
           have HV2 : Hid (sp = false) := HV.out.trans (HA3.out.trans (by simp))
           go_wp2_with fail
           go_ret
           exact ⟨ret_bool HV2.out.symm, by first | exact HBB.out | (rw [← HN.out]; exact HBB.out)⟩
        ·have q1 : ¬ (i : Int) < (an : Int) := by omega
         have HV2 : Hid (sp = true) := HV.out.trans (HA.out.trans (by rw [List.drop_of_length_le (by rw [HLN.out]; omega)]; rfl))
         clear h b0 b1 b2 b3 b4 b5 b6
         go_wp2_with fail
         go_ret
         exact ⟨ret_bool HV2.out.symm, by first | exact HB1.out.trans (HB.out.mono (bnl9 HN.out HB1.out)) | (rw [HN.out]; exact HB1.out.trans (HB.out.mono (bnl9 HN.out HB1.out)))⟩
      ·rw [decide_eq_false h10]
       have HV : Hid (sp = false) := HSP.out.symm.trans (by rw [decide_eq_false (by omega)]; rfl)
       clear HSP
       go_wp2_with fail
       go_ret;exact rb HV HB1 HN
  ·rw [decide_eq_false h2]
   have HV : Hid (sp = false) := HSP.out.symm.trans (by rw [decide_eq_false (by omega)]; rfl)
   clear HSP
   go_wp2_with fail
   go_ret;exact rb HV HB1 HN
 ·rw [decide_eq_false h1]
  have HV : Hid (sp = false) := HSP.out.symm.trans (by rw [decide_eq_false (by omega)]; rfl)
  clear HSP
  go_wp2_with fail
  go_ret;exact rb HV HB1 HN
end Go.Proofs.YtjkiidhnmljmbaaGreatDoor
