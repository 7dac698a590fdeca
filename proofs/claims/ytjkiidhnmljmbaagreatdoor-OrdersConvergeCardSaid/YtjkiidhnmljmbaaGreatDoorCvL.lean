/- The law Converge: its walk. -/
import Derived.Deep.CutBlock
import Derived.Test.YtjkiidhnmljmbaaGreatDoorCvM
import Derived.Test.YtjkiidhnmljmbaaGreatDoorLnL
set_option linter.unusedVariables false
set_option linter.unusedSimpArgs false
namespace Go.Proofs.YtjkiidhnmljmbaaGreatDoor
open Go.RowKit
theorem geL {α : Type} (a : α) : ∃ x, a = x := ⟨a, rfl⟩
attribute [local go_sem] Oper.semAt_some
def CvJ (W0 : World) (B : Nat) (id : Int) (x i : Nat) (W : World) : Prop := (∃ p : LP, LnM W B id p ∧ LnE p ∧ p.x = x ∧ Ok i (2 * i) p.s ∧ Pre p.s) ∧ Below B W0 W
theorem CvJ.next {W0 : World} {B : Nat} {id k : Int} {x i : Nat} {W W' : World} {p : LP} (hl : LnM W B id p) (hx : p.x = x) (hok : Ok i (2 * i) p.s) (hp : Pre p.s) (hi : i < 50) (hb : Below B W0 W) (hB : B ≤ W0.heap.size) (hk : k ≠ 6) {e : Ending} (h : DoesP W B id p k e W') : e = .returned (.bool true) ∧ CvJ W0 B id x (i + 1) W' := by
 obtain ⟨he, p', h1, h2, h3, h4, h5⟩ := h
 refine ⟨he, ⟨p', h1, h2, h3.trans hx, (h5 i (2 * i) hok hi).1.mono (Nat.le_refl _) (by omega), (h5 i (2 * i) hok hi).2 hk hp⟩, hb.trans ?_⟩
 exact h4.fr.below B (Nat.le_trans hB hb.size) (fun c hc => Nat.le_of_not_lt (fun hlt => hc (hl.lo c hlt)))
theorem CvJ.skip {W0 : World} {B : Nat} {id : Int} {x i : Nat} {W : World} (h : CvJ W0 B id x i W) : CvJ W0 B id x (i + 1) W := by
 obtain ⟨⟨p, h1, h2, h3, h4, h5⟩, hb⟩ := h
 exact ⟨⟨p, h1, h2, h3, h4.mono (by omega) (by omega), h5⟩, hb⟩
def CvB (W0 : World) (B : Nat) (id : Int) (x bs br : Nat) (T : Int) (s : PS) (i : Nat) (W : World) : Prop := ∃ p : LP, CvI W0 B id x bs br T (s.run T i) p W
theorem sq_of {n m : Nat} {s : PS} (h : Ok n m s) (hp : Pre s) : Sq s := ⟨fun j p hj => (h.ok j p hj).1, h.hk, hp⟩
theorem dlv_ok {n m : Nat} {s : PS} {q : GP} (h : Ok n m s) : Ok n (m + 1) (s.dlv q) := h.recv.ack
theorem dlvs_ok {n : Nat} : ∀ (Ds : List GP) {m : Nat} {s : PS}, Ok n m s → Ok n (m + Ds.length) (s.dlvs Ds)
 | [], _, _, h => h
 | q :: Ds, m, s, h => by
  have := dlvs_ok Ds (dlv_ok (q := q) h)
  rw [List.length_cons, show m + (Ds.length + 1) = m + 1 + Ds.length by omega];exact this
theorem run_ok {n m : Nat} {s : PS} {T : Int} (h : Ok n m s) (hn : n ≤ 50) (T0 : 0 ≤ T) (T1 : T ≤ 9 * (n : Int)) : ∀ i, i ≤ 10 → Ok (n + i) (m + 60 * i) (s.run T i)
 | 0, _ => h
 | i + 1, hi => by
  have ih := run_ok h hn T0 T1 i (by omega)
  have h1 := ih.tick (now := T + i) (by omega) (by omega) (by omega)
  have h2 := dlvs_ok ((s.run T i).out (T + i)) h1
  have h3 : ((s.run T i).out (T + i)).length ≤ n + i := Nat.le_trans (sentG_len _ _ _ _) ih.nR
  exact h2.mono (by omega) (by omega)
theorem dlvs_take {s : PS} {Ds : List GP} {k : Nat} {q : GP} (h : Ds[k]? = some q) : s.dlvs (Ds.take (k + 1)) = (s.dlvs (Ds.take k)).dlv q := by
 rw [List.take_add_one, h];exact dlvs_app _ _ _
set_option maxHeartbeats 8000000 in
set_option maxRecDepth 100000 in
theorem walkCv (W : World) (c0 : Int) (hc0 : inI c0) (oa : Option Addr) (cap : Nat) (l : List StD) (hlm : l.length ≤ maxLen) (hr : RdT W oa l) (hse : ∃ er, W.cell? ⟨0, 0, none⟩ = some (.iface 196 (.pointer (some er)))) :
  Calls Tryz.prog 5 #[.int .i64 c0, .slice oa l.length cap] W fun e w' => e = .returned (.bool true) ∧ Below W.heap.size W w' := by
 obtain ⟨er, hg⟩ := hse
 have HSA := Lib.hid (sane_any er W hg)
 obtain ⟨n9, hn9⟩ := geL l.length
 rw [hn9] at hlm ⊢
 have HN9 := Lib.hid hn9;have HR := Lib.hid hr;have HC := Lib.hid hc0
 have HST := Lib.hid (show (Tryz.prog.info? 48).map (·.size) = some 60 from by kernel_rfl)
 have HSM := szM
 have hmax : n9 ≤ 9223372036854775807 := Nat.le_trans hlm (by unfold maxLen; decide)
 clear hn9 hr hc0 hg hlm
 go_enter Tryz.func5, Tryz.ntmps5
 go_wp2_with fail
 refine HSA.out.mono ?_
 rintro e w1 ⟨rfl, hb1⟩;have HB1 := Lib.hid hb1;clear hb1
 go_wp2_with fail
 refine (pickO_any c0 3 _ HC.out.1 HC.out.2 (by decide) (by decide)).mono ?_
 rintro e w' ⟨rfl, rfl⟩
 obtain ⟨id, hid⟩ := geL (pickO c0 3)
 have HID : Hid (0 ≤ id ∧ id < 3) := (by rw [← hid]; exact pickO_bd _ _ (by decide) : 0 ≤ id ∧ id < 3)
 rw [hid];clear hid
 go_wp2_with fail
 refine (begin_any id _ HID.out.1 HID.out.2).mono ?_
 rintro e w2 ⟨p, rfl, hl, he, hs, hb2⟩
 obtain ⟨B, hB⟩ := geL w1.heap.size
 rw [hB] at hl hb2
 have hBW : W.heap.size ≤ B := by rw [← hB]; exact HB1.out.size
 obtain ⟨x, hx⟩ := geL p.x
 have hl2 : CvJ w1 B id x 0 w2 := ⟨⟨p, hl, he, hx, by rw [hs]; exact s0_ok, by rw [hs]; exact ⟨rfl, fun x e => absurd e (by simp [s0]), rfl⟩⟩, hb2⟩
 rw [hx];have HL := Lib.hid hl2;have HBW := Lib.hid hBW
 have HBB : Hid (B ≤ w1.heap.size) := (by omega : B ≤ w1.heap.size)
 clear hl he hs hb2 hB hBW hx hl2
 go_upto_block 0 with (fail)
 go_cut [7] from 18 to 42 (fun v wx => Hid (CvJ w1 B id x 40 wx))
 case first =>
  go_wp2_with fail
  go_loopw [7] (fun vi wr => ∃ i : Nat, i ≤ n9 ∧ i ≤ 40 ∧ vi = .int .i64 i ∧ Hid (CvJ w1 B id x i wr)) (fun v _ => n9 - (intOf v).toNat)
  case atStart => exact ⟨0, Nat.zero_le _, Nat.zero_le _, rfl, HL⟩
  case round =>
   clear HL
   obtain ⟨i, hi1, hi2, rfl, HL⟩ := hrel
   by_cases h : i < n9 ∧ i < 40
   ·have q1 : (i : Int) < (n9 : Int) := by omega
    have q2 : (i : Int) < 40 := by omega
    have q3 : (0 : Int) ≤ (i : Int) := by omega
    have hni : IntKind.i64.wrap ((i : Int) + 1) = (i : Int) + 1 := IntWalk.i64_in _ (by omega)
    have hb9 : Below W.heap.size W wr := HB1.out.trans (HL.out.2.mono HBW.out)
    obtain ⟨y, hy⟩ : ∃ y, l[i]? = some y := ⟨l[i]'(by rw [HN9.out]; exact h.1), List.getElem?_eq_getElem _⟩
    have hrow : ∃ b o, oa = some ⟨b, o, none⟩ ∧ wr.rangeAt b (o + i * 60) y.l := by
     rcases HR.out.row with e | ⟨b, o, e, hlt, hc⟩
     ·rw [e] at hy; simp at hy
     ·exact ⟨b, o, e, fun j v hj => (hb9.cell (p := ⟨b, o + i * 60 + j, none⟩) hlt).trans (hc i y hy j v hj)⟩
    obtain ⟨b, o, rfl, hrg⟩ := hrow
    have hsto : StO wr B y := ((HR.out.ok y (List.mem_of_getElem? hy)).keptB hb9 (Nat.le_refl _)).wide HBW.out
    have HRG := Lib.hid hrg;have HSTO := Lib.hid hsto
    have hcy : wr.cell? ⟨b, o + i * 60, none⟩ = some (.int .i64 y.yc) := hrg 0 (.int .i64 y.yc) rfl
    have hin := h.1
    have hi40 := h.2
    clear h hb9 hy hrg hsto
    go_wp2_with fail
    refine (pickO_any y.yc 7 _ HSTO.out.c.1 HSTO.out.c.2 (by decide) (by decide)).mono ?_
    rintro e w' ⟨rfl, rfl⟩
    obtain ⟨c7, hc7⟩ := geL (pickO y.yc 7)
    rw [hc7];have HC7 := Lib.hid hc7;clear hc7
    by_cases h6 : c7 = 6
    ·have q6 : (c7 != 6) = false := by rw [h6]; rfl
     have HLX : Hid (CvJ w1 B id x (i + 1) wr) := HL.out.skip
     clear h6
     go_wp2_with fail
     go_roundw
     case rel => exact ⟨i + 1, by omega, by omega, by go_num, HLX⟩
     case measure => simp [intOf]; omega
    ·have q6 : (c7 != 6) = true := bne_iff_ne.2 h6
     have H6 := Lib.hid h6;clear h6
     go_wp2_with (refine wpList_load_mid rfl 48 (.tmp 38) rfl b (o + i * 60) rfl y.l _ HRG.out Tryz.underlying48 rfl HST.out ?_)
     obtain ⟨⟨p, hl, he, hx, hok, hpre⟩, hbl⟩ := HL.out
     have hdo := does_any wr B id p hl he y HSTO.out i (2 * i) hok (by omega) (by omega) HID.out.1 HID.out.2
     rw [hx, HC7.out] at hdo
     refine hdo.mono ?_
     intro e v1 hd
     obtain ⟨rfl, hl1⟩ := CvJ.next hl hx hok hpre (by omega) hbl HBB.out H6.out hd
     have HLX : Hid (CvJ w1 B id x (i + 1) v1) := hl1
     clear hl he hx hok hpre hbl hdo hd hl1 hcy HRG HSTO HL
     go_wp2_with fail
     go_roundw
     case rel => exact ⟨i + 1, by omega, by omega, by go_num, HLX⟩
     case measure => simp [intOf]; omega
   ·have HLX : Hid (CvJ w1 B id x 40 wr) := (by
     obtain ⟨⟨p, h1, h2, h3, h4, h5⟩, hb⟩ := HL.out
     exact ⟨⟨p, h1, h2, h3, h4.mono (by omega) (by omega), h5⟩, hb⟩ : CvJ w1 B id x 40 wr)
    by_cases hin : i < n9
    ·have q1 : (i : Int) < (n9 : Int) := by omega
     have q2 : ¬ (i : Int) < 40 := by omega
     clear h
     go_wp2_with fail
     go_meet
     exact HLX
    ·have q1 : ¬ (i : Int) < (n9 : Int) := by omega
     clear h
     go_wp2_with fail
     go_meet
     exact HLX
 case rest =>
  have HJ := hcut
  clear hcut HL
  obtain ⟨⟨p, hl, he, hx, hok, hpre⟩, hbl⟩ := HJ.out
  obtain ⟨v3, hv3⟩ := geL (wc.setCell ⟨x, 4, none⟩ (.int .i64 (max p.now 0)))
  have c4 : wc.cell? ⟨x, 4, none⟩ = some (.int .i64 p.now) := by rw [← hx]; exact hl.bx.cell 4
  have z4 := hl.bx.frozen 4
  rw [hx] at z4
  obtain ⟨T, hT⟩ := geL (max p.now 0)
  have hlo := hok.lo
  have hhi := hok.hi
  have T0 : 0 ≤ T := by omega
  have T1 : T ≤ 360 := by have h9 : p.s.now = p.now := rfl; omega
  have hl3 : LnM v3 B id { p with now := T } := by
   rw [← hv3, hT, ← hx];exact hl.upNow T
  have hb3 : Below B w1 v3 := by
   rw [← hv3]
   exact hbl.setCell (p := ⟨x, 4, none⟩) (by rw [← hx]; exact (hl.cX _ (.inl rfl)).1) _
  obtain ⟨bs, hbs⟩ := geL p.bs
  obtain ⟨br, hbr⟩ := geL p.br
  obtain ⟨s, hs⟩ := geL p.s
  have hI : CvI w1 B id x bs br T s { p with now := T } v3 := ⟨hl3, by rw [← hs]; exact ⟨he.c.eP, he.c.ek, he.c.el, he.c.eE, he.c.eM⟩, hx, hbs, hbr, rfl, hb3⟩
  have hok2 : Ok 41 80 s := by rw [← hs]; exact hok.mono (by omega) (by omega)
  have hpre2 : Pre s := by rw [← hs]; exact hpre
  have HSQ := Lib.hid (sq_of hok2 hpre2)
  have HOK : Hid (∀ i, i ≤ 10 → Ok (41 + i) (80 + 60 * i) (s.run T i)) := run_ok hok2 (by decide) T0 (by omega)
  have HI0 : Hid (CvB w1 B id x bs br T s 0 v3) := ⟨_, hI⟩
  have HV3 := Lib.hid hv3;rw [hT] at hv3
  have HTB := Lib.hid (And.intro T0 T1)
  clear hl he hok hpre hbl hlo hhi T0 T1 hl3 hb3 hI hok2 hpre2 hs hbs hbr hx HJ
  go_wp2_with fail
  go_loopw [8] (fun vi wr => ∃ i : Nat, i ≤ 10 ∧ vi = .int .i64 i ∧ Hid (CvB w1 B id x bs br T s i wr)) (fun v _ => 10 - (intOf v).toNat)
  case atStart => exact ⟨0, Nat.zero_le _, rfl, HI0⟩
  case round =>
   clear HI0 HV3 hv3 c4 z4
   obtain ⟨i, hi, rfl, HI⟩ := hrel
   by_cases h : i < 10
   ·have q1 : (i : Int) < 10 := by omega
    have hni : IntKind.i64.wrap ((i : Int) + 1) = (i : Int) + 1 := IntWalk.i64_in _ (by omega)
    have hnt : IntKind.i64.wrap (T + (i : Int)) = T + (i : Int) := IntWalk.i64_in _ (by have := HTB.out; omega)
    obtain ⟨p1, hI1⟩ := HI.out
    clear HI
    obtain ⟨u, hu⟩ := geL (s.run T i)
    rw [hu] at hI1;have HU := Lib.hid hu
    have hok1 := HOK.out i (by omega)
    rw [hu] at hok1
    have hsq1 := run_sq HSQ.out T i
    rw [hu] at hsq1;have HO1 := Lib.hid hok1;have HS1 := Lib.hid hsq1;clear hu hok1 hsq1
    go_upto_region 13 with (fail)
    have hI2 := hI1.below HBB.out (Below.refl _ _).drew
    refine wp_region_held_drew (S := fun W => W.cell? ⟨x, 0, none⟩ = some (.pointer (some ⟨bs, 0, none⟩)) ∧ W.cell? ⟨x, 4, none⟩ = some (.int .i64 T)) (by kernel_rfl) ?_ (fun hHeld => ?_)
    ·exact ⟨hI2.cells.1, hI2.cells.2.2⟩
    have HIa := Lib.hid hI2;clear hI2 hI1;generalize wr.drew = z at HIa hHeld ⊢;refine tk 0 (some 54) ?_;refine tk 1 (some 55) ?_;refine tk 2 (some 56) ?_;refine tk 3 (some 57) ?_;refine tk 4 (some 58) ?_;refine tk 5 (some 59) ?_;refine tk 6 (some 60) ?_;refine tk 7 (some 61) ?_
    refine tk 8 (some 62) ?_;refine tk 9 (some 63) ?_
    refine rd1 10 (some 64) (fun K hK => ?_)
    go_simp
    refine (cv_tick HIa.out HBB.out HO1.out (by omega) (by have := HTB.out; omega) (by have := HTB.out; omega)).mono ?_
    rintro e z1 ⟨ob, cap1, Ms, p2, rfl, hms, hI3, hrd⟩
    obtain ⟨nm, hnm⟩ := geL Ms.length
    rw [hnm];have HMS := Lib.hid hms;have HI3 := Lib.hid hI3;have HRD := Lib.hid hrd;have HNM := Lib.hid hnm;clear hms hI3 hrd hnm;go_simp
    refine hK.out _ _ ?_ (fun hHeld2 => ?_)
    ·exact ⟨HI3.out.cells.1, HI3.out.cells.2.2⟩
    clear hK K hHeld;rename _ => hHeld;refine tk 11 (some 9) ?_;refine wpAnyH_done (by kernel_rfl) ?_ _;clear hHeld
    have hnm60 : nm ≤ 60 := by
     have h1 := congrArg List.length HMS.out
     rw [List.length_map, HNM.out] at h1
     have h2 : (u.out (T + i)).length ≤ u.R.length := sentG_len _ _ _ _
     have h3 := HO1.out.nR
     omega
    obtain ⟨D, hD⟩ := geL (u.out (T + i))
    have HD := Lib.hid hD
    have HMD : Hid (Ms.map GP.c = D) := HMS.out.trans hD
    have HK0 : Hid (∃ p, CvI w1 B id x bs br T ((u.tick (T + i)).dlvs (D.take 0)) p z1 ∧ Rd0 z1 p.col ob (Ms.map (ordM id))) := ⟨p2, HI3.out, HRD.out⟩
    clear hD HMS HI3 HRD HIa
    go_wp2_with fail
    go_loopw [10] (fun vk wr => ∃ k : Nat, k ≤ nm ∧ vk = .int .i64 k ∧ Hid (∃ p, CvI w1 B id x bs br T ((u.tick (T + i)).dlvs (D.take k)) p wr ∧ Rd0 wr p.col ob (Ms.map (ordM id)))) (fun v _ => nm - (intOf v).toNat)
    case atStart => exact ⟨0, Nat.zero_le _, rfl, HK0⟩
    case round =>
     clear HK0
     obtain ⟨k, hk, rfl, HK⟩ := hrel
     by_cases h2 : k < nm
     ·have r1 : (k : Int) < (nm : Int) := by omega
      have r3 : (0 : Int) ≤ (k : Int) := by omega
      have hnk : IntKind.i64.wrap ((k : Int) + 1) = (k : Int) + 1 := IntWalk.i64_in _ (by omega)
      obtain ⟨p3, hI4, hrd4⟩ := HK.out
      clear HK
      obtain ⟨q, hq⟩ : ∃ q, Ms[k]? = some q := ⟨Ms[k]'(by rw [HNM.out]; exact h2), List.getElem?_eq_getElem _⟩
      have hqL : (Ms.map (ordM id))[k]? = some (ordM id q) := by rw [List.getElem?_map, hq]; rfl
      have hqD : D[k]? = some q.c := by rw [← HMD.out, List.getElem?_map, hq]; rfl
      obtain ⟨b, o, hob, hlt, hrg⟩ := hrd4.rd.at k (ordM id q) hqL
      subst hob
      have HKR : Hid (∀ y f, Rd0 y f (some ⟨b, o, none⟩) (Ms.map (ordM id)) → y.rangeAt b (o + k * 31) (ordM id q).m.l) := fun y f hy => by
       obtain ⟨b9, o9, e9, _, hrg9⟩ := hy.rd.at k (ordM id q) hqL
       cases e9
       exact hrg9
      have hqa := hrd4.rd.als (ordM id q) (List.mem_of_getElem? hqL)
      obtain ⟨uk, huk⟩ := geL ((u.tick (T + i)).dlvs (D.take k))
      have hokk : Ok (41 + i + 1) (80 + 60 * i + k) uk := by
       have h3 := dlvs_ok (D.take k) (HO1.out.tick (now := T + i) (by omega) (by have := HTB.out; omega) (by have := HTB.out; omega))
       rw [huk] at h3
       exact h3.mono (Nat.le_refl _) (by rw [List.length_take]; omega)
      have hj9 : ∃ j : Nat, (uk.R.map pOf)[j]? = some q.c := by
       have hin : q.c ∈ u.out (T + i) := by rw [HD.out]; exact List.mem_of_getElem? hqD
       obtain ⟨j, pj, e1, e2, e3, e4, e5⟩ := (sentG_mem _ _ _ _ _).1 hin
       have hdv := dv_any (tick_sq HS1.out (T + i)) _ (D.take k) rfl (fun r hr => by
        have hr2 : r ∈ u.out (T + i) := by rw [HD.out]; exact List.mem_of_mem_take hr
        obtain ⟨j2, p2', f1, f2, f3, f4, f5⟩ := (sentG_mem _ _ _ _ _).1 hr2
        refine ⟨j2, ?_⟩
        show ((updG _ _ _ _).map pOf)[j2]? = _
        rw [updG_p, pOf_mk f3, f5])
       rw [huk] at hdv
       refine ⟨j, ?_⟩
       rw [hdv.R]
       show ((updG _ _ _ _).map pOf)[j]? = _
       rw [updG_p, pOf_mk e3, e5]
      obtain ⟨j9, hj9⟩ := hj9
      rw [huk] at hI4;have HUE := Lib.hid huk
      have HUK : Hid ((u.tick (T + i)).dlvs (D.take (k + 1)) = uk.dlv q.c) := by rw [← huk]; exact Lib.hid (dlvs_take hqD)
      have HOKk := Lib.hid hokk;have HJ9 := Lib.hid hj9;clear hq hqL hqD hlt hrg huk hokk hj9
      go_upto_region 17 with (fail)
      have hI5 := hI4.below HBB.out (Below.refl _ _).drew
      have hrd5 := hrd4.turn (Nx.below (f := p3.col) (Below.refl wr.heap.size wr).drew)
      have hqr := hqa.2.2.kept (Below.refl wr.heap.size wr).drew
      refine wp_region_held_drew (S := fun W => W.cell? ⟨x, 1, none⟩ = some (.pointer (some ⟨br, 0, none⟩)) ∧ W.rangeAt b (o + k * 31) (ordM id q).m.l) (by kernel_rfl) ?_ (fun hHeld => ?_)
      ·exact ⟨hI5.cells.2.1, HKR.out _ _ hrd5⟩
      have HIb := Lib.hid hI5;have HRDb := Lib.hid hrd5
      have HQ1 : Hid (q.al.length = q.o.an) := hqa.1
      have HQ2 : Hid (q.o.an ≤ 1000000) := hqa.2.1
      have HQ3 : Hid (RdA wr.drew q.o.ao q.al) := hqr
      clear hI5 hI4 hrd5 hrd4 hqa hqr;generalize wr.drew = z2 at HIb HRDb HQ3 hHeld ⊢;refine tk 0 (some 71) ?_;refine tk 1 (some 72) ?_;refine tk 2 (some 73) ?_;refine tk 3 (some 74) ?_;refine tk 4 (some 75) ?_;refine tk 5 (some 76) ?_;refine tk 6 (some 77) ?_
      refine tkL 7 (some 78) 32 (.tmp 77) b (o + k * 31) (ordM id q).m.l (fun _ h => h.2) Tryz.underlying32 HSM.out ?_
      refine rd1 8 (some 79) (fun K hK => ?_)
      go_simp
      refine (cv_recv HIb.out HBB.out HOKk.out (by omega) (by omega) HID.out.1 HID.out.2 HJ9.out HQ1.out HQ2.out HQ3.out).mono ?_
      rintro e z3 ⟨oc, cap2, p4, rfl, hI6, hrx, hnx, hfo⟩;have HI6 := Lib.hid hI6;have HRX := Lib.hid hrx
      have HRD6 := Lib.hid (HRDb.out.turn hnx)
      have HFO := Lib.hid hfo;clear hI6 hrx hnx hfo;go_simp
      refine hK.out _ _ ?_ (fun hHeld2 => ?_)
      ·exact ⟨HI6.out.cells.2.1, HKR.out _ _ HRD6.out⟩
      clear hK K hHeld;rename _ => hHeld;refine tk 9 (some 11) ?_;refine wpAnyH_done (by kernel_rfl) ?_ _;clear hHeld
      obtain ⟨ur, hur⟩ := geL (uk.recv q.c.o.s q.c)
      obtain ⟨m9, hm9⟩ := geL ur.l.length
      have hokr : Ok (41 + i + 1) (80 + 60 * i + k + 1) ur := by rw [← hur]; exact HOKk.out.recv
      have hm200 : m9 ≤ 200 := by
       have hsk : Sq uk := by
        have hdv := dv_any (tick_sq HS1.out (T + i)) _ (D.take k) rfl (fun r hr => by
         have hr2 : r ∈ u.out (T + i) := by rw [HD.out]; exact List.mem_of_mem_take hr
         obtain ⟨j2, p2', f1, f2, f3, f4, f5⟩ := (sentG_mem _ _ _ _ _).1 hr2
         refine ⟨j2, ?_⟩
         show ((updG _ _ _ _).map pOf)[j2]? = _
         rw [updG_p, pOf_mk f3, f5])
        rw [HUE.out] at hdv;exact hdv.sq
       have hst := dlv_step hsk HJ9.out
       have hle := hst.1.pre.le
       have hl9 : (uk.dlv q.c).l.length = m9 := by
        have := congrArg List.length (ack_l (uk.recv q.c.o.s q.c) (uk.recv q.c.o.s q.c).l.length).1
        rw [← hm9, ← hur];exact this
       have hl8 : (uk.dlv q.c).R.length = uk.R.length := by
        have := congrArg List.length hst.2.1
        rw [List.length_map, List.length_map] at this;exact this
       have := HOKk.out.nR
       omega
      have HJ0 : Hid (∃ p, CvI w1 B id x bs br T ur p z3 ∧ Rd0 z3 p.col (some ⟨b, o, none⟩) (Ms.map (ordM id)) ∧ RdX z3 B z2.heap.size oc [ackMP id m9] ∧ (∀ c, FoS p.bs p.vp p.P c → B ≤ c ∧ c < z2.heap.size)) := ⟨p4, by rw [← hur]; exact HI6.out, HRD6.out, by rw [← hm9, ← hur]; exact HRX.out, HFO.out⟩
      have HUR : Hid (ur.ack m9 = uk.dlv q.c) := (by rw [← hm9, ← hur]; rfl : ur.ack m9 = uk.dlv q.c)
      have HOKr := Lib.hid hokr;have HM9 := Lib.hid hm200;clear hur hm9 hokr hm200 HI6 HRD6 HRX HFO HIb HRDb HQ1 HQ2 HQ3 HJ9
      go_wp2_with fail
      go_loopw [12] (fun vj wr => ∃ j : Nat, j ≤ 1 ∧ vj = .int .i64 j ∧ Hid (j = 0 → ∃ p, CvI w1 B id x bs br T ur p wr ∧ Rd0 wr p.col (some ⟨b, o, none⟩) (Ms.map (ordM id)) ∧ RdX wr B z2.heap.size oc [ackMP id m9] ∧ (∀ c, FoS p.bs p.vp p.P c → B ≤ c ∧ c < z2.heap.size)) ∧ Hid (j = 1 → ∃ p, CvI w1 B id x bs br T (uk.dlv q.c) p wr ∧ Rd0 wr p.col (some ⟨b, o, none⟩) (Ms.map (ordM id)))) (fun v _ => 1 - (intOf v).toNat)
      case atStart => exact ⟨0, Nat.zero_le _, rfl, fun _ => HJ0.out, fun e => absurd e (by decide)⟩
      case round =>
       clear HJ0
       obtain ⟨j, hj, rfl, HA, HC2⟩ := hrel
       by_cases h3 : j < 1
       ·obtain rfl : j = 0 := by omega
        obtain ⟨p5, hI7, hrd7, hrx7, hfo7⟩ := HA.out rfl
        obtain ⟨b2, o2, hoc, hlt2, hrg2⟩ := hrx7.rd.at 0 (ackMP id m9) rfl
        subst hoc
        have HKA : Hid (∀ y, RdX y B z2.heap.size (some ⟨b2, o2, none⟩) [ackMP id m9] → y.rangeAt b2 o2 (ackMP id m9).m.l) := fun y hy => by
         obtain ⟨b9, o9, e9, _, hrg9⟩ := hy.rd.at 0 (ackMP id m9) rfl
         cases e9
         rw [Nat.zero_mul, Nat.add_zero] at hrg9;exact hrg9
        clear HA HC2 hlt2 hrg2 h3
        go_upto_region 21 with (fail)
        have hI8 := hI7.below HBB.out (Below.refl _ _).drew
        have hrd8 := hrd7.turn (Nx.below (f := p5.col) (Below.refl wr.heap.size wr).drew)
        have hrx8 := hrx7.below (Below.refl _ _).drew
        refine wp_region_held_drew (S := fun W => W.cell? ⟨x, 0, none⟩ = some (.pointer (some ⟨bs, 0, none⟩)) ∧ W.rangeAt b2 o2 (ackMP id m9).m.l) (by kernel_rfl) ?_ (fun hHeld => ?_)
        ·exact ⟨hI8.cells.1, HKA.out _ hrx8⟩
        have HIc := Lib.hid hI8;have HRDc := Lib.hid hrd8;have HRXc := Lib.hid hrx8;have HFO := Lib.hid hfo7;clear hI8 hI7 hrd8 hrd7 hrx8 hrx7 hfo7;generalize wr.drew = z4 at HIc HRDc HRXc hHeld ⊢;refine tk 0 (some 86) ?_;refine tk 1 (some 87) ?_;refine tk 2 (some 88) ?_
        refine tk 3 (some 89) ?_;refine tk 4 (some 90) ?_;refine tk 5 (some 91) ?_;refine tk 6 (some 92) ?_
        refine tkL 7 (some 93) 32 (.tmp 92) b2 o2 (ackMP id m9).m.l (fun _ h => h.2) Tryz.underlying32 HSM.out ?_
        refine rd1 8 (some 94) (fun K hK => ?_)
        go_simp
        refine (cv_ack HIc.out HBB.out HOKr.out (by omega) HM9.out HID.out.1 HID.out.2).mono ?_
        rintro e z5 ⟨⟨v, rfl⟩, p6, hI9, hnx9, hf9⟩;have HI9 := Lib.hid hI9
        have HRD9 := Lib.hid (HRDc.out.turn hnx9)
        have HRX9 := Lib.hid (HRXc.out.turn hf9 (fun c e => HFO.out c e))
        clear hI9 hnx9 hf9;go_simp
        refine hK.out _ _ ?_ (fun hHeld2 => ?_)
        ·exact ⟨HI9.out.cells.1, HKA.out _ HRX9.out⟩
        clear hK K hHeld;rename _ => hHeld
        try simp only [Act.put, sa, sz, ss]
        refine wpAnyH_done (by kernel_rfl) ?_ _;clear hHeld
        have HLX : Hid (∃ p, CvI w1 B id x bs br T (uk.dlv q.c) p z5 ∧ Rd0 z5 p.col (some ⟨b, o, none⟩) (Ms.map (ordM id))) := ⟨p6, by rw [← HUR.out]; exact HI9.out, HRD9.out⟩
        clear HIc HRDc HRXc HFO HI9 HRD9 HRX9
        go_wp2_with fail
        go_roundw
        case rel => exact ⟨1, by omega, by first | rfl | go_num, fun e => absurd e (by decide), fun _ => HLX.out⟩
        case measure => simp [intOf]
       ·obtain rfl : j = 1 := by omega
        have HLX : Hid (∃ p, CvI w1 B id x bs br T ((u.tick (T + i)).dlvs (D.take (k + 1))) p wr ∧ Rd0 wr p.col (some ⟨b, o, none⟩) (Ms.map (ordM id))) := by rw [HUK.out]; exact Lib.hid (HC2.out rfl)
        clear h3 HA HC2
        go_wp2_with fail
        go_roundw
        case rel => exact ⟨k + 1, by omega, by go_num, HLX⟩
        case measure => simp [intOf]; omega
     ·have e : k = nm := by omega
      subst e
      have r1 : ¬ (k : Int) < (k : Int) := by omega
      obtain ⟨p3, hI4, hrd4⟩ := HK.out
      have HLX : Hid (CvB w1 B id x bs br T s (i + 1) wr) := (by
       refine ⟨p3, ?_⟩
       show CvI w1 B id x bs br T ((s.run T i).beat (T + i)) p3 wr
       rw [HU.out]
       unfold PS.beat
       rw [HD.out]
       rw [List.take_of_length_le (by rw [← HMD.out, List.length_map, HNM.out]; exact Nat.le_refl _)] at hI4
       exact hI4 : CvB w1 B id x bs br T s (i + 1) wr)
      clear h2 hI4 hrd4 HK
      go_wp2_with fail
      go_roundw
      case rel => exact ⟨i + 1, by omega, by go_num, HLX⟩
      case measure => simp [intOf]; omega
   ·obtain rfl : i = 10 := by omega
    have q1 : ¬ ((10 : Nat) : Int) < 10 := by omega
    have q1' : ¬ (10 : Int) < 10 := by omega
    obtain ⟨p1, hI1⟩ := HI.out
    clear HI h hi
    obtain ⟨u, hu⟩ := geL (s.run T 10)
    rw [hu] at hI1
    have hten := run_ten HSQ.out T
    rw [hu] at hten
    have hok1 := HOK.out 10 (by omega)
    rw [hu] at hok1
    have hnR := hok1.nR
    obtain ⟨e1, e2, e3, e4⟩ := lnc_len hI1.c
    obtain ⟨ol, cl, hvL⟩ := own_slice hI1.ln.sa.ownL
    obtain ⟨nl, hnl⟩ := geL ((p1.R.map pOf).length)
    rw [hnl] at hvL
    have hnl9 : nl ≤ 200 := by rw [← hnl, List.length_map]; omega
    have hln : u.l.length = nl := by rw [hten.2, ← hnl, List.length_map, List.length_map]; exact e4.symm
    have HDN : Hid ((u.k == u.R.length) = true) := (by rw [hten.1]; exact beq_self_eq_true _ : (u.k == u.R.length) = true)
    have HLN := Lib.hid hln;have HNL := Lib.hid hnl;have HVL := Lib.hid hvL
    have HUC : Hid (u.l = (p1.R.map pOf).map GP.c) := (by rw [hI1.c.eM]; exact hten.2 : u.l = (p1.R.map pOf).map GP.c)
    have HKS : Hid (∀ y9, CvI w1 B id x bs br T u p1 y9 → y9.cell? ⟨x, 0, none⟩ = some (.pointer (some ⟨bs, 0, none⟩)) ∧ y9.cell? ⟨x, 1, none⟩ = some (.pointer (some ⟨br, 0, none⟩)) ∧ y9.cell? ⟨x, 2, none⟩ = some (.pointer (some ⟨p1.ba, 0, none⟩)) ∧ y9.cell? ⟨p1.ba, 1, none⟩ = some (.slice ol nl cl)) := fun y9 hy => by
     refine ⟨hy.cells.1, hy.cells.2.1, by rw [← hy.x]; exact hy.ln.bx.cell 2, ?_⟩
     have h2 := hy.ln.sa.blk.cell 1
     rw [← HVL.out];exact h2
    clear hu hten hok1 hnR e1 e2 e3 e4 hvL hnl hln
    go_upto_region 22 with (fail)
    have hI2 := hI1.below HBB.out (Below.refl _ _).drew
    refine wp_region_held_drew (S := fun W => W.cell? ⟨x, 0, none⟩ = some (.pointer (some ⟨bs, 0, none⟩)) ∧ W.cell? ⟨x, 1, none⟩ = some (.pointer (some ⟨br, 0, none⟩)) ∧ W.cell? ⟨x, 2, none⟩ = some (.pointer (some ⟨p1.ba, 0, none⟩)) ∧ W.cell? ⟨p1.ba, 1, none⟩ = some (.slice ol nl cl)) (by kernel_rfl) ?_ (fun hHeld => ?_)
    ·exact HKS.out _ hI2
    have HIz := Lib.hid hI2;clear hI2 hI1;generalize wr.drew = z at HIz hHeld ⊢;refine tk 0 (some 95) ?_;refine tk 1 (some 96) ?_;refine tk 2 (some 97) ?_;refine tk 3 (some 98) ?_;refine tk 4 (some 99) ?_;refine tk 5 (some 100) ?_
    refine rd1 6 (some 101) (fun K hK => ?_)
    go_simp
    refine (cv_done HIz.out).mono ?_
    rintro e y1 ⟨rfl, hb1⟩;rw [HDN.out]
    have HIy := Lib.hid (HIz.out.below HBB.out hb1)
    clear hb1;go_simp
    refine hK.out _ _ ?_ (fun hHeld2 => ?_)
    ·exact HKS.out _ HIy.out
    clear hK K hHeld;rename _ => hHeld;refine tk 7 (some 102) ?_;refine tk 8 (some 103) ?_;refine tk 9 (some 104) ?_;refine tk 10 (some 105) ?_;refine tk 11 (some 106) ?_;refine tk 12 (some 107) ?_;refine tk 14 (some 109) ?_;refine tk 15 (some 110) ?_;refine tk 16 (some 111) ?_
    refine tk 17 (some 112) ?_;refine tk 18 (some 113) ?_;refine tk 19 (some 114) ?_;refine tk 20 (some 115) ?_
    refine rd1 13 (some 108) (fun K hK => ?_)
    go_simp
    refine (cv_ord HIy.out (by rw [HLN.out]; omega)).mono ?_
    rintro e y2 ⟨ob, cb, l9, rfl, hl9, hrd, hc9, hb2⟩;rw [HLN.out];have HRD := Lib.hid hrd
    have HL9 : Hid (l9.length = nl) := hl9.trans HLN.out
    have HC9 : Hid (l9.map GP.c = (p1.R.map pOf).map GP.c) := hc9.trans HUC.out
    have HIw := Lib.hid (HIy.out.below HBB.out hb2)
    clear hrd hl9 hc9 hb2;go_simp
    refine hK.out _ _ ?_ (fun hHeld2 => ?_)
    ·exact HKS.out _ HIw.out
    clear hK K hHeld;rename _ => hHeld
    try simp only [Act.put, sa, sz, ss]
    refine rd1 21 (some 116) (fun K hK => ?_)
    go_simp
    refine (same_ords HL9.out HNL.out (by omega) HRD.out (SaG.rdl (oa := ol) (n := nl) (cap := cl) (HVL.out ▸ HIw.out.ln.sa)) HC9.out).mono ?_
    rintro e y3 ⟨rfl, hb3⟩
    have HIv := Lib.hid (HIw.out.below HBB.out hb3)
    clear hb3;go_simp
    refine hK.out _ _ ?_ (fun hHeld2 => ?_)
    ·exact HKS.out _ HIv.out
    clear hK K hHeld;rename _ => hHeld;refine tk 22 (some 117) ?_;refine tk 23 (some 4) ?_;refine wpAnyH_done (by kernel_rfl) ?_ _;clear hHeld
    have HBE : Hid (Below W.heap.size W y3) := HB1.out.trans (HIv.out.bl.mono HBW.out)
    clear HIz HIy HIw HIv HRD HC9
    go_wp2_with fail
    go_ret;exact ⟨rfl, HBE.out⟩
end Go.Proofs.YtjkiidhnmljmbaaGreatDoor
