/- Orders: does: a message that was sent is delivered, once or twice. -/
import Derived.Deep.CutBlock
import Derived.Test.YtjkiidhnmljmbaaGreatDoorLnE
set_option linter.unusedVariables false
set_option linter.unusedSimpArgs false
set_option maxRecDepth 100000
set_option maxHeartbeats 8000000
namespace Go.Proofs.YtjkiidhnmljmbaaGreatDoor
open Go.RowKit
attribute [local go_sem] Oper.semAt_some
theorem sets_msg0 (m : MOd) : setsL lZm 0 m.l = m.l := by kernel_rfl
theorem LnM.sentAt {W : World} {B : Nat} {id : Int} {p : LP} {i : Nat} {q : GP} (h : LnM W B id p) (hq : p.S[i]? = some q) {g cap : Nat} (hv : p.vs = .slice (some ⟨g, 0, none⟩) p.S.length cap) : W.rangeAt g (i * 31) (ordM id q).m.l := fun j v hj => by
 have ho := h.os
 rw [hv] at ho
 have hj2 : j < 31 := (List.getElem?_eq_some_iff.1 hj).1
 have hi := (List.getElem?_eq_some_iff.1 hq).1
 rw [ho.cellAt (i * 31 + j) (by omega), gmCells_mp, mpCells_at (p.S.map (ordM id)) i (ordM id q) j (by rw [List.getElem?_map, hq]; rfl) hj2]
 exact hj
theorem LnM.sentV {W : World} {B : Nat} {id : Int} {p : LP} (h : LnM W B id p) (hn : p.S ≠ []) : ∃ g cap, p.vs = .slice (some ⟨g, 0, none⟩) p.S.length cap := by
 rcases h.os.2 with ⟨_, hz⟩ | ⟨g, cap, cur, he, _⟩
 ·exact absurd (List.eq_nil_of_length_eq_zero hz) hn
 ·exact ⟨g, cap, he⟩
theorem does_one (W : World) (B : Nat) (id : Int) (p : LP) (h : LnM W B id p) (he : LnE p) (y : StD) (hy : StO W B y) (n m : Nat) (hok : Ok n m p.s) (hn : n < 50) (hm : m ≤ 150) (h0 : 0 ≤ id) (h1 : id < 3) (hc : pickO y.yc 7 = 2) :
  Calls Tryz.prog 15 #[.pointer (some ⟨p.x, 0, none⟩), .agg y.l.toArray, .int .i64 id] W (DoesP W B id p 2) := by
 obtain ⟨N, hN⟩ : ∃ N, W.heap.size = N := ⟨_, rfl⟩
 obtain ⟨w1, hw1⟩ : ∃ w1, W.alloc (.cells (aY y) 48) = w1 := ⟨_, rfl⟩
 have hb1 : Below W.heap.size W w1 := by rw [← hw1]; exact (Below.refl _ W).alloc (Nat.le_refl _) _
 have hk1 : Blk w1 N 48 y.l := by rw [← hw1, ← hN]; exact Blk.new W _ y.l
 obtain ⟨p0, hl0, he0, hx0, hs0, hn0, hc0⟩ := does_start h he hb1
 have hy1 := hy.kept hb1
 rw [hN] at hc0
 have hok0 : Ok n m p0.s := by rw [hs0]; exact hok
 rw [← hx0];have HE := Lib.hid he0;have HX0 := Lib.hid hx0;have HS0 := Lib.hid hs0;have HN0 := Lib.hid hn0;have HC0 := Lib.hid hc0;have HOK := Lib.hid hok0
 have HNM : Hid (n < 50 ∧ m ≤ 150) := (⟨hn, hm⟩ : n < 50 ∧ m ≤ 150)
 have HID : Hid (0 ≤ id ∧ id < 3) := (⟨h0, h1⟩ : 0 ≤ id ∧ id < 3)
 have HY := Lib.hid hy1;have HCC := Lib.hid hc
 have HSM := szM
 have HSZ := szO
 have y0 : w1.cell? ⟨N, 0, none⟩ = some (.int .i64 y.yc) := hk1.cell 0
 have y1 : w1.cell? ⟨N, 1, none⟩ = some (.int .i64 y.ya) := hk1.cell 1
 have y2 : w1.cell? ⟨N, 2, none⟩ = some (.int .i64 y.yb) := hk1.cell 2
 have HK := Lib.hid hk1
 have HNN : Hid (p0.col N = 0) := hc0 N (Nat.le_refl _)
 have HL := Lib.hid hl0;have HBN := Lib.hid hN;rw [show y.l.toArray = (aY y) from by kernel_rfl];clear h he hy hb1 hk1 hl0 he0 hx0 hs0 hn0 hc0 hy1 hok hok0 hn hm h0 h1 hc
 go_enter Tryz.func15, Tryz.ntmps15
 go_wp2_with fail
 refine (pickO_any y.yc 7 _ HY.out.c.1 HY.out.c.2 (by decide) (by decide)).mono ?_
 rintro e w' ⟨rfl, rfl⟩;rw [HCC.out];clear hN hw1;clear y0 y2
 by_cases hS : p0.S = []
 ·obtain ⟨oS, cS, hv⟩ := own_slice HL.out.os
  have c5 : w1.cell? ⟨p0.x, 5, none⟩ = some (.slice oS 0 cS) := by
   have h1 := HL.out.bx.cell 5
   have h2 : p0.vs = .slice oS 0 cS := by rw [hv, hS]; rfl
   rw [← h2];exact h1
  have HEND := Lib.hid (does_end (k := 2) HX0.out HS0.out HN0.out HL.out HE.out rfl (Nx.below (Below.refl _ _)) (kp_same 2 _))
  clear hS hv y1
  go_wp2_with fail
  go_ret;exact HEND.out
 ·obtain ⟨g, cS, hv⟩ := HL.out.sentV hS
  obtain ⟨n9, hn9⟩ : ∃ n9, p0.S.length = n9 := ⟨_, rfl⟩
  have hpos : 0 < n9 := by rw [← hn9]; exact List.length_pos_iff.2 hS
  have hn9m : n9 ≤ 10000 := by have := HOK.out.R.2.2.2.1; have := HNM.out; omega
  obtain ⟨i, hi⟩ : ∃ i : Nat, pickO y.ya n9 = (i : Int) := ⟨(pickO y.ya n9).toNat, by have := (pickO_bd y.ya n9 (by omega)).1; omega⟩
  have hin : i < n9 := by have := (pickO_bd y.ya n9 (by omega)).2; omega
  obtain ⟨q, hq⟩ : ∃ q, p0.S[i]? = some q := ⟨p0.S[i]'(by omega), List.getElem?_eq_getElem _⟩
  have hqm := List.mem_of_getElem? hq
  have HQC : Hid (q.c ∈ p0.s.S) := List.mem_map.2 ⟨q, hqm, rfl⟩
  have HLQ := Lib.hid (HL.out.aS q hqm)
  have HKS : Hid (∀ y9, Below w1.heap.size w1 y9 → y9.cell? ⟨p0.x, 5, none⟩ = some (.slice (some ⟨g, 0, none⟩) n9 cS) ∧ y9.cell? ⟨N, 1, none⟩ = some (.int .i64 y.ya) ∧ y9.rangeAt g (i * 31) (ordM id q).m.l) := fun y9 hy => by
   have h1 := HL.out.below hy
   refine ⟨?_, (HK.out.kept (hy.block N HK.out.lt)).cell 1, h1.sentAt hq hv⟩
   have h2 := h1.bx.cell 5
   rw [← hn9, ← hv];exact h2
  have HPK := Lib.hid hi
  have q1 : (0 : Int) ≤ (i : Int) := by omega
  have q2 : (i : Int) < (n9 : Int) := by omega
  have q3 : ((n9 : Int) == 0) = false := beq_eq_false_iff_ne.2 (by omega)
  have HQ : Hid (Below w1.heap.size w1 w1) := Below.refl _ _
  have c5 := (HKS.out w1 HQ.out).1
  clear hS hv hn9 hi hq hqm y1
  go_upto_region 19 with (fail)
  clear c5
  go_cut [10] from 144 to 158 (fun v wx => ∃ L : Nat, v = .pointer (some ⟨L, 0, none⟩) ∧ Hid (Blk wx L 32 (ordM id q).m.l) ∧ Hid (Below w1.heap.size w1 wx) ∧ Hid (w1.heap.size ≤ L))
  case first =>
   refine wp_region_held_drew (S := fun W => W.cell? ⟨p0.x, 5, none⟩ = some (.slice (some ⟨g, 0, none⟩) n9 cS) ∧ W.cell? ⟨N, 1, none⟩ = some (.int .i64 y.ya) ∧ W.rangeAt g (i * 31) (ordM id q).m.l) (by kernel_rfl) ?_ (fun hHeld => ?_)
   ·exact HKS.out _ HQ.out.drew
   have HQ := Lib.hid HQ.out.drew;generalize w1.drew = z at HQ hHeld ⊢;refine tk 0 (some 144) ?_;refine tk 1 (some 145) ?_;refine tk 2 (some 146) ?_;refine tk 3 (some 147) ?_;refine tk 4 (some 148) ?_;refine tk 5 (some 149) ?_;refine tk 6 (some 150) ?_;refine tk 7 (some 151) ?_
   refine tk 8 (some 152) ?_;refine tk 9 (some 153) ?_;refine tk 10 (some 154) ?_
   refine wpAnyH_ready (rs := [11, 14]) (by kernel_rfl) (by simp) (AllReadyH.cons (o := ⟨some 155, _, _, _, _, _⟩) rfl (fun K hK => ?_) (AllReadyH.cons (o := ⟨some 10, _, _, _, _, _⟩) rfl (fun K hK => ?_) AllReadyH.nil))
   ·go_simp
    refine (pickO_any y.ya n9 _ HY.out.a.1 HY.out.a.2 (by omega) (by omega)).mono ?_
    rintro e w9 ⟨rfl, rfl⟩;rw [HPK.out];go_simp
    refine hK.out _ _ ?_ (fun hHeld2 => ?_)
    ·exact HKS.out _ HQ.out
    clear hK K hHeld;rename _ => hHeld;refine tk 12 (some 156) ?_
    refine tkL 13 (some 157) 32 (.tmp 156) g (i * 31) (ordM id q).m.l (fun _ h => h.2.2) Tryz.underlying32 HSM.out ?_
    refine rd1 14 (some 10) (fun K hK => ?_)
    go_simp
    obtain ⟨L, hL⟩ : ∃ L, z.heap.size = L := ⟨_, rfl⟩
    have HLL : Hid (w1.heap.size ≤ L) := (by rw [← hL]; exact HQ.out.size : w1.heap.size ≤ L)
    have HM : Hid (Blk _ L 32 lZm) := (by rw [← hL]; exact Blk.new z _ _ : Blk (z.alloc (.cells aZm 32)) L 32 lZm)
    have hbz : Below w1.heap.size w1 (z.alloc (.cells aZm 32)) := HQ.out.alloc HQ.out.size _
    obtain ⟨z2, hz2⟩ : ∃ z2, z.alloc (.cells aZm 32) = z2 := ⟨_, rfl⟩
    rw [hz2] at HM hbz ⊢
    rw [hL];have HQ := Lib.hid hbz;clear hz2 hbz hL
    obtain ⟨z, rfl⟩ : ∃ z, z = z2 := ⟨_, rfl⟩
    refine hK.out _ _ ?_ (fun hHeld2 => ?_)
    ·exact HKS.out _ HQ.out
    clear hK K hHeld;rename _ => hHeld
    try simp only [Act.put, sa, sz, ss]
    refine rd1 15 none (fun K hK => ?_)
    refine step_storeRow (by rfl) 32 (.tmp 10) (.tmp 157) (by rfl) L 32 _ (ordM id q).m.l.toArray (by rfl) (by rfl) HM.out (show 31 ≤ 31 by decide) HSM.out (ordM id q).m.oneC ?_
    have hks := Blk.sets (ordM id q).m.l 0 HM.out
    rw [sets_msg0] at hks;have HKL := Lib.hid hks
    have hbz := below_setCells HQ.out HQ.out.size L 0 (ordM id q).m.l HLL.out
    have HQ := Lib.hid hbz;clear hks hbz HM
    generalize World.setCells _ _ _ _ = z at HKL HQ ⊢
    refine hK.out _ _ ?_ (fun hHeld2 => ?_)
    ·exact HKS.out _ HQ.out
    clear hK K hHeld;rename _ => hHeld
    try simp only [Act.put, sa, sz, ss]
    refine wpAnyH_done (by kernel_rfl) ?_ _;clear hHeld
    go_wp2_with fail
    go_meet
    exact ⟨L, rfl, HKL, HQ, HLL⟩
   ·go_simp
    obtain ⟨L, hL⟩ : ∃ L, z.heap.size = L := ⟨_, rfl⟩
    have HLL : Hid (w1.heap.size ≤ L) := (by rw [← hL]; exact HQ.out.size : w1.heap.size ≤ L)
    have HM : Hid (Blk _ L 32 lZm) := (by rw [← hL]; exact Blk.new z _ _ : Blk (z.alloc (.cells aZm 32)) L 32 lZm)
    have hbz : Below w1.heap.size w1 (z.alloc (.cells aZm 32)) := HQ.out.alloc HQ.out.size _
    obtain ⟨z2, hz2⟩ : ∃ z2, z.alloc (.cells aZm 32) = z2 := ⟨_, rfl⟩
    rw [hz2] at HM hbz ⊢
    rw [hL];have HQ := Lib.hid hbz;clear hz2 hbz hL
    obtain ⟨z, rfl⟩ : ∃ z, z = z2 := ⟨_, rfl⟩
    refine hK.out _ _ ?_ (fun hHeld2 => ?_)
    ·exact HKS.out _ HQ.out
    clear hK K hHeld;rename _ => hHeld
    try simp only [Act.put, sa, sz, ss]
    refine rd1 11 (some 155) (fun K hK => ?_)
    go_simp
    refine (pickO_any y.ya n9 _ HY.out.a.1 HY.out.a.2 (by omega) (by omega)).mono ?_
    rintro e w9 ⟨rfl, rfl⟩;rw [HPK.out];go_simp
    refine hK.out _ _ ?_ (fun hHeld2 => ?_)
    ·exact HKS.out _ HQ.out
    clear hK K hHeld;rename _ => hHeld;refine tk 12 (some 156) ?_
    refine tkL 13 (some 157) 32 (.tmp 156) g (i * 31) (ordM id q).m.l (fun _ h => h.2.2) Tryz.underlying32 HSM.out ?_
    refine rd1 15 none (fun K hK => ?_)
    refine step_storeRow (by rfl) 32 (.tmp 10) (.tmp 157) (by rfl) L 32 _ (ordM id q).m.l.toArray (by rfl) (by rfl) HM.out (show 31 ≤ 31 by decide) HSM.out (ordM id q).m.oneC ?_
    have hks := Blk.sets (ordM id q).m.l 0 HM.out
    rw [sets_msg0] at hks;have HKL := Lib.hid hks
    have hbz := below_setCells HQ.out HQ.out.size L 0 (ordM id q).m.l HLL.out
    have HQ := Lib.hid hbz;clear hks hbz HM
    generalize World.setCells _ _ _ _ = z at HKL HQ ⊢
    refine hK.out _ _ ?_ (fun hHeld2 => ?_)
    ·exact HKS.out _ HQ.out
    clear hK K hHeld;rename _ => hHeld
    try simp only [Act.put, sa, sz, ss]
    refine wpAnyH_done (by kernel_rfl) ?_ _;clear hHeld
    go_wp2_with fail
    go_meet
    exact ⟨L, rfl, HKL, HQ, HLL⟩
  case rest =>
   obtain ⟨L, rfl, HKL, HQ, HLL⟩ := hcut
   obtain ⟨z, hzz⟩ : ∃ z, z = wc := ⟨_, rfl⟩
   subst hzz
   have HLL0 : Hid (p0.col L = 0) := HC0.out L (by have := HK.out.lt; have := HLL.out; omega)
   have HLz := Lib.hid (HL.out.below HQ.out)
   have HLQz := Lib.hid (HLQ.out.turn (Fr.under (fun _ => False) HQ.out) (fun _ e => e.elim))
   have hkn := HK.out.kept (HQ.out.block N HK.out.lt)
   have HKNz := Lib.hid hkn
   have y2 : z.cell? ⟨N, 2, none⟩ = some (.int .i64 y.yb) := hkn.cell 2
   have HXz : Hid (Nx w1 z p0.col p0.col) := Nx.below HQ.out
   clear hkn HKS HL HK HLQ
   go_wp2_with (refine wpList_load_mid rfl 32 (.tmp 10) rfl L 0 rfl (ordM id q).m.l _ HKL.out.range Tryz.underlying32 rfl HSM.out ?_)
   refine (pass_any z B id p0 HLz.out HE.out (ordM id q).m q.al HLQz.out HLQz.out.txt _ HID.out.1 HID.out.2 (by have := HOK.out.R.2.2.1; have := HNM.out; omega) (by have := HOK.out.R.1; have := HNM.out; omega) HOK.out.R.2.1).mono ?_
   rintro e v3 ⟨rfl, p5, hl5, he5, hx5, hs5, hn5⟩
   have HN5 := Lib.hid (HXz.out.trans hn5)
   have hkn := HKNz.out.kept (hn5.fr.block N HKNz.out.lt (fun e => e HNN.out))
   have y0 : v3.cell? ⟨N, 0, none⟩ = some (.int .i64 y.yc) := hkn.cell 0
   have HEND := Lib.hid (does_end (k := 2) HX0.out HS0.out HN0.out hl5 he5 hx5 HN5.out (by rw [hs5]; exact kp_pass 2 HQC.out))
   clear hl5 he5 hx5 hs5 hn5 hkn y2
   go_wp2_with fail
   refine (pickO_any y.yc 7 _ HY.out.c.1 HY.out.c.2 (by decide) (by decide)).mono ?_
   rintro e w' ⟨rfl, rfl⟩;rw [HCC.out]
   go_wp2_with fail
   go_ret;exact HEND.out
theorem does_two (W : World) (B : Nat) (id : Int) (p : LP) (h : LnM W B id p) (he : LnE p) (y : StD) (hy : StO W B y) (n m : Nat) (hok : Ok n m p.s) (hn : n < 50) (hm : m ≤ 150) (h0 : 0 ≤ id) (h1 : id < 3) (hc : pickO y.yc 7 = 3) :
  Calls Tryz.prog 15 #[.pointer (some ⟨p.x, 0, none⟩), .agg y.l.toArray, .int .i64 id] W (DoesP W B id p 3) := by
 obtain ⟨N, hN⟩ : ∃ N, W.heap.size = N := ⟨_, rfl⟩
 obtain ⟨w1, hw1⟩ : ∃ w1, W.alloc (.cells (aY y) 48) = w1 := ⟨_, rfl⟩
 have hb1 : Below W.heap.size W w1 := by rw [← hw1]; exact (Below.refl _ W).alloc (Nat.le_refl _) _
 have hk1 : Blk w1 N 48 y.l := by rw [← hw1, ← hN]; exact Blk.new W _ y.l
 obtain ⟨p0, hl0, he0, hx0, hs0, hn0, hc0⟩ := does_start h he hb1
 have hy1 := hy.kept hb1
 rw [hN] at hc0
 have hok0 : Ok n m p0.s := by rw [hs0]; exact hok
 rw [← hx0];have HE := Lib.hid he0;have HX0 := Lib.hid hx0;have HS0 := Lib.hid hs0;have HN0 := Lib.hid hn0;have HC0 := Lib.hid hc0;have HOK := Lib.hid hok0
 have HNM : Hid (n < 50 ∧ m ≤ 150) := (⟨hn, hm⟩ : n < 50 ∧ m ≤ 150)
 have HID : Hid (0 ≤ id ∧ id < 3) := (⟨h0, h1⟩ : 0 ≤ id ∧ id < 3)
 have HY := Lib.hid hy1;have HCC := Lib.hid hc
 have HSM := szM
 have HSZ := szO
 have y0 : w1.cell? ⟨N, 0, none⟩ = some (.int .i64 y.yc) := hk1.cell 0
 have y1 : w1.cell? ⟨N, 1, none⟩ = some (.int .i64 y.ya) := hk1.cell 1
 have y2 : w1.cell? ⟨N, 2, none⟩ = some (.int .i64 y.yb) := hk1.cell 2
 have HK := Lib.hid hk1
 have HNN : Hid (p0.col N = 0) := hc0 N (Nat.le_refl _)
 have HL := Lib.hid hl0;have HBN := Lib.hid hN;rw [show y.l.toArray = (aY y) from by kernel_rfl];clear h he hy hb1 hk1 hl0 he0 hx0 hs0 hn0 hc0 hy1 hok hok0 hn hm h0 h1 hc
 go_enter Tryz.func15, Tryz.ntmps15
 go_wp2_with fail
 refine (pickO_any y.yc 7 _ HY.out.c.1 HY.out.c.2 (by decide) (by decide)).mono ?_
 rintro e w' ⟨rfl, rfl⟩;rw [HCC.out];clear hN hw1;clear y0 y2
 by_cases hS : p0.S = []
 ·obtain ⟨oS, cS, hv⟩ := own_slice HL.out.os
  have c5 : w1.cell? ⟨p0.x, 5, none⟩ = some (.slice oS 0 cS) := by
   have h1 := HL.out.bx.cell 5
   have h2 : p0.vs = .slice oS 0 cS := by rw [hv, hS]; rfl
   rw [← h2];exact h1
  have HEND := Lib.hid (does_end (k := 3) HX0.out HS0.out HN0.out HL.out HE.out rfl (Nx.below (Below.refl _ _)) (kp_same 3 _))
  clear hS hv y1
  go_wp2_with fail
  go_ret;exact HEND.out
 ·obtain ⟨g, cS, hv⟩ := HL.out.sentV hS
  obtain ⟨n9, hn9⟩ : ∃ n9, p0.S.length = n9 := ⟨_, rfl⟩
  have hpos : 0 < n9 := by rw [← hn9]; exact List.length_pos_iff.2 hS
  have hn9m : n9 ≤ 10000 := by have := HOK.out.R.2.2.2.1; have := HNM.out; omega
  obtain ⟨i, hi⟩ : ∃ i : Nat, pickO y.ya n9 = (i : Int) := ⟨(pickO y.ya n9).toNat, by have := (pickO_bd y.ya n9 (by omega)).1; omega⟩
  have hin : i < n9 := by have := (pickO_bd y.ya n9 (by omega)).2; omega
  obtain ⟨q, hq⟩ : ∃ q, p0.S[i]? = some q := ⟨p0.S[i]'(by omega), List.getElem?_eq_getElem _⟩
  have hqm := List.mem_of_getElem? hq
  have HQC : Hid (q.c ∈ p0.s.S) := List.mem_map.2 ⟨q, hqm, rfl⟩
  have HLQ := Lib.hid (HL.out.aS q hqm)
  have HKS : Hid (∀ y9, Below w1.heap.size w1 y9 → y9.cell? ⟨p0.x, 5, none⟩ = some (.slice (some ⟨g, 0, none⟩) n9 cS) ∧ y9.cell? ⟨N, 1, none⟩ = some (.int .i64 y.ya) ∧ y9.rangeAt g (i * 31) (ordM id q).m.l) := fun y9 hy => by
   have h1 := HL.out.below hy
   refine ⟨?_, (HK.out.kept (hy.block N HK.out.lt)).cell 1, h1.sentAt hq hv⟩
   have h2 := h1.bx.cell 5
   rw [← hn9, ← hv];exact h2
  have HPK := Lib.hid hi
  have q1 : (0 : Int) ≤ (i : Int) := by omega
  have q2 : (i : Int) < (n9 : Int) := by omega
  have q3 : ((n9 : Int) == 0) = false := beq_eq_false_iff_ne.2 (by omega)
  have HQ : Hid (Below w1.heap.size w1 w1) := Below.refl _ _
  have c5 := (HKS.out w1 HQ.out).1
  clear hS hv hn9 hi hq hqm y1
  go_upto_region 19 with (fail)
  clear c5
  go_cut [10] from 144 to 158 (fun v wx => ∃ L : Nat, v = .pointer (some ⟨L, 0, none⟩) ∧ Hid (Blk wx L 32 (ordM id q).m.l) ∧ Hid (Below w1.heap.size w1 wx) ∧ Hid (w1.heap.size ≤ L))
  case first =>
   refine wp_region_held_drew (S := fun W => W.cell? ⟨p0.x, 5, none⟩ = some (.slice (some ⟨g, 0, none⟩) n9 cS) ∧ W.cell? ⟨N, 1, none⟩ = some (.int .i64 y.ya) ∧ W.rangeAt g (i * 31) (ordM id q).m.l) (by kernel_rfl) ?_ (fun hHeld => ?_)
   ·exact HKS.out _ HQ.out.drew
   have HQ := Lib.hid HQ.out.drew;generalize w1.drew = z at HQ hHeld ⊢;refine tk 0 (some 144) ?_;refine tk 1 (some 145) ?_;refine tk 2 (some 146) ?_;refine tk 3 (some 147) ?_;refine tk 4 (some 148) ?_;refine tk 5 (some 149) ?_;refine tk 6 (some 150) ?_;refine tk 7 (some 151) ?_
   refine tk 8 (some 152) ?_;refine tk 9 (some 153) ?_;refine tk 10 (some 154) ?_
   refine wpAnyH_ready (rs := [11, 14]) (by kernel_rfl) (by simp) (AllReadyH.cons (o := ⟨some 155, _, _, _, _, _⟩) rfl (fun K hK => ?_) (AllReadyH.cons (o := ⟨some 10, _, _, _, _, _⟩) rfl (fun K hK => ?_) AllReadyH.nil))
   ·go_simp
    refine (pickO_any y.ya n9 _ HY.out.a.1 HY.out.a.2 (by omega) (by omega)).mono ?_
    rintro e w9 ⟨rfl, rfl⟩;rw [HPK.out];go_simp
    refine hK.out _ _ ?_ (fun hHeld2 => ?_)
    ·exact HKS.out _ HQ.out
    clear hK K hHeld;rename _ => hHeld;refine tk 12 (some 156) ?_
    refine tkL 13 (some 157) 32 (.tmp 156) g (i * 31) (ordM id q).m.l (fun _ h => h.2.2) Tryz.underlying32 HSM.out ?_
    refine rd1 14 (some 10) (fun K hK => ?_)
    go_simp
    obtain ⟨L, hL⟩ : ∃ L, z.heap.size = L := ⟨_, rfl⟩
    have HLL : Hid (w1.heap.size ≤ L) := (by rw [← hL]; exact HQ.out.size : w1.heap.size ≤ L)
    have HM : Hid (Blk _ L 32 lZm) := (by rw [← hL]; exact Blk.new z _ _ : Blk (z.alloc (.cells aZm 32)) L 32 lZm)
    have hbz : Below w1.heap.size w1 (z.alloc (.cells aZm 32)) := HQ.out.alloc HQ.out.size _
    obtain ⟨z2, hz2⟩ : ∃ z2, z.alloc (.cells aZm 32) = z2 := ⟨_, rfl⟩
    rw [hz2] at HM hbz ⊢
    rw [hL];have HQ := Lib.hid hbz;clear hz2 hbz hL
    obtain ⟨z, rfl⟩ : ∃ z, z = z2 := ⟨_, rfl⟩
    refine hK.out _ _ ?_ (fun hHeld2 => ?_)
    ·exact HKS.out _ HQ.out
    clear hK K hHeld;rename _ => hHeld
    try simp only [Act.put, sa, sz, ss]
    refine rd1 15 none (fun K hK => ?_)
    refine step_storeRow (by rfl) 32 (.tmp 10) (.tmp 157) (by rfl) L 32 _ (ordM id q).m.l.toArray (by rfl) (by rfl) HM.out (show 31 ≤ 31 by decide) HSM.out (ordM id q).m.oneC ?_
    have hks := Blk.sets (ordM id q).m.l 0 HM.out
    rw [sets_msg0] at hks;have HKL := Lib.hid hks
    have hbz := below_setCells HQ.out HQ.out.size L 0 (ordM id q).m.l HLL.out
    have HQ := Lib.hid hbz;clear hks hbz HM
    generalize World.setCells _ _ _ _ = z at HKL HQ ⊢
    refine hK.out _ _ ?_ (fun hHeld2 => ?_)
    ·exact HKS.out _ HQ.out
    clear hK K hHeld;rename _ => hHeld
    try simp only [Act.put, sa, sz, ss]
    refine wpAnyH_done (by kernel_rfl) ?_ _;clear hHeld
    go_wp2_with fail
    go_meet
    exact ⟨L, rfl, HKL, HQ, HLL⟩
   ·go_simp
    obtain ⟨L, hL⟩ : ∃ L, z.heap.size = L := ⟨_, rfl⟩
    have HLL : Hid (w1.heap.size ≤ L) := (by rw [← hL]; exact HQ.out.size : w1.heap.size ≤ L)
    have HM : Hid (Blk _ L 32 lZm) := (by rw [← hL]; exact Blk.new z _ _ : Blk (z.alloc (.cells aZm 32)) L 32 lZm)
    have hbz : Below w1.heap.size w1 (z.alloc (.cells aZm 32)) := HQ.out.alloc HQ.out.size _
    obtain ⟨z2, hz2⟩ : ∃ z2, z.alloc (.cells aZm 32) = z2 := ⟨_, rfl⟩
    rw [hz2] at HM hbz ⊢
    rw [hL];have HQ := Lib.hid hbz;clear hz2 hbz hL
    obtain ⟨z, rfl⟩ : ∃ z, z = z2 := ⟨_, rfl⟩
    refine hK.out _ _ ?_ (fun hHeld2 => ?_)
    ·exact HKS.out _ HQ.out
    clear hK K hHeld;rename _ => hHeld
    try simp only [Act.put, sa, sz, ss]
    refine rd1 11 (some 155) (fun K hK => ?_)
    go_simp
    refine (pickO_any y.ya n9 _ HY.out.a.1 HY.out.a.2 (by omega) (by omega)).mono ?_
    rintro e w9 ⟨rfl, rfl⟩;rw [HPK.out];go_simp
    refine hK.out _ _ ?_ (fun hHeld2 => ?_)
    ·exact HKS.out _ HQ.out
    clear hK K hHeld;rename _ => hHeld;refine tk 12 (some 156) ?_
    refine tkL 13 (some 157) 32 (.tmp 156) g (i * 31) (ordM id q).m.l (fun _ h => h.2.2) Tryz.underlying32 HSM.out ?_
    refine rd1 15 none (fun K hK => ?_)
    refine step_storeRow (by rfl) 32 (.tmp 10) (.tmp 157) (by rfl) L 32 _ (ordM id q).m.l.toArray (by rfl) (by rfl) HM.out (show 31 ≤ 31 by decide) HSM.out (ordM id q).m.oneC ?_
    have hks := Blk.sets (ordM id q).m.l 0 HM.out
    rw [sets_msg0] at hks;have HKL := Lib.hid hks
    have hbz := below_setCells HQ.out HQ.out.size L 0 (ordM id q).m.l HLL.out
    have HQ := Lib.hid hbz;clear hks hbz HM
    generalize World.setCells _ _ _ _ = z at HKL HQ ⊢
    refine hK.out _ _ ?_ (fun hHeld2 => ?_)
    ·exact HKS.out _ HQ.out
    clear hK K hHeld;rename _ => hHeld
    try simp only [Act.put, sa, sz, ss]
    refine wpAnyH_done (by kernel_rfl) ?_ _;clear hHeld
    go_wp2_with fail
    go_meet
    exact ⟨L, rfl, HKL, HQ, HLL⟩
  case rest =>
   obtain ⟨L, rfl, HKL, HQ, HLL⟩ := hcut
   obtain ⟨z, hzz⟩ : ∃ z, z = wc := ⟨_, rfl⟩
   subst hzz
   have HLL0 : Hid (p0.col L = 0) := HC0.out L (by have := HK.out.lt; have := HLL.out; omega)
   have HLz := Lib.hid (HL.out.below HQ.out)
   have HLQz := Lib.hid (HLQ.out.turn (Fr.under (fun _ => False) HQ.out) (fun _ e => e.elim))
   have hkn := HK.out.kept (HQ.out.block N HK.out.lt)
   have HKNz := Lib.hid hkn
   have y2 : z.cell? ⟨N, 2, none⟩ = some (.int .i64 y.yb) := hkn.cell 2
   have HXz : Hid (Nx w1 z p0.col p0.col) := Nx.below HQ.out
   clear hkn HKS HL HK HLQ
   go_wp2_with (refine wpList_load_mid rfl 32 (.tmp 10) rfl L 0 rfl (ordM id q).m.l _ HKL.out.range Tryz.underlying32 rfl HSM.out ?_)
   refine (pass_any z B id p0 HLz.out HE.out (ordM id q).m q.al HLQz.out HLQz.out.txt _ HID.out.1 HID.out.2 (by have := HOK.out.R.2.2.1; have := HNM.out; omega) (by have := HOK.out.R.1; have := HNM.out; omega) HOK.out.R.2.1).mono ?_
   rintro e v3 ⟨rfl, p5, hl5, he5, hx5, hs5, hn5⟩
   have HN5 := Lib.hid (HXz.out.trans hn5)
   have hkn := HKNz.out.kept (hn5.fr.block N HKNz.out.lt (fun e => e HNN.out))
   have y0 : v3.cell? ⟨N, 0, none⟩ = some (.int .i64 y.yc) := hkn.cell 0
   have y2 : v3.cell? ⟨N, 2, none⟩ = some (.int .i64 y.yb) := hkn.cell 2
   have hkl := HKL.out.kept (hn5.fr.block L HKL.out.lt (fun e => e HLL0.out))
   have HKL5 := Lib.hid hkl
   have hok5 : Ok n (m + 1) p5.s := by rw [hs5]; exact passS_ok HOK.out
   have hlq5 : LowA v3 B ⟨(ordM id q).m.o, q.al⟩ := HLQz.out.turn hn5.fr (fun c e => Nat.le_of_not_lt (fun hc => e (HLz.out.lo c hc)))
   clear hkl hkn
   have HP := Lib.hid (fun a9 => pass_any v3 B id p5 hl5 he5 (ordM id q).m q.al hlq5 hlq5.txt a9 HID.out.1 HID.out.2 (by have := hok5.R.2.2.1; have := HNM.out; omega) (by have := hok5.R.1; have := HNM.out; omega) hok5.R.2.1)
   rw [hx5] at HP;have HS5 := Lib.hid hs5;have HX5 := Lib.hid hx5;clear hl5 he5 hx5 hs5 hn5 hok5 hlq5
   go_wp2_with fail
   refine (pickO_any y.yc 7 _ HY.out.c.1 HY.out.c.2 (by decide) (by decide)).mono ?_
   rintro e w' ⟨rfl, rfl⟩;rw [HCC.out]
   go_wp2_with (refine wpList_load_midG rfl 32 (.tmp 10) rfl L 0 rfl (ordM id q).m.l _ HKL5.out.range Tryz.underlying32 rfl HSM.out ?_)
   refine (HP.out _).mono ?_
   rintro e v4 ⟨rfl, p6, hl6, he6, hx6, hs6, hn6⟩
   have HEND := Lib.hid (does_end (k := 3) HX0.out HS0.out HN0.out hl6 he6 hx6 (HN5.out.trans hn6) (by rw [hs6, HS5.out]; exact kp_pass2 3 HQC.out))
   clear hl6 he6 hx6 hs6 hn6
   go_wp2_with fail
   go_ret;exact HEND.out
end Go.Proofs.YtjkiidhnmljmbaaGreatDoor
