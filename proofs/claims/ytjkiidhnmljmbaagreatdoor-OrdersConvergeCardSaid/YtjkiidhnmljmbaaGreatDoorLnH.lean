/- Orders: does: an order is added. -/
import Derived.Deep.CutBlock
import Derived.Test.YtjkiidhnmljmbaaGreatDoorLnE
set_option linter.unusedVariables false
set_option linter.unusedSimpArgs false
namespace Go.Proofs.YtjkiidhnmljmbaaGreatDoor
open Go.RowKit
theorem geH {α : Type} (a : α) : ∃ x, a = x := ⟨a, rfl⟩
attribute [local go_sem] Oper.semAt_some
theorem sets_ord1 (o q : GOd) : setsL o.l 0 q.l = q.l := by kernel_rfl
theorem drG_set (s f g : Int) : (drG s f).l.set 2 (.int .i64 g) = (drG s g).l := rfl
theorem blk_drG {z : World} {L : Nat} {s f : Int} (h : Blk z L 30 (drG s f).l) (g : Int) : Blk (z.setCell ⟨L, 2, none⟩ (.int .i64 g)) L 30 (drG s g).l := by
 rw [← drG_set s f g];exact h.set 2 _
set_option maxHeartbeats 8000000 in
set_option maxRecDepth 100000 in
theorem does_add (W : World) (B : Nat) (id : Int) (p : LP) (h : LnM W B id p) (he : LnE p) (y : StD) (hy : StO W B y) (n m : Nat) (hok : Ok n m p.s) (hn : n < 50) (hm : m ≤ 150) (h0 : 0 ≤ id) (h1 : id < 3) (hc : pickO y.yc 7 = 0) :
  Calls Tryz.prog 15 #[.pointer (some ⟨p.x, 0, none⟩), .agg y.l.toArray, .int .i64 id] W (DoesP W B id p 0) := by
 obtain ⟨N, hN⟩ := geH W.heap.size
 obtain ⟨w1, hw1⟩ := geH (W.alloc (.cells (aY y) 48))
 have hb1 : Below W.heap.size W w1 := by rw [← hw1]; exact (Below.refl _ W).alloc (Nat.le_refl _) _
 have hk1 : Blk w1 N 48 y.l := by rw [← hw1, ← hN]; exact Blk.new W _ y.l
 obtain ⟨p0, hl0, he0, hx0, hs0, hn0, hc0⟩ := does_start h he hb1
 have hy1 := hy.kept hb1
 rw [hN] at hc0
 have hok0 : Ok n m p0.s := by rw [hs0]; exact hok
 rw [← hx0];have HE := Lib.hid he0;have HX0 := Lib.hid hx0;have HS0 := Lib.hid hs0;have HN0 := Lib.hid hn0;have HC0 := Lib.hid hc0;have HOK := Lib.hid hok0
 have HNM : Hid (n < 50 ∧ m ≤ 150) := (⟨hn, hm⟩ : n < 50 ∧ m ≤ 150)
 have HID : Hid (0 ≤ id ∧ id < 3) := (⟨h0, h1⟩ : 0 ≤ id ∧ id < 3)
 have HY := Lib.hid hy1;have HCC := Lib.hid hc
 have HSM := szM
 have HSZ := szO
 have y0 : w1.cell? ⟨N, 0, none⟩ = some (.int .i64 y.yc) := hk1.cell 0
 have y1 : w1.cell? ⟨N, 1, none⟩ = some (.int .i64 y.ya) := hk1.cell 1
 have y2 : w1.cell? ⟨N, 2, none⟩ = some (.int .i64 y.yb) := hk1.cell 2
 have HK := Lib.hid hk1
 have HNN : Hid (p0.col N = 0) := hc0 N (Nat.le_refl _)
 have HL := Lib.hid hl0;have HBN := Lib.hid hN;rw [show y.l.toArray = (aY y) from by kernel_rfl];clear h he hy hb1 hk1 hl0 he0 hx0 hs0 hn0 hc0 hy1 hok hok0 hn hm h0 h1 hc
 go_enter Tryz.func15, Tryz.ntmps15
 go_wp2_with fail
 refine (pickO_any y.yc 7 _ HY.out.c.1 HY.out.c.2 (by decide) (by decide)).mono ?_
 rintro e w' ⟨rfl, rfl⟩;rw [HCC.out];clear hN hw1
 have HPL : Hid (p0.P.length ≤ 190 ∧ p0.kp ≤ p0.P.length) := (⟨by rw [HE.out.lenP]; have := HOK.out.R.1; have := HNM.out; omega, by rw [HE.out.lenP, HE.out.ek]; exact HOK.out.R.2.1⟩ : p0.P.length ≤ 190 ∧ p0.kp ≤ p0.P.length)
 have HRL : Hid (p0.R.length ≤ 190 ∧ p0.k ≤ p0.R.length) := (⟨by have := HOK.out.R.1; have := HNM.out; omega, HOK.out.R.2.1⟩ : p0.R.length ≤ 190 ∧ p0.k ≤ p0.R.length)
 obtain ⟨q0, hq0⟩ := geH y.o.cutO
 have hlow : LowA w1 B ⟨q0, y.al.take 9⟩ := by rw [← hq0]; exact cut_low HY.out.ol HY.out.or HY.out.ot HY.out.ow
 have HCM : Hid (∀ W', Calls Tryz.prog 7 #[.agg y.o.l.toArray] W' fun en w' => en = .returned (.agg q0.l.toArray) ∧ Below W'.heap.size W' w') := (by rw [← hq0]; exact fun W' => gCut y.o W' HY.out.oc HY.out.om HY.out.ot : ∀ W', _)
 have HLW := Lib.hid hlow
 have HR3 : Hid (w1.rangeAt N 3 y.o.l) := HK.out.part3
 have HO1 : Hid (q0.l.toArray.all (·.oneCell') = true) := q0.oneC
 have HO2 : Hid (aZo.size = q0.l.toArray.size) := rfl
 clear hq0 hlow y0 y2
 go_wp2_with (refine wpList_load_mid rfl 30 (.tmp 20) rfl N 3 rfl y.o.l _ HR3.out Tryz.underlying30 rfl HSZ.out ?_)
 refine (HCM.out _).mono ?_
 rintro e w2 ⟨rfl, hb2⟩
 obtain ⟨L, hL⟩ := geH w2.heap.size
 obtain ⟨w3, hw3⟩ := geH (w2.alloc (.cells aZo 30))
 have hk3 : Blk w3 L 30 lZo := by rw [← hw3, ← hL]; exact Blk.new w2 _ _
 obtain ⟨z, hz⟩ := geH (w3.setRow L q0.l.toArray)
 have hkz : Blk z L 30 q0.l := by rw [← hz]; exact hk3.setRow q0.l
 have hbz : Below w1.heap.size w1 z := by
  rw [← hz, ← hw3]
  exact below_setRow (hb2.alloc hb2.size _) (by have := hb2.size; omega) _
 have HLL : Hid (w1.heap.size ≤ L) := (by have := hb2.size; omega : w1.heap.size ≤ L)
 have HK3 := Lib.hid hk3;have HZ := Lib.hid hz;have HKz := Lib.hid hkz;have HBZ := Lib.hid hbz
 have y1z : z.cell? ⟨N, 1, none⟩ = some (.int .i64 y.ya) := (HK.out.kept (hbz.block N HK.out.lt)).cell 1
 clear hb2 hk3 hz hkz hbz HCM y1
 go_upto_region 4 with (refine wpList_store_row rfl 30 (.tmp 7) (.tmp 22) rfl L q0.l.toArray rfl rfl 30 _ HK3.out HSZ.out HO2.out HO1.out ?_; rw [HZ.out])
 clear hL hw3 HK3 HZ HO1 HO2 HR3
 have HLL0 : Hid (p0.col L = 0) := HC0.out L (by have := HK.out.lt; have := HLL.out; omega)
 have HLW2 := Lib.hid (HLW.out.turn (Fr.under (fun _ => False) HBZ.out) (fun _ e => e.elim))
 have HKN := Lib.hid (HK.out.kept (HBZ.out.block N HK.out.lt))
 have HNL : Hid (N ≠ L) := (by have := HK.out.lt; have := HLL.out; omega : N ≠ L)
 have HXL : Hid (p0.x ≠ L) := (fun e => by have h1 := (HL.out.cX _ (.inl rfl)).2.2; rw [e, HLL0.out] at h1; exact absurd h1 (by decide) : p0.x ≠ L)
 obtain ⟨b7, hb7⟩ := geH ((y.ya != 7))
 go_upto_if 25 with (fail)
 clear hb7
 go_cut [] from 26 to 75 (fun wx => ∃ (q : GOd) (al : List (Int × Int)), Hid (Blk wx L 30 q.l) ∧ Hid (LowA wx B ⟨q, al⟩) ∧ Hid (Below w1.heap.size w1 wx))
 case first =>
  cases b7 with
  | false =>
   go_wp2_with fail
   go_meet
   exact ⟨q0, y.al.take 9, HKz, HLW2, HBZ⟩
  | true =>
   go_upto_region 5 with (fail)
   have hLz := HL.out.below HBZ.out
   obtain ⟨oL, cL, hvL⟩ := own_slice hLz.sa.ownL
   rw [List.length_map] at hvL
   obtain ⟨nR, hnR⟩ := geH p0.R.length
   rw [hnR] at hvL
   have hnR9 : nR ≤ 190 := by rw [← hnR]; exact HRL.out.1
   have HKS : Hid (∀ y9, Below w1.heap.size w1 y9 → y9.cell? ⟨p0.x, 2, none⟩ = some (.pointer (some ⟨p0.ba, 0, none⟩)) ∧ y9.cell? ⟨p0.ba, 1, none⟩ = some (.slice oL nR cL)) := fun y9 hy => by
    have h1 := HL.out.below hy
    refine ⟨h1.bx.cell 2, ?_⟩
    have h2 := h1.sa.blk.cell 1
    rw [← hvL];exact h2
   have HVL := Lib.hid hvL;have HNR := Lib.hid hnR
   have hw1 : IntKind.i64.wrap ((nR : Int) + 1) = (nR : Int) + 1 := IntWalk.i64_in _ (by omega)
   obtain ⟨of, hof⟩ := geH q0.f
   have hc2 : z.cell? ⟨L, 2, none⟩ = some (.int .i64 of) := by rw [← hof]; exact HKz.out.cell 2
   have HC2 : Hid (∀ y9, Blk y9 L 30 q0.l → y9.cell? ⟨L, 2, none⟩ = some (.int .i64 of)) := fun y9 hy => by rw [← hof]; exact hy.cell 2
   clear hLz hvL hnR hof hc2
   go_cut [] from 26 to 38 (fun wx => Hid (Blk wx L 30 (drG ((nR : Int) + 1) of).l) ∧ Hid (Below w1.heap.size w1 wx))
   case first =>
    refine wp_region_held_drew (S := fun W => W.cell? ⟨p0.x, 2, none⟩ = some (.pointer (some ⟨p0.ba, 0, none⟩)) ∧ W.cell? ⟨p0.ba, 1, none⟩ = some (.slice oL nR cL)) (by kernel_rfl) ?_ (fun hHeld => ?_)
    ·exact HKS.out _ HBZ.out.drew
    have HQ := Lib.hid HBZ.out.drew;have HKq := Lib.hid HKz.out.drew;generalize z.drew = z at HQ HKq hHeld ⊢;refine tk 0 (some 26) ?_;refine tk 1 (some 27) ?_;refine tk 2 (some 28) ?_;refine tk 3 (some 29) ?_;refine tk 4 (some 30) ?_;refine tk 5 (some 31) ?_;refine tk 6 (some 32) ?_
    refine tk 7 (some 33) ?_;refine tk 8 (some 34) ?_;refine tk 9 (some 35) ?_
    refine rd1 10 (some 36) (fun K hK => ?_)
    have c2f := HC2.out _ HKq.out
    go_simp;clear c2f
    refine hK.out _ _ ?_ (fun hHeld2 => ?_)
    ·exact HKS.out _ HQ.out
    clear hK K hHeld;rename _ => hHeld
    try simp only [Act.put, sa, sz, ss]
    refine rd1 11 (some 37) (fun K hK => ?_)
    go_simp
    refine (drop_any ((nR : Int) + 1) of _).mono ?_
    rintro e z1 ⟨rfl, hb1⟩
    have HQ := Lib.hid (HQ.out.trans (hb1.mono HQ.out.size))
    have HKq := Lib.hid (HKq.out.kept (hb1.block L HKq.out.lt))
    clear hb1;go_simp
    refine hK.out _ _ ?_ (fun hHeld2 => ?_)
    ·exact HKS.out _ HQ.out
    clear hK K hHeld;rename _ => hHeld
    try simp only [Act.put, sa, sz, ss]
    refine rd1 12 none (fun K hK => ?_)
    try rw [drG_l]
    refine step_storeRow (by rfl) 30 (.tmp 7) (.tmp 37) (by rfl) L 30 _ (drG ((nR : Int) + 1) of).l.toArray (by rfl) (by rfl) HKq.out (show 26 ≤ 26 by decide) HSZ.out (drG ((nR : Int) + 1) of).oneC ?_
    have hks := Blk.sets (drG ((nR : Int) + 1) of).l 0 HKq.out
    rw [sets_ord1] at hks
    have hbz := below_setCells HQ.out HQ.out.size L 0 (drG ((nR : Int) + 1) of).l HLL.out
    have HKd := Lib.hid hks;have HQ := Lib.hid hbz;clear hks hbz HKq
    generalize World.setCells _ _ _ _ = z at HKd HQ ⊢
    refine hK.out _ _ ?_ (fun hHeld2 => ?_)
    ·exact HKS.out _ HQ.out
    clear hK K hHeld;rename _ => hHeld
    try simp only [Act.put, sa, sz, ss]
    refine wpAnyH_done (by kernel_rfl) ?_ _;clear hHeld
    go_wp2_with fail
    go_meet
    exact ⟨HKd, HQ⟩
   case rest =>
    obtain ⟨HKd, HQ⟩ := hcut
    have HKNc := Lib.hid (HK.out.kept (HQ.out.block N HK.out.lt))
    have y1c : wc.cell? ⟨N, 1, none⟩ = some (.int .i64 y.ya) := HKNc.out.cell 1
    obtain ⟨c2, c3⟩ := HKS.out _ HQ.out
    clear y1z
    by_cases hb : 0 < nR ∧ y.ya ≠ 6
    ·have q1 : (nR : Int) > 0 := by omega
     have q2 : (y.ya != 6) = true := by simpa using hb.2
     have h0 : 0 < nR := hb.1
     clear hb
     go_upto_region 7 with (fail)
     obtain ⟨j, hj⟩ : ∃ j, nR = j + 1 := ⟨nR - 1, by omega⟩
     obtain ⟨r, hr⟩ : ∃ r, p0.R[j]? = some r := ⟨p0.R[j]'(by have := HNR.out; omega), List.getElem?_eq_getElem _⟩
     obtain ⟨lf, hlf⟩ := geH r.p.o.f
     have hgo : ∃ g o, oL = some ⟨g, o, none⟩ ∧ ∀ y9, Below w1.heap.size w1 y9 → y9.cell? ⟨g, o + j * 26 + 2, none⟩ = some (.int .i64 lf) := by
      have h1 := (HL.out).sa
      rw [HVL.out] at h1
      obtain ⟨g, o, e, hlt, hrg⟩ := h1.rd.at j (pOf r) (by rw [List.getElem?_map, hr]; rfl)
      refine ⟨g, o, e, fun y9 hy => ?_⟩
      have h2 : w1.cell? ⟨g, o + j * 26 + 2, none⟩ = some (.int .i64 r.p.o.f) := hrg 2 _ rfl
      rw [← hlf]
      exact (hy.cell (p := ⟨g, o + j * 26 + 2, none⟩) hlt).trans h2
     obtain ⟨g, o, hoL, hcl⟩ := hgo
     subst hoL;have HCL := Lib.hid hcl
     have hwr : IntKind.i64.wrap ((nR : Int) - 1) = (j : Int) := by rw [IntWalk.i64_in _ (by omega)]; omega
     have q3 : (0 : Int) ≤ (j : Int) := by omega
     have q4 : (j : Int) < (nR : Int) := by omega
     have HKS7 : Hid (∀ y9, Below w1.heap.size w1 y9 → y9.cell? ⟨p0.x, 2, none⟩ = some (.pointer (some ⟨p0.ba, 0, none⟩)) ∧ y9.cell? ⟨p0.ba, 1, none⟩ = some (.slice (some ⟨g, o, none⟩) nR cL) ∧ y9.cell? ⟨g, o + j * 26 + 2, none⟩ = some (.int .i64 lf)) := fun y9 hy => ⟨(HKS.out y9 hy).1, (HKS.out y9 hy).2, HCL.out y9 hy⟩
     clear hcl hj hr hlf c2 c3 y1c
     go_cut [] from 52 to 75 (fun wx => ∃ f9 : Int, Hid (Blk wx L 30 (drG ((nR : Int) + 1) f9).l) ∧ Hid (Below w1.heap.size w1 wx))
     case first =>
      refine wp_region_held_drew (S := fun W => W.cell? ⟨p0.x, 2, none⟩ = some (.pointer (some ⟨p0.ba, 0, none⟩)) ∧ W.cell? ⟨p0.ba, 1, none⟩ = some (.slice (some ⟨g, o, none⟩) nR cL) ∧ W.cell? ⟨g, o + j * 26 + 2, none⟩ = some (.int .i64 lf)) (by kernel_rfl) ?_ (fun hHeld => ?_)
      ·exact HKS7.out _ HQ.out.drew
      have HQ7 := Lib.hid HQ.out.drew;have HK7 := Lib.hid HKd.out.drew;generalize wc.drew = z at HQ7 HK7 hHeld ⊢;refine tk 0 (some 52) ?_;refine tk 2 (some 54) ?_;refine tk 3 (some 55) ?_;refine tk 4 (some 56) ?_;refine tk 5 (some 57) ?_;refine tk 6 (some 58) ?_;refine tk 7 (some 59) ?_
      refine tk 8 (some 60) ?_;refine tk 9 (some 61) ?_;refine tk 10 (some 62) ?_;refine tk 11 (some 63) ?_;refine tk 12 (some 64) ?_;refine tk 13 (some 65) ?_;refine tk 14 (some 66) ?_;refine tk 15 (some 67) ?_;refine tk 16 (some 68) ?_;refine tk 17 (some 69) ?_;refine tk 18 (some 70) ?_
      refine tk 19 (some 71) ?_;refine tk 20 (some 72) ?_
      refine rd1 1 (some 53) (fun K hK => ?_)
      have c2f : z.cell? ⟨L, 2, none⟩ = some (.int .i64 of) := HK7.out.cell 2
      go_simp;clear c2f
      refine hK.out _ _ ?_ (fun hHeld2 => ?_)
      ·exact HKS7.out _ HQ7.out
      clear hK K hHeld;rename _ => hHeld;refine tk 21 (some 73) ?_;refine tk 22 (some 74) ?_
      refine rd1 23 none (fun K hK => ?_)
      have c2f : z.cell? ⟨L, 2, none⟩ = some (.int .i64 of) := HK7.out.cell 2
      have z2f := HK7.out.frozen 2
      go_simp;clear c2f z2f
      refine hK.out _ _ ?_ (fun hHeld2 => ?_)
      ·exact HKS7.out _ (HQ7.out.setCell (p := ⟨L, 2, none⟩) HLL.out _)
      clear hK K hHeld;rename _ => hHeld
      try simp only [Act.put, sa, sz, ss]
      refine wpAnyH_done (by kernel_rfl) ?_ _;clear hHeld
      go_wp2_with fail
      go_meet
      exact ⟨_, blk_drG HK7.out _, HQ7.out.setCell (p := ⟨L, 2, none⟩) HLL.out _⟩
     case rest =>
      obtain ⟨f9, HK9, HQ9⟩ := hcut
      go_wp2_with fail
      go_meet
      exact ⟨drG ((nR : Int) + 1) f9, [], HK9, drG_low _ _ _ _, HQ9⟩
    ·rcases Nat.eq_zero_or_pos nR with h0 | h0
     ·subst h0
      clear hb
      go_wp2_with fail
      go_meet
      exact ⟨drG (((0 : Nat) : Int) + 1) of, [], HKd, drG_low _ _ _ _, HQ⟩
     ·have h6 : y.ya = 6 := by
       by_cases h6 : y.ya = 6
       ·exact h6
       ·exact absurd ⟨h0, h6⟩ hb
      have q1 : (nR : Int) > 0 := by omega
      have q2 : (y.ya != 6) = false := by rw [h6]; rfl
      clear hb h6
      go_wp2_with fail
      go_meet
      exact ⟨drG ((nR : Int) + 1) of, [], HKd, drG_low _ _ _ _, HQ⟩
 case rest =>
  obtain ⟨q, al, HKq, HLq, HQ⟩ := hcut
  clear HKz HLW2 HKN HBZ y1z
  have hla := HL.out.below HQ.out.drew
  have hka := HKq.out.drew
  have hqa : LowA wc.drew B ⟨q, al⟩ := HLq.out.turn ((Fr.refl (fun _ => False) wc).drew) (fun _ e => e.elim)
  have HXa : Hid (Nx w1 wc.drew p0.col p0.col) := Nx.below HQ.out.drew
  go_upto_region 8 with (fail)
  refine wp_region_held_drew (S := fun W => W.cell? ⟨p0.x, 0, none⟩ = some (.pointer (some ⟨p0.bs, 0, none⟩)) ∧ W.cell? ⟨p0.x, 2, none⟩ = some (.pointer (some ⟨p0.ba, 0, none⟩)) ∧ W.rangeAt L 0 q.l) (by kernel_rfl) ?_ (fun hHeld => ?_)
  ·exact ⟨hla.bx.cell 0, hla.bx.cell 2, hka.range⟩
  have HLa := Lib.hid hla;have HKa := Lib.hid hka;have HQa := Lib.hid hqa
  skip
  clear hla hka hqa HL HLq HKq;generalize wc.drew = z at HLa HKa HQa HXa hHeld ⊢;refine tk 0 (some 75) ?_;refine tk 1 (some 76) ?_;refine tk 2 (some 77) ?_;refine tk 3 (some 78) ?_
  refine tkL 4 (some 79) 30 (.tmp 7) L 0 q.l (fun _ h => h.2.2) Tryz.underlying30 HSZ.out ?_
  refine tk 6 (some 81) ?_;refine tk 7 (some 82) ?_;refine tk 8 (some 83) ?_;refine tk 9 (some 84) ?_
  refine tkL 10 (some 85) 30 (.tmp 7) L 0 q.l (fun _ h => h.2.2) Tryz.underlying30 HSZ.out ?_
  refine rd1 5 (some 80) (fun K hK => ?_)
  go_simp
  refine (LnM.addP HLa.out HQa.out HQa.out.txt (by have := HPL.out.1; show p0.P.length ≤ 199; omega)).mono ?_
  rintro e v1 ⟨rfl, vp1, col1, oa1, ac1, hnx, hl1⟩;have HL1 := Lib.hid hl1
  have HX1 := Lib.hid (HXa.out.trans hnx)
  have HK1 := Lib.hid (HKa.out.kept (hnx.fr.block L HKa.out.lt (fun e => e HLL0.out)))
  have HCL1 : Hid (col1 L = 0) := (hnx.co L HKa.out.lt).trans HLL0.out
  have HQ1 := Lib.hid (HQa.out.turn hnx.fr (fun c e => Nat.le_of_not_lt (fun hc => e (HLa.out.lo c hc))))
  clear hl1 hnx
  obtain ⟨ce, hce⟩ : ∃ ce : Int, (if accB p0.P q al = true then 0 else 200) = ce := ⟨_, rfl⟩
  rw [hce];have HCE := Lib.hid hce;clear hce;go_simp
  refine hK.out _ _ ?_ (fun hHeld2 => ?_)
  ·exact ⟨HL1.out.bx.cell 0, HL1.out.bx.cell 2, HK1.out.range⟩
  clear hK K hHeld;rename _ => hHeld
  try simp only [Act.put, sa, sz, ss]
  refine rd1 11 (some 86) (fun K hK => ?_)
  go_simp
  refine (LnM.addA HL1.out HQ1.out HQ1.out.txt (by have := HRL.out.1; show p0.R.length ≤ 199; omega)).mono ?_
  rintro e v2 ⟨rfl, vL2, vS2, col2, hnx, hl2⟩;have HL2 := Lib.hid hl2
  have HX2 := Lib.hid (HX1.out.trans hnx)
  have HK2 := Lib.hid (HK1.out.kept (hnx.fr.block L HK1.out.lt (fun e => e HCL1.out)))
  clear hl2 hnx
  have hb9 := add_both (o := q) (al := al) (vp := vp1) (vL := vL2) (vS := vS2) (oa := oa1) (ac := ac1) (c1 := col2) HE.out
  rw [show (if accB ({ p0 with vp := vp1, P := addIf (accB p0.P q al) p0.P ⟨⟨q.withA oa1 ac1, al⟩, false, 0⟩, col := col1 } : LP).R q al = true then (0 : Int) else 200) = ce from by rw [← HCE.out, hb9.1]]
  have HB9 := Lib.hid hb9;clear hb9;go_simp
  refine hK.out _ _ ?_ (fun hHeld2 => ?_)
  ·exact ⟨HL2.out.bx.cell 0, HL2.out.bx.cell 2, HK2.out.range⟩
  clear hK K hHeld;rename _ => hHeld;refine tk 12 (some 87) ?_;refine tk 13 (some 6) ?_;refine wpAnyH_done (by kernel_rfl) ?_ _;clear hHeld
  have HEND := Lib.hid (does_end (k := 0) HX0.out HS0.out HN0.out HL2.out HB9.out.2.1 rfl HX2.out HB9.out.2.2)
  go_wp2_with fail
  go_ret;exact HEND.out
end Go.Proofs.YtjkiidhnmljmbaaGreatDoor
