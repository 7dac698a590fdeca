/-
  The walk of the law AsrunMatchesReference.
-/
import Derived.Deep.CutBlock
import Derived.Test.YtfpcdlpfmlaakaaGreatDoorTk
import Derived.Test.YtfpcdlpfmlaakaaGreatDoorUEF
set_option linter.unusedVariables false
set_option linter.unusedSimpArgs false
namespace Go.Proofs.YtfpcdlpfmlaakaaGreatDoor
open Go.RowKit Onair
attribute [local go_sem ↓] Go.wp_at_zero Go.wp_at_succ
attribute [local go_sem] Oper.semAt_some
set_option maxHeartbeats 16000000 in
set_option maxRecDepth 100000 in
theorem walkMatches (w : World) (m : Int) (oa : Option Addr) (c : Nat) (l : List Opr) (m0 : -9223372036854775808 ≤ m) (m1 : m ≤ 9223372036854775807) (hlc : l.length ≤ c) (hcm : c ≤ maxLen) (hI : ∀ p ∈ l, OprI p) (hr : RdOps w w.heap.size oa l) (ht : TabAt w) :
    Calls Tryz.prog 4 #[.int .i64 m, .slice oa l.length c] w fun e w' => e = .returned (.bool true) ∧ Below w.heap.size w w' := by
  unfold maxLen at hcm
  obtain ⟨N, hN⟩ : ∃ N, w.heap.size = N := ⟨_, rfl⟩
  have hg := ht.lt
  rw [hN] at hg hr
  have HTB : Hid (∀ W, Below N w W → TabAt W) := fun W hW => ht.below (by rw [hN]; exact hW)
  have HG := Lib.hid hg
  have HSN := Lib.hid (sane_any w ht ht.lt)
  have HNN := Lib.hid hN
  have HR := Lib.hid hr
  have HI := Lib.hid hI
  obtain ⟨n, hn⟩ : ∃ n, l.length = n := ⟨_, rfl⟩
  have HLN := Lib.hid hn
  have HSZ := Lib.hid (fun W => lawSize_any m W m0 m1)
  have hsz := sizeN_eq m
  obtain ⟨z, hz⟩ : ∃ z, sizeN m = z := ⟨_, rfl⟩
  rw [hz] at HSZ hsz
  obtain ⟨hz0, hz1, hz2⟩ := hsz
  have hpk := pickI_bd m 8 (by decide)
  obtain ⟨pk, hp⟩ : ∃ pk : Nat, pickI m 8 = (pk : Int) := ⟨(pickI m 8).toNat, by omega⟩
  have HPK := Lib.hid (fun W => pick_any m 8 W m0 m1 (by decide) (by decide))
  rw [hp] at HPK hpk
  have hp8 : pk ≤ 7 := by omega
  rw [hn] at hlc ⊢
  clear hr hI hn ht hg hN hz hz0 hp hpk m0 m1
  go_enter Tryz.func4, Tryz.ntmps4
  go_wp2_with fail
  refine HSN.out.mono ?_
  rintro e w1 ⟨rfl, hb1⟩
  have HB1 : Hid (Below N w w1) := by rw [← HNN.out]; exact hb1
  clear hb1 HSN
  go_wp2_with fail
  refine (HSZ.out _).mono ?_
  rintro e w' ⟨rfl, rfl⟩
  go_wp2_with fail
  refine (new_x z w1 N (bnl HNN.out HB1.out) hz1 (by omega)).mono ?_
  rintro e w2 ⟨b, F, rfl, hd, hb, hF⟩
  have HD := Lib.hid hd
  have HB2 : Hid (Below N w w2) := HB1.out.trans (hb.mono (bnl HNN.out HB1.out))
  clear hd hb hF HB1
  go_wp2_with fail
  refine (HSZ.out _).mono ?_
  rintro e w' ⟨rfl, rfl⟩
  go_wp2_with fail
  refine (refNew_x z w2 N (bnl HNN.out HB2.out) hz1 (by omega)).mono ?_
  rintro e w3 ⟨r, F2, rfl, hd2, hb, hF2⟩
  have HD2 := Lib.hid hd2
  have HD1 := Lib.hid (HD.out.below hb)
  have HSP : Hid (∀ k, F k → ¬ F2 k) := fun k hk h => by have := HD.out.lt k hk; have := hF2 k h; omega
  have HB3 : Hid (Below N w w3) := HB2.out.trans (hb.mono (bnl HNN.out HB2.out))
  clear hd2 hb hF2 HB2 HD
  obtain ⟨q, hq⟩ : ∃ q, w3.heap.size = q := ⟨_, rfl⟩
  obtain ⟨w4, hw4⟩ : ∃ w4, w3.alloc (.cells #[.pointer (some ⟨b, 0, none⟩), .pointer none, .pointer (some ⟨r, 0, none⟩), .pointer none] 36) = w4 := ⟨_, rfl⟩
  have hb9 : Below w3.heap.size w3 w4 := by rw [← hw4]; exact (Below.refl w3.heap.size w3).alloc (Nat.le_refl _) _
  have hx4 : WX w4 N q b r (newD z) none (.pointer none) (.pointer none) F F2 := by
    refine ⟨?_, .inl ⟨rfl, rfl, HD1.out.below hb9⟩, .inl ⟨rfl, rfl, HD2.out.below hb9⟩, HSP.out, fun h => ?_, fun h => ?_, ?_⟩
    · have := Blk.new w3 36 [.pointer (some ⟨b, 0, none⟩), .pointer none, .pointer (some ⟨r, 0, none⟩), .pointer none]
      rw [hq] at this
      rw [← hw4]
      exact this
    · have := HD1.out.lt q h
      omega
    · have := HD2.out.lt q h
      omega
    · rw [← hq]
      exact bnl HNN.out HB3.out
  have HB4 : Hid (Below N w w4) := HB3.out.trans (hb9.mono (bnl HNN.out HB3.out))
  have HHQ := Lib.hid hq
  have HW4 := Lib.hid hw4
  have HOW := Lib.hid (openW w4 N q b r (newD z) none (.pointer none) (.pointer none) F F2 z 0 hx4 (HTB.out _ HB4.out) (Inv.new z) (by omega) (by omega))
  clear hx4 HD1 HD2 HSP HB3 hb9
  go_upto_region 5 with (fail)
  clear hq hw4
  go_wp2_with fail
  refine HOW.out.mono ?_
  rintro e wA ⟨rfl, hbA, xA, yA, SA1, TA1, hxA⟩
  have HM0 : Hid (MSt w N q b r z 0 wA) := ⟨⟨_, _, _, _, _, _, hxA, (Inv.new z).opened.mono (by omega), OkO.opened (Inv.new z)⟩, HB4.out.trans hbA⟩
  clear hxA hbA HOW HB4 HW4 HHQ
  go_wp2_with fail
  go_loopw [11] (fun vi wr => ∃ (k : Nat), k ≤ n ∧ k ≤ 25 ∧ vi = .int .i64 k ∧ Hid (MSt w N q b r z k wr)) (fun v _ => n - (intOf v).toNat)
  case atStart => exact ⟨0, Nat.zero_le _, Nat.zero_le _, rfl, HM0⟩
  case round =>
    clear HM0
    obtain ⟨k, hkn, hk25, rfl, HM⟩ := hrel
    obtain ⟨⟨D, o, x, y, S, T, hx, hi, ho⟩, hbel⟩ := HM.out
    have HX := Lib.hid hx
    have HIV := Lib.hid hi
    have HOK := Lib.hid ho
    have HBL := Lib.hid hbel
    obtain ⟨w0, rfl⟩ : ∃ w0 : World, w0 = wr := ⟨_, rfl⟩
    clear hx hi ho hbel HM
    by_cases h : k < n ∧ k < 25
    · obtain ⟨h1, h2⟩ := h
      have q1 : (k : Int) < (n : Int) := by omega
      have q2 : (k : Int) < 25 := by omega
      have q3 : (0 : Int) ≤ (k : Int) := by omega
      obtain ⟨p, hpk⟩ : ∃ p, l[k]? = some p := ⟨l[k]'(by rw [HLN.out]; exact h1), List.getElem?_eq_getElem _⟩
      obtain ⟨ob, oo, rfl, hob, hat, hrp⟩ := HR.out k p hpk
      have hpi := HI.out p (List.mem_of_getElem? hpk)
      have HAT : Hid (∀ W, Below N w W → OpAt W ob (oo + k * 5) p) := fun W hW => hat.up hW hob
      have HDO := Lib.hid (does_any w0.drew N q b r D o x y S T z (10 + 10 * k) p (HX.out.below (Below.refl _ _).drew) (fun W9 h9 => HTB.out _ (HBL.out.drew.trans h9)) HG.out HIV.out (by omega) (by omega) HOK.out hpi (hrp.up HBL.out.drew))
      have HQ : Hid (Below N w w0.drew) := HBL.out.drew
      clear hpk hob hat hrp hpi HX HIV HOK HBL
      obtain ⟨pk2, oL, cL, lq, pn, oK, nK, cK, ks, oR, cR, raw⟩ := p
      dsimp only [opA, OpAt] at HDO HAT
      generalize lq.length = ln at HDO HAT
      generalize raw.length = rn at HDO HAT
      go_upto_region 10 with (fail)
      go_cut [77] from 46 to 78 (fun v wx => v = .bool false ∧ Hid (MSt w N q b r z (k + 1) wx))
      case first =>
        refine wp_region_held_drew (S := fun W => W.cell? ⟨ob, oo + k * 5, none⟩ = some (.int .i64 pk2) ∧ W.cell? ⟨ob, oo + k * 5 + 1, none⟩ = some (.slice oL ln cL) ∧ W.cell? ⟨ob, oo + k * 5 + 2, none⟩ = some (.int .i64 pn) ∧ W.cell? ⟨ob, oo + k * 5 + 3, none⟩ = some (.slice oK nK cK) ∧ W.cell? ⟨ob, oo + k * 5 + 4, none⟩ = some (.slice oR rn cR)) (by kernel_rfl) ?_ (fun hHeld => ?_)
        · exact HAT.out _ HQ.out
        generalize w0.drew = wz at HAT HDO HQ hHeld ⊢
        refine tk 0 (some 46) ?_
        refine tk 1 (some 47) ?_
        refine tk 2 (some 48) ?_
        refine tk 3 (some 49) ?_
        refine tk 4 (some 50) ?_
        refine rd1 5 (some 51) (fun K hK => ?_)
        go_simp
        refine HDO.out.mono ?_
        rintro e wB ⟨rfl, hbB, D2, o2, x2, y2, SS, TT, hxB, hiB, hoB⟩
        obtain ⟨FD, hdx, _, _⟩ := hxB.a.step
        obtain ⟨FR, hrx, _, _⟩ := hxB.c.step
        obtain ⟨ov, cv, f1, f2⟩ := hrx.two
        have hiB2 := hiB
        obtain ⟨pl, hpl⟩ : ∃ pl, D2.pend.length = pl := ⟨_, rfl⟩
        obtain ⟨lo, hlo⟩ : ∃ lo, D2.lost = lo := ⟨_, rfl⟩
        have HPL : Hid (pl ≤ 1000000) := (by rw [← hpl]; exact Nat.le_trans hiB.pl (by omega))
        rw [hpl] at f1
        rw [hlo] at f2
        obtain ⟨M, hM⟩ : ∃ M, wB.heap.size = M := ⟨_, rfl⟩
        have HMS : Hid (MSt w N q b r z (k + 1) wB) := ⟨⟨_, _, _, _, _, _, hxB, hiB.mono (by omega), hoB⟩, HQ.out.trans hbB⟩
        have HPE : Hid (∀ W2, Below M wB W2 → Calls Tryz.prog 23 #[.pointer (some ⟨b, 0, none⟩)] W2 fun e w2 => e = .returned (.int .i64 (pl : Int)) ∧ W2 = w2) := fun W2 h2 => by rw [← hpl]; exact pending_d W2 N b FD D2 (hdx.below (by rw [hM]; exact h2))
        obtain ⟨V, hV⟩ : ∃ V : ByteArray, (⟨D2.vis.toArray⟩ : ByteArray) = V := ⟨_, rfl⟩
        have HCT : Hid (lo = false → ∀ W2, Below M wB W2 → Calls Tryz.prog 20 #[.pointer (some ⟨b, 0, none⟩)] W2 fun e w2 => e = .returned (.string V) ∧ Below W2.heap.size W2 w2) := fun hl W2 h2 => by
          have := content_x W2 N b FD D2 (hdx.below (by rw [hM]; exact h2)) (hlo.trans hl)
          rw [hV] at this
          exact this
        have HVI : Hid (∀ W2, Below M wB W2 → Calls Tryz.prog 21 #[.pointer (some ⟨r, 0, none⟩)] W2 fun e w2 => ∃ gs kc, e = .returned (.slice (some ⟨gs, 0, none⟩) z kc) ∧ (convert 42 9 (.slice (some ⟨gs, 0, none⟩) z kc)).run Tryz.prog w2 = .ok (.string V) w2 ∧ Below W2.heap.size W2 w2) := fun W2 h2 => by
          refine (refVis_x W2 N r FR D2 z _ hiB2 (by omega) (hrx.below (by rw [hM]; exact h2))).mono ?_
          rintro e w2 ⟨gs, kc, he, ⟨rest, hk⟩, h1, h2, h3⟩
          refine ⟨gs, kc, he, ?_, h3⟩
          have := conv_blkR hk 0 z kc (by have := hiB2.len; omega)
          rw [List.drop_zero, List.take_of_length_le (by have := hiB2.len; omega), hV] at this
          exact this
        have HKP : Hid (∀ W, Below M wB W → (W.cell? ⟨ob, oo + k * 5, none⟩ = some (.int .i64 pk2) ∧ W.cell? ⟨ob, oo + k * 5 + 1, none⟩ = some (.slice oL ln cL) ∧ W.cell? ⟨ob, oo + k * 5 + 2, none⟩ = some (.int .i64 pn) ∧ W.cell? ⟨ob, oo + k * 5 + 3, none⟩ = some (.slice oK nK cK) ∧ W.cell? ⟨ob, oo + k * 5 + 4, none⟩ = some (.slice oR rn cR)) ∧ W.cell? ⟨r, 1, none⟩ = some (.slice ov pl cv) ∧ W.cell? ⟨r, 2, none⟩ = some (.bool lo)) := fun W hW => ⟨HAT.out W (HQ.out.trans (hbB.trans (hW.mono (by rw [← hM]; exact bnl HNN.out (HQ.out.trans hbB))))), (hW.cell (by rw [← hM]; exact hrx.lt r hrx.self)).trans f1, (hW.cell (by rw [← hM]; exact hrx.lt r hrx.self)).trans f2⟩
        have HM := Lib.hid hM
        have HQ : Hid (Below M wB wB) := Below.refl _ _
        clear hbB hxB hiB hoB hdx hrx f1 f2 hpl hlo hiB2 hM hV HDO HAT
        go_simp
        refine hK.out _ _ ?_ (fun hHeld2 => ?_)
        · exact (HKP.out _ HQ.out).1
        clear hK K hHeld
        rename _ => hHeld
        try simp only [Act.put, List.setIfInBounds_toArray, List.set_cons_zero, List.set_cons_succ]
        refine wpAnyH_weak (S2 := fun W => (W.cell? ⟨ob, oo + k * 5, none⟩ = some (.int .i64 pk2) ∧ W.cell? ⟨ob, oo + k * 5 + 1, none⟩ = some (.slice oL ln cL) ∧ W.cell? ⟨ob, oo + k * 5 + 2, none⟩ = some (.int .i64 pn) ∧ W.cell? ⟨ob, oo + k * 5 + 3, none⟩ = some (.slice oK nK cK) ∧ W.cell? ⟨ob, oo + k * 5 + 4, none⟩ = some (.slice oR rn cR)) ∧ W.cell? ⟨r, 1, none⟩ = some (.slice ov pl cv) ∧ W.cell? ⟨r, 2, none⟩ = some (.bool lo)) (fun _ h => h.1) _ _ _ _ ?_
        clear hHeld
        have hHeld := HKP.out _ HQ.out
        cases lo
        · skip
          refine tk 6 (some 52) ?_
          refine tk 7 (some 53) ?_
          refine tk 8 (some 54) ?_
          refine tk 10 (some 56) ?_
          refine tk 11 (some 57) ?_
          refine tk 12 (some 58) ?_
          refine tk 13 (some 59) ?_
          refine tk 14 (some 60) ?_
          refine rd1 9 (some 55) (fun K hK => ?_)
          go_simp
          refine (HPE.out _ HQ.out).mono ?_
          rintro e w2 ⟨rfl, rfl⟩
          go_simp
          refine hK.out _ _ ?_ (fun hHeld2 => ?_)
          · exact HKP.out _ HQ.out
          clear hK K hHeld
          rename _ => hHeld
          try simp only [Act.put, List.setIfInBounds_toArray, List.set_cons_zero, List.set_cons_succ]
          refine wpAnyH_take (i := 15) (oi := ⟨some 61, _, _, _, _, _⟩) (v := .bool false) rfl (by kernel_rfl) (by kernel_rfl) (by kernel_rfl) (fun _ _ _ h => h) (Or.inl ⟨by rfl, ?yp14⟩) (by assumption) ?rp14
          case yp14 => (intro w hSw; (try dsimp only at hSw); go_simp; (first | done | (with_reducible rfl) | exact (bne_self_eq_false _) | simpa using (bne_self_eq_false _)))
          try simp only [Act.put, List.setIfInBounds_toArray, List.set_cons_zero, List.set_cons_succ]
          refine tk 16 (some 62) ?_
          refine tk 17 (some 63) ?_
          refine tk 18 (some 64) ?_
          refine tk 19 (some 65) ?_
          refine tk 20 (some 66) ?_
          refine tk 21 (some 67) ?_
          refine tk 22 (some 68) ?_
          refine tk 23 (some 69) ?_
          refine tk 24 (some 70) ?_
          refine tk 26 (some 72) ?_
          refine rd1 25 (some 71) (fun K hK => ?_)
          go_simp
          refine (HCT.out rfl _ HQ.out).mono ?_
          rintro e z5 ⟨rfl, hbz⟩
          have HQ : Hid (Below M wB z5) := HQ.out.trans (hbz.mono (bnl HM.out HQ.out))
          clear hbz
          go_simp
          refine hK.out _ _ ?_ (fun hHeld2 => ?_)
          · exact HKP.out _ HQ.out
          clear hK K hHeld
          rename _ => hHeld
          try simp only [Act.put, List.setIfInBounds_toArray, List.set_cons_zero, List.set_cons_succ]
          refine rd1 27 (some 73) (fun K hK => ?_)
          go_simp
          refine (HVI.out _ HQ.out).mono ?_
          rintro e z6 ⟨gs, kc, rfl, hcv, hbz⟩
          have HQ : Hid (Below M wB z6) := HQ.out.trans (hbz.mono (bnl HM.out HQ.out))
          clear hbz
          go_simp
          refine hK.out _ _ ?_ (fun hHeld2 => ?_)
          · exact HKP.out _ HQ.out
          clear hK K hHeld
          rename _ => hHeld
          try simp only [Act.put, List.setIfInBounds_toArray, List.set_cons_zero, List.set_cons_succ]
          refine rd1 28 (some 74) (fun K hK => ?_)
          go_simp
          refine hK.out _ _ ?_ (fun hHeld2 => ?_)
          · exact HKP.out _ HQ.out
          clear hK K hHeld
          rename _ => hHeld
          try simp only [Act.put, List.setIfInBounds_toArray, List.set_cons_zero, List.set_cons_succ]
          refine wpAnyH_take (i := 29) (oi := ⟨some 75, _, _, _, _, _⟩) (v := .bool false) rfl (by kernel_rfl) (by kernel_rfl) (by kernel_rfl) (fun _ _ _ h => h) (Or.inl ⟨by rfl, ?yp25⟩) (by assumption) ?rp25
          case yp25 => (intro w hSw; (try dsimp only at hSw); go_simp; (first | done | (with_reducible rfl) | exact (bne_self_eq_false _) | simpa using (bne_self_eq_false _)))
          try simp only [Act.put, List.setIfInBounds_toArray, List.set_cons_zero, List.set_cons_succ]
          refine tk 30 (some 76) ?_
          refine tk 31 (some 77) ?_
          refine wpAnyH_done (by kernel_rfl) ?_ _
          clear hHeld
          go_wp2_with fail
          go_meet
          exact ⟨rfl, HMS.out.up (by rw [HM.out]; exact HQ.out)⟩
        · skip
          refine tk 6 (some 52) ?_
          refine tk 7 (some 53) ?_
          refine tk 8 (some 54) ?_
          refine tk 10 (some 56) ?_
          refine tk 11 (some 57) ?_
          refine tk 12 (some 58) ?_
          refine tk 13 (some 59) ?_
          refine tk 14 (some 60) ?_
          refine rd1 9 (some 55) (fun K hK => ?_)
          go_simp
          refine (HPE.out _ HQ.out).mono ?_
          rintro e w2 ⟨rfl, rfl⟩
          go_simp
          refine hK.out _ _ ?_ (fun hHeld2 => ?_)
          · exact HKP.out _ HQ.out
          clear hK K hHeld
          rename _ => hHeld
          try simp only [Act.put, List.setIfInBounds_toArray, List.set_cons_zero, List.set_cons_succ]
          refine wpAnyH_take (i := 15) (oi := ⟨some 61, _, _, _, _, _⟩) (v := .bool false) rfl (by kernel_rfl) (by kernel_rfl) (by kernel_rfl) (fun _ _ _ h => h) (Or.inl ⟨by rfl, ?yp36⟩) (by assumption) ?rp36
          case yp36 => (intro w hSw; (try dsimp only at hSw); go_simp; (first | done | (with_reducible rfl) | exact (bne_self_eq_false _) | simpa using (bne_self_eq_false _)))
          try simp only [Act.put, List.setIfInBounds_toArray, List.set_cons_zero, List.set_cons_succ]
          refine tk 16 (some 62) ?_
          refine tk 17 (some 63) ?_
          refine tk 18 (some 64) ?_
          refine tk 19 (some 65) ?_
          refine tk 20 (some 66) ?_
          refine tk 21 (some 67) ?_
          refine tk 22 (some 68) ?_
          refine tk 23 (some 69) ?_
          refine tkU 24 (some 70) ?_
          refine tkU 25 (some 71) ?_
          refine tkU 26 (some 72) ?_
          refine tkU 27 (some 73) ?_
          refine tkU 28 (some 74) ?_
          refine tkU 29 (some 75) ?_
          refine tk 30 (some 76) ?_
          refine tk 31 (some 77) ?_
          refine wpAnyH_done (by kernel_rfl) ?_ _
          clear hHeld
          go_wp2_with fail
          go_meet
          exact ⟨rfl, HMS.out.up (by rw [HM.out]; exact HQ.out)⟩
      case rest =>
        obtain ⟨rfl, HM⟩ := hcut
        clear HDO HQ HAT
        obtain ⟨⟨D, o, x, y, S, T, hx, hi, ho⟩, hbel⟩ := HM.out
        obtain ⟨w1, rfl⟩ : ∃ w1 : World, w1 = wc := ⟨_, rfl⟩
        rcases o with _ | ⟨R, br⟩
        · obtain ⟨rfl, _⟩ := hx.a.nil
          have c1 : w1.cell? ⟨q, 1, none⟩ = some (.pointer none) := hx.blk.cell 1
          clear hx hi ho hbel
          go_wp2_with fail
          go_roundw
          case rel => exact ⟨k + 1, by omega, by omega, by go_num, HM⟩
          case measure => simp [intOf]; omega
        · obtain ⟨bl, cl, oR, nR, cR, FA, GA, E, H, rfl, rfl, hrn, hnr, hE, hH, hlx, hall⟩ := logF hx hi (by omega) ho hz2
          obtain ⟨M, hM⟩ : ∃ M, w1.heap.size = M := ⟨_, rfl⟩
          have HMS := HM
          have HKP : Hid (∀ W, Below M w1 W → _) := fun W h => (hall W (by rw [hM]; exact h)).1
          have HRR : Hid (∀ W, Below M w1 W → _) := fun W h => (hall W (by rw [hM]; exact h)).2.1
          have HREC : Hid (∀ W, Below M w1 W → _) := fun W h => (hall W (by rw [hM]; exact h)).2.2.1
          have HRM : Hid (∀ W, Below M w1 W → _) := fun W h => (hall W (by rw [hM]; exact h)).2.2.2.1
          have HRC : Hid (∀ W, Below M w1 W → _) := fun W h => (hall W (by rw [hM]; exact h)).2.2.2.2.1
          have HHD : Hid (∀ W, Below M w1 W → _) := fun W h => (hall W (by rw [hM]; exact h)).2.2.2.2.2
          have HRN := Lib.hid hrn
          have HNR := Lib.hid hnr
          have HHV := Lib.hid hH
          have c1 : w1.cell? ⟨q, 1, none⟩ = some (.pointer (some ⟨bl, 0, none⟩)) := hx.blk.cell 1
          clear HM
          have HM := Lib.hid hM
          have HQ : Hid (Below M w1 w1.drew) := (Below.refl _ _).drew
          clear hx hi ho hbel hrn hnr hE hH hlx hall hM
          go_upto_region 13 with (fail)
          clear c1
          refine wp_region_held_drew (S := fun W => W.cell? ⟨q, 1, none⟩ = some (.pointer (some ⟨bl, 0, none⟩)) ∧ W.cell? ⟨q, 3, none⟩ = some (.pointer (some ⟨cl, 0, none⟩)) ∧ W.cell? ⟨cl, 1, none⟩ = some (.slice oR nR cR)) (by kernel_rfl) ?_ (fun hHeld => ?_)
          · exact HKP.out _ HQ.out
          generalize w1.drew = z0 at HQ hHeld ⊢
          refine tk 0 (some 83) ?_
          refine tk 1 (some 84) ?_
          refine tk 2 (some 85) ?_
          refine tk 3 (some 86) ?_
          refine tk 5 (some 88) ?_
          refine tk 6 (some 89) ?_
          refine tk 7 (some 90) ?_
          refine tk 8 (some 91) ?_
          refine tk 9 (some 92) ?_
          refine tk 10 (some 93) ?_
          refine tk 11 (some 94) ?_
          refine rd1 4 (some 87) (fun K hK => ?_)
          go_simp
          refine (HREC.out _ HQ.out).mono ?_
          rintro e z1 ⟨o1, k1, rfl, how, hbz⟩
          have HQ : Hid (Below M w1 z1) := HQ.out.trans (hbz.mono (bnl HM.out HQ.out))
          have HR1 : Hid (RdR z1 o1 R) := (own_rdr how).2.2.2
          rw [HRN.out]
          clear how hbz
          go_simp
          refine hK.out _ _ ?_ (fun hHeld2 => ?_)
          · exact HKP.out _ HQ.out
          clear hK K hHeld
          rename _ => hHeld
          try simp only [Act.put, List.setIfInBounds_toArray, List.set_cons_zero, List.set_cons_succ]
          refine rd1 12 (some 95) (fun K hK => ?_)
          go_simp
          refine (same25_eq R o1 oR nR k1 cR _ HRN.out (by have := HNR.out; unfold maxLen; omega) HR1.out (HRR.out _ HQ.out)).mono ?_
          rintro e z2 ⟨rfl, hbz⟩
          have HQ : Hid (Below M w1 z2) := HQ.out.trans (hbz.mono (bnl HM.out HQ.out))
          clear hbz HR1
          go_simp
          refine hK.out _ _ ?_ (fun hHeld2 => ?_)
          · exact HKP.out _ HQ.out
          clear hK K hHeld
          rename _ => hHeld
          try simp only [Act.put, List.setIfInBounds_toArray, List.set_cons_zero, List.set_cons_succ]
          refine tk 13 (some 96) ?_
          refine tk 14 (some 97) ?_
          refine tk 15 (some 98) ?_
          refine tk 16 (some 99) ?_
          refine tk 17 (some 100) ?_
          refine tk 18 (some 101) ?_
          refine tk 20 (some 103) ?_
          refine tk 21 (some 104) ?_
          refine tk 22 (some 105) ?_
          refine tk 23 (some 106) ?_
          refine rd1 19 (some 102) (fun K hK => ?_)
          go_simp
          refine (HRM.out _ HQ.out).mono ?_
          rintro e z3 ⟨rfl, hbz⟩
          have HQ : Hid (Below M w1 z3) := HQ.out.trans (hbz.mono (bnl HM.out HQ.out))
          clear hbz
          go_simp
          refine hK.out _ _ ?_ (fun hHeld2 => ?_)
          · exact HKP.out _ HQ.out
          clear hK K hHeld
          rename _ => hHeld
          try simp only [Act.put, List.setIfInBounds_toArray, List.set_cons_zero, List.set_cons_succ]
          refine rd1 24 (some 107) (fun K hK => ?_)
          go_simp
          refine (HRC.out _ HQ.out).mono ?_
          rintro e z4 ⟨rfl, hbz⟩
          have HQ : Hid (Below M w1 z4) := HQ.out.trans (hbz.mono (bnl HM.out HQ.out))
          clear hbz
          go_simp
          refine hK.out _ _ ?_ (fun hHeld2 => ?_)
          · exact HKP.out _ HQ.out
          clear hK K hHeld
          rename _ => hHeld
          try simp only [Act.put, List.setIfInBounds_toArray, List.set_cons_zero, List.set_cons_succ]
          refine wpAnyH_take (i := 25) (oi := ⟨some 108, _, _, _, _, _⟩) (v := .bool false) rfl (by kernel_rfl) (by kernel_rfl) (by kernel_rfl) (fun _ _ _ h => h) (Or.inl ⟨by rfl, ?yq22⟩) (by assumption) ?rq22
          case yq22 => (intro w hSw; (try dsimp only at hSw); go_simp; (first | done | (with_reducible rfl) | exact (bne_self_eq_false _) | simpa using (bne_self_eq_false _)))
          try simp only [Act.put, List.setIfInBounds_toArray, List.set_cons_zero, List.set_cons_succ]
          refine tk 26 (some 109) ?_
          refine tk 27 (some 110) ?_
          refine tk 28 (some 111) ?_
          refine tk 29 (some 112) ?_
          refine tk 30 (some 113) ?_
          refine tk 31 (some 114) ?_
          refine tk 33 (some 116) ?_
          refine tk 34 (some 117) ?_
          refine tk 35 (some 118) ?_
          refine tk 36 (some 119) ?_
          refine tk 37 (some 120) ?_
          refine tk 38 (some 121) ?_
          refine tk 39 (some 122) ?_
          refine rd1 32 (some 115) (fun K hK => ?_)
          go_simp
          refine (HHD.out _ HQ.out).mono ?_
          rintro e z5 ⟨rfl, rfl⟩
          go_simp
          refine hK.out _ _ ?_ (fun hHeld2 => ?_)
          · exact HKP.out _ HQ.out
          clear hK K hHeld
          rename _ => hHeld
          try simp only [Act.put, List.setIfInBounds_toArray, List.set_cons_zero, List.set_cons_succ]
          refine rd1 40 (some 123) (fun K hK => ?_)
          go_simp
          refine (refHead_any R oR nR cR _ HRN.out (by have := HNR.out; omega) (HRR.out _ HQ.out)).mono ?_
          rw [HHV.out]
          rintro e z6 ⟨rfl, hbz⟩
          have HQ : Hid (Below M w1 z6) := HQ.out.trans (hbz.mono (bnl HM.out HQ.out))
          clear hbz
          go_simp
          refine hK.out _ _ ?_ (fun hHeld2 => ?_)
          · exact HKP.out _ HQ.out
          clear hK K hHeld
          rename _ => hHeld
          try simp only [Act.put, List.setIfInBounds_toArray, List.set_cons_zero, List.set_cons_succ]
          refine wpAnyH_take (i := 41) (oi := ⟨some 124, _, _, _, _, _⟩) (v := .bool false) rfl (by kernel_rfl) (by kernel_rfl) (by kernel_rfl) (fun _ _ _ h => h) (Or.inl ⟨by rfl, ?yq36⟩) (by assumption) ?rq36
          case yq36 => (intro w hSw; (try dsimp only at hSw); go_simp; (first | done | (with_reducible rfl) | exact (bne_self_eq_false _) | simpa using (bne_self_eq_false _)))
          try simp only [Act.put, List.setIfInBounds_toArray, List.set_cons_zero, List.set_cons_succ]
          refine tk 42 (some 125) ?_
          refine wpAnyH_done (by kernel_rfl) ?_ _
          clear hHeld
          go_wp2_with fail
          go_roundw
          case rel => exact ⟨k + 1, by omega, by omega, by go_num, HMS.out.up (by rw [HM.out]; exact HQ.out)⟩
          case measure => simp [intOf]; omega
    · go_upto_region 8 with (fail)
      go_cut [43] from 36 to 44 (fun v wx => v = .bool false ∧ wx = w0)
      case first =>
        rcases (show (¬ (k : Int) < (n : Int)) ∨ ((k : Int) < (n : Int) ∧ ¬ (k : Int) < 25) from by omega) with h1 | ⟨h1, h2⟩
        all_goals
          clear h HX HIV HOK HBL
          go_wp2_with fail
          go_meet
          exact ⟨rfl, rfl⟩
      case rest =>
        obtain ⟨rfl, hw0⟩ := hcut
        subst hw0
        obtain ⟨w1, rfl⟩ : ∃ w1 : World, w1 = wc := ⟨_, rfl⟩
        clear h
        rcases o with _ | ⟨R, br⟩
        · obtain ⟨rfl, _⟩ := HX.out.a.nil
          have c1 : w1.cell? ⟨q, 1, none⟩ = some (.pointer none) := HX.out.blk.cell 1
          clear HX HIV HOK
          go_wp2_with fail
          go_ret
          exact ⟨rfl, by rw [HNN.out]; exact HBL.out⟩
        · obtain ⟨bl, cl, oR, nR, cR, FA, GA, E, H, rfl, rfl, hrn, hnr, hE, hH, hlx, hall⟩ := logF HX.out HIV.out (by omega) HOK.out hz2
          obtain ⟨rr, pi, pn, ps, PL, er, hPL, hpa, hpc⟩ := prove_two hlx hrn hnr hp8
          have c1 : w1.cell? ⟨q, 1, none⟩ = some (.pointer (some ⟨bl, 0, none⟩)) := HX.out.blk.cell 1
          obtain ⟨M, hM⟩ : ∃ M, w1.heap.size = M := ⟨_, rfl⟩
          have hNM : N ≤ M := by rw [← hM]; exact bnl HNN.out HBL.out
          have HKP : Hid (∀ W, Below M w1 W → _) := fun W h => (hall W (by rw [hM]; exact h)).1
          have HRR : Hid (∀ W, Below M w1 W → _) := fun W h => (hall W (by rw [hM]; exact h)).2.1
          have HTM : Hid (∀ W, Below M w1 W → TabAt W) := fun W h => HTB.out W (HBL.out.trans (h.mono hNM))
          have HPA : Hid (∀ W, Below M w1 W → _) := fun W h => hpa W (by rw [hM]; exact h) (HTM.out W h)
          have HPC := Lib.hid hpc
          have HRT : Hid (∀ W, Below M w1 W → _) := fun W h => root_x W N b bl FA GA ⟨D, R, br⟩ (by show R.length ≤ _; omega) (HTM.out W h) (hlx.below (by rw [hM]; exact h))
          have hlen : (entR R).length = nR := (entR_len R).trans hrn
          have HEN : Hid (∀ W, Below M w1 W → Calls Tryz.prog 30 #[.slice oR nR cR] W fun e w' => ∃ ob cb, e = .returned (.slice ob nR cb) ∧ (RdS w' ob (entR R) ∧ nR ≤ cb ∧ cb ≤ 9223372036854775807) ∧ Below W.heap.size W w') := fun W h => by
            refine (refEntries_any R oR nR cR W hrn (by omega) (HRR.out W h)).mono ?_
            rintro e w' ⟨ob, cb, rfl, ho, hb⟩
            have := ents_own_rd ho
            rw [hlen] at this ⊢
            exact ⟨ob, cb, rfl, this, hb⟩
          have HRF : Hid (∀ W ob cb, RdS W ob (entR R) ∧ nR ≤ cb ∧ cb ≤ 9223372036854775807 → _) := fun W ob cb h => refRoot_any nR (entR R) ob nR cb W (Nat.le_of_eq hlen) hlen h.2.1 h.2.2 (by omega) (fun y hy => Nat.le_trans (entF_sz R zero32 y hy) (by decide)) h.1
          obtain ⟨RT, hRT⟩ : ∃ RT, rootL (entR R) = RT := ⟨_, rfl⟩
          dsimp only at HRT
          rw [hRT] at HRT HRF
          obtain ⟨pl, hpl⟩ : ∃ pl, PL.length = pl := ⟨_, rfl⟩
          have HSM : Hid (∀ W oP oQ cP cQ, RdS W oP PL → RdS W oQ PL → Calls Tryz.prog 31 #[.slice oP pl cP, .slice oQ pl cQ] W fun e w' => e = .returned (.bool true) ∧ Below W.heap.size W w') := fun W oP oQ cP cQ h1 h2 => by
            have := same_any W oP oQ cP cQ PL PL hPL hPL h1 h2
            rw [hpl, decide_eq_true rfl] at this
            exact this
          unfold PrU proA at HPA HPC
          rw [hpl] at HPA HPC
          have HM := Lib.hid hM
          have HNM := Lib.hid hNM
          have HQ : Hid (Below M w1 w1.drew) := (Below.refl _ _).drew
          clear HX HIV HOK hrn hnr hE hH hlx hall hPL hpa hpc hlen hRT hpl hM hNM
          go_upto_region 17 with (fail)
          clear c1
          go_cut [12, 13] from 132 to 142 (fun v12 v13 wx => ∃ B1 oP cP, v12 = .pointer (some ⟨B1, 0, none⟩) ∧ v13 = .int .i64 er ∧ Hid (Blk wx B1 65 [.int .i64 rr.ch, .int .i64 rr.rg, .int .i64 rr.fr, .int .i64 rr.fs, .int .i64 rr.it, .int .i64 rr.ix, .int .i64 pi, .int .i64 pn, .string ps, .slice oP pl cP]) ∧ Hid (RdS wx oP PL) ∧ Hid (Below M w1 wx))
          case first =>
            refine wp_region_held_drew (S := fun W => W.cell? ⟨q, 1, none⟩ = some (.pointer (some ⟨bl, 0, none⟩)) ∧ W.cell? ⟨q, 3, none⟩ = some (.pointer (some ⟨cl, 0, none⟩)) ∧ W.cell? ⟨cl, 1, none⟩ = some (.slice oR nR cR)) (by kernel_rfl) ?_ (fun hHeld => ?_)
            · exact HKP.out _ HQ.out
            generalize w1.drew = z0 at HQ hHeld ⊢
            refine tk 0 (some 133) ?_
            refine tk 1 (some 134) ?_
            refine tk 2 (some 135) ?_
            refine tk 3 (some 136) ?_
            refine tk 4 (some 137) ?_
            refine wpAnyH_ready (rs := [5, 10]) (by kernel_rfl) (by simp) (AllReadyH.cons (o := ⟨some 138, _, _, _, _, _⟩) rfl (fun K hK => ?_) (AllReadyH.cons (o := ⟨some 12, _, _, _, _, _⟩) rfl (fun K hK => ?_) AllReadyH.nil))
            · skip
              go_simp
              refine (HPK.out _).mono ?_
              rintro e w' ⟨rfl, rfl⟩
              go_simp
              refine hK.out _ _ ?_ (fun hHeld2 => ?_)
              · exact HKP.out _ HQ.out
              clear hK K hHeld
              rename _ => hHeld
              try simp only [Act.put, List.setIfInBounds_toArray, List.set_cons_zero, List.set_cons_succ]
              refine wpAnyH_ready (rs := [6, 10]) (by kernel_rfl) (by simp) (AllReadyH.cons (o := ⟨some 139, _, _, _, _, _⟩) rfl (fun K hK => ?_) (AllReadyH.cons (o := ⟨some 12, _, _, _, _, _⟩) rfl (fun K hK => ?_) AllReadyH.nil))
              · skip
                go_simp
                refine (HPA.out _ HQ.out).mono ?_
                rintro e z1 ⟨oP, cP, rfl, hrp, hge, hbz⟩
                have HRP := Lib.hid hrp
                (try have HNE : Hid (PL = [] ∨ ∀ b o, oP = some ⟨b, o, none⟩ → b ≠ B1) := .inr (fun b o e => by have := hge b o e; have := HZ.out.lt; omega))
                (try have HZ := Lib.hid (HZ.out.kept (hbz.block _ HZ.out.lt)))
                have HQ : Hid (Below M w1 z1) := HQ.out.trans (hbz.mono (bnl HM.out HQ.out))
                clear hrp hge hbz
                go_simp
                refine hK.out _ _ ?_ (fun hHeld2 => ?_)
                · exact HKP.out _ HQ.out
                clear hK K hHeld
                rename _ => hHeld
                try simp only [Act.put, List.setIfInBounds_toArray, List.set_cons_zero, List.set_cons_succ]
                refine tk 7 (some 132) ?_
                refine tk 8 (some 140) ?_
                refine tk 9 (some 141) ?_
                refine rd1 10 (some 12) (fun K hK => ?_)
                go_simp
                obtain ⟨B1, za, e1, e2, hb, hz, hge, hbz⟩ := allocP HQ.out (bnl HM.out HQ.out)
                (try have HNE : Hid (PL = [] ∨ ∀ b o, oP = some ⟨b, o, none⟩ → b ≠ B1) := (by rw [← e1]; exact HRP.out.ne))
                (try have HRP := Lib.hid (HRP.out.kept hbz))
                rw [e2, e1]
                have HQ := Lib.hid hb
                have HZ := Lib.hid hz
                have HMB := Lib.hid hge
                clear e1 e2 hb hz hge hbz
                refine hK.out _ _ ?_ (fun hHeld2 => ?_)
                · exact HKP.out _ HQ.out
                clear hK K hHeld
                rename _ => hHeld
                try simp only [Act.put, List.setIfInBounds_toArray, List.set_cons_zero, List.set_cons_succ]
                refine rd1 11 none (fun K hK => ?_)
                have f0 := HZ.out.cell 0
                have f1 := HZ.out.cell 1
                have f2 := HZ.out.cell 2
                have f3 := HZ.out.cell 3
                have f4 := HZ.out.cell 4
                have f5 := HZ.out.cell 5
                have f6 := HZ.out.cell 6
                have f7 := HZ.out.cell 7
                have f8 := HZ.out.cell 8
                have f9 := HZ.out.cell 9
                have y0 := HZ.out.frozen 0
                have y1 := HZ.out.frozen 1
                have y2 := HZ.out.frozen 2
                have y3 := HZ.out.frozen 3
                have y4 := HZ.out.frozen 4
                have y5 := HZ.out.frozen 5
                have y6 := HZ.out.frozen 6
                have y7 := HZ.out.frozen 7
                have y8 := HZ.out.frozen 8
                have y9 := HZ.out.frozen 9
                simp only [List.getElem?_cons_zero, List.getElem?_cons_succ] at f0 f1 f2 f3 f4 f5 f6 f7 f8 f9
                go_simp
                clear f0 f1 f2 f3 f4 f5 f6 f7 f8 f9 y0 y1 y2 y3 y4 y5 y6 y7 y8 y9
                have hq := below10 HQ.out HMB.out (.int .i64 rr.ch) (.int .i64 rr.rg) (.int .i64 rr.fr) (.int .i64 rr.fs) (.int .i64 rr.it) (.int .i64 rr.ix) (.int .i64 pi) (.int .i64 pn) (.string ps) (.slice oP pl cP)
                have hk := blk10 HZ.out (.int .i64 rr.ch) (.int .i64 rr.rg) (.int .i64 rr.fr) (.int .i64 rr.fs) (.int .i64 rr.it) (.int .i64 rr.ix) (.int .i64 pi) (.int .i64 pn) (.string ps) (.slice oP pl cP)
                have hp := HRP.out.fr1 (fr10 (Fr.refl _ _) (.int .i64 rr.ch) (.int .i64 rr.rg) (.int .i64 rr.fr) (.int .i64 rr.fs) (.int .i64 rr.it) (.int .i64 rr.ix) (.int .i64 pi) (.int .i64 pn) (.string ps) (.slice oP pl cP)) HNE.out
                have HQ := Lib.hid hq
                have HK9 := Lib.hid hk
                have HP9 := Lib.hid hp
                clear hq hk hp HZ HRP HNE HMB
                refine hK.out _ _ ?_ (fun hHeld2 => ?_)
                · exact HKP.out _ HQ.out
                clear hK K hHeld
                rename _ => hHeld
                try simp only [Act.put, List.setIfInBounds_toArray, List.set_cons_zero, List.set_cons_succ]
                refine tk 12 (some 13) ?_
                refine wpAnyH_done (by kernel_rfl) ?_ _
                clear hHeld
                go_wp2_with fail
                go_meet
                exact ⟨_, _, _, rfl, rfl, HK9, HP9, HQ⟩
              · skip
                go_simp
                obtain ⟨B1, za, e1, e2, hb, hz, hge, hbz⟩ := allocP HQ.out (bnl HM.out HQ.out)
                (try have HNE : Hid (PL = [] ∨ ∀ b o, oP = some ⟨b, o, none⟩ → b ≠ B1) := (by rw [← e1]; exact HRP.out.ne))
                (try have HRP := Lib.hid (HRP.out.kept hbz))
                rw [e2, e1]
                have HQ := Lib.hid hb
                have HZ := Lib.hid hz
                have HMB := Lib.hid hge
                clear e1 e2 hb hz hge hbz
                refine hK.out _ _ ?_ (fun hHeld2 => ?_)
                · exact HKP.out _ HQ.out
                clear hK K hHeld
                rename _ => hHeld
                try simp only [Act.put, List.setIfInBounds_toArray, List.set_cons_zero, List.set_cons_succ]
                refine rd1 6 (some 139) (fun K hK => ?_)
                go_simp
                refine (HPA.out _ HQ.out).mono ?_
                rintro e z1 ⟨oP, cP, rfl, hrp, hge, hbz⟩
                have HRP := Lib.hid hrp
                (try have HNE : Hid (PL = [] ∨ ∀ b o, oP = some ⟨b, o, none⟩ → b ≠ B1) := .inr (fun b o e => by have := hge b o e; have := HZ.out.lt; omega))
                (try have HZ := Lib.hid (HZ.out.kept (hbz.block _ HZ.out.lt)))
                have HQ : Hid (Below M w1 z1) := HQ.out.trans (hbz.mono (bnl HM.out HQ.out))
                clear hrp hge hbz
                go_simp
                refine hK.out _ _ ?_ (fun hHeld2 => ?_)
                · exact HKP.out _ HQ.out
                clear hK K hHeld
                rename _ => hHeld
                try simp only [Act.put, List.setIfInBounds_toArray, List.set_cons_zero, List.set_cons_succ]
                refine tk 7 (some 132) ?_
                refine tk 8 (some 140) ?_
                refine tk 9 (some 141) ?_
                refine rd1 11 none (fun K hK => ?_)
                have f0 := HZ.out.cell 0
                have f1 := HZ.out.cell 1
                have f2 := HZ.out.cell 2
                have f3 := HZ.out.cell 3
                have f4 := HZ.out.cell 4
                have f5 := HZ.out.cell 5
                have f6 := HZ.out.cell 6
                have f7 := HZ.out.cell 7
                have f8 := HZ.out.cell 8
                have f9 := HZ.out.cell 9
                have y0 := HZ.out.frozen 0
                have y1 := HZ.out.frozen 1
                have y2 := HZ.out.frozen 2
                have y3 := HZ.out.frozen 3
                have y4 := HZ.out.frozen 4
                have y5 := HZ.out.frozen 5
                have y6 := HZ.out.frozen 6
                have y7 := HZ.out.frozen 7
                have y8 := HZ.out.frozen 8
                have y9 := HZ.out.frozen 9
                simp only [List.getElem?_cons_zero, List.getElem?_cons_succ] at f0 f1 f2 f3 f4 f5 f6 f7 f8 f9
                go_simp
                clear f0 f1 f2 f3 f4 f5 f6 f7 f8 f9 y0 y1 y2 y3 y4 y5 y6 y7 y8 y9
                have hq := below10 HQ.out HMB.out (.int .i64 rr.ch) (.int .i64 rr.rg) (.int .i64 rr.fr) (.int .i64 rr.fs) (.int .i64 rr.it) (.int .i64 rr.ix) (.int .i64 pi) (.int .i64 pn) (.string ps) (.slice oP pl cP)
                have hk := blk10 HZ.out (.int .i64 rr.ch) (.int .i64 rr.rg) (.int .i64 rr.fr) (.int .i64 rr.fs) (.int .i64 rr.it) (.int .i64 rr.ix) (.int .i64 pi) (.int .i64 pn) (.string ps) (.slice oP pl cP)
                have hp := HRP.out.fr1 (fr10 (Fr.refl _ _) (.int .i64 rr.ch) (.int .i64 rr.rg) (.int .i64 rr.fr) (.int .i64 rr.fs) (.int .i64 rr.it) (.int .i64 rr.ix) (.int .i64 pi) (.int .i64 pn) (.string ps) (.slice oP pl cP)) HNE.out
                have HQ := Lib.hid hq
                have HK9 := Lib.hid hk
                have HP9 := Lib.hid hp
                clear hq hk hp HZ HRP HNE HMB
                refine hK.out _ _ ?_ (fun hHeld2 => ?_)
                · exact HKP.out _ HQ.out
                clear hK K hHeld
                rename _ => hHeld
                try simp only [Act.put, List.setIfInBounds_toArray, List.set_cons_zero, List.set_cons_succ]
                refine tk 12 (some 13) ?_
                refine wpAnyH_done (by kernel_rfl) ?_ _
                clear hHeld
                go_wp2_with fail
                go_meet
                exact ⟨_, _, _, rfl, rfl, HK9, HP9, HQ⟩
            · skip
              go_simp
              obtain ⟨B1, za, e1, e2, hb, hz, hge, hbz⟩ := allocP HQ.out (bnl HM.out HQ.out)
              (try have HNE : Hid (PL = [] ∨ ∀ b o, oP = some ⟨b, o, none⟩ → b ≠ B1) := (by rw [← e1]; exact HRP.out.ne))
              (try have HRP := Lib.hid (HRP.out.kept hbz))
              rw [e2, e1]
              have HQ := Lib.hid hb
              have HZ := Lib.hid hz
              have HMB := Lib.hid hge
              clear e1 e2 hb hz hge hbz
              refine hK.out _ _ ?_ (fun hHeld2 => ?_)
              · exact HKP.out _ HQ.out
              clear hK K hHeld
              rename _ => hHeld
              try simp only [Act.put, List.setIfInBounds_toArray, List.set_cons_zero, List.set_cons_succ]
              refine rd1 5 (some 138) (fun K hK => ?_)
              go_simp
              refine (HPK.out _).mono ?_
              rintro e w' ⟨rfl, rfl⟩
              go_simp
              refine hK.out _ _ ?_ (fun hHeld2 => ?_)
              · exact HKP.out _ HQ.out
              clear hK K hHeld
              rename _ => hHeld
              try simp only [Act.put, List.setIfInBounds_toArray, List.set_cons_zero, List.set_cons_succ]
              refine rd1 6 (some 139) (fun K hK => ?_)
              go_simp
              refine (HPA.out _ HQ.out).mono ?_
              rintro e z1 ⟨oP, cP, rfl, hrp, hge, hbz⟩
              have HRP := Lib.hid hrp
              (try have HNE : Hid (PL = [] ∨ ∀ b o, oP = some ⟨b, o, none⟩ → b ≠ B1) := .inr (fun b o e => by have := hge b o e; have := HZ.out.lt; omega))
              (try have HZ := Lib.hid (HZ.out.kept (hbz.block _ HZ.out.lt)))
              have HQ : Hid (Below M w1 z1) := HQ.out.trans (hbz.mono (bnl HM.out HQ.out))
              clear hrp hge hbz
              go_simp
              refine hK.out _ _ ?_ (fun hHeld2 => ?_)
              · exact HKP.out _ HQ.out
              clear hK K hHeld
              rename _ => hHeld
              try simp only [Act.put, List.setIfInBounds_toArray, List.set_cons_zero, List.set_cons_succ]
              refine tk 7 (some 132) ?_
              refine tk 8 (some 140) ?_
              refine tk 9 (some 141) ?_
              refine rd1 11 none (fun K hK => ?_)
              have f0 := HZ.out.cell 0
              have f1 := HZ.out.cell 1
              have f2 := HZ.out.cell 2
              have f3 := HZ.out.cell 3
              have f4 := HZ.out.cell 4
              have f5 := HZ.out.cell 5
              have f6 := HZ.out.cell 6
              have f7 := HZ.out.cell 7
              have f8 := HZ.out.cell 8
              have f9 := HZ.out.cell 9
              have y0 := HZ.out.frozen 0
              have y1 := HZ.out.frozen 1
              have y2 := HZ.out.frozen 2
              have y3 := HZ.out.frozen 3
              have y4 := HZ.out.frozen 4
              have y5 := HZ.out.frozen 5
              have y6 := HZ.out.frozen 6
              have y7 := HZ.out.frozen 7
              have y8 := HZ.out.frozen 8
              have y9 := HZ.out.frozen 9
              simp only [List.getElem?_cons_zero, List.getElem?_cons_succ] at f0 f1 f2 f3 f4 f5 f6 f7 f8 f9
              go_simp
              clear f0 f1 f2 f3 f4 f5 f6 f7 f8 f9 y0 y1 y2 y3 y4 y5 y6 y7 y8 y9
              have hq := below10 HQ.out HMB.out (.int .i64 rr.ch) (.int .i64 rr.rg) (.int .i64 rr.fr) (.int .i64 rr.fs) (.int .i64 rr.it) (.int .i64 rr.ix) (.int .i64 pi) (.int .i64 pn) (.string ps) (.slice oP pl cP)
              have hk := blk10 HZ.out (.int .i64 rr.ch) (.int .i64 rr.rg) (.int .i64 rr.fr) (.int .i64 rr.fs) (.int .i64 rr.it) (.int .i64 rr.ix) (.int .i64 pi) (.int .i64 pn) (.string ps) (.slice oP pl cP)
              have hp := HRP.out.fr1 (fr10 (Fr.refl _ _) (.int .i64 rr.ch) (.int .i64 rr.rg) (.int .i64 rr.fr) (.int .i64 rr.fs) (.int .i64 rr.it) (.int .i64 rr.ix) (.int .i64 pi) (.int .i64 pn) (.string ps) (.slice oP pl cP)) HNE.out
              have HQ := Lib.hid hq
              have HK9 := Lib.hid hk
              have HP9 := Lib.hid hp
              clear hq hk hp HZ HRP HNE HMB
              refine hK.out _ _ ?_ (fun hHeld2 => ?_)
              · exact HKP.out _ HQ.out
              clear hK K hHeld
              rename _ => hHeld
              try simp only [Act.put, List.setIfInBounds_toArray, List.set_cons_zero, List.set_cons_succ]
              refine tk 12 (some 13) ?_
              refine wpAnyH_done (by kernel_rfl) ?_ _
              clear hHeld
              go_wp2_with fail
              go_meet
              exact ⟨_, _, _, rfl, rfl, HK9, HP9, HQ⟩
          case rest =>
            obtain ⟨B1, oP, cP, rfl, rfl, HZ1, HP1, HQ1⟩ := hcut
            obtain ⟨w2, rfl⟩ : ∃ w2 : World, w2 = wc := ⟨_, rfl⟩
            clear HQ
            obtain ⟨M2, hM2⟩ : ∃ M2, w2.heap.size = M2 := ⟨_, rfl⟩
            have HM2 := Lib.hid hM2
            clear hM2
            have HUP : Hid (∀ W, Below M2 w2 W → Below M w1 W) := fun W h => HQ1.out.trans (h.mono (by rw [← HM2.out]; exact bnl HM.out HQ1.out))
            have HQ : Hid (Below M2 w2 w2.drew) := (Below.refl _ _).drew
            go_upto_region 18 with (fail)
            go_cut [14, 15] from 142 to 155 (fun v14 v15 wx => ∃ B2 oQ cQ, v14 = .pointer (some ⟨B2, 0, none⟩) ∧ v15 = .int .i64 er ∧ Hid (Blk wx B2 65 [.int .i64 rr.ch, .int .i64 rr.rg, .int .i64 rr.fr, .int .i64 rr.fs, .int .i64 rr.it, .int .i64 rr.ix, .int .i64 pi, .int .i64 pn, .string ps, .slice oQ pl cQ]) ∧ Hid (RdS wx oQ PL) ∧ Hid (Below M2 w2 wx))
            case first =>
              refine wp_region_held_drew (S := fun W => W.cell? ⟨q, 1, none⟩ = some (.pointer (some ⟨bl, 0, none⟩)) ∧ W.cell? ⟨q, 3, none⟩ = some (.pointer (some ⟨cl, 0, none⟩)) ∧ W.cell? ⟨cl, 1, none⟩ = some (.slice oR nR cR)) (by kernel_rfl) ?_ (fun hHeld => ?_)
              · exact HKP.out _ (HUP.out _ HQ.out)
              generalize w2.drew = z0 at HQ hHeld ⊢
              refine tk 0 (some 143) ?_
              refine tk 1 (some 144) ?_
              refine tk 2 (some 145) ?_
              refine tk 3 (some 146) ?_
              refine tk 4 (some 147) ?_
              refine tk 5 (some 148) ?_
              refine tk 6 (some 149) ?_
              refine tk 7 (some 150) ?_
              refine wpAnyH_ready (rs := [8, 13]) (by kernel_rfl) (by simp) (AllReadyH.cons (o := ⟨some 151, _, _, _, _, _⟩) rfl (fun K hK => ?_) (AllReadyH.cons (o := ⟨some 14, _, _, _, _, _⟩) rfl (fun K hK => ?_) AllReadyH.nil))
              · skip
                go_simp
                refine (HPK.out _).mono ?_
                rintro e w' ⟨rfl, rfl⟩
                go_simp
                refine hK.out _ _ ?_ (fun hHeld2 => ?_)
                · exact HKP.out _ (HUP.out _ HQ.out)
                clear hK K hHeld
                rename _ => hHeld
                try simp only [Act.put, List.setIfInBounds_toArray, List.set_cons_zero, List.set_cons_succ]
                refine wpAnyH_ready (rs := [9, 13]) (by kernel_rfl) (by simp) (AllReadyH.cons (o := ⟨some 152, _, _, _, _, _⟩) rfl (fun K hK => ?_) (AllReadyH.cons (o := ⟨some 14, _, _, _, _, _⟩) rfl (fun K hK => ?_) AllReadyH.nil))
                · skip
                  go_simp
                  refine (HPC.out _ _ cR (HRR.out _ (HUP.out _ HQ.out))).mono ?_
                  rintro e z1 ⟨oP, cP, rfl, hrp, hge, hbz⟩
                  have HRP := Lib.hid hrp
                  (try have HNE : Hid (PL = [] ∨ ∀ b o, oP = some ⟨b, o, none⟩ → b ≠ B1) := .inr (fun b o e => by have := hge b o e; have := HZ.out.lt; omega))
                  (try have HZ := Lib.hid (HZ.out.kept (hbz.block _ HZ.out.lt)))
                  have HQ : Hid (Below M2 w2 z1) := HQ.out.trans (hbz.mono (bnl HM2.out HQ.out))
                  clear hrp hge hbz
                  go_simp
                  refine hK.out _ _ ?_ (fun hHeld2 => ?_)
                  · exact HKP.out _ (HUP.out _ HQ.out)
                  clear hK K hHeld
                  rename _ => hHeld
                  try simp only [Act.put, List.setIfInBounds_toArray, List.set_cons_zero, List.set_cons_succ]
                  refine tk 10 (some 142) ?_
                  refine tk 11 (some 153) ?_
                  refine tk 12 (some 154) ?_
                  refine rd1 13 (some 14) (fun K hK => ?_)
                  go_simp
                  obtain ⟨B1, za, e1, e2, hb, hz, hge, hbz⟩ := allocP HQ.out (bnl HM2.out HQ.out)
                  (try have HNE : Hid (PL = [] ∨ ∀ b o, oP = some ⟨b, o, none⟩ → b ≠ B1) := (by rw [← e1]; exact HRP.out.ne))
                  (try have HRP := Lib.hid (HRP.out.kept hbz))
                  rw [e2, e1]
                  have HQ := Lib.hid hb
                  have HZ := Lib.hid hz
                  have HMB := Lib.hid hge
                  clear e1 e2 hb hz hge hbz
                  refine hK.out _ _ ?_ (fun hHeld2 => ?_)
                  · exact HKP.out _ (HUP.out _ HQ.out)
                  clear hK K hHeld
                  rename _ => hHeld
                  try simp only [Act.put, List.setIfInBounds_toArray, List.set_cons_zero, List.set_cons_succ]
                  refine rd1 14 none (fun K hK => ?_)
                  have f0 := HZ.out.cell 0
                  have f1 := HZ.out.cell 1
                  have f2 := HZ.out.cell 2
                  have f3 := HZ.out.cell 3
                  have f4 := HZ.out.cell 4
                  have f5 := HZ.out.cell 5
                  have f6 := HZ.out.cell 6
                  have f7 := HZ.out.cell 7
                  have f8 := HZ.out.cell 8
                  have f9 := HZ.out.cell 9
                  have y0 := HZ.out.frozen 0
                  have y1 := HZ.out.frozen 1
                  have y2 := HZ.out.frozen 2
                  have y3 := HZ.out.frozen 3
                  have y4 := HZ.out.frozen 4
                  have y5 := HZ.out.frozen 5
                  have y6 := HZ.out.frozen 6
                  have y7 := HZ.out.frozen 7
                  have y8 := HZ.out.frozen 8
                  have y9 := HZ.out.frozen 9
                  simp only [List.getElem?_cons_zero, List.getElem?_cons_succ] at f0 f1 f2 f3 f4 f5 f6 f7 f8 f9
                  go_simp
                  clear f0 f1 f2 f3 f4 f5 f6 f7 f8 f9 y0 y1 y2 y3 y4 y5 y6 y7 y8 y9
                  have hq := below10 HQ.out HMB.out (.int .i64 rr.ch) (.int .i64 rr.rg) (.int .i64 rr.fr) (.int .i64 rr.fs) (.int .i64 rr.it) (.int .i64 rr.ix) (.int .i64 pi) (.int .i64 pn) (.string ps) (.slice oP pl cP)
                  have hk := blk10 HZ.out (.int .i64 rr.ch) (.int .i64 rr.rg) (.int .i64 rr.fr) (.int .i64 rr.fs) (.int .i64 rr.it) (.int .i64 rr.ix) (.int .i64 pi) (.int .i64 pn) (.string ps) (.slice oP pl cP)
                  have hp := HRP.out.fr1 (fr10 (Fr.refl _ _) (.int .i64 rr.ch) (.int .i64 rr.rg) (.int .i64 rr.fr) (.int .i64 rr.fs) (.int .i64 rr.it) (.int .i64 rr.ix) (.int .i64 pi) (.int .i64 pn) (.string ps) (.slice oP pl cP)) HNE.out
                  have HQ := Lib.hid hq
                  have HK9 := Lib.hid hk
                  have HP9 := Lib.hid hp
                  clear hq hk hp HZ HRP HNE HMB
                  refine hK.out _ _ ?_ (fun hHeld2 => ?_)
                  · exact HKP.out _ (HUP.out _ HQ.out)
                  clear hK K hHeld
                  rename _ => hHeld
                  try simp only [Act.put, List.setIfInBounds_toArray, List.set_cons_zero, List.set_cons_succ]
                  refine tk 15 (some 15) ?_
                  refine wpAnyH_done (by kernel_rfl) ?_ _
                  clear hHeld
                  go_wp2_with fail
                  go_meet
                  exact ⟨_, _, _, rfl, rfl, HK9, HP9, HQ⟩
                · skip
                  go_simp
                  obtain ⟨B1, za, e1, e2, hb, hz, hge, hbz⟩ := allocP HQ.out (bnl HM2.out HQ.out)
                  (try have HNE : Hid (PL = [] ∨ ∀ b o, oP = some ⟨b, o, none⟩ → b ≠ B1) := (by rw [← e1]; exact HRP.out.ne))
                  (try have HRP := Lib.hid (HRP.out.kept hbz))
                  rw [e2, e1]
                  have HQ := Lib.hid hb
                  have HZ := Lib.hid hz
                  have HMB := Lib.hid hge
                  clear e1 e2 hb hz hge hbz
                  refine hK.out _ _ ?_ (fun hHeld2 => ?_)
                  · exact HKP.out _ (HUP.out _ HQ.out)
                  clear hK K hHeld
                  rename _ => hHeld
                  try simp only [Act.put, List.setIfInBounds_toArray, List.set_cons_zero, List.set_cons_succ]
                  refine rd1 9 (some 152) (fun K hK => ?_)
                  go_simp
                  refine (HPC.out _ _ cR (HRR.out _ (HUP.out _ HQ.out))).mono ?_
                  rintro e z1 ⟨oP, cP, rfl, hrp, hge, hbz⟩
                  have HRP := Lib.hid hrp
                  (try have HNE : Hid (PL = [] ∨ ∀ b o, oP = some ⟨b, o, none⟩ → b ≠ B1) := .inr (fun b o e => by have := hge b o e; have := HZ.out.lt; omega))
                  (try have HZ := Lib.hid (HZ.out.kept (hbz.block _ HZ.out.lt)))
                  have HQ : Hid (Below M2 w2 z1) := HQ.out.trans (hbz.mono (bnl HM2.out HQ.out))
                  clear hrp hge hbz
                  go_simp
                  refine hK.out _ _ ?_ (fun hHeld2 => ?_)
                  · exact HKP.out _ (HUP.out _ HQ.out)
                  clear hK K hHeld
                  rename _ => hHeld
                  try simp only [Act.put, List.setIfInBounds_toArray, List.set_cons_zero, List.set_cons_succ]
                  refine tk 10 (some 142) ?_
                  refine tk 11 (some 153) ?_
                  refine tk 12 (some 154) ?_
                  refine rd1 14 none (fun K hK => ?_)
                  have f0 := HZ.out.cell 0
                  have f1 := HZ.out.cell 1
                  have f2 := HZ.out.cell 2
                  have f3 := HZ.out.cell 3
                  have f4 := HZ.out.cell 4
                  have f5 := HZ.out.cell 5
                  have f6 := HZ.out.cell 6
                  have f7 := HZ.out.cell 7
                  have f8 := HZ.out.cell 8
                  have f9 := HZ.out.cell 9
                  have y0 := HZ.out.frozen 0
                  have y1 := HZ.out.frozen 1
                  have y2 := HZ.out.frozen 2
                  have y3 := HZ.out.frozen 3
                  have y4 := HZ.out.frozen 4
                  have y5 := HZ.out.frozen 5
                  have y6 := HZ.out.frozen 6
                  have y7 := HZ.out.frozen 7
                  have y8 := HZ.out.frozen 8
                  have y9 := HZ.out.frozen 9
                  simp only [List.getElem?_cons_zero, List.getElem?_cons_succ] at f0 f1 f2 f3 f4 f5 f6 f7 f8 f9
                  go_simp
                  clear f0 f1 f2 f3 f4 f5 f6 f7 f8 f9 y0 y1 y2 y3 y4 y5 y6 y7 y8 y9
                  have hq := below10 HQ.out HMB.out (.int .i64 rr.ch) (.int .i64 rr.rg) (.int .i64 rr.fr) (.int .i64 rr.fs) (.int .i64 rr.it) (.int .i64 rr.ix) (.int .i64 pi) (.int .i64 pn) (.string ps) (.slice oP pl cP)
                  have hk := blk10 HZ.out (.int .i64 rr.ch) (.int .i64 rr.rg) (.int .i64 rr.fr) (.int .i64 rr.fs) (.int .i64 rr.it) (.int .i64 rr.ix) (.int .i64 pi) (.int .i64 pn) (.string ps) (.slice oP pl cP)
                  have hp := HRP.out.fr1 (fr10 (Fr.refl _ _) (.int .i64 rr.ch) (.int .i64 rr.rg) (.int .i64 rr.fr) (.int .i64 rr.fs) (.int .i64 rr.it) (.int .i64 rr.ix) (.int .i64 pi) (.int .i64 pn) (.string ps) (.slice oP pl cP)) HNE.out
                  have HQ := Lib.hid hq
                  have HK9 := Lib.hid hk
                  have HP9 := Lib.hid hp
                  clear hq hk hp HZ HRP HNE HMB
                  refine hK.out _ _ ?_ (fun hHeld2 => ?_)
                  · exact HKP.out _ (HUP.out _ HQ.out)
                  clear hK K hHeld
                  rename _ => hHeld
                  try simp only [Act.put, List.setIfInBounds_toArray, List.set_cons_zero, List.set_cons_succ]
                  refine tk 15 (some 15) ?_
                  refine wpAnyH_done (by kernel_rfl) ?_ _
                  clear hHeld
                  go_wp2_with fail
                  go_meet
                  exact ⟨_, _, _, rfl, rfl, HK9, HP9, HQ⟩
              · skip
                go_simp
                obtain ⟨B1, za, e1, e2, hb, hz, hge, hbz⟩ := allocP HQ.out (bnl HM2.out HQ.out)
                (try have HNE : Hid (PL = [] ∨ ∀ b o, oP = some ⟨b, o, none⟩ → b ≠ B1) := (by rw [← e1]; exact HRP.out.ne))
                (try have HRP := Lib.hid (HRP.out.kept hbz))
                rw [e2, e1]
                have HQ := Lib.hid hb
                have HZ := Lib.hid hz
                have HMB := Lib.hid hge
                clear e1 e2 hb hz hge hbz
                refine hK.out _ _ ?_ (fun hHeld2 => ?_)
                · exact HKP.out _ (HUP.out _ HQ.out)
                clear hK K hHeld
                rename _ => hHeld
                try simp only [Act.put, List.setIfInBounds_toArray, List.set_cons_zero, List.set_cons_succ]
                refine rd1 8 (some 151) (fun K hK => ?_)
                go_simp
                refine (HPK.out _).mono ?_
                rintro e w' ⟨rfl, rfl⟩
                go_simp
                refine hK.out _ _ ?_ (fun hHeld2 => ?_)
                · exact HKP.out _ (HUP.out _ HQ.out)
                clear hK K hHeld
                rename _ => hHeld
                try simp only [Act.put, List.setIfInBounds_toArray, List.set_cons_zero, List.set_cons_succ]
                refine rd1 9 (some 152) (fun K hK => ?_)
                go_simp
                refine (HPC.out _ _ cR (HRR.out _ (HUP.out _ HQ.out))).mono ?_
                rintro e z1 ⟨oP, cP, rfl, hrp, hge, hbz⟩
                have HRP := Lib.hid hrp
                (try have HNE : Hid (PL = [] ∨ ∀ b o, oP = some ⟨b, o, none⟩ → b ≠ B1) := .inr (fun b o e => by have := hge b o e; have := HZ.out.lt; omega))
                (try have HZ := Lib.hid (HZ.out.kept (hbz.block _ HZ.out.lt)))
                have HQ : Hid (Below M2 w2 z1) := HQ.out.trans (hbz.mono (bnl HM2.out HQ.out))
                clear hrp hge hbz
                go_simp
                refine hK.out _ _ ?_ (fun hHeld2 => ?_)
                · exact HKP.out _ (HUP.out _ HQ.out)
                clear hK K hHeld
                rename _ => hHeld
                try simp only [Act.put, List.setIfInBounds_toArray, List.set_cons_zero, List.set_cons_succ]
                refine tk 10 (some 142) ?_
                refine tk 11 (some 153) ?_
                refine tk 12 (some 154) ?_
                refine rd1 14 none (fun K hK => ?_)
                have f0 := HZ.out.cell 0
                have f1 := HZ.out.cell 1
                have f2 := HZ.out.cell 2
                have f3 := HZ.out.cell 3
                have f4 := HZ.out.cell 4
                have f5 := HZ.out.cell 5
                have f6 := HZ.out.cell 6
                have f7 := HZ.out.cell 7
                have f8 := HZ.out.cell 8
                have f9 := HZ.out.cell 9
                have y0 := HZ.out.frozen 0
                have y1 := HZ.out.frozen 1
                have y2 := HZ.out.frozen 2
                have y3 := HZ.out.frozen 3
                have y4 := HZ.out.frozen 4
                have y5 := HZ.out.frozen 5
                have y6 := HZ.out.frozen 6
                have y7 := HZ.out.frozen 7
                have y8 := HZ.out.frozen 8
                have y9 := HZ.out.frozen 9
                simp only [List.getElem?_cons_zero, List.getElem?_cons_succ] at f0 f1 f2 f3 f4 f5 f6 f7 f8 f9
                go_simp
                clear f0 f1 f2 f3 f4 f5 f6 f7 f8 f9 y0 y1 y2 y3 y4 y5 y6 y7 y8 y9
                have hq := below10 HQ.out HMB.out (.int .i64 rr.ch) (.int .i64 rr.rg) (.int .i64 rr.fr) (.int .i64 rr.fs) (.int .i64 rr.it) (.int .i64 rr.ix) (.int .i64 pi) (.int .i64 pn) (.string ps) (.slice oP pl cP)
                have hk := blk10 HZ.out (.int .i64 rr.ch) (.int .i64 rr.rg) (.int .i64 rr.fr) (.int .i64 rr.fs) (.int .i64 rr.it) (.int .i64 rr.ix) (.int .i64 pi) (.int .i64 pn) (.string ps) (.slice oP pl cP)
                have hp := HRP.out.fr1 (fr10 (Fr.refl _ _) (.int .i64 rr.ch) (.int .i64 rr.rg) (.int .i64 rr.fr) (.int .i64 rr.fs) (.int .i64 rr.it) (.int .i64 rr.ix) (.int .i64 pi) (.int .i64 pn) (.string ps) (.slice oP pl cP)) HNE.out
                have HQ := Lib.hid hq
                have HK9 := Lib.hid hk
                have HP9 := Lib.hid hp
                clear hq hk hp HZ HRP HNE HMB
                refine hK.out _ _ ?_ (fun hHeld2 => ?_)
                · exact HKP.out _ (HUP.out _ HQ.out)
                clear hK K hHeld
                rename _ => hHeld
                try simp only [Act.put, List.setIfInBounds_toArray, List.set_cons_zero, List.set_cons_succ]
                refine tk 15 (some 15) ?_
                refine wpAnyH_done (by kernel_rfl) ?_ _
                clear hHeld
                go_wp2_with fail
                go_meet
                exact ⟨_, _, _, rfl, rfl, HK9, HP9, HQ⟩
            case rest =>
              obtain ⟨B2, oQ, cQ, rfl, rfl, HZ2, HP2, HQ2⟩ := hcut
              obtain ⟨w3, rfl⟩ : ∃ w3 : World, w3 = wc := ⟨_, rfl⟩
              clear HQ
              obtain ⟨M3, hM3⟩ : ∃ M3, w3.heap.size = M3 := ⟨_, rfl⟩
              have hub : ∀ W, Below M3 w3 W → Below M2 w2 W := fun W h => HQ2.out.trans (h.mono (by rw [← hM3]; exact bnl HM2.out HQ2.out))
              have hz1 : Blk w3 B1 65 [.int .i64 rr.ch, .int .i64 rr.rg, .int .i64 rr.fr, .int .i64 rr.fs, .int .i64 rr.it, .int .i64 rr.ix, .int .i64 pi, .int .i64 pn, .string ps, .slice oP pl cP] := HZ1.out.kept ((show Below w2.heap.size w2 w3 from by rw [HM2.out]; exact HQ2.out).block _ HZ1.out.lt)
              have hp1 : RdS w3 oP PL := HP1.out.kept (by rw [HM2.out]; exact HQ2.out)
              have HKX : Hid (∀ W, Below M3 w3 W → (W.cell? ⟨q, 1, none⟩ = some (.pointer (some ⟨bl, 0, none⟩)) ∧ W.cell? ⟨q, 3, none⟩ = some (.pointer (some ⟨cl, 0, none⟩)) ∧ W.cell? ⟨cl, 1, none⟩ = some (.slice oR nR cR)) ∧ (W.cell? ⟨B1, 0, none⟩ = some (.int .i64 rr.ch) ∧ W.cell? ⟨B1, 1, none⟩ = some (.int .i64 rr.rg) ∧ W.cell? ⟨B1, 2, none⟩ = some (.int .i64 rr.fr) ∧ W.cell? ⟨B1, 3, none⟩ = some (.int .i64 rr.fs) ∧ W.cell? ⟨B1, 4, none⟩ = some (.int .i64 rr.it) ∧ W.cell? ⟨B1, 5, none⟩ = some (.int .i64 rr.ix) ∧ W.cell? ⟨B1, 6, none⟩ = some (.int .i64 pi) ∧ W.cell? ⟨B1, 7, none⟩ = some (.int .i64 pn) ∧ W.cell? ⟨B1, 8, none⟩ = some (.string ps) ∧ W.cell? ⟨B1, 9, none⟩ = some (.slice oP pl cP)) ∧ (W.cell? ⟨B2, 0, none⟩ = some (.int .i64 rr.ch) ∧ W.cell? ⟨B2, 1, none⟩ = some (.int .i64 rr.rg) ∧ W.cell? ⟨B2, 2, none⟩ = some (.int .i64 rr.fr) ∧ W.cell? ⟨B2, 3, none⟩ = some (.int .i64 rr.fs) ∧ W.cell? ⟨B2, 4, none⟩ = some (.int .i64 rr.it) ∧ W.cell? ⟨B2, 5, none⟩ = some (.int .i64 rr.ix) ∧ W.cell? ⟨B2, 6, none⟩ = some (.int .i64 pi) ∧ W.cell? ⟨B2, 7, none⟩ = some (.int .i64 pn) ∧ W.cell? ⟨B2, 8, none⟩ = some (.string ps) ∧ W.cell? ⟨B2, 9, none⟩ = some (.slice oQ pl cQ))) := fun W h => by
                have h0 : Below w3.heap.size w3 W := by rw [hM3]; exact h
                have k1 := hz1.kept (h0.block _ hz1.lt)
                have k2 := HZ2.out.kept (h0.block _ HZ2.out.lt)
                exact ⟨HKP.out W (HUP.out W (hub W h)), ⟨k1.cell 0, k1.cell 1, k1.cell 2, k1.cell 3, k1.cell 4, k1.cell 5, k1.cell 6, k1.cell 7, k1.cell 8, k1.cell 9⟩, ⟨k2.cell 0, k2.cell 1, k2.cell 2, k2.cell 3, k2.cell 4, k2.cell 5, k2.cell 6, k2.cell 7, k2.cell 8, k2.cell 9⟩⟩
              have HRS : Hid (∀ W, Below M3 w3 W → RdS W oP PL ∧ RdS W oQ PL) := fun W h => ⟨hp1.kept (by rw [hM3]; exact h), HP2.out.kept (by rw [hM3]; exact h)⟩
              have HUB : Hid (∀ W, Below M3 w3 W → Below M w1 W) := fun W h => HUP.out W (hub W h)
              have HM3 := Lib.hid hM3
              have HQ : Hid (Below M3 w3 w3.drew) := (Below.refl _ _).drew
              clear hub hz1 hp1 HZ1 HZ2 HP1 HP2 hM3
              go_upto_region 19 with (fail)
              refine wp_region_held_drew (S := fun W => (W.cell? ⟨q, 1, none⟩ = some (.pointer (some ⟨bl, 0, none⟩)) ∧ W.cell? ⟨q, 3, none⟩ = some (.pointer (some ⟨cl, 0, none⟩)) ∧ W.cell? ⟨cl, 1, none⟩ = some (.slice oR nR cR)) ∧ (W.cell? ⟨B1, 0, none⟩ = some (.int .i64 rr.ch) ∧ W.cell? ⟨B1, 1, none⟩ = some (.int .i64 rr.rg) ∧ W.cell? ⟨B1, 2, none⟩ = some (.int .i64 rr.fr) ∧ W.cell? ⟨B1, 3, none⟩ = some (.int .i64 rr.fs) ∧ W.cell? ⟨B1, 4, none⟩ = some (.int .i64 rr.it) ∧ W.cell? ⟨B1, 5, none⟩ = some (.int .i64 rr.ix) ∧ W.cell? ⟨B1, 6, none⟩ = some (.int .i64 pi) ∧ W.cell? ⟨B1, 7, none⟩ = some (.int .i64 pn) ∧ W.cell? ⟨B1, 8, none⟩ = some (.string ps) ∧ W.cell? ⟨B1, 9, none⟩ = some (.slice oP pl cP)) ∧ (W.cell? ⟨B2, 0, none⟩ = some (.int .i64 rr.ch) ∧ W.cell? ⟨B2, 1, none⟩ = some (.int .i64 rr.rg) ∧ W.cell? ⟨B2, 2, none⟩ = some (.int .i64 rr.fr) ∧ W.cell? ⟨B2, 3, none⟩ = some (.int .i64 rr.fs) ∧ W.cell? ⟨B2, 4, none⟩ = some (.int .i64 rr.it) ∧ W.cell? ⟨B2, 5, none⟩ = some (.int .i64 rr.ix) ∧ W.cell? ⟨B2, 6, none⟩ = some (.int .i64 pi) ∧ W.cell? ⟨B2, 7, none⟩ = some (.int .i64 pn) ∧ W.cell? ⟨B2, 8, none⟩ = some (.string ps) ∧ W.cell? ⟨B2, 9, none⟩ = some (.slice oQ pl cQ))) (by kernel_rfl) ?_ (fun hHeld => ?_)
              · exact HKX.out _ HQ.out
              generalize w3.drew = z0 at HQ hHeld ⊢
              refine tk 0 (some 155) ?_
              refine tk 1 (some 156) ?_
              refine tk 2 (some 157) ?_
              refine tk 3 (some 158) ?_
              refine tk 4 (some 159) ?_
              refine tk 5 (some 160) ?_
              refine tk 7 (some 162) ?_
              refine tk 8 (some 163) ?_
              refine tk 9 (some 164) ?_
              refine tk 10 (some 165) ?_
              refine tk 11 (some 166) ?_
              refine tk 12 (some 167) ?_
              refine tk 13 (some 168) ?_
              refine rd1 6 (some 161) (fun K hK => ?_)
              go_simp
              refine (HRT.out _ (HUB.out _ HQ.out)).mono ?_
              rintro e z1 ⟨rfl, hbz⟩
              have HQ : Hid (Below M3 w3 z1) := HQ.out.trans (hbz.mono (bnl HM3.out HQ.out))
              clear hbz
              go_simp
              refine hK.out _ _ ?_ (fun hHeld2 => ?_)
              · exact HKX.out _ HQ.out
              clear hK K hHeld
              rename _ => hHeld
              try simp only [Act.put, List.setIfInBounds_toArray, List.set_cons_zero, List.set_cons_succ]
              refine rd1 14 (some 169) (fun K hK => ?_)
              go_simp
              refine (HEN.out _ (HUB.out _ HQ.out)).mono ?_
              rintro e z2 ⟨ob, cb, rfl, hrd, hbz⟩
              have HQ : Hid (Below M3 w3 z2) := HQ.out.trans (hbz.mono (bnl HM3.out HQ.out))
              have HRD := Lib.hid hrd
              clear hbz hrd
              go_simp
              refine hK.out _ _ ?_ (fun hHeld2 => ?_)
              · exact HKX.out _ HQ.out
              clear hK K hHeld
              rename _ => hHeld
              try simp only [Act.put, List.setIfInBounds_toArray, List.set_cons_zero, List.set_cons_succ]
              refine rd1 15 (some 170) (fun K hK => ?_)
              go_simp
              refine (HRF.out _ ob cb HRD.out).mono ?_
              rintro e z3 ⟨rfl, hbz⟩
              have HQ : Hid (Below M3 w3 z3) := HQ.out.trans (hbz.mono (bnl HM3.out HQ.out))
              clear hbz HRD
              go_simp
              refine hK.out _ _ ?_ (fun hHeld2 => ?_)
              · exact HKX.out _ HQ.out
              clear hK K hHeld
              rename _ => hHeld
              try simp only [Act.put, List.setIfInBounds_toArray, List.set_cons_zero, List.set_cons_succ]
              refine wpAnyH_take (i := 16) (oi := ⟨some 171, _, _, _, _, _⟩) (v := .bool true) rfl (by kernel_rfl) (by kernel_rfl) (by kernel_rfl) (fun _ _ _ h => h) (Or.inl ⟨by rfl, ?yz14⟩) (by assumption) ?rz14
              case yz14 => (intro w hSw; (try dsimp only at hSw); go_simp; (first | done | (with_reducible rfl) | exact (beq_self_eq_true _) | simpa using (beq_self_eq_true _)))
              try simp only [Act.put, List.setIfInBounds_toArray, List.set_cons_zero, List.set_cons_succ]
              refine tk 17 (some 172) ?_
              refine tk 18 (some 173) ?_
              refine tk 19 (some 174) ?_
              refine tk 20 (some 175) ?_
              refine wpAnyH_take (i := 21) (oi := ⟨some 176, _, _, _, _, _⟩) (v := .bool true) rfl (by kernel_rfl) (by kernel_rfl) (by kernel_rfl) (fun _ _ _ h => h) (Or.inl ⟨by rfl, ?yz19⟩) (by assumption) ?rz19
              case yz19 => (intro w hSw; (try dsimp only at hSw); go_simp; (first | done | (with_reducible rfl) | exact (beq_self_eq_true _) | simpa using (beq_self_eq_true _)))
              try simp only [Act.put, List.setIfInBounds_toArray, List.set_cons_zero, List.set_cons_succ]
              refine tk 22 (some 177) ?_
              refine tk 23 (some 178) ?_
              refine tk 24 (some 179) ?_
              refine tk 25 (some 180) ?_
              refine tk 26 (some 181) ?_
              refine tk 27 (some 182) ?_
              refine tk 28 (some 183) ?_
              refine tk 29 (some 184) ?_
              refine tk 30 (some 185) ?_
              refine tk 31 (some 186) ?_
              refine tk 32 (some 187) ?_
              refine tk 33 (some 188) ?_
              refine tk 34 (some 189) ?_
              refine wpAnyH_take (i := 35) (oi := ⟨some 190, _, _, _, _, _⟩) (v := .bool true) rfl (by kernel_rfl) (by kernel_rfl) (by kernel_rfl) (fun _ _ _ h => h) (Or.inl ⟨by rfl, ?yz33⟩) (by assumption) ?rz33
              case yz33 => (intro w hSw; (try dsimp only at hSw); go_simp; (first | done | (with_reducible rfl) | exact (beq_self_eq_true _) | simpa using (beq_self_eq_true _)))
              try simp only [Act.put, List.setIfInBounds_toArray, List.set_cons_zero, List.set_cons_succ]
              refine tk 36 (some 191) ?_
              refine tk 37 (some 192) ?_
              refine tk 38 (some 193) ?_
              refine tk 39 (some 194) ?_
              refine tk 40 (some 195) ?_
              refine tk 41 (some 196) ?_
              refine wpAnyH_take (i := 42) (oi := ⟨some 197, _, _, _, _, _⟩) (v := .bool true) rfl (by kernel_rfl) (by kernel_rfl) (by kernel_rfl) (fun _ _ _ h => h) (Or.inl ⟨by rfl, ?yz40⟩) (by assumption) ?rz40
              case yz40 => (intro w hSw; (try dsimp only at hSw); go_simp; (first | done | (with_reducible rfl) | exact (beq_self_eq_true _) | simpa using (beq_self_eq_true _)))
              try simp only [Act.put, List.setIfInBounds_toArray, List.set_cons_zero, List.set_cons_succ]
              refine tk 43 (some 198) ?_
              refine tk 44 (some 199) ?_
              refine tk 45 (some 200) ?_
              refine tk 46 (some 201) ?_
              refine tk 47 (some 202) ?_
              refine tk 48 (some 203) ?_
              refine wpAnyH_take (i := 49) (oi := ⟨some 204, _, _, _, _, _⟩) (v := .bool true) rfl (by kernel_rfl) (by kernel_rfl) (by kernel_rfl) (fun _ _ _ h => h) (Or.inl ⟨by rfl, ?yz47⟩) (by assumption) ?rz47
              case yz47 => (intro w hSw; (try dsimp only at hSw); go_simp; (first | done | (with_reducible rfl) | exact (beq_self_eq_true _) | simpa using (beq_self_eq_true _)))
              try simp only [Act.put, List.setIfInBounds_toArray, List.set_cons_zero, List.set_cons_succ]
              refine tk 50 (some 205) ?_
              refine tk 51 (some 206) ?_
              refine tk 52 (some 207) ?_
              refine tk 53 (some 208) ?_
              refine tk 54 (some 209) ?_
              refine tk 55 (some 210) ?_
              refine rd1 56 (some 211) (fun K hK => ?_)
              go_simp
              refine (HSM.out _ oP oQ cP cQ (HRS.out _ HQ.out).1 (HRS.out _ HQ.out).2).mono ?_
              rintro e z4 ⟨rfl, hbz⟩
              have HQ : Hid (Below M3 w3 z4) := HQ.out.trans (hbz.mono (bnl HM3.out HQ.out))
              clear hbz
              go_simp
              refine hK.out _ _ ?_ (fun hHeld2 => ?_)
              · exact HKX.out _ HQ.out
              clear hK K hHeld
              rename _ => hHeld
              try simp only [Act.put, List.setIfInBounds_toArray, List.set_cons_zero, List.set_cons_succ]
              refine tk 57 (some 212) ?_
              refine tk 58 (some 4) ?_
              refine wpAnyH_done (by kernel_rfl) ?_ _
              clear hHeld
              go_wp2_with fail
              go_ret
              exact ⟨rfl, by rw [HNN.out]; exact HBL.out.trans ((HUB.out _ HQ.out).mono HNM.out)⟩
end Go.Proofs.YtfpcdlpfmlaakaaGreatDoor
