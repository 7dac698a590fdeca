/-
  The walk of the reference implementation of package media: Decode.
-/
import Derived.WalkKit
import Derived.LoopTactic
import Derived.WalkSpells
import Derived.WalkLawsBesides
import Derived.RegionTactic
import Derived.BigRegion
import Derived.Deep.QuietTactic
import Derived.Deep.RegionHeld3
import Derived.BigQuiet
import Derived.IntWalk
import Derived.Outline
import Derived.Test.YtfplajafekpccaaMedRA
import Derived.Test.YtfplajafekpccaaWireRefS
set_option linter.unusedVariables false
set_option linter.unusedSimpArgs false
namespace Go.Proofs.Ytfplajafekpccaa
open Go.RowKit Onair
/-- The blocks of a run of the reference's Decode: the result, the asset. -/
structure RSt (W : World) (r k : Nat) (i : Int) (v : Value) (l : List Pic) (w : World) : Prop where
  hr : W.heap.size = r
  hk : r < k
  b1 : Blk w r 24 [.int .i64 0, .slice none 0 0]
  b4 : Blk w k 24 [.int .i64 i, v]
  own : w.ownsRow (k + 1) 42 3 v l.length (pcells l)
  bel : Below W.heap.size W w
theorem RSt.below {W : World} {r k : Nat} {i : Int} {v : Value} {l : List Pic} {w w' : World} (h : RSt W r k i v l w) (hb : Below w.heap.size w w') : RSt W r k i v l w' :=
  ⟨h.hr, h.hk, h.b1.kept (hb.block _ h.b1.lt), h.b4.kept (hb.block _ h.b4.lt), ownsRow_kept' h.own (fun g hg => hb.block g (h.own.lt g hg).2), bstep h.bel hb⟩
theorem RSt.app {W : World} {r k : Nat} {i : Int} {v v' : Value} {l l' : List Pic} {w w' : World} (h : RSt W r k i v l w) (ho : w'.ownsRow (k + 1) 42 3 v' l'.length (pcells l')) (hf : Fr (fun g => v.ownBlock = some g) w w') :
    Blk w' k 24 [.int .i64 i, v] ∧ RSt W r k i v' l' (w'.setCell ⟨k, 1, none⟩ v') := by
  have hv : ∀ g, v.ownBlock = some g → k + 1 ≤ g := fun g hg => own_ge h.own g hg
  have hk := h.hk
  have hr := h.hr
  have b4 : Blk w' k 24 [.int .i64 i, v] := h.b4.kept (hf.block _ h.b4.lt (fun e => by have := hv _ e; omega))
  refine ⟨b4, h.hr, h.hk, ?_, b4.set 1 v', ?_, ?_⟩
  · exact (h.b1.kept (hf.block _ h.b1.lt (fun e => by have := hv _ e; omega))).other _ (by show k ≠ r; omega) _
  · exact ownsRow_kept' ho (fun g hg => Below.heap_setCell _ _ _ _ (by show g ≠ k; have := own_ge ho g hg; omega))
  · exact (h.bel.trans (hf.below W.heap.size (by have := h.bel.size; omega) (fun g hg => by have := hv g hg; omega))).setCell (p := ⟨k, 1, none⟩) (by show _ ≤ k; omega) _
/-- What a store of the empty result needs and leaves. -/
theorem leaves {w : World} {r : Nat} (h : Blk w r 24 [.int .i64 0, .slice none 0 0]) :
    w.cell? ⟨r, 0, none⟩ = some (.int .i64 0) ∧ w.frozen? ⟨r, 0, none⟩ = false ∧ (w.setCell ⟨r, 0, none⟩ (.int .i64 0)).cell? ⟨r, 1, none⟩ = some (.slice none 0 0) ∧ (w.setCell ⟨r, 0, none⟩ (.int .i64 0)).frozen? ⟨r, 1, none⟩ = false ∧
      ((w.setCell ⟨r, 0, none⟩ (.int .i64 0)).setCell ⟨r, 1, none⟩ (.slice none 0 0)).cell? ⟨r, 0, none⟩ = some (.int .i64 0) ∧ ((w.setCell ⟨r, 0, none⟩ (.int .i64 0)).setCell ⟨r, 1, none⟩ (.slice none 0 0)).cell? ⟨r, 1, none⟩ = some (.slice none 0 0) :=
  ⟨h.cell 0, h.frozen 0, (h.set 0 (.int .i64 0)).cell 1, (h.set 0 (.int .i64 0)).frozen 1, ((h.set 0 (.int .i64 0)).set 1 (.slice none 0 0)).cell 0, ((h.set 0 (.int .i64 0)).set 1 (.slice none 0 0)).cell 1⟩
theorem two_set {W w : World} {r : Nat} (hr : W.heap.size = r) (h : Below W.heap.size W w) (a b : Value) : Below W.heap.size W ((w.setCell ⟨r, 0, none⟩ a).setCell ⟨r, 1, none⟩ b) :=
  (h.setCell (p := ⟨r, 0, none⟩) (Nat.le_of_eq hr) _).setCell (p := ⟨r, 1, none⟩) (Nat.le_of_eq hr) _
set_option maxHeartbeats 16000000 in
set_option maxRecDepth 100000 in
theorem refDecode_any (s : ByteArray) (W : World) (hs : s.size ≤ maxLen) :
    Calls Try.prog 27 #[.string s] W (DecPost W (decR s.data.toList)) := by
  obtain ⟨D, hD⟩ : ∃ D, decR s.data.toList = D := ⟨_, rfl⟩
  rw [hD]
  have HD := Lib.hid hD
  clear hD
  obtain ⟨r, hr⟩ : ∃ r, W.heap.size = r := ⟨_, rfl⟩
  have HR := Lib.hid hr
  have HK0 : Hid (Blk (W.alloc (.cells #[.int .i64 0, .slice none 0 0] 24)) r 24 [.int .i64 0, .slice none 0 0]) := blk_at (l := [.int .i64 0, .slice none 0 0]) hr
  have HB0 : Hid (Below W.heap.size W (W.alloc (.cells #[.int .i64 0, .slice none 0 0] 24))) := (Below.refl _ W).alloc (Nat.le_refl _) _
  have HSL : Hid (s.data.toList.length = s.size) := blen s
  obtain ⟨S, hS⟩ : ∃ S, s.data.toList = S := ⟨_, rfl⟩
  rw [hS] at HD HSL
  have HSS := Lib.hid hS
  clear hr hS
  have HS := Lib.hid hs
  unfold maxLen at hs
  obtain ⟨⟨x0, a0, z0⟩, hq0⟩ : ∃ q, intR S 0 = q := ⟨_, rfl⟩
  have HQ0 := Lib.hid hq0
  clear hq0
  go_enter Try.func27, Try.ntmps27
  go_wp2_with fail
  rw [HR.out]
  refine (refInt_any s 0 _ HS.out).mono ?_
  rw [HSS.out, HQ0.out]
  dsimp only
  rintro e w1 ⟨rfl, hb1⟩
  have HK1 := Lib.hid (HK0.out.kept (hb1.block _ HK0.out.lt))
  have HB1 := Lib.hid (bstep HB0.out hb1)
  clear hb1 HK0 HB0
  by_cases e0 : z0 = 0
  · subst e0
    obtain ⟨⟨n, a1, z1⟩, hq1⟩ : ∃ q, intR S a0 = q := ⟨_, rfl⟩
    have HQ1 := Lib.hid hq1
    clear hq1
    go_wp2_with fail
    refine (refInt_any s a0 _ HS.out).mono ?_
    rw [HSS.out, HQ1.out]
    dsimp only
    rintro e w2 ⟨rfl, hb2⟩
    have HK2 := Lib.hid (HK1.out.kept (hb2.block _ HK1.out.lt))
    have HB2 := Lib.hid (bstep HB1.out hb2)
    clear hb2 HK1 HB1
    by_cases e1 : z1 = 0
    · subst e1
      by_cases e2 : 1 ≤ n ∧ n ≤ 2000
      · obtain ⟨m, rfl⟩ : ∃ m : Nat, n = m := ⟨n.toNat, by omega⟩
        obtain ⟨e2, e3⟩ := e2
        have hm1 : ¬ (m : Int) < 1 := by omega
        have hm2 : ¬ (2000 : Int) < m := by omega
        have HT : Hid (D = decT S x0 m a1 []) := by
          show _ = _
          rw [← HD.out, decR_go (y := 0) (z := 0) HQ0.out HQ1.out e2 e3, Int.toNat_natCast]
        obtain ⟨k, hk⟩ : ∃ k, w2.heap.size = k := ⟨_, rfl⟩
        have h3 : RSt W r k x0 (.slice none 0 0) [] (w2.alloc (.cells #[.int .i64 x0, .slice none 0 0] 24)) := ⟨HR.out, by have := HK2.out.lt; omega, HK2.out.alloc _, blk_at (l := [.int .i64 x0, .slice none 0 0]) hk, World.ownsRow_nil _ _ _ _, HB2.out.alloc HB2.out.size _⟩
        have H3 := Lib.hid h3
        have HK := Lib.hid hk
        clear h3 hk HK2 HB2
        go_wp2_with fail
        rw [HK.out]
        clear hm1 hm2
        go_loopw [5, 9] (fun u x wr => ∃ (j : Nat) (a : Int) (l : List Pic) (v : Value), j ≤ m ∧ x = .int .i64 j ∧ u = .int .i64 a ∧ Hid (D = decT S x0 (m - j) a l) ∧ Hid (l.length = j) ∧ Hid (∀ p ∈ l, POk p) ∧ Hid (RSt W r k x0 v l wr)) (fun _ x _ => m - (intOf x).toNat)
        case atStart => exact ⟨0, a1, [], _, Nat.zero_le _, rfl, rfl, HT, rfl, fun p hp => absurd hp (by simp), H3⟩
        case round =>
          clear HT H3 HQ1 HQ0
          obtain ⟨j, a, l, v, hj, rfl, rfl, HT, HL, HP, HM⟩ := hrel
          obtain ⟨oL, cL, rfl⟩ := own_slice HM.out.own
          by_cases hjm : j = m
          · have q1 : ¬ (j : Int) < m := by omega
            have HT0 : Hid (D = decT S x0 0 a l) := by
              have := HT.out
              rw [hjm, Nat.sub_self] at this
              exact this
            clear HT hjm
            by_cases ea : a = (s.size : Int)
            · have q2 : (a != (s.size : Int)) = false := by rw [ea]; simp
              subst ea
              have c0 := HM.out.b4.cell 0
              have c1 := HM.out.b4.cell 1
              simp only [List.getElem?_cons_zero, List.getElem?_cons_succ] at c0 c1
              have hll : l.length ≤ 2000 := by rw [HL.out]; omega
              have HV := Lib.hid (fun w h => refValid_any x0 oL cL l w (by unfold maxLen; omega) HP.out h)
              go_wp2_with fail
              refine (HV.out wr (own_rdp HM.out.own).2).mono ?_
              rintro e w3 ⟨rfl, hb3⟩
              have H3 := Lib.hid (HM.out.below hb3)
              clear hb3 c0 c1 HM HV
              cases hv : validA x0 l
              · skip
                have HE : Hid (D = .inl 120) := by
                  show _ = _
                  rw [HT0.out]
                  unfold decT
                  simp only [picsR]
                  rw [if_neg (by rw [HSL.out]; simp), if_pos hv]
                obtain ⟨l0, l1, l2, l3, l4, l5⟩ := leaves H3.out.b1
                go_wp2_with fail
                refine bodyPost_ret (v := .tuple #[.agg #[.int .i64 0, .slice none 0 0], .int .i64 120]) (by simp [results, Try.results27, go_sem, l4, l5]) rfl ?_
                rw [HE.out]
                exact ⟨rfl, two_set HR.out H3.out.bel _ _⟩
              · have HE : Hid (D = .inr (x0, l)) := by
                  show _ = _
                  rw [HT0.out]
                  unfold decT
                  simp only [picsR]
                  rw [if_neg (by rw [HSL.out]; simp), if_neg (by rw [hv]; simp)]
                have c0 := H3.out.b4.cell 0
                have c1 := H3.out.b4.cell 1
                have d0 := H3.out.b1.cell 0
                have f0 := H3.out.b1.frozen 0
                have d1 := (H3.out.b1.set 0 (.int .i64 x0)).cell 1
                have f1 := (H3.out.b1.set 0 (.int .i64 x0)).frozen 1
                have k2 := (H3.out.b1.set 0 (.int .i64 x0)).set 1 (.slice oL l.length cL)
                have g0 := k2.cell 0
                have g1 := k2.cell 1
                simp only [List.getElem?_cons_zero, List.getElem?_cons_succ, List.set_cons_zero, List.set_cons_succ] at c0 c1 d0 d1 g0 g1
                have HRD : Hid (RdP ((w3.setCell ⟨r, 0, none⟩ (.int .i64 x0)).setCell ⟨r, 1, none⟩ (.slice oL l.length cL)) oL l) := by
                  refine (own_rdp (B := k + 1) (n := l.length) (cap := cL) (ownsRow_kept' H3.out.own (fun g hg => ?_))).2
                  have h1 := own_ge H3.out.own g hg
                  have h2 := H3.out.hk
                  rw [Below.heap_setCell _ _ _ _ (by show g ≠ r; omega), Below.heap_setCell _ _ _ _ (by show g ≠ r; omega)]
                clear k2 hv
                go_wp2_with fail
                refine bodyPost_ret (v := .tuple #[.agg #[.int .i64 x0, .slice oL l.length cL], .int .i64 0]) (by simp [results, Try.results27, go_sem, g0, g1]) rfl ?_
                rw [HE.out]
                exact ⟨oL, cL, rfl, HRD.out, two_set HR.out H3.out.bel _ _⟩
            · have q2 : (a != (s.size : Int)) = true := by rw [bne_iff_ne]; exact ea
              have HE : Hid (D = .inl 10) := by
                show _ = _
                rw [HT0.out]
                unfold decT
                simp only [picsR]
                rw [if_pos (by rw [HSL.out]; exact ea)]
              obtain ⟨l0, l1, l2, l3, l4, l5⟩ := leaves HM.out.b1
              go_wp2_with fail
              refine bodyPost_ret (v := .tuple #[.agg #[.int .i64 0, .slice none 0 0], .int .i64 10]) (by simp [results, Try.results27, go_sem, l4, l5]) rfl ?_
              rw [HE.out]
              exact ⟨rfl, two_set HR.out HM.out.bel _ _⟩
          · have q1 : (j : Int) < m := by omega
            obtain ⟨kk, hkk⟩ : ∃ kk, m - j = kk + 1 := ⟨m - j - 1, by omega⟩
            rw [hkk] at HT
            have HKJ : Hid (m - (j + 1) = kk) := by show _ = _; omega
            clear hkk hjm
            obtain ⟨⟨x, b, z⟩, hq⟩ : ∃ q, intR S a = q := ⟨_, rfl⟩
            have HQ := Lib.hid hq
            clear hq
            go_wp2_with fail
            refine (refInt_any s a _ HS.out).mono ?_
            rw [HSS.out, HQ.out]
            dsimp only
            rintro e w4 ⟨rfl, hb4⟩
            have H4 := Lib.hid (HM.out.below hb4)
            clear hb4 HM
            by_cases ez : z = 0
            · subst ez
              by_cases hx : x = 0 ∨ x = 1
              · obtain ⟨⟨y, b2, z2⟩, hq2⟩ : ∃ q, intR S b = q := ⟨_, rfl⟩
                have HQ2 := Lib.hid hq2
                obtain ⟨⟨u, b3, z3⟩, hq3⟩ : ∃ q, strR S b2 = q := ⟨_, rfl⟩
                have HQ3 := Lib.hid hq3
                have HX := Lib.hid hx
                clear hq2 hq3
                obtain ⟨kx, hkx⟩ : ∃ kx, decide (x = 1) = kx := ⟨_, rfl⟩
                have HKX := Lib.hid hkx
                have hk01 : (x = 0 ∧ kx = false) ∨ (x = 1 ∧ kx = true) := by
                  rcases hx with h | h
                  · left; refine ⟨h, ?_⟩; rw [← hkx, h]; rfl
                  · right; refine ⟨h, ?_⟩; rw [← hkx, h]; rfl
                clear hkx hx HKX HX
                rcases hk01 with ⟨rfl, rfl⟩ | ⟨rfl, rfl⟩
                · skip
                  have HNX : Hid (¬ ((intR S a).1 ≠ 0 ∧ (intR S a).1 ≠ 1)) := by
                    show ¬ _
                    rw [HQ.out]
                    dsimp only
                    omega
                  go_wp2_with fail
                  refine (refInt_any s b _ HS.out).mono ?_
                  rw [HSS.out, HQ2.out]
                  dsimp only
                  rintro e w5 ⟨rfl, hb5⟩
                  have H5 := Lib.hid (H4.out.below hb5)
                  clear hb5
                  by_cases ez2 : z2 = 0
                  · subst ez2
                    go_wp2_with fail
                    refine (refString_any s b2 _ HS.out).mono ?_
                    rw [HSS.out, HQ3.out]
                    dsimp only
                    rintro e w6 ⟨rfl, hb6⟩
                    have H6 := Lib.hid (H5.out.below hb6)
                    clear hb6
                    by_cases ez3 : z3 = 0
                    · subst ez3
                      have HPO : Hid (POk ⟨false, ⟨u.toArray⟩, y⟩) := POk_read false (by rw [HSL.out]; exact HS.out) HQ2.out HQ3.out
                      have HTN : Hid (D = decT S x0 (m - (j + 1)) b3 (l ++ [⟨false, ⟨u.toArray⟩, y⟩])) := by
                        show _ = _
                        rw [HKJ.out]
                        exact (HT.out).trans (decT_ok (picR_ok HQ.out (by decide) HQ2.out HQ3.out))
                      obtain ⟨oM, cM, w7, hrun, ho7, hf7⟩ := app_picP HPO.out w6 (k + 1) _ l H6.out.own (by rw [HL.out]; omega) (by have := H6.out.b4.lt; omega) 22
                      obtain ⟨hk7, h7⟩ := H6.out.app ho7 hf7
                      have H7 : Hid (RSt W r k x0 (.slice oM (l.length + 1) cM) (l ++ [⟨false, ⟨u.toArray⟩, y⟩]) (w7.setCell ⟨k, 1, none⟩ (.slice oM (l.length + 1) cM))) := h7
                      have c1 := H6.out.b4.cell 1
                      have d1 := hk7.cell 1
                      have f1 := hk7.frozen 1
                      simp only [List.getElem?_cons_zero, List.getElem?_cons_succ] at c1 d1
                      have HL7 := Lib.hid (len_snoc HPO.out HL.out)
                      have HP7 := Lib.hid (ok_snoc HPO.out HP.out)
                      clear hk7 h7 ho7 hf7 HT
                      dsimp only at hrun
                      go_wp2_with (at_builtin; refine wpList_append_run _ rfl _ _ 22 rfl _ _ _ _ rfl rfl hrun ?_)
                      go_roundw
                      case rel => exact ⟨j + 1, b3, _, _, by omega, by go_num, rfl, HTN, HL7, HP7, H7⟩
                      case measure => simp [intOf]; omega
                    · skip
                      have HE : Hid (D = .inl 10) := by
                        show _ = _
                        rw [HT.out]
                        exact decT_bad (picR_4 (by rw [HQ.out]) HNX.out (by rw [HQ.out, HQ2.out]) (by rw [HQ.out]; dsimp only; rw [HQ2.out]; dsimp only; rw [HQ3.out]; exact ez3))
                      obtain ⟨l0, l1, l2, l3, l4, l5⟩ := leaves H6.out.b1
                      go_wp2_with fail
                      refine bodyPost_ret (v := .tuple #[.agg #[.int .i64 0, .slice none 0 0], .int .i64 10]) (by simp [results, Try.results27, go_sem, l4, l5]) rfl ?_
                      rw [HE.out]
                      exact ⟨rfl, two_set HR.out H6.out.bel _ _⟩
                  · skip
                    have HE : Hid (D = .inl 10) := by
                      show _ = _
                      rw [HT.out]
                      exact decT_bad (picR_3 (by rw [HQ.out]) HNX.out (by rw [HQ.out]; dsimp only; rw [HQ2.out]; exact ez2))
                    obtain ⟨l0, l1, l2, l3, l4, l5⟩ := leaves H5.out.b1
                    go_wp2_with fail
                    refine bodyPost_ret (v := .tuple #[.agg #[.int .i64 0, .slice none 0 0], .int .i64 10]) (by simp [results, Try.results27, go_sem, l4, l5]) rfl ?_
                    rw [HE.out]
                    exact ⟨rfl, two_set HR.out H5.out.bel _ _⟩
                · skip
                  have HNX : Hid (¬ ((intR S a).1 ≠ 0 ∧ (intR S a).1 ≠ 1)) := by
                    show ¬ _
                    rw [HQ.out]
                    dsimp only
                    omega
                  go_wp2_with fail
                  refine (refInt_any s b _ HS.out).mono ?_
                  rw [HSS.out, HQ2.out]
                  dsimp only
                  rintro e w5 ⟨rfl, hb5⟩
                  have H5 := Lib.hid (H4.out.below hb5)
                  clear hb5
                  by_cases ez2 : z2 = 0
                  · subst ez2
                    go_wp2_with fail
                    refine (refString_any s b2 _ HS.out).mono ?_
                    rw [HSS.out, HQ3.out]
                    dsimp only
                    rintro e w6 ⟨rfl, hb6⟩
                    have H6 := Lib.hid (H5.out.below hb6)
                    clear hb6
                    by_cases ez3 : z3 = 0
                    · subst ez3
                      have HPO : Hid (POk ⟨true, ⟨u.toArray⟩, y⟩) := POk_read true (by rw [HSL.out]; exact HS.out) HQ2.out HQ3.out
                      have HTN : Hid (D = decT S x0 (m - (j + 1)) b3 (l ++ [⟨true, ⟨u.toArray⟩, y⟩])) := by
                        show _ = _
                        rw [HKJ.out]
                        exact (HT.out).trans (decT_ok (picR_ok HQ.out (by decide) HQ2.out HQ3.out))
                      obtain ⟨oM, cM, w7, hrun, ho7, hf7⟩ := app_picP HPO.out w6 (k + 1) _ l H6.out.own (by rw [HL.out]; omega) (by have := H6.out.b4.lt; omega) 22
                      obtain ⟨hk7, h7⟩ := H6.out.app ho7 hf7
                      have H7 : Hid (RSt W r k x0 (.slice oM (l.length + 1) cM) (l ++ [⟨true, ⟨u.toArray⟩, y⟩]) (w7.setCell ⟨k, 1, none⟩ (.slice oM (l.length + 1) cM))) := h7
                      have c1 := H6.out.b4.cell 1
                      have d1 := hk7.cell 1
                      have f1 := hk7.frozen 1
                      simp only [List.getElem?_cons_zero, List.getElem?_cons_succ] at c1 d1
                      have HL7 := Lib.hid (len_snoc HPO.out HL.out)
                      have HP7 := Lib.hid (ok_snoc HPO.out HP.out)
                      clear hk7 h7 ho7 hf7 HT
                      dsimp only at hrun
                      go_wp2_with (at_builtin; refine wpList_append_run _ rfl _ _ 22 rfl _ _ _ _ rfl rfl hrun ?_)
                      go_roundw
                      case rel => exact ⟨j + 1, b3, _, _, by omega, by go_num, rfl, HTN, HL7, HP7, H7⟩
                      case measure => simp [intOf]; omega
                    · skip
                      have HE : Hid (D = .inl 10) := by
                        show _ = _
                        rw [HT.out]
                        exact decT_bad (picR_4 (by rw [HQ.out]) HNX.out (by rw [HQ.out, HQ2.out]) (by rw [HQ.out]; dsimp only; rw [HQ2.out]; dsimp only; rw [HQ3.out]; exact ez3))
                      obtain ⟨l0, l1, l2, l3, l4, l5⟩ := leaves H6.out.b1
                      go_wp2_with fail
                      refine bodyPost_ret (v := .tuple #[.agg #[.int .i64 0, .slice none 0 0], .int .i64 10]) (by simp [results, Try.results27, go_sem, l4, l5]) rfl ?_
                      rw [HE.out]
                      exact ⟨rfl, two_set HR.out H6.out.bel _ _⟩
                  · skip
                    have HE : Hid (D = .inl 10) := by
                      show _ = _
                      rw [HT.out]
                      exact decT_bad (picR_3 (by rw [HQ.out]) HNX.out (by rw [HQ.out]; dsimp only; rw [HQ2.out]; exact ez2))
                    obtain ⟨l0, l1, l2, l3, l4, l5⟩ := leaves H5.out.b1
                    go_wp2_with fail
                    refine bodyPost_ret (v := .tuple #[.agg #[.int .i64 0, .slice none 0 0], .int .i64 10]) (by simp [results, Try.results27, go_sem, l4, l5]) rfl ?_
                    rw [HE.out]
                    exact ⟨rfl, two_set HR.out H5.out.bel _ _⟩
              · have hx0 : (x != 0) = true := by rw [bne_iff_ne]; omega
                have hx1 : (x != 1) = true := by rw [bne_iff_ne]; omega
                have HE : Hid (D = .inl 120) := by
                  show _ = _
                  rw [HT.out]
                  exact decT_bad (picR_2 (by rw [HQ.out]) (by rw [HQ.out]; show x ≠ 0 ∧ x ≠ 1; omega))
                obtain ⟨l0, l1, l2, l3, l4, l5⟩ := leaves H4.out.b1
                go_wp2_with fail
                refine bodyPost_ret (v := .tuple #[.agg #[.int .i64 0, .slice none 0 0], .int .i64 120]) (by simp [results, Try.results27, go_sem, l4, l5]) rfl ?_
                rw [HE.out]
                exact ⟨rfl, two_set HR.out H4.out.bel _ _⟩
            · skip
              have HE : Hid (D = .inl 10) := by
                show _ = _
                rw [HT.out]
                exact decT_bad (picR_1 (by rw [HQ.out]; exact ez))
              obtain ⟨l0, l1, l2, l3, l4, l5⟩ := leaves H4.out.b1
              go_wp2_with fail
              refine bodyPost_ret (v := .tuple #[.agg #[.int .i64 0, .slice none 0 0], .int .i64 10]) (by simp [results, Try.results27, go_sem, l4, l5]) rfl ?_
              rw [HE.out]
              exact ⟨rfl, two_set HR.out H4.out.bel _ _⟩
      · skip
        have HE2 : Hid (D = .inl 120) := by
          show _ = _
          rw [← HD.out]
          exact decR_3 (by rw [HQ0.out]) (by rw [HQ0.out]; dsimp only; rw [HQ1.out]) (by rw [HQ0.out]; dsimp only; rw [HQ1.out]; dsimp only; omega)
        rcases (show n < 1 ∨ (¬ n < 1 ∧ 2000 < n) from by omega) with q | ⟨q, q'⟩
        all_goals
          clear e2
          have HE : Hid (D = .inl 120) := by
            show _ = _
            exact HE2.out
          obtain ⟨l0, l1, l2, l3, l4, l5⟩ := leaves HK2.out
          go_wp2_with fail
          refine bodyPost_ret (v := .tuple #[.agg #[.int .i64 0, .slice none 0 0], .int .i64 120]) (by simp [results, Try.results27, go_sem, l4, l5]) rfl ?_
          rw [HE.out]
          exact ⟨rfl, two_set HR.out HB2.out _ _⟩
    · skip
      have HE : Hid (D = .inl 10) := by
        show _ = _
        rw [← HD.out]
        exact decR_2 (by rw [HQ0.out]) (by rw [HQ0.out]; dsimp only; rw [HQ1.out]; exact e1)
      obtain ⟨l0, l1, l2, l3, l4, l5⟩ := leaves HK2.out
      go_wp2_with fail
      refine bodyPost_ret (v := .tuple #[.agg #[.int .i64 0, .slice none 0 0], .int .i64 10]) (by simp [results, Try.results27, go_sem, l4, l5]) rfl ?_
      rw [HE.out]
      exact ⟨rfl, two_set HR.out HB2.out _ _⟩
  · skip
    have HE : Hid (D = .inl 10) := by
      show _ = _
      rw [← HD.out]
      exact decR_1 (by rw [HQ0.out]; exact e0)
    obtain ⟨l0, l1, l2, l3, l4, l5⟩ := leaves HK1.out
    go_wp2_with fail
    refine bodyPost_ret (v := .tuple #[.agg #[.int .i64 0, .slice none 0 0], .int .i64 10]) (by simp [results, Try.results27, go_sem, l4, l5]) rfl ?_
    rw [HE.out]
    exact ⟨rfl, two_set HR.out HB1.out _ _⟩
end Go.Proofs.Ytfplajafekpccaa
