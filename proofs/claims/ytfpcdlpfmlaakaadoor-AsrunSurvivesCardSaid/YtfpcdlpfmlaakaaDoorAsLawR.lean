/-
  The walk of the law AsrunReopens.
-/
import Derived.Test.YtfpcdlpfmlaakaaDoorAsRg
import Derived.Test.YtfpcdlpfmlaakaaDoorAsOpen
set_option linter.unusedVariables false
set_option linter.unusedSimpArgs false
namespace Go.Proofs.YtfpcdlpfmlaakaaDoor
open Go.RowKit Onair
attribute [local go_sem ↓] Go.wp_at_zero Go.wp_at_succ
theorem Cln.step {D : DS} {R : List Rec} (h : Cln D R) (l : List Rec) (hv : ∀ r ∈ l, validR r = true) :
    ∃ e D' R', appC ⟨D, R, false⟩ l = (e, ⟨D', R', false⟩) ∧ Cln D' R' ∧ D'.vis.length = D.vis.length ∧ R'.length ≤ R.length + l.length := by
  rcases h.app l with ⟨_, h1⟩ | ⟨_, _, h1⟩ | ⟨_, _, D1, h1, h2, h3⟩
  · exact ⟨_, _, _, h1, h, rfl, by omega⟩
  · exact ⟨_, _, _, h1, h, rfl, by omega⟩
  · exact ⟨_, _, _, h1, h2, h3, by rw [List.length_append]; omega⟩
theorem RdG.below {W W' : World} {oa : Option Addr} {G : List Gp} (h : RdG W oa G) (hb : Below W.heap.size W W') : RdG W' oa G := by
  rcases h with h | ⟨b, o, e, hlt, hc⟩
  · exact .inl h
  · exact .inr ⟨b, o, e, Nat.lt_of_lt_of_le hlt hb.size, fun i g hg => ⟨(hb.cell (p := ⟨b, o + i, none⟩) hlt).trans (hc i g hg).1, (hc i g hg).2.below hb⟩⟩
set_option maxHeartbeats 8000000 in
set_option maxRecDepth 100000 in
theorem walkReopens (w : World) (m : Int) (oa : Option Addr) (c : Nat) (GS : List Gp) (m0 : -9223372036854775808 ≤ m) (m1 : m ≤ 9223372036854775807) (hlc : GS.length ≤ c) (hcm : c ≤ maxLen) (hI : ∀ g ∈ GS, GpI g) (hr : RdG w oa GS) (ht : TabAt w) :
    Calls Tryd.prog 8 #[.int .i64 m, .slice oa GS.length c] w fun e w' => e = .returned (.bool true) ∧ Below w.heap.size w w' := by
  unfold maxLen at hcm
  obtain ⟨N, hN⟩ : ∃ N, w.heap.size = N := ⟨_, rfl⟩
  have hg := ht.lt
  rw [hN] at hg
  have HTB : Hid (∀ W, Below N w W → TabAt W) := fun W hW => ht.below (by rw [hN]; exact hW)
  have HG := Lib.hid hg
  have HSN := Lib.hid (sane_any w ht ht.lt)
  have HNN := Lib.hid hN
  have HR := Lib.hid hr
  have HI := Lib.hid hI
  obtain ⟨n, hn⟩ : ∃ n, GS.length = n := ⟨_, rfl⟩
  have HGN := Lib.hid hn
  have HSZ := Lib.hid (fun W => lawSize_any m W m0 m1)
  have hsz := sizeN_eq m
  obtain ⟨z, hz⟩ : ∃ z, sizeN m = z := ⟨_, rfl⟩
  rw [hz] at HSZ hsz
  obtain ⟨hz0, hz1, hz2⟩ := hsz
  clear hz0
  rw [hn] at hlc ⊢
  clear hr hI hn ht hg hN hz
  go_enter Tryd.func8, Tryd.ntmps8
  go_wp2_with fail
  refine HSN.out.mono ?_
  rintro e w1 ⟨rfl, hb1⟩
  have HB1 : Hid (Below N w w1) := by rw [← HNN.out]; exact hb1
  clear hb1 HSN
  go_wp2_with fail
  refine (HSZ.out _).mono ?_
  rintro e w' ⟨rfl, rfl⟩
  go_wp2_with fail
  refine (new_x z w1 N (by have := HB1.out.size; rw [HNN.out] at this; exact this) hz1 (by omega)).mono ?_
  rintro e w2 ⟨b, F, rfl, hd, hb, hF⟩
  have HD := Lib.hid hd
  have HB2 : Hid (Below N w w2) := HB1.out.trans (hb.mono (by have := HB1.out.size; rw [HNN.out] at this; exact this))
  clear hd hb hF HB1
  go_wp2_with fail
  refine (open_x w2 N b F (newD z) (HTB.out _ HB2.out) (Nat.zero_le _) (Nat.zero_le _) HD.out (Cln.new z).openE).mono ?_
  rw [(Cln.new z).openD, (Cln.new z).openR]
  rintro e w3 ⟨bl, F1, G1, rfl, hlx, hfr, hG, hF1⟩
  have HB3 : Hid (Below N w w3) := HB2.out.trans (HD.out.below' hfr)
  have HX := Lib.hid hlx
  clear hlx hfr hG hF1 HD HB2
  go_wp2_with fail
  go_loopw [10] (fun i wr => ∃ (k : Nat) (R : List Rec) (D : DS) (F G : Nat → Prop), k ≤ n ∧ k ≤ 8 ∧ i = .int .i64 k ∧ Hid (LX wr N b bl F G ⟨D, R, false⟩) ∧ Hid (Cln D R) ∧ D.vis.length = z ∧ R.length ≤ 6 * k ∧ Hid (Below N w wr)) (fun i _ => n - (intOf i).toNat)
  case atStart => exact ⟨0, [], newD z, F1, G1, Nat.zero_le _, Nat.zero_le _, rfl, HX, Cln.new z, zeroL_len z, Nat.zero_le _, HB3⟩
  case round =>
    obtain ⟨k, R, D, Fk, Gk, hkn, hk8, rfl, HXk, HCk, hDz, hRk, HBk⟩ := hrel
    have HDZ := Lib.hid hDz
    clear hDz HX HB3
    by_cases h : k < n ∧ k < 8
    · obtain ⟨h1, h2⟩ := h
      have q1 : (k : Int) < (n : Int) := by omega
      have q2 : (k : Int) < 8 := by omega
      have q3 : (0 : Int) ≤ (k : Int) := by omega
      obtain ⟨g, hg⟩ : ∃ g, GS[k]? = some g := ⟨GS[k]'(by rw [HGN.out]; exact h1), List.getElem?_eq_getElem _⟩
      obtain ⟨b', off, rfl, hb', hc⟩ := (HR.out).resolve_left (by intro e; rw [e] at hg; simp at hg)
      obtain ⟨c0, hrq⟩ := hc k g hg
      have hgI := HI.out g (List.mem_of_getElem? hg)
      rw [← HBk.out.cell (p := ⟨b', off + k, none⟩) (by rw [← HNN.out]; exact hb')] at c0
      have hfew := few_any g.oa g.cap g.l wr (Nat.le_trans hgI.le hgI.max) hgI.ok (hrq.below (by rw [HNN.out]; exact HBk.out))
      have hlen := fewL_len g.l
      have hval := fewL_valid g.l
      obtain ⟨ga, gl, gc, e1, e2, e3⟩ : ∃ ga gl gc, g.oa = ga ∧ g.l.length = gl ∧ g.cap = gc := ⟨_, _, _, rfl, rfl, rfl⟩
      obtain ⟨L, hL⟩ : ∃ L, fewL g.l = L := ⟨_, rfl⟩
      rw [e1, e2, e3, hL] at hfew
      rw [e1, e2, e3] at c0
      rw [hL] at hlen hval
      have HFW := Lib.hid hfew
      have HV := Lib.hid hval
      obtain ⟨t, ht⟩ : ∃ t, L.length = t := ⟨_, rfl⟩
      rw [ht] at hlen
      have HT := Lib.hid ht
      clear hg hc hrq hgI hfew e1 e2 e3 hL hval ht
      go_wp2_with fail
      refine HFW.out.mono ?_
      rintro e w5 ⟨ob, cb, rfl, how, hb5⟩
      obtain ⟨_, hkc, hcm5, hrd⟩ := own_rdr how
      obtain ⟨ee, D2, R2, hA, hC2, hD2, hR2⟩ := HCk.out.step L HV.out
      have HX5 : Hid (LX w5 N b bl Fk Gk ⟨D, R, false⟩) := HXk.out.below hb5
      have HB5 : Hid (Below N w w5) := HBk.out.trans (hb5.mono HXk.out.le)
      have hap := append_x L ob L.length cb w5 N b bl Fk Gk D R false rfl (by rw [HT.out]; omega) hkc hcm5 (valid_I HV.out) (by omega) hrd (HTB.out _ HB5.out) HG.out (fun _ => HCk.out.lost) (by rw [HCk.out.pend]; exact Nat.zero_le _) (by rw [HCk.out.cut]; exact Nat.zero_le _) HX5.out
      rw [hA] at hap
      have HAP := Lib.hid hap
      have HC2 := Lib.hid hC2
      have hR3 : R2.length ≤ 6 * (k + 1) := by rw [HT.out] at hR2; omega
      have hD3 : D2.vis.length = z := hD2.trans HDZ.out
      have HD3 := Lib.hid hD3
      have HR3 := Lib.hid hR3
      clear how hb5 hkc hcm5 hrd hA hC2 hD2 hR2 hap hR3 hD3 HXk HBk HFW c0 HCk HDZ
      go_wp2_with fail
      refine HAP.out.mono ?_
      rintro e w6 ⟨rfl, F6, G6, hlx, hfr, _, _⟩
      have HX6 := Lib.hid hlx
      have HB6 : Hid (Below N w w6) := HB5.out.trans (HX5.out.below' hfr)
      clear hlx hfr HAP HX5 HB5
      go_wp2_with fail
      go_roundw
      case rel => exact ⟨k + 1, R2, D2, F6, G6, by omega, by omega, by go_num, HX6, HC2, HD3.out, HR3.out, HB6⟩
      case measure => simp [intOf]; omega
    · have hR48 : R.length ≤ 48 := by omega
      obtain ⟨qE, qR, qD⟩ := cut_open HCk.out 1
      have hcd : (if D.lost then D else cutD D 1) = { D with cut := 1 } := by
        rw [if_neg (by rw [HCk.out.lost]; simp)]
        unfold cutD
        rw [if_neg (by decide), if_neg (by decide)]
        rfl
      have hcut := cut_x wr N b bl Fk Gk D R false 1 HXk.out
      rw [hcd] at hcut
      have HCUT := Lib.hid hcut
      have HQE := Lib.hid qE
      have HQR := Lib.hid qR
      have HQD := Lib.hid qD
      have HR48 := Lib.hid hR48
      clear hcut hcd qE qR qD hR48 hRk
      rcases (show (¬ (k : Int) < (n : Int)) ∨ ((k : Int) < (n : Int) ∧ ¬ (k : Int) < 8) from by omega) with h1 | ⟨h1, h2⟩
      all_goals
        clear h
        go_wp2_with fail
        refine HCUT.out.mono ?_
        rintro e w6 ⟨rfl, hlx, hfr⟩
        have HX6 := Lib.hid hlx
        have HB6 : Hid (Below N w w6) := HBk.out.trans (HXk.out.disk.below' hfr)
        clear hlx hfr HCUT HXk HBk
        have hop := open_x w6 N b Fk { D with cut := 1 } (HTB.out _ HB6.out) (by show D.pend.length ≤ _; rw [HCk.out.pend]; exact Nat.zero_le _) (by show 1 ≤ 9223372036854775807; decide) HX6.out.disk HQE.out
        rw [HQR.out, HQD.out] at hop
        have HOP := Lib.hid hop
        clear hop
        go_wp2_with fail
        refine HOP.out.mono ?_
        rintro e w7 ⟨bm, F7, G7, rfl, hly, hfr, _, hF7⟩
        have HY7 := Lib.hid hly
        have HX7 : Hid (LX w7 N b bl F7 Gk ⟨{ D with cut := 1 }, R, false⟩) := HX6.out.reopen hly.disk hfr hF7
        have HB7 : Hid (Below N w w7) := HB6.out.trans (HX6.out.disk.below' hfr)
        clear hly hfr hF7 HOP HX6 HB6
        go_wp2_with fail
        refine (records_x w7 N b bl F7 Gk _ (by show R.length ≤ _; have := HR48.out; omega) HX7.out).mono ?_
        rintro e w8 ⟨o1, k1, rfl, how1, hb8⟩
        have HO1 := Lib.hid how1
        have HX8 := Lib.hid (HX7.out.below hb8)
        have HY8 := Lib.hid (HY7.out.below hb8)
        have HB8 : Hid (Below N w w8) := HB7.out.trans (hb8.mono HX7.out.le)
        clear how1 hb8 HX7 HY7 HB7
        go_wp2_with fail
        refine (records_x w8 N b bm F7 G7 _ (by show R.length ≤ _; have := HR48.out; omega) HY8.out).mono ?_
        rintro e w9 ⟨o2, k2, rfl, how2, hb9⟩
        have hrd1 : RdR w9 o1 R := (own_rdr HO1.out).2.2.2.kept hb9
        have hrd2 : RdR w9 o2 R := (own_rdr how2).2.2.2
        have HSM := Lib.hid (same25_eq R o1 o2 R.length k1 k2 w9 rfl (by have := HR48.out; unfold maxLen; omega) hrd1 hrd2)
        have HX9 := Lib.hid (HX8.out.below hb9)
        have HY9 := Lib.hid (HY8.out.below hb9)
        have HB9 : Hid (Below N w w9) := HB8.out.trans (hb9.mono HX8.out.le)
        clear how2 hb9 hrd1 hrd2 HO1 HX8 HY8 HB8
        go_wp2_with fail
        refine HSM.out.mono ?_
        rintro e wa ⟨rfl, hba⟩
        have HXa := Lib.hid (HX9.out.below hba)
        have HYa := Lib.hid (HY9.out.below hba)
        have HBa : Hid (Below N w wa) := HB9.out.trans (hba.mono HX9.out.le)
        clear hba HSM HX9 HY9 HB9
        have HHX := Lib.hid (head_x wa N b bl F7 Gk _ HXa.out)
        have HHY := Lib.hid (head_x wa N b bm F7 G7 _ HYa.out)
        have HRX := Lib.hid (root_x wa N b bl F7 Gk _ (by show R.length ≤ _; have := HR48.out; omega) (HTB.out _ HBa.out) HXa.out)
        obtain ⟨zH, hzH⟩ : ∃ zz, headR R = zz := ⟨_, rfl⟩
        obtain ⟨zR, hzR⟩ : ∃ zz, rootL (entR R) = zz := ⟨_, rfl⟩
        obtain ⟨zE, hzE⟩ : ∃ zz : Int, ((z : Int) - ((endN R : Nat) : Int)) = zz := ⟨_, rfl⟩
        dsimp only at HHX HHY HRX
        rw [hzH] at HHX HHY
        rw [hzR] at HRX
        have HZR := Lib.hid hzR
        have HZE := Lib.hid hzE
        clear hzH hzR hzE
        go_wp2_with fail
        refine HHX.out.mono ?_
        rintro e w' ⟨rfl, rfl⟩
        go_wp2_with fail
        refine HHY.out.mono ?_
        rintro e w' ⟨rfl, rfl⟩
        clear HHX HHY
        go_wp2_with fail
        refine HRX.out.mono ?_
        rintro e wb ⟨rfl, hbb⟩
        have HXb := Lib.hid (HXa.out.below hbb)
        have HYb := Lib.hid (HYa.out.below hbb)
        have HBb : Hid (Below N w wb) := HBa.out.trans (hbb.mono HXa.out.le)
        have hry := root_x wb N b bm F7 G7 _ (by show R.length ≤ _; have := HR48.out; omega) (HTB.out _ HBb.out) HYb.out
        dsimp only at hry
        rw [HZR.out] at hry
        have HRY := Lib.hid hry
        clear hbb HRX HXa HYa HBa hry
        go_wp2_with fail
        refine HRY.out.mono ?_
        rintro e wd ⟨rfl, hbd⟩
        have HXd := Lib.hid (HXb.out.below hbd)
        have HYd := Lib.hid (HYb.out.below hbd)
        have HBd : Hid (Below N w wd) := HBb.out.trans (hbd.mono HXb.out.le)
        have hfit : endN R ≤ 4611686018427387903 := by have := HCk.out.fit; rw [HDZ.out] at this; omega
        have hmx := room_x wd N b bl F7 Gk _ hfit HXd.out
        dsimp only at hmx
        rw [HDZ.out, HZE.out] at hmx
        have HMX := Lib.hid hmx
        clear hbd HRY HXb HYb HBb hmx
        go_wp2_with fail
        refine HMX.out.mono ?_
        rintro e we ⟨rfl, hbe⟩
        have HXe := Lib.hid (HXd.out.below hbe)
        have HYe := Lib.hid (HYd.out.below hbe)
        have HBe : Hid (Below N w we) := HBd.out.trans (hbe.mono HXd.out.le)
        have hmy := room_x we N b bm F7 G7 _ hfit HYe.out
        dsimp only at hmy
        rw [HDZ.out, HZE.out] at hmy
        have HMY := Lib.hid hmy
        clear hbe HMX HXd HYd HBd hmy hfit
        go_wp2_with fail
        refine HMY.out.mono ?_
        rintro e wf ⟨rfl, hbf⟩
        have HXf := Lib.hid (HXe.out.below hbf)
        have HBf : Hid (Below N w wf) := HBe.out.trans (hbf.mono HXe.out.le)
        have hpe := pending_x wf N b bl F7 Gk _ HXf.out
        dsimp only at hpe
        rw [HCk.out.pend] at hpe
        have HPE := Lib.hid hpe
        have hct := content_x wf N b F7 _ HXf.out.disk HCk.out.lost
        dsimp only at hct
        obtain ⟨cs, hcs⟩ : ∃ cs : ByteArray, (⟨D.vis.toArray⟩ : ByteArray) = cs := ⟨_, rfl⟩
        have hcz : cs.size = z := by
          rw [← hcs, ← HDZ.out]
          exact List.size_toArray
        rw [hcs] at hct
        have HCT := Lib.hid hct
        have hczI : (cs.size : Int) = (z : Int) := by rw [hcz]
        clear hbf HMY HXe HYe HBe hpe hct hcs hcz
        go_wp2_with fail
        refine HPE.out.mono ?_
        rintro e w' ⟨rfl, rfl⟩
        go_wp2_with fail
        refine HCT.out.mono ?_
        rintro e wg ⟨rfl, hbg⟩
        have HBg : Hid (Below N w wg) := HBf.out.trans (hbg.mono HXf.out.le)
        clear hbg HPE HCT
        go_wp2_with fail
        refine (HSZ.out _).mono ?_
        rintro e w' ⟨rfl, rfl⟩
        go_wp2_with fail
        go_ret
        exact ⟨rfl, by rw [HNN.out]; exact HBg.out⟩
end Go.Proofs.YtfpcdlpfmlaakaaDoor
