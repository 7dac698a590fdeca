/-
  sane of package asrun's laws returns true.
-/
import Derived.Test.YtfpcdlpfmlaakaaGreatDoorRaD
import Derived.Test.YtfpcdlpfmlaakaaGreatDoorTk
import Derived.Test.YtfpcdlpfmlaakaaGreatDoorAsShb
import Derived.Test.YtfpcdlpfmlaakaaGreatDoorAsP
set_option linter.unusedVariables false
set_option linter.unusedSimpArgs false
namespace Go.Proofs.YtfpcdlpfmlaakaaGreatDoor
open Go.RowKit Onair
theorem mk_zero : ∃ O : Obj, (∀ w : World, (Instr.makeSlice 42 (.int .i64 32) (.int .i64 32)).run Tryz.prog w = .ok (.slice (some ⟨w.heap.size, 0, none⟩) 32 32) (w.alloc O)) ∧
    ∀ W : World, (convert 42 9 (.slice (some ⟨W.heap.size, 0, none⟩) 32 32)).run Tryz.prog (W.alloc O) = .ok (.string zero32) (W.alloc O) := by
  refine ⟨.cells (zcells 32) 5, fun w => run_make_bytes 32 (by decide) w, fun W => ?_⟩
  have h := conv_blk (Blk.new W 5 (cellsB (zeroL 32))) 0 32 32 (by rw [zeroL_len]; decide)
  exact h
/-- Records of the call's own that are there: where they lie. -/
theorem own_at {W : World} {B n cap : Nat} {oa : Option Addr} {l : List Rec} (h : W.ownsRow B 62 6 (.slice oa n cap) l.length (rcells l)) (hne : l ≠ []) :
    ∃ g, oa = some ⟨g, 0, none⟩ ∧ B ≤ g ∧ g < W.heap.size ∧ ∀ i v, (rcells l)[i]? = some v → W.cell? ⟨g, i, none⟩ = some v := by
  have h' := h
  rcases h.2 with ⟨he, h0⟩ | ⟨g, cap', cur, he, q1, q2, q3⟩
  · exact absurd (List.eq_nil_of_length_eq_zero h0) hne
  · simp at he
    obtain ⟨rfl, rfl, rfl⟩ := he
    refine ⟨g, rfl, q1, (Array.getElem?_eq_some_iff.1 q2).1, fun i v hi => ?_⟩
    have hil : i < (rcells l).length := (List.getElem?_eq_some_iff.1 hi).1
    rw [rcells_len] at hil
    rw [h'.cellAt _ hil]
    simp [hi]
theorem LX.reopen {W W' : World} {N b bl : Nat} {F F' G : Nat → Prop} {s : LS} {D' : DS} (h : LX W N b bl F G s) (hd : DX W' N b F' D') (hf : Fr F W W') (hF : ∀ k, F' k → F k ∨ W.heap.size ≤ k) : LX W' N b bl F' G ⟨D', s.R, s.br⟩ := by
  obtain ⟨bd, bv, vp, vr, ve, h1, h2, h3, h4⟩ := h.ex
  obtain ⟨q0, bd', bv', vp', q1, q2⟩ := hd
  refine ⟨⟨bd', bv', vp', vr, ve, q1, h2.fr hf (fun k hk => h.sep k ((h4 k).2 hk)), q2, h4⟩, fun k hk hk2 => ?_, q0⟩
  rcases hF k hk2 with h5 | h5
  · exact h.sep k hk h5
  · have := h.ltG k hk
    omega
theorem DX.below' {W W' : World} {N b : Nat} {F : Nat → Prop} {D : DS} (h : DX W N b F D) (hf : Fr F W W') : Below N W W' := hf.below N h.1 h.ge
theorem LX.below' {W W' : World} {N b bl : Nat} {F G : Nat → Prop} {s : LS} (h : LX W N b bl F G s) (hf : Fr (fun k => F k ∨ G k) W W') : Below N W W' := hf.below N h.le (fun k hk => hk.elim (h.geF k) (h.geG k))
theorem sa_I1 : ∀ r ∈ [saX], RecI r := by
  intro r hr
  rw [List.mem_singleton] at hr
  subst hr
  constructor <;> decide
theorem sa_I0 : ∀ r ∈ [rec0], RecI r := by
  intro r hr
  rw [List.mem_singleton] at hr
  subst hr
  constructor <;> decide
theorem sa_IY : RecI saY := by
  constructor <;> decide
theorem sa_S1 : ∀ r ∈ [(⟨0, 1, 5, 1, 7, 3⟩ : Rec)], RecS r := by
  intro r hr
  rw [List.mem_singleton] at hr
  subst hr
  constructor <;> decide
theorem sa_path : proofL (entR [saX]) 0 = [] := by
  rw [sa_ent]
  rfl
theorem sa_saltE : (saT ++ encB saX).extract 0 32 = saT := by kernel_rfl
theorem rec_own1 {W : World} {x : Rec} : RdR (W.alloc (.cells (recA x) 62)) (some ⟨W.heap.size, 0, none⟩) [x] := by
  refine .inr ⟨W.heap.size, 0, rfl, by simp, fun i v hi => ?_⟩
  rw [Nat.zero_add, (Blk.new W _ _).cell]
  simpa [rcells] using hi
/-- What is there behind the first part of sane. -/
structure SaI (N b bl : Nat) (F G : Nat → Prop) (s : LS) (w W : World) : Prop where
  lx : LX W N b bl F G s
  bel : Below N w W
  tab : TabAt W
set_option maxHeartbeats 16000000 in
set_option maxRecDepth 100000 in
theorem sane_any (w : World) (ht : TabAt w) (hg : 0 < w.heap.size) :
    Calls Tryz.prog 5 #[] w fun e w' => e = .returned (.bool true) ∧ Below w.heap.size w w' := by
  obtain ⟨N, hN⟩ : ∃ N, w.heap.size = N := ⟨_, rfl⟩
  have HN := Lib.hid hN
  have HT := Lib.hid ht
  have HG : Hid (0 < N) := hN ▸ hg
  have HTB : Hid (∀ W, Below N w W → TabAt W) := fun W hW => ht.below (by rw [hN]; exact hW)
  clear hN ht hg
  go_enter Tryz.func5, Tryz.ntmps5
  go_wp2_with fail
  refine (new_x 200 w N (by rw [HN.out]; exact Nat.le_refl _) (by decide) (by decide)).mono ?_
  rintro e w1 ⟨b, F, rfl, hd, hb, hF⟩
  rw [HN.out] at hb hF
  have HD := Lib.hid hd
  have HB1 := Lib.hid hb
  have HF := Lib.hid hF
  clear hd hb hF
  go_wp2_with fail
  refine (open_x w1 N b F (newD 200) (HTB.out _ HB1.out) (Nat.zero_le _) (Nat.zero_le _) HD.out (Cln.new 200).openE).mono ?_
  rw [(Cln.new 200).openD, (Cln.new 200).openR]
  rintro e w2 ⟨bl, F1, G1, rfl, hlx, hfr, hG, hF1⟩
  have HB2 : Hid (Below N w w2) := HB1.out.trans (HD.out.below' hfr)
  have HX := Lib.hid hlx
  have HNG : Hid (∀ k, G1 k → N ≤ k) := hlx.geG
  clear hlx hfr hG hF1 HD HF HB1
  have HRC : Hid (∀ W', Below w2.heap.size w2 W' → Calls Tryz.prog 17 #[.pointer (some ⟨bl, 0, none⟩)] W' (CloP W'.heap.size W' [])) := fun W' hW => records_x W' N b bl F1 G1 _ (Nat.zero_le _) (HX.out.below hW)
  have HHD : Hid (∀ W', Below w2.heap.size w2 W' → Calls Tryz.prog 24 #[.pointer (some ⟨bl, 0, none⟩)] W' fun e w' => e = .returned (.string zero32) ∧ W' = w') := fun W' hW => head_x W' N b bl F1 G1 _ (HX.out.below hW)
  have HRM : Hid (∀ W', Below w2.heap.size w2 W' → Calls Tryz.prog 18 #[.pointer (some ⟨bl, 0, none⟩)] W' fun e w' => e = .returned (.int .i64 200) ∧ Below W'.heap.size W' w') := fun W' hW => by
    have := room_x W' N b bl F1 G1 _ (by decide) (HX.out.below hW)
    have e1 : (((newD 200).vis.length : Int) - ((endN [] : Nat) : Int)) = 200 := by
      show (((zeroL 200).length : Int) - 0) = 200
      rw [zeroL_len]
      rfl
    dsimp only at this
    rw [e1] at this
    exact this
  go_upto_region 5 with (fail)
  go_cut [5] from 36 to 51 (fun v5 wx => v5 = .bool true ∧ Hid (Below w2.heap.size w2 wx))
  case first =>
    obtain ⟨O, MK, CV⟩ := mk_zero
    obtain ⟨Z, hZ⟩ : ∃ Z, zero32 = Z := ⟨_, rfl⟩
    rw [hZ] at HHD
    simp only [hZ] at CV
    clear hZ
    have HQ : Hid (Below w2.heap.size w2 w2.drew) := (Below.refl _ _).drew
    refine wp_region_held_drew (S := fun _ => True) (by kernel_rfl) trivial (fun hHeld => ?_)
    generalize w2.drew = z0 at HQ hHeld ⊢
    refine tk 0 (some 36) ?_
    refine rd1 1 (some 37) (fun K hK => ?_)
    go_simp
    refine (HRC.out _ HQ.out).mono ?_
    rintro e z1 ⟨oa5, cap5, rfl, _, hb5⟩
    have HQ := Lib.hid (HQ.out.trans (hb5.mono HQ.out.size))
    clear hb5
    go_simp
    refine hK.out _ _ ?_ (fun hHeld2 => ?_)
    · trivial
    clear hK K hHeld
    rename _ => hHeld
    try simp only [Act.put, List.setIfInBounds_toArray, List.set_cons_zero, List.set_cons_succ]
    refine tk 2 (some 38) ?_
    refine tk 3 (some 39) ?_
    refine tk 4 (some 40) ?_
    refine tk 5 (some 41) ?_
    refine wpAnyH_ready (rs := [6, 7]) (by kernel_rfl) (by simp) (AllReadyH.cons (o := ⟨some 42, _, _, _, _, _⟩) rfl (fun K hK => ?_) (AllReadyH.cons (o := ⟨some 43, _, _, _, _, _⟩) rfl (fun K hK => ?_) AllReadyH.nil))
    · skip
      go_simp
      refine (HHD.out _ HQ.out).mono ?_
      rintro e z ⟨rfl, rfl⟩
      go_simp
      refine hK.out _ _ ?_ (fun hHeld2 => ?_)
      · trivial
      clear hK K hHeld
      rename _ => hHeld
      try simp only [Act.put, List.setIfInBounds_toArray, List.set_cons_zero, List.set_cons_succ]
      refine rd1 7 (some 43) (fun K hK => ?_)
      have hmk := MK z1
      go_simp
      have HQ : Hid (Below w2.heap.size w2 (z1.alloc O)) := HQ.out.alloc HQ.out.size O
      refine hK.out _ _ ?_ (fun hHeld2 => ?_)
      · trivial
      clear hK K hHeld
      rename _ => hHeld
      try simp only [Act.put, List.setIfInBounds_toArray, List.set_cons_zero, List.set_cons_succ]
      clear hmk
      refine rd1 8 (some 44) (fun K hK => ?_)
      have hcv := CV z1
      go_simp
      refine hK.out _ _ ?_ (fun hHeld2 => ?_)
      · trivial
      clear hK K hHeld
      rename _ => hHeld
      try simp only [Act.put, List.setIfInBounds_toArray, List.set_cons_zero, List.set_cons_succ]
      clear hcv
      refine tk 9 (some 45) ?_
      refine tk 10 (some 46) ?_
      refine tk 11 (some 47) ?_
      refine tk 12 (some 48) ?_
      refine rd1 13 (some 49) (fun K hK => ?_)
      go_simp
      refine (HRM.out _ HQ.out).mono ?_
      rintro e z3 ⟨rfl, hb5⟩
      have HQ := Lib.hid (HQ.out.trans (hb5.mono HQ.out.size))
      clear hb5
      go_simp
      refine hK.out _ _ ?_ (fun hHeld2 => ?_)
      · trivial
      clear hK K hHeld
      rename _ => hHeld
      try simp only [Act.put, List.setIfInBounds_toArray, List.set_cons_zero, List.set_cons_succ]
      refine tk 14 (some 50) ?_
      refine tk 15 (some 51) ?_
      refine tk 16 (some 5) ?_
      refine wpAnyH_done (by kernel_rfl) ?_ _
      clear hHeld
      go_wp2_with fail
      go_meet
      exact ⟨rfl, HQ⟩
    · skip
      have hmk := MK z1
      go_simp
      have HQ : Hid (Below w2.heap.size w2 (z1.alloc O)) := HQ.out.alloc HQ.out.size O
      refine hK.out _ _ ?_ (fun hHeld2 => ?_)
      · trivial
      clear hK K hHeld
      rename _ => hHeld
      try simp only [Act.put, List.setIfInBounds_toArray, List.set_cons_zero, List.set_cons_succ]
      clear hmk
      refine wpAnyH_ready (rs := [6, 8]) (by kernel_rfl) (by simp) (AllReadyH.cons (o := ⟨some 42, _, _, _, _, _⟩) rfl (fun K hK => ?_) (AllReadyH.cons (o := ⟨some 44, _, _, _, _, _⟩) rfl (fun K hK => ?_) AllReadyH.nil))
      · skip
        go_simp
        refine (HHD.out _ HQ.out).mono ?_
        rintro e z ⟨rfl, rfl⟩
        go_simp
        refine hK.out _ _ ?_ (fun hHeld2 => ?_)
        · trivial
        clear hK K hHeld
        rename _ => hHeld
        try simp only [Act.put, List.setIfInBounds_toArray, List.set_cons_zero, List.set_cons_succ]
        refine rd1 8 (some 44) (fun K hK => ?_)
        have hcv := CV z1
        go_simp
        refine hK.out _ _ ?_ (fun hHeld2 => ?_)
        · trivial
        clear hK K hHeld
        rename _ => hHeld
        try simp only [Act.put, List.setIfInBounds_toArray, List.set_cons_zero, List.set_cons_succ]
        clear hcv
        refine tk 9 (some 45) ?_
        refine tk 10 (some 46) ?_
        refine tk 11 (some 47) ?_
        refine tk 12 (some 48) ?_
        refine rd1 13 (some 49) (fun K hK => ?_)
        go_simp
        refine (HRM.out _ HQ.out).mono ?_
        rintro e z3 ⟨rfl, hb5⟩
        have HQ := Lib.hid (HQ.out.trans (hb5.mono HQ.out.size))
        clear hb5
        go_simp
        refine hK.out _ _ ?_ (fun hHeld2 => ?_)
        · trivial
        clear hK K hHeld
        rename _ => hHeld
        try simp only [Act.put, List.setIfInBounds_toArray, List.set_cons_zero, List.set_cons_succ]
        refine tk 14 (some 50) ?_
        refine tk 15 (some 51) ?_
        refine tk 16 (some 5) ?_
        refine wpAnyH_done (by kernel_rfl) ?_ _
        clear hHeld
        go_wp2_with fail
        go_meet
        exact ⟨rfl, HQ⟩
      · skip
        have hcv := CV z1
        go_simp
        refine hK.out _ _ ?_ (fun hHeld2 => ?_)
        · trivial
        clear hK K hHeld
        rename _ => hHeld
        try simp only [Act.put, List.setIfInBounds_toArray, List.set_cons_zero, List.set_cons_succ]
        clear hcv
        refine rd1 6 (some 42) (fun K hK => ?_)
        go_simp
        refine (HHD.out _ HQ.out).mono ?_
        rintro e z ⟨rfl, rfl⟩
        go_simp
        refine hK.out _ _ ?_ (fun hHeld2 => ?_)
        · trivial
        clear hK K hHeld
        rename _ => hHeld
        try simp only [Act.put, List.setIfInBounds_toArray, List.set_cons_zero, List.set_cons_succ]
        refine tk 9 (some 45) ?_
        refine tk 10 (some 46) ?_
        refine tk 11 (some 47) ?_
        refine tk 12 (some 48) ?_
        refine rd1 13 (some 49) (fun K hK => ?_)
        go_simp
        refine (HRM.out _ HQ.out).mono ?_
        rintro e z3 ⟨rfl, hb5⟩
        have HQ := Lib.hid (HQ.out.trans (hb5.mono HQ.out.size))
        clear hb5
        go_simp
        refine hK.out _ _ ?_ (fun hHeld2 => ?_)
        · trivial
        clear hK K hHeld
        rename _ => hHeld
        try simp only [Act.put, List.setIfInBounds_toArray, List.set_cons_zero, List.set_cons_succ]
        refine tk 14 (some 50) ?_
        refine tk 15 (some 51) ?_
        refine tk 16 (some 5) ?_
        refine wpAnyH_done (by kernel_rfl) ?_ _
        clear hHeld
        go_wp2_with fail
        go_meet
        exact ⟨rfl, HQ⟩
  case rest =>
    obtain ⟨rfl, HQ⟩ := hcut
    obtain ⟨D1, hA1, hC1, hL1⟩ := sa_app1
    have HX3 : Hid (LX wc N b bl F1 G1 ⟨newD 200, [], false⟩) := HX.out.below HQ.out
    have HB3 : Hid (Below N w wc) := HB2.out.trans (HQ.out.mono HX.out.le)
    obtain ⟨w4, hw4⟩ : ∃ w4, wc.alloc (.cells #[.int .i64 0, .int .i64 0, .int .i64 0, .int .i64 1, .int .i64 0, .int .i64 0] 62) = w4 := ⟨_, rfl⟩
    have hb4 : Below wc.heap.size wc w4 := by rw [← hw4]; exact (Below.refl _ _).alloc (Nat.le_refl _) _
    have hr4 : RdR w4 (some ⟨wc.heap.size, 0, none⟩) [saX] := by rw [← hw4]; exact rec_own1 (x := saX)
    have HX4 : Hid (LX w4 N b bl F1 G1 ⟨newD 200, [], false⟩) := HX3.out.below hb4
    have HB4 : Hid (Below N w w4) := HB3.out.trans (hb4.mono HX3.out.le)
    have hap := append_x [saX] (some ⟨wc.heap.size, 0, none⟩) 1 1 w4 N b bl F1 G1 (newD 200) [] false rfl (by decide) (by decide) (by decide) sa_I1 (by decide) hr4 (HTB.out _ HB4.out) HG.out (fun _ => rfl) (Nat.zero_le _) (Nat.zero_le _) HX4.out
    rw [hA1] at hap
    have HAP := Lib.hid hap
    have HC1 := Lib.hid hC1
    have HL1 := Lib.hid hL1
    clear hap hb4 hr4 HX3 HB3 HQ HX HB2 HRC HHD HRM HNG hA1 hC1 hL1
    go_wp2_with fail
    refine HAP.out.mono ?_
    rintro e w5 ⟨rfl, F2, G2, hlx, hfr, _, _⟩
    have HB5 : Hid (Below N w w5) := HB4.out.trans (HX4.out.below' hfr)
    have HX5 := Lib.hid hlx
    clear hw4 hlx hfr HAP HX4 HB4
    obtain ⟨w6, hw6⟩ : ∃ w6, w5.alloc (.cells #[.int .i64 0, .int .i64 0, .int .i64 0, .int .i64 0, .int .i64 0, .int .i64 0] 62) = w6 := ⟨_, rfl⟩
    have hb6 : Below w5.heap.size w5 w6 := by rw [← hw6]; exact (Below.refl _ _).alloc (Nat.le_refl _) _
    have hr6 : RdR w6 (some ⟨w5.heap.size, 0, none⟩) [rec0] := by rw [← hw6]; exact rec_own1 (x := rec0)
    have HX6 : Hid (LX w6 N b bl F2 G2 ⟨D1, [saX], false⟩) := HX5.out.below hb6
    have HB6 : Hid (Below N w w6) := HB5.out.trans (hb6.mono HX5.out.le)
    have hap := append_x [rec0] (some ⟨w5.heap.size, 0, none⟩) 1 1 w6 N b bl F2 G2 D1 [saX] false rfl (by decide) (by decide) (by decide) sa_I0 (by decide) hr6 (HTB.out _ HB6.out) HG.out (fun _ => HC1.out.lost) (by rw [HC1.out.pend]; exact Nat.zero_le _) (by rw [HC1.out.cut]; exact Nat.zero_le _) HX6.out
    rw [sa_app2] at hap
    have HAP := Lib.hid hap
    clear hap hb6 hr6 HX5 HB5
    go_wp2_with fail
    refine HAP.out.mono ?_
    rintro e w7 ⟨rfl, F3, G3, hlx, hfr, _, _⟩
    have HB7 : Hid (Below N w w7) := HB6.out.trans (HX6.out.below' hfr)
    have HX7 := Lib.hid hlx
    clear hw6 hlx hfr HAP HX6 HB6
    have hpv := prove_x w7 N b bl F3 G3 ⟨D1, [saX], false⟩ 0 saX (saT ++ encB saX) (show [saX].length ≤ 900000 from by decide) (HTB.out _ HB7.out) HX7.out rfl (by rw [sa_ent]; rfl)
    dsimp only at hpv
    rw [sa_path, sa_saltE] at hpv
    obtain ⟨zT, hzT⟩ : ∃ z, saT = z := ⟨_, rfl⟩
    rw [hzT] at hpv
    have HPV := Lib.hid hpv
    have HZT := Lib.hid hzT
    clear hpv hzT
    go_wp2_with fail
    refine HPV.out.mono ?_
    rintro e w8 ⟨op, cp, he, hown, hb⟩
    dsimp only [proA, saX, List.length_nil, List.length_singleton] at he
    subst he
    have HB8 : Hid (Below w7.heap.size w7 w8) := hb
    have HOP : Hid (0 ≤ cp ∧ cp ≤ 9223372036854775807) := ⟨Nat.zero_le _, (own_rds (l := []) hown).2.2.1⟩
    have HX8 : Hid (LX w8 N b bl F3 G3 ⟨D1, [saX], false⟩) := HX7.out.below hb
    have HB8' : Hid (Below N w w8) := HB7.out.trans (hb.mono HX7.out.le)
    clear hown hb HPV HX7 HB7 HB8
    obtain ⟨M, hM⟩ : ∃ M, w8.heap.size = M := ⟨_, rfl⟩
    have HM := Lib.hid hM
    clear hM
    go_upto_region 11 with (fail)
    rw [HM.out]
    refine gen_world (fun W9 => LX W9 N b bl F3 G3 ⟨D1, [saX], false⟩ ∧ Below N w W9 ∧ Blk W9 M 65 [.int .i64 0, .int .i64 0, .int .i64 0, .int .i64 1, .int .i64 0, .int .i64 0, .int .i64 0, .int .i64 1, .string zT, .slice op 0 cp] ∧ Blk W9 (M + 1) 65 [.int .i64 0, .int .i64 0, .int .i64 0, .int .i64 1, .int .i64 1, .int .i64 0, .int .i64 0, .int .i64 1, .string zT, .slice op 0 cp] ∧ ∀ k, F3 k ∨ G3 k → k < M) ⟨?_, ?_, ?_, ?_, ?_⟩ ?_
    · exact (HX8.out.below ((Below.refl _ _).alloc (Nat.le_refl _) _)).below ((Below.refl _ _).alloc (Nat.le_refl _) _)
    · exact (HB8'.out.alloc HX8.out.le _).alloc (by rw [World.size_alloc]; have := HX8.out.le; omega) _
    · have := Blk.new w8 65 [.int .i64 0, .int .i64 0, .int .i64 0, .int .i64 1, .int .i64 0, .int .i64 0, .int .i64 0, .int .i64 1, .string zT, .slice op 0 cp]
      rw [HM.out] at this
      exact this.alloc _
    · have := Blk.new (w8.alloc (.cells #[.int .i64 0, .int .i64 0, .int .i64 0, .int .i64 1, .int .i64 0, .int .i64 0, .int .i64 0, .int .i64 1, .string zT, .slice op 0 cp] 65)) 65 [.int .i64 0, .int .i64 0, .int .i64 0, .int .i64 1, .int .i64 1, .int .i64 0, .int .i64 0, .int .i64 1, .string zT, .slice op 0 cp]
      rw [World.size_alloc, HM.out] at this
      exact this
    · rintro k (hk | hk)
      · rw [← HM.out]; exact HX8.out.ltF k hk
      · rw [← HM.out]; exact HX8.out.ltG k hk
    rintro w9 ⟨q1, q2, q3, q4, q5⟩
    have HX9 := Lib.hid q1
    have HB9 := Lib.hid q2
    have HP9 := Lib.hid q3
    have HQ9 := Lib.hid q4
    have HLT := Lib.hid q5
    clear q1 q2 q3 q4 q5 HX8 HB8' HM
    have hop := open_x w9 N b F3 D1 (HTB.out _ HB9.out) (by rw [HC1.out.pend]; exact Nat.zero_le _) (by rw [HC1.out.cut]; exact Nat.zero_le _) HX9.out.disk HC1.out.openE
    rw [HC1.out.openD, HC1.out.openR] at hop
    have HOPN := Lib.hid hop
    clear hop
    go_wp2_with fail
    refine HOPN.out.mono ?_
    rintro e wa ⟨bm, F4, G4, rfl, hlx, hfr, hGn, hF4⟩
    have HYa := Lib.hid hlx
    have HXa : Hid (LX wa N b bl F4 G3 ⟨D1, [saX], false⟩) := HX9.out.reopen hlx.disk hfr hF4
    have HPa := Lib.hid (HP9.out.kept (hfr.block M HP9.out.lt (fun h => by have := HLT.out M (.inl h); omega)))
    have HQa := Lib.hid (HQ9.out.kept (hfr.block (M + 1) HQ9.out.lt (fun h => by have := HLT.out _ (.inl h); omega)))
    have HBa : Hid (Below N w wa) := HB9.out.trans (HX9.out.disk.below' hfr)
    clear hlx hfr hGn hF4 HX9 HB9 HP9 HQ9 HOPN HLT
    -- Extend
    have hx1 := extend_any [] none 0 0 1 5 7 3 0 wa (by decide) (fun r hr => by simp at hr) (.inl rfl)
    rw [sa_ext1] at hx1
    dsimp only [List.length_nil] at hx1
    have HE1 := Lib.hid hx1
    clear hx1
    go_wp2_with fail
    -- G1
    refine HE1.out.mono ?_
    rintro e wb ⟨ol, cl, rfl, hol, hbb⟩
    have HOL := Lib.hid hol
    have HBB := Lib.hid hbb
    clear hol hbb HE1
    have hx2 := extend_any [⟨0, 1, 5, 1, 7, 3⟩] ol cl 0 1 6 7 4 0 wb (by decide) sa_S1 (own_rdr HOL.out).2.2.2
    rw [sa_ext2] at hx2
    dsimp only [List.length_singleton] at hx2
    have HE2 := Lib.hid hx2
    clear hx2
    go_wp2_with fail
    refine HE2.out.mono ?_
    rintro e wd ⟨om, cm, rfl, hom, hbd⟩
    have HOM := Lib.hid hom
    have HOL2 : Hid (wd.ownsRow wa.heap.size 62 6 (.slice ol 1 cl) 1 (rcells [⟨0, 1, 5, 1, 7, 3⟩])) := ownsRow_keptF HOL.out (fun k e => hbd.block k (own_lt HOL.out k e))
    have HBD := Lib.hid (HBB.out.trans (hbd.mono HBB.out.size))
    clear hom hbd HE2 HOL HBB
    have hx3 := extend_any [⟨0, 1, 5, 1, 7, 3⟩] ol cl 0 1 6 7 5 0 wd (by decide) sa_S1 (own_rdr (l := [⟨0, 1, 5, 1, 7, 3⟩]) HOL2.out).2.2.2
    rw [sa_ext3] at hx3
    dsimp only [List.length_singleton] at hx3
    have HE3 := Lib.hid hx3
    clear hx3
    go_wp2_with fail
    refine HE3.out.mono ?_
    rintro e we ⟨on, cn, rfl, hon, hbe⟩
    obtain ⟨gl, rfl, _, gl2, gl3⟩ := own_at (l := [⟨0, 1, 5, 1, 7, 3⟩]) HOL2.out (by simp)
    obtain ⟨gm, rfl, _, gm2, gm3⟩ := own_at (l := [⟨0, 1, 5, 2, 7, 3⟩]) HOM.out (by simp)
    obtain ⟨gn, rfl, _, gn2, gn3⟩ := own_at (l := [⟨0, 1, 5, 1, 7, 3⟩, ⟨0, 1, 6, 1, 7, 5⟩]) hon (by simp)
    have hbE := HBD.out.trans (hbe.mono HBD.out.size)
    have HLM : Hid (∀ W, Below we.heap.size we W → W.cell? ⟨gl, 3, none⟩ = some (.int .i64 1) ∧ W.cell? ⟨gm, 3, none⟩ = some (.int .i64 2) ∧ W.cell? ⟨gn, 6, none⟩ = some (.int .i64 0) ∧ W.cell? ⟨gn, 7, none⟩ = some (.int .i64 1) ∧ W.cell? ⟨gn, 8, none⟩ = some (.int .i64 6) ∧ W.cell? ⟨gn, 9, none⟩ = some (.int .i64 1) ∧ W.cell? ⟨gn, 10, none⟩ = some (.int .i64 7) ∧ W.cell? ⟨gn, 11, none⟩ = some (.int .i64 5)) := fun W hW => by
      have kl : ∀ i, W.cell? ⟨gl, i, none⟩ = wd.cell? ⟨gl, i, none⟩ := fun i => by
        rw [hW.cell (p := ⟨gl, i, none⟩) (Nat.lt_of_lt_of_le gl2 hbe.size), hbe.cell (p := ⟨gl, i, none⟩) gl2]
      have km : ∀ i, W.cell? ⟨gm, i, none⟩ = wd.cell? ⟨gm, i, none⟩ := fun i => by
        rw [hW.cell (p := ⟨gm, i, none⟩) (Nat.lt_of_lt_of_le gm2 hbe.size), hbe.cell (p := ⟨gm, i, none⟩) gm2]
      have kn : ∀ i, W.cell? ⟨gn, i, none⟩ = we.cell? ⟨gn, i, none⟩ := fun i => hW.cell (p := ⟨gn, i, none⟩) gn2
      rw [kl, km, kn, kn, kn, kn, kn, kn]
      exact ⟨gl3 3 _ rfl, gm3 3 _ rfl, gn3 6 _ rfl, gn3 7 _ rfl, gn3 8 _ rfl, gn3 9 _ rfl, gn3 10 _ rfl, gn3 11 _ rfl⟩
    have HXe : Hid (LX we N b bl F4 G3 ⟨D1, [saX], false⟩) := HXa.out.below hbE
    have HYe : Hid (LX we N b bm F4 G4 ⟨D1, [saX], false⟩) := HYa.out.below hbE
    have HPe := Lib.hid (HPa.out.kept (hbE.block M HPa.out.lt))
    have HQe := Lib.hid (HQa.out.kept (hbE.block (M + 1) HQa.out.lt))
    have HBe : Hid (Below N w we) := HBa.out.trans (hbE.mono HXa.out.le)
    clear hon hbe hbE gl2 gl3 gm2 gm3 gn2 gn3 HOL2 HOM HBD HE3 HXa HYa HPa HQa HBa
    have HON := Lib.hid open_nil
    go_wp2_with fail
    refine (HON.out _).mono ?_
    rintro e wf ⟨rfl, hbf⟩
    have HBF := Lib.hid hbf
    have HAN := Lib.hid append_nil
    clear hbf HON
    go_wp2_with fail
    refine (HAN.out _ _ _ _).mono ?_
    rintro e wg ⟨rfl, hbg⟩
    have HBG := Lib.hid (HBF.out.trans (hbg.mono HBF.out.size))
    have HRN := Lib.hid records_nil
    clear hbg HAN HBF
    go_wp2_with fail
    refine (HRN.out _).mono ?_
    rintro e w' ⟨rfl, rfl⟩
    obtain ⟨k1, k2, k3, k4, k5, k6, k7, k8⟩ := HLM.out _ HBG.out
    clear HRN HLM
    go_upto_region 21 with (fail)
    clear k1 k2 k3 k4 k5 k6 k7 k8
    have HXg : Hid (∀ W, Below wg.heap.size wg W → LX W N b bl F4 G3 ⟨D1, [saX], false⟩ ∧ LX W N b bm F4 G4 ⟨D1, [saX], false⟩ ∧ TabAt W) := fun W hW => by
      have hb := HBG.out.trans (hW.mono HBG.out.size)
      exact ⟨HXe.out.below hb, HYe.out.below hb, HTB.out _ (HBe.out.trans (hb.mono HXe.out.le))⟩
    have hQe := HQe.out.kept (HBG.out.block (M + 1) HQe.out.lt)
    have hPe := HPe.out.kept (HBG.out.block M HPe.out.lt)
    have HBg : Hid (Below N w wg) := HBe.out.trans (HBG.out.mono HXe.out.le)
    have HKP : Hid (∀ W, Below wg.heap.size wg W → W.cell? ⟨M, 0, none⟩ = some (.int .i64 0) ∧ W.cell? ⟨M, 1, none⟩ = some (.int .i64 0) ∧ W.cell? ⟨M, 2, none⟩ = some (.int .i64 0) ∧ W.cell? ⟨M, 3, none⟩ = some (.int .i64 1) ∧ W.cell? ⟨M, 4, none⟩ = some (.int .i64 0) ∧ W.cell? ⟨M, 5, none⟩ = some (.int .i64 0) ∧ W.cell? ⟨M, 6, none⟩ = some (.int .i64 0) ∧ W.cell? ⟨M, 7, none⟩ = some (.int .i64 1) ∧ W.cell? ⟨M, 8, none⟩ = some (.string zT) ∧ W.cell? ⟨M, 9, none⟩ = some (.slice op 0 cp) ∧ W.cell? ⟨M + 1, 0, none⟩ = some (.int .i64 0) ∧ W.cell? ⟨M + 1, 1, none⟩ = some (.int .i64 0) ∧ W.cell? ⟨M + 1, 2, none⟩ = some (.int .i64 0) ∧ W.cell? ⟨M + 1, 3, none⟩ = some (.int .i64 1) ∧ W.cell? ⟨M + 1, 4, none⟩ = some (.int .i64 1) ∧ W.cell? ⟨M + 1, 5, none⟩ = some (.int .i64 0) ∧ W.cell? ⟨M + 1, 6, none⟩ = some (.int .i64 0) ∧ W.cell? ⟨M + 1, 7, none⟩ = some (.int .i64 1) ∧ W.cell? ⟨M + 1, 8, none⟩ = some (.string zT) ∧ W.cell? ⟨M + 1, 9, none⟩ = some (.slice op 0 cp)) := fun W hW => by
      have kp : ∀ i, W.cell? ⟨M, i, none⟩ = _ := fun i => (hW.cell (p := ⟨M, i, none⟩) hPe.lt).trans (hPe.cell i)
      have kq : ∀ i, W.cell? ⟨M + 1, i, none⟩ = _ := fun i => (hW.cell (p := ⟨M + 1, i, none⟩) hQe.lt).trans (hQe.cell i)
      exact ⟨kp 0, kp 1, kp 2, kp 3, kp 4, kp 5, kp 6, kp 7, kp 8, kp 9, kq 0, kq 1, kq 2, kq 3, kq 4, kq 5, kq 6, kq 7, kq 8, kq 9⟩
    have HRM : Hid (∀ W', Below wg.heap.size wg W' → Calls Tryz.prog 18 #[.pointer (some ⟨bl, 0, none⟩)] W' fun e w' => e = .returned (.int .i64 160) ∧ Below W'.heap.size W' w') := fun W' hW => by
      have := room_x W' N b bl F4 G3 _ (by show endN [saX] ≤ _; rw [sa_end]; decide) (HXg.out _ hW).1
      dsimp only at this
      rw [HL1.out, sa_end] at this
      exact this
    have HRT : Hid (∀ W', Below wg.heap.size wg W' → Calls Tryz.prog 28 #[.pointer (some ⟨bl, 0, none⟩)] W' fun e w' => e = .returned (.string saR) ∧ Below W'.heap.size W' w') := fun W' hW => by
      have := root_x W' N b bl F4 G3 _ (show [saX].length ≤ 900000 from by decide) (HXg.out _ hW).2.2 (HXg.out _ hW).1
      dsimp only at this
      rw [sa_root] at this
      exact this
    have HV1 : Hid (∀ W', Below wg.heap.size wg W' → Calls Tryz.prog 34 #[.string saR, .agg #[.int .i64 0, .int .i64 0, .int .i64 0, .int .i64 1, .int .i64 0, .int .i64 0, .int .i64 0, .int .i64 1, .string zT, .slice op 0 cp]] W' fun e w' => e = .returned (.bool true) ∧ Below W'.heap.size W' w') := fun W' hW => by
      have := asVerify_any saR saX 0 1 saT op [] cp W' (sa_I1 _ (List.mem_singleton.2 rfl)) (by decide) (by decide) (Nat.zero_le _) HOP.out.2 (.inl rfl) (HXg.out _ hW).2.2 (by show 32 ≤ maxLen; decide)
      rw [sa_ver1, HZT.out] at this
      exact this
    have HV2 : Hid (∀ W', Below wg.heap.size wg W' → Calls Tryz.prog 34 #[.string saR, .agg #[.int .i64 0, .int .i64 0, .int .i64 0, .int .i64 1, .int .i64 1, .int .i64 0, .int .i64 0, .int .i64 1, .string zT, .slice op 0 cp]] W' fun e w' => e = .returned (.bool false) ∧ Below W'.heap.size W' w') := fun W' hW => by
      have := asVerify_any saR saY 0 1 saT op [] cp W' sa_IY (by decide) (by decide) (Nat.zero_le _) HOP.out.2 (.inl rfl) (HXg.out _ hW).2.2 (by show 32 ≤ maxLen; decide)
      rw [sa_ver2, HZT.out] at this
      exact this
    have HRC : Hid (∀ W', Below wg.heap.size wg W' → Calls Tryz.prog 17 #[.pointer (some ⟨bm, 0, none⟩)] W' (CloP W'.heap.size W' [saX])) := fun W' hW => records_x W' N b bm F4 G4 _ (show [saX].length ≤ 900000 from by decide) (HXg.out _ hW).2.1
    have HHX : Hid (∀ W', Below wg.heap.size wg W' → Calls Tryz.prog 24 #[.pointer (some ⟨bl, 0, none⟩)] W' fun e w' => e = .returned (.string (headR [saX])) ∧ W' = w') := fun W' hW => head_x W' N b bl F4 G3 _ (HXg.out _ hW).1
    have HHY : Hid (∀ W', Below wg.heap.size wg W' → Calls Tryz.prog 24 #[.pointer (some ⟨bm, 0, none⟩)] W' fun e w' => e = .returned (.string (headR [saX])) ∧ W' = w') := fun W' hW => head_x W' N b bm F4 G4 _ (HXg.out _ hW).2.1
    obtain ⟨zR, hzR⟩ : ∃ z, saR = z := ⟨_, rfl⟩
    obtain ⟨zH, hzH⟩ : ∃ z, headR [saX] = z := ⟨_, rfl⟩
    rw [hzR] at HRT HV1 HV2
    rw [hzH] at HHX HHY
    have HQ : Hid (Below wg.heap.size wg wg.drew) := (Below.refl _ _).drew
    have HBg2 : Hid (N ≤ wg.heap.size) := Nat.le_trans HXe.out.le HBG.out.size
    clear hzR hzH hPe hQe HXg HPe HQe HXe HYe HBe HBG HC1 HL1 HZT HOP HT HG HTB
    refine wp_region_held_drew (S := fun W => W.cell? ⟨M, 0, none⟩ = some (.int .i64 0) ∧ W.cell? ⟨M, 1, none⟩ = some (.int .i64 0) ∧ W.cell? ⟨M, 2, none⟩ = some (.int .i64 0) ∧ W.cell? ⟨M, 3, none⟩ = some (.int .i64 1) ∧ W.cell? ⟨M, 4, none⟩ = some (.int .i64 0) ∧ W.cell? ⟨M, 5, none⟩ = some (.int .i64 0) ∧ W.cell? ⟨M, 6, none⟩ = some (.int .i64 0) ∧ W.cell? ⟨M, 7, none⟩ = some (.int .i64 1) ∧ W.cell? ⟨M, 8, none⟩ = some (.string zT) ∧ W.cell? ⟨M, 9, none⟩ = some (.slice op 0 cp) ∧ W.cell? ⟨M + 1, 0, none⟩ = some (.int .i64 0) ∧ W.cell? ⟨M + 1, 1, none⟩ = some (.int .i64 0) ∧ W.cell? ⟨M + 1, 2, none⟩ = some (.int .i64 0) ∧ W.cell? ⟨M + 1, 3, none⟩ = some (.int .i64 1) ∧ W.cell? ⟨M + 1, 4, none⟩ = some (.int .i64 1) ∧ W.cell? ⟨M + 1, 5, none⟩ = some (.int .i64 0) ∧ W.cell? ⟨M + 1, 6, none⟩ = some (.int .i64 0) ∧ W.cell? ⟨M + 1, 7, none⟩ = some (.int .i64 1) ∧ W.cell? ⟨M + 1, 8, none⟩ = some (.string zT) ∧ W.cell? ⟨M + 1, 9, none⟩ = some (.slice op 0 cp)) (by kernel_rfl) ?_ (fun hHeld => ?_)
    · exact HKP.out _ HQ.out
    refine tk 0 (some 134) ?_
    refine tk 1 (some 135) ?_
    refine tk 2 (some 136) ?_
    refine tk 3 (some 137) ?_
    refine tk 4 (some 138) ?_
    refine tk 5 (some 139) ?_
    refine tk 6 (some 140) ?_
    refine tk 7 (some 141) ?_
    refine tk 8 (some 142) ?_
    refine tk 9 (some 143) ?_
    refine tk 10 (some 144) ?_
    refine tk 11 (some 145) ?_
    refine tk 12 (some 146) ?_
    refine tk 13 (some 147) ?_
    refine tk 14 (some 148) ?_
    refine tk 15 (some 149) ?_
    refine tk 16 (some 150) ?_
    refine tk 17 (some 151) ?_
    refine tk 18 (some 152) ?_
    refine rd1 19 (some 153) (fun K hK => ?_)
    go_simp
    refine (HRM.out _ HQ.out).mono ?_
    rintro e z19 ⟨rfl, hb5⟩
    have HQ := Lib.hid (HQ.out.trans (hb5.mono HQ.out.size))
    clear hb5
    go_simp
    refine hK.out _ _ ?_ (fun hHeld2 => ?_)
    · exact HKP.out _ HQ.out
    clear hK K hHeld
    rename _ => hHeld
    try simp only [Act.put, List.setIfInBounds_toArray, List.set_cons_zero, List.set_cons_succ]
    refine tk 20 (some 154) ?_
    refine tk 21 (some 155) ?_
    refine tk 22 (some 156) ?_
    refine tk 23 (some 157) ?_
    refine tk 25 (some 159) ?_
    refine rd1 24 (some 158) (fun K hK => ?_)
    go_simp
    refine (HRT.out _ HQ.out).mono ?_
    rintro e z24 ⟨rfl, hb5⟩
    have HQ := Lib.hid (HQ.out.trans (hb5.mono HQ.out.size))
    clear hb5
    go_simp
    refine hK.out _ _ ?_ (fun hHeld2 => ?_)
    · exact HKP.out _ HQ.out
    clear hK K hHeld
    rename _ => hHeld
    try simp only [Act.put, List.setIfInBounds_toArray, List.set_cons_zero, List.set_cons_succ]
    refine rd1 26 (some 160) (fun K hK => ?_)
    go_simp
    refine (HV1.out _ HQ.out).mono ?_
    rintro e z26 ⟨rfl, hb5⟩
    have HQ := Lib.hid (HQ.out.trans (hb5.mono HQ.out.size))
    clear hb5
    go_simp
    refine hK.out _ _ ?_ (fun hHeld2 => ?_)
    · exact HKP.out _ HQ.out
    clear hK K hHeld
    rename _ => hHeld
    try simp only [Act.put, List.setIfInBounds_toArray, List.set_cons_zero, List.set_cons_succ]
    refine tk 27 (some 161) ?_
    refine tk 28 (some 162) ?_
    refine tk 29 (some 163) ?_
    refine tk 31 (some 165) ?_
    refine rd1 30 (some 164) (fun K hK => ?_)
    go_simp
    refine (HRT.out _ HQ.out).mono ?_
    rintro e z30 ⟨rfl, hb5⟩
    have HQ := Lib.hid (HQ.out.trans (hb5.mono HQ.out.size))
    clear hb5
    go_simp
    refine hK.out _ _ ?_ (fun hHeld2 => ?_)
    · exact HKP.out _ HQ.out
    clear hK K hHeld
    rename _ => hHeld
    try simp only [Act.put, List.setIfInBounds_toArray, List.set_cons_zero, List.set_cons_succ]
    refine rd1 32 (some 166) (fun K hK => ?_)
    go_simp
    refine (HV2.out _ HQ.out).mono ?_
    rintro e z32 ⟨rfl, hb5⟩
    have HQ := Lib.hid (HQ.out.trans (hb5.mono HQ.out.size))
    clear hb5
    go_simp
    refine hK.out _ _ ?_ (fun hHeld2 => ?_)
    · exact HKP.out _ HQ.out
    clear hK K hHeld
    rename _ => hHeld
    try simp only [Act.put, List.setIfInBounds_toArray, List.set_cons_zero, List.set_cons_succ]
    refine tk 33 (some 167) ?_
    refine tk 34 (some 168) ?_
    refine tk 35 (some 169) ?_
    refine tk 36 (some 170) ?_
    refine rd1 37 (some 171) (fun K hK => ?_)
    go_simp
    refine (HRC.out _ HQ.out).mono ?_
    rintro e z37 ⟨oa5, cap5, rfl, _, hb5⟩
    have HQ := Lib.hid (HQ.out.trans (hb5.mono HQ.out.size))
    clear hb5
    go_simp
    refine hK.out _ _ ?_ (fun hHeld2 => ?_)
    · exact HKP.out _ HQ.out
    clear hK K hHeld
    rename _ => hHeld
    try simp only [Act.put, List.setIfInBounds_toArray, List.set_cons_zero, List.set_cons_succ]
    refine tk 38 (some 172) ?_
    refine tk 39 (some 173) ?_
    refine tk 40 (some 174) ?_
    refine tk 41 (some 175) ?_
    refine tk 42 (some 176) ?_
    refine tk 44 (some 178) ?_
    refine rd1 43 (some 177) (fun K hK => ?_)
    go_simp
    refine (HHY.out _ HQ.out).mono ?_
    rintro e z43 ⟨rfl, rfl⟩
    go_simp
    refine hK.out _ _ ?_ (fun hHeld2 => ?_)
    · exact HKP.out _ HQ.out
    clear hK K hHeld
    rename _ => hHeld
    try simp only [Act.put, List.setIfInBounds_toArray, List.set_cons_zero, List.set_cons_succ]
    refine rd1 45 (some 179) (fun K hK => ?_)
    go_simp
    refine (HHX.out _ HQ.out).mono ?_
    rintro e z45 ⟨rfl, rfl⟩
    go_simp
    refine hK.out _ _ ?_ (fun hHeld2 => ?_)
    · exact HKP.out _ HQ.out
    clear hK K hHeld
    rename _ => hHeld
    try simp only [Act.put, List.setIfInBounds_toArray, List.set_cons_zero, List.set_cons_succ]
    refine tk 46 (some 180) ?_
    refine tk 47 (some 181) ?_
    refine tk 48 (some 182) ?_
    refine tk 49 (some 183) ?_
    refine tk 50 (some 184) ?_
    refine tk 51 (some 185) ?_
    refine tk 52 (some 186) ?_
    refine tk 53 (some 187) ?_
    refine tk 54 (some 0) ?_
    refine wpAnyH_done (by kernel_rfl) ?_ _
    clear hHeld
    go_wp2_with fail
    go_ret
    exact ⟨rfl, by rw [HN.out]; exact HBg.out.trans (HQ.out.mono HBg2.out)⟩
end Go.Proofs.YtfpcdlpfmlaakaaGreatDoor
