/-
  The reference's Open.
-/
import Derived.Deep.CutBlock
import Derived.Test.YtfpcdlpfmlaakaaGreatDoorTk
import Derived.Test.YtfpcdlpfmlaakaaGreatDoorAsTD
set_option linter.unusedVariables false
set_option linter.unusedSimpArgs false
namespace Go.Proofs.YtfpcdlpfmlaakaaGreatDoor
open Go.RowKit Onair
attribute [local go_sem ↓] Go.wp_at_zero Go.wp_at_succ
attribute [local go_sem] Oper.semAt_some
def endOf : Option Value → Int
  | some (.int _ a) => a
  | _ => 0
theorem readP_dec {c T C hd : ByteArray} {a nx : Nat} {r : Rec} (h1 : c.data.toList[a]? = some 1) (hs : strR c.data.toList ((a + 1 : Nat) : Int) = (T.data.toList, (nx : Int), 0)) (hf : nx + 32 ≤ c.size) (hC : chainB hd T = C) (hd' : decP T.data.toList = some r) (hx : c.extract nx (nx + 32) = C) :
    readP c.data.toList a hd = some (r, C, nx + 32) := by
  rw [readP_full h1 hs (by rw [blen]; exact hf), hd']
  dsimp only
  have hT : T = encB r := by
    apply ba_ext
    rw [encB_data]
    exact (decP_back hd').1
  have e1 : c.extract nx (nx + 32) = ⟨((c.data.toList.drop nx).take 32).toArray⟩ := extract_list c nx 32
  rw [← hT, hC, if_pos]
  rw [← hx, e1]
theorem readP_dec_ne {c T C hd : ByteArray} {a nx : Nat} (h1 : c.data.toList[a]? = some 1) (hs : strR c.data.toList ((a + 1 : Nat) : Int) = (T.data.toList, (nx : Int), 0)) (hf : nx + 32 ≤ c.size) (hC : chainB hd T = C) (hx : ¬ c.extract nx (nx + 32) = C) :
    readP c.data.toList a hd = none := by
  rw [readP_full h1 hs (by rw [blen]; exact hf)]
  cases hd' : decP T.data.toList with
  | none => rfl
  | some r =>
    dsimp only
    have hT : T = encB r := by
      apply ba_ext
      rw [encB_data]
      exact (decP_back hd').1
    have e1 : c.extract nx (nx + 32) = ⟨((c.data.toList.drop nx).take 32).toArray⟩ := extract_list c nx 32
    rw [← hT, hC, if_neg]
    intro e
    apply hx
    rw [e1]
    apply ba_ext
    simpa using e
theorem readP_undec {c T hd : ByteArray} {a nx : Nat} (h1 : c.data.toList[a]? = some 1) (hs : strR c.data.toList ((a + 1 : Nat) : Int) = (T.data.toList, (nx : Int), 0)) (hd' : decP T.data.toList = none) :
    readP c.data.toList a hd = none := by
  by_cases hf : nx + 32 ≤ c.size
  · rw [readP_full h1 hs (by rw [blen]; exact hf), hd']
  · exact readP_none3 (by rw [hs, blen]; dsimp only; omega)
def ROpenP (W : World) (N b : Nat) (F : Nat → Prop) (D : DS) (e : Ending) (w' : World) : Prop :=
  (openE D = 0 ∧ ∃ rl F' G, e = .returned (.tuple #[.pointer (some ⟨rl, 0, none⟩), .int .i64 0]) ∧ RLX w' N b rl F' G ⟨openD D, openR D, false⟩ ∧ Fr F W w' ∧ (∀ k, G k → W.heap.size ≤ k) ∧ ∀ k, F' k → F k ∨ W.heap.size ≤ k) ∨
  (openE D ≠ 0 ∧ e = .returned (.tuple #[.pointer none, .int .i64 (openE D)]) ∧ ∃ F', RDX w' N b F' (openD D) ∧ Fr F W w' ∧ ∀ k, F' k → F k ∨ W.heap.size ≤ k)
theorem mk_zeros (m : Nat) (hm : m ≤ 4194304) : (∀ w : World, (Instr.makeSlice 42 (.int .i64 (m : Int)) (.int .i64 (m : Int))).run Tryz.prog w = .ok (.slice (some ⟨w.heap.size, 0, none⟩) m m) (w.alloc (.cells (zcells m) 5))) ∧
    (∀ W : World, (convert 42 9 (.slice (some ⟨W.heap.size, 0, none⟩) m m)).run Tryz.prog (W.alloc (.cells (zcells m) 5)) = .ok (.string (zerosB m)) (W.alloc (.cells (zcells m) 5))) ∧
    ∀ W : World, (convert 42 9 (.slice (some ⟨W.heap.size, 0, none⟩) m m)).run Tryz.prog ((W.alloc (.cells (zcells m) 5)).drew) = .ok (.string (zerosB m)) ((W.alloc (.cells (zcells m) 5)).drew) := by
  have e : (((zeroL m).drop 0).take m).toArray = (zeroL m).toArray := by rw [List.drop_zero, List.take_of_length_le (by rw [zeroL_len]; exact Nat.le_refl _)]
  refine ⟨fun w => run_make_bytes m (by omega) w, fun W => ?_, fun W => ?_⟩
  · have h := conv_blk (Blk.new W 5 (cellsB (zeroL m))) 0 m m (by rw [zeroL_len]; omega)
    rw [e] at h
    exact h
  · have h := conv_blk (Blk.drew (Blk.new W 5 (cellsB (zeroL m)))) 0 m m (by rw [zeroL_len]; omega)
    rw [e] at h
    exact h
theorem app_recT (W : World) (B : Nat) (v : Value) (R : List Rec) (r : Rec) (hown : W.ownsRow B 62 6 v R.length (rcells R)) (hn : R.length ≤ 1000000) (hB : B ≤ W.heap.size) :
    ∃ oa cap w', (∀ ty : TypeId, (Builtin.append_ #[38, 38] ty #[v, .slice (some ⟨W.heap.size, 0, none⟩) 1 1]).run Tryz.prog (W.alloc (.cells (recA r) 62)) = .ok (.slice oa (R.length + 1) cap) w') ∧ w'.ownsRow B 62 6 (.slice oa (R.length + 1) cap) (R ++ [r]).length (rcells (R ++ [r])) ∧ Fr (fun k => v.ownBlock = some k) W w' ∧ (∀ k, (Value.slice oa (R.length + 1) cap).ownBlock = some k → v.ownBlock = some k ∨ W.heap.size ≤ k) := by
  obtain ⟨oa, cap, w', h1, h2⟩ := app_rec W B v R r hown hn hB 0
  exact ⟨oa, cap, w', fun _ => h1, h2⟩
set_option maxHeartbeats 8000000 in
set_option maxRecDepth 100000 in
theorem refOpen_any (W : World) (N b : Nat) (F : Nat → Prop) (D : DS) (n i : Nat) (hi : Inv D n i) (hib : i ≤ 900000) (hn : n ≤ 4194304) (h : RDX W N b F D) :
    Calls Tryz.prog 35 #[.pointer (some ⟨b, 0, none⟩)] W (ROpenP W N b F D) := by
  have h' := h
  have HRD := Lib.hid (refRead_x W N b F D n i hi (by omega) hn h)
  obtain ⟨h0, gs, cs, rest, vl, h1, h2⟩ := h
  have c0 := h1.blk.cell 0
  simp only [List.getElem?_cons_zero] at c0
  rw [hi.lend] at c0
  have HI := Lib.hid hi
  have HX := Lib.hid h'
  have HNM := Lib.hid h0
  obtain ⟨M, hM⟩ : ∃ M, W.heap.size = M := ⟨_, rfl⟩
  have HM := Lib.hid hM
  have hn1 : 1 ≤ n := by rw [← hi.lend]; exact h1.pos
  clear h1 h2 h' h0 hM
  cases hl : D.lost with
  | true =>
    have e1 : readE D 0 n = 241 := by unfold readE; rw [hl]; rfl
    have e2 : readL D 0 n = [] := by unfold readL; rw [hl]; rfl
    rw [e1, e2] at HRD
    have HF : Hid (∀ W9, Below M W W9 → ROpenP W N b F D (.returned (.tuple #[.pointer none, .int .i64 241])) W9) := fun W9 hW => by
      have o1 : openE D = 241 := by unfold openE; rw [hl]; rfl
      have o2 : openD D = D := by unfold openD; rw [hl]; rfl
      exact .inr ⟨by rw [o1]; decide, by rw [o1], F, by rw [o2]; exact HX.out.below (by rw [HM.out]; exact hW), Fr.under F (by rw [HM.out]; exact hW), fun k hk => .inl hk⟩
    clear e1 e2 hi
    go_enter Tryz.func35, Tryz.ntmps35
    go_wp2_with fail
    refine HRD.out.mono ?_
    rintro e w2 ⟨rfl, hb2⟩
    have HB2 : Hid (Below M W w2) := (show Below M W w2 from by rw [← HM.out]; exact hb2)
    clear hb2 HRD c0
    go_wp2_with fail
    go_ret2
    exact HF.out _ HB2.out
  | false =>
    have hins : insB D 0 n = true := decide_eq_true (by have := hi.len; omega)
    have e1 : readE D 0 n = 0 := by unfold readE; rw [hl, hins]; rfl
    have e2 : readL D 0 n = D.vis := by
      unfold readL
      rw [hl, hins]
      show (D.vis.drop 0).take n = D.vis
      rw [List.drop_zero, List.take_of_length_le (by rw [hi.len]; exact Nat.le_refl _)]
    rw [e1, e2] at HRD
    obtain ⟨c, hc⟩ : ∃ c : ByteArray, (⟨D.vis.toArray⟩ : ByteArray) = c := ⟨_, rfl⟩
    have hcd : c.data.toList = D.vis := by rw [← hc]
    have hcz : c.size = n := by
      rw [← hi.len, ← hcd]
      exact (blen c).symm
    rw [hc] at HRD
    have HCD := Lib.hid hcd
    have HLO := Lib.hid hl
    have HDAM : Hid (∀ W9, Below M W W9 → (scanP c.data.toList).2 = true → ROpenP W N b F D (.returned (.tuple #[.pointer none, .int .i64 252])) W9) := fun W9 hW hs => by
      rw [HCD.out] at hs
      have o1 : openE D = 252 := by unfold openE; rw [HLO.out, hs]; rfl
      have o2 : openD D = D := by unfold openD; rw [HLO.out, hs]; rfl
      exact .inr ⟨by rw [o1]; decide, by rw [o1], F, by rw [o2]; exact HX.out.below (by rw [HM.out]; exact hW), Fr.under F (by rw [HM.out]; exact hW), fun k hk => .inl hk⟩
    have HDR : Hid (∀ W9, Below M W W9 → RDX W9 N b F D) := fun W9 hW => HX.out.below (by rw [HM.out]; exact hW)
    have HHD : Hid (∀ W, Calls Tryz.prog 25 #[.slice none 0 0] W fun e w' => e = .returned (.string zero32) ∧ Below W.heap.size W w') := fun W => refHead_any [] none 0 0 W rfl (by omega) (.inl rfl)
    have hz32 := zero32_size
    have HSC0 : Hid (ScR c.data.toList 0 zero32 []) := ScR.start _
    generalize zero32 = Z at HHD hz32 HSC0
    clear e1 e2 hi hc hcd hl hins
    go_enter Tryz.func35, Tryz.ntmps35
    go_wp2_with fail
    refine HRD.out.mono ?_
    rintro e w2 ⟨rfl, hb2⟩
    have HB2 : Hid (Below M W w2) := (show Below M W w2 from by rw [← HM.out]; exact hb2)
    clear hb2 HRD c0
    obtain ⟨bl, hbl⟩ : ∃ bl, w2.heap.size = bl := ⟨_, rfl⟩
    have HBL := Lib.hid hbl
    have hMb : M ≤ bl := by rw [← hbl]; exact bnl HM.out HB2.out
    clear hbl
    go_upto_region 6 with (fail)
    rw [HBL.out]
    refine gen_world (fun W9 => Below M W W9 ∧ LkAt W9 M bl b (.slice none 0 0) [] false) ⟨?_, ?_⟩ ?_
    · exact HB2.out.alloc (bnl HM.out HB2.out) _
    · have := Blk.new w2 46 [.pointer (some ⟨b, 0, none⟩), .slice none 0 0, .int .i64 0, .bool false]
      rw [HBL.out] at this
      exact ⟨this, ⟨rfl, .inl ⟨rfl, rfl⟩⟩, hMb, fun g hg => by simp [Value.ownBlock] at hg⟩
    rintro w3 ⟨hb3, hk3⟩
    have HB3 := Lib.hid hb3
    have HK3 := Lib.hid hk3
    clear hb3 hk3 HB2
    go_wp2_with fail
    refine (HHD.out _).mono ?_
    rintro e w4 ⟨rfl, hb4⟩
    have HB4 : Hid (Below M W w4) := HB3.out.trans (hb4.mono (bnl HM.out HB3.out))
    have HK4 := Lib.hid (HK3.out.below hb4)
    clear hb4 HB3 HK3 HHD
    go_wp2_with fail
    go_loopw [8] (fun hv wr => ∃ (a : Nat) (hd : ByteArray) (pre : List Rec) (vr : Value), hv = .string hd ∧ hd.size = 32 ∧ Hid (a = endN pre) ∧ Hid (ScR c.data.toList a hd pre) ∧ Hid (LkAt wr M bl b vr pre false) ∧ Hid (Below M W wr)) (fun _ wr => n - (endOf (wr.cell? ⟨bl, 2, none⟩)).toNat)
    case atStart => exact ⟨0, Z, [], _, rfl, hz32, rfl, HSC0, HK4, HB4⟩
    case round =>
      clear HK4 HB4 HSC0 hz32
      obtain ⟨a, hd, pre, vr, rfl, hz, HAE, HSC, HK, HB⟩ := hrel
      have c0 := HK.out.blk.cell 0
      have c1 := HK.out.blk.cell 1
      have c2 := HK.out.blk.cell 2
      have c3 := HK.out.blk.cell 3
      simp only [List.getElem?_cons_zero, List.getElem?_cons_succ] at c0 c1 c2 c3
      rw [← HAE.out] at c2
      have hblz : bl < wr.heap.size := HK.out.blk.lt
      have HC2 := Lib.hid c2
      have hal : a ≤ n := by have := HSC.out.le; rw [blen, hcz] at this; exact this
      by_cases hst : a < n ∧ ¬ c.data.toList.getD a 0 = 0
      · obtain ⟨hlt, hz0⟩ := hst
        have hltc : a < c.size := by omega
        have q1 : (a : Int) < (n : Int) := by omega
        have q1c : (a : Int) < (c.size : Int) := by omega
        have q0 : (0 : Int) ≤ (a : Int) := by omega
        have hca : c.data.toList.getD a 0 = c[a] := getD_data c a hltc
        have hz2 : ((c[a].toNat : Int) != 0) = true := by
          rw [bne_iff_ne]
          intro e
          exact hz0 (hca.trans (UInt8.toNat.inj (by have : c[a].toNat = 0 := by omega
                                                    exact this)))
        have HZ0 := Lib.hid hz0
        obtain ⟨t, x, er, hs⟩ : ∃ t x er, strR c.data.toList ((a + 1 : Nat) : Int) = (t, x, er) := ⟨_, _, _, rfl⟩
        have HST : Hid (∀ W, Calls Tryz.prog 81 #[.string c, .int .i64 ((a : Int) + 1)] W fun e w' => e = .returned (.tuple #[.string ⟨t.toArray⟩, .int .i64 x, .int .i64 er]) ∧ Below W.heap.size W w') := fun W => by
          have := refString_any c ((a + 1 : Nat) : Int) W (by unfold maxLen; omega)
          rw [hs] at this
          exact this
        obtain ⟨T, hT⟩ : ∃ T : ByteArray, (⟨t.toArray⟩ : ByteArray) = T := ⟨_, rfl⟩
        have hTd : T.data.toList = t := by rw [← hT]
        rw [hT] at HST
        have HS : Hid (strR c.data.toList ((a + 1 : Nat) : Int) = (T.data.toList, x, er)) := (show _ = _ from by rw [hs, hTd])
        clear hz0 hT hTd hs
        by_cases h1 : c.data.toList[a]? = some 1
        · have e1 : ((c[a].toNat : Int) != 1) = false := by
            have : c[a] = 1 := by
              rw [List.getElem?_eq_getElem (by rw [blen]; exact hltc)] at h1
              exact Option.some.inj h1
            rw [this]
            rfl
          have H1 := Lib.hid h1
          clear h1 hca
          by_cases he : er = 0
          · subst he
            obtain ⟨b1, b2, b3, b4⟩ := strR_back c.data.toList (a + 1) (by rw [HS.out])
            rw [HS.out] at b1 b2
            dsimp only at b1 b2
            have hTs : T.size ≤ 65536 := by rw [blen] at b1; exact b1
            obtain ⟨nx, rfl⟩ : ∃ nx : Nat, x = nx := ⟨x.toNat, by omega⟩
            have hnx : nx ≤ c.size := by
              have := b4
              rw [HS.out] at this
              simp only [blen] at this
              omega
            clear b1 b2 b3 b4
            have HDC := Lib.hid (fun W => refDecoded_any T W (by unfold maxLen; omega))
            have HCH := Lib.hid (fun W => refChain_any hd T W (by omega) (by omega))
            obtain ⟨C, hC⟩ : ∃ C, chainB hd T = C := ⟨_, rfl⟩
            have hCz := chainB_size hd T
            rw [hC] at HCH hCz
            have HCE := Lib.hid hC
            clear hC
            go_wp2_with fail
            refine (HST.out _).mono ?_
            rintro e w5 ⟨rfl, hb5⟩
            have HB5 : Hid (Below M W w5) := HB.out.trans (hb5.mono (bnl HM.out HB.out))
            have HK5 := Lib.hid (HK.out.below hb5)
            clear hb5 HB HK HST c0 c1 c2 c3
            have c2 := HK5.out.blk.cell 2
            simp only [List.getElem?_cons_zero, List.getElem?_cons_succ] at c2
            rw [← HAE.out] at c2
            go_wp2_with fail
            refine (HDC.out _).mono ?_
            rintro e w6 ⟨r, rfl, hr1, hb6⟩
            have HB6 : Hid (Below M W w6) := HB5.out.trans (hb6.mono (bnl HM.out HB5.out))
            have HK6 := Lib.hid (HK5.out.below hb6)
            have HR1 := Lib.hid hr1
            clear hb6 hr1 HB5 HK5 HDC c2
            obtain ⟨r0, r1, r2, r3, r4, r5⟩ := r
            obtain ⟨ok, hok⟩ : ∃ ok, (decP T.data.toList).isSome = ok := ⟨_, rfl⟩
            have HOK := Lib.hid hok
            rw [hok]
            clear hok
            dsimp only [recA]
            obtain ⟨R, hR⟩ : ∃ R, w6.heap.size = R := ⟨_, rfl⟩
            have HRR := Lib.hid hR
            have hbR : bl < R := by rw [← hR]; exact HK6.out.blk.lt
            clear hR
            go_upto_region 12 with (fail)
            rw [HRR.out]
            refine gen_world (fun W9 => Below M W W9 ∧ LkAt W9 M bl b vr pre false ∧ Blk W9 R 62 [.int .i64 r0, .int .i64 r1, .int .i64 r2, .int .i64 r3, .int .i64 r4, .int .i64 r5]) ⟨?_, ?_, ?_⟩ ?_
            · exact HB6.out.alloc (bnl HM.out HB6.out) _
            · exact HK6.out.below ((Below.refl _ w6).alloc (Nat.le_refl _) _)
            · rw [← HRR.out]
              exact Blk.new w6 62 [.int .i64 r0, .int .i64 r1, .int .i64 r2, .int .i64 r3, .int .i64 r4, .int .i64 r5]
            rintro w7 ⟨hb7, hk7, hr7⟩
            have HB7 := Lib.hid hb7
            have HK7 := Lib.hid hk7
            have HQ7 := Lib.hid hr7
            clear hb7 hk7 hr7 HB6 HK6
            go_wp2_with fail
            refine (HCH.out _).mono ?_
            rintro e w8 ⟨rfl, hb8⟩
            have HB8 : Hid (Below M W w8) := HB7.out.trans (hb8.mono (bnl HM.out HB7.out))
            have HK8 := Lib.hid (HK7.out.below hb8)
            have HQ8 := Lib.hid (HQ7.out.kept (hb8.block R HQ7.out.lt))
            clear hb8 HB7 HK7 HQ7 HCH
            cases ok with
            | false =>
              have HBAD : Hid ((scanP c.data.toList).2 = true) := HSC.out.bad HZ0.out (readP_undec H1.out HS.out (by
                cases hd' : decP T.data.toList with
                | none => rfl
                | some r0 => rw [hd'] at HOK; cases HOK.out))
              go_wp2_with fail
              go_ret2
              exact HDAM.out _ (HB8.out) HBAD.out
            | true =>
              obtain ⟨rr, hrr⟩ : ∃ rr, decP T.data.toList = some rr := by
                cases hd' : decP T.data.toList with
                | none => rw [hd'] at HOK; cases HOK.out
                | some r0 => exact ⟨r0, rfl⟩
              have hreq := HR1.out rr hrr
              subst hreq
              have HRR2 := Lib.hid hrr
              clear hrr HR1 HOK
              by_cases hf : nx + 32 ≤ c.size
              · have q3 : ¬ (nx : Int) + 32 > (n : Int) := by omega
                have q4 : ¬ (n : Int) < (nx : Int) + 32 := by omega
                have q5 : (nx : Int) + 32 ≤ (c.size : Int) := by omega
                have q6 : (nx : Int) ≤ (nx : Int) + 32 := by omega
                have q7 : (0 : Int) ≤ (nx : Int) := by omega
                have q8 : (0 : Int) ≤ (nx : Int) + 32 := by omega
                obtain ⟨X, hX⟩ : ∃ X, c.extract nx (nx + 32) = X := ⟨_, rfl⟩
                have HXE := Lib.hid hX
                by_cases hxc : X = C
                · subst hxc
                  have e2 : (X.toList == X.toList) = true := by simp
                  have hrp := readP_dec H1.out HS.out hf HCE.out HRR2.out HXE.out
                  have HSC2 := Lib.hid (HSC.out.next HZ0.out hrp)
                  have hle2 : nx + 32 ≤ n := by omega
                  have hbk := (readP_back hrp).2.2.1
                  have hbd := storedL_bd hd ⟨r0, r1, r2, r3, r4, r5⟩
                  have hadv : a < nx + 32 := by omega
                  have HAE2 : Hid (nx + 32 = endN (pre ++ [⟨r0, r1, r2, r3, r4, r5⟩])) := HSC2.out.at'
                  have hpl : pre.length ≤ 1000000 := by
                    have h3 := (logL_bd zero32 pre).2
                    have h4 : a = (logL zero32 pre).length := HAE.out
                    omega
                  have HK8d := Lib.hid (HK8.out.below (show Below w8.heap.size w8 w8.drew from (Below.refl _ _).drew))
                  have HB8d : Hid (Below M W w8.drew) := HB8.out.drew
                  obtain ⟨oa, cap, w9, hrun, ho9, hf9, hn9⟩ := app_recT w8.drew M vr pre ⟨r0, r1, r2, r3, r4, r5⟩ HK8d.out.recs hpl (bnl HM.out HB8d.out)
                  have hk9 := HK8d.out.push HAE2.out ho9 hf9 hn9
                  have HK9 := Lib.hid hk9
                  obtain ⟨K, hKl⟩ : ∃ K, pre.length = K := ⟨_, rfl⟩
                  rw [hKl] at hrun HK9
                  dsimp only [recA] at hrun
                  have d1 : w9.cell? ⟨bl, 1, none⟩ = some vr := by
                    have := (HK8d.out.blk.kept (hf9.block bl HK8d.out.blk.lt (fun e => HK8d.out.nr bl e rfl))).cell 1
                    simpa using this
                  have d2 : w9.cell? ⟨bl, 2, none⟩ = some (.int .i64 (a : Int)) := by
                    have := (HK8d.out.blk.kept (hf9.block bl HK8d.out.blk.lt (fun e => HK8d.out.nr bl e rfl))).cell 2
                    simp only [List.getElem?_cons_zero, List.getElem?_cons_succ] at this
                    rw [HAE.out]
                    exact this
                  have g1 : w9.frozen? ⟨bl, 1, none⟩ = false := (HK8d.out.blk.kept (hf9.block bl HK8d.out.blk.lt (fun e => HK8d.out.nr bl e rfl))).frozen 1
                  have g2 : w9.frozen? ⟨bl, 2, none⟩ = false := (HK8d.out.blk.kept (hf9.block bl HK8d.out.blk.lt (fun e => HK8d.out.nr bl e rfl))).frozen 2
                  have HB9 : Hid (Below M W ((w9.setCell ⟨bl, 1, none⟩ (.slice oa (K + 1) cap)).setCell ⟨bl, 2, none⟩ (.int .i64 ((nx + 32 : Nat) : Int)))) := (((HB8d.out.trans ⟨hf9.os, hf9.tape, hf9.output, hf9.size, fun k hk => hf9.block k (Nat.lt_of_lt_of_le hk (bnl HM.out HB8d.out)) (fun e => by have := own_ge HK8d.out.recs k e; omega)⟩).setCell (p := ⟨bl, 1, none⟩) hMb _).setCell (p := ⟨bl, 2, none⟩) hMb _)
                  have c0 := HQ8.out.cell 0
                  have c1 := HQ8.out.cell 1
                  have c2 := HQ8.out.cell 2
                  have c3 := HQ8.out.cell 3
                  have c4 := HQ8.out.cell 4
                  have c5 := HQ8.out.cell 5
                  have b1 := HK8.out.blk.cell 1
                  simp only [List.getElem?_cons_zero, List.getElem?_cons_succ] at c0 c1 c2 c3 c4 c5 b1
                  have HRUN := Lib.hid hrun
                  clear hrun hk9 ho9 hf9 hn9 hrp hbk hbd hpl hf HXE HCE HS H1 HZ0 HSC hlt HRR2
                  have hcast : ((nx + 32 : Nat) : Int) = (nx : Int) + 32 := by omega
                  rw [hcast] at HK9 HB9
                  have hq1 : bl < w8.heap.size := HK8.out.blk.lt
                  have hq2 : R < w8.heap.size := HQ8.out.lt
                  go_wp2_with fail
                  go_region_law ((refine step_run (by rfl) _ _ (by rfl) (by rfl) (by rfl) HRUN.out ?_))
                  all_goals
                    go_wp2_with fail
                    clear c0 c1 c2 c3 c4 c5 b1 HRUN
                    go_roundw
                    case rel => exact ⟨nx + 32, X, pre ++ [⟨r0, r1, r2, r3, r4, r5⟩], .slice oa (K + 1) cap, rfl, hCz, HAE2, HSC2, HK9, HB9⟩
                    case measure =>
                      have m1 := HC2.out
                      have m2 := HK9.out.blk.cell 2
                      rw [← HAE2.out, hcast] at m2
                      simp only [List.getElem?_cons_zero, List.getElem?_cons_succ] at m2
                      simp only [m1, m2, endOf]
                      omega
                · have e2 : (X.toList == C.toList) = false := by rw [beq_dec]; exact decide_eq_false hxc
                  have HBAD : Hid ((scanP c.data.toList).2 = true) := HSC.out.bad HZ0.out (readP_dec_ne H1.out HS.out hf HCE.out (by rw [HXE.out]; exact hxc))
                  go_wp2_with fail
                  go_ret2
                  exact HDAM.out _ (HB8.out) HBAD.out
              · have q3 : (nx : Int) + 32 > (n : Int) := by omega
                have q4 : (n : Int) < (nx : Int) + 32 := by omega
                have HBAD : Hid ((scanP c.data.toList).2 = true) := HSC.out.bad HZ0.out (readP_none3 (by rw [HS.out, blen]; dsimp only; omega))
                go_wp2_with fail
                go_ret2
                exact HDAM.out _ (HB8.out) HBAD.out
          · have ene : (er != 0) = true := by rw [bne_iff_ne]; exact he
            have HBAD : Hid ((scanP c.data.toList).2 = true) := HSC.out.bad HZ0.out (readP_none2 (by rw [HS.out]; exact he))
            go_wp2_with fail
            refine (HST.out _).mono ?_
            rintro e w5 ⟨rfl, hb5⟩
            have HB5 : Hid (Below M W w5) := HB.out.trans (hb5.mono (bnl HM.out HB.out))
            have HK5 := Lib.hid (HK.out.below hb5)
            clear hb5 HB HK HST c0 c1 c2 c3
            have c2 := HK5.out.blk.cell 2
            simp only [List.getElem?_cons_zero, List.getElem?_cons_succ] at c2
            rw [← HAE.out] at c2
            go_wp2_with fail
            go_ret2
            exact HDAM.out _ (HB5.out) HBAD.out
        · have e1 : ((c[a].toNat : Int) != 1) = true := by
            rw [bne_iff_ne]
            intro e
            apply h1
            rw [List.getElem?_eq_getElem (by rw [blen]; exact hltc)]
            congr 1
            exact UInt8.toNat.inj (by have : c[a].toNat = 1 := by omega
                                      exact this)
          have HBAD : Hid ((scanP c.data.toList).2 = true) := HSC.out.bad HZ0.out (readP_none1 h1)
          clear h1
          go_wp2_with fail
          refine (HST.out _).mono ?_
          rintro e w5 ⟨rfl, hb5⟩
          have HB5 : Hid (Below M W w5) := HB.out.trans (hb5.mono (bnl HM.out HB.out))
          have HK5 := Lib.hid (HK.out.below hb5)
          clear hb5 HB HK HST c0 c1 c2 c3
          have c2 := HK5.out.blk.cell 2
          simp only [List.getElem?_cons_zero, List.getElem?_cons_succ] at c2
          rw [← HAE.out] at c2
          go_wp2_with fail
          go_ret2
          exact HDAM.out _ (HB5.out) HBAD.out
      · have hsz : c.data.toList.getD a 0 = 0 := by
          by_cases h1 : a < n
          · exact Decidable.of_not_not (fun h2 => hst ⟨h1, h2⟩)
          · rw [List.getD_eq_getElem?_getD, List.getElem?_eq_none (by rw [blen]; omega)]
            rfl
        have HSTOP := Lib.hid (HSC.out.stop hsz)
        clear hst
        obtain ⟨w0, rfl⟩ : ∃ w0 : World, w0 = wr := ⟨_, rfl⟩
        go_upto_region 7 with (fail)
        go_cut [46] from 32 to 108 (fun v wx => v = .bool false ∧ wx = w0)
        case first =>
          by_cases h1 : a < n
          · have hltc : a < c.size := by omega
            have q1 : (a : Int) < (n : Int) := by omega
            have q1c : (a : Int) < (c.size : Int) := by omega
            have q0 : (0 : Int) ≤ (a : Int) := by omega
            have hca : c.data.toList.getD a 0 = c[a] := getD_data c a hltc
            have hz2 : ((c[a].toNat : Int) != 0) = false := by
              rw [← hca, hsz]
              rfl
            clear hca hsz
            go_wp2_with fail
            go_meet
            exact ⟨rfl, rfl⟩
          · have q1 : ¬ (a : Int) < (n : Int) := by omega
            clear hsz
            go_wp2_with fail
            go_meet
            exact ⟨rfl, rfl⟩
        case rest =>
          obtain ⟨rfl, hw0⟩ := hcut
          subst hw0
          clear hsz
          obtain ⟨w0, rfl⟩ : ∃ w0 : World, w0 = wc := ⟨_, rfl⟩
          obtain ⟨m, hm⟩ : ∃ m, n - a = m := ⟨_, rfl⟩
          obtain ⟨hmk, hcv, hcv2⟩ := mk_zeros m (by omega)
          have q9 : IntKind.i64.wrap ((n : Int) - (a : Int)) = (m : Int) := by rw [IntWalk.i64_in _ (by omega)]; omega
          have q10 : wrap64 ((n : Int) - (a : Int)) = (m : Int) := (IntWalk.i64_left _).symm.trans q9
          have q11 : (n : Int) - (a : Int) = (m : Int) := by omega
          have q12 : IntKind.i64.wrap (m : Int) = (m : Int) := IntWalk.i64_in _ (by omega)
          have qa0 : (0 : Int) ≤ (a : Int) := by omega
          have qac : (a : Int) ≤ (c.size : Int) := by omega
          have hR : openR D = pre := by
            have := HSTOP.out
            rw [HCD.out] at this
            unfold openR
            rw [this]
          have hE : endN (openR D) = a := by rw [hR]; exact HAE.out.symm
          have hs2 : (scanP D.vis).2 = false := by
            have := HSTOP.out
            rw [HCD.out] at this
            rw [this]
          have hvl : D.vis.length = n := by rw [← HCD.out, blen]; exact hcz
          have HFL : Hid (∀ k, F k → k < M) := (show ∀ k, F k → k < M from fun k hk => by rw [← HM.out]; exact HX.out.lt k hk)
          have hYd : (c.extract a n).data.toList = D.vis.drop a := by
            have : c.extract a n = ⟨((c.data.toList.drop a).take (n - a)).toArray⟩ := by
              have := extract_list c a (n - a)
              rw [show a + (n - a) = n by omega] at this
              exact this
            rw [this, HCD.out]
            show (D.vis.drop a).take (n - a) = D.vis.drop a
            rw [List.take_of_length_le (by rw [List.length_drop]; omega)]
          obtain ⟨Y, hY⟩ : ∃ Y, c.extract a n = Y := ⟨_, rfl⟩
          rw [hY] at hYd
          have hZd : (zerosB m).data.toList = zeroL m := zerosB_data m
          have hZs : (zerosB m).size = m := zerosB_size m
          have HGOOD : Hid (D.vis.drop a = zeroL m → ∀ W9, Below w0.heap.size w0 W9 → ROpenP W N b F D (.returned (.tuple #[.pointer (some ⟨bl, 0, none⟩), .int .i64 0])) W9) := fun hd9 W9 hW => by
            have o1 : openE D = 0 := by unfold openE; rw [HLO.out, hs2, hE, hvl, hm, if_pos hd9]; rfl
            have o2 : openD D = D := by unfold openD; rw [HLO.out, hs2, hE, hvl, hm, if_pos hd9]; rfl
            have hb9 : Below M W W9 := HB.out.trans (hW.mono (bnl HM.out HB.out))
            refine .inl ⟨o1, bl, F, CFoot bl vr, rfl, ?_, Fr.under F (by rw [HM.out]; exact hb9), fun k hk => by rw [HM.out]; exact HK.out.ge k hk, fun k hk => .inl hk⟩
            rw [o2, hR]
            exact ⟨⟨vr, HDR.out W9 hb9, (HK.out.below hW).base (by rw [← HM.out]; exact HNM.out), fun k => Iff.rfl⟩, fun k hk hf => by have := HK.out.ge k hk; have := HFL.out k hf; omega⟩
          have HWRT : Hid (∀ W', Below w0.heap.size w0 W' → Calls Tryz.prog 15 #[.pointer (some ⟨b, 0, none⟩), .int .i64 (a : Int), .string (zerosB m)] W' fun e w' => e = .returned (.int .i64 0) ∧ RDStep W' w' N b F (writeD D (a : Int) (zerosB m))) := fun W' hW => by
            have hb9 : Below M W W' := HB.out.trans (hW.mono (bnl HM.out HB.out))
            have := refWrite_x W' N b F D n i (a : Int) (zerosB m) (by omega) (by omega) (by rw [hZs]; unfold maxLen; omega) HI.out (by omega) (HDR.out W' hb9)
            have e0 : writeE D (a : Int) (zerosB m) = 0 := by
              unfold writeE
              rw [HLO.out, hZs, insB_nat D a m (by omega)]
              rfl
            rw [e0] at this
            exact this
          have HINV1 : Hid (Inv (writeD D (a : Int) (zerosB m)) n (i + 1)) := HI.out.write _ _
          have HPUT : Hid (¬ D.vis.drop a = zeroL m → openE D = stE (writeD D (a : Int) (zerosB m)) ∧ openD D = syncD (writeD D (a : Int) (zerosB m))) := fun hd9 => by
            constructor
            · unfold openE; rw [HLO.out, hs2, hE, hvl, hm, if_neg hd9]; rfl
            · unfold openD; rw [HLO.out, hs2, hE, hvl, hm, if_neg hd9]; rfl
          have HLT := Lib.hid hm
          have HRE := Lib.hid hR
          clear hm hE hs2 hvl hZs hR
          by_cases hd9 : D.vis.drop a = zeroL m
          · have hYZ : Y = zerosB m := by
              apply ba_ext
              rw [hYd, hZd]
              exact hd9
            have HG := Lib.hid (HGOOD.out hd9)
            have e9 : (Y.toList == (zerosB m).toList) = true := by rw [beq_dec]; exact decide_eq_true hYZ
            generalize zerosB m = Z2 at hcv hcv2 e9 HWRT HINV1 HPUT hZd hYZ
            clear hYZ hYd hZd HGOOD HWRT HINV1 HPUT hd9
            clear c0 c1 c3
            go_wp2_with fail
            go_region
            all_goals
              go_wp2_with fail
              go_ret2
              refine HG.out _ ?_
              repeat (first | (with_reducible exact Below.refl _ _) | (with_reducible refine drew_up ?_) | (with_reducible refine alloc_up ?_ (Nat.le_refl _) _) | (with_reducible refine alloc_up ?_ (by simp) _))
          · have hYZ : ¬ Y = zerosB m := by
              intro e
              apply hd9
              rw [← hYd, e, hZd]
            have HP2 := Lib.hid (HPUT.out hd9)
            have e9 : (Y.toList == (zerosB m).toList) = false := by rw [beq_dec]; exact decide_eq_false hYZ
            generalize zerosB m = Z2 at hcv hcv2 e9 HWRT HINV1 HPUT HP2 hZd hYZ
            generalize writeD D (a : Int) Z2 = D1 at HWRT HINV1 HPUT HP2
            clear hYZ hYd hZd HGOOD HPUT hd9
            clear c0 c1 c3
            go_wp2_with fail
            go_region
            all_goals
              go_wp2_with fail
              refine gen_world (fun W9 => Below w0.heap.size w0 W9) ?_ ?_
              · repeat (first | (with_reducible exact Below.refl _ _) | (with_reducible refine drew_up ?_) | (with_reducible refine alloc_up ?_ (Nat.le_refl _) _) | (with_reducible refine alloc_up ?_ (by simp) _))
              rintro w5 hb5
              have HB5 := Lib.hid hb5
              have HKC : Hid (∀ W', Below w0.heap.size w0 W' → W'.cell? ⟨bl, 2, none⟩ = some (.int .i64 (a : Int))) := fun W' hW => by
                have := (HK.out.below hW).blk.cell 2
                simp only [List.getElem?_cons_zero, List.getElem?_cons_succ] at this
                rw [HAE.out]
                exact this
              have HQ : Hid (Below w0.heap.size w0 w5.drew) := HB5.out.drew
              clear hb5 c2 HSTOP HSC HDAM
              refine wp_region_held_drew (S := fun W => W.cell? ⟨bl, 2, none⟩ = some (.int .i64 (a : Int))) (by kernel_rfl) ?_ (fun hHeld => ?_)
              · exact HKC.out _ HQ.out
              generalize w5.drew = z0 at HQ hHeld ⊢
              refine tk 0 (some 124) ?_
              refine tk 1 (some 125) ?_
              refine tk 2 (some 126) ?_
              refine tk 3 (some 127) ?_
              refine tk 4 (some 128) ?_
              refine tk 5 (some 129) ?_
              refine tk 6 (some 130) ?_
              refine tk 7 (some 131) ?_
              refine tk 8 (some 132) ?_
              refine tk 9 (some 133) ?_
              refine tk 10 (some 134) ?_
              refine rd1 11 (some 135) (fun K hK => ?_)
              go_simp
              have HQ : Hid (Below w0.heap.size w0 (z0.alloc (.cells (zcells m) 5))) := HQ.out.alloc HQ.out.size _
              refine hK.out _ _ ?_ (fun hHeld2 => ?_)
              · exact HKC.out _ HQ.out
              clear hK K hHeld
              rename _ => hHeld
              try simp only [Act.put, List.setIfInBounds_toArray, List.set_cons_zero, List.set_cons_succ]
              refine rd1 12 (some 136) (fun K hK => ?_)
              go_simp
              refine hK.out _ _ ?_ (fun hHeld2 => ?_)
              · exact HKC.out _ HQ.out
              clear hK K hHeld
              rename _ => hHeld
              try simp only [Act.put, List.setIfInBounds_toArray, List.set_cons_zero, List.set_cons_succ]
              refine rd1 13 (some 137) (fun K hK => ?_)
              go_simp
              refine (HWRT.out _ HQ.out).mono ?_
              rintro e w6 ⟨rfl, F1, hr6, hk6, hf6⟩
              have HLZ := Lib.hid (HK.out.below HQ.out)
              have hsepz : ∀ k, CFoot bl vr k → ¬ F k := fun k hk hF => by have := HLZ.out.ge k hk; have := HFL.out k hF; omega
              have HL6 := Lib.hid (HLZ.out.fr hf6 hsepz)
              have HSEP6 : Hid (∀ k, CFoot bl vr k → ¬ F1 k) := fun k hk hF => by
                rcases hk6 k hF with h | h
                · exact hsepz k hk h
                · have := HLZ.out.lt k hk
                  omega
              have hbz : Below M W (z0.alloc (.cells (zcells m) 5)) := HB.out.trans (HQ.out.mono (bnl HM.out HB.out))
              have HK61 : Hid (∀ k, F1 k → F k ∨ M ≤ k) := fun k hk => (hk6 k hk).imp_right (fun h => Nat.le_trans (bnl HM.out hbz) h)
              have HF6 : Hid (Fr (fun k => F k ∨ M ≤ k) W w6) := Fr.trans (S := fun k => F k ∨ M ≤ k) ((Fr.of_below hbz).mono (fun k h => .inr h)) hf6 (fun k _ h => .inl h)
              have HR6 := Lib.hid hr6
              have hc6 := HL6.out.blk.cell 2
              simp only [List.getElem?_cons_zero, List.getElem?_cons_succ] at hc6
              rw [← HAE.out] at hc6
              have HC6 := Lib.hid hc6
              clear hr6 hk6 hf6 hsepz hbz hc6
              go_simp
              refine hK.out _ _ ?_ (fun hHeld2 => ?_)
              · exact HC6.out
              clear hK K hHeld
              rename _ => hHeld
              try simp only [Act.put, List.setIfInBounds_toArray, List.set_cons_zero, List.set_cons_succ]
              refine tk 14 (some 6) ?_
              refine wpAnyH_done (by kernel_rfl) ?_ _
              clear hHeld
              go_wp2_with fail
              refine (refSync_x w6 N b F1 D1 n (i + 1) HINV1.out (by omega) HR6.out).mono ?_
              rintro e w7 ⟨rfl, F2, hr7, hk7, hf7⟩
              obtain ⟨es, hes⟩ : ∃ es, stE D1 = es := ⟨_, rfl⟩
              have HES := Lib.hid hes
              have hf67 : Fr (fun k => F k ∨ M ≤ k) W w7 := HF6.out.trans hf7 (fun k hk hF => (HK61.out k hF).imp_right (fun h => h))
              have hF7 : Fr F W w7 := ⟨hf67.os, hf67.tape, hf67.output, hf67.size, fun k hk hn => hf67.block k hk (fun h => h.elim hn (fun h => by rw [HM.out] at hk; omega))⟩
              have hk72 : ∀ k, F2 k → F k ∨ M ≤ k := fun k hk => by
                rcases hk7 k hk with h | h
                · exact HK61.out k h
                · exact .inr (Nat.le_trans (by have := HF6.out.size; rw [HM.out] at this; exact this) h)
              have hL7 : LkAt w7 M bl b vr pre false := HL6.out.fr hf7 (fun k hk hF => HSEP6.out k hk hF)
              have hsep7 : ∀ k, CFoot bl vr k → ¬ F2 k := fun k hk hF => by
                rcases hk7 k hF with h | h
                · exact HSEP6.out k hk h
                · have := HL6.out.lt k hk
                  omega
              have HR7 := Lib.hid hr7
              have HF7 := Lib.hid hF7
              have HK72 := Lib.hid hk72
              have HL7 := Lib.hid hL7
              have HSEP7 := Lib.hid hsep7
              obtain ⟨hp1, hp2⟩ := HP2.out
              have HP3 := Lib.hid hp1
              have HP4 := Lib.hid hp2
              clear hf67 hF7 hk72 hL7 hsep7 hr7 hk7 hf7 hp1 hp2 HP2
              rw [hes]
              clear hes
              by_cases he0 : es = 0
              · subst he0
                go_wp2_with fail
                go_ret2
                refine .inl ⟨HP3.out.trans HES.out, bl, F2, CFoot bl vr, rfl, ?_, HF7.out, fun k hk => by rw [HM.out]; exact HL7.out.ge k hk, fun k hk => by rw [HM.out]; exact HK72.out k hk⟩
                rw [HP4.out, HRE.out]
                exact ⟨⟨vr, HR7.out, HL7.out.base (by rw [← HM.out]; exact HNM.out), fun k => Iff.rfl⟩, HSEP7.out⟩
              · have hne : (es != 0) = true := by rw [bne_iff_ne]; exact he0
                have HNE := Lib.hid he0
                clear he0
                go_wp2_with fail
                go_ret2
                refine .inr ⟨fun h => HNE.out (HES.out.symm.trans (HP3.out.symm.trans h)), by rw [HP3.out, HES.out]; rfl, F2, by rw [HP4.out]; exact HR7.out, HF7.out, fun k hk => by rw [HM.out]; exact HK72.out k hk⟩
end Go.Proofs.YtfpcdlpfmlaakaaGreatDoor
