/-
  Orders: orders.Decode of any string.
-/
import Derived.Test.YtjkiidhnmljmbaaGreatDoorGoUV
import Derived.Test.YtjkiidhnmljmbaaGreatDoorLits
set_option linter.unusedVariables false
set_option linter.unusedSimpArgs false
namespace Go.Proofs.YtjkiidhnmljmbaaGreatDoor
open Go.RowKit Go.Extern.Stop Go.Stop Go.Extern Onair
/-- The four sentinels. -/
structure Sent (W : World) (es em er eb : Addr) : Prop where
  s : W.cell? ⟨0, 0, none⟩ = some (.iface 196 (.pointer (some es)))
  m : W.cell? ⟨1, 0, none⟩ = some (.iface 196 (.pointer (some em)))
  w : W.cell? ⟨2, 0, none⟩ = some (.iface 196 (.pointer (some er)))
  r : W.cell? ⟨3, 0, none⟩ = some (.iface 196 (.pointer (some eb)))
  am : Apart W em es
  ar : Apart W eb er
theorem Sent.below {W W' : World} {es em er eb : Addr} (h : Sent W es em er eb) (hb : Below W.heap.size W W') : Sent W' es em er eb :=
  ⟨(hb.cell (p := ⟨0, 0, none⟩) (block_lt h.s)).trans h.s, (hb.cell (p := ⟨1, 0, none⟩) (block_lt h.m)).trans h.m, (hb.cell (p := ⟨2, 0, none⟩) (block_lt h.w)).trans h.w, (hb.cell (p := ⟨3, 0, none⟩) (block_lt h.r)).trans h.r, h.am.below hb, h.ar.below hb⟩
set_option maxHeartbeats 16000000 in
set_option maxRecDepth 100000 in
theorem ocatch_mean (r1 r2 : Nat) (a c : Int) (x er : Addr) (l : List Value) (w : World) (hl : l.length = 31) (h1 : Blk w r1 32 l) (h2 : Blk w r2 35 [.int .i64 c]) (hne : r1 ≠ r2) (hg : w.cell? ⟨0, 0, none⟩ = some (.iface 196 (.pointer (some er)))) (hg1 : 0 ≠ r1) (hg2 : 0 ≠ r2)
    (hx : Apart w x er) (e1 : x.block ≠ r1) (e2 : x.block ≠ r2) (e3 : er.block ≠ r1) (e4 : er.block ≠ r2) :
    CallsD Tryz.prog 38 #[.pointer (some ⟨r1, 0, none⟩), .pointer (some ⟨r2, 0, none⟩)] (.panicking [faultE a (.iface 196 (.pointer (some x)))]) w fun e u' w' =>
      e = .returned (.tuple #[]) ∧ u' = .panicking [{ faultE a (.iface 196 (.pointer (some x))) with recovered := true }] ∧ Blk w' r1 32 (msgJ 0) ∧ Blk w' r2 35 [.int .i64 200] ∧ Fr (fun k => k = r1 ∨ k = r2) w w' := by
  refine callsD_of_wpS Tryz.func38 rfl fun c₀ cs hu => ?_
  have hta : ∀ w : World, (Instr.typeAssert (.iface 89 (.agg #[.int .i64 a, .iface 196 (.pointer (some x))])) 20 89 true).run Tryz.prog w = .ok (.tuple #[.agg #[.int .i64 a, .iface 196 (.pointer (some x))], .bool true]) w := fun w => by kernel_rfl
  obtain ⟨w1, hw1⟩ : ∃ w1, w.setRow r1 zMa = w1 := ⟨_, rfl⟩
  have a1 : Blk w1 r1 32 zMl := by rw [← hw1]; exact h1.setRow zMl
  have b1 : Blk w1 r2 35 [.int .i64 c] := by rw [← hw1]; exact h2.kept (heap_setRow_other _ _ _ _ (fun e => hne e.symm))
  have hf1 : Fr (fun k => k = r1 ∨ k = r2) w w1 := by rw [← hw1]; exact (Fr.refl _ w).setRow r1 _ (.inl (.inl rfl))
  have g1 : w1.cell? ⟨0, 0, none⟩ = some (.iface 196 (.pointer (some er))) := by
    rw [← hw1]
    unfold World.cell? at hg ⊢
    rw [heap_setRow_other _ _ _ _ hg1]
    exact hg
  have c1 := b1.cell 0
  have f1 := b1.frozen 0
  simp only [List.getElem?_cons_zero] at c1
  have HK1 := Lib.hid h1
  have HW1 := Lib.hid hw1
  have HSG := Lib.hid (show (Tryz.prog.info? 32).map (·.size) = some 31 from by kernel_rfl)
  have HO1 : Hid ((zMa : Array Value).all (·.oneCell') = true) := (by simp [Value.oneCell'] : (zMa : Array Value).all (·.oneCell') = true)
  have HO2 : Hid (l.toArray.size = (zMa : Array Value).size) := (by rw [List.size_toArray, hl]; rfl : l.toArray.size = (zMa : Array Value).size)
  have HA2 := Lib.hid (a1.other ⟨r2, 0, none⟩ (fun e => hne e.symm) (.int .i64 200))
  have HB2 := Lib.hid (b1.set 0 (.int .i64 200))
  have HF2 := Lib.hid (hf1.setCell ⟨r2, 0, none⟩ (.int .i64 200) (.inl (.inr rfl)))
  have HG2 : Hid ((w1.setCell ⟨r2, 0, none⟩ (.int .i64 200)).cell? ⟨0, 0, none⟩ = some (.iface 196 (.pointer (some er)))) := (World.cell?_setCell_far _ _ _ _ (fun e => hg2 e.symm)).trans g1
  have HX : Hid (Apart (w1.setCell ⟨r2, 0, none⟩ (.int .i64 200)) x er) := by
    obtain ⟨n1, ⟨ca, ta, ha⟩, ⟨cb, tb, hb⟩⟩ := hx
    refine ⟨n1, ⟨ca, ta, ?_⟩, ⟨cb, tb, ?_⟩⟩
    · rw [Below.heap_setCell _ _ _ _ e2, ← hw1, heap_setRow_other _ _ _ _ e1]; exact ha
    · rw [Below.heap_setCell _ _ _ _ e4, ← hw1, heap_setRow_other _ _ _ _ e3]; exact hb
  clear h1 h2 hne hg hg1 hg2 hw1 a1 b1 hf1 g1 hl hx e1 e2 e3 e4
  unfold faultE at hu ⊢
  apply wpS_seq
  apply wpS_region
  simp [wpOpsS, go_sem, recoverD, hu, Tryz.ntmps38, Exit.thenS]
  refine wpS_of_wp ?_
  simp only [Array.replicate, List.replicate, List.setIfInBounds_toArray, List.set_cons_zero, List.set_cons_succ, List.append_toArray, List.cons_append, List.nil_append]
  go_upto_region 3 with (refine wpList_store_row rfl 32 (.tmp 0) (.tmp 8) rfl r1 zMa rfl rfl 32 _ HK1.out HSG.out HO2.out HO1.out ?_; rw [HW1.out])
  generalize World.setCell _ _ _ = w2 at HA2 HB2 HF2 HG2 HX ⊢
  obtain ⟨w3, hw3⟩ : ∃ w3, w2.alloc (.cells #[.int .i64 a, .iface 196 (.pointer (some x))] 89) = w3 := ⟨_, rfl⟩
  have hb3 : Below w2.heap.size w2 w3 := by rw [← hw3]; exact (Below.refl _ w2).alloc (Nat.le_refl _) _
  have g3 : w3.cell? ⟨0, 0, none⟩ = some (.iface 196 (.pointer (some er))) := (hb3.cell (p := ⟨0, 0, none⟩) (block_lt HG2.out)).trans HG2.out
  have HX3 := Lib.hid (HX.out.below hb3)
  have HA3 := Lib.hid (HA2.out.kept (hb3.block _ HA2.out.lt))
  have HB3 := Lib.hid (HB2.out.kept (hb3.block _ HB2.out.lt))
  have HF3 := Lib.hid (HF2.out.trans (Fr.under (fun _ => False) hb3) (fun _ _ e => e.elim))
  have kx : Blk w3 w2.heap.size 89 [.int .i64 a, .iface 196 (.pointer (some x))] := by rw [← hw3]; exact Blk.new w2 _ _
  have x0 := kx.cell 0
  have x1 := kx.cell 1
  simp only [List.getElem?_cons_zero, List.getElem?_cons_succ] at x0 x1
  clear c1 f1 hb3 kx
  go_wp2_with fail
  clear x0 x1
  refine (is_fault_other a x er _ HX3.out).mono ?_
  rintro e w4 ⟨rfl, hb4⟩
  have HA4 := Lib.hid (HA3.out.kept (hb4.block _ HA3.out.lt))
  have HB4 := Lib.hid (HB3.out.kept (hb4.block _ HB3.out.lt))
  have HF4 := Lib.hid (HF3.out.trans (Fr.under (fun _ => False) hb4) (fun _ _ e => e.elim))
  clear hb4 g3
  go_wp2_with fail
  exact ⟨rfl, _, rfl, _, by simp [results, Tryz.results38, go_sem], rfl, rfl, HA4.out, HB4.out, HF4.out⟩
def MOd.withA (m : MOd) (oa : Option Addr) (ac : Nat) : MOd := { m with o := m.o.withA oa ac }
/-- How orders.Decode ends. -/
def MDecPost (W : World) (R : OutM) (e : Ending) (w' : World) : Prop :=
  Below W.heap.size W w' ∧ match R with
  | .short => e = .returned (.tuple #[.agg zeroM.l.toArray, .int .i64 10])
  | .mean => e = .returned (.tuple #[.agg zeroM.l.toArray, .int .i64 200])
  | .ok m al => ∃ oa ac, e = .returned (.tuple #[.agg (m.withA oa ac).l.toArray, .int .i64 0]) ∧ RdA w' oa al ∧ ∀ a, oa = some a → W.heap.size ≤ a.block
theorem MDecPost.s {W w' : World} {R : OutM} (h : R = .short) (hb : Below W.heap.size W w') : MDecPost W R (.returned (.tuple #[.agg zeroM.l.toArray, .int .i64 10])) w' := by subst h; exact ⟨hb, rfl⟩
theorem MDecPost.m {W w' : World} {R : OutM} (h : R = .mean) (hb : Below W.heap.size W w') : MDecPost W R (.returned (.tuple #[.agg zeroM.l.toArray, .int .i64 200])) w' := by subst h; exact ⟨hb, rfl⟩
theorem decR_back {l : List UInt8} {o : GOd} {al : List (Int × Int)} (h : decR l = .ok o al) : ordR l = .ok o al ∧ okB o al = true := by
  unfold decR at h
  cases hr : ordR l with
  | wire => rw [hr] at h; cases h
  | bad => rw [hr] at h; cases h
  | ok o2 al2 =>
    rw [hr] at h
    dsimp only at h
    by_cases hb : okB o2 al2 = true
    · rw [if_pos hb] at h; cases h; exact ⟨rfl, hb⟩
    · rw [if_neg hb] at h; cases h
theorem store_msgO (m : MOd) (q : GOd) : setsL m.l 5 q.l = ({ m with o := q } : MOd).l := by kernel_rfl
set_option maxHeartbeats 16000000 in
set_option maxRecDepth 100000 in
theorem gODec (s : ByteArray) (W : World) (es em er eb : Addr) (hs : s.size ≤ maxLen) (hse : Sent W es em er eb) :
    Calls Tryz.prog 10 #[.string s] W fun e w' => MDecPost W (msgR s.data.toList) e w' := by
  have hmf : ∀ (fn : Fn) (first cap : Array Value) (w : World), (Instr.makeFunc fn first cap).run Tryz.prog w = .ok (.func fn first cap) w := fun _ _ _ _ => rfl
  obtain ⟨N, hN⟩ : ∃ N, W.heap.size = N := ⟨_, rfl⟩
  have HD0 := Lib.hid (dcs_new W N s hN)
  have HSE : Hid (∀ w', Below N W w' → Sent w' es em er eb) := fun w' h => hse.below (hN ▸ h)
  have hal : em.block < N ∧ es.block < N := by
    obtain ⟨_, ⟨ca, ta, h1⟩, ⟨cb, tb, h2⟩⟩ := hse.am
    rw [← hN]
    exact ⟨(Array.getElem?_eq_some_iff.1 h1).1, (Array.getElem?_eq_some_iff.1 h2).1⟩
  have HGL : Hid (0 < N ∧ em.block < N ∧ es.block < N) := ⟨by rw [← hN]; exact block_lt hse.s, hal⟩
  have HSM := Lib.hid hs
  have HSZ := Lib.hid (show (Tryz.prog.info? 30).map (·.size) = some 26 from by kernel_rfl)
  have HSG := Lib.hid (show (Tryz.prog.info? 32).map (·.size) = some 31 from by kernel_rfl)
  have HNN := Lib.hid hN
  obtain ⟨l, hl⟩ : ∃ l, s.data.toList = l := ⟨_, rfl⟩
  obtain ⟨R, hR⟩ : ∃ R, msgR l = R := ⟨_, rfl⟩
  rw [hl, hR]
  have HLS : Hid (s.size = l.length) := (by rw [← hl]; exact (blen s).symm : s.size = l.length)
  have HL := Lib.hid hl
  have HRR := Lib.hid hR
  have HNX : Hid (∀ ofs : Nat, ofs < 31 → ∀ cs : List Value, cs.length = 31 → ∃ v, cs[ofs]? = some v) := fun ofs h cs hc => ⟨cs[ofs]'(by omega), List.getElem?_eq_getElem _⟩
  clear hN hs hse hal hl hR
  go_enter_defers Tryz.func10, Tryz.ntmps10
  go_wp2_with fail
  rw [HNN.out]
  obtain ⟨x0, hx0⟩ : ∃ x0, ((((W.alloc (.cells zMa 32)).alloc (.cells #[.int .i64 0] 35)).alloc (.cells #[.string s, .int .i64 0] 94)).alloc (.cells zMa 32)) = x0 := ⟨_, rfl⟩
  rw [hx0] at HD0 ⊢
  clear hx0
  by_cases h0 : (intR l 0).2.2 = 0
  · have HC := Lib.hid (num_ok (N + 2) s (0 : Int) x0 HSM.out HD0.out.ki (by rw [HL.out]; exact h0))
    rw [HL.out] at HC
    have HRM : Hid (¬ (1 ≤ (intR l 0).1 ∧ (intR l 0).1 ≤ 3) → R = .mean) := (fun hk => HRR.out.symm.trans (msgR_mean h0 hk) : ¬ (1 ≤ (intR l 0).1 ∧ (intR l 0).1 ≤ 3) → R = .mean)
    have HRN : Hid (1 ≤ (intR l 0).1 ∧ (intR l 0).1 ≤ 3 → readN l 4 (intR l 0).2.1 = none → R = .short) := (fun hk hr => HRR.out.symm.trans (msgR_none h0 hk hr) : 1 ≤ (intR l 0).1 ∧ (intR l 0).1 ≤ 3 → readN l 4 (intR l 0).2.1 = none → R = .short)
    have HRS : Hid (1 ≤ (intR l 0).1 ∧ (intR l 0).1 ≤ 3 → ∀ (vs : List Int) (b : Int), readN l 4 (intR l 0).2.1 = some (vs, b) → R = msgT l (intR l 0).1 vs b) := (fun hk vs b hr => HRR.out.symm.trans (msgR_some h0 hk hr) : 1 ≤ (intR l 0).1 ∧ (intR l 0).1 ≤ 3 → ∀ (vs : List Int) (b : Int), readN l 4 (intR l 0).2.1 = some (vs, b) → R = msgT l (intR l 0).1 vs b)
    obtain ⟨kd, hkd⟩ : ∃ kd, (intR l 0).1 = kd := ⟨_, rfl⟩
    obtain ⟨a1, ha1⟩ : ∃ a1, (intR l 0).2.1 = a1 := ⟨_, rfl⟩
    rw [hkd, ha1] at HC HRN HRS
    rw [hkd] at HRM
    clear h0 hkd ha1 HRR
    refine HC.out.mono ?_
    rintro e w5 ⟨rfl, hk5, hf5⟩
    have hd5 := HD0.out.num hk5 hf5
    have c1 : w5.cell? ⟨N + 3, 0, none⟩ = some (.int .i64 0) := hd5.km.cell 0
    have f1 := hd5.km.frozen 0
    obtain ⟨w6, hw6⟩ : ∃ w6, w5.setCell ⟨N + 3, 0, none⟩ (.int .i64 kd) = w6 := ⟨_, rfl⟩
    have hd6 : DcS W N s a1 (setL (zeroM.l.set 0 (.int .i64 kd)) [1, 2, 3, 4] []) w6 := by rw [← hw6]; exact hd5.set 0 (.int .i64 kd)
    have c0 : w6.cell? ⟨N + 3, 0, none⟩ = some (.int .i64 kd) := hd6.km.cell 0
    have HD6 := Lib.hid hd6
    have gm : w6.cell? ⟨1, 0, none⟩ = some (.iface 196 (.pointer (some em))) := (HSE.out w6 hd6.bel).m
    clear hk5 hf5 hd5 hd6 HC HD0
    by_cases hkr : ¬ (1 ≤ kd ∧ kd ≤ 3)
    · have HRX := Lib.hid (HRM.out hkr)
      rcases (show kd < 1 ∨ (¬ kd < 1 ∧ kd > 3) from by omega) with p1 | ⟨p1, p2⟩
      · clear hkr
        go_wp2_with fail
        refine (refuse_any (N + 2) s a1 (.pointer (some em)) _ HD6.out.ki).mono ?_
        rintro e w' ⟨rfl, rfl⟩
        go_wp2_with fail
        have h0 := HGL.out
        refine leaves_cons (f := 38) (args := #[.pointer (some ⟨N, 0, none⟩), .pointer (some ⟨N + 1, 0, none⟩)]) (by simp) (by simp [go_sem]) ?_
        refine (ocatch_mean N (N + 1) a1 0 em es (msgJ 0) w6 rfl HD6.out.ka HD6.out.kb (by omega) (HSE.out w6 HD6.out.bel).s (by omega) (by omega) (HSE.out w6 HD6.out.bel).am (by omega) (by omega) (by omega) (by omega)).mono ?_
        rintro e u' wz ⟨rfl, rfl, k1, k2, hf⟩
        exact ⟨_, res_two Tryz.results10 rfl rfl (load_msg rfl k1) (load_errno k2), MDecPost.m HRX.out (by rw [HNN.out]; exact HD6.out.bel.trans (hf.below N (by have := HD6.out.ka.lt; omega) (fun k e => by omega)))⟩
      · clear hkr
        go_wp2_with fail
        refine (refuse_any (N + 2) s a1 (.pointer (some em)) _ HD6.out.ki).mono ?_
        rintro e w' ⟨rfl, rfl⟩
        go_wp2_with fail
        have h0 := HGL.out
        refine leaves_cons (f := 38) (args := #[.pointer (some ⟨N, 0, none⟩), .pointer (some ⟨N + 1, 0, none⟩)]) (by simp) (by simp [go_sem]) ?_
        refine (ocatch_mean N (N + 1) a1 0 em es (msgJ 0) w6 rfl HD6.out.ka HD6.out.kb (by omega) (HSE.out w6 HD6.out.bel).s (by omega) (by omega) (HSE.out w6 HD6.out.bel).am (by omega) (by omega) (by omega) (by omega)).mono ?_
        rintro e u' wz ⟨rfl, rfl, k1, k2, hf⟩
        exact ⟨_, res_two Tryz.results10 rfl rfl (load_msg rfl k1) (load_errno k2), MDecPost.m HRX.out (by rw [HNN.out]; exact HD6.out.bel.trans (hf.below N (by have := HD6.out.ka.lt; omega) (fun k e => by omega)))⟩
    have hkr : 1 ≤ kd ∧ kd ≤ 3 := Decidable.not_not.1 hkr
    have p1 : ¬ kd < 1 := by omega
    have p2 : ¬ kd > 3 := by omega
    have HRN2 := Lib.hid (HRN.out hkr)
    have HRS2 := Lib.hid (HRS.out hkr)
    clear hkr HRM HRN HRS gm
    go_wp2_with fail
    clear c1 f1 c0 hw6 p1 p2
    go_loopw [34] (fun vi wr => ∃ (j : Nat) (vs : List Int) (a : Int), j ≤ 4 ∧ vi = .int .i64 j ∧ Hid (RdSt l 4 a1 j vs a) ∧ Hid (DcS W N s a (setL (zeroM.l.set 0 (.int .i64 kd)) [1, 2, 3, 4] vs) wr)) (fun v _ => 4 - (intOf v).toNat)
    case atStart => exact ⟨0, [], a1, by omega, rfl, RdSt.start l 4 a1, HD6⟩
    case round =>
      clear HD6
      obtain ⟨j, vs, a, hj, rfl, HST, HD⟩ := hrel
      by_cases h : j < 4
      · have q1 : (j : Int) < 4 := by omega
        have hidx : ∀ W', (Instr.index 98 (.agg #[.pointer (some ⟨N + 3, 1, none⟩), .pointer (some ⟨N + 3, 2, none⟩), .pointer (some ⟨N + 3, 3, none⟩), .pointer (some ⟨N + 3, 4, none⟩)]) (.int .i64 j)).run Tryz.prog W' = .ok (.pointer (some ⟨N + 3, j + 1, none⟩)) W' := fun W' => by
          rcases (show j = 0 ∨ j = 1 ∨ j = 2 ∨ j = 3 from by omega) with rfl | rfl | rfl | rfl <;> kernel_rfl
        have hfs : ([1, 2, 3, 4] : List Nat)[vs.length]? = some (j + 1) := by
          rw [HST.out.1]
          rcases (show j = 0 ∨ j = 1 ∨ j = 2 ∨ j = 3 from by omega) with rfl | rfl | rfl | rfl <;> rfl
        by_cases h0 : (intR l a).2.2 = 0
        · have HC := Lib.hid (num_ok (N + 2) s a wr HSM.out HD.out.ki (by rw [HL.out]; exact h0))
          have HNX2 := Lib.hid (HST.out.next h h0)
          have HSN := Lib.hid (setL_snoc vs (zeroM.l.set 0 (.int .i64 kd)) [1, 2, 3, 4] (j + 1) (intR l a).1 hfs)
          rw [HL.out] at HC
          obtain ⟨x, hx⟩ : ∃ x, (intR l a).1 = x := ⟨_, rfl⟩
          obtain ⟨a2, ha2⟩ : ∃ a2, (intR l a).2.1 = a2 := ⟨_, rfl⟩
          rw [hx, ha2] at HC HNX2
          rw [hx] at HSN
          clear h h0 hfs hx ha2
          go_wp2_with fail
          clear hidx
          refine HC.out.mono ?_
          rintro e w5 ⟨rfl, hk5, hf5⟩
          have hd5 := HD.out.num hk5 hf5
          obtain ⟨v0, hv0⟩ := HNX.out (j + 1) (by omega) (setL (zeroM.l.set 0 (.int .i64 kd)) [1, 2, 3, 4] vs) (by rw [setL_len]; rfl)
          have c1 : w5.cell? ⟨N + 3, j + 1, none⟩ = some v0 := (hd5.km.cell (j + 1)).trans hv0
          have f1 := hd5.km.frozen (j + 1)
          have HD7 : Hid (DcS W N s a2 (setL (zeroM.l.set 0 (.int .i64 kd)) [1, 2, 3, 4] (vs ++ [x])) (w5.setCell ⟨N + 3, j + 1, none⟩ (.int .i64 x))) := by rw [HSN.out]; exact hd5.set (j + 1) (.int .i64 x)
          clear hk5 hf5 hd5 HC hv0 HSN
          go_wp2_with fail
          clear c1 f1
          go_roundw
          case rel => exact ⟨j + 1, _, _, by omega, by go_num, HNX2, HD7⟩
          case measure => simp [intOf]; omega
        · have HRX : Hid (R = .short) := HRN2.out (HST.out.bad h h0)
          have HC := Lib.hid (num_bad (N + 2) s a wr es (HSE.out wr HD.out.bel).s HSM.out HD.out.ki (by rw [HL.out]; exact h0))
          clear h h0 hfs
          go_wp2_with fail
          refine HC.out.mono ?_
          rintro e w5 ⟨rfl, hb5⟩
          have HD5 := Lib.hid (HD.out.below hb5)
          clear hb5
          go_wp2_with fail
          have h0 := HGL.out
          refine leaves_cons (f := 38) (args := #[.pointer (some ⟨N, 0, none⟩), .pointer (some ⟨N + 1, 0, none⟩)]) (by simp) (by simp [go_sem]) ?_
          refine (ocatch_short N (N + 1) a 0 es (msgJ 0) w5 rfl HD5.out.ka HD5.out.kb (by omega) (HSE.out w5 HD5.out.bel).s (by omega) (by omega)).mono ?_
          rintro e u' wz ⟨rfl, rfl, k1, k2, hf⟩
          exact ⟨_, res_two Tryz.results10 rfl rfl (load_msg rfl k1) (load_errno k2), MDecPost.s HRX.out (by rw [HNN.out]; exact HD5.out.bel.trans (hf.below N (by have := HD5.out.ka.lt; omega) (fun k e => by omega)))⟩
      · have q1 : ¬ (j : Int) < 4 := by omega
        obtain rfl : j = 4 := by omega
        have HRT : Hid (R = msgT l kd vs a) := HRS2.out vs a HST.out.done
        have hd := HD.out
        rw [set_m5 kd vs HST.out.1] at hd
        have HD := Lib.hid hd
        have c0 : wr.cell? ⟨N + 3, 0, none⟩ = some (.int .i64 kd) := hd.km.cell 0
        clear h hj hd HST HRS2 HRN2
        by_cases hk1 : kd = 1
        · rw [hk1] at c0
          by_cases h0 : (strR l a).2.2 = 0
          · have HC := Lib.hid (txt_ok (N + 2) s a wr HSM.out HD.out.ki (by rw [HL.out]; exact h0))
            rw [HL.out] at HC
            have HRF : Hid (R = msgF l kd vs (strR l a).2.1 (strR l a).1) := HRT.out.trans (msgT_1s hk1 h0)
            obtain ⟨a3, ha3⟩ : ∃ a3, (strR l a).2.1 = a3 := ⟨_, rfl⟩
            obtain ⟨z, hz⟩ : ∃ z : ByteArray, (⟨(strR l a).1.toArray⟩ : ByteArray) = z := ⟨_, rfl⟩
            obtain ⟨t, ht⟩ : ∃ t, (strR l a).1 = t := ⟨_, rfl⟩
            have hzt : z.data.toList = t := by rw [← hz, ← ht]
            have hzs : z.size ≤ maxLen := by
              rw [← blen, hzt, ← ht]
              by_cases h1 : (intR l a).2.2 = 0
              · by_cases h2 : (intR l a).1 < 0 ∨ 65536 < (intR l a).1 ∨ (l.length : Int) - (intR l a).2.1 < (intR l a).1
                · rw [strR_bad h1 h2]; exact Nat.zero_le _
                · rw [strR_good h1 h2]
                  show (List.take _ _).length ≤ _
                  rw [List.length_take]
                  unfold maxLen
                  omega
              · rw [strR_err h1]; exact Nat.zero_le _
            rw [ha3, hz] at HC
            rw [ha3, ht] at HRF
            have HZT := Lib.hid hzt
            have HZS := Lib.hid hzs
            have HK1 := Lib.hid hk1
            clear h0 ha3 hz ht hzt hzs hk1 HRT
            go_wp2_with fail
            refine HC.out.mono ?_
            rintro e w5 ⟨rfl, hk5, hf5⟩
            have HD5 := Lib.hid (HD.out.num hk5 hf5)
            have HZ5 : Hid (N + 3 < w5.heap.size) := HD5.out.km.lt
            have c0 : w5.cell? ⟨N + 3, 0, none⟩ = some (.int .i64 kd) := HD5.out.km.cell 0
            rw [HK1.out] at c0
            have c1 : w5.cell? ⟨N + 2, 1, none⟩ = some (.int .i64 a3) := hk5.cell 1
            clear hk5 hf5 HC HD
            by_cases ha : a3 = (s.size : Int)
            · have hne : (a3 != (s.size : Int)) = false := by rw [ha]; simp
              have HRO : Hid (R = msgO kd vs (decR t)) := HRF.out.trans (msgF_1 (by rw [← HLS.out]; exact ha) HK1.out)
              have HID := Lib.hid (gRDec z w5 er eb HZS.out (HSE.out w5 HD5.out.bel).w (HSE.out w5 HD5.out.bel).r (HSE.out w5 HD5.out.bel).ar)
              rw [HZT.out] at HID
              clear ha HRF
              go_wp2_with fail
              refine HID.out.mono ?_
              rintro e w6 ⟨hb6, he⟩
              have HD6 := Lib.hid (HD5.out.below hb6)
              obtain ⟨D, hD⟩ : ∃ D, decR t = D := ⟨_, rfl⟩
              rw [hD] at he HRO
              have HDD := Lib.hid hD
              clear hb6 HD5 HID c0 c1 hD hne
              cases D with
              | wire =>
                dsimp only at he
                subst he
                have HRX : Hid (R = .mean) := HRO.out
                obtain ⟨ob, hob⟩ : ∃ ob, w6.heap.size = ob := ⟨_, rfl⟩
                obtain ⟨w7, hw7⟩ : ∃ w7, w6.alloc (.cells zOa 30) = w7 := ⟨_, rfl⟩
                have hb7 : Below w6.heap.size w6 w7 := by rw [← hw7]; exact (Below.refl _ w6).alloc (Nat.le_refl _) _
                have ko7 : Blk w7 ob 30 zOl := by rw [← hw7, ← hob]; exact Blk.new w6 _ _
                obtain ⟨w8, hw8⟩ : ∃ w8, w7.setRow ob zeroO.l.toArray = w8 := ⟨_, rfl⟩
                have hb8 : Below w6.heap.size w6 w8 := by rw [← hw8]; exact below_setRow hb7 (by omega) _
                have HD8 := Lib.hid (HD6.out.below hb8)
                have HK7 := Lib.hid ko7
                have HW8 := Lib.hid hw8
                have HO1 : Hid (zeroO.l.toArray.all (·.oneCell') = true) := zeroO.oneC
                have HO2 : Hid (zOa.size = zeroO.l.toArray.size) := rfl
                have gm : w8.cell? ⟨1, 0, none⟩ = some (.iface 196 (.pointer (some em))) := (HSE.out w8 HD8.out.bel).m
                have c0 : w6.cell? ⟨N + 3, 0, none⟩ = some (.int .i64 kd) := HD6.out.km.cell 0
                rw [HK1.out] at c0
                clear hb7 ko7 hw8 hb8
                go_wp2_with (refine wpList_store_row rfl 30 (.tmp 9) (.tmp 63) rfl ob zeroO.l.toArray rfl rfl 30 _ HK7.out HSZ.out HO2.out HO1.out ?_; rw [HW8.out])
                refine (refuse_any (N + 2) s a3 (.pointer (some em)) _ HD8.out.ki).mono ?_
                rintro e w' ⟨rfl, rfl⟩
                go_wp2_with fail
                have h0 := HGL.out
                refine leaves_cons (f := 38) (args := #[.pointer (some ⟨N, 0, none⟩), .pointer (some ⟨N + 1, 0, none⟩)]) (by simp) (by simp [go_sem]) ?_
                refine (ocatch_mean N (N + 1) a3 0 em es (msgJ 0) w8 rfl HD8.out.ka HD8.out.kb (by omega) (HSE.out w8 HD8.out.bel).s (by omega) (by omega) (HSE.out w8 HD8.out.bel).am (by omega) (by omega) (by omega) (by omega)).mono ?_
                rintro e u' wz ⟨rfl, rfl, k1, k2, hf⟩
                exact ⟨_, res_two Tryz.results10 rfl rfl (load_msg rfl k1) (load_errno k2), MDecPost.m HRX.out (by rw [HNN.out]; exact HD8.out.bel.trans (hf.below N (by have := HD8.out.ka.lt; omega) (fun k e => by omega)))⟩
              | bad =>
                dsimp only at he
                subst he
                have HRX : Hid (R = .mean) := HRO.out
                obtain ⟨ob, hob⟩ : ∃ ob, w6.heap.size = ob := ⟨_, rfl⟩
                obtain ⟨w7, hw7⟩ : ∃ w7, w6.alloc (.cells zOa 30) = w7 := ⟨_, rfl⟩
                have hb7 : Below w6.heap.size w6 w7 := by rw [← hw7]; exact (Below.refl _ w6).alloc (Nat.le_refl _) _
                have ko7 : Blk w7 ob 30 zOl := by rw [← hw7, ← hob]; exact Blk.new w6 _ _
                obtain ⟨w8, hw8⟩ : ∃ w8, w7.setRow ob zeroO.l.toArray = w8 := ⟨_, rfl⟩
                have hb8 : Below w6.heap.size w6 w8 := by rw [← hw8]; exact below_setRow hb7 (by omega) _
                have HD8 := Lib.hid (HD6.out.below hb8)
                have HK7 := Lib.hid ko7
                have HW8 := Lib.hid hw8
                have HO1 : Hid (zeroO.l.toArray.all (·.oneCell') = true) := zeroO.oneC
                have HO2 : Hid (zOa.size = zeroO.l.toArray.size) := rfl
                have gm : w8.cell? ⟨1, 0, none⟩ = some (.iface 196 (.pointer (some em))) := (HSE.out w8 HD8.out.bel).m
                have c0 : w6.cell? ⟨N + 3, 0, none⟩ = some (.int .i64 kd) := HD6.out.km.cell 0
                rw [HK1.out] at c0
                clear hb7 ko7 hw8 hb8
                go_wp2_with (refine wpList_store_row rfl 30 (.tmp 9) (.tmp 63) rfl ob zeroO.l.toArray rfl rfl 30 _ HK7.out HSZ.out HO2.out HO1.out ?_; rw [HW8.out])
                refine (refuse_any (N + 2) s a3 (.pointer (some em)) _ HD8.out.ki).mono ?_
                rintro e w' ⟨rfl, rfl⟩
                go_wp2_with fail
                have h0 := HGL.out
                refine leaves_cons (f := 38) (args := #[.pointer (some ⟨N, 0, none⟩), .pointer (some ⟨N + 1, 0, none⟩)]) (by simp) (by simp [go_sem]) ?_
                refine (ocatch_mean N (N + 1) a3 0 em es (msgJ 0) w8 rfl HD8.out.ka HD8.out.kb (by omega) (HSE.out w8 HD8.out.bel).s (by omega) (by omega) (HSE.out w8 HD8.out.bel).am (by omega) (by omega) (by omega) (by omega)).mono ?_
                rintro e u' wz ⟨rfl, rfl, k1, k2, hf⟩
                exact ⟨_, res_two Tryz.results10 rfl rfl (load_msg rfl k1) (load_errno k2), MDecPost.m HRX.out (by rw [HNN.out]; exact HD8.out.bel.trans (hf.below N (by have := HD8.out.ka.lt; omega) (fun k e => by omega)))⟩
              | ok o al =>
                obtain ⟨hor, hokb⟩ := decR_back HDD.out
                obtain ⟨_, _, hal7, han, _, _, htx⟩ := ordR_back hor
                obtain ⟨oa, ac, rfl, hra, hfr⟩ := he
                have HRK : Hid (R = okR (m5 kd vs o) al) := HRO.out
                obtain ⟨q, hq⟩ : ∃ q, o.withA oa ac = q := ⟨_, rfl⟩
                have hqo : q.ao = oa := by rw [← hq]; rfl
                have hqn : al.length = q.an := by rw [← hq]; exact han.symm
                have hqt : q.txt.size ≤ maxLen := by rw [← hq]; show o.txt.size ≤ _; unfold maxLen; omega
                obtain ⟨m, hm⟩ : ∃ m, m5 kd vs q = m := ⟨_, rfl⟩
                have hmq : m.o = q := by rw [← hm]; rfl
                have hmk : okM m al = okM (m5 kd vs o) al := by rw [← hm, ← hq]; rfl
                have HMW : Hid ((m5 kd vs o).withA oa ac = m) := (by rw [← hm, ← hq]; rfl : (m5 kd vs o).withA oa ac = m)
                rw [hq]
                obtain ⟨ob, hob⟩ : ∃ ob, w6.heap.size = ob := ⟨_, rfl⟩
                obtain ⟨w7, hw7⟩ : ∃ w7, w6.alloc (.cells zOa 30) = w7 := ⟨_, rfl⟩
                have hb7 : Below w6.heap.size w6 w7 := by rw [← hw7]; exact (Below.refl _ w6).alloc (Nat.le_refl _) _
                have ko7 : Blk w7 ob 30 zOl := by rw [← hw7, ← hob]; exact Blk.new w6 _ _
                have hNo : N + 3 < ob := by rw [← hob]; exact HD6.out.km.lt
                obtain ⟨w8, hw8⟩ : ∃ w8, w7.setRow ob q.l.toArray = w8 := ⟨_, rfl⟩
                have ko8 : Blk w8 ob 30 q.l := by rw [← hw8]; exact ko7.setRow _
                have hb8 : Below w6.heap.size w6 w8 := by rw [← hw8]; exact below_setRow hb7 (by omega) _
                have hd8 := HD6.out.below hb8
                have hra8 : RdA w8 oa al := hra.kept hb8
                have HTH := Lib.hid (hd8.km.there 5 26 (Nat.le_refl 31))
                have km9 := Blk.sets q.l 5 hd8.km
                rw [store_msgO (m5 kd vs zeroO) q, show ({ m5 kd vs zeroO with o := q } : MOd) = m from hm] at km9
                have hfs : Fr (fun c => c = N + 3) w8 (w8.setCells (N + 3) 5 q.l) := Fr.setCells (S := fun c => c = N + 3) (N + 3) q.l 5 (Fr.refl _ w8) (.inl rfl)
                have ka9 : Blk (w8.setCells (N + 3) 5 q.l) N 32 (msgJ 0) := hd8.ka.kept (heap_setCells _ _ (by omega) _ _ _)
                have kb9 : Blk (w8.setCells (N + 3) 5 q.l) (N + 1) 35 [.int .i64 0] := hd8.kb.kept (heap_setCells _ _ (by omega) _ _ _)
                have ki9 : Blk (w8.setCells (N + 3) 5 q.l) (N + 2) 94 [.string s, .int .i64 a3] := hd8.ki.kept (heap_setCells _ _ (by omega) _ _ _)
                have hb9 : Below N W (w8.setCells (N + 3) 5 q.l) := hd8.bel.trans (hfs.below N (by have := hd8.ka.lt; omega) (fun c e => by omega))
                have hra9 : RdA (w8.setCells (N + 3) 5 q.l) oa al := hra8.keptB hfs.size (fun b o e hlt => hfs.block b hlt (by have h9 := hfr _ e; have h8 : w5.heap.size ≤ b := h9; have := HZ5.out; omega))
                have c0 : w8.cell? ⟨N + 3, 0, none⟩ = some (.int .i64 kd) := hd8.km.cell 0
                have c06 : w6.cell? ⟨N + 3, 0, none⟩ = some (.int .i64 kd) := HD6.out.km.cell 0
                rw [HK1.out] at c0 c06
                have HD9 : Hid (DcS W N s a3 m.l (w8.setCells (N + 3) 5 q.l)) := ⟨ka9, kb9, ki9, km9, hb9⟩
                have HO1 : Hid (q.l.toArray.all (·.oneCell') = true) := q.oneC
                have HO2 : Hid (zOa.size = q.l.toArray.size) := rfl
                have HK7 := Lib.hid ko7
                have HR8 := Lib.hid ko8.range
                have HW8 := Lib.hid hw8
                have HRA9 : Hid (RdA (w8.setCells (N + 3) 5 q.l) m.o.ao al) := (by rw [hmq, hqo]; exact hra9 : RdA (w8.setCells (N + 3) 5 q.l) m.o.ao al)
                have HMO : Hid (m.o.ao = oa) := (by rw [hmq, hqo] : m.o.ao = oa)
                have HMN : Hid (al.length = m.o.an) := (by rw [hmq]; exact hqn : al.length = m.o.an)
                have HM7 : Hid (m.o.an ≤ 1000000) := (by rw [hmq, ← hqn]; omega : m.o.an ≤ 1000000)
                have HMT : Hid (m.o.txt.size ≤ maxLen) := (by rw [hmq]; exact hqt : m.o.txt.size ≤ maxLen)
                have HMK := Lib.hid hmk
                have HFR2 : Hid (∀ a, oa = some a → N + 3 < a.block) := (fun a e => by have := hfr a e; have := HZ5.out; omega : ∀ a, oa = some a → N + 3 < a.block)
                have HFR : Hid (∀ a, oa = some a → N ≤ a.block) := (fun a e => by have := hfr a e; have := HZ5.out; omega : ∀ a, oa = some a → N ≤ a.block)
                clear hor hokb hal7 han htx hra hfr hq hqo hqn hqt hm hmq hmk hb7 ko7 hw8 ko8 hb8 hd8 hra8 km9 hfs ka9 kb9 ki9 hb9 hra9 HDD HRO
                go_upto_region 22 with (first | (refine wpList_store_row rfl 30 (.tmp 9) (.tmp 63) rfl ob q.l.toArray rfl rfl 30 _ HK7.out HSZ.out HO2.out HO1.out ?_; rw [HW8.out]) | (refine wpList_load_mid rfl 30 (.tmp 9) rfl ob 0 rfl q.l _ HR8.out Tryz.underlying30 rfl HSZ.out ?_) | (refine wpList_store_mid rfl 30 (.tmp 71) (.tmp 70) rfl (N + 3) 5 q.l.toArray rfl rfl HTH.out HSZ.out HO1.out ?_))
                generalize World.setCells _ _ _ _ = w9 at HD9 HRA9 ⊢
                have HV := Lib.hid (gOValid m al w9 HMN.out HM7.out HRA9.out HMT.out)
                have HR9 := Lib.hid HD9.out.km.range
                have HO3 : Hid (m.l.toArray.all (·.oneCell') = true) := m.oneC
                have HO4 : Hid ((msgJ 0).toArray.size = m.l.toArray.size) := rfl
                obtain ⟨ok, hok⟩ : ∃ ok, okM m al = ok := ⟨_, rfl⟩
                have HRO2 : Hid (R = if ok = true then OutM.ok (m5 kd vs o) al else OutM.mean) := HRK.out.trans (by rw [okR, ← HMK.out, hok])
                rw [hok] at HV
                clear hok HRK
                go_wp2_with (refine wpList_load_mid rfl 32 (.tmp 5) rfl (N + 3) 0 rfl m.l _ HR9.out Tryz.underlying32 rfl HSG.out ?_)
                refine HV.out.mono ?_
                rintro e w10 ⟨rfl, hb10⟩
                have hd10 := HD9.out.below hb10
                have hra10 := HRA9.out.kept hb10
                cases ok with
                | false =>
                  have HRX : Hid (R = .mean) := HRO2.out
                  have HD10 := Lib.hid hd10
                  have gm : w10.cell? ⟨1, 0, none⟩ = some (.iface 196 (.pointer (some em))) := (HSE.out w10 hd10.bel).m
                  clear hb10 hd10 hra10
                  go_wp2_with fail
                  refine (refuse_any (N + 2) s a3 (.pointer (some em)) _ HD10.out.ki).mono ?_
                  rintro e w' ⟨rfl, rfl⟩
                  go_wp2_with fail
                  have h0 := HGL.out
                  refine leaves_cons (f := 38) (args := #[.pointer (some ⟨N, 0, none⟩), .pointer (some ⟨N + 1, 0, none⟩)]) (by simp) (by simp [go_sem]) ?_
                  refine (ocatch_mean N (N + 1) a3 0 em es (msgJ 0) w10 rfl HD10.out.ka HD10.out.kb (by omega) (HSE.out w10 HD10.out.bel).s (by omega) (by omega) (HSE.out w10 HD10.out.bel).am (by omega) (by omega) (by omega) (by omega)).mono ?_
                  rintro e u' wz ⟨rfl, rfl, k1, k2, hf⟩
                  exact ⟨_, res_two Tryz.results10 rfl rfl (load_msg rfl k1) (load_errno k2), MDecPost.m HRX.out (by rw [HNN.out]; exact HD10.out.bel.trans (hf.below N (by have := HD10.out.ka.lt; omega) (fun k e => by omega)))⟩
                | true =>
                  have HRX : Hid (R = .ok (m5 kd vs o) al) := HRO2.out
                  obtain ⟨w12, hw12⟩ : ∃ w12, w10.setRow N m.l.toArray = w12 := ⟨_, rfl⟩
                  have ka12 : Blk w12 N 32 m.l := by rw [← hw12]; exact hd10.ka.setRow _
                  have kb12 : Blk w12 (N + 1) 35 [.int .i64 0] := hd10.kb.kept (by rw [← hw12]; exact heap_setRow_other _ _ _ _ (by omega))
                  have hb12 : Below N W w12 := by rw [← hw12]; exact below_setRow hd10.bel (Nat.le_refl _) _
                  have hra12 : RdA w12 m.o.ao al := hra10.keptB (by rw [← hw12, size_setRow]; exact Nat.le_refl _) (fun b o e hlt => by rw [← hw12]; exact heap_setRow_other _ _ _ _ (by rw [HMO.out] at e; have h9 := HFR2.out _ e; have h8 : N + 3 < b := h9; omega))
                  have c1 : w12.cell? ⟨N + 1, 0, none⟩ = some (.int .i64 0) := kb12.cell 0
                  have f1 := kb12.frozen 0
                  have HK10 := Lib.hid hd10.ka
                  have HR10 := Lib.hid hd10.km.range
                  have HW12 := Lib.hid hw12
                  have KA13 := Lib.hid (ka12.other ⟨N + 1, 0, none⟩ (show N + 1 ≠ N by omega) (.int .i64 0))
                  have KB13 : Hid (Blk (w12.setCell ⟨N + 1, 0, none⟩ (.int .i64 0)) (N + 1) 35 [.int .i64 0]) := kb12.set 0 (.int .i64 0)
                  have HB13 := Lib.hid (hb12.setCell (p := ⟨N + 1, 0, none⟩) (show N ≤ N + 1 by omega) (.int .i64 0))
                  have HRA13 : Hid (RdA (w12.setCell ⟨N + 1, 0, none⟩ (.int .i64 0)) m.o.ao al) := hra12.keptB (by simp [World.setCell]) (fun b o e hlt => Below.heap_setCell _ _ _ _ (by rw [HMO.out] at e; have h9 := HFR2.out _ e; have h8 : N + 3 < b := h9; show b ≠ N + 1; omega))
                  clear hb10 hd10 hra10 hw12 ka12 kb12 hb12 hra12
                  go_wp2_with (first | (refine wpList_load_mid rfl 32 (.tmp 5) rfl (N + 3) 0 rfl m.l _ HR10.out Tryz.underlying32 rfl HSG.out ?_) | (refine wpList_store_row rfl 32 (.tmp 2) (.tmp 78) rfl N m.l.toArray rfl rfl 32 _ HK10.out HSG.out HO4.out HO3.out ?_; rw [HW12.out]))
                  refine leaves_cons (f := 38) (args := #[.pointer (some ⟨N, 0, none⟩), .pointer (some ⟨N + 1, 0, none⟩)]) (by simp) (by simp [go_sem]) ?_
                  refine (ocatch_idle N (N + 1) _).mono ?_
                  rintro e u' w13 ⟨rfl, rfl, rfl⟩
                  refine ⟨_, res_two Tryz.results10 rfl rfl (load_msg rfl KA13.out) (load_errno KB13.out), ?_⟩
                  rw [HRX.out]
                  refine ⟨by rw [HNN.out]; exact HB13.out, oa, ac, by rw [HMW.out], HMO.out ▸ HRA13.out, fun a e => by rw [HNN.out]; exact HFR.out a e⟩
            · have hne : (a3 != (s.size : Int)) = true := by rw [bne_iff_ne]; exact ha
              have HRX : Hid (R = .short) := HRF.out.trans (msgF_no (by rw [← HLS.out]; exact ha))
              have gs : w5.cell? ⟨0, 0, none⟩ = some (.iface 196 (.pointer (some es))) := (HSE.out w5 HD5.out.bel).s
              clear ha HRF
              go_wp2_with fail
              refine (refuse_any (N + 2) s a3 (.pointer (some es)) _ HD5.out.ki).mono ?_
              rintro e w' ⟨rfl, rfl⟩
              go_wp2_with fail
              have h0 := HGL.out
              refine leaves_cons (f := 38) (args := #[.pointer (some ⟨N, 0, none⟩), .pointer (some ⟨N + 1, 0, none⟩)]) (by simp) (by simp [go_sem]) ?_
              refine (ocatch_short N (N + 1) a3 0 es (msgJ 0) w5 rfl HD5.out.ka HD5.out.kb (by omega) (HSE.out w5 HD5.out.bel).s (by omega) (by omega)).mono ?_
              rintro e u' wz ⟨rfl, rfl, k1, k2, hf⟩
              exact ⟨_, res_two Tryz.results10 rfl rfl (load_msg rfl k1) (load_errno k2), MDecPost.s HRX.out (by rw [HNN.out]; exact HD5.out.bel.trans (hf.below N (by have := HD5.out.ka.lt; omega) (fun k e => by omega)))⟩
          · have HRX : Hid (R = .short) := HRT.out.trans (msgT_1n hk1 h0)
            have HC := Lib.hid (txt_bad (N + 2) s a wr es (HSE.out wr HD.out.bel).s HSM.out HD.out.ki (by rw [HL.out]; exact h0))
            clear h0 hk1
            go_wp2_with fail
            refine HC.out.mono ?_
            rintro e w5 ⟨rfl, hb5⟩
            have HD5 := Lib.hid (HD.out.below hb5)
            clear hb5
            go_wp2_with fail
            have h0 := HGL.out
            refine leaves_cons (f := 38) (args := #[.pointer (some ⟨N, 0, none⟩), .pointer (some ⟨N + 1, 0, none⟩)]) (by simp) (by simp [go_sem]) ?_
            refine (ocatch_short N (N + 1) a 0 es (msgJ 0) w5 rfl HD5.out.ka HD5.out.kb (by omega) (HSE.out w5 HD5.out.bel).s (by omega) (by omega)).mono ?_
            rintro e u' wz ⟨rfl, rfl, k1, k2, hf⟩
            exact ⟨_, res_two Tryz.results10 rfl rfl (load_msg rfl k1) (load_errno k2), MDecPost.s HRX.out (by rw [HNN.out]; exact HD5.out.bel.trans (hf.below N (by have := HD5.out.ka.lt; omega) (fun k e => by omega)))⟩
        · have hk1' : (kd == 1) = false := beq_eq_false_iff_ne.2 hk1
          have HRF : Hid (R = msgF l kd vs a []) := HRT.out.trans (msgT_x hk1)
          have HK1 := Lib.hid hk1
          have c1 : wr.cell? ⟨N + 2, 1, none⟩ = some (.int .i64 a) := HD.out.ki.cell 1
          clear HRT hk1
          by_cases ha : a = (s.size : Int)
          · have hne : (a != (s.size : Int)) = false := by rw [ha]; simp
            have HRK : Hid (R = okR (m5 kd vs zeroO) []) := HRF.out.trans (msgF_x (by rw [← HLS.out]; exact ha) HK1.out)
            obtain ⟨m, hm⟩ : ∃ m, m5 kd vs zeroO = m := ⟨_, rfl⟩
            have hmo : m.o = zeroO := by rw [← hm]; rfl
            have hd9 := HD.out
            rw [hm] at hd9
            have HD9 := Lib.hid hd9
            have HMK : Hid (okM m [] = okM (m5 kd vs zeroO) []) := (by rw [hm] : okM m [] = okM (m5 kd vs zeroO) [])
            have HMW : Hid ((m5 kd vs zeroO).withA none 0 = m) := (by rw [← hm]; rfl : (m5 kd vs zeroO).withA none 0 = m)
            have HMO : Hid (m.o.ao = none) := (by rw [hmo]; rfl : m.o.ao = none)
            have HMN : Hid (([] : List (Int × Int)).length = m.o.an) := (by rw [hmo]; rfl : ([] : List (Int × Int)).length = m.o.an)
            have HM7 : Hid (m.o.an ≤ 1000000) := (by rw [hmo]; exact Nat.zero_le _ : m.o.an ≤ 1000000)
            have HMT : Hid (m.o.txt.size ≤ maxLen) := (by rw [hmo]; exact Nat.zero_le _ : m.o.txt.size ≤ maxLen)
            have HRA9 : Hid (RdA wr m.o.ao []) := (.inl rfl : RdA wr m.o.ao [])
            clear ha HRF hm hmo hd9 HD
            obtain ⟨w9, hw9⟩ : ∃ w9, wr = w9 := ⟨_, rfl⟩
            subst hw9
            have HV := Lib.hid (gOValid m [] wr HMN.out HM7.out HRA9.out HMT.out)
            have HR9 := Lib.hid HD9.out.km.range
            have HO3 : Hid (m.l.toArray.all (·.oneCell') = true) := m.oneC
            have HO4 : Hid ((msgJ 0).toArray.size = m.l.toArray.size) := rfl
            obtain ⟨ok, hok⟩ : ∃ ok, okM m [] = ok := ⟨_, rfl⟩
            have HRO2 : Hid (R = if ok = true then OutM.ok (m5 kd vs zeroO) [] else OutM.mean) := HRK.out.trans (by rw [okR, ← HMK.out, hok])
            rw [hok] at HV
            clear hok HRK
            go_wp2_with (refine wpList_load_mid rfl 32 (.tmp 5) rfl (N + 3) 0 rfl m.l _ HR9.out Tryz.underlying32 rfl HSG.out ?_)
            refine HV.out.mono ?_
            rintro e w10 ⟨rfl, hb10⟩
            have hd10 := HD9.out.below hb10
            have hra10 := HRA9.out.kept hb10
            cases ok with
            | false =>
              have HRX : Hid (R = .mean) := HRO2.out
              have HD10 := Lib.hid hd10
              have gm : w10.cell? ⟨1, 0, none⟩ = some (.iface 196 (.pointer (some em))) := (HSE.out w10 hd10.bel).m
              clear hb10 hd10 hra10
              go_wp2_with fail
              refine (refuse_any (N + 2) s a (.pointer (some em)) _ HD10.out.ki).mono ?_
              rintro e w' ⟨rfl, rfl⟩
              go_wp2_with fail
              have h0 := HGL.out
              refine leaves_cons (f := 38) (args := #[.pointer (some ⟨N, 0, none⟩), .pointer (some ⟨N + 1, 0, none⟩)]) (by simp) (by simp [go_sem]) ?_
              refine (ocatch_mean N (N + 1) a 0 em es (msgJ 0) w10 rfl HD10.out.ka HD10.out.kb (by omega) (HSE.out w10 HD10.out.bel).s (by omega) (by omega) (HSE.out w10 HD10.out.bel).am (by omega) (by omega) (by omega) (by omega)).mono ?_
              rintro e u' wz ⟨rfl, rfl, k1, k2, hf⟩
              exact ⟨_, res_two Tryz.results10 rfl rfl (load_msg rfl k1) (load_errno k2), MDecPost.m HRX.out (by rw [HNN.out]; exact HD10.out.bel.trans (hf.below N (by have := HD10.out.ka.lt; omega) (fun k e => by omega)))⟩
            | true =>
              have HRX : Hid (R = .ok (m5 kd vs zeroO) []) := HRO2.out
              obtain ⟨w12, hw12⟩ : ∃ w12, w10.setRow N m.l.toArray = w12 := ⟨_, rfl⟩
              have ka12 : Blk w12 N 32 m.l := by rw [← hw12]; exact hd10.ka.setRow _
              have kb12 : Blk w12 (N + 1) 35 [.int .i64 0] := hd10.kb.kept (by rw [← hw12]; exact heap_setRow_other _ _ _ _ (by omega))
              have hb12 : Below N W w12 := by rw [← hw12]; exact below_setRow hd10.bel (Nat.le_refl _) _
              have hra12 : RdA w12 m.o.ao [] := hra10.keptB (by rw [← hw12, size_setRow]; exact Nat.le_refl _) (fun b o e hlt => by rw [← hw12]; exact heap_setRow_other _ _ _ _ (by rw [HMO.out] at e; cases e))
              have c1 : w12.cell? ⟨N + 1, 0, none⟩ = some (.int .i64 0) := kb12.cell 0
              have f1 := kb12.frozen 0
              have HK10 := Lib.hid hd10.ka
              have HR10 := Lib.hid hd10.km.range
              have HW12 := Lib.hid hw12
              have KA13 := Lib.hid (ka12.other ⟨N + 1, 0, none⟩ (show N + 1 ≠ N by omega) (.int .i64 0))
              have KB13 : Hid (Blk (w12.setCell ⟨N + 1, 0, none⟩ (.int .i64 0)) (N + 1) 35 [.int .i64 0]) := kb12.set 0 (.int .i64 0)
              have HB13 := Lib.hid (hb12.setCell (p := ⟨N + 1, 0, none⟩) (show N ≤ N + 1 by omega) (.int .i64 0))
              have HRA13 : Hid (RdA (w12.setCell ⟨N + 1, 0, none⟩ (.int .i64 0)) m.o.ao []) := hra12.keptB (by simp [World.setCell]) (fun b o e hlt => Below.heap_setCell _ _ _ _ (by rw [HMO.out] at e; cases e))
              clear hb10 hd10 hra10 hw12 ka12 kb12 hb12 hra12
              go_wp2_with (first | (refine wpList_load_mid rfl 32 (.tmp 5) rfl (N + 3) 0 rfl m.l _ HR10.out Tryz.underlying32 rfl HSG.out ?_) | (refine wpList_store_row rfl 32 (.tmp 2) (.tmp 78) rfl N m.l.toArray rfl rfl 32 _ HK10.out HSG.out HO4.out HO3.out ?_; rw [HW12.out]))
              refine leaves_cons (f := 38) (args := #[.pointer (some ⟨N, 0, none⟩), .pointer (some ⟨N + 1, 0, none⟩)]) (by simp) (by simp [go_sem]) ?_
              refine (ocatch_idle N (N + 1) _).mono ?_
              rintro e u' w13 ⟨rfl, rfl, rfl⟩
              refine ⟨_, res_two Tryz.results10 rfl rfl (load_msg rfl KA13.out) (load_errno KB13.out), ?_⟩
              rw [HRX.out]
              refine ⟨by rw [HNN.out]; exact HB13.out, none, 0, by rw [HMW.out], .inl rfl, fun a e => by cases e⟩
          · have hne : (a != (s.size : Int)) = true := by rw [bne_iff_ne]; exact ha
            have HRX : Hid (R = .short) := HRF.out.trans (msgF_no (by rw [← HLS.out]; exact ha))
            have gs : wr.cell? ⟨0, 0, none⟩ = some (.iface 196 (.pointer (some es))) := (HSE.out wr HD.out.bel).s
            clear ha HRF
            go_wp2_with fail
            refine (refuse_any (N + 2) s a (.pointer (some es)) _ HD.out.ki).mono ?_
            rintro e w' ⟨rfl, rfl⟩
            go_wp2_with fail
            have h0 := HGL.out
            refine leaves_cons (f := 38) (args := #[.pointer (some ⟨N, 0, none⟩), .pointer (some ⟨N + 1, 0, none⟩)]) (by simp) (by simp [go_sem]) ?_
            refine (ocatch_short N (N + 1) a 0 es (msgJ 0) wr rfl HD.out.ka HD.out.kb (by omega) (HSE.out wr HD.out.bel).s (by omega) (by omega)).mono ?_
            rintro e u' wz ⟨rfl, rfl, k1, k2, hf⟩
            exact ⟨_, res_two Tryz.results10 rfl rfl (load_msg rfl k1) (load_errno k2), MDecPost.s HRX.out (by rw [HNN.out]; exact HD.out.bel.trans (hf.below N (by have := HD.out.ka.lt; omega) (fun k e => by omega)))⟩
  · have HRX : Hid (R = .short) := HRR.out.symm.trans (msgR_short h0)
    have HC := Lib.hid (num_bad (N + 2) s 0 x0 es (HSE.out x0 HD0.out.bel).s HSM.out HD0.out.ki (by rw [HL.out]; exact h0))
    clear h0 HRR
    refine HC.out.mono ?_
    rintro e w5 ⟨rfl, hb5⟩
    have HD5 := Lib.hid (HD0.out.below hb5)
    clear hb5
    go_wp2_with fail
    have h0 := HGL.out
    refine leaves_cons (f := 38) (args := #[.pointer (some ⟨N, 0, none⟩), .pointer (some ⟨N + 1, 0, none⟩)]) (by simp) (by simp [go_sem]) ?_
    refine (ocatch_short N (N + 1) 0 0 es (msgJ 0) w5 rfl HD5.out.ka HD5.out.kb (by omega) (HSE.out w5 HD5.out.bel).s (by omega) (by omega)).mono ?_
    rintro e u' wz ⟨rfl, rfl, k1, k2, hf⟩
    exact ⟨_, res_two Tryz.results10 rfl rfl (load_msg rfl k1) (load_errno k2), MDecPost.s HRX.out (by rw [HNN.out]; exact HD5.out.bel.trans (hf.below N (by have := HD5.out.ka.lt; omega) (fun k e => by omega)))⟩
end Go.Proofs.YtjkiidhnmljmbaaGreatDoor
