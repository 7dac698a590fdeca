/-
  The reference's Decode of messages.
-/
import Derived.Test.YtjkiidhnmljmbaaGreatDoorRkH
import Derived.Test.YtjkiidhnmljmbaaGreatDoorLits
import Derived.Test.YtjkiidhnmljmbaaGreatDoorTk
import Derived.Test.YtjkiidhnmljmbaaGreatDoorRkEI
import Derived.Test.YtjkiidhnmljmbaaGreatDoorRkPR
import Derived.Test.YtjkiidhnmljmbaaGreatDoorGoW
set_option linter.unusedVariables false
set_option linter.unusedSimpArgs false
namespace Go.Proofs.YtjkiidhnmljmbaaGreatDoor
open Go.RowKit Onair
attribute [local go_sem] Oper.semAt_some
theorem sets_zeroM : setsL zeroM.l 0 zMl = zeroM.l := by kernel_rfl
theorem zeroM_one : (zMa : Array Value).all (·.oneCell') = true := zeroM.oneC
theorem RkS.puts {W z : World} {b N M : Nat} {s : ByteArray} {q : Int × Int} {t : TypeId} {cN cM cM2 : List Value} (h : RkS W z b N M s q t cN cM) (i : Nat) (vs : List Value) (e : setsL cM i vs = cM2) : RkS W (z.setCells M i vs) b N M s q t cN cM2 := by
  subst e
  exact ⟨Blk.kept h.i (heap_setCells M b h.n2 vs i z), h.kn.kept (heap_setCells M N h.n3 vs i z), Blk.sets vs i h.km, Fr.setCells M vs i h.fr (.inr h.g2), h.n1, h.n2, h.n3, h.g1, h.g2⟩
theorem MDecPost.o {W w' : World} {R : OutM} {m : MOd} {al : List (Int × Int)} {e : Ending} (h : R = .ok m al) (hb : Below W.heap.size W w') (hx : ∃ oa ac, e = .returned (.tuple #[.agg (m.withA oa ac).l.toArray, .int .i64 0]) ∧ RdA w' oa al ∧ ∀ a, oa = some a → W.heap.size ≤ a.block) : MDecPost W R e w' := by subst h; exact ⟨hb, hx⟩
theorem sets_msgO (m : MOd) (q : GOd) : setsL m.l 5 q.l = ({ m with o := q } : MOd).l := by kernel_rfl
set_option maxHeartbeats 16000000 in
set_option maxRecDepth 100000 in
theorem ref20Dec (s : ByteArray) (W : World) (hs : s.size ≤ maxLen) : Calls Tryz.prog 11 #[.string s] W (MDecPost W (msgR s.data.toList)) := by
  obtain ⟨R, hR⟩ : ∃ R, msgR s.data.toList = R := ⟨_, rfl⟩
  obtain ⟨k, a1, e1, h0⟩ : ∃ n x y, rkN s.data.toList (0, 0) = (n, x, y) := ⟨_, _, _, rfl⟩
  have HS := Lib.hid hs
  have HRR := Lib.hid hR
  rw [hR]
  obtain ⟨N, hN⟩ : ∃ N, W.heap.size = N := ⟨_, rfl⟩
  obtain ⟨w0, hw0⟩ : ∃ w0, W.alloc (.cells zMa 32) = w0 := ⟨_, rfl⟩
  obtain ⟨b, hb⟩ : ∃ b, w0.heap.size = b := ⟨_, rfl⟩
  obtain ⟨wi, hwi⟩ : ∃ wi, w0.alloc (.cells #[.string s, .int .i64 0, .int .i64 0] 103) = wi := ⟨_, rfl⟩
  have hb0 : Below N W w0 := by rw [← hw0, ← hN]; exact (Below.refl _ W).alloc (Nat.le_refl _) _
  have hk0 : Blk w0 N 32 zeroM.l := by rw [← hw0, ← hN]; exact Blk.new W _ zMl
  have hNb : N < b := by rw [← hb]; exact hk0.lt
  have hb1 : Below b w0 wi := by rw [← hwi, ← hb]; exact (Below.refl _ w0).alloc (Nat.le_refl _) _
  have HI0 : Hid (InAt wi b s (0, 0)) := (by rw [← hwi, ← hb]; exact Blk.new w0 _ _ : InAt wi b s (0, 0))
  have HK0 : Hid (Blk wi N 32 zeroM.l) := hk0.kept (hb1.block N hNb)
  have HF0 : Hid (Fr (fun c => c = b) W wi) := Fr.under _ (by rw [hN]; exact hb0.trans (hb1.mono (Nat.le_of_lt hNb)))
  have HG : Hid (b ≠ N ∧ W.heap.size ≤ N ∧ W.heap.size ≤ b) := ⟨by omega, by omega, by omega⟩
  have HSM := Lib.hid (show (Tryz.prog.info? 32).map (·.size) = some 31 from by kernel_rfl)
  have HSZ := Lib.hid (show (Tryz.prog.info? 30).map (·.size) = some 26 from by kernel_rfl)
  have HH0 := Lib.hid h0
  have HZC : Hid (zeroM.l.toArray.all (·.oneCell') = true) := zeroM.oneC
  clear hs hR hb0 hk0 hNb hb1 h0
  go_enter Tryz.func11, Tryz.ntmps11
  go_wp2_with fail
  clear hN hw0 hb hwi
  refine (rkNumber s b 0 0 wi HS.out HI0.out).mono ?_
  rw [HH0.out]
  rintro en x1 ⟨rfl, hk, hf⟩
  obtain ⟨M, hM⟩ : ∃ M, x1.heap.size = M := ⟨_, rfl⟩
  obtain ⟨x2, hx2⟩ : ∃ x2, x1.alloc (.cells zMa 32) = x2 := ⟨_, rfl⟩
  obtain ⟨y0, hy0⟩ : ∃ y0, x2.setRow M (⟨k, 0, 0, 0, 0, ⟨0, 0, 0, 0, 0, 0, 0, 0, 0, 0, 0, 0, none, 0, 0, ⟨0, 0, 0, 0, 0, 0, 0, 0⟩, 0, 0, 0, 0, ⟨#[]⟩⟩⟩ : MOd).l.toArray = y0 := ⟨_, rfl⟩
  have HR := Lib.hid (RkS.startRow (cs := (⟨k, 0, 0, 0, 0, ⟨0, 0, 0, 0, 0, 0, 0, 0, 0, 0, 0, 0, none, 0, 0, ⟨0, 0, 0, 0, 0, 0, 0, 0⟩, 0, 0, 0, 0, ⟨#[]⟩⟩⟩ : MOd).l) hk (HK0.out.kept (hf.block N HK0.out.lt (fun e => HG.out.1 e.symm))) (HF0.out.trans hf (fun _ _ e => e)) HG.out.1 HG.out.2.1 zMl)
  have HK2 : Hid (Blk x2 M 32 zMl) := (by rw [← hx2, ← hM]; exact Blk.new x1 _ _ : Blk x2 M 32 zMl)
  rw [hx2, hM, hy0] at HR
  have HY0 := Lib.hid hy0
  have HOC : Hid ((⟨k, 0, 0, 0, 0, ⟨0, 0, 0, 0, 0, 0, 0, 0, 0, 0, 0, 0, none, 0, 0, ⟨0, 0, 0, 0, 0, 0, 0, 0⟩, 0, 0, 0, 0, ⟨#[]⟩⟩⟩ : MOd).l.toArray.all (·.oneCell') = true) := (⟨k, 0, 0, 0, 0, ⟨0, 0, 0, 0, 0, 0, 0, 0, 0, 0, 0, 0, none, 0, 0, ⟨0, 0, 0, 0, 0, 0, 0, 0⟩, 0, 0, 0, 0, ⟨#[]⟩⟩⟩ : MOd).oneC
  have HOZ : Hid (zMa.size = (⟨k, 0, 0, 0, 0, ⟨0, 0, 0, 0, 0, 0, 0, 0, 0, 0, 0, 0, none, 0, 0, ⟨0, 0, 0, 0, 0, 0, 0, 0⟩, 0, 0, 0, 0, ⟨#[]⟩⟩⟩ : MOd).l.toArray.size) := rfl
  clear hk hf hy0 HK0 HI0 HF0
  go_upto_region 3 with (refine wpList_store_row rfl 32 (.tmp 5) (.tmp 19) rfl M (⟨k, 0, 0, 0, 0, ⟨0, 0, 0, 0, 0, 0, 0, 0, 0, 0, 0, 0, none, 0, 0, ⟨0, 0, 0, 0, 0, 0, 0, 0⟩, 0, 0, 0, 0, ⟨#[]⟩⟩⟩ : MOd).l.toArray rfl rfl 32 _ HK2.out HSM.out HOZ.out HOC.out ?_; rw [HY0.out])
  clear HK2 HY0 hx2 hM HOC HOZ
  have k0 : y0.cell? ⟨M, 0, none⟩ = some (.int .i64 k) := HR.out.km.cell 0
  have c2 : y0.cell? ⟨b, 2, none⟩ = some (.int .i64 e1) := HR.out.i.cell 2
  obtain ⟨bb, hbb⟩ : ∃ bb, decide (e1 = 0 ∧ ¬ (1 ≤ k ∧ k ≤ 3)) = bb := ⟨_, rfl⟩
  have HBB := Lib.hid hbb
  clear hbb
  try simp only [Act.put, List.setIfInBounds_toArray, List.set_cons_zero, List.set_cons_succ]
  go_cut [34] from 20 to 33 (fun v wx => v = .bool bb ∧ wx = y0)
  case first =>
    by_cases h0 : e1 = 0
    · rw [h0] at c2
      rcases (show k < 1 ∨ (¬ k < 1 ∧ k > 3) ∨ (¬ k < 1 ∧ ¬ k > 3) from by omega) with h | ⟨h, h9⟩ | ⟨h, h9⟩
      · have HV : Hid (bb = true) := HBB.out.symm.trans (decide_eq_true ⟨h0, by omega⟩)
        clear h0
        go_wp2_with fail
        go_meet
        exact ⟨by rw [HV.out], rfl⟩
      · have HV : Hid (bb = true) := HBB.out.symm.trans (decide_eq_true ⟨h0, by omega⟩)
        clear h0
        go_wp2_with fail
        go_meet
        exact ⟨by rw [HV.out], rfl⟩
      · have HV : Hid (bb = false) := HBB.out.symm.trans (decide_eq_false (fun h => h.2 (by omega)))
        clear h0
        go_wp2_with fail
        go_meet
        exact ⟨by rw [HV.out], rfl⟩
    · have HV : Hid (bb = false) := HBB.out.symm.trans (decide_eq_false (fun h => h0 h.1))
      have q0 : (e1 == 0) = false := beq_eq_false_iff_ne.2 h0
      clear h0
      go_wp2_with fail
      go_meet
      exact ⟨by rw [HV.out], rfl⟩
  case rest =>
    obtain ⟨rfl, hwx⟩ := hcut
    subst hwx
    cases bb with
    | true =>
      have hq := of_decide_eq_true HBB.out
      obtain ⟨n1, a2, e2, h1⟩ : ∃ n x y, rkN s.data.toList (a1, 200) = (n, x, y) := ⟨_, _, _, rfl⟩
      obtain ⟨n2, a3, e3, h2⟩ : ∃ n x y, rkN s.data.toList (a2, e2) = (n, x, y) := ⟨_, _, _, rfl⟩
      obtain ⟨n3, a4, e4, h3⟩ : ∃ n x y, rkN s.data.toList (a3, e3) = (n, x, y) := ⟨_, _, _, rfl⟩
      obtain ⟨n4, a5, e5, h4⟩ : ∃ n x y, rkN s.data.toList (a4, e4) = (n, x, y) := ⟨_, _, _, rfl⟩
      have H4 : Hid (rkL s.data.toList 4 (a1, 200) = ([n1, n2, n3, n4], a5, e5)) := (by simp only [rkL, h1, h2, h3, h4] : rkL s.data.toList 4 (a1, 200) = ([n1, n2, n3, n4], a5, e5))
      have HH1 := Lib.hid h1
      have HH2 := Lib.hid h2
      have HH3 := Lib.hid h3
      have HH4 := Lib.hid h4
      clear h1 h2 h3 h4
      have HQM := Lib.hid (rk_msg (q1 := (a1, 200)) HH0.out (by rw [if_pos hq]) H4.out)
      have f2 := HR.out.i.frozen 2
      have HR := Lib.hid (RkS.err (c := 200) HR.out)
      clear hq k0
      go_upto_region 5 with (fail)
      clear f2 c2
      generalize World.setCell _ _ _ = z9 at HR ⊢
      go_wp2_with fail
      refine (rkNumber s b a1 200 z9 HS.out HR.out.i).mono ?_
      rw [HH1.out]
      rintro en x1 ⟨rfl, hk, hf⟩
      have HR := Lib.hid (HR.out.num hk hf)
      have ci : x1.cell? ⟨M, 1, none⟩ = some (.int .i64 0) := HR.out.km.cell 1
      have fi := HR.out.km.frozen 1
      have HR : Hid (RkS W (x1.setCell ⟨M, 1, none⟩ (.int .i64 n1)) b N M s (a2, e2) 32 zeroM.l (⟨k, n1, 0, 0, 0, ⟨0, 0, 0, 0, 0, 0, 0, 0, 0, 0, 0, 0, none, 0, 0, ⟨0, 0, 0, 0, 0, 0, 0, 0⟩, 0, 0, 0, 0, ⟨#[]⟩⟩⟩ : MOd).l) := HR.out.put 1 (.int .i64 n1)
      clear hk hf
      go_upto_region 6 with (fail)
      clear ci fi
      generalize World.setCell _ _ _ = v1 at HR ⊢
      go_wp2_with fail
      refine (rkNumber s b a2 e2 v1 HS.out HR.out.i).mono ?_
      rw [HH2.out]
      rintro en x1 ⟨rfl, hk, hf⟩
      have HR := Lib.hid (HR.out.num hk hf)
      have ci : x1.cell? ⟨M, 2, none⟩ = some (.int .i64 0) := HR.out.km.cell 2
      have fi := HR.out.km.frozen 2
      have HR : Hid (RkS W (x1.setCell ⟨M, 2, none⟩ (.int .i64 n2)) b N M s (a3, e3) 32 zeroM.l (⟨k, n1, n2, 0, 0, ⟨0, 0, 0, 0, 0, 0, 0, 0, 0, 0, 0, 0, none, 0, 0, ⟨0, 0, 0, 0, 0, 0, 0, 0⟩, 0, 0, 0, 0, ⟨#[]⟩⟩⟩ : MOd).l) := HR.out.put 2 (.int .i64 n2)
      clear hk hf
      go_upto_region 7 with (fail)
      clear ci fi
      generalize World.setCell _ _ _ = v2 at HR ⊢
      go_wp2_with fail
      refine (rkNumber s b a3 e3 v2 HS.out HR.out.i).mono ?_
      rw [HH3.out]
      rintro en x1 ⟨rfl, hk, hf⟩
      have HR := Lib.hid (HR.out.num hk hf)
      have ci : x1.cell? ⟨M, 3, none⟩ = some (.int .i64 0) := HR.out.km.cell 3
      have fi := HR.out.km.frozen 3
      have HR : Hid (RkS W (x1.setCell ⟨M, 3, none⟩ (.int .i64 n3)) b N M s (a4, e4) 32 zeroM.l (⟨k, n1, n2, n3, 0, ⟨0, 0, 0, 0, 0, 0, 0, 0, 0, 0, 0, 0, none, 0, 0, ⟨0, 0, 0, 0, 0, 0, 0, 0⟩, 0, 0, 0, 0, ⟨#[]⟩⟩⟩ : MOd).l) := HR.out.put 3 (.int .i64 n3)
      clear hk hf
      go_upto_region 8 with (fail)
      clear ci fi
      generalize World.setCell _ _ _ = v3 at HR ⊢
      go_wp2_with fail
      refine (rkNumber s b a4 e4 v3 HS.out HR.out.i).mono ?_
      rw [HH4.out]
      rintro en x1 ⟨rfl, hk, hf⟩
      have HR := Lib.hid (HR.out.num hk hf)
      have ci : x1.cell? ⟨M, 4, none⟩ = some (.int .i64 0) := HR.out.km.cell 4
      have fi := HR.out.km.frozen 4
      have HR : Hid (RkS W (x1.setCell ⟨M, 4, none⟩ (.int .i64 n4)) b N M s (a5, e5) 32 zeroM.l (⟨k, n1, n2, n3, n4, ⟨0, 0, 0, 0, 0, 0, 0, 0, 0, 0, 0, 0, none, 0, 0, ⟨0, 0, 0, 0, 0, 0, 0, 0⟩, 0, 0, 0, 0, ⟨#[]⟩⟩⟩ : MOd).l) := HR.out.put 4 (.int .i64 n4)
      clear hk hf
      go_upto_region 9 with (fail)
      clear ci fi
      generalize World.setCell _ _ _ = v4 at HR ⊢
      have he5 : e5 = 200 := by
        have h9 := rkL_keep s.data.toList 4 (a1, 200) (by show (200 : Int) ≠ 0; decide)
        rw [H4.out] at h9
        simp only [Prod.mk.injEq] at h9
        exact h9.2
      have HE5 : Hid (e5 ≠ 0) := (by rw [he5]; decide : e5 ≠ 0)
      clear he5
      have q8 : (e5 != 0) = true := by simp [HE5.out]
      have c2 : v4.cell? ⟨b, 2, none⟩ = some (.int .i64 e5) := HR.out.i.cell 2
      go_upto_region 10 with (fail)
      clear q8 c2
      refine wp_region_held_drew (S := fun W => W.cell? ⟨b, 2, none⟩ = some (.int .i64 e5)) (by kernel_rfl) ?_ (fun hHeld => ?_)
      · exact HR.out.drew.i.cell 2
      have hr9 := HR.out.drew
      generalize World.drew _ = z at hr9 hHeld ⊢
      have HR := Lib.hid hr9
      clear hr9
      refine tk 0 (some 55) ?_
      refine tk 1 (some 56) ?_
      refine tk 2 (some 57) ?_
      refine tk 3 (some 58) ?_
      refine tk 4 (some 59) ?_
      refine rd1 5 none (fun K hK => ?_)
      refine step_storeRow (by rfl) 32 (.tmp 2) (.tmp 55) (by rfl) N 32 zeroM.l zMa (by rfl) (by rfl) HR.out.kn (Nat.le_refl _) HSM.out zeroM_one ?_
      have hkz := Blk.sets zMl 0 HR.out.kn
      rw [sets_zeroM] at hkz
      have HKZ := Lib.hid hkz
      have HE2 : Hid (World.cell? (z.setCells N 0 zMl) ⟨b, 2, none⟩ = some (.int .i64 e5)) := (Blk.kept HR.out.i (heap_setCells N b HG.out.1 zMl 0 _)).cell 2
      have HFZ : Hid (Fr (fun c => c = b) W (z.setCells N 0 zMl)) := Fr.setCells N zMl 0 HR.out.fr (.inr HG.out.2.1)
      clear hkz
      generalize World.setCells _ _ _ _ = zz at HKZ HE2 HFZ ⊢
      refine hK.out _ _ ?_ (fun hHeld2 => ?_)
      · exact HE2.out
      clear hK K hHeld
      rename _ => hHeld
      try simp only [Act.put, List.setIfInBounds_toArray, List.set_cons_zero, List.set_cons_succ]
      refine tk 6 (some 3) ?_
      refine wpAnyH_done (by kernel_rfl) ?_ _
      clear hHeld
      go_wp2_with fail
      refine bodyPost_ret (results_row_tmp Tryz.results11 _ _ N 32 zeroM.l.toArray (0, 0) _ rfl HKZ.out Tryz.underlying32 rfl HSM.out) rfl ?_
      have hbl : Below W.heap.size W zz := HFZ.out.below _ (Nat.le_refl _) (fun c e => by have := HG.out.2.2; omega)
      rcases HQM.out.1 HE5.out with ⟨h1, h2⟩ | ⟨h1, h2⟩
      · rw [h1]
        exact MDecPost.m (HRR.out.symm.trans h2) hbl
      · rw [h1]
        exact MDecPost.s (HRR.out.symm.trans h2) hbl
    | false =>
      have hq := of_decide_eq_false HBB.out
      obtain ⟨n1, a2, e2, h1⟩ : ∃ n x y, rkN s.data.toList (a1, e1) = (n, x, y) := ⟨_, _, _, rfl⟩
      obtain ⟨n2, a3, e3, h2⟩ : ∃ n x y, rkN s.data.toList (a2, e2) = (n, x, y) := ⟨_, _, _, rfl⟩
      obtain ⟨n3, a4, e4, h3⟩ : ∃ n x y, rkN s.data.toList (a3, e3) = (n, x, y) := ⟨_, _, _, rfl⟩
      obtain ⟨n4, a5, e5, h4⟩ : ∃ n x y, rkN s.data.toList (a4, e4) = (n, x, y) := ⟨_, _, _, rfl⟩
      have H4 : Hid (rkL s.data.toList 4 (a1, e1) = ([n1, n2, n3, n4], a5, e5)) := (by simp only [rkL, h1, h2, h3, h4] : rkL s.data.toList 4 (a1, e1) = ([n1, n2, n3, n4], a5, e5))
      have HH1 := Lib.hid h1
      have HH2 := Lib.hid h2
      have HH3 := Lib.hid h3
      have HH4 := Lib.hid h4
      clear h1 h2 h3 h4
      have HQM := Lib.hid (rk_msg (q1 := (a1, e1)) HH0.out (by rw [if_neg hq]) H4.out)
      clear hq k0 c2
      go_wp2_with fail
      refine (rkNumber s b a1 e1 wc HS.out HR.out.i).mono ?_
      rw [HH1.out]
      rintro en x1 ⟨rfl, hk, hf⟩
      have HR := Lib.hid (HR.out.num hk hf)
      have ci : x1.cell? ⟨M, 1, none⟩ = some (.int .i64 0) := HR.out.km.cell 1
      have fi := HR.out.km.frozen 1
      have HR : Hid (RkS W (x1.setCell ⟨M, 1, none⟩ (.int .i64 n1)) b N M s (a2, e2) 32 zeroM.l (⟨k, n1, 0, 0, 0, ⟨0, 0, 0, 0, 0, 0, 0, 0, 0, 0, 0, 0, none, 0, 0, ⟨0, 0, 0, 0, 0, 0, 0, 0⟩, 0, 0, 0, 0, ⟨#[]⟩⟩⟩ : MOd).l) := HR.out.put 1 (.int .i64 n1)
      clear hk hf
      go_upto_region 6 with (fail)
      clear ci fi
      generalize World.setCell _ _ _ = v1 at HR ⊢
      go_wp2_with fail
      refine (rkNumber s b a2 e2 v1 HS.out HR.out.i).mono ?_
      rw [HH2.out]
      rintro en x1 ⟨rfl, hk, hf⟩
      have HR := Lib.hid (HR.out.num hk hf)
      have ci : x1.cell? ⟨M, 2, none⟩ = some (.int .i64 0) := HR.out.km.cell 2
      have fi := HR.out.km.frozen 2
      have HR : Hid (RkS W (x1.setCell ⟨M, 2, none⟩ (.int .i64 n2)) b N M s (a3, e3) 32 zeroM.l (⟨k, n1, n2, 0, 0, ⟨0, 0, 0, 0, 0, 0, 0, 0, 0, 0, 0, 0, none, 0, 0, ⟨0, 0, 0, 0, 0, 0, 0, 0⟩, 0, 0, 0, 0, ⟨#[]⟩⟩⟩ : MOd).l) := HR.out.put 2 (.int .i64 n2)
      clear hk hf
      go_upto_region 7 with (fail)
      clear ci fi
      generalize World.setCell _ _ _ = v2 at HR ⊢
      go_wp2_with fail
      refine (rkNumber s b a3 e3 v2 HS.out HR.out.i).mono ?_
      rw [HH3.out]
      rintro en x1 ⟨rfl, hk, hf⟩
      have HR := Lib.hid (HR.out.num hk hf)
      have ci : x1.cell? ⟨M, 3, none⟩ = some (.int .i64 0) := HR.out.km.cell 3
      have fi := HR.out.km.frozen 3
      have HR : Hid (RkS W (x1.setCell ⟨M, 3, none⟩ (.int .i64 n3)) b N M s (a4, e4) 32 zeroM.l (⟨k, n1, n2, n3, 0, ⟨0, 0, 0, 0, 0, 0, 0, 0, 0, 0, 0, 0, none, 0, 0, ⟨0, 0, 0, 0, 0, 0, 0, 0⟩, 0, 0, 0, 0, ⟨#[]⟩⟩⟩ : MOd).l) := HR.out.put 3 (.int .i64 n3)
      clear hk hf
      go_upto_region 8 with (fail)
      clear ci fi
      generalize World.setCell _ _ _ = v3 at HR ⊢
      go_wp2_with fail
      refine (rkNumber s b a4 e4 v3 HS.out HR.out.i).mono ?_
      rw [HH4.out]
      rintro en x1 ⟨rfl, hk, hf⟩
      have HR := Lib.hid (HR.out.num hk hf)
      have ci : x1.cell? ⟨M, 4, none⟩ = some (.int .i64 0) := HR.out.km.cell 4
      have fi := HR.out.km.frozen 4
      have HR : Hid (RkS W (x1.setCell ⟨M, 4, none⟩ (.int .i64 n4)) b N M s (a5, e5) 32 zeroM.l (⟨k, n1, n2, n3, n4, ⟨0, 0, 0, 0, 0, 0, 0, 0, 0, 0, 0, 0, none, 0, 0, ⟨0, 0, 0, 0, 0, 0, 0, 0⟩, 0, 0, 0, 0, ⟨#[]⟩⟩⟩ : MOd).l) := HR.out.put 4 (.int .i64 n4)
      clear hk hf
      go_upto_region 9 with (fail)
      clear ci fi
      generalize World.setCell _ _ _ = v4 at HR ⊢
      by_cases h5 : e5 = 0
      · subst h5
        obtain ⟨hk3, hmt, hle⟩ := HQM.out.2 rfl
        rw [HRR.out] at hmt
        have HMT := Lib.hid hmt
        have HLE := Lib.hid hle
        have c2 : v4.cell? ⟨b, 2, none⟩ = some (.int .i64 0) := HR.out.i.cell 2
        have c1 : v4.cell? ⟨b, 1, none⟩ = some (.int .i64 a5) := HR.out.i.cell 1
        have k0 : v4.cell? ⟨M, 0, none⟩ = some (.int .i64 k) := HR.out.km.cell 0
        obtain ⟨ln, hln⟩ : ∃ ln, s.data.toList.length = ln := ⟨_, rfl⟩
        have hsl : s.size = ln := by rw [← hln]; exact Array.length_toList.symm
        have HLN := Lib.hid hln
        clear hmt hle hln HQM
        by_cases hk1 : k = 1
        · subst hk1
          have HST := Lib.hid (fun w => refString_any s a5 w HS.out)
          obtain ⟨t, ht⟩ : ∃ t, (strR s.data.toList a5).1 = t := ⟨_, rfl⟩
          obtain ⟨a6, ha⟩ : ∃ x, (strR s.data.toList a5).2.1 = x := ⟨_, rfl⟩
          obtain ⟨f6, hf6⟩ : ∃ x, (strR s.data.toList a5).2.2 = x := ⟨_, rfl⟩
          rw [ht, ha, hf6] at HST
          have HTA := Lib.hid ht
          have HAA := Lib.hid ha
          have HFA := Lib.hid hf6
          clear ht ha hf6 hk3
          go_wp2_with fail
          refine (HST.out _).mono ?_
          rintro en x1 ⟨rfl, hbz⟩
          have HR := Lib.hid (HR.out.below hbz)
          have k0 : x1.cell? ⟨M, 0, none⟩ = some (.int .i64 1) := HR.out.km.cell 0
          clear hbz c1 c2
          by_cases h6 : f6 = 0
          · have hrm : R = msgF s.data.toList 1 [n1, n2, n3, n4] a6 t := by
              rw [HMT.out, msgT_1s rfl (by rw [HFA.out]; exact h6), HAA.out, HTA.out]
            have hle6 : a6 ≤ (ln : Int) := by
              have := strR_le s.data.toList a5 (by rw [HFA.out]; exact h6)
              rw [HAA.out, HLN.out] at this
              exact this
            have HTL : Hid ((⟨t.toArray⟩ : ByteArray).size ≤ maxLen) := (by
              have h1 := rkT_len s.data.toList (a5, 0)
              have h2 : (rkT s.data.toList (a5, 0)).1 = t := by unfold rkT; rw [if_pos rfl, if_pos (by rw [HFA.out]; exact h6)]; exact HTA.out
              rw [h2, HLN.out] at h1
              have h3 : (⟨t.toArray⟩ : ByteArray).size = t.length := List.size_toArray
              have := HS.out
              omega : (⟨t.toArray⟩ : ByteArray).size ≤ maxLen)
            have q0 : (f6 == 0) = true := beq_iff_eq.2 h6
            have q6 : (f6 != 0) = false := by simp [h6]
            have HRM := Lib.hid hrm
            clear h6 hrm HMT HFA
            by_cases h7 : a6 < (ln : Int)
            · have HSH : Hid (R = .short) := HRM.out.trans (msgF_no (by rw [HLN.out]; omega))
              clear hle6
              obtain ⟨z2, hz2⟩ : ∃ z2, World.setRow x1 N zeroM.l.toArray = z2 := ⟨_, rfl⟩
              have HK9 : Hid (Blk z2 N 32 zeroM.l) := (by rw [← hz2]; exact HR.out.kn.setRow zeroM.l : Blk z2 N 32 zeroM.l)
              have HF9 : Hid (Fr (fun c => c = b) W z2) := (by rw [← hz2]; exact HR.out.fr.setRow N _ (.inr HG.out.2.1) : Fr (fun c => c = b) W z2)
              have HZ2 := Lib.hid hz2
              clear hz2
              go_wp2_with (refine wpList_store_row rfl 32 (.tmp 2) (.tmp 83) rfl N zeroM.l.toArray rfl rfl 32 _ HR.out.kn HSM.out rfl HZC.out ?_; rw [HZ2.out])
              refine bodyPost_ret (results_row_tmp Tryz.results11 _ _ N 32 zeroM.l.toArray (0, 0) _ rfl HK9.out Tryz.underlying32 rfl HSM.out) rfl ?_
              exact MDecPost.s HSH.out (HF9.out.below _ (Nat.le_refl _) (fun c e => by have := HG.out.2.2; omega))
            · have hae : a6 = (s.data.toList.length : Int) := by rw [HLN.out]; omega
              have HRO : Hid (R = msgO 1 [n1, n2, n3, n4] (decR t)) := HRM.out.trans (msgF_1 hae rfl)
              have HDC := Lib.hid (fun w => ref15Dec ⟨t.toArray⟩ w HTL.out)
              clear hae hle6 HRM
              go_wp2_with fail
              refine (HDC.out _).mono ?_
              rintro en x3 ⟨hbz, ⟨o, al, oa, ac, hd, rfl, hra, han, ha9, hot, hge⟩ | ⟨hno, c, hc, rfl⟩⟩
              · have hd2 : decR t = .ok o al := hd
                obtain ⟨B3, hB3⟩ : ∃ B3, x3.heap.size = B3 := ⟨_, rfl⟩
                obtain ⟨x4, hx4⟩ : ∃ x4, x3.alloc (.cells zOa 30) = x4 := ⟨_, rfl⟩
                obtain ⟨x5, hx5⟩ : ∃ x5, x4.setRow B3 (o.withA oa ac).l.toArray = x5 := ⟨_, rfl⟩
                have hb5 : Below x3.heap.size x3 x5 := by rw [← hx5, ← hx4, ← hB3]; exact below_setRow ((Below.refl _ x3).alloc (Nat.le_refl _) _) (Nat.le_refl _) _
                have hr3 := HR.out.below hbz
                have HR5 := Lib.hid (hr3.below hb5)
                have HK4 : Hid (Blk x4 B3 30 zOl) := (by rw [← hx4, ← hB3]; exact Blk.new x3 _ zOl : Blk x4 B3 30 zOl)
                have HK5 : Hid (Blk x5 B3 30 (o.withA oa ac).l) := (by rw [← hx5]; exact HK4.out.setRow (o.withA oa ac).l : Blk x5 B3 30 (o.withA oa ac).l)
                have HRA5 := Lib.hid (hra.kept hb5)
                have HOC : Hid ((o.withA oa ac).l.toArray.all (·.oneCell') = true) := (o.withA oa ac).oneC
                have HOZ : Hid (zOa.size = (o.withA oa ac).l.toArray.size) := rfl
                have hml := hr3.km.lt
                have hnl := HR.out.kn.lt
                have hml2 := HR.out.km.lt
                have hsz := HR.out.fr.size
                have HGE : Hid (∀ x, oa = some x → W.heap.size ≤ x.block ∧ x.block ≠ N ∧ x.block ≠ M) := fun x e => by have := hge x e; exact ⟨by omega, by omega, by omega⟩
                have HX5 := Lib.hid hx5
                have HRO2 : Hid (R = okR (m5 1 [n1, n2, n3, n4] o) al) := (by rw [HRO.out, hd2]; rfl : R = okR (m5 1 [n1, n2, n3, n4] o) al)
                have HOT := Lib.hid hot
                have HAN := Lib.hid han
                have HA9 := Lib.hid ha9
                have k5 : x5.cell? ⟨M, 0, none⟩ = some (.int .i64 1) := HR5.out.km.cell 0
                clear hd hra hge hd2 hb5 hr3 hx5 hbz hot han ha9 hml hnl hml2 hsz HR k0
                go_upto_region 23 with (refine wpList_store_row rfl 30 (.tmp 11) (.tmp 90) rfl B3 (o.withA oa ac).l.toArray rfl rfl 30 _ HK4.out HSZ.out HOZ.out HOC.out ?_; rw [HX5.out])
                clear hx4 HX5 HK4 hB3
                go_upto_region 26 with (first | (refine wpList_load_mid rfl 30 (.tmp 11) rfl B3 0 rfl (o.withA oa ac).l _ HK5.out.range Tryz.underlying30 rfl HSZ.out ?_) | (refine wpList_store_mid rfl 30 (.tmp 96) (.tmp 95) rfl M 5 (o.withA oa ac).l.toArray rfl rfl (HR5.out.km.there 5 26 (Nat.le_refl 31)) HSZ.out HOC.out ?_))
                clear k5
                have HR6 : Hid (RkS W (x5.setCells M 5 (o.withA oa ac).l) b N M s (a5, 0) 32 zeroM.l ((m5 1 [n1, n2, n3, n4] o).withA oa ac).l) := RkS.puts HR5.out 5 (o.withA oa ac).l (sets_msgO _ _)
                have HRA6 : Hid (RdA (x5.setCells M 5 (o.withA oa ac).l) oa al) := (by
                  by_cases h9 : oa = none
                  · rcases HRA5.out with e | ⟨b9, o9, e, _⟩
                    · exact .inl e
                    · rw [h9] at e; cases e
                  · exact HRA5.out.keptB ((Fr.setCells (S := fun c => c = M) M (o.withA oa ac).l 5 (Fr.refl _ x5) (.inl rfl)).size) (fun b9 o9 e hlt => heap_setCells M b9 (HGE.out _ e).2.2 (o.withA oa ac).l 5 x5) : RdA (x5.setCells M 5 (o.withA oa ac).l) oa al)
                generalize World.setCells _ _ _ _ = x6 at HR6 HRA6 ⊢
                have HVL := Lib.hid (gRef20 (MOd.withA (m5 1 [n1, n2, n3, n4] o) oa ac) al x6 HAN.out (by have := HA9.out; show _ ≤ _; exact Nat.le_trans HA9.out (by decide)) HRA6.out HOT.out)
                have HMC : Hid ((MOd.withA (m5 1 [n1, n2, n3, n4] o) oa ac).l.toArray.all (·.oneCell') = true) := (MOd.withA (m5 1 [n1, n2, n3, n4] o) oa ac).oneC
                have HME : Hid (zeroM.l.toArray.size = (MOd.withA (m5 1 [n1, n2, n3, n4] o) oa ac).l.toArray.size) := rfl
                go_wp2_with (refine wpList_load_mid rfl 32 (.tmp 5) rfl M 0 rfl (MOd.withA (m5 1 [n1, n2, n3, n4] o) oa ac).l _ HR6.out.km.range Tryz.underlying32 rfl HSM.out ?_)
                refine HVL.out.mono ?_
                rintro en z1 ⟨rfl, hbz⟩
                have HR := Lib.hid (HR6.out.below hbz)
                have hra := HRA6.out.kept hbz
                clear hbz HVL
                cases hok : okM (MOd.withA (m5 1 [n1, n2, n3, n4] o) oa ac) al with
                | false =>
                  have HMN : Hid (R = .mean) := (by rw [HRO2.out]; unfold okR; rw [show okM (m5 1 [n1, n2, n3, n4] o) al = false from hok]; rfl : R = .mean)
                  clear hra hok
                  obtain ⟨z2, hz2⟩ : ∃ z2, World.setRow z1 N zeroM.l.toArray = z2 := ⟨_, rfl⟩
                  have HK9 : Hid (Blk z2 N 32 zeroM.l) := (by rw [← hz2]; exact HR.out.kn.setRow zeroM.l : Blk z2 N 32 zeroM.l)
                  have HF9 : Hid (Fr (fun c => c = b) W z2) := (by rw [← hz2]; exact HR.out.fr.setRow N _ (.inr HG.out.2.1) : Fr (fun c => c = b) W z2)
                  have HZ2 := Lib.hid hz2
                  clear hz2
                  go_wp2_with (refine wpList_store_row rfl 32 (.tmp 2) (.tmp 101) rfl N zeroM.l.toArray rfl rfl 32 _ HR.out.kn HSM.out rfl HZC.out ?_; rw [HZ2.out])
                  refine bodyPost_ret (results_row_tmp Tryz.results11 _ _ N 32 zeroM.l.toArray (0, 0) _ rfl HK9.out Tryz.underlying32 rfl HSM.out) rfl ?_
                  exact MDecPost.m HMN.out (HF9.out.below _ (Nat.le_refl _) (fun c e => by have := HG.out.2.2; omega))
                | true =>
                  have HMO : Hid (R = .ok (m5 1 [n1, n2, n3, n4] o) al) := (by rw [HRO2.out]; unfold okR; rw [show okM (m5 1 [n1, n2, n3, n4] o) al = true from hok]; rfl : R = .ok (m5 1 [n1, n2, n3, n4] o) al)
                  obtain ⟨z2, hz2⟩ : ∃ z2, z1.setRow N (MOd.withA (m5 1 [n1, n2, n3, n4] o) oa ac).l.toArray = z2 := ⟨_, rfl⟩
                  have HK9 : Hid (Blk z2 N 32 (MOd.withA (m5 1 [n1, n2, n3, n4] o) oa ac).l) := (by rw [← hz2]; exact HR.out.kn.setRow (MOd.withA (m5 1 [n1, n2, n3, n4] o) oa ac).l : Blk z2 N 32 (MOd.withA (m5 1 [n1, n2, n3, n4] o) oa ac).l)
                  have HF9 : Hid (Fr (fun c => c = b) W z2) := (by rw [← hz2]; exact HR.out.fr.setRow N _ (.inr HG.out.2.1) : Fr (fun c => c = b) W z2)
                  have HRA9 : Hid (RdA z2 oa al) := (by
                    rw [← hz2]
                    by_cases h9 : (oa : Option Addr) = none
                    · rcases hra with e | ⟨b9, o9, e, _⟩
                      · exact .inl e
                      · rw [h9] at e; cases e
                    · refine hra.keptB (by simp [World.setRow]) (fun b9 o9 e hlt => heap_setRow_other _ _ _ _ ?_)
                      exact (HGE.out _ e).2.1 : RdA z2 oa al)
                  have HZ2 := Lib.hid hz2
                  clear hz2 hra hok
                  go_wp2_with (first | (refine wpList_load_mid rfl 32 (.tmp 5) rfl M 0 rfl (MOd.withA (m5 1 [n1, n2, n3, n4] o) oa ac).l _ HR.out.km.range Tryz.underlying32 rfl HSM.out ?_) | (refine wpList_store_row rfl 32 (.tmp 2) (.tmp 102) rfl N (MOd.withA (m5 1 [n1, n2, n3, n4] o) oa ac).l.toArray rfl rfl 32 _ HR.out.kn HSM.out HME.out HMC.out ?_; rw [HZ2.out]))
                  refine bodyPost_ret (results_row_tmp Tryz.results11 _ _ N 32 (MOd.withA (m5 1 [n1, n2, n3, n4] o) oa ac).l.toArray (0, 0) _ rfl HK9.out Tryz.underlying32 rfl HSM.out) rfl ?_
                  exact MDecPost.o HMO.out (HF9.out.below _ (Nat.le_refl _) (fun c e => by have := HG.out.2.2; omega)) ⟨oa, ac, rfl, HRA9.out, fun x e => (HGE.out x e).1⟩
              · have HMN : Hid (R = .mean) := (by
                  rw [HRO.out]
                  cases hd : decR t with
                  | ok o al => exact absurd hd (hno o al)
                  | wire => rfl
                  | bad => rfl : R = .mean)
                have hr3 := HR.out.below hbz
                obtain ⟨B3, hB3⟩ : ∃ B3, x3.heap.size = B3 := ⟨_, rfl⟩
                obtain ⟨x4, hx4⟩ : ∃ x4, x3.alloc (.cells zOa 30) = x4 := ⟨_, rfl⟩
                obtain ⟨x5, hx5⟩ : ∃ x5, x4.setRow B3 zeroO.l.toArray = x5 := ⟨_, rfl⟩
                have hb5 : Below x3.heap.size x3 x5 := by rw [← hx5, ← hx4, ← hB3]; exact below_setRow ((Below.refl _ x3).alloc (Nat.le_refl _) _) (Nat.le_refl _) _
                have HR := Lib.hid (hr3.below hb5)
                have HK4 : Hid (Blk x4 B3 30 zOl) := (by rw [← hx4, ← hB3]; exact Blk.new x3 _ zOl : Blk x4 B3 30 zOl)
                have HX5 := Lib.hid hx5
                have q9 : (c != 0) = true := by simp [hc]
                have HOZ : Hid (zOa.size = zeroO.l.toArray.size) := rfl
                have HOC : Hid (zeroO.l.toArray.all (·.oneCell') = true) := zeroO.oneC
                clear hno hbz hr3 hb5 hx5 k0
                go_upto_region 23 with (refine wpList_store_row rfl 30 (.tmp 11) (.tmp 90) rfl B3 zeroO.l.toArray rfl rfl 30 _ HK4.out HSZ.out HOZ.out HOC.out ?_; rw [HX5.out])
                clear hx4 HX5 HK4 hB3
                obtain ⟨z2, hz2⟩ : ∃ z2, World.setRow x5 N zeroM.l.toArray = z2 := ⟨_, rfl⟩
                have HK9 : Hid (Blk z2 N 32 zeroM.l) := (by rw [← hz2]; exact HR.out.kn.setRow zeroM.l : Blk z2 N 32 zeroM.l)
                have HF9 : Hid (Fr (fun c => c = b) W z2) := (by rw [← hz2]; exact HR.out.fr.setRow N _ (.inr HG.out.2.1) : Fr (fun c => c = b) W z2)
                have HZ2 := Lib.hid hz2
                clear hz2
                go_wp2_with (refine wpList_store_row rfl 32 (.tmp 2) (.tmp 94) rfl N zeroM.l.toArray rfl rfl 32 _ HR.out.kn HSM.out rfl HZC.out ?_; rw [HZ2.out])
                refine bodyPost_ret (results_row_tmp Tryz.results11 _ _ N 32 zeroM.l.toArray (0, 0) _ rfl HK9.out Tryz.underlying32 rfl HSM.out) rfl ?_
                exact MDecPost.m HMN.out (HF9.out.below _ (Nat.le_refl _) (fun c e => by have := HG.out.2.2; omega))
          · have HSH : Hid (R = .short) := HMT.out.trans (msgT_1n rfl (by rw [HFA.out]; exact h6))
            have q6 : (f6 != 0) = true := by simp [h6]
            clear h6 HMT
            obtain ⟨z2, hz2⟩ : ∃ z2, World.setRow x1 N zeroM.l.toArray = z2 := ⟨_, rfl⟩
            have HK9 : Hid (Blk z2 N 32 zeroM.l) := (by rw [← hz2]; exact HR.out.kn.setRow zeroM.l : Blk z2 N 32 zeroM.l)
            have HF9 : Hid (Fr (fun c => c = b) W z2) := (by rw [← hz2]; exact HR.out.fr.setRow N _ (.inr HG.out.2.1) : Fr (fun c => c = b) W z2)
            have HZ2 := Lib.hid hz2
            clear hz2
            go_wp2_with (refine wpList_store_row rfl 32 (.tmp 2) (.tmp 76) rfl N zeroM.l.toArray rfl rfl 32 _ HR.out.kn HSM.out rfl HZC.out ?_; rw [HZ2.out])
            refine bodyPost_ret (results_row_tmp Tryz.results11 _ _ N 32 zeroM.l.toArray (0, 0) _ rfl HK9.out Tryz.underlying32 rfl HSM.out) rfl ?_
            exact MDecPost.s HSH.out (HF9.out.below _ (Nat.le_refl _) (fun c e => by have := HG.out.2.2; omega))
        · have q1 : (k == 1) = false := beq_eq_false_iff_ne.2 hk1
          have hrm : R = msgF s.data.toList k [n1, n2, n3, n4] a5 [] := by rw [HMT.out, msgT_x hk1]
          have HRM := Lib.hid hrm
          have hle5 : a5 ≤ (ln : Int) := by have := HLE.out; rw [HLN.out] at this; exact this
          clear hrm HMT hk3
          by_cases h7 : a5 < (ln : Int)
          · have HSH : Hid (R = .short) := HRM.out.trans (msgF_no (by rw [HLN.out]; omega))
            clear hle5 hk1
            obtain ⟨z2, hz2⟩ : ∃ z2, World.setRow v4 N zeroM.l.toArray = z2 := ⟨_, rfl⟩
            have HK9 : Hid (Blk z2 N 32 zeroM.l) := (by rw [← hz2]; exact HR.out.kn.setRow zeroM.l : Blk z2 N 32 zeroM.l)
            have HF9 : Hid (Fr (fun c => c = b) W z2) := (by rw [← hz2]; exact HR.out.fr.setRow N _ (.inr HG.out.2.1) : Fr (fun c => c = b) W z2)
            have HZ2 := Lib.hid hz2
            clear hz2
            go_wp2_with (refine wpList_store_row rfl 32 (.tmp 2) (.tmp 83) rfl N zeroM.l.toArray rfl rfl 32 _ HR.out.kn HSM.out rfl HZC.out ?_; rw [HZ2.out])
            refine bodyPost_ret (results_row_tmp Tryz.results11 _ _ N 32 zeroM.l.toArray (0, 0) _ rfl HK9.out Tryz.underlying32 rfl HSM.out) rfl ?_
            exact MDecPost.s HSH.out (HF9.out.below _ (Nat.le_refl _) (fun c e => by have := HG.out.2.2; omega))
          · have hae : a5 = (s.data.toList.length : Int) := by rw [HLN.out]; omega
            have HRO2 : Hid (R = okR (m5 k [n1, n2, n3, n4] zeroO) []) := HRM.out.trans (msgF_x hae hk1)
            have HOT : Hid (zeroO.txt.size ≤ maxLen) := Nat.zero_le _
            have HAN : Hid (([] : List (Int × Int)).length = zeroO.an) := rfl
            have HA9 : Hid (zeroO.an ≤ 100) := Nat.zero_le _
            have HGE : Hid (∀ x, (none : Option Addr) = some x → W.heap.size ≤ x.block ∧ x.block ≠ N ∧ x.block ≠ M) := fun x e => by cases e
            have HRA6 : Hid (RdA v4 none []) := .inl rfl
            have HR6 : Hid (RkS W v4 b N M s (a5, 0) 32 zeroM.l ((m5 k [n1, n2, n3, n4] zeroO).withA none 0).l) := HR.out
            clear hae hle5 hk1 HRM
            go_upto_region 26 with (fail)
            clear q1 c1 c2 k0 h7 hsl
            have HVL := Lib.hid (gRef20 (MOd.withA (m5 k [n1, n2, n3, n4] zeroO) none 0) [] v4 HAN.out (by have := HA9.out; show _ ≤ _; exact Nat.le_trans HA9.out (by decide)) HRA6.out HOT.out)
            have HMC : Hid ((MOd.withA (m5 k [n1, n2, n3, n4] zeroO) none 0).l.toArray.all (·.oneCell') = true) := (MOd.withA (m5 k [n1, n2, n3, n4] zeroO) none 0).oneC
            have HME : Hid (zeroM.l.toArray.size = (MOd.withA (m5 k [n1, n2, n3, n4] zeroO) none 0).l.toArray.size) := rfl
            go_wp2_with (refine wpList_load_mid rfl 32 (.tmp 5) rfl M 0 rfl (MOd.withA (m5 k [n1, n2, n3, n4] zeroO) none 0).l _ HR6.out.km.range Tryz.underlying32 rfl HSM.out ?_)
            refine HVL.out.mono ?_
            rintro en z1 ⟨rfl, hbz⟩
            have HR := Lib.hid (HR6.out.below hbz)
            have hra := HRA6.out.kept hbz
            clear hbz HVL
            cases hok : okM (MOd.withA (m5 k [n1, n2, n3, n4] zeroO) none 0) [] with
            | false =>
              have HMN : Hid (R = .mean) := (by rw [HRO2.out]; unfold okR; rw [show okM (m5 k [n1, n2, n3, n4] zeroO) [] = false from hok]; rfl : R = .mean)
              clear hra hok
              obtain ⟨z2, hz2⟩ : ∃ z2, World.setRow z1 N zeroM.l.toArray = z2 := ⟨_, rfl⟩
              have HK9 : Hid (Blk z2 N 32 zeroM.l) := (by rw [← hz2]; exact HR.out.kn.setRow zeroM.l : Blk z2 N 32 zeroM.l)
              have HF9 : Hid (Fr (fun c => c = b) W z2) := (by rw [← hz2]; exact HR.out.fr.setRow N _ (.inr HG.out.2.1) : Fr (fun c => c = b) W z2)
              have HZ2 := Lib.hid hz2
              clear hz2
              go_wp2_with (refine wpList_store_row rfl 32 (.tmp 2) (.tmp 101) rfl N zeroM.l.toArray rfl rfl 32 _ HR.out.kn HSM.out rfl HZC.out ?_; rw [HZ2.out])
              refine bodyPost_ret (results_row_tmp Tryz.results11 _ _ N 32 zeroM.l.toArray (0, 0) _ rfl HK9.out Tryz.underlying32 rfl HSM.out) rfl ?_
              exact MDecPost.m HMN.out (HF9.out.below _ (Nat.le_refl _) (fun c e => by have := HG.out.2.2; omega))
            | true =>
              have HMO : Hid (R = .ok (m5 k [n1, n2, n3, n4] zeroO) []) := (by rw [HRO2.out]; unfold okR; rw [show okM (m5 k [n1, n2, n3, n4] zeroO) [] = true from hok]; rfl : R = .ok (m5 k [n1, n2, n3, n4] zeroO) [])
              obtain ⟨z2, hz2⟩ : ∃ z2, z1.setRow N (MOd.withA (m5 k [n1, n2, n3, n4] zeroO) none 0).l.toArray = z2 := ⟨_, rfl⟩
              have HK9 : Hid (Blk z2 N 32 (MOd.withA (m5 k [n1, n2, n3, n4] zeroO) none 0).l) := (by rw [← hz2]; exact HR.out.kn.setRow (MOd.withA (m5 k [n1, n2, n3, n4] zeroO) none 0).l : Blk z2 N 32 (MOd.withA (m5 k [n1, n2, n3, n4] zeroO) none 0).l)
              have HF9 : Hid (Fr (fun c => c = b) W z2) := (by rw [← hz2]; exact HR.out.fr.setRow N _ (.inr HG.out.2.1) : Fr (fun c => c = b) W z2)
              have HRA9 : Hid (RdA z2 none []) := (by
                rw [← hz2]
                by_cases h9 : (none : Option Addr) = none
                · rcases hra with e | ⟨b9, o9, e, _⟩
                  · exact .inl e
                  · rw [h9] at e; cases e
                · refine hra.keptB (by simp [World.setRow]) (fun b9 o9 e hlt => heap_setRow_other _ _ _ _ ?_)
                  exact (HGE.out _ e).2.1 : RdA z2 none [])
              have HZ2 := Lib.hid hz2
              clear hz2 hra hok
              go_wp2_with (first | (refine wpList_load_mid rfl 32 (.tmp 5) rfl M 0 rfl (MOd.withA (m5 k [n1, n2, n3, n4] zeroO) none 0).l _ HR.out.km.range Tryz.underlying32 rfl HSM.out ?_) | (refine wpList_store_row rfl 32 (.tmp 2) (.tmp 102) rfl N (MOd.withA (m5 k [n1, n2, n3, n4] zeroO) none 0).l.toArray rfl rfl 32 _ HR.out.kn HSM.out HME.out HMC.out ?_; rw [HZ2.out]))
              refine bodyPost_ret (results_row_tmp Tryz.results11 _ _ N 32 (MOd.withA (m5 k [n1, n2, n3, n4] zeroO) none 0).l.toArray (0, 0) _ rfl HK9.out Tryz.underlying32 rfl HSM.out) rfl ?_
              exact MDecPost.o HMO.out (HF9.out.below _ (Nat.le_refl _) (fun c e => by have := HG.out.2.2; omega)) ⟨none, 0, rfl, HRA9.out, fun x e => (HGE.out x e).1⟩
      · have HE5 := Lib.hid h5
        clear h5
        have q8 : (e5 != 0) = true := by simp [HE5.out]
        have c2 : v4.cell? ⟨b, 2, none⟩ = some (.int .i64 e5) := HR.out.i.cell 2
        go_upto_region 10 with (fail)
        clear q8 c2
        refine wp_region_held_drew (S := fun W => W.cell? ⟨b, 2, none⟩ = some (.int .i64 e5)) (by kernel_rfl) ?_ (fun hHeld => ?_)
        · exact HR.out.drew.i.cell 2
        have hr9 := HR.out.drew
        generalize World.drew _ = z at hr9 hHeld ⊢
        have HR := Lib.hid hr9
        clear hr9
        refine tk 0 (some 55) ?_
        refine tk 1 (some 56) ?_
        refine tk 2 (some 57) ?_
        refine tk 3 (some 58) ?_
        refine tk 4 (some 59) ?_
        refine rd1 5 none (fun K hK => ?_)
        refine step_storeRow (by rfl) 32 (.tmp 2) (.tmp 55) (by rfl) N 32 zeroM.l zMa (by rfl) (by rfl) HR.out.kn (Nat.le_refl _) HSM.out zeroM_one ?_
        have hkz := Blk.sets zMl 0 HR.out.kn
        rw [sets_zeroM] at hkz
        have HKZ := Lib.hid hkz
        have HE2 : Hid (World.cell? (z.setCells N 0 zMl) ⟨b, 2, none⟩ = some (.int .i64 e5)) := (Blk.kept HR.out.i (heap_setCells N b HG.out.1 zMl 0 _)).cell 2
        have HFZ : Hid (Fr (fun c => c = b) W (z.setCells N 0 zMl)) := Fr.setCells N zMl 0 HR.out.fr (.inr HG.out.2.1)
        clear hkz
        generalize World.setCells _ _ _ _ = zz at HKZ HE2 HFZ ⊢
        refine hK.out _ _ ?_ (fun hHeld2 => ?_)
        · exact HE2.out
        clear hK K hHeld
        rename _ => hHeld
        try simp only [Act.put, List.setIfInBounds_toArray, List.set_cons_zero, List.set_cons_succ]
        refine tk 6 (some 3) ?_
        refine wpAnyH_done (by kernel_rfl) ?_ _
        clear hHeld
        go_wp2_with fail
        refine bodyPost_ret (results_row_tmp Tryz.results11 _ _ N 32 zeroM.l.toArray (0, 0) _ rfl HKZ.out Tryz.underlying32 rfl HSM.out) rfl ?_
        have hbl : Below W.heap.size W zz := HFZ.out.below _ (Nat.le_refl _) (fun c e => by have := HG.out.2.2; omega)
        rcases HQM.out.1 HE5.out with ⟨h1, h2⟩ | ⟨h1, h2⟩
        · rw [h1]
          exact MDecPost.m (HRR.out.symm.trans h2) hbl
        · rw [h1]
          exact MDecPost.s (HRR.out.symm.trans h2) hbl
end Go.Proofs.YtjkiidhnmljmbaaGreatDoor
