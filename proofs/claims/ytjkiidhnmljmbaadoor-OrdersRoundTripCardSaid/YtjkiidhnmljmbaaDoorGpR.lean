/-
  The law OrdersRoundTrip: the walk.
-/
import Derived.Test.YtjkiidhnmljmbaaDoorOrX
import Derived.Test.YtjkiidhnmljmbaaDoorOrRp
import Derived.Test.YtjkiidhnmljmbaaDoorGpAB
import Derived.Test.YtjkiidhnmljmbaaDoorGpM
set_option linter.unusedVariables false
set_option linter.unusedSimpArgs false
namespace Go.Proofs.YtjkiidhnmljmbaaDoor
open Go.RowKit Onair
attribute [local go_sem] Oper.semAt_some
theorem take_ext (s : ByteArray) (j : Nat) : (s.extract 0 j).data.toList = s.data.toList.take j := by
  have := extract_list s 0 j
  rw [Nat.zero_add, List.drop_zero] at this
  rw [this]
/-- The message with its order cut. -/
def MOd.cutM (m : MOd) : MOd := { m with o := m.o.cutO }
set_option maxHeartbeats 16000000 in
set_option maxRecDepth 100000 in
theorem walkRound (W : World) (m : MOd) (al : List (Int × Int)) (q : MOd) (bl : List (Int × Int)) (z : Int) (hmn : al.length = m.o.an) (hmc : m.o.an ≤ m.o.ac) (hmm : m.o.ac ≤ maxLen) (hmr : RdA W m.o.ao al) (hmt : m.o.txt.size ≤ maxLen) (hqn : bl.length = q.o.an) (hqc : q.o.an ≤ q.o.ac) (hqm : q.o.ac ≤ maxLen) (hqr : RdA W q.o.ao bl) (hqt : q.o.txt.size ≤ maxLen) (z0 : -9223372036854775808 ≤ z) (z1 : z ≤ 9223372036854775807) (hse : ∃ es em er eb, Sent W es em er eb) :
    Calls Tryd.prog 3 #[.agg m.l.toArray, .agg q.l.toArray, .int .i64 z] W fun e w' => e = .returned (.bool true) ∧ Below W.heap.size W w' := by
  obtain ⟨es, em, er, eb, hse⟩ := hse
  obtain ⟨N, hN⟩ : ∃ N, W.heap.size = N := ⟨_, rfl⟩
  obtain ⟨w1, hw1⟩ : ∃ w1, W.alloc (.cells #[.int .i64 m.kd, .int .i64 m.tn, .int .i64 m.sq, .int .i64 m.fr, .int .i64 m.n, .int .i64 m.o.s, .int .i64 m.o.ch, .int .i64 m.o.f, .int .i64 m.o.k, .int .i64 m.o.e, .int .i64 m.o.n, .int .i64 m.o.nid, .int .i64 m.o.item, .int .i64 m.o.frs, .int .i64 m.o.ear, .int .i64 m.o.lat, .int .i64 m.o.book, .slice m.o.ao m.o.an m.o.ac, .int .i64 m.o.cl.kind, .int .i64 m.o.cl.item, .int .i64 m.o.cl.frm, .int .i64 m.o.cl.til, .int .i64 m.o.cl.regs, .int .i64 m.o.cl.n, .int .i64 m.o.cl.a, .int .i64 m.o.cl.b, .int .i64 m.o.qid, .int .i64 m.o.qf, .int .i64 m.o.qt, .int .i64 m.o.qp, .string m.o.txt] 32) = w1 := ⟨_, rfl⟩
  have hb1 : Below N W w1 := by rw [← hw1, ← hN]; exact (Below.refl _ W).alloc (Nat.le_refl _) _
  have hk1 : Blk w1 N 32 [.int .i64 m.kd, .int .i64 m.tn, .int .i64 m.sq, .int .i64 m.fr, .int .i64 m.n, .int .i64 m.o.s, .int .i64 m.o.ch, .int .i64 m.o.f, .int .i64 m.o.k, .int .i64 m.o.e, .int .i64 m.o.n, .int .i64 m.o.nid, .int .i64 m.o.item, .int .i64 m.o.frs, .int .i64 m.o.ear, .int .i64 m.o.lat, .int .i64 m.o.book, .slice m.o.ao m.o.an m.o.ac, .int .i64 m.o.cl.kind, .int .i64 m.o.cl.item, .int .i64 m.o.cl.frm, .int .i64 m.o.cl.til, .int .i64 m.o.cl.regs, .int .i64 m.o.cl.n, .int .i64 m.o.cl.a, .int .i64 m.o.cl.b, .int .i64 m.o.qid, .int .i64 m.o.qf, .int .i64 m.o.qt, .int .i64 m.o.qp, .string m.o.txt] := by rw [← hw1, ← hN]; exact Blk.new W _ [.int .i64 m.kd, .int .i64 m.tn, .int .i64 m.sq, .int .i64 m.fr, .int .i64 m.n, .int .i64 m.o.s, .int .i64 m.o.ch, .int .i64 m.o.f, .int .i64 m.o.k, .int .i64 m.o.e, .int .i64 m.o.n, .int .i64 m.o.nid, .int .i64 m.o.item, .int .i64 m.o.frs, .int .i64 m.o.ear, .int .i64 m.o.lat, .int .i64 m.o.book, .slice m.o.ao m.o.an m.o.ac, .int .i64 m.o.cl.kind, .int .i64 m.o.cl.item, .int .i64 m.o.cl.frm, .int .i64 m.o.cl.til, .int .i64 m.o.cl.regs, .int .i64 m.o.cl.n, .int .i64 m.o.cl.a, .int .i64 m.o.cl.b, .int .i64 m.o.qid, .int .i64 m.o.qf, .int .i64 m.o.qt, .int .i64 m.o.qp, .string m.o.txt]
  obtain ⟨L, hL⟩ : ∃ L, w1.heap.size = L := ⟨_, rfl⟩
  obtain ⟨w2, hw2⟩ : ∃ w2, w1.alloc (.cells #[.int .i64 q.kd, .int .i64 q.tn, .int .i64 q.sq, .int .i64 q.fr, .int .i64 q.n, .int .i64 q.o.s, .int .i64 q.o.ch, .int .i64 q.o.f, .int .i64 q.o.k, .int .i64 q.o.e, .int .i64 q.o.n, .int .i64 q.o.nid, .int .i64 q.o.item, .int .i64 q.o.frs, .int .i64 q.o.ear, .int .i64 q.o.lat, .int .i64 q.o.book, .slice q.o.ao q.o.an q.o.ac, .int .i64 q.o.cl.kind, .int .i64 q.o.cl.item, .int .i64 q.o.cl.frm, .int .i64 q.o.cl.til, .int .i64 q.o.cl.regs, .int .i64 q.o.cl.n, .int .i64 q.o.cl.a, .int .i64 q.o.cl.b, .int .i64 q.o.qid, .int .i64 q.o.qf, .int .i64 q.o.qt, .int .i64 q.o.qp, .string q.o.txt] 32) = w2 := ⟨_, rfl⟩
  have hb2 : Below L w1 w2 := by rw [← hw2, ← hL]; exact (Below.refl _ w1).alloc (Nat.le_refl _) _
  have hk2 : Blk w2 L 32 [.int .i64 q.kd, .int .i64 q.tn, .int .i64 q.sq, .int .i64 q.fr, .int .i64 q.n, .int .i64 q.o.s, .int .i64 q.o.ch, .int .i64 q.o.f, .int .i64 q.o.k, .int .i64 q.o.e, .int .i64 q.o.n, .int .i64 q.o.nid, .int .i64 q.o.item, .int .i64 q.o.frs, .int .i64 q.o.ear, .int .i64 q.o.lat, .int .i64 q.o.book, .slice q.o.ao q.o.an q.o.ac, .int .i64 q.o.cl.kind, .int .i64 q.o.cl.item, .int .i64 q.o.cl.frm, .int .i64 q.o.cl.til, .int .i64 q.o.cl.regs, .int .i64 q.o.cl.n, .int .i64 q.o.cl.a, .int .i64 q.o.cl.b, .int .i64 q.o.qid, .int .i64 q.o.qf, .int .i64 q.o.qt, .int .i64 q.o.qp, .string q.o.txt] := by rw [← hw2, ← hL]; exact Blk.new w1 _ [.int .i64 q.kd, .int .i64 q.tn, .int .i64 q.sq, .int .i64 q.fr, .int .i64 q.n, .int .i64 q.o.s, .int .i64 q.o.ch, .int .i64 q.o.f, .int .i64 q.o.k, .int .i64 q.o.e, .int .i64 q.o.n, .int .i64 q.o.nid, .int .i64 q.o.item, .int .i64 q.o.frs, .int .i64 q.o.ear, .int .i64 q.o.lat, .int .i64 q.o.book, .slice q.o.ao q.o.an q.o.ac, .int .i64 q.o.cl.kind, .int .i64 q.o.cl.item, .int .i64 q.o.cl.frm, .int .i64 q.o.cl.til, .int .i64 q.o.cl.regs, .int .i64 q.o.cl.n, .int .i64 q.o.cl.a, .int .i64 q.o.cl.b, .int .i64 q.o.qid, .int .i64 q.o.qf, .int .i64 q.o.qt, .int .i64 q.o.qp, .string q.o.txt]
  have hNL : N < L := by rw [← hL]; exact hk1.lt
  have hk3 := hk1.kept (hb2.block N hNL)
  have hb12 : Below N W w2 := hb1.trans (hb2.mono (Nat.le_of_lt hNL))
  have HN := Lib.hid hN
  have HB := Lib.hid hb12
  have n1 : N ≠ L := by omega
  have n2 : L ≠ N := by omega
  have HSA := Lib.hid (sane_any es w2 (hse.below (hN ▸ hb12)).s)
  have HSE : Hid (∀ w', Below N W w' → Sent w' es em er eb) := fun w' h => hse.below (hN ▸ h)
  have HCM := Lib.hid (fun W' => gCut m.o W' hmc hmm hmt)
  have HCQ := Lib.hid (fun W' => gCut q.o W' hqc hqm hqt)
  have HSZ := Lib.hid (show (Tryd.prog.info? 30).map (·.size) = some 26 from by kernel_rfl)
  have HSG := Lib.hid (show (Tryd.prog.info? 32).map (·.size) = some 31 from by kernel_rfl)
  obtain ⟨m1, hm1⟩ : ∃ m1, m.cutM = m1 := ⟨_, rfl⟩
  obtain ⟨q1, hq1⟩ : ∃ q1, q.cutM = q1 := ⟨_, rfl⟩
  obtain ⟨al1, hal1⟩ : ∃ al1, al.take 9 = al1 := ⟨_, rfl⟩
  obtain ⟨bl1, hbl1⟩ : ∃ bl1, bl.take 9 = bl1 := ⟨_, rfl⟩
  have hma := cut_alts hmn hmr
  have hqa := cut_alts hqn hqr
  have hmf := cut_facts m.o
  have hqf := cut_facts q.o
  have hmo : m.o.cutO = m1.o := by rw [← hm1]; rfl
  have hqo : q.o.cutO = q1.o := by rw [← hq1]; rfl
  rw [hal1, hmo] at hma
  rw [hbl1, hqo] at hqa
  rw [hmo] at hmf HCM
  rw [hqo] at hqf HCQ
  have HM1 : Hid (setsL m.l 5 m1.o.l = m1.l) := (by rw [← hmo, store_msgO, ← hm1]; rfl : setsL m.l 5 m1.o.l = m1.l)
  have HQ1 : Hid (setsL q.l 5 q1.o.l = q1.l) := (by rw [← hqo, store_msgO, ← hq1]; rfl : setsL q.l 5 q1.o.l = q1.l)
  have HOM : Hid (m1.o.l.toArray.all (·.oneCell') = true) := m1.o.oneC
  have HOQ : Hid (q1.o.l.toArray.all (·.oneCell') = true) := q1.o.oneC
  have HA1 : Hid (al1.length = m1.o.an) := hma.1
  have HA2 : Hid (bl1.length = q1.o.an) := hqa.1
  have HR1 : Hid (∀ w', Below N W w' → RdA w' m1.o.ao al1) := fun w' h => hma.2.kept (hN ▸ h)
  have HR2 : Hid (∀ w', Below N W w' → RdA w' q1.o.ao bl1) := fun w' h => hqa.2.kept (hN ▸ h)
  have HT1 : Hid (m1.o.txt.size ≤ maxLen) := (by have := hmf.2.2.1; unfold maxLen; omega : m1.o.txt.size ≤ maxLen)
  have HT2 : Hid (q1.o.txt.size ≤ maxLen) := (by have := hqf.2.2.1; unfold maxLen; omega : q1.o.txt.size ≤ maxLen)
  have HX1 : Hid (m1.o.an ≤ 1000000) := (by have := hmf.1; omega : m1.o.an ≤ 1000000)
  have HX2 : Hid (q1.o.an ≤ 1000000) := (by have := hqf.1; omega : q1.o.an ≤ 1000000)
  have HK3 := Lib.hid hk3
  have HK2 := Lib.hid hk2
  show Calls Tryd.prog 3 #[.agg #[.int .i64 m.kd, .int .i64 m.tn, .int .i64 m.sq, .int .i64 m.fr, .int .i64 m.n, .int .i64 m.o.s, .int .i64 m.o.ch, .int .i64 m.o.f, .int .i64 m.o.k, .int .i64 m.o.e, .int .i64 m.o.n, .int .i64 m.o.nid, .int .i64 m.o.item, .int .i64 m.o.frs, .int .i64 m.o.ear, .int .i64 m.o.lat, .int .i64 m.o.book, .slice m.o.ao m.o.an m.o.ac, .int .i64 m.o.cl.kind, .int .i64 m.o.cl.item, .int .i64 m.o.cl.frm, .int .i64 m.o.cl.til, .int .i64 m.o.cl.regs, .int .i64 m.o.cl.n, .int .i64 m.o.cl.a, .int .i64 m.o.cl.b, .int .i64 m.o.qid, .int .i64 m.o.qf, .int .i64 m.o.qt, .int .i64 m.o.qp, .string m.o.txt], .agg #[.int .i64 q.kd, .int .i64 q.tn, .int .i64 q.sq, .int .i64 q.fr, .int .i64 q.n, .int .i64 q.o.s, .int .i64 q.o.ch, .int .i64 q.o.f, .int .i64 q.o.k, .int .i64 q.o.e, .int .i64 q.o.n, .int .i64 q.o.nid, .int .i64 q.o.item, .int .i64 q.o.frs, .int .i64 q.o.ear, .int .i64 q.o.lat, .int .i64 q.o.book, .slice q.o.ao q.o.an q.o.ac, .int .i64 q.o.cl.kind, .int .i64 q.o.cl.item, .int .i64 q.o.cl.frm, .int .i64 q.o.cl.til, .int .i64 q.o.cl.regs, .int .i64 q.o.cl.n, .int .i64 q.o.cl.a, .int .i64 q.o.cl.b, .int .i64 q.o.qid, .int .i64 q.o.qf, .int .i64 q.o.qt, .int .i64 q.o.qp, .string q.o.txt], .int .i64 z] W _
  clear hb1 hb2 hk1 hk2 hk3 hb12 hse hmn hmc hmm hmr hmt hqn hqc hqm hqr hqt hm1 hq1 hal1 hbl1 hma hqa hmf hqf hmo hqo
  go_enter Tryd.func3, Tryd.ntmps3
  go_wp2_with fail
  refine HSA.out.mono ?_
  rintro e w3 ⟨rfl, hb3⟩
  have HKN : Hid (Blk w3 N 32 m.l) := HK3.out.kept (hb3.block _ HK3.out.lt)
  have HKL : Hid (Blk w3 L 32 q.l) := HK2.out.kept (hb3.block _ HK2.out.lt)
  have HQ : Hid (Below N W w3) := HB.out.trans (hb3.mono (bnl9 HN.out HB.out))
  clear hb3 hw1 hw2 hN hL HSA HK3 HK2
  go_upto_region 2 with (fail)
  go_cut [] from 17 to 25 (fun wx => Hid (Blk wx N 32 m1.l) ∧ Hid (Blk wx L 32 q1.l) ∧ Hid (Below N W wx))
  case first =>
    have HKN := Lib.hid HKN.out.drew
    have HKL := Lib.hid HKL.out.drew
    have HQ := Lib.hid HQ.out.drew
    refine wp_region_held_drew (S := fun _ => True) (by kernel_rfl) ?_ (fun hHeld => ?_)
    · trivial
    generalize World.drew _ = z0 at HKN HKL HQ hHeld ⊢
    refine wpAnyH_take (i := 0) (oi := ⟨some 17, _, _, _, _, _⟩) (v := ?vp1) rfl (by kernel_rfl) (by kernel_rfl) (by kernel_rfl) (fun _ _ _ h => h) (Or.inl ⟨by rfl, ?yp1⟩) (by assumption) ?rp1
    case yp1 => (intro w hSw; (try dsimp only at hSw); go_simp; (try (with_reducible rfl)))
    try simp only [Act.put, List.setIfInBounds_toArray, List.set_cons_zero, List.set_cons_succ]
    refine wpAnyH_take (i := 3) (oi := ⟨some 20, _, _, _, _, _⟩) (v := ?vp2) rfl (by kernel_rfl) (by kernel_rfl) (by kernel_rfl) (fun _ _ _ h => h) (Or.inl ⟨by rfl, ?yp2⟩) (by assumption) ?rp2
    case yp2 => (intro w hSw; (try dsimp only at hSw); go_simp; (try (with_reducible rfl)))
    try simp only [Act.put, List.setIfInBounds_toArray, List.set_cons_zero, List.set_cons_succ]
    refine wpAnyH_ready (rs := [1, 4]) (by kernel_rfl) (by simp) (AllReadyH.cons (o := ⟨some 18, _, _, _, _, _⟩) rfl (fun K hK => ?_) (AllReadyH.cons (o := ⟨some 21, _, _, _, _, _⟩) rfl (fun K hK => ?_) AllReadyH.nil))
    · skip
      refine step_loadMid (by rfl) 30 (.tmp 17) rfl N 5 rfl m.o.l _ (HKN.out.rangeO 5 rfl) Tryd.underlying30 rfl HSZ.out ?_
      refine hK.out _ _ ?_ (fun hHeld2 => ?_)
      · trivial
      clear hK K hHeld
      rename _ => hHeld
      try simp only [Act.put, List.setIfInBounds_toArray, List.set_cons_zero, List.set_cons_succ]
      refine wpAnyH_ready (rs := [2, 4]) (by kernel_rfl) (by simp) (AllReadyH.cons (o := ⟨some 19, _, _, _, _, _⟩) rfl (fun K hK => ?_) (AllReadyH.cons (o := ⟨some 21, _, _, _, _, _⟩) rfl (fun K hK => ?_) AllReadyH.nil))
      · skip
        go_simp
        refine (HCM.out _).mono ?_
        rintro e zz ⟨rfl, hb⟩
        have HKN := Lib.hid (HKN.out.kept (hb.block _ HKN.out.lt))
        have HKL := Lib.hid (HKL.out.kept (hb.block _ HKL.out.lt))
        have HQ := Lib.hid (HQ.out.trans (hb.mono (bnl9 HN.out HQ.out)))
        clear hb
        go_simp
        refine hK.out _ _ ?_ (fun hHeld2 => ?_)
        · trivial
        clear hK K hHeld
        rename _ => hHeld
        try simp only [Act.put, List.setIfInBounds_toArray, List.set_cons_zero, List.set_cons_succ]
        refine wpAnyH_take (i := 6) (oi := ⟨some 23, _, _, _, _, _⟩) (v := ?vp3) rfl (by kernel_rfl) (by kernel_rfl) (by kernel_rfl) (fun _ _ _ h => h) (Or.inl ⟨by rfl, ?yp3⟩) (by assumption) ?rp3
        case yp3 => (intro w hSw; (try dsimp only at hSw); go_simp; (try (with_reducible rfl)))
        try simp only [Act.put, List.setIfInBounds_toArray, List.set_cons_zero, List.set_cons_succ]
        refine wpAnyH_ready (rs := [4]) (by kernel_rfl) (by simp) (AllReadyH.cons (o := ⟨some 21, _, _, _, _, _⟩) rfl (fun K hK => ?_) AllReadyH.nil)
        refine step_loadMid (by rfl) 30 (.tmp 20) rfl L 5 rfl q.o.l _ (HKL.out.rangeO 5 rfl) Tryd.underlying30 rfl HSZ.out ?_
        refine hK.out _ _ ?_ (fun hHeld2 => ?_)
        · trivial
        clear hK K hHeld
        rename _ => hHeld
        try simp only [Act.put, List.setIfInBounds_toArray, List.set_cons_zero, List.set_cons_succ]
        refine wpAnyH_ready (rs := [5]) (by kernel_rfl) (by simp) (AllReadyH.cons (o := ⟨some 22, _, _, _, _, _⟩) rfl (fun K hK => ?_) AllReadyH.nil)
        go_simp
        refine (HCQ.out _).mono ?_
        rintro e zz ⟨rfl, hb⟩
        have HKN := Lib.hid (HKN.out.kept (hb.block _ HKN.out.lt))
        have HKL := Lib.hid (HKL.out.kept (hb.block _ HKL.out.lt))
        have HQ := Lib.hid (HQ.out.trans (hb.mono (bnl9 HN.out HQ.out)))
        clear hb
        go_simp
        refine hK.out _ _ ?_ (fun hHeld2 => ?_)
        · trivial
        clear hK K hHeld
        rename _ => hHeld
        try simp only [Act.put, List.setIfInBounds_toArray, List.set_cons_zero, List.set_cons_succ]
        refine wpAnyH_ready (rs := [7]) (by kernel_rfl) (by simp) (AllReadyH.cons (o := ⟨none, _, _, _, _, _⟩) rfl (fun K hK => ?_) AllReadyH.nil)
        refine step_storeMid (by rfl) 30 (.tmp 23) (.tmp 19) rfl N 5 m1.o.l.toArray rfl rfl (HKN.out.there 5 26 (Nat.le_refl 31)) HSZ.out HOM.out ?_
        have hk := Blk.sets m1.o.l 5 HKN.out
        rw [HM1.out] at hk
        have HKN := Lib.hid hk
        have HKL := Lib.hid (HKL.out.kept (heap_setCells N L (by omega) m1.o.l 5 _))
        have HQ := Lib.hid (below_setCells HQ.out (bnl9 HN.out HQ.out) N 5 m1.o.l (by omega))
        clear hk
        generalize World.setCells _ _ _ _ = zz at HKN HKL HQ ⊢
        refine hK.out _ _ ?_ (fun hHeld2 => ?_)
        · trivial
        clear hK K hHeld
        rename _ => hHeld
        try simp only [Act.put, List.setIfInBounds_toArray, List.set_cons_zero, List.set_cons_succ]
        refine wpAnyH_take (i := 8) (oi := ⟨some 24, _, _, _, _, _⟩) (v := ?vp4) rfl (by kernel_rfl) (by kernel_rfl) (by kernel_rfl) (fun _ _ _ h => h) (Or.inl ⟨by rfl, ?yp4⟩) (by assumption) ?rp4
        case yp4 => (intro w hSw; (try dsimp only at hSw); go_simp; (try (with_reducible rfl)))
        try simp only [Act.put, List.setIfInBounds_toArray, List.set_cons_zero, List.set_cons_succ]
        refine wpAnyH_ready (rs := [9]) (by kernel_rfl) (by simp) (AllReadyH.cons (o := ⟨none, _, _, _, _, _⟩) rfl (fun K hK => ?_) AllReadyH.nil)
        refine step_storeMid (by rfl) 30 (.tmp 24) (.tmp 22) rfl L 5 q1.o.l.toArray rfl rfl (HKL.out.there 5 26 (Nat.le_refl 31)) HSZ.out HOQ.out ?_
        have hk := Blk.sets q1.o.l 5 HKL.out
        rw [HQ1.out] at hk
        have HKL := Lib.hid hk
        have HKN := Lib.hid (HKN.out.kept (heap_setCells L N (by omega) q1.o.l 5 _))
        have HQ := Lib.hid (below_setCells HQ.out (bnl9 HN.out HQ.out) L 5 q1.o.l (by omega))
        clear hk
        generalize World.setCells _ _ _ _ = zz at HKN HKL HQ ⊢
        refine hK.out _ _ ?_ (fun hHeld2 => ?_)
        · trivial
        clear hK K hHeld
        rename _ => hHeld
        try simp only [Act.put, List.setIfInBounds_toArray, List.set_cons_zero, List.set_cons_succ]
        refine wpAnyH_done (by kernel_rfl) ?_ _
        clear hHeld
        go_wp2_with fail
        go_meet
        exact ⟨HKN, HKL, HQ⟩
      · skip
        refine step_loadMid (by rfl) 30 (.tmp 20) rfl L 5 rfl q.o.l _ (HKL.out.rangeO 5 rfl) Tryd.underlying30 rfl HSZ.out ?_
        refine hK.out _ _ ?_ (fun hHeld2 => ?_)
        · trivial
        clear hK K hHeld
        rename _ => hHeld
        try simp only [Act.put, List.setIfInBounds_toArray, List.set_cons_zero, List.set_cons_succ]
        refine wpAnyH_ready (rs := [2]) (by kernel_rfl) (by simp) (AllReadyH.cons (o := ⟨some 19, _, _, _, _, _⟩) rfl (fun K hK => ?_) AllReadyH.nil)
        go_simp
        refine (HCM.out _).mono ?_
        rintro e zz ⟨rfl, hb⟩
        have HKN := Lib.hid (HKN.out.kept (hb.block _ HKN.out.lt))
        have HKL := Lib.hid (HKL.out.kept (hb.block _ HKL.out.lt))
        have HQ := Lib.hid (HQ.out.trans (hb.mono (bnl9 HN.out HQ.out)))
        clear hb
        go_simp
        refine hK.out _ _ ?_ (fun hHeld2 => ?_)
        · trivial
        clear hK K hHeld
        rename _ => hHeld
        try simp only [Act.put, List.setIfInBounds_toArray, List.set_cons_zero, List.set_cons_succ]
        refine wpAnyH_take (i := 6) (oi := ⟨some 23, _, _, _, _, _⟩) (v := ?vp5) rfl (by kernel_rfl) (by kernel_rfl) (by kernel_rfl) (fun _ _ _ h => h) (Or.inl ⟨by rfl, ?yp5⟩) (by assumption) ?rp5
        case yp5 => (intro w hSw; (try dsimp only at hSw); go_simp; (try (with_reducible rfl)))
        try simp only [Act.put, List.setIfInBounds_toArray, List.set_cons_zero, List.set_cons_succ]
        refine wpAnyH_ready (rs := [5]) (by kernel_rfl) (by simp) (AllReadyH.cons (o := ⟨some 22, _, _, _, _, _⟩) rfl (fun K hK => ?_) AllReadyH.nil)
        go_simp
        refine (HCQ.out _).mono ?_
        rintro e zz ⟨rfl, hb⟩
        have HKN := Lib.hid (HKN.out.kept (hb.block _ HKN.out.lt))
        have HKL := Lib.hid (HKL.out.kept (hb.block _ HKL.out.lt))
        have HQ := Lib.hid (HQ.out.trans (hb.mono (bnl9 HN.out HQ.out)))
        clear hb
        go_simp
        refine hK.out _ _ ?_ (fun hHeld2 => ?_)
        · trivial
        clear hK K hHeld
        rename _ => hHeld
        try simp only [Act.put, List.setIfInBounds_toArray, List.set_cons_zero, List.set_cons_succ]
        refine wpAnyH_ready (rs := [7]) (by kernel_rfl) (by simp) (AllReadyH.cons (o := ⟨none, _, _, _, _, _⟩) rfl (fun K hK => ?_) AllReadyH.nil)
        refine step_storeMid (by rfl) 30 (.tmp 23) (.tmp 19) rfl N 5 m1.o.l.toArray rfl rfl (HKN.out.there 5 26 (Nat.le_refl 31)) HSZ.out HOM.out ?_
        have hk := Blk.sets m1.o.l 5 HKN.out
        rw [HM1.out] at hk
        have HKN := Lib.hid hk
        have HKL := Lib.hid (HKL.out.kept (heap_setCells N L (by omega) m1.o.l 5 _))
        have HQ := Lib.hid (below_setCells HQ.out (bnl9 HN.out HQ.out) N 5 m1.o.l (by omega))
        clear hk
        generalize World.setCells _ _ _ _ = zz at HKN HKL HQ ⊢
        refine hK.out _ _ ?_ (fun hHeld2 => ?_)
        · trivial
        clear hK K hHeld
        rename _ => hHeld
        try simp only [Act.put, List.setIfInBounds_toArray, List.set_cons_zero, List.set_cons_succ]
        refine wpAnyH_take (i := 8) (oi := ⟨some 24, _, _, _, _, _⟩) (v := ?vp6) rfl (by kernel_rfl) (by kernel_rfl) (by kernel_rfl) (fun _ _ _ h => h) (Or.inl ⟨by rfl, ?yp6⟩) (by assumption) ?rp6
        case yp6 => (intro w hSw; (try dsimp only at hSw); go_simp; (try (with_reducible rfl)))
        try simp only [Act.put, List.setIfInBounds_toArray, List.set_cons_zero, List.set_cons_succ]
        refine wpAnyH_ready (rs := [9]) (by kernel_rfl) (by simp) (AllReadyH.cons (o := ⟨none, _, _, _, _, _⟩) rfl (fun K hK => ?_) AllReadyH.nil)
        refine step_storeMid (by rfl) 30 (.tmp 24) (.tmp 22) rfl L 5 q1.o.l.toArray rfl rfl (HKL.out.there 5 26 (Nat.le_refl 31)) HSZ.out HOQ.out ?_
        have hk := Blk.sets q1.o.l 5 HKL.out
        rw [HQ1.out] at hk
        have HKL := Lib.hid hk
        have HKN := Lib.hid (HKN.out.kept (heap_setCells L N (by omega) q1.o.l 5 _))
        have HQ := Lib.hid (below_setCells HQ.out (bnl9 HN.out HQ.out) L 5 q1.o.l (by omega))
        clear hk
        generalize World.setCells _ _ _ _ = zz at HKN HKL HQ ⊢
        refine hK.out _ _ ?_ (fun hHeld2 => ?_)
        · trivial
        clear hK K hHeld
        rename _ => hHeld
        try simp only [Act.put, List.setIfInBounds_toArray, List.set_cons_zero, List.set_cons_succ]
        refine wpAnyH_done (by kernel_rfl) ?_ _
        clear hHeld
        go_wp2_with fail
        go_meet
        exact ⟨HKN, HKL, HQ⟩
    · skip
      refine step_loadMid (by rfl) 30 (.tmp 20) rfl L 5 rfl q.o.l _ (HKL.out.rangeO 5 rfl) Tryd.underlying30 rfl HSZ.out ?_
      refine hK.out _ _ ?_ (fun hHeld2 => ?_)
      · trivial
      clear hK K hHeld
      rename _ => hHeld
      try simp only [Act.put, List.setIfInBounds_toArray, List.set_cons_zero, List.set_cons_succ]
      refine wpAnyH_ready (rs := [1]) (by kernel_rfl) (by simp) (AllReadyH.cons (o := ⟨some 18, _, _, _, _, _⟩) rfl (fun K hK => ?_) AllReadyH.nil)
      refine step_loadMid (by rfl) 30 (.tmp 17) rfl N 5 rfl m.o.l _ (HKN.out.rangeO 5 rfl) Tryd.underlying30 rfl HSZ.out ?_
      refine hK.out _ _ ?_ (fun hHeld2 => ?_)
      · trivial
      clear hK K hHeld
      rename _ => hHeld
      try simp only [Act.put, List.setIfInBounds_toArray, List.set_cons_zero, List.set_cons_succ]
      refine wpAnyH_ready (rs := [2]) (by kernel_rfl) (by simp) (AllReadyH.cons (o := ⟨some 19, _, _, _, _, _⟩) rfl (fun K hK => ?_) AllReadyH.nil)
      go_simp
      refine (HCM.out _).mono ?_
      rintro e zz ⟨rfl, hb⟩
      have HKN := Lib.hid (HKN.out.kept (hb.block _ HKN.out.lt))
      have HKL := Lib.hid (HKL.out.kept (hb.block _ HKL.out.lt))
      have HQ := Lib.hid (HQ.out.trans (hb.mono (bnl9 HN.out HQ.out)))
      clear hb
      go_simp
      refine hK.out _ _ ?_ (fun hHeld2 => ?_)
      · trivial
      clear hK K hHeld
      rename _ => hHeld
      try simp only [Act.put, List.setIfInBounds_toArray, List.set_cons_zero, List.set_cons_succ]
      refine wpAnyH_take (i := 6) (oi := ⟨some 23, _, _, _, _, _⟩) (v := ?vp7) rfl (by kernel_rfl) (by kernel_rfl) (by kernel_rfl) (fun _ _ _ h => h) (Or.inl ⟨by rfl, ?yp7⟩) (by assumption) ?rp7
      case yp7 => (intro w hSw; (try dsimp only at hSw); go_simp; (try (with_reducible rfl)))
      try simp only [Act.put, List.setIfInBounds_toArray, List.set_cons_zero, List.set_cons_succ]
      refine wpAnyH_ready (rs := [5]) (by kernel_rfl) (by simp) (AllReadyH.cons (o := ⟨some 22, _, _, _, _, _⟩) rfl (fun K hK => ?_) AllReadyH.nil)
      go_simp
      refine (HCQ.out _).mono ?_
      rintro e zz ⟨rfl, hb⟩
      have HKN := Lib.hid (HKN.out.kept (hb.block _ HKN.out.lt))
      have HKL := Lib.hid (HKL.out.kept (hb.block _ HKL.out.lt))
      have HQ := Lib.hid (HQ.out.trans (hb.mono (bnl9 HN.out HQ.out)))
      clear hb
      go_simp
      refine hK.out _ _ ?_ (fun hHeld2 => ?_)
      · trivial
      clear hK K hHeld
      rename _ => hHeld
      try simp only [Act.put, List.setIfInBounds_toArray, List.set_cons_zero, List.set_cons_succ]
      refine wpAnyH_ready (rs := [7]) (by kernel_rfl) (by simp) (AllReadyH.cons (o := ⟨none, _, _, _, _, _⟩) rfl (fun K hK => ?_) AllReadyH.nil)
      refine step_storeMid (by rfl) 30 (.tmp 23) (.tmp 19) rfl N 5 m1.o.l.toArray rfl rfl (HKN.out.there 5 26 (Nat.le_refl 31)) HSZ.out HOM.out ?_
      have hk := Blk.sets m1.o.l 5 HKN.out
      rw [HM1.out] at hk
      have HKN := Lib.hid hk
      have HKL := Lib.hid (HKL.out.kept (heap_setCells N L (by omega) m1.o.l 5 _))
      have HQ := Lib.hid (below_setCells HQ.out (bnl9 HN.out HQ.out) N 5 m1.o.l (by omega))
      clear hk
      generalize World.setCells _ _ _ _ = zz at HKN HKL HQ ⊢
      refine hK.out _ _ ?_ (fun hHeld2 => ?_)
      · trivial
      clear hK K hHeld
      rename _ => hHeld
      try simp only [Act.put, List.setIfInBounds_toArray, List.set_cons_zero, List.set_cons_succ]
      refine wpAnyH_take (i := 8) (oi := ⟨some 24, _, _, _, _, _⟩) (v := ?vp8) rfl (by kernel_rfl) (by kernel_rfl) (by kernel_rfl) (fun _ _ _ h => h) (Or.inl ⟨by rfl, ?yp8⟩) (by assumption) ?rp8
      case yp8 => (intro w hSw; (try dsimp only at hSw); go_simp; (try (with_reducible rfl)))
      try simp only [Act.put, List.setIfInBounds_toArray, List.set_cons_zero, List.set_cons_succ]
      refine wpAnyH_ready (rs := [9]) (by kernel_rfl) (by simp) (AllReadyH.cons (o := ⟨none, _, _, _, _, _⟩) rfl (fun K hK => ?_) AllReadyH.nil)
      refine step_storeMid (by rfl) 30 (.tmp 24) (.tmp 22) rfl L 5 q1.o.l.toArray rfl rfl (HKL.out.there 5 26 (Nat.le_refl 31)) HSZ.out HOQ.out ?_
      have hk := Blk.sets q1.o.l 5 HKL.out
      rw [HQ1.out] at hk
      have HKL := Lib.hid hk
      have HKN := Lib.hid (HKN.out.kept (heap_setCells L N (by omega) q1.o.l 5 _))
      have HQ := Lib.hid (below_setCells HQ.out (bnl9 HN.out HQ.out) L 5 q1.o.l (by omega))
      clear hk
      generalize World.setCells _ _ _ _ = zz at HKN HKL HQ ⊢
      refine hK.out _ _ ?_ (fun hHeld2 => ?_)
      · trivial
      clear hK K hHeld
      rename _ => hHeld
      try simp only [Act.put, List.setIfInBounds_toArray, List.set_cons_zero, List.set_cons_succ]
      refine wpAnyH_done (by kernel_rfl) ?_ _
      clear hHeld
      go_wp2_with fail
      go_meet
      exact ⟨HKN, HKL, HQ⟩
  case rest =>
    obtain ⟨HKN, HKL, HQ⟩ := hcut
    obtain ⟨wx, rfl⟩ : ∃ wx : World, wx = wc := ⟨_, rfl⟩
    have HRN := Lib.hid HKN.out.range
    have HE2 : Hid (∀ w', Below N W w' → ∃ (Y : ByteArray) (c2 : Int), ((okM q1 bl1 = true ∧ Y.data.toList = encM q1 bl1 ∧ c2 = 0) ∨ (okM q1 bl1 = false ∧ c2 = 200)) ∧ Calls Tryd.prog 11 #[.agg q1.l.toArray] w' fun e w'' => e = .returned (.tuple #[.string Y, .int .i64 c2]) ∧ Below w'.heap.size w' w'') := fun w' h => by
      cases hv : okM q1 bl1 with
      | true => exact ⟨⟨(encM q1 bl1).toArray⟩, 0, .inl ⟨rfl, rfl, rfl⟩, gOEnc_ok q1 bl1 w' hv HA2.out HX2.out (HR2.out w' h) HT2.out⟩
      | false => exact ⟨⟨#[]⟩, 200, .inr ⟨rfl, rfl⟩, gOEnc_no q1 bl1 w' hv HA2.out HX2.out (HR2.out w' h) HT2.out⟩
    cases v1 : okM m1 al1 with
    | false =>
      have HE1 := Lib.hid (gOEnc_no m1 al1 wx v1 HA1.out HX1.out (HR1.out wx HQ.out) HT1.out)
      clear v1
      go_wp2_with (refine wpList_load_mid rfl 32 (.tmp 3) rfl N 0 rfl m1.l _ HRN.out Tryd.underlying32 rfl HSG.out ?_)
      refine HE1.out.mono ?_
      rintro e w4 ⟨rfl, hb4⟩
      have HKL4 := Lib.hid (HKL.out.kept (hb4.block _ HKL.out.lt))
      have HRL := Lib.hid HKL4.out.range
      have HQ4 : Hid (Below N W w4) := HQ.out.trans (hb4.mono (bnl9 HN.out HQ.out))
      obtain ⟨Y, c2, _, hc2⟩ := HE2.out w4 HQ4.out
      have HC2 := Lib.hid hc2
      clear hb4 hc2
      go_wp2_with (refine wpList_load_mid rfl 32 (.tmp 4) rfl L 0 rfl q1.l _ HRL.out Tryd.underlying32 rfl HSG.out ?_)
      refine HC2.out.mono ?_
      rintro e w5 ⟨rfl, hb5⟩
      have HQ5 : Hid (Below N W w5) := HQ4.out.trans (hb5.mono (bnl9 HN.out HQ4.out))
      clear hb5
      go_wp2_with fail
      go_ret
      exact ⟨rfl, by rw [HN.out]; exact HQ5.out⟩
    | true =>
      have HE1 := Lib.hid (gOEnc_ok m1 al1 wx v1 HA1.out HX1.out (HR1.out wx HQ.out) HT1.out)
      obtain ⟨S, hS⟩ : ∃ S : ByteArray, (⟨(encM m1 al1).toArray⟩ : ByteArray) = S := ⟨_, rfl⟩
      have hSl : S.data.toList = encM m1 al1 := by rw [← hS]
      rw [hS] at HE1
      have hne : encM m1 al1 ≠ [] := by have := headM_ne m1 (if m1.kd = 1 then putSL (encG m1.o al1) else []) (okM_kind v1); exact this
      have hs1 : S.toList.isEmpty = false := by
        rw [List.isEmpty_eq_false_iff, ByteArray.toList_eq, hSl]
        exact hne
      have hsz1 : 1 ≤ S.size := by
        rw [← blen, hSl]
        cases h9 : encM m1 al1 with
        | nil => exact absurd h9 hne
        | cons _ _ => simp
      have hszm : S.size ≤ 100000 := by
        rw [← blen, hSl, encM_split]
        have h1 := putL_len m1.kd
        have h2 := encI_len [m1.tn, m1.sq, m1.fr, m1.n]
        have h3 : ((if m1.kd = 1 then putSL (encG m1.o al1) else []) : List UInt8).length ≤ 65545 := by split; exact putSL_any _; simp
        simp only [List.length_append, List.length_cons, List.length_nil] at *
        omega
      have hR1 : msgR S.data.toList = .ok (m1.withA none 0) al1 := by rw [hSl]; exact msgR_enc m1 al1 HA1.out v1
      have HR9 := Lib.hid hR1
      have HPRE : Hid (∀ j, j < S.size → msgR (S.extract 0 j).data.toList = .short) := (fun j hj => by rw [take_ext, hSl]; exact msgR_pre m1 al1 HA1.out v1 j (by rw [← hSl, blen]; exact hj) : ∀ j, j < S.size → msgR (S.extract 0 j).data.toList = .short)
      have HSL := Lib.hid hSl
      have HV1 := Lib.hid v1
      have HSM : Hid (S.size ≤ maxLen) := (by unfold maxLen; omega : S.size ≤ maxLen)
      clear v1 hS hSl hne hR1
      go_wp2_with (refine wpList_load_mid rfl 32 (.tmp 3) rfl N 0 rfl m1.l _ HRN.out Tryd.underlying32 rfl HSG.out ?_)
      refine HE1.out.mono ?_
      rintro e w4 ⟨rfl, hb4⟩
      have HKN4 := Lib.hid (HKN.out.kept (hb4.block _ HKN.out.lt))
      have HKL4 := Lib.hid (HKL.out.kept (hb4.block _ HKL.out.lt))
      have HRL := Lib.hid HKL4.out.range
      have HQ4 : Hid (Below N W w4) := HQ.out.trans (hb4.mono (bnl9 HN.out HQ.out))
      obtain ⟨Y, c2, hcc, hc2⟩ := HE2.out w4 HQ4.out
      have HCC := Lib.hid hcc
      have HC2 := Lib.hid hc2
      clear hb4 hc2 hcc HE2 HE1 HKN HKL HRN HQ
      go_wp2_with (refine wpList_load_mid rfl 32 (.tmp 4) rfl L 0 rfl q1.l _ HRL.out Tryd.underlying32 rfl HSG.out ?_)
      refine HC2.out.mono ?_
      rintro e w5 ⟨rfl, hb5⟩
      have HKN5 := Lib.hid (HKN4.out.kept (hb5.block _ HKN4.out.lt))
      have HKL5 := Lib.hid (HKL4.out.kept (hb5.block _ HKL4.out.lt))
      have HQ5 : Hid (Below N W w5) := HQ4.out.trans (hb5.mono (bnl9 HN.out HQ4.out))
      have HD1 := Lib.hid (gODec S w5 es em er eb HSM.out (HSE.out w5 HQ5.out))
      rw [HR9.out] at HD1
      clear hb5 HKN4 HKL4 HQ4 HRL HC2
      go_wp2_with fail
      refine HD1.out.mono ?_
      rintro e w6 ⟨hb6, oa, ac, rfl, hra, hfr⟩
      obtain ⟨x, hx⟩ : ∃ x, (m1.withA none 0).withA oa ac = x := ⟨_, rfl⟩
      rw [hx]
      have HXS : Hid (sameMB x al1 m1 al1 = true) := ((sameMB_iff x m1 al1 al1 (by rw [← hx]; exact HA1.out) HA1.out).2 ⟨by rw [← hx]; rfl, rfl⟩ : sameMB x al1 m1 al1 = true)
      have hxo : x.o.ao = oa := by rw [← hx]; rfl
      have hxn : al1.length = x.o.an := by rw [← hx]; exact HA1.out
      have hxm : x.o.an ≤ 1000000 := by rw [← hxn, HA1.out]; exact HX1.out
      obtain ⟨M1, hM1⟩ : ∃ M1, w6.heap.size = M1 := ⟨_, rfl⟩
      obtain ⟨w7, hw7⟩ : ∃ w7, w6.alloc (.cells #[.int .i64 0, .int .i64 0, .int .i64 0, .int .i64 0, .int .i64 0, .int .i64 0, .int .i64 0, .int .i64 0, .int .i64 0, .int .i64 0, .int .i64 0, .int .i64 0, .int .i64 0, .int .i64 0, .int .i64 0, .int .i64 0, .int .i64 0, .slice none 0 0, .int .i64 0, .int .i64 0, .int .i64 0, .int .i64 0, .int .i64 0, .int .i64 0, .int .i64 0, .int .i64 0, .int .i64 0, .int .i64 0, .int .i64 0, .int .i64 0, .string ⟨#[]⟩] 32) = w7 := ⟨_, rfl⟩
      have hk7 : Blk w7 M1 32 zeroM.l := by rw [← hw7, ← hM1]; exact Blk.new w6 _ zeroM.l
      have hb7 : Below w6.heap.size w6 w7 := by rw [← hw7]; exact (Below.refl _ _).alloc (Nat.le_refl _) _
      obtain ⟨w8, hw8⟩ : ∃ w8, w7.setRow M1 x.l.toArray = w8 := ⟨_, rfl⟩
      have hk8 : Blk w8 M1 32 x.l := by rw [← hw8]; exact hk7.setRow _
      have hb8 : Below w6.heap.size w6 w8 := by rw [← hw8]; exact below_setRow hb7 (by omega) _
      have hb68 := hb6.trans (hb8.mono hb6.size)
      have HKN8 := Lib.hid (HKN5.out.kept (hb68.block _ HKN5.out.lt))
      have HKL8 := Lib.hid (HKL5.out.kept (hb68.block _ HKL5.out.lt))
      have HQ8 : Hid (Below N W w8) := HQ5.out.trans (hb68.mono (bnl9 HN.out HQ5.out))
      have HRA8 : Hid (RdA w8 x.o.ao al1) := (by rw [hxo]; exact hra.kept hb8 : RdA w8 x.o.ao al1)
      have HXN := Lib.hid hxn
      have HXM := Lib.hid hxm
      have HK7 := Lib.hid hk7
      have HK8 := Lib.hid hk8
      have HW8 := Lib.hid hw8
      have HO1 : Hid (x.l.toArray.all (·.oneCell') = true) := x.oneC
      have HO2 : Hid ((msgJ 0).toArray.size = x.l.toArray.size) := rfl
      have hpk := pickO_any z (S.size : Int) w8 z0 z1 (by omega) (by omega)
      obtain ⟨j, hj, hjl⟩ : ∃ j : Nat, pickO z (S.size : Int) = (j : Int) ∧ j < S.size := by
        have h1 : 0 ≤ pickO z (S.size : Int) ∧ pickO z (S.size : Int) < (S.size : Int) := by
          unfold pickO
          split
          · exact ⟨Int.emod_nonneg _ (by omega), Int.emod_lt_of_pos _ (by omega)⟩
          · exact ⟨Int.emod_nonneg _ (by omega), Int.emod_lt_of_pos _ (by omega)⟩
        exact ⟨(pickO z (S.size : Int)).toNat, by omega, by omega⟩
      rw [hj] at hpk
      have HPK := Lib.hid hpk
      obtain ⟨X, hX⟩ : ∃ X, S.extract 0 j = X := ⟨_, rfl⟩
      have hXR : msgR X.data.toList = .short := by rw [← hX]; exact HPRE.out j hjl
      have hXs : X.size ≤ maxLen := by rw [← hX, ByteArray.size_extract]; unfold maxLen; omega
      have HD2 := Lib.hid (gODec X w8 es em er eb hXs (HSE.out w8 HQ8.out))
      rw [hXR] at HD2
      have p1 : (0 : Int) ≤ (j : Int) := by omega
      have p2 : (j : Int) ≤ (S.size : Int) := by omega
      have p3 : j ≤ S.size := by omega
      clear hb6 hra hfr hx hxo hxn hxm hk7 hb7 hw8 hk8 hb8 hb68 hpk hj hjl hXR hXs HD1 HKN5 HKL5 HQ5 HPRE HR9
      go_wp2_with (refine wpList_store_row rfl 32 (.tmp 12) (.tmp 53) rfl M1 x.l.toArray rfl rfl 32 _ HK7.out HSG.out HO2.out HO1.out ?_; rw [HW8.out])
      refine HPK.out.mono ?_
      rintro e w9 ⟨rfl, rfl⟩
      go_wp2_with fail
      refine HD2.out.mono ?_
      rintro e w10 ⟨hb10, rfl⟩
      obtain ⟨M2, hM2⟩ : ∃ M2, w10.heap.size = M2 := ⟨_, rfl⟩
      obtain ⟨w11, hw11⟩ : ∃ w11, w10.alloc (.cells #[.int .i64 0, .int .i64 0, .int .i64 0, .int .i64 0, .int .i64 0, .int .i64 0, .int .i64 0, .int .i64 0, .int .i64 0, .int .i64 0, .int .i64 0, .int .i64 0, .int .i64 0, .int .i64 0, .int .i64 0, .int .i64 0, .int .i64 0, .slice none 0 0, .int .i64 0, .int .i64 0, .int .i64 0, .int .i64 0, .int .i64 0, .int .i64 0, .int .i64 0, .int .i64 0, .int .i64 0, .int .i64 0, .int .i64 0, .int .i64 0, .string ⟨#[]⟩] 32) = w11 := ⟨_, rfl⟩
      have hk11 : Blk w11 M2 32 zeroM.l := by rw [← hw11, ← hM2]; exact Blk.new w10 _ zeroM.l
      have hb11 : Below w10.heap.size w10 w11 := by rw [← hw11]; exact (Below.refl _ _).alloc (Nat.le_refl _) _
      obtain ⟨w12, hw12⟩ : ∃ w12, w11.setRow M2 zeroM.l.toArray = w12 := ⟨_, rfl⟩
      have hb12 : Below w10.heap.size w10 w12 := by rw [← hw12]; exact below_setRow hb11 (by omega) _
      have hb812 := hb10.trans (hb12.mono hb10.size)
      have HK11 := Lib.hid hk11
      have HW12 := Lib.hid hw12
      have HO3 : Hid (zeroM.l.toArray.all (·.oneCell') = true) := zeroM.oneC
      have HO4 : Hid ((msgJ 0).toArray.size = zeroM.l.toArray.size) := rfl
      have HRX := Lib.hid (HK8.out.kept (hb812.block _ HK8.out.lt)).range
      have HKN12 := Lib.hid (HKN8.out.kept (hb812.block _ HKN8.out.lt))
      have HRN := Lib.hid HKN12.out.range
      have HKL12 := Lib.hid (HKL8.out.kept (hb812.block _ HKL8.out.lt))
      have HQ12 : Hid (Below N W w12) := HQ8.out.trans (hb812.mono (bnl9 HN.out HQ8.out))
      have HS1 := Lib.hid (gSameMsg x m1 al1 al1 w12 HXN.out HA1.out HXM.out HX1.out (HRA8.out.kept hb812) (HR1.out w12 HQ12.out))
      rw [HXS.out] at HS1
      clear hb10 hk11 hb11 hw12 hb12 hb812 HD2 HPK HKN8 HKL8 HQ8 HRA8 HK8 p1 p2 p3 hX
      rcases HCC.out with ⟨v2, hY, rfl⟩ | ⟨v2, rfl⟩
      · have henc := enc_same m1 q1 al1 bl1 HA1.out HA2.out HV1.out v2
        have HYS : Hid (S.toList = Y.toList ↔ sameMB m1 al1 q1 bl1 = true) := (by rw [ByteArray.toList_eq, ByteArray.toList_eq, HSL.out, hY]; exact henc : S.toList = Y.toList ↔ sameMB m1 al1 q1 bl1 = true)
        clear v2 hY henc HCC
        obtain ⟨sb, hsb⟩ : ∃ sb, sameMB m1 al1 q1 bl1 = sb := ⟨_, rfl⟩
        have HSB := Lib.hid hsb
        have hst : (sb = true ∧ S.toList = Y.toList) ∨ (sb = false ∧ ¬ S.toList = Y.toList) := by
          cases sb with
          | true => exact .inl ⟨rfl, HYS.out.2 hsb⟩
          | false => exact .inr ⟨rfl, fun e => by rw [HYS.out.1 e] at hsb; cases hsb⟩
        clear hsb HYS
        rcases hst with ⟨rfl, hst⟩ | ⟨rfl, hst⟩
        · go_wp2_with (first | (refine wpList_store_row rfl 32 (.tmp 14) (.tmp 63) rfl M2 zeroM.l.toArray rfl rfl 32 _ HK11.out HSG.out HO4.out HO3.out ?_; rw [HW12.out]) | (refine wpList_load_midG rfl 32 (.tmp 12) rfl M1 0 rfl x.l _ HRX.out Tryd.underlying32 rfl HSG.out ?_) | (refine wpList_load_midG rfl 32 (.tmp 3) rfl N 0 rfl m1.l _ HRN.out Tryd.underlying32 rfl HSG.out ?_))
          refine HS1.out.mono ?_
          rintro e w13 ⟨rfl, hb13⟩
          have HRN13 := Lib.hid (HKN12.out.kept (hb13.block _ HKN12.out.lt)).range
          have HRL13 := Lib.hid (HKL12.out.kept (hb13.block _ HKL12.out.lt)).range
          have HQ13 : Hid (Below N W w13) := HQ12.out.trans (hb13.mono (bnl9 HN.out HQ12.out))
          have HS2 := Lib.hid (gSameMsg m1 q1 al1 bl1 w13 HA1.out HA2.out HX1.out HX2.out (HR1.out w13 HQ13.out) (HR2.out w13 HQ13.out))
          rw [HSB.out] at HS2
          clear hb13
          go_wp2_with (first | (refine wpList_load_midG rfl 32 (.tmp 3) rfl N 0 rfl m1.l _ HRN13.out Tryd.underlying32 rfl HSG.out ?_) | (refine wpList_load_midG rfl 32 (.tmp 4) rfl L 0 rfl q1.l _ HRL13.out Tryd.underlying32 rfl HSG.out ?_))
          refine HS2.out.mono ?_
          rintro e w14 ⟨rfl, hb14⟩
          have HQ14 : Hid (Below N W w14) := HQ13.out.trans (hb14.mono (bnl9 HN.out HQ13.out))
          clear hb14
          go_wp2_with fail
          go_ret
          exact ⟨by first | rfl | (simp [hst]; done) | (simp [hst]; rfl), by rw [HN.out]; exact HQ14.out⟩
        · go_wp2_with (first | (refine wpList_store_row rfl 32 (.tmp 14) (.tmp 63) rfl M2 zeroM.l.toArray rfl rfl 32 _ HK11.out HSG.out HO4.out HO3.out ?_; rw [HW12.out]) | (refine wpList_load_midG rfl 32 (.tmp 12) rfl M1 0 rfl x.l _ HRX.out Tryd.underlying32 rfl HSG.out ?_) | (refine wpList_load_midG rfl 32 (.tmp 3) rfl N 0 rfl m1.l _ HRN.out Tryd.underlying32 rfl HSG.out ?_))
          refine HS1.out.mono ?_
          rintro e w13 ⟨rfl, hb13⟩
          have HRN13 := Lib.hid (HKN12.out.kept (hb13.block _ HKN12.out.lt)).range
          have HRL13 := Lib.hid (HKL12.out.kept (hb13.block _ HKL12.out.lt)).range
          have HQ13 : Hid (Below N W w13) := HQ12.out.trans (hb13.mono (bnl9 HN.out HQ12.out))
          have HS2 := Lib.hid (gSameMsg m1 q1 al1 bl1 w13 HA1.out HA2.out HX1.out HX2.out (HR1.out w13 HQ13.out) (HR2.out w13 HQ13.out))
          rw [HSB.out] at HS2
          clear hb13
          go_wp2_with (first | (refine wpList_load_midG rfl 32 (.tmp 3) rfl N 0 rfl m1.l _ HRN13.out Tryd.underlying32 rfl HSG.out ?_) | (refine wpList_load_midG rfl 32 (.tmp 4) rfl L 0 rfl q1.l _ HRL13.out Tryd.underlying32 rfl HSG.out ?_))
          refine HS2.out.mono ?_
          rintro e w14 ⟨rfl, hb14⟩
          have HQ14 : Hid (Below N W w14) := HQ13.out.trans (hb14.mono (bnl9 HN.out HQ13.out))
          clear hb14
          go_wp2_with fail
          go_ret
          exact ⟨by first | rfl | (simp [hst]; done) | (simp [hst]; rfl), by rw [HN.out]; exact HQ14.out⟩
      · clear v2 HCC
        go_wp2_with (first | (refine wpList_store_row rfl 32 (.tmp 14) (.tmp 63) rfl M2 zeroM.l.toArray rfl rfl 32 _ HK11.out HSG.out HO4.out HO3.out ?_; rw [HW12.out]) | (refine wpList_load_midG rfl 32 (.tmp 12) rfl M1 0 rfl x.l _ HRX.out Tryd.underlying32 rfl HSG.out ?_) | (refine wpList_load_midG rfl 32 (.tmp 3) rfl N 0 rfl m1.l _ HRN.out Tryd.underlying32 rfl HSG.out ?_))
        refine HS1.out.mono ?_
        rintro e w13 ⟨rfl, hb13⟩
        have HQ13 : Hid (Below N W w13) := HQ12.out.trans (hb13.mono (bnl9 HN.out HQ12.out))
        clear hb13
        go_wp2_with fail
        go_ret
        exact ⟨rfl, by rw [HN.out]; exact HQ13.out⟩
end Go.Proofs.YtjkiidhnmljmbaaDoor
