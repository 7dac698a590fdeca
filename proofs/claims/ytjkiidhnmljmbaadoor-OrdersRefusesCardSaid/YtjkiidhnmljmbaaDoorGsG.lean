/-
  Orders: the walk of the law OrdersRefuses.
-/
import Derived.Test.YtjkiidhnmljmbaaDoorGsE
import Derived.Test.YtjkiidhnmljmbaaDoorGsF
import Derived.Test.YtjkiidhnmljmbaaDoorOrX
import Derived.Test.YtjkiidhnmljmbaaDoorOrRp
import Derived.Test.YtjkiidhnmljmbaaDoorOrK
import Derived.Test.YtjkiidhnmljmbaaDoorGrCE
import Derived.Test.YtjkiidhnmljmbaaDoorGqDF
import Derived.Test.YtjkiidhnmljmbaaDoorGpM
import Derived.Test.YtjkiidhnmljmbaaDoorGoO
set_option linter.unusedVariables false
set_option linter.unusedSimpArgs false
namespace Go.Proofs.YtjkiidhnmljmbaaDoor
open Go.RowKit
theorem store_msgR (m : MOd) (q : GOd) : setsL m.l 5 q.l = ({ m with o := q } : MOd).l := by kernel_rfl
/-- An acknowledgment. -/
def ackM (tn sq : Int) : MOd := ⟨2, tn, sq, 0, 0, ⟨0, 0, 0, 0, 0, 0, 0, 0, 0, 0, 0, 0, none, 0, 0, ⟨0, 0, 0, 0, 0, 0, 0, 0⟩, 0, 0, 0, 0, ⟨#[]⟩⟩⟩
theorem ack_an (tn sq : Int) : (ackM tn sq).o.an ≤ 1000000 := Nat.zero_le _
theorem ack_ts (tn sq : Int) : (ackM tn sq).o.txt.size ≤ maxLen := Nat.zero_le _
theorem ack_ok (tn sq : Int) (h0 : 0 ≤ tn) (h1 : tn < 3) (s0 : 0 ≤ sq) (s1 : sq ≤ 200) : (((ackM tn sq).kd == 2) && (((ackM tn sq).tn == tn) && okM (ackM tn sq) [])) = true := by
  have hz : (ackM tn sq).o.zeroB = true := by rfl
  have hk : okM (ackM tn sq) [] = true := by
    unfold okM
    rw [if_neg (show ¬ (ackM tn sq).kd = 1 from by show ¬ (2 : Int) = 1; decide), if_pos (show (ackM tn sq).kd = 2 from rfl), hz]
    show (decide (0 ≤ tn ∧ tn < 3) && (decide (sq ≥ 0) && (decide (sq ≤ 200) && (true && (true && true))))) = true
    rw [decide_eq_true (show 0 ≤ tn ∧ tn < 3 from ⟨h0, h1⟩), decide_eq_true (show sq ≥ 0 from s0), decide_eq_true s1]
    rfl
  rw [hk]
  show ((2 : Int) == 2 && ((tn == tn) && true)) = true
  rw [beq_self_eq_true tn]
  rfl
set_option maxHeartbeats 16000000 in
set_option maxRecDepth 100000 in
theorem walkRefuses (W : World) (c : Int) (o : GOd) (al : List (Int × Int)) (m : MOd) (bl : List (Int × Int)) (hc0 : -9223372036854775808 ≤ c) (hc1 : c ≤ 9223372036854775807)
    (hon : al.length = o.an) (hoc : o.an ≤ o.ac) (hom : o.ac ≤ maxLen) (hor : RdA W o.ao al) (hot : o.txt.size ≤ maxLen) (hmn : bl.length = m.o.an) (hmc : m.o.an ≤ m.o.ac) (hmm : m.o.ac ≤ maxLen) (hmr : RdA W m.o.ao bl) (hmt : m.o.txt.size ≤ maxLen)
    (hg : ∃ er, W.cell? ⟨0, 0, none⟩ = some (.iface 169 (.pointer (some er)))) :
    Calls Tryd.prog 8 #[.int .i64 c, .agg o.l.toArray, .agg m.l.toArray] W fun e w' => e = .returned (.bool true) ∧ Below W.heap.size W w' := by
  obtain ⟨er, hg⟩ := hg
  obtain ⟨N, hN⟩ : ∃ N, W.heap.size = N := ⟨_, rfl⟩
  obtain ⟨w1, hw1⟩ : ∃ w1, W.alloc (.cells #[.int .i64 o.s, .int .i64 o.ch, .int .i64 o.f, .int .i64 o.k, .int .i64 o.e, .int .i64 o.n, .int .i64 o.nid, .int .i64 o.item, .int .i64 o.frs, .int .i64 o.ear, .int .i64 o.lat, .int .i64 o.book, .slice o.ao o.an o.ac, .int .i64 o.cl.kind, .int .i64 o.cl.item, .int .i64 o.cl.frm, .int .i64 o.cl.til, .int .i64 o.cl.regs, .int .i64 o.cl.n, .int .i64 o.cl.a, .int .i64 o.cl.b, .int .i64 o.qid, .int .i64 o.qf, .int .i64 o.qt, .int .i64 o.qp, .string o.txt] 30) = w1 := ⟨_, rfl⟩
  have hb1 : Below N W w1 := by rw [← hw1, ← hN]; exact (Below.refl _ W).alloc (Nat.le_refl _) _
  have hk1 : Blk w1 N 30 o.l := by rw [← hw1, ← hN]; exact Blk.new W _ o.l
  obtain ⟨L, hL⟩ : ∃ L, w1.heap.size = L := ⟨_, rfl⟩
  obtain ⟨w2, hw2⟩ : ∃ w2, w1.alloc (.cells #[.int .i64 m.kd, .int .i64 m.tn, .int .i64 m.sq, .int .i64 m.fr, .int .i64 m.n, .int .i64 m.o.s, .int .i64 m.o.ch, .int .i64 m.o.f, .int .i64 m.o.k, .int .i64 m.o.e, .int .i64 m.o.n, .int .i64 m.o.nid, .int .i64 m.o.item, .int .i64 m.o.frs, .int .i64 m.o.ear, .int .i64 m.o.lat, .int .i64 m.o.book, .slice m.o.ao m.o.an m.o.ac, .int .i64 m.o.cl.kind, .int .i64 m.o.cl.item, .int .i64 m.o.cl.frm, .int .i64 m.o.cl.til, .int .i64 m.o.cl.regs, .int .i64 m.o.cl.n, .int .i64 m.o.cl.a, .int .i64 m.o.cl.b, .int .i64 m.o.qid, .int .i64 m.o.qf, .int .i64 m.o.qt, .int .i64 m.o.qp, .string m.o.txt] 32) = w2 := ⟨_, rfl⟩
  have hb2 : Below L w1 w2 := by rw [← hw2, ← hL]; exact (Below.refl _ w1).alloc (Nat.le_refl _) _
  have hk2 : Blk w2 L 32 m.l := by rw [← hw2, ← hL]; exact Blk.new w1 _ m.l
  have hNL : N < L := by rw [← hL]; exact hk1.lt
  have hk3 := hk1.kept (hb2.block N hNL)
  have hb12 : Below N W w2 := hb1.trans (hb2.mono (Nat.le_of_lt hNL))
  have HSA := Lib.hid (sane_any er w2 ((hb12.cell (p := ⟨_, 0, none⟩) (by rw [← hN]; exact block_lt hg)).trans hg))
  obtain ⟨k, hk⟩ : ∃ k : Nat, pickO c 10 = (k : Int) := ⟨(pickO c 10).toNat, by have := pickO_bd c 10 (by decide); omega⟩
  have hk10 : k < 10 := by have := pickO_bd c 10 (by decide); omega
  have HPK : Hid (∀ w, Calls Tryd.prog 13 #[.int .i64 c, .int .i64 10] w fun e w' => e = .returned (.int .i64 (k : Nat)) ∧ w = w') := fun w => by
    have := pickO_any c 10 w hc0 hc1 (by decide) (by decide)
    rw [hk] at this
    exact this
  obtain ⟨n, hn⟩ : ∃ n : Nat, 1 + (k : Int) = (n : Int) := ⟨k + 1, by omega⟩
  have hn10 : n ≤ 10 := by omega
  have hn1 : 1 ≤ n := by omega
  have HCO := Lib.hid (fun W' => gCut o W' hoc hom hot)
  have HCM := Lib.hid (fun W' => gCut m.o W' hmc hmm hmt)
  have HSZ := Lib.hid (show (Tryd.prog.info? 30).map (·.size) = some 26 from by kernel_rfl)
  have HSG := Lib.hid (show (Tryd.prog.info? 32).map (·.size) = some 31 from by kernel_rfl)
  have HN := Lib.hid hN
  have HB := Lib.hid hb12
  have n1 : N ≠ L := by omega
  have n2 : L ≠ N := by omega
  obtain ⟨o1, ho1⟩ : ∃ o1, o.cutO = o1 := ⟨_, rfl⟩
  obtain ⟨m1, hm1⟩ : ∃ m1, ({ m with o := m.o.cutO } : MOd) = m1 := ⟨_, rfl⟩
  obtain ⟨al1, hal1⟩ : ∃ al1, al.take 9 = al1 := ⟨_, rfl⟩
  obtain ⟨bl1, hbl1⟩ : ∃ bl1, bl.take 9 = bl1 := ⟨_, rfl⟩
  have hoa := cut_alts hon hor
  have hma := cut_alts hmn hmr
  have hof := cut_facts o
  have hmf := cut_facts m.o
  have hmo : m.o.cutO = m1.o := by rw [← hm1]
  rw [hal1, ho1] at hoa
  rw [hbl1, hmo] at hma
  rw [ho1] at hof HCO
  rw [hmo] at hmf HCM
  have HM1 : Hid (setsL m.l 5 m1.o.l = m1.l) := (by rw [← hmo, store_msgR, ← hm1] : setsL m.l 5 m1.o.l = m1.l)
  have HOO : Hid (o1.l.toArray.all (·.oneCell') = true) := o1.oneC
  have HOM : Hid (m1.o.l.toArray.all (·.oneCell') = true) := m1.o.oneC
  have HOZ : Hid (o.l.toArray.size = o1.l.toArray.size) := rfl
  have HA1 : Hid (al1.length = o1.an) := hoa.1
  have HA2 : Hid (bl1.length = m1.o.an) := hma.1
  have HR1 : Hid (∀ w', Below N W w' → RdA w' o1.ao al1) := fun w' h => hoa.2.kept (hN ▸ h)
  have HR2 : Hid (∀ w', Below N W w' → RdA w' m1.o.ao bl1) := fun w' h => hma.2.kept (hN ▸ h)
  have HT1 : Hid (o1.txt.size ≤ maxLen) := (by have := hof.2.2.1; unfold maxLen; omega : o1.txt.size ≤ maxLen)
  have HT2 : Hid (m1.o.txt.size ≤ maxLen) := (by have := hmf.2.2.1; unfold maxLen; omega : m1.o.txt.size ≤ maxLen)
  have HX1 : Hid (o1.an ≤ 1000000) := (by have := hof.1; omega : o1.an ≤ 1000000)
  have HX2 : Hid (m1.o.an ≤ 1000000) := (by have := hmf.1; omega : m1.o.an ≤ 1000000)
  have HK3 := Lib.hid hk3
  have HK2 := Lib.hid hk2
  show Calls Tryd.prog 8 #[.int .i64 c, .agg #[.int .i64 o.s, .int .i64 o.ch, .int .i64 o.f, .int .i64 o.k, .int .i64 o.e, .int .i64 o.n, .int .i64 o.nid, .int .i64 o.item, .int .i64 o.frs, .int .i64 o.ear, .int .i64 o.lat, .int .i64 o.book, .slice o.ao o.an o.ac, .int .i64 o.cl.kind, .int .i64 o.cl.item, .int .i64 o.cl.frm, .int .i64 o.cl.til, .int .i64 o.cl.regs, .int .i64 o.cl.n, .int .i64 o.cl.a, .int .i64 o.cl.b, .int .i64 o.qid, .int .i64 o.qf, .int .i64 o.qt, .int .i64 o.qp, .string o.txt], .agg #[.int .i64 m.kd, .int .i64 m.tn, .int .i64 m.sq, .int .i64 m.fr, .int .i64 m.n, .int .i64 m.o.s, .int .i64 m.o.ch, .int .i64 m.o.f, .int .i64 m.o.k, .int .i64 m.o.e, .int .i64 m.o.n, .int .i64 m.o.nid, .int .i64 m.o.item, .int .i64 m.o.frs, .int .i64 m.o.ear, .int .i64 m.o.lat, .int .i64 m.o.book, .slice m.o.ao m.o.an m.o.ac, .int .i64 m.o.cl.kind, .int .i64 m.o.cl.item, .int .i64 m.o.cl.frm, .int .i64 m.o.cl.til, .int .i64 m.o.cl.regs, .int .i64 m.o.cl.n, .int .i64 m.o.cl.a, .int .i64 m.o.cl.b, .int .i64 m.o.qid, .int .i64 m.o.qf, .int .i64 m.o.qt, .int .i64 m.o.qp, .string m.o.txt]] W _
  clear hb1 hb2 hk1 hk2 hk3 hb12 hg hk hon hoc hom hor hot hmn hmc hmm hmr hmt ho1 hm1 hal1 hbl1 hoa hma hof hmf hmo hc0 hc1
  go_enter Tryd.func8, Tryd.ntmps8
  go_wp2_with fail
  refine HSA.out.mono ?_
  rintro e w3 ⟨rfl, hb3⟩
  have HKN : Hid (Blk w3 N 30 o.l) := HK3.out.kept (hb3.block _ HK3.out.lt)
  have HKL : Hid (Blk w3 L 32 m.l) := HK2.out.kept (hb3.block _ HK2.out.lt)
  have HQ : Hid (Below N W w3) := HB.out.trans (hb3.mono (bnl9 HN.out HB.out))
  clear hb3 hw1 hw2 hN hL HSA HK3 HK2 HB
  go_wp2_with fail
  refine (HPK.out _).mono ?_
  rintro e w' ⟨rfl, rfl⟩
  clear HPK
  go_upto_region 3 with (fail)
  clear hn hk10
  -- the order is cut
  go_wp2_with (refine wpList_load_mid rfl 30 (.tmp 4) rfl N 0 rfl o.l _ HKN.out.range Tryd.underlying30 rfl HSZ.out ?_)
  refine (HCO.out _).mono ?_
  rintro e w4 ⟨rfl, hb4⟩
  obtain ⟨w5, hw5⟩ : ∃ w5, w4.setRow N o1.l.toArray = w5 := ⟨_, rfl⟩
  have HK4 : Hid (Blk w4 N 30 o.l) := HKN.out.kept (hb4.block _ HKN.out.lt)
  have HKN : Hid (Blk w5 N 30 o1.l) := by rw [← hw5]; exact HK4.out.setRow o1.l
  have HKL : Hid (Blk w5 L 32 m.l) := HKL.out.kept (by rw [← hw5, heap_setRow_other _ _ _ _ n2]; exact hb4.block _ HKL.out.lt)
  have HQ : Hid (Below N W w5) := by rw [← hw5]; exact below_setRow (HQ.out.trans (hb4.mono (bnl9 HN.out HQ.out))) (Nat.le_refl _) _
  have HW5 := Lib.hid hw5
  clear hb4 hw5 HCO
  go_upto_region 4 with (refine wpList_store_row rfl 30 (.tmp 4) (.tmp 23) rfl N o1.l.toArray rfl rfl 30 _ HK4.out HSZ.out HOZ.out HOO.out ?_; rw [HW5.out])
  clear HK4 HW5 HOZ HOO
  -- the message's order is cut
  go_wp2_with (refine wpList_load_mid rfl 30 (.tmp 24) rfl L 5 rfl m.o.l _ (HKL.out.rangeO 5 rfl) Tryd.underlying30 rfl HSZ.out ?_)
  refine (HCM.out _).mono ?_
  rintro e w6 ⟨rfl, hb6⟩
  have HKN : Hid (Blk w6 N 30 o1.l) := HKN.out.kept (hb6.block _ HKN.out.lt)
  have HKL : Hid (Blk w6 L 32 m.l) := HKL.out.kept (hb6.block _ HKL.out.lt)
  have HQ : Hid (Below N W w6) := HQ.out.trans (hb6.mono (bnl9 HN.out HQ.out))
  clear hb6 HCM
  go_upto_region 5 with (refine wpList_store_mid rfl 30 (.tmp 27) (.tmp 26) rfl L 5 m1.o.l.toArray rfl rfl (HKL.out.there 5 26 (Nat.le_refl 31)) HSZ.out HOM.out ?_)
  have hks := Blk.sets m1.o.l 5 HKL.out
  rw [HM1.out] at hks
  have HKL := Lib.hid hks
  have HKN := Lib.hid (HKN.out.kept (heap_setCells L N (by omega) m1.o.l 5 _))
  have HQ := Lib.hid (below_setCells HQ.out (bnl9 HN.out HQ.out) L 5 m1.o.l (by omega))
  clear hks HOM HM1
  generalize World.setCells _ _ _ _ = w7 at HKL HKN HQ ⊢
  -- a sender, a receiver
  obtain ⟨B, hB⟩ : ∃ B, w7.heap.size = B := ⟨_, rfl⟩
  have hBN : N < B := by rw [← hB]; exact HKN.out.lt
  have hBL : L < B := by rw [← hB]; exact HKL.out.lt
  have HQ7 := HQ
  have HBE := Lib.hid hB
  go_wp2_with fail
  refine (newSender_ok 1 w7 (by decide) (by decide)).mono ?_
  rintro e w8 ⟨bs, rfl, hk8, hge8, hb8⟩
  rw [hB] at hge8 hb8
  have HK8 := Lib.hid hk8
  have HB8 := Lib.hid hb8
  have HG8 := Lib.hid hge8
  clear hk8 hb8 hge8
  go_wp2_with fail
  refine (newReceiver_ok 1 w8 (by decide) (by decide)).mono ?_
  rintro e w9 ⟨br, mm, rfl, hk9, hm9, hge9, hlt9, hb9⟩
  have hsz8 := HB8.out.size
  have HS9 : Hid (SnAt w9 B bs 1 (.slice none 0 0) (PF 0) 0) := ⟨HK8.out.kept (hb9.block _ HK8.out.lt), World.ownsRow_nil _ _ _ _, HG8.out, fun g e => by simp [Value.ownBlock] at e⟩
  have HR9 : Hid (RcG w9 B br 1 (.slice none 0 0) [] mm []) := ⟨hk9, World.ownsRow_nil _ _ _ _, ⟨_, _, hm9, rfl⟩, by omega, by omega, fun g e => by simp [Value.ownBlock] at e, fun p hp => by rcases hp with hp | hp <;> cases hp⟩
  have HD : Hid (bs < mm ∧ mm < br ∧ mm < w9.heap.size) := ⟨by have := HK8.out.lt; omega, hlt9, (Array.getElem?_eq_some_iff.1 hm9).1⟩
  have HQ9 : Hid (Below B w7 w9) := HB8.out.trans (hb9.mono (by omega))
  clear hk9 hm9 hge9 hlt9 hb9 hsz8 HK8 HB8 HG8 hB
  go_wp2_with fail
  go_loopw [10] (fun vi wr => ∃ (i : Nat) (vp : Value), i ≤ n ∧ vi = .int .i64 ((i : Int) + 1) ∧ Hid (SnAt wr B bs 1 vp (PF i) 0) ∧ Hid (RcG wr B br 1 (.slice none 0 0) [] mm []) ∧ Hid (Below B w7 wr) ∧ Hid (∀ g, vp.ownBlock = some g → g ≠ br ∧ g ≠ mm)) (fun v _ => n + 1 - (intOf v).toNat)
  case atStart => exact ⟨0, _, Nat.zero_le _, rfl, HS9, HR9, HQ9, fun g e => by simp [Value.ownBlock] at e⟩
  case round =>
    clear HS9 HR9 HQ9
    obtain ⟨i, vp, hin, rfl, HS, HR, HB, HV⟩ := hrel
    by_cases h : i < n
    · have q1 : (i : Int) + 1 ≤ (n : Int) := by omega
      go_wp2_with fail
      refine (drop_any ((i : Int) + 1) 50 wr).mono ?_
      rintro e wa ⟨rfl, hba⟩
      have HSa := Lib.hid (HS.out.below hba)
      have HRa := Lib.hid (HR.out.below hba)
      have HBa : Hid (Below B w7 wa) := HB.out.trans (hba.mono (by have := HB.out.size; rw [HBE.out] at this; exact this))
      clear hba HS HR HB
      go_wp2_with fail
      refine (add_ok wa B bs 1 vp (PF i) 0 50 ((i : Int) + 1) HSa.out (by rw [PF_len]) (by rw [PF_len]; omega) (by omega) (by omega) (fun j p hj _ => by rw [PF_at hj]; exact Int.le_refl _)).mono ?_
      rintro e wb ⟨rfl, vp', hsb, hfb, hnb⟩
      rw [PF_succ] at hsb
      have HSb := Lib.hid hsb
      have hv0 := HV.out
      have HRb : Hid (RcG wb B br 1 (.slice none 0 0) [] mm []) := HRa.out.turn hfb (fun c hc => by
        have hd := HD.out
        rcases hc with rfl | hc
        · exact ⟨by omega, by omega, by simp [Value.ownBlock]⟩
        · exact ⟨(hv0 c hc).1, (hv0 c hc).2, by simp [Value.ownBlock]⟩) (fun p hp => by rcases hp with hp | hp <;> cases hp)
      have HBb : Hid (Below B w7 wb) := HBa.out.trans (hfb.below _ (by have := HBa.out.size; rw [HBE.out] at this; exact this) (fun c hc => HSa.out.bge c hc))
      have HVb : Hid (∀ g, vp'.ownBlock = some g → g ≠ br ∧ g ≠ mm) := fun g e => (hnb g e).elim (fun e => hv0 g e) (fun e => by have := HRa.out.blk.lt; have := HRa.out.mp.lt; omega)
      clear hsb hfb hnb hv0 HSa HRa HBa HV
      go_wp2_with fail
      go_roundw
      case rel => exact ⟨i + 1, vp', by omega, by go_num, HSb, HRb, HBb, HVb⟩
      case measure => simp [intOf]; omega
    · have q1 : ¬ ((i : Int) + 1 ≤ (n : Int)) := by omega
      have e : i = n := by omega
      subst e
      clear h
      have hbz : B ≤ wr.heap.size := by have := HB.out.size; rw [HBE.out] at this; exact this
      obtain ⟨ov, cv, hv⟩ : ∃ ov cv, vp = .slice ov i cv := by
        obtain ⟨a, b, h⟩ := own_slice HS.out.own
        exact ⟨a, b, by rw [h, PF_len]⟩
      subst hv
      obtain ⟨n, rfl⟩ : ∃ n, n = i := ⟨_, rfl⟩
      have HKN : Hid (Blk wr N 30 o1.l) := HKN.out.kept (HB.out.block _ hBN)
      have HKL : Hid (Blk wr L 32 m1.l) := HKL.out.kept (HB.out.block _ hBL)
      have HQ : Hid (Below N W wr) := HQ.out.trans (HB.out.mono (Nat.le_of_lt hBN))
      clear HB HQ7 HBE q1 hbz hin
      go_wp2_with fail
      -- an acknowledgment to another line
      refine (gSRecv_no wr bs 1 ov n cv 0 (ackM 0 n) [] HS.out.blk rfl (ack_an _ _) (.inl rfl) (ack_ts _ _) (by simp [ackM])).mono ?_
      rintro e wa ⟨⟨va, rfl⟩, hba⟩
      have HKN := Lib.hid (HKN.out.kept (hba.block _ HKN.out.lt))
      have HKL := Lib.hid (HKL.out.kept (hba.block _ HKL.out.lt))
      have HQ := Lib.hid (HQ.out.trans (hba.mono (bnl9 HN.out HQ.out)))
      have HS := Lib.hid (HS.out.below hba)
      have HR := Lib.hid (HR.out.below hba)
      clear hba
      go_wp2_with fail
      -- an acknowledgment of an order that there is not
      refine (gSRecv_far wa bs 1 ov n cv 0 (ackM 1 ((n : Int) + 1)) [] HS.out.blk rfl (ack_an _ _) (.inl rfl) (ack_ts _ _) (ack_ok 1 ((n : Int) + 1) (by decide) (by decide) (by omega) (by omega)) (by show (n : Int) + 1 > (n : Int); omega)).mono ?_
      rintro e wb ⟨⟨vb, rfl⟩, hba⟩
      have HKN := Lib.hid (HKN.out.kept (hba.block _ HKN.out.lt))
      have HKL := Lib.hid (HKL.out.kept (hba.block _ HKL.out.lt))
      have HQ := Lib.hid (HQ.out.trans (hba.mono (bnl9 HN.out HQ.out)))
      have HS := Lib.hid (HS.out.below hba)
      have HR := Lib.hid (HR.out.below hba)
      clear hba
      go_wp2_with fail
      refine (done_any bs n cv ov (.int .i64 1) 0 wb HS.out.blk).mono ?_
      rintro e wc ⟨rfl, hba⟩
      have HKN := Lib.hid (HKN.out.kept (hba.block _ HKN.out.lt))
      have HKL := Lib.hid (HKL.out.kept (hba.block _ HKL.out.lt))
      have HQ := Lib.hid (HQ.out.trans (hba.mono (bnl9 HN.out HQ.out)))
      have HS := Lib.hid (HS.out.below hba)
      have HR := Lib.hid (HR.out.below hba)
      clear hba
      have q2 : ((0 : Int) == (n : Int)) = false := beq_eq_false_iff_ne.2 (by omega)
      obtain ⟨g, hg⟩ : ∃ g, okM m1 bl1 = g := ⟨_, rfl⟩
      have HEN : Hid (∀ w', Below N W w' → Calls Tryd.prog 11 #[.agg m1.l.toArray] w' fun e w'' => ∃ t f, e = .returned (.tuple #[.string t, .int .i64 f]) ∧ ((f == 0) = g) ∧ Below w'.heap.size w' w'') := fun w' hb => by
        subst hg
        cases hok : okM m1 bl1 with
        | false =>
          refine (gOEnc_no m1 bl1 w' hok HA2.out HX2.out (HR2.out _ hb) HT2.out).mono ?_
          rintro e w'' ⟨rfl, h⟩
          exact ⟨_, _, rfl, rfl, h⟩
        | true =>
          refine (gOEnc_ok m1 bl1 w' hok HA2.out HX2.out (HR2.out _ hb) HT2.out).mono ?_
          rintro e w'' ⟨rfl, h⟩
          exact ⟨_, _, rfl, rfl, h⟩
      have HGG := Lib.hid hg
      clear hg
      go_wp2_with (refine wpList_load_mid rfl 32 (.tmp 5) rfl L 0 rfl m1.l _ HKL.out.range Tryd.underlying32 rfl HSG.out ?_)
      refine (HEN.out _ HQ.out).mono ?_
      rintro e wd ⟨t, ef, rfl, hef, hba⟩
      have HEF := Lib.hid hef
      clear hef
      have HKN := Lib.hid (HKN.out.kept (hba.block _ HKN.out.lt))
      have HKL := Lib.hid (HKL.out.kept (hba.block _ HKL.out.lt))
      have HQ := Lib.hid (HQ.out.trans (hba.mono (bnl9 HN.out HQ.out)))
      have HS := Lib.hid (HS.out.below hba)
      have HR := Lib.hid (HR.out.below hba)
      clear hba
      clear HEN q2
      go_upto_region 16 with (fail)
      obtain ⟨tk, htk⟩ : ∃ tk, ((m1.kd == 1) && ((m1.tn == 1) && g)) = tk := ⟨_, rfl⟩
      have hc0 : wd.cell? ⟨L, 0, none⟩ = some (.int .i64 m1.kd) := HKL.out.cell 0
      have hc1 : wd.cell? ⟨L, 1, none⟩ = some (.int .i64 m1.tn) := HKL.out.cell 1
      have HTK := Lib.hid htk
      clear htk
      go_cut [13] from 55 to 67 (fun v wx => v = .bool tk ∧ wx = wd)
      case first =>
        cases g with
        | false =>
          have HV : Hid (tk = false) := HTK.out.symm.trans (by simp)
          clear HGG
          have q9 := HEF.out
          go_wp2_with fail
          go_meet
          exact ⟨by rw [HV.out], rfl⟩
        | true =>
          clear HGG
          have q9 := HEF.out
          by_cases h1 : m1.kd = 1
          · rw [h1] at hc0
            by_cases h2 : m1.tn = 1
            · rw [h2] at hc1
              have HV : Hid (tk = true) := HTK.out.symm.trans (by simp [h1, h2])
              clear h1 h2
              go_wp2_with fail
              go_meet
              exact ⟨by rw [HV.out], rfl⟩
            · have HV : Hid (tk = false) := HTK.out.symm.trans (by simp [h2])
              have q3 : (m1.tn == 1) = false := beq_eq_false_iff_ne.2 h2
              clear h1 h2
              go_wp2_with fail
              go_meet
              exact ⟨by rw [HV.out], rfl⟩
          · have HV : Hid (tk = false) := HTK.out.symm.trans (by simp [h1])
            have q3 : (m1.kd == 1) = false := beq_eq_false_iff_ne.2 h1
            clear h1
            go_wp2_with fail
            go_meet
            exact ⟨by rw [HV.out], rfl⟩
      case rest =>
        obtain ⟨rfl, hwx⟩ := hcut
        subst hwx
        clear hc0 hc1 HEF
        go_wp2_with (refine wpList_load_mid rfl 32 (.tmp 5) rfl L 0 rfl m1.l _ HKL.out.range Tryd.underlying32 rfl HSG.out ?_)
        refine (gRecvF _ B br mm m1 bl1 HR.out HA2.out HX2.out (HR2.out _ HQ.out) HT2.out).mono ?_
        rintro e we ⟨ob, n9, c9, oa, c8, l9, E9, rfl, hn9, hr9, hl9, hs9, hf9⟩
        rw [HGG.out, HTK.out] at hn9
        have hd := HD.out
        have hgb := HR.out.gem
        have hge := HR.out.ge
        have HKN := Lib.hid (HKN.out.kept (hf9.block _ HKN.out.lt (fun h => by omega)))
        have HKL := Lib.hid (HKL.out.kept (hf9.block _ HKL.out.lt (fun h => by omega)))
        have HS : Hid (SnAt we B bs 1 (.slice ov n cv) (PF n) 0) := ⟨HS.out.blk.kept (hf9.block _ HS.out.blk.lt (fun h => by omega)), ownsRow_keptF HS.out.own (fun c e => hf9.block c (own_lt HS.out.own c e) (fun h => by have := HV.out c e; omega)), HS.out.ge, HS.out.ne⟩
        have HQ : Hid (Below N W we) := HQ.out.trans (hf9.below _ (bnl9 HN.out HQ.out) (fun c h => by omega))
        have HR := Lib.hid hr9
        obtain ⟨k9, hk9⟩ : ∃ k9, l9.length = k9 := ⟨_, rfl⟩
        rw [hk9] at hl9 hs9
        have HL9 := Lib.hid hk9
        have HS9 := Lib.hid hs9
        have HN9 := Lib.hid hn9
        clear hr9 hf9 hd hgb hge hn9 hs9 hk9 HV HD HGG
        go_upto_region 18 with (fail)
        obtain ⟨P, hP⟩ : ∃ P, we.heap.size = P := ⟨_, rfl⟩
        have HP := Lib.hid hP
        clear hP
        have HORD : Hid (∀ w', Below P we w' → Calls Tryd.prog 23 #[.pointer (some ⟨br, 0, none⟩)] w' fun e w'' => ∃ ob cb, e = .returned (.slice ob k9 cb) ∧ Below w'.heap.size w' w'') := fun w' hb => by
          have hr := HR.out.below (by rw [HP.out]; exact hb)
          rw [HL9.out] at hr
          refine (gOrders w' br k9 c8 _ _ oa l9 hr.blk HL9.out (by omega) hr.rd).mono ?_
          rintro e w'' ⟨ob, cb, l', rfl, _, _, h⟩
          exact ⟨ob, cb, rfl, h⟩
        go_cut [91] from 70 to 91 (fun v wx => v = .bool false ∧ Hid (Below P we wx))
        case first =>
          have HCL : Hid (∀ w', Below P we w' → w'.cell? ⟨L, 2, none⟩ = some (.int .i64 m1.sq)) := fun w' hb => (HKL.out.kept (hb.block _ (by rw [← HP.out]; exact HKL.out.lt))).cell 2
          have HQ0 : Hid (Below P we we) := Below.refl _ _
          rcases (show k9 = 0 ∨ k9 = 1 from by omega) with hk | hk
          · subst hk
            cases tk with
            | false =>
              obtain rfl : n9 = 0 := HN9.out
              go_wp2_with fail
              refine (HORD.out _ HQ0.out).mono ?_
              rintro e wx ⟨ox, cx, rfl, hbx⟩
              have HQ1 : Hid (Below P we wx) := HQ0.out.trans (hbx.mono (bnl9 HP.out HQ0.out))
              clear hbx
              go_wp2_with fail
              refine (HORD.out _ HQ1.out).mono ?_
              rintro e wy ⟨oy, cy, rfl, hby⟩
              have HQ2 : Hid (Below P we wy) := HQ1.out.trans (hby.mono (bnl9 HP.out HQ1.out))
              clear hby
              go_wp2_with fail
              go_meet
              exact ⟨rfl, HQ2⟩
            | true =>
              obtain rfl : n9 = 1 := HN9.out
              go_wp2_with fail
              refine (HORD.out _ HQ0.out).mono ?_
              rintro e wx ⟨ox, cx, rfl, hbx⟩
              have HQ1 : Hid (Below P we wx) := HQ0.out.trans (hbx.mono (bnl9 HP.out HQ0.out))
              clear hbx
              go_wp2_with fail
              refine (HORD.out _ HQ1.out).mono ?_
              rintro e wy ⟨oy, cy, rfl, hby⟩
              have HQ2 : Hid (Below P we wy) := HQ1.out.trans (hby.mono (bnl9 HP.out HQ1.out))
              clear hby
              go_wp2_with fail
              go_meet
              exact ⟨rfl, HQ2⟩
          · subst hk
            have HSQ : Hid (m1.sq = 1) := HS9.out rfl
            rw [HSQ.out] at HCL
            cases tk with
            | false =>
              obtain rfl : n9 = 0 := HN9.out
              go_wp2_with fail
              refine (HORD.out _ HQ0.out).mono ?_
              rintro e wx ⟨ox, cx, rfl, hbx⟩
              have HQ1 : Hid (Below P we wx) := HQ0.out.trans (hbx.mono (bnl9 HP.out HQ0.out))
              clear hbx
              go_wp2_with fail
              refine (HORD.out _ HQ1.out).mono ?_
              rintro e wy ⟨oy, cy, rfl, hby⟩
              have HQ2 : Hid (Below P we wy) := HQ1.out.trans (hby.mono (bnl9 HP.out HQ1.out))
              clear hby
              have c2 := HCL.out _ HQ2.out
              go_wp2_with fail
              go_meet
              exact ⟨rfl, HQ2⟩
            | true =>
              obtain rfl : n9 = 1 := HN9.out
              go_wp2_with fail
              refine (HORD.out _ HQ0.out).mono ?_
              rintro e wx ⟨ox, cx, rfl, hbx⟩
              have HQ1 : Hid (Below P we wx) := HQ0.out.trans (hbx.mono (bnl9 HP.out HQ0.out))
              clear hbx
              go_wp2_with fail
              refine (HORD.out _ HQ1.out).mono ?_
              rintro e wy ⟨oy, cy, rfl, hby⟩
              have HQ2 : Hid (Below P we wy) := HQ1.out.trans (hby.mono (bnl9 HP.out HQ1.out))
              clear hby
              have c2 := HCL.out _ HQ2.out
              go_wp2_with fail
              go_meet
              exact ⟨rfl, HQ2⟩
        case rest =>
          obtain ⟨rfl, HQB⟩ := hcut
          have hba : Below we.heap.size we wc := by rw [HP.out]; exact HQB.out
          have HKN := Lib.hid (HKN.out.kept (hba.block _ HKN.out.lt))
          have HKL := Lib.hid (HKL.out.kept (hba.block _ HKL.out.lt))
          have HS := Lib.hid (HS.out.below hba)
          have HQ := Lib.hid (HQ.out.trans (hba.mono (bnl9 HN.out HQ.out)))
          clear hba HQB HORD HP HR HL9 HS9 HN9 HTK hl9
          go_upto_region 20 with (fail)
          have HF0 : Hid (∀ w', Below N W w' → Calls Tryd.prog 27 #[.agg o1.l.toArray] w' fun e w'' => e = .returned (.bool (okB o1 al1)) ∧ Below w'.heap.size w' w'') := fun w' hb => gRef15 o1 al1 w' HA1.out HX1.out (HR1.out _ hb) HT1.out
          obtain ⟨ft, hft⟩ : ∃ ft, fitsB n o1 al1 = ft := ⟨_, rfl⟩
          have HFT := Lib.hid hft
          clear hft
          go_cut [15] from 92 to 106 (fun v wx => v = .bool ft ∧ Hid (Below wc.heap.size wc wx))
          case first =>
            go_wp2_with (refine wpList_load_mid rfl 30 (.tmp 4) rfl N 0 rfl o1.l _ HKN.out.range Tryd.underlying30 rfl HSZ.out ?_)
            refine (HF0.out _ HQ.out).mono ?_
            rintro e wz ⟨rfl, hbz⟩
            have hk := HKN.out.kept (hbz.block _ HKN.out.lt)
            have c0 : wz.cell? ⟨N, 0, none⟩ = some (.int .i64 o1.s) := hk.cell 0
            have c2 : wz.cell? ⟨N, 2, none⟩ = some (.int .i64 o1.f) := hk.cell 2
            have HBZ := Lib.hid hbz
            clear hk hbz
            cases hok : okB o1 al1 with
            | false =>
              have HV : Hid (ft = false) := HFT.out.symm.trans (by unfold fitsB; rw [hok]; rfl)
              clear hok
              go_wp2_with fail
              go_meet
              exact ⟨by rw [HV.out], HBZ⟩
            | true =>
              by_cases h1 : o1.s = (n : Int) + 1
              · rw [h1] at c0
                by_cases h2 : 50 ≤ o1.f
                · have HV : Hid (ft = true) := HFT.out.symm.trans (by unfold fitsB; rw [hok, decide_eq_true h2, beq_iff_eq.2 h1]; rfl)
                  have q3 : o1.f ≥ 50 := h2
                  clear hok h1
                  go_wp2_with fail
                  go_meet
                  exact ⟨by rw [HV.out], HBZ⟩
                · have HV : Hid (ft = false) := HFT.out.symm.trans (by unfold fitsB; rw [decide_eq_false h2]; simp)
                  have q3 : ¬ o1.f ≥ 50 := h2
                  have q6 : decide (50 ≤ o1.f) = false := decide_eq_false h2
                  have Q6 := Lib.hid q6
                  clear hok h1 q6
                  go_wp2_with fail
                  go_meet
                  exact ⟨by rw [HV.out, Q6.out], HBZ⟩
              · have HV : Hid (ft = false) := HFT.out.symm.trans (by unfold fitsB; rw [beq_eq_false_iff_ne.2 h1]; simp)
                have q3 : (o1.s == (n : Int) + 1) = false := beq_eq_false_iff_ne.2 h1
                clear hok h1
                go_wp2_with fail
                go_meet
                exact ⟨by rw [HV.out], HBZ⟩
          case rest =>
            obtain ⟨rfl, HBX⟩ := hcut
            have hba := HBX.out
            have HKN := Lib.hid (HKN.out.kept (hba.block _ HKN.out.lt))
            have HKL := Lib.hid (HKL.out.kept (hba.block _ HKL.out.lt))
            have HS := Lib.hid (HS.out.below hba)
            have HQ := Lib.hid (HQ.out.trans (hba.mono (bnl9 HN.out HQ.out)))
            clear hba HBX HF0
            go_wp2_with (refine wpList_load_mid rfl 30 (.tmp 4) rfl N 0 rfl o1.l _ HKN.out.range Tryd.underlying30 rfl HSZ.out ?_)
            refine (gAdd_fit _ B bs 1 _ n 0 o1 al1 HA1.out HX1.out (HR1.out _ HQ.out) HT1.out HS.out hn1 (by omega)).mono ?_
            rintro e wf ⟨rfl, vp', hk6, hf6⟩
            have HKN := Lib.hid (HKN.out.kept (hf6.block _ HKN.out.lt (fun h => by have := HS.out.bge _ h; omega)))
            have HKL := Lib.hid (HKL.out.kept (hf6.block _ HKL.out.lt (fun h => by have := HS.out.bge _ h; omega)))
            have HQ := Lib.hid (HQ.out.trans (hf6.below _ (bnl9 HN.out HQ.out) (fun c h => by have := HS.out.bge _ h; omega)))
            have HKS := Lib.hid hk6
            obtain ⟨ad, had⟩ : ∃ ad : Int, (if fitsB n o1 al1 = true then (0 : Int) else 200) = ad := ⟨_, rfl⟩
            rw [had]
            have q4 : (ad == 0) = ft := by
              rw [← had, HFT.out]
              cases ft <;> rfl
            have q5 : (ft == ft) = true := by cases ft <;> rfl
            clear hk6 hf6 HFT had HS
            go_wp2_with (refine wpList_load_mid rfl 32 (.tmp 5) rfl L 0 rfl m1.l _ HKL.out.range Tryd.underlying32 rfl HSG.out ?_)
            refine (nilSRecv m1 _).mono ?_
            rintro e wg ⟨⟨vg, rfl⟩, hba⟩
            have HKN := Lib.hid (HKN.out.kept (hba.block _ HKN.out.lt))
            have HKL := Lib.hid (HKL.out.kept (hba.block _ HKL.out.lt))
            have HQ := Lib.hid (HQ.out.trans (hba.mono (bnl9 HN.out HQ.out)))
            have HKS := Lib.hid (HKS.out.kept (hba.block _ HKS.out.lt))
            clear hba
            clear q4 q5
            go_wp2_with (refine wpList_load_midG rfl 30 (.tmp 4) rfl N 0 rfl o1.l _ HKN.out.range Tryd.underlying30 rfl HSZ.out ?_)
            refine (nilAdd o1 _).mono ?_
            rintro e wh ⟨rfl, hba⟩
            have HKN := Lib.hid (HKN.out.kept (hba.block _ HKN.out.lt))
            have HKL := Lib.hid (HKL.out.kept (hba.block _ HKL.out.lt))
            have HQ := Lib.hid (HQ.out.trans (hba.mono (bnl9 HN.out HQ.out)))
            have HKS := Lib.hid (HKS.out.kept (hba.block _ HKS.out.lt))
            clear hba
            go_wp2_with fail
            refine (nilTick _).mono ?_
            rintro e wi ⟨rfl, hba⟩
            have HKN := Lib.hid (HKN.out.kept (hba.block _ HKN.out.lt))
            have HKL := Lib.hid (HKL.out.kept (hba.block _ HKL.out.lt))
            have HQ := Lib.hid (HQ.out.trans (hba.mono (bnl9 HN.out HQ.out)))
            have HKS := Lib.hid (HKS.out.kept (hba.block _ HKS.out.lt))
            clear hba
            go_wp2_with fail
            refine (nilDone _).mono ?_
            rintro e wj ⟨rfl, hba⟩
            have HKN := Lib.hid (HKN.out.kept (hba.block _ HKN.out.lt))
            have HKL := Lib.hid (HKL.out.kept (hba.block _ HKL.out.lt))
            have HQ := Lib.hid (HQ.out.trans (hba.mono (bnl9 HN.out HQ.out)))
            have HKS := Lib.hid (HKS.out.kept (hba.block _ HKS.out.lt))
            clear hba
            go_wp2_with (refine wpList_load_midG rfl 32 (.tmp 5) rfl L 0 rfl m1.l _ HKL.out.range Tryd.underlying32 rfl HSG.out ?_)
            refine (nilRecv m1 _).mono ?_
            rintro e wk ⟨rfl, hba⟩
            have HKN := Lib.hid (HKN.out.kept (hba.block _ HKN.out.lt))
            have HKL := Lib.hid (HKL.out.kept (hba.block _ HKL.out.lt))
            have HQ := Lib.hid (HQ.out.trans (hba.mono (bnl9 HN.out HQ.out)))
            have HKS := Lib.hid (HKS.out.kept (hba.block _ HKS.out.lt))
            clear hba
            go_wp2_with fail
            refine (nilOrders _).mono ?_
            rintro e wl ⟨rfl, hba⟩
            have HKN := Lib.hid (HKN.out.kept (hba.block _ HKN.out.lt))
            have HKL := Lib.hid (HKL.out.kept (hba.block _ HKL.out.lt))
            have HQ := Lib.hid (HQ.out.trans (hba.mono (bnl9 HN.out HQ.out)))
            have HKS := Lib.hid (HKS.out.kept (hba.block _ HKS.out.lt))
            clear hba
            go_wp2_with fail
            refine (tick_neg bs _ _ _ _ HKS.out).mono ?_
            rintro e wm ⟨rfl, hba⟩
            have HKN := Lib.hid (HKN.out.kept (hba.block _ HKN.out.lt))
            have HKL := Lib.hid (HKL.out.kept (hba.block _ HKL.out.lt))
            have HQ := Lib.hid (HQ.out.trans (hba.mono (bnl9 HN.out HQ.out)))
            have HKS := Lib.hid (HKS.out.kept (hba.block _ HKS.out.lt))
            clear hba
            go_wp2_with fail
            go_ret
            exact ⟨rfl, by rw [HN.out]; exact HQ.out⟩
end Go.Proofs.YtjkiidhnmljmbaaDoor
