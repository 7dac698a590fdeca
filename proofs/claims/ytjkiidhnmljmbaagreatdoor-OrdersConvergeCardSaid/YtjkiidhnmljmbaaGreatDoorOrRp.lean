/- Orders: an acknowledgment that a sender receives, not below the last one. -/
import Derived.Test.YtjkiidhnmljmbaaGreatDoorOrGL
set_option linter.unusedVariables false
set_option linter.unusedSimpArgs false
set_option maxRecDepth 100000
set_option maxHeartbeats 8000000
namespace Go.Proofs.YtjkiidhnmljmbaaGreatDoor
open Go.RowKit
attribute [local go_sem] Oper.semAt_some
theorem srecv_up (W : World) (B bs : Nat) (tn : Int) (vp : Value) (L : List Pst) (k sq : Nat) (h : SnAt W B bs tn vp L k) (t0 : 0 ≤ tn) (t1 : tn < 3) (hk : k ≤ sq) (hsq : sq ≤ L.length) (hL : L.length ≤ 200) :
  Calls Tryz.prog 22 #[.pointer (some ⟨bs, 0, none⟩), .agg (msgA 2 tn sq 0 0 0 0 0 0 0)] W fun e w' => (∃ v, e = .returned v) ∧ SnAt w' B bs tn vp L sq ∧ Fr (fun c => c = bs) W w' := by
 obtain ⟨N, w1, hN, hw1, hb1, hk1⟩ := bx W (msgA 2 tn sq 0 0 0 0 0 0 0) (msgA 2 tn sq 0 0 0 0 0 0 0).toList 32 rfl
 have hs1 : SnAt w1 B bs tn vp L k := h.below (by rw [hN]; exact hb1)
 obtain ⟨ov, cv, rfl⟩ := own_slice h.own
 obtain ⟨n, hn⟩ : ∃ n, L.length = n := ⟨_, rfl⟩
 obtain ⟨P, hP⟩ : ∃ P, w1.heap.size = P := ⟨_, rfl⟩
 have up : ∀ W', Below P w1 W' → SnAt W' B bs tn (.slice ov L.length cv) L k := fun W' hW => hs1.below (by rw [hP]; exact hW)
 have HSA := Lib.hid up
 have HBK : Hid (∀ W', Below P w1 W' → _) := fun W' hW => (up W' hW).blk
 have HKP : Hid (∀ W, Below P w1 W → W.rangeAt N 0 (msgA 2 tn sq 0 0 0 0 0 0 0).toList ∧ W.cell? ⟨bs, 0, none⟩ = some (.int .i64 tn) ∧ W.cell? ⟨bs, 2, none⟩ = some (.slice ov n cv) ∧ W.cell? ⟨bs, 3, none⟩ = some (.int .i64 k) ∧ W.cell? ⟨N, 2, none⟩ = some (.int .i64 sq)) := fun W' hW => by
  have hb := (up W' hW).blk
  have hm := hk1.kept (hW.block N (by rw [← hP]; exact hk1.lt))
  exact ⟨hm.range, hb.cell 0, by rw [← hn]; exact hb.cell 2, hb.cell 3, hm.cell 2⟩
 have HLV : Hid (∀ W', Below P w1 W' → _) := fun W' hW => slives_any bs _ _ _ W' (up W' hW).blk
 have HTK := Lib.hid (fun W' => takes_ack tn sq W' t0 t1 (by omega) (by omega))
 have HSZ := szM
 have HN := Lib.hid hN;have HP := Lib.hid hP;have HB1 := Lib.hid hb1
 have HNP : Hid (N ≤ P) := (by rw [← hP]; exact bnl9 hN hb1 : N ≤ P)
 have hgt : ¬ (sq : Int) > (n : Int) := by omega
 have hlt : ¬ (sq : Int) < (k : Int) := by omega
 have HQ : Hid (Below P w1 w1.drew) := (Below.refl _ _).drew
 dsimp only [msgA] at hw1
 dsimp only [msgA]
 clear hb1 hk1 hs1 h up hn hP
 go_enter Tryz.func22, Tryz.ntmps22
 go_upto_region 1 with (fail)
 refine wp_region_held_drew (S := fun W => W.rangeAt N 0 (msgA 2 tn sq 0 0 0 0 0 0 0).toList ∧ W.cell? ⟨bs, 0, none⟩ = some (.int .i64 tn) ∧ W.cell? ⟨bs, 2, none⟩ = some (.slice ov n cv) ∧ W.cell? ⟨bs, 3, none⟩ = some (.int .i64 k) ∧ W.cell? ⟨N, 2, none⟩ = some (.int .i64 sq)) (by kernel_rfl) ?_ (fun hHeld => ?_)
 ·exact HKP.out _ HQ.out
 generalize w1.drew = z0 at HQ hHeld ⊢;refine tk 0 (some 5) ?_
 refine rd1 1 (some 6) (fun K hK => ?_)
 go_simp
 refine (HLV.out _ HQ.out).mono ?_
 rintro e w' ⟨rfl, rfl⟩;go_simp
 refine hK.out _ _ ?_ (fun hHeld2 => ?_)
 ·exact HKP.out _ HQ.out
 clear hK K hHeld;rename _ => hHeld;refine tk 2 (some 7) ?_;refine tk 3 (some 8) ?_;refine tk 4 (some 9) ?_;refine tk 5 (some 10) ?_;refine tk 6 (some 11) ?_;refine tk 7 (some 12) ?_
 refine wpAnyH_take (i := 8) (oi := ⟨some 13, _, _, _, _, _⟩) (v := .agg (msgA 2 tn sq 0 0 0 0 0 0 0)) rfl (by kernel_rfl) (by kernel_rfl) (by kernel_rfl) (fun _ _ _ h => h) (yieldsIf_load_mid (by rfl) 32 (.tmp 3) rfl N 0 rfl (msgA 2 tn sq 0 0 0 0 0 0 0).toList _ (fun _ h => h.1) Tryz.underlying32 rfl HSZ.out) (by assumption) ?_
 try simp only [Act.put, sa, sz, ss]
 refine rd1 9 (some 14) (fun K hK => ?_)
 go_simp
 refine (HTK.out _).mono ?_
 rintro e z1 ⟨rfl, hbz⟩
 have HQ : Hid (Below P w1 z1) := HQ.out.trans (hbz.mono (bnl9 HP.out HQ.out))
 clear hbz;go_simp
 refine hK.out _ _ ?_ (fun hHeld2 => ?_)
 ·exact HKP.out _ HQ.out
 clear hK K hHeld;rename _ => hHeld;refine tk 10 (some 15) ?_;refine tk 11 (some 16) ?_;refine tk 12 (some 17) ?_;refine tk 13 (some 18) ?_;refine tk 14 (some 19) ?_;refine tk 15 (some 20) ?_;refine tk 16 (some 21) ?_;refine tk 17 (some 22) ?_;refine tk 18 (some 23) ?_;refine tk 19 (some 24) ?_
 refine tk 20 (some 25) (v := .bool false) ?_ (hy := by (intro w hSw; (try dsimp only at hSw); go_simp; (first | done | (with_reducible rfl) | exact (decide_eq_false hgt) | simpa using (decide_eq_false hgt))))
 refine tk 21 (some 26) ?_;refine wpAnyH_done (by kernel_rfl) ?_ _;clear hHeld
 go_upto_region 2 with (fail)
 have HQ2 : Hid (Below P w1 _) := HQ.out.drew
 refine wp_region_held_drew (S := fun W => W.rangeAt N 0 (msgA 2 tn sq 0 0 0 0 0 0 0).toList ∧ W.cell? ⟨bs, 0, none⟩ = some (.int .i64 tn) ∧ W.cell? ⟨bs, 2, none⟩ = some (.slice ov n cv) ∧ W.cell? ⟨bs, 3, none⟩ = some (.int .i64 k) ∧ W.cell? ⟨N, 2, none⟩ = some (.int .i64 sq)) (by kernel_rfl) ?_ (fun hHeld => ?_)
 ·exact HKP.out _ HQ2.out
 generalize World.drew _ = z2 at HQ2 hHeld ⊢
 refine tk 0 (some 27) ?_;refine tk 1 (some 28) ?_;refine tk 2 (some 29) ?_;refine tk 3 (some 30) ?_;refine tk 4 (some 31) ?_;refine tk 5 (some 32) ?_
 refine tk 6 (some 33) (v := .bool false) ?_ (hy := by (intro w hSw; (try dsimp only at hSw); go_simp; (first | done | (with_reducible rfl) | exact (decide_eq_false hlt) | simpa using (decide_eq_false hlt))))
 refine wpAnyH_done (by kernel_rfl) ?_ _;clear hHeld
 have hS := HKP.out _ HQ2.out
 have hblk := HBK.out _ HQ2.out
 have c3 := hblk.cell 3
 have f3 := hblk.frozen 3
 have c2 := hS.2.2.2.2
 simp only [gz, gs] at c3
 have HSN := Lib.hid (HSA.out _ HQ2.out)
 clear hS hblk
 go_wp2_with fail
 first | go_ret | (refine bodyPost_end (results_none rfl _ _ _) rfl ?_)
 exact ⟨⟨_, rfl⟩, ⟨HSN.out.blk.set 3 _, ownsRow_keptF HSN.out.own (fun c e => Below.heap_setCell _ _ _ _ (fun h => HSN.out.ne c e h)), HSN.out.ge, HSN.out.ne⟩, ((Fr.under _ (by rw [HN.out]; exact HB1.out.trans (HQ2.out.mono HNP.out))).setCell ⟨bs, 3, none⟩ _ (.inl rfl))⟩
theorem oCells_snoc (l : List Od) (i : Nat) (q : Od) (hq : l[i]? = some q) : oCells (l.take i) ++ q.A.toList = oCells (l.take (i + 1)) := by
 have : l.take (i + 1) = l.take i ++ [q] := by rw [List.take_add_one, hq]; rfl
 rw [this]
 simp [oCells]
theorem orders_any (W : World) (br n c : Nat) (v0 v3 : Value) (oa : Option Addr) (l : List Od) (hblk : Blk W br 115 [v0, .bool true, .slice oa n c, v3]) (hn : l.length = n) (hnm : n ≤ 1000) (hr : RdO W oa l) :
  Calls Tryz.prog 17 #[.pointer (some ⟨br, 0, none⟩)] W fun e w' => ∃ ob cb, e = .returned (.slice ob n cb) ∧ w'.ownsRow W.heap.size 30 26 (.slice ob n cb) n (oCells l) ∧ Below W.heap.size W w' := by
 have HR := Lib.hid hr;have HN := Lib.hid hn
 have HSZ := szO
 have HLV := Lib.hid (rlives_any br v0 (.slice oa n c) v3 W hblk)
 have HBK := Lib.hid hblk
 obtain ⟨i0, hi, hz0, hz1, hz2⟩ := info_parts Tryz.infoOrd
 have HI := Lib.hid hi;have HI0 := Lib.hid hz0;have HI1 := Lib.hid hz1;have HI2 := Lib.hid hz2
 have b2 := hblk.cell 2
 simp only [gz, gs] at b2
 clear hr hn hi hz0 hz1 hz2 hblk
 go_enter Tryz.func17, Tryz.ntmps17
 go_wp2_with fail
 refine HLV.out.mono ?_
 rintro e w' ⟨rfl, rfl⟩
 go_wp2_with (refine wpList_make_own _ rfl _ _ 50 rfl W.heap.size 30 i0 (.agg aZo) 26 Tryz.underlying50 HI.out HI0.out HI1.out .i64 .i64 n n rfl rfl rfl ?c1 ?c2 ?c3 ?_)
 case c1 => rw [HI2.out]; omega
 case c2 => unfold maxLen; omega
 case c3 => exact Nat.le_refl _
 intro w2 hown hgrow
 have hb2 : Below W.heap.size W w2 := (Below.refl _ W).grown hgrow (Nat.le_refl _) (fun k e => by cases e)
 have d2 := (HBK.out.kept (hb2.block br HBK.out.lt)).cell 2
 simp only [gz, gs] at d2
 have HO2 := Lib.hid hown;have HB2 := Lib.hid hb2;clear hown hgrow hb2 b2
 go_wp2_with fail
 clear d2
 go_loopw [3, 20] (fun vl vi wr => ∃ (i cb : Nat) (ob : Option Addr), i ≤ n ∧ vi = .int .i64 i ∧ vl = .slice ob i cb ∧ Hid (wr.ownsRow W.heap.size 30 26 (.slice ob i cb) i (oCells (l.take i))) ∧ Hid (Below W.heap.size W wr)) (fun _ v _ => n - (intOf v).toNat)
 case atStart => exact ⟨0, n, _, Nat.zero_le _, rfl, rfl, HO2, HB2⟩
 case round =>
  clear HO2 HB2
  obtain ⟨i, cb, ob, hin, rfl, rfl, HO, HB⟩ := hrel
  by_cases h : i < n
  ·have q1 : (i : Int) < (n : Int) := by omega
   have q2 : (0 : Int) ≤ (i : Int) := by omega
   obtain ⟨q, hq⟩ : ∃ q, l[i]? = some q := ⟨l[i]'(by rw [HN.out]; exact h), List.getElem?_eq_getElem _⟩
   obtain ⟨b, o, rfl, hlt, hrg⟩ := (HR.out.kept HB.out).at i q hq
   have hsn := oCells_snoc l i q hq
   obtain ⟨qs, qc, qf, qk, qe⟩ := q
   obtain ⟨M, hM⟩ : ∃ M, wr.heap.size = M := ⟨_, rfl⟩
   obtain ⟨w1, hw1⟩ : ∃ w1, wr.alloc (.cells (ordA 0 0 0 0 0) 30) = w1 := ⟨_, rfl⟩
   have hk1 : Blk w1 M 30 (ordA 0 0 0 0 0).toList := by rw [← hw1, ← hM]; exact Blk.new wr _ _
   obtain ⟨w3, hw3⟩ : ∃ w3, w1.setRow M (ordA qs qc qf qk qe) = w3 := ⟨_, rfl⟩
   have hk3 : Blk w3 M 30 (ordA qs qc qf qk qe).toList := by rw [← hw3]; exact hk1.setRow _
   have hb13 : Below M wr w3 := by
    rw [← hw3, ← hw1, ← hM]
    exact below_setRow ((Below.refl _ wr).alloc (Nat.le_refl _) _) (Nat.le_refl _) _
   have HO1 : Hid ((ordA qs qc qf qk qe).all (·.oneCell') = true) := (by first | rfl | (unfold ordA; simp [Value.oneCell']) : (ordA qs qc qf qk qe).all (·.oneCell') = true)
   have HOZ : Hid ((ordA 0 0 0 0 0).toList.toArray.size = (ordA qs qc qf qk qe).size) := rfl
   have HRG : Hid (wr.rangeAt b (o + i * 26) (ordA qs qc qf qk qe).toList) := hrg
   have HK1 := Lib.hid hk1;have HW3 := Lib.hid hw3;have HR3 := Lib.hid hk3.range
   have hMW : W.heap.size ≤ M := by rw [← hM]; exact HB.out.size
   have HB3 : Hid (Below W.heap.size W w3) := HB.out.trans (hb13.mono hMW)
   have HO3 : Hid (w3.ownsRow W.heap.size 30 26 (.slice ob i cb) i (oCells (l.take i))) := ownsRow_keptF HO.out (fun k e => hb13.block k (by rw [← hM]; exact own_lt HO.out k e))
   have HSNN := Lib.hid hsn
   dsimp only [ordA] at hw1
   clear hq hlt hrg hk1 hk3 hw3 hb13 hsn HO HB
   go_wp2_with (first | (refine wpList_load_mid rfl 30 (.tmp 22) rfl b (o + i * 26) rfl (ordA qs qc qf qk qe).toList _ HRG.out Tryz.underlying30 rfl HSZ.out ?_) | (refine wpList_store_row rfl 30 (.tmp 5) (.tmp 23) rfl M (ordA qs qc qf qk qe) rfl rfl 30 _ HK1.out HSZ.out HOZ.out HO1.out ?_; rw [HW3.out]) | (refine wpList_load_mid rfl 30 (.tmp 5) rfl M 0 rfl (ordA qs qc qf qk qe).toList _ HR3.out Tryz.underlying30 rfl HSZ.out ?_))
   refine (own_any qs qc qf qk qe _).mono ?_
   rintro e w4 ⟨rfl, hb4⟩
   have ho4 := ownsRow_keptF HO3.out (fun k e => hb4.block k (own_lt HO3.out k e))
   have HB4 : Hid (Below W.heap.size W w4) := HB3.out.trans (hb4.mono HB3.out.size)
   obtain ⟨oc, cc, w5, hrun, ho5, hf5, hk5⟩ := app_ord w4 W.heap.size (.slice ob i cb) i (oCells (l.take i)) (lD qs qc qf qk qe) ho4 (by omega) HB4.out.size 50 rfl (by simp [Value.oneCell'])
   have hb5 : Below W.heap.size W w5 := HB4.out.trans (hf5.below _ HB4.out.size (fun k e => own_ge ho4 k e))
   have HO5 : Hid (w5.ownsRow W.heap.size 30 26 (.slice oc (i + 1) cc) (i + 1) (oCells (l.take (i + 1)))) := by rw [← HSNN.out]; exact ho5
   have HB5 := Lib.hid hb5
   dsimp only [ordA]
   clear ho4 ho5 hf5 hk5 hb4 hb5
   go_wp2_with (at_builtin; refine wpList_append_run _ rfl _ _ 50 rfl _ _ _ _ rfl rfl hrun ?_)
   clear hrun
   go_wp2_with fail
   go_roundw
   case rel => exact ⟨i + 1, cc, oc, by omega, by go_num, rfl, HO5, HB5⟩
   case measure => simp [intOf]; omega
  ·have q1 : ¬ (i : Int) < (n : Int) := by omega
   have e : i = n := by omega
   subst e
   have ht : l.take i = l := List.take_of_length_le (by rw [HN.out]; omega)
   rw [ht] at HO;clear h ht
   go_wp2_with fail
   go_ret;exact ⟨_, _, rfl, HO.out, HB.out⟩
def FtS (bs : Nat) (vp : Value) (c : Nat) : Prop := c = bs ∨ vp.ownBlock = some c
def FtR (br m : Nat) (vo : Value) (c : Nat) : Prop := c = br ∨ c = m ∨ vo.ownBlock = some c
theorem SnAt.turn {W W' : World} {B bs : Nat} {tn : Int} {vp : Value} {L : List Pst} {k : Nat} (h : SnAt W B bs tn vp L k) {S : Nat → Prop} (hf : Fr S W W') (hS : ∀ c, S c → ¬ FtS bs vp c) : SnAt W' B bs tn vp L k :=
 ⟨h.blk.kept (hf.block _ h.blk.lt (fun hs => hS _ hs (.inl rfl))), ownsRow_keptF h.own (fun g e => hf.block g (own_lt h.own g e) (fun hs => hS g hs (.inr e))), h.ge, h.ne⟩
theorem SnAt.lt {W : World} {B bs : Nat} {tn : Int} {vp : Value} {L : List Pst} {k : Nat} (h : SnAt W B bs tn vp L k) (c : Nat) (hc : FtS bs vp c) : c < W.heap.size := by
 rcases hc with rfl | hc
 ·exact h.blk.lt
 ·exact own_lt h.own c hc
theorem SnAt.bge {W : World} {B bs : Nat} {tn : Int} {vp : Value} {L : List Pst} {k : Nat} (h : SnAt W B bs tn vp L k) (c : Nat) (hc : FtS bs vp c) : B ≤ c := by
 rcases hc with rfl | hc
 ·exact h.ge
 ·exact own_ge h.own c hc
theorem RcAt.lt {W : World} {B br m : Nat} {tn : Int} {vo : Value} {l : List Od} {E : List (Int × Od)} (h : RcAt W B br tn vo l m E) (c : Nat) (hc : FtR br m vo c) : c < W.heap.size := by
 rcases hc with rfl | rfl | hc
 ·exact h.blk.lt
 ·exact h.mp.lt
 ·exact own_lt h.own c hc
theorem RcAt.bge {W : World} {B br m : Nat} {tn : Int} {vo : Value} {l : List Od} {E : List (Int × Od)} (h : RcAt W B br tn vo l m E) (c : Nat) (hc : FtR br m vo c) : B ≤ c := by
 rcases hc with rfl | rfl | hc
 ·exact h.ge
 ·exact h.gem
 ·exact own_ge h.own c hc
structure LnS (W0 W : World) (bs br : Nat) (tn : Int) (vp : Value) (L : List Pst) (k : Nat) (vo : Value) (l : List Od) (m : Nat) (E : List (Int × Od)) (K : List (Nat × Obj)) : Prop where
 sn : SnAt W W0.heap.size bs tn vp L k
 rc : RcAt W W0.heap.size br tn vo l m E
 ap : ∀ c, FtS bs vp c → ¬ FtR br m vo c
 bel : Below W0.heap.size W0 W
 kp : ∀ p ∈ K, W.heap[p.1]? = some p.2 ∧ ¬ FtS bs vp p.1 ∧ ¬ FtR br m vo p.1
section
variable {W0 W W' : World} {bs br m : Nat} {tn : Int} {vp vo : Value} {L L' : List Pst} {k k' : Nat} {l l' : List Od} {E E' : List (Int × Od)} {K : List (Nat × Obj)}
theorem LnS.send (h : LnS W0 W bs br tn vp L k vo l m E K) {vp' : Value} {S : Nat → Prop} (hs : SnAt W' W0.heap.size bs tn vp' L' k') (hf : Fr S W W') (hS : ∀ c, S c → FtS bs vp c) (hn : ∀ g, vp'.ownBlock = some g → vp.ownBlock = some g ∨ W.heap.size ≤ g) : LnS W0 W' bs br tn vp' L' k' vo l m E K := by
 have hF : ∀ c, FtS bs vp' c → FtS bs vp c ∨ W.heap.size ≤ c := fun c hc => by
  rcases hc with rfl | hc
  ·exact .inl (.inl rfl)
  ·exact (hn c hc).imp_left .inr
 refine ⟨hs, h.rc.turn hf (fun c hc => ?_), fun c hc hr => ?_, h.bel.trans (hf.below _ h.bel.size (fun c hc => h.sn.bge c (hS c hc))), fun p hp => ?_⟩
 ·have := h.ap c (hS c hc)
  exact ⟨fun e => this (.inl e), fun e => this (.inr (.inl e)), fun e => this (.inr (.inr e))⟩
 ·rcases hF c hc with h1 | h1
  ·exact h.ap c h1 hr
  ·have := h.rc.lt c hr
   omega
 ·obtain ⟨k1, k2, k3⟩ := h.kp p hp
  have hlt : p.1 < W.heap.size := (Array.getElem?_eq_some_iff.1 k1).1
  refine ⟨(hf.block _ hlt (fun hs => k2 (hS _ hs))).trans k1, fun hc => ?_, k3⟩
  rcases hF _ hc with h1 | h1
  ·exact k2 h1
  ·omega
theorem LnS.recv (h : LnS W0 W bs br tn vp L k vo l m E K) {vo' : Value} {S : Nat → Prop} (hs : RcAt W' W0.heap.size br tn vo' l' m E') (hf : Fr S W W') (hS : ∀ c, S c → FtR br m vo c) (hn : ∀ g, vo'.ownBlock = some g → vo.ownBlock = some g ∨ W.heap.size ≤ g) : LnS W0 W' bs br tn vp L k vo' l' m E' K := by
 have hF : ∀ c, FtR br m vo' c → FtR br m vo c ∨ W.heap.size ≤ c := fun c hc => by
  rcases hc with rfl | rfl | hc
  ·exact .inl (.inl rfl)
  ·exact .inl (.inr (.inl rfl))
  ·exact (hn c hc).imp_left (fun e => .inr (.inr e))
 refine ⟨h.sn.turn hf (fun c hc hs => h.ap c hs (hS c hc)), hs, fun c hc hr => ?_, h.bel.trans (hf.below _ h.bel.size (fun c hc => h.rc.bge c (hS c hc))), fun p hp => ?_⟩
 ·rcases hF c hr with h1 | h1
  ·exact h.ap c hc h1
  ·have := h.sn.lt c hc
   omega
 ·obtain ⟨k1, k2, k3⟩ := h.kp p hp
  have hlt : p.1 < W.heap.size := (Array.getElem?_eq_some_iff.1 k1).1
  refine ⟨(hf.block _ hlt (fun hs => k3 (hS _ hs))).trans k1, k2, fun hc => ?_⟩
  rcases hF _ hc with h1 | h1
  ·exact k3 h1
  ·omega
theorem LnS.below (h : LnS W0 W bs br tn vp L k vo l m E K) (hb : Below W.heap.size W W') : LnS W0 W' bs br tn vp L k vo l m E K :=
 h.send (S := fun _ => False) (h.sn.below hb) (Fr.under _ hb) (fun _ e => e.elim) (fun _ e => .inl e)
theorem LnS.pin (h : LnS W0 W bs br tn vp L k vo l m E K) {g : Nat} {o : Obj} (hg : W.heap[g]? = some o) (h1 : ¬ FtS bs vp g) (h2 : ¬ FtR br m vo g) : LnS W0 W bs br tn vp L k vo l m E ((g, o) :: K) :=
 ⟨h.sn, h.rc, h.ap, h.bel, fun p hp => by
  rcases List.mem_cons.1 hp with rfl | hp
  ·exact ⟨hg, h1, h2⟩
  ·exact h.kp p hp⟩
end
theorem msgs_at {W : World} {B n : Nat} {vl : Value} {tn : Int} {ms : List (Nat × Int)} (h : W.ownsRow B 32 31 vl n (mCells tn ms)) (h0 : 0 < n) : ∃ g cap cur, vl = .slice (some ⟨g, 0, none⟩) n cap ∧ B ≤ g ∧ W.heap[g]? = some (.cells cur 32) ∧ cur.toList.take (n * 31) = mCells tn ms := by
 rcases h.2 with ⟨_, hz⟩ | ⟨g, cap, cur, h1, h2, h3, _, _, _, h4⟩
 ·omega
 ·exact ⟨g, cap, cur, h1, h2, h3, h4⟩
theorem range_of {W : World} {g n : Nat} {cur : Array Value} {t : TypeId} {xs : List Value} (h : W.heap[g]? = some (.cells cur t)) (hx : cur.toList.take n = xs) (o : Nat) (cs : List Value) (hc : (xs.drop o).take cs.length = cs) : W.rangeAt g o cs := fun j v hj => by
 have hl := (List.getElem?_eq_some_iff.1 hj).1
 have e : (xs.drop o)[j]? = some v := by rw [← hj, ← hc, List.getElem?_take, if_pos hl]
 rw [List.getElem?_drop] at e
 have hn : (cur.toList.take n)[o + j]? = some v := by rw [hx]; exact e
 rw [List.getElem?_take] at hn
 split at hn
 ·simp only [World.cell?, h]
  rw [← Array.getElem?_toList];exact hn
 ·cases hn
def clrL (L : List Pst) (first j : Nat) : List Pst := L.mapIdx fun i p => if first ≤ i ∧ i < j then ⟨p.fr, false, 0⟩ else p
theorem clrL_len (L : List Pst) (first j : Nat) : (clrL L first j).length = L.length := by simp [clrL]
theorem clrL_get (L : List Pst) (first j : Nat) (i : Nat) : (clrL L first j)[i]? = (L[i]?).map fun p => if first ≤ i ∧ i < j then ⟨p.fr, false, 0⟩ else p := by simp [clrL]
theorem SnAt.put {A : World} {B bs g n cap j k : Nat} {tn : Int} {L : List Pst} {p : Pst} (h : SnAt A B bs tn (.slice (some ⟨g, 0, none⟩) n cap) L k) (hp : L[j]? = some p) (b : Bool) (a : Int) :
  SnAt ((A.setCell ⟨g, j * 28 + 26, none⟩ (.bool b)).setCell ⟨g, j * 28 + 27, none⟩ (.int .i64 a)) B bs tn (.slice (some ⟨g, 0, none⟩) n cap) (L.set j ⟨p.fr, b, a⟩) k := by
 have hgb : bs ≠ g := fun e => h.ne g rfl e.symm
 have ho := h.own
 obtain ⟨oa, cap', he⟩ := own_slice ho
 simp only [Value.slice.injEq] at he
 obtain ⟨_, hn, _⟩ := he
 subst hn
 have hset := ownsRow_set (ownsRow_set ho (j * 28 + 26) (.bool b)) (j * 28 + 27) (.int .i64 a)
 rw [← pCells_set ⟨p.fr, b, a⟩ p L 0 j hp rfl] at hset
 exact ⟨(h.blk.other _ (fun e => hgb e.symm) _).other _ (fun e => hgb e.symm) _, by rw [List.length_set]; exact hset, h.ge, h.ne⟩
def pickO (c n : Int) : Int := if c < 0 then (-(c + 1)) % n else c % n
theorem pickO_bd (c n : Int) (hn : 0 < n) : 0 ≤ pickO c n ∧ pickO c n < n := by
 unfold pickO
 split
 ·exact ⟨Int.emod_nonneg _ (by omega), Int.emod_lt_of_pos _ hn⟩
 ·exact ⟨Int.emod_nonneg _ (by omega), Int.emod_lt_of_pos _ hn⟩
section
theorem pickO_any (c n : Int) (w : World) (h0 : -9223372036854775808 ≤ c) (h1 : c ≤ 9223372036854775807) (hn : 1 ≤ n) (hn2 : n ≤ 9223372036854775807) :
  Calls Tryz.prog 13 #[.int .i64 c, .int .i64 n] w fun e w' => e = .returned (.int .i64 (pickO c n)) ∧ w = w' := by
 by_cases hc : c < 0
 ·have e : pickO c n = (-(c + 1)) % n := by unfold pickO; rw [if_pos hc]
  rw [e];clear e
  go_enter Tryz.func13, Tryz.ntmps13
  go_wp2
  go_ret
  exact ⟨by rw [← Int.neg_tmod, Int.tmod_eq_emod_of_nonneg (by omega)]; rfl, rfl⟩
 ·have e : pickO c n = c % n := by unfold pickO; rw [if_neg hc]
  rw [e];clear e
  have hc' : 0 ≤ c := by omega
  go_enter Tryz.func13, Tryz.ntmps13
  go_wp2
  go_ret;exact ⟨rfl, rfl⟩
end
def stampL (C : List Int) (Ms : List (Nat × Int)) (t : Int) : List Int := Ms.foldl (fun c x => c.set (x.1 + 1) t) C
theorem stampL_len (Ms : List (Nat × Int)) (t : Int) : ∀ C : List Int, (stampL C Ms t).length = C.length := by
 induction Ms with
 | nil => intro C; rfl
 | cons y r ih => intro C; exact (ih _).trans (List.length_set ..)
theorem stampL_out (t : Int) (m : Nat) (Ms : List (Nat × Int)) : ∀ C : List Int, (∀ x ∈ Ms, x.1 + 1 ≠ m) → (stampL C Ms t)[m]? = C[m]? := by
 induction Ms with
 | nil => intro C _; rfl
 | cons y r ih =>
  intro C h
  refine (ih (C.set (y.1 + 1) t) (fun x hx => h x (List.mem_cons_of_mem _ hx))).trans ?_
  exact List.getElem?_set_ne (h y List.mem_cons_self)
theorem stampL_in (t : Int) (x : Nat × Int) (Ms : List (Nat × Int)) : ∀ C : List Int, x ∈ Ms → x.1 + 1 < C.length → (stampL C Ms t)[x.1 + 1]? = some t := by
 induction Ms with
 | nil => intro C h; cases h
 | cons y r ih =>
  intro C h hl
  by_cases hr : ∃ z ∈ r, z.1 = x.1
  ·obtain ⟨z, hz, he⟩ := hr
   have key : ∀ (Ms : List (Nat × Int)) (C : List Int), z ∈ Ms → z.1 + 1 < C.length → (stampL C Ms t)[z.1 + 1]? = some t := by
    intro Ms
    induction Ms with
    | nil => intro C h; cases h
    | cons y r ih2 =>
     intro C h hl
     by_cases hz2 : z ∈ r
     ·exact ih2 _ hz2 (by rw [List.length_set]; exact hl)
     ·have hzy : z = y := by
       rcases List.mem_cons.1 h with h | h
       ·exact h
       ·exact absurd h hz2
      subst hzy
      by_cases hr2 : ∀ q ∈ r, q.1 + 1 ≠ z.1 + 1
      ·refine (stampL_out t _ r (C.set (z.1 + 1) t) hr2).trans ?_
       rw [List.getElem?_set_self hl]
      ·have : ∀ (r : List (Nat × Int)) (C : List Int), z.1 + 1 < C.length → (∃ q ∈ r, q.1 + 1 = z.1 + 1) → (stampL C r t)[z.1 + 1]? = some t := by
        intro r
        induction r with
        | nil => intro C _ h; obtain ⟨q, hq, _⟩ := h; cases hq
        | cons y r ih3 =>
         intro C hl h
         by_cases hh : ∃ q ∈ r, q.1 + 1 = z.1 + 1
         ·exact ih3 _ (by rw [List.length_set]; exact hl) hh
         ·have hy : y.1 + 1 = z.1 + 1 := by
           obtain ⟨q, hq, he⟩ := h
           rcases List.mem_cons.1 hq with h | h
           ·rw [← h]; exact he
           ·exact absurd ⟨q, h, he⟩ hh
          refine (stampL_out t _ r (C.set (y.1 + 1) t) (fun q hq he => hh ⟨q, hq, he⟩)).trans ?_
          rw [hy, List.getElem?_set_self hl]
       refine this r _ (by rw [List.length_set]; exact hl) ?_
       simpa using hr2
   have := key r (C.set (y.1 + 1) t) hz (by rw [List.length_set, he]; exact hl)
   rw [he] at this;exact this
  ·have hxy : x = y := by
    rcases List.mem_cons.1 h with h | h
    ·exact h
    ·exact absurd ⟨x, h, rfl⟩ hr
   subst hxy
   refine (stampL_out t _ r (C.set (x.1 + 1) t) (fun z hz he => hr ⟨z, hz, by omega⟩)).trans ?_
   rw [List.getElem?_set_self hl]
theorem sentL_mem (L : List Pst) (f : Nat) (now : Int) (x : Nat × Int) : ∀ m, x ∈ sentL L f now m → f ≤ x.1 ∧ x.1 < m ∧ ∃ p, L[x.1]? = some p ∧ p.due now = true
 | 0, h => by cases h
 | m + 1, h => by
  rcases List.mem_append.1 (show x ∈ sentL L f now m ++ _ from h) with h | h
  ·obtain ⟨h1, h2, h3⟩ := sentL_mem L f now x m h
   exact ⟨h1, by omega, h3⟩
  ·cases hp : L[m]? with
   | none => rw [hp] at h; cases h
   | some p =>
    rw [hp] at h
    by_cases hc : f ≤ m ∧ p.due now = true
    ·simp only [hc, and_self, if_true, List.mem_singleton] at h
     subst h
     exact ⟨hc.1, by show m < m + 1; omega, p, hp, hc.2⟩
    ·simp only [hc, if_false] at h
     cases h
theorem sentL_all (L : List Pst) (f : Nat) (now : Int) (j : Nat) (p : Pst) (hp : L[j]? = some p) (hd : p.due now = true) (hf : f ≤ j) : ∀ m, j < m → ∃ x ∈ sentL L f now m, x.1 = j
 | 0, h => absurd h (Nat.not_lt_zero _)
 | m + 1, h => by
  by_cases e : j = m
  ·subst e
   refine ⟨(j, p.fr), ?_, rfl⟩
   rw [sentL_yes L f j now p hf hp hd]
   exact List.mem_append_right _ (List.mem_singleton.2 rfl)
  ·obtain ⟨x, hx, he⟩ := sentL_all L f now j p hp hd hf m (by omega)
   exact ⟨x, List.mem_append_left _ hx, he⟩
theorem sentL_sorted (L : List Pst) (f : Nat) (now : Int) : ∀ m, (sentL L f now m).Pairwise (fun a b => a.1 < b.1)
 | 0 => List.Pairwise.nil
 | m + 1 => by
  refine List.pairwise_append.2 ⟨sentL_sorted L f now m, ?_, fun a ha b hb => ?_⟩
  ·cases L[m]? with
   | none => exact List.Pairwise.nil
   | some p => simp only []; split <;> simp
  ·have h1 := (sentL_mem L f now a m ha).2.1
   cases hp : L[m]? with
   | none => rw [hp] at hb; cases hb
   | some p =>
    rw [hp] at hb
    by_cases hc : f ≤ m ∧ p.due now = true
    ·simp only [hc, and_self, if_true, List.mem_singleton] at hb
     subst hb;exact h1
    ·simp only [hc, if_false] at hb
     cases hb
structure RepI (L : List Pst) (C : List Int) (n : Nat) (now : Int) : Prop where
 ll : L.length = n
 cl : C.length = n + 1
 rel : ∀ j p, L[j]? = some p → ∃ t, C[j + 1]? = some t ∧ 0 ≤ t ∧ t ≤ now ∧ p.sent = decide (0 < t) ∧ (0 < t → p.at_ = t - 1) ∧ 0 ≤ p.at_ ∧ p.at_ ≤ now
theorem RepI.msg {L : List Pst} {C : List Int} {n : Nat} {now : Int} (h : RepI L C n now) (f i : Nat) (x : Nat × Int) (hx : (sentL L f now n)[i]? = some x) :
  ∃ t, (stampL C ((sentL L f now n).take i) (now + 1))[x.1 + 1]? = some t ∧ 0 ≤ t ∧ t ≤ now ∧ (0 < t → 6 ≤ now - (t - 1)) := by
 obtain ⟨hf, hn, p, hp, hd⟩ := sentL_mem L f now x n (List.mem_of_getElem? hx)
 obtain ⟨t, h1, h2, h3, h4, h5, h6, h7⟩ := h.rel x.1 p hp
 refine ⟨t, ?_, h2, h3, fun ht => ?_⟩
 ·rw [stampL_out]
  ·exact h1
  ·intro y hy he
   obtain ⟨k, hk⟩ := List.getElem?_of_mem hy
   rw [List.getElem?_take] at hk
   by_cases hki : k < i
   ·rw [if_pos hki] at hk
    have hs := List.pairwise_iff_getElem.1 (sentL_sorted L f now n) k i (List.getElem?_eq_some_iff.1 hk).1 (List.getElem?_eq_some_iff.1 hx).1 hki
    rw [(List.getElem?_eq_some_iff.1 hk).2, (List.getElem?_eq_some_iff.1 hx).2] at hs
    omega
   ·rw [if_neg hki] at hk
    cases hk
 ·have h8 := h5 ht
  unfold Pst.due dueB at hd
  rw [h4] at hd
  simp only [ht, decide_true, Bool.not_true, Bool.false_or, Bool.or_eq_true, decide_eq_true_eq] at hd
  omega
theorem RepI.tick {L : List Pst} {C : List Int} {n : Nat} {now : Int} (h : RepI L C n now) (h0 : 0 ≤ now) (f : Nat) : RepI (updL L f n now) (stampL C (sentL L f now n) (now + 1)) n (now + 1) := by
 refine ⟨by rw [updL_len]; exact h.ll, by rw [stampL_len]; exact h.cl, fun j q hq => ?_⟩
 rw [updL_get] at hq
 cases hp : L[j]? with
 | none => rw [hp] at hq; cases hq
 | some p =>
  rw [hp] at hq
  simp only [Option.map_some, Option.some.injEq] at hq
  have hj : j < n := by rw [← h.ll]; exact (List.getElem?_eq_some_iff.1 hp).1
  obtain ⟨t, h1, h2, h3, h4, h5, h6, h7⟩ := h.rel j p hp
  by_cases hc : f ≤ j ∧ p.due now = true
  ·obtain ⟨x, hx, he⟩ := sentL_all L f now j p hp hc.2 hc.1 n hj
   rw [if_pos ⟨hc.1, hj⟩] at hq
   unfold Pst.upd at hq
   rw [if_pos hc.2] at hq;subst hq
   have := stampL_in (now + 1) x (sentL L f now n) C hx (by rw [he, h.cl]; omega)
   rw [he] at this
   exact ⟨now + 1, this, by omega, Int.le_refl _, by simp; omega, fun _ => by show now = _; omega, h0, by show now ≤ _; omega⟩
  ·have hqp : p = q := by
    by_cases hfj : f ≤ j ∧ j < n
    ·rw [if_pos hfj] at hq
     unfold Pst.upd at hq
     rw [if_neg (fun hd => hc ⟨hfj.1, hd⟩)] at hq;exact hq
    ·rw [if_neg hfj] at hq
     exact hq
   subst hqp
   refine ⟨t, ?_, h2, by omega, h4, h5, h6, by omega⟩
   rw [stampL_out]
   ·exact h1
   ·intro y hy he
    obtain ⟨g1, _, p', hp', hd'⟩ := sentL_mem L f now y n hy
    have ej : y.1 = j := by omega
    rw [ej, hp] at hp'
    cases hp'
    exact hc ⟨by omega, hd'⟩
def clrC (C : List Int) (a m : Nat) : List Int := C.mapIdx fun i t => if a < i ∧ i < m then 0 else t
theorem clrC_len (C : List Int) (a m : Nat) : (clrC C a m).length = C.length := by simp [clrC]
theorem clrC_get (C : List Int) (a m i : Nat) : (clrC C a m)[i]? = (C[i]?).map fun t => if a < i ∧ i < m then 0 else t := by simp [clrC]
theorem RepI.clear {L : List Pst} {C : List Int} {n : Nat} {now : Int} (h : RepI L C n now) (h0 : 0 ≤ now) (a : Nat) : RepI (clrL L a n) (clrC C a (n + 1)) n now := by
 refine ⟨by rw [clrL_len]; exact h.ll, by rw [clrC_len]; exact h.cl, fun j q hq => ?_⟩
 rw [clrL_get] at hq
 cases hp : L[j]? with
 | none => rw [hp] at hq; cases hq
 | some p =>
  rw [hp] at hq
  simp only [Option.map_some, Option.some.injEq] at hq
  have hj : j < n := by rw [← h.ll]; exact (List.getElem?_eq_some_iff.1 hp).1
  obtain ⟨t, h1, h2, h3, h4, h5, h6, h7⟩ := h.rel j p hp
  rw [clrC_get, h1]
  by_cases hc : a ≤ j
  ·rw [if_pos ⟨hc, hj⟩] at hq
   subst hq
   refine ⟨0, by simp only [Option.map_some]; rw [if_pos ⟨by omega, by omega⟩], Int.le_refl _, h0, by simp, fun h => absurd h (by omega), Int.le_refl _, h0⟩
  ·rw [if_neg (fun h => hc h.1)] at hq
   subst hq
   exact ⟨t, by simp only [Option.map_some]; rw [if_neg (fun h => hc (by omega))], h2, h3, h4, h5, h6, h7⟩
end Go.Proofs.YtjkiidhnmljmbaaGreatDoor
