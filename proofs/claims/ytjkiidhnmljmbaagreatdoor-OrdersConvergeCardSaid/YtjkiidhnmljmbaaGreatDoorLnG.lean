/- Orders: does: a tick. -/
import Derived.Deep.CutBlock
import Derived.Test.YtjkiidhnmljmbaaGreatDoorLnE
set_option linter.unusedVariables false
set_option linter.unusedSimpArgs false
set_option maxRecDepth 100000
set_option maxHeartbeats 8000000
namespace Go.Proofs.YtjkiidhnmljmbaaGreatDoor
open Go.RowKit
theorem geG {α : Type} (a : α) : ∃ x, a = x := ⟨a, rfl⟩
attribute [local go_sem] Oper.semAt_some
def tkR (L : List PG) (k : Nat) (now : Int) : List PG := if now < 0 then L else updG L (firstW k L.length) L.length now
def snR (L : List PG) (k : Nat) (now : Int) : List GP := if now < 0 then [] else sentG L (firstW k L.length) now L.length
theorem tkR_c (L : List PG) (k : Nat) (now : Int) : (tkR L k now).map PG.c = tkR (L.map PG.c) k now := by
 unfold tkR
 rw [List.length_map]
 split
 ·rfl
 ·rw [updG_c]
theorem snR_c (L : List PG) (k : Nat) (now : Int) : (snR L k now).map GP.c = snR (L.map PG.c) k now := by
 unfold snR
 rw [List.length_map]
 split
 ·rfl
 ·rw [sentG_c]
def PS.tk (s : PS) (now : Int) : PS := { s with R := tkR s.R s.k now, S := s.S ++ snR s.R s.k now, now := now }
theorem kp_tk (k : Int) {s : PS} {now : Int} (h0 : s.now - 9 ≤ now) (h1 : now ≤ s.now + 9) : Kp k s (s.tk now) := by
 by_cases hn : now < 0
 ·have e : s.tk now = s.idle now := by
   unfold PS.tk tkR snR PS.idle
   rw [if_pos hn, if_pos hn, List.append_nil]
  rw [e];exact kp_idle k h0 h1
 ·have e : s.tk now = s.tick now := by
   unfold PS.tk tkR snR PS.tick
   rw [if_neg hn, if_neg hn]
  rw [e]
  exact kp_tick k (by omega) h1
theorem gTick_neg (bs : Nat) (v0 v2 v3 : Value) (now : Int) (W : World) (hn : now < 0) (h : Blk W bs 118 [v0, .bool true, v2, v3]) : Calls Tryz.prog 20 #[.pointer (some ⟨bs, 0, none⟩), .int .i64 now] W fun e w' => e = .returned (.slice none 0 0) ∧ Below W.heap.size W w' := by
 obtain ⟨N, hN⟩ := geG W.heap.size
 obtain ⟨w1, hw1⟩ := geG (W.alloc (.cells #[.pointer (some ⟨bs, 0, none⟩)] 51))
 obtain ⟨w2, hw2⟩ := geG (w1.alloc (.cells #[.int .i64 now] 3))
 have hb1 : Below N W w1 := by rw [← hw1, ← hN]; exact (Below.refl _ W).alloc (Nat.le_refl _) _
 have k1 : Blk w1 N 51 [.pointer (some ⟨bs, 0, none⟩)] := by rw [← hw1, ← hN]; exact Blk.new W _ _
 have hz1 : w1.heap.size = N + 1 := by rw [← hw1, World.size_alloc, hN]
 have hb2 : Below (N + 1) w1 w2 := by rw [← hw2, ← hz1]; exact (Below.refl _ w1).alloc (Nat.le_refl _) _
 have k2 : Blk w2 (N + 1) 3 [.int .i64 now] := by rw [← hw2, ← hz1]; exact Blk.new w1 _ _
 have HB2 : Hid (Below N W w2) := hb1.trans (hb2.mono (by omega))
 have c0 := (k1.kept (hb2.block N (by omega))).cell 0
 have c1 := k2.cell 0
 simp only [List.getElem?_cons_zero] at c0 c1
 have HN := Lib.hid hN
 have q1 : now < 0 := hn
 clear hn
 have HLV := Lib.hid (slives_any bs _ _ _ w2 (h.kept (HB2.out.block bs (by rw [← hN]; exact h.lt))))
 clear hb1 k1 hb2 k2 h
 go_enter Tryz.func20, Tryz.ntmps20
 go_upto_region 1 with (fail)
 go_step3
 go_upto_region 1 with (fail)
 go_wp2_with fail
 refine HLV.out.mono ?_
 rintro e w' ⟨rfl, rfl⟩
 go_wp2_with fail
 rw [Exit.noGoto_ret];go_ret
 exact ⟨rfl, by first | exact HB2.out | (rw [HN.out]; exact HB2.out)⟩
section
variable {W : World} {B : Nat} {id : Int} {p : LP} {now : Int}
theorem LnM.tickP2 (h : LnM W B id p) (hk : p.kp ≤ p.P.length) (hL : p.P.length ≤ 200) (n1 : now ≤ 1000000000) (hat : ∀ q ∈ p.P, 0 ≤ q.at_ ∧ q.at_ ≤ 1000000000) :
  Calls Tryz.prog 20 #[.pointer (some ⟨p.bs, 0, none⟩), .int .i64 now] W fun e w' => ∃ (ob : Option Addr) (cap : Nat) (Ms : List GP) (col' : Nat → Nat), e = .returned (.slice ob Ms.length cap) ∧ RdX w' B W.heap.size ob (Ms.map (ordM id)) ∧ Fr (FoS p.bs p.vp p.P) W w' ∧ Nx W w' p.col col' ∧
   LnM w' B id { p with P := tkR p.P p.kp now, col := col' } ∧ Ms.map GP.c = (snR p.P p.kp now).map GP.c := by
 by_cases hn : now < 0
 ·have e1 : tkR p.P p.kp now = p.P := if_pos hn
  have e2 : snR p.P p.kp now = [] := if_pos hn
  rw [e1, e2]
  refine (gTick_neg p.bs _ _ _ now W hn h.sn.blk).mono ?_
  rintro e w' ⟨rfl, hb⟩
  exact ⟨none, 0, [], p.col, rfl, RdX.nil _ _ _ _, Fr.under _ hb, Nx.below hb, h.below hb, rfl⟩
 ·have e1 : tkR p.P p.kp now = updG p.P (firstW p.kp p.P.length) p.P.length now := if_neg hn
  have e2 : snR p.P p.kp now = sentG p.P (firstW p.kp p.P.length) now p.P.length := if_neg hn
  rw [e1, e2]
  exact h.tickP hk hL (by omega) n1 hat
theorem LnM.tickA2 (h : LnM W B id p) (hk : p.k ≤ p.R.length) (hL : p.R.length ≤ 200) (n1 : now ≤ 1000000000) (hat : ∀ q ∈ p.R, 0 ≤ q.at_ ∧ q.at_ ≤ 1000000000) (hsq : ∀ (j : Nat) q, p.R[j]? = some q → q.p.o.s = (j : Int) + 1) :
  Calls Tryz.prog 51 #[.pointer (some ⟨p.ba, 0, none⟩), .int .i64 now] W fun e w' => ∃ (ob : Option Addr) (cap : Nat) (col' : Nat → Nat), e = .returned (.slice ob (snR p.R p.k now).length cap) ∧ RdX w' B W.heap.size ob ((snR p.R p.k now).map (ordM id)) ∧ Fr (SaS p.ba p.vL p.vS) W w' ∧
   w'.ownsRow W.heap.size 32 31 (.slice ob (snR p.R p.k now).length cap) (snR p.R p.k now).length (gmCells id (snR p.R p.k now)) ∧ Nx W w' p.col col' ∧
   LnM w' B id { p with R := tkR p.R p.k now, col := col' } := by
 by_cases hn : now < 0
 ·have e1 : tkR p.R p.k now = p.R := if_pos hn
  have e2 : snR p.R p.k now = [] := if_pos hn
  rw [e1, e2]
  refine (refTick_no W p.ba id p.vL p.vS (p.R.map pOf) p.k (p.R.map tOf) now h.sa (by rw [List.length_map]; omega) (.inr hn)).mono ?_
  rintro e w' ⟨rfl, hb⟩;exact ⟨none, 0, p.col, rfl, RdX.nil _ _ _ _, Fr.under _ hb, World.ownsRow_nil _ _ _ _, Nx.below hb, h.below hb⟩
 ·have e1 : tkR p.R p.k now = updG p.R (firstW p.k p.R.length) p.R.length now := if_neg hn
  have e2 : snR p.R p.k now = sentG p.R (firstW p.k p.R.length) now p.R.length := if_neg hn
  rw [e1, e2]
  exact h.tickA hk hL (by omega) n1 hat hsq
theorem snR_sub {L : List PG} {k : Nat} {q : GP} (h : q ∈ snR L k now) : ∃ r ∈ L, r.p = q := by
 unfold snR at h
 split at h
 ·exact absurd h (by simp)
 ·exact sentG_sub _ _ _ _ _ h
theorem snR_len (L : List PG) (k : Nat) : (snR L k now).length ≤ L.length := by
 unfold snR
 split
 ·exact Nat.zero_le _
 ·exact sentG_len _ _ _ _
end
theorem does_tick (W : World) (B : Nat) (id : Int) (p : LP) (h : LnM W B id p) (he : LnE p) (y : StD) (hy : StO W B y) (n m : Nat) (hok : Ok n m p.s) (hn : n < 50) (hm : m ≤ 150) (h0 : 0 ≤ id) (h1 : id < 3) (hc : pickO y.yc 7 = 1) :
  Calls Tryz.prog 15 #[.pointer (some ⟨p.x, 0, none⟩), .agg y.l.toArray, .int .i64 id] W (DoesP W B id p 1) := by
 obtain ⟨N, hN⟩ := geG W.heap.size
 obtain ⟨w1, hw1⟩ := geG (W.alloc (.cells (aY y) 48))
 have hb1 : Below W.heap.size W w1 := by rw [← hw1]; exact (Below.refl _ W).alloc (Nat.le_refl _) _
 have hk1 : Blk w1 N 48 y.l := by rw [← hw1, ← hN]; exact Blk.new W _ y.l
 obtain ⟨p0, hl0, he0, hx0, hs0, hn0, hc0⟩ := does_start h he hb1
 have hy1 := hy.kept hb1
 rw [hN] at hc0
 have hok0 : Ok n m p0.s := by rw [hs0]; exact hok
 rw [← hx0];have HE := Lib.hid he0;have HX0 := Lib.hid hx0;have HS0 := Lib.hid hs0;have HN0 := Lib.hid hn0;have HC0 := Lib.hid hc0;have HOK := Lib.hid hok0
 have HNM : Hid (n < 50 ∧ m ≤ 150) := (⟨hn, hm⟩ : n < 50 ∧ m ≤ 150)
 have HID : Hid (0 ≤ id ∧ id < 3) := (⟨h0, h1⟩ : 0 ≤ id ∧ id < 3)
 have HY := Lib.hid hy1;have HCC := Lib.hid hc
 have HSM := szM
 have HSZ := szO
 have y0 : w1.cell? ⟨N, 0, none⟩ = some (.int .i64 y.yc) := hk1.cell 0
 have y1 : w1.cell? ⟨N, 1, none⟩ = some (.int .i64 y.ya) := hk1.cell 1
 have y2 : w1.cell? ⟨N, 2, none⟩ = some (.int .i64 y.yb) := hk1.cell 2
 have HK := Lib.hid hk1
 have HNN : Hid (p0.col N = 0) := hc0 N (Nat.le_refl _)
 have HL := Lib.hid hl0;have HBN := Lib.hid hN;rw [show y.l.toArray = (aY y) from by kernel_rfl];clear h he hy hb1 hk1 hl0 he0 hx0 hs0 hn0 hc0 hy1 hok hok0 hn hm h0 h1 hc
 go_enter Tryz.func15, Tryz.ntmps15
 go_wp2_with fail
 refine (pickO_any y.yc 7 _ HY.out.c.1 HY.out.c.2 (by decide) (by decide)).mono ?_
 rintro e w' ⟨rfl, rfl⟩;rw [HCC.out];clear hN hw1
 have HPL : Hid (p0.P.length ≤ 190 ∧ p0.kp ≤ p0.P.length) := (⟨by rw [HE.out.lenP]; have := HOK.out.R.1; have := HNM.out; omega, by rw [HE.out.lenP, HE.out.ek]; exact HOK.out.R.2.1⟩ : p0.P.length ≤ 190 ∧ p0.kp ≤ p0.P.length)
 have HRL : Hid (p0.R.length ≤ 190 ∧ p0.k ≤ p0.R.length) := (⟨by have := HOK.out.R.1; have := HNM.out; omega, HOK.out.R.2.1⟩ : p0.R.length ≤ 190 ∧ p0.k ≤ p0.R.length)
 obtain ⟨nw, hnw⟩ := geG p0.now
 have hlo := HOK.out.lo
 have hhi := HOK.out.hi
 have hlo : -450 ≤ nw := by rw [← hnw]; have := HNM.out; have h2 : -(9 * (n : Int)) ≤ p0.now := hlo; omega
 have hhi : nw ≤ 450 := by rw [← hnw]; have := HNM.out; have h2 : p0.now ≤ 9 * (n : Int) := hhi; omega
 obtain ⟨a9, ha9⟩ := geG (pickO y.ya 9)
 obtain ⟨b2, hb2⟩ := geG (pickO y.yb 2)
 have ra : 0 ≤ a9 ∧ a9 < 9 := by rw [← ha9]; exact pickO_bd _ _ (by decide)
 have rb : 0 ≤ b2 ∧ b2 < 2 := by rw [← hb2]; exact pickO_bd _ _ (by decide)
 obtain ⟨nx, hnx⟩ := geG (nw + a9 - b2)
 have hw1 : IntKind.i64.wrap (nw + a9) = nw + a9 := IntWalk.i64_in _ (by omega)
 have hw2 : IntKind.i64.wrap (nw + a9 - b2) = nx := by rw [IntWalk.i64_in _ (by omega)]; exact hnx
 have HNX : Hid (-500 ≤ nx ∧ nx ≤ 500 ∧ nw - 9 ≤ nx ∧ nx ≤ nw + 9) := (⟨by omega, by omega, by omega, by omega⟩ : -500 ≤ nx ∧ nx ≤ 500 ∧ nw - 9 ≤ nx ∧ nx ≤ nw + 9)
 have HA9 := Lib.hid ha9;have HB9 := Lib.hid hb2;have HNW := Lib.hid hnw;clear hlo hhi ha9 hb2 ra rb hnx hnw y0
 go_upto_region 10 with (fail)
 go_cut [] from 90 to 105 (fun wx => Hid (LnM wx B id { p0 with now := nx }) ∧ Hid (Nx w1 wx p0.col p0.col))
 case first =>
  refine wp_region_held_drew (S := fun W => W.cell? ⟨N, 1, none⟩ = some (.int .i64 y.ya) ∧ W.cell? ⟨N, 2, none⟩ = some (.int .i64 y.yb)) (by kernel_rfl) ?_ (fun hHeld => ?_)
  ·exact ⟨y1, y2⟩
  have hl10 := HL.out.below (Below.refl _ _).drew
  have HXZ : Hid (Nx w1 w1.drew p0.col p0.col) := Nx.below (Below.refl _ _).drew
  have hk10 := HK.out.drew
  generalize w1.drew = z at hl10 hk10 HXZ hHeld ⊢;clear HL HK;have HL := Lib.hid hl10
  have HKY : Hid (z.cell? ⟨N, 1, none⟩ = some (.int .i64 y.ya) ∧ z.cell? ⟨N, 2, none⟩ = some (.int .i64 y.yb)) := (⟨hk10.cell 1, hk10.cell 2⟩ : _ ∧ _)
  have HKT : Hid ((z.setCell ⟨p0.x, 4, none⟩ (.int .i64 nx)).cell? ⟨N, 1, none⟩ = some (.int .i64 y.ya) ∧ (z.setCell ⟨p0.x, 4, none⟩ (.int .i64 nx)).cell? ⟨N, 2, none⟩ = some (.int .i64 y.yb)) := by
   have h9 : p0.x ≠ N := fun e => by have h1 := (HL.out.cX _ (.inl rfl)).2.2; rw [e, HNN.out] at h1; cases h1
   have h8 := hk10.other ⟨p0.x, 4, none⟩ h9 (.int .i64 nx)
   exact ⟨h8.cell 1, h8.cell 2⟩
  clear hk10 hl10;refine tk 0 (some 90) ?_;refine tk 1 (some 91) ?_;refine tk 2 (some 92) ?_;refine tk 3 (some 93) ?_;refine tk 5 (some 95) ?_;refine tk 6 (some 96) ?_;refine tk 9 (some 99) ?_;refine tk 10 (some 100) ?_
  refine wpAnyH_ready (rs := [4, 7]) (by kernel_rfl) (by simp) (AllReadyH.cons (o := ⟨some 94, _, _, _, _, _⟩) rfl (fun K hK => ?_) (AllReadyH.cons (o := ⟨some 97, _, _, _, _, _⟩) rfl (fun K hK => ?_) AllReadyH.nil))
  ·have c4 : z.cell? ⟨p0.x, 4, none⟩ = some (.int .i64 nw) := by rw [← HNW.out]; exact HL.out.bx.cell 4
   go_simp;clear c4
   refine hK.out _ _ ?_ (fun hHeld2 => ?_)
   ·exact HKY.out
   clear hK K hHeld;rename _ => hHeld
   try simp only [Act.put, sa, sz, ss]
   refine rd1 7 (some 97) (fun K hK => ?_)
   go_simp
   refine (pickO_any y.ya 9 _ HY.out.a.1 HY.out.a.2 (by decide) (by decide)).mono ?_
   rintro e w9 ⟨rfl, rfl⟩;rw [HA9.out];go_simp
   refine hK.out _ _ ?_ (fun hHeld2 => ?_)
   ·exact HKY.out
   clear hK K hHeld;rename _ => hHeld;refine tk 8 (some 98) ?_
   refine rd1 11 (some 101) (fun K hK => ?_)
   go_simp
   refine (pickO_any y.yb 2 _ HY.out.b.1 HY.out.b.2 (by decide) (by decide)).mono ?_
   rintro e w9 ⟨rfl, rfl⟩;rw [HB9.out];go_simp
   refine hK.out _ _ ?_ (fun hHeld2 => ?_)
   ·exact HKY.out
   clear hK K hHeld;rename _ => hHeld;refine tk 12 (some 102) ?_;refine tk 13 (some 103) ?_;refine tk 14 (some 104) ?_
   refine rd1 15 none (fun K hK => ?_)
   have c4 : z.cell? ⟨p0.x, 4, none⟩ = some (.int .i64 nw) := by rw [← HNW.out]; exact HL.out.bx.cell 4
   have z4 := HL.out.bx.frozen 4
   go_simp;clear c4 z4
   refine hK.out _ _ ?_ (fun hHeld2 => ?_)
   ·exact HKT.out
   clear hK K hHeld;rename _ => hHeld
   try simp only [Act.put, sa, sz, ss]
   refine wpAnyH_done (by kernel_rfl) ?_ _;clear hHeld
   have HLn := Lib.hid (HL.out.upNow nx)
   have HXn : Hid (Nx w1 (z.setCell ⟨p0.x, 4, none⟩ (.int .i64 nx)) p0.col p0.col) := ⟨(HXZ.out.fr).setCell ⟨p0.x, 4, none⟩ _ (.inl (by rw [(HL.out.cX _ (.inl rfl)).2.2]; decide)), fun _ _ => rfl⟩
   clear HKT HKY HL HXZ hw1 hw2
   generalize World.setCell _ _ _ = z1 at HLn HXn ⊢
   go_wp2_with fail
   go_meet
   exact ⟨HLn, HXn⟩
  ·go_simp
   refine (pickO_any y.ya 9 _ HY.out.a.1 HY.out.a.2 (by decide) (by decide)).mono ?_
   rintro e w9 ⟨rfl, rfl⟩;rw [HA9.out];go_simp
   refine hK.out _ _ ?_ (fun hHeld2 => ?_)
   ·exact HKY.out
   clear hK K hHeld;rename _ => hHeld
   try simp only [Act.put, sa, sz, ss]
   refine wpAnyH_ready (rs := [4, 11]) (by kernel_rfl) (by simp) (AllReadyH.cons (o := ⟨some 94, _, _, _, _, _⟩) rfl (fun K hK => ?_) (AllReadyH.cons (o := ⟨some 101, _, _, _, _, _⟩) rfl (fun K hK => ?_) AllReadyH.nil))
   ·have c4 : z.cell? ⟨p0.x, 4, none⟩ = some (.int .i64 nw) := by rw [← HNW.out]; exact HL.out.bx.cell 4
    go_simp;clear c4
    refine hK.out _ _ ?_ (fun hHeld2 => ?_)
    ·exact HKY.out
    clear hK K hHeld;rename _ => hHeld;refine tk 8 (some 98) ?_
    refine rd1 11 (some 101) (fun K hK => ?_)
    go_simp
    refine (pickO_any y.yb 2 _ HY.out.b.1 HY.out.b.2 (by decide) (by decide)).mono ?_
    rintro e w9 ⟨rfl, rfl⟩;rw [HB9.out];go_simp
    refine hK.out _ _ ?_ (fun hHeld2 => ?_)
    ·exact HKY.out
    clear hK K hHeld;rename _ => hHeld;refine tk 12 (some 102) ?_;refine tk 13 (some 103) ?_;refine tk 14 (some 104) ?_
    refine rd1 15 none (fun K hK => ?_)
    have c4 : z.cell? ⟨p0.x, 4, none⟩ = some (.int .i64 nw) := by rw [← HNW.out]; exact HL.out.bx.cell 4
    have z4 := HL.out.bx.frozen 4
    go_simp;clear c4 z4
    refine hK.out _ _ ?_ (fun hHeld2 => ?_)
    ·exact HKT.out
    clear hK K hHeld;rename _ => hHeld
    try simp only [Act.put, sa, sz, ss]
    refine wpAnyH_done (by kernel_rfl) ?_ _;clear hHeld
    have HLn := Lib.hid (HL.out.upNow nx)
    have HXn : Hid (Nx w1 (z.setCell ⟨p0.x, 4, none⟩ (.int .i64 nx)) p0.col p0.col) := ⟨(HXZ.out.fr).setCell ⟨p0.x, 4, none⟩ _ (.inl (by rw [(HL.out.cX _ (.inl rfl)).2.2]; decide)), fun _ _ => rfl⟩
    clear HKT HKY HL HXZ hw1 hw2
    generalize World.setCell _ _ _ = z1 at HLn HXn ⊢
    go_wp2_with fail
    go_meet
    exact ⟨HLn, HXn⟩
   ·go_simp
    refine (pickO_any y.yb 2 _ HY.out.b.1 HY.out.b.2 (by decide) (by decide)).mono ?_
    rintro e w9 ⟨rfl, rfl⟩;rw [HB9.out];go_simp
    refine hK.out _ _ ?_ (fun hHeld2 => ?_)
    ·exact HKY.out
    clear hK K hHeld;rename _ => hHeld
    try simp only [Act.put, sa, sz, ss]
    refine rd1 4 (some 94) (fun K hK => ?_)
    have c4 : z.cell? ⟨p0.x, 4, none⟩ = some (.int .i64 nw) := by rw [← HNW.out]; exact HL.out.bx.cell 4
    go_simp;clear c4
    refine hK.out _ _ ?_ (fun hHeld2 => ?_)
    ·exact HKY.out
    clear hK K hHeld;rename _ => hHeld;refine tk 8 (some 98) ?_;refine tk 12 (some 102) ?_;refine tk 13 (some 103) ?_;refine tk 14 (some 104) ?_
    refine rd1 15 none (fun K hK => ?_)
    have c4 : z.cell? ⟨p0.x, 4, none⟩ = some (.int .i64 nw) := by rw [← HNW.out]; exact HL.out.bx.cell 4
    have z4 := HL.out.bx.frozen 4
    go_simp;clear c4 z4
    refine hK.out _ _ ?_ (fun hHeld2 => ?_)
    ·exact HKT.out
    clear hK K hHeld;rename _ => hHeld
    try simp only [Act.put, sa, sz, ss]
    refine wpAnyH_done (by kernel_rfl) ?_ _;clear hHeld
    have HLn := Lib.hid (HL.out.upNow nx)
    have HXn : Hid (Nx w1 (z.setCell ⟨p0.x, 4, none⟩ (.int .i64 nx)) p0.col p0.col) := ⟨(HXZ.out.fr).setCell ⟨p0.x, 4, none⟩ _ (.inl (by rw [(HL.out.cX _ (.inl rfl)).2.2]; decide)), fun _ _ => rfl⟩
    clear HKT HKY HL HXZ hw1 hw2
    generalize World.setCell _ _ _ = z1 at HLn HXn ⊢
    go_wp2_with fail
    go_meet
    exact ⟨HLn, HXn⟩
 case rest =>
  obtain ⟨HLn, HXn⟩ := hcut
  clear HL HK y1 y2 hw1 hw2
  go_upto_region 11 with (fail)
  have hla := HLn.out.below (Below.refl _ _).drew
  have HXa : Hid (Nx w1 wc.drew p0.col p0.col) := HXn.out.trans (Nx.below (Below.refl _ _).drew)
  clear HLn HXn
  refine wp_region_held_drew (S := fun W => W.cell? ⟨p0.x, 0, none⟩ = some (.pointer (some ⟨p0.bs, 0, none⟩)) ∧ W.cell? ⟨p0.x, 4, none⟩ = some (.int .i64 nx)) (by kernel_rfl) ?_ (fun hHeld => ?_)
  ·exact ⟨hla.bx.cell 0, hla.bx.cell 4⟩
  have HLa := Lib.hid hla;clear hla;generalize wc.drew = za at HLa HXa hHeld ⊢;refine tk 0 (some 105) ?_;refine tk 1 (some 106) ?_;refine tk 2 (some 107) ?_;refine tk 3 (some 108) ?_;refine tk 4 (some 109) ?_;refine tk 5 (some 110) ?_;refine tk 6 (some 111) ?_;refine tk 7 (some 112) ?_
  refine rd1 8 (some 113) (fun K hK => ?_)
  go_simp
  refine (LnM.tickP2 (now := nx) HLa.out HPL.out.2 (by have := HPL.out.1; show p0.P.length ≤ 200; omega) (by have := HNX.out; omega) (fun q hq => by have := HOK.out.P HE.out q hq; omega)).mono ?_
  rintro e v1 ⟨ob, cap, Ms, col1, rfl, hrx, hf, hnx, hl1, hc1⟩
  obtain ⟨n1, hn1⟩ := geG Ms.length
  rw [hn1];have HL1 := Lib.hid hl1;have HRX := Lib.hid hrx
  have HX1 := Lib.hid (HXa.out.trans hnx)
  have HC1 := Lib.hid hc1;have HN1 := Lib.hid hn1;clear hrx hf hnx hl1 hc1 hn1;go_simp
  refine hK.out _ _ ?_ (fun hHeld2 => ?_)
  ·exact ⟨HL1.out.bx.cell 0, HL1.out.bx.cell 4⟩
  clear hK K hHeld;rename _ => hHeld;refine tk 9 (some 8) ?_;refine wpAnyH_done (by kernel_rfl) ?_ _;clear hHeld
  go_upto_region 12 with (fail)
  have hlb := HL1.out.below (Below.refl _ _).drew
  have HXb : Hid (Nx w1 v1.drew p0.col col1) := HX1.out.trans (Nx.below (Below.refl _ _).drew)
  have hrb := HRX.out.below (Below.refl _ _).drew
  refine wp_region_held_drew (S := fun W => W.cell? ⟨p0.x, 2, none⟩ = some (.pointer (some ⟨p0.ba, 0, none⟩)) ∧ W.cell? ⟨p0.x, 4, none⟩ = some (.int .i64 nx)) (by kernel_rfl) ?_ (fun hHeld => ?_)
  ·exact ⟨hlb.bx.cell 2, hlb.bx.cell 4⟩
  have HLb := Lib.hid hlb;have HRB := Lib.hid hrb;clear hlb hrb HL1 HRX HX1;generalize v1.drew = zb at HLb HRB HXb hHeld ⊢;refine tk 0 (some 114) ?_;refine tk 1 (some 115) ?_;refine tk 2 (some 116) ?_;refine tk 3 (some 117) ?_;refine tk 4 (some 118) ?_;refine tk 5 (some 119) ?_
  refine tk 6 (some 120) ?_;refine tk 7 (some 121) ?_
  refine rd1 8 (some 122) (fun K hK => ?_)
  go_simp
  refine (LnM.tickA2 (now := nx) HLb.out HRL.out.2 (by have := HRL.out.1; show p0.R.length ≤ 200; omega) (by have := HNX.out; omega) (fun q hq => by obtain ⟨j, hj⟩ := List.mem_iff_getElem?.1 hq; have := (HOK.out.R.2.2.2.2 j q hj).2; omega) (fun j q hq => (HOK.out.R.2.2.2.2 j q hq).1)).mono ?_
  rintro e v2 ⟨ok, cap2, col2, rfl, hrx, hf, ho2, hnx, hl2⟩
  have hb2 : ∀ c, SaS p0.ba p0.vL p0.vS c → B ≤ c ∧ c < za.heap.size := fun c e => ⟨(HLa.out.cA c e).1, (HLa.out.cA c e).2.1⟩
  have HRX2 := Lib.hid (HRB.out.turn hf hb2)
  obtain ⟨T2, hT2⟩ := geG (snR p0.R p0.k nx)
  have hrx : RdX v2 B zb.heap.size ok (T2.map (ordM id)) := by rw [← hT2]; exact hrx
  have ho2 : v2.ownsRow zb.heap.size 32 31 (.slice ok T2.length cap2) T2.length (gmCells id T2) := by rw [← hT2]; exact ho2
  rw [show (snR ({ p0 with now := nx, P := tkR p0.P p0.kp nx, col := col1 } : LP).R ({ p0 with now := nx, P := tkR p0.P p0.kp nx, col := col1 } : LP).k nx) = T2 from hT2]
  obtain ⟨n2, hn2⟩ := geG T2.length
  rw [hn2];have HL2 := Lib.hid hl2;have HRK := Lib.hid hrx;have HOW := Lib.hid ho2
  have HX2 := Lib.hid (HXb.out.trans hnx)
  have HT2 := Lib.hid hT2;have HN2 := Lib.hid hn2;clear hrx hf ho2 hnx hl2 hT2 hn2 hb2;go_simp
  refine hK.out _ _ ?_ (fun hHeld2 => ?_)
  ·exact ⟨HL2.out.bx.cell 2, HL2.out.bx.cell 4⟩
  clear hK K hHeld;rename _ => hHeld;refine tk 9 (some 9) ?_;refine wpAnyH_done (by kernel_rfl) ?_ _;clear hHeld
  have hlen : n1 = n2 := by
   have h1 := congrArg List.length HC1.out
   have h2 := congrArg List.length (snR_c p0.P p0.kp nx)
   have h3 := congrArg List.length (snR_c p0.R p0.k nx)
   rw [List.length_map, List.length_map] at h1;rw [List.length_map] at h2 h3;rw [HE.out.eP, HE.out.ek, ← h3] at h2
   have h4 := HN1.out
   have h5 := HN2.out
   have h6 := congrArg List.length HT2.out
   have h7 : Ms.length = (snR p0.P p0.kp nx).length := h1
   rw [HE.out.ek] at h7
   omega
  subst hlen
  obtain ⟨oS, cS, hv⟩ := own_slice HL2.out.os
  have hv : p0.vs = .slice oS p0.S.length cS := hv
  obtain ⟨nS, hnS⟩ := geG p0.S.length
  have hlS : nS ≤ 10000 := by rw [← hnS]; have := HOK.out.R.2.2.2.1; have := HNM.out; omega
  have hlT : T2.length ≤ 200 := by rw [← HT2.out]; have h1 := snR_len (now := nx) p0.R p0.k; have := HRL.out; omega
  obtain ⟨oq, capq, v3, hrun, ho3, hf3, hn3⟩ := app_gms v2 0 zb.heap.size id p0.vs ok cap2 p0.S T2 HL2.out.os HOW.out (by omega) (Nat.zero_le _) 55
  have c5 : v2.cell? ⟨p0.x, 5, none⟩ = some (.slice oS nS cS) := by
   have h1 := HL2.out.bx.cell 5
   rw [← hnS, ← hv];exact h1
  have hlow : ∀ q ∈ p0.S ++ T2, LowA v2 B q := fun q hq => by
   rcases List.mem_append.1 hq with hq | hq
   ·exact HL2.out.aS q hq
   ·rw [← HT2.out] at hq
    obtain ⟨r, hr, e⟩ := snR_sub hq
    rw [← e]
    obtain ⟨r2, hr2, e2⟩ : ∃ r2 ∈ tkR p0.R p0.k nx, r2.p = r.p := by
     unfold tkR
     split
     ·exact ⟨r, hr, rfl⟩
     ·obtain ⟨j, hj⟩ := List.mem_iff_getElem?.1 hr
      refine ⟨(if firstW p0.k p0.R.length ≤ j ∧ j < p0.R.length then r.upd nx else r), ?_, ?_⟩
      ·refine List.mem_iff_getElem?.2 ⟨j, ?_⟩
       rw [updG_get, hj]
       rfl
      ·split
       ·exact upd_p r nx
       ·rfl
    rw [← e2];exact HL2.out.aR r2 hr2
  have hl3 := HL2.out.upSent ho3 hf3 hn3 hlow
  have hx3 : Nx v2 (v3.setCell ⟨p0.x, 5, none⟩ (.slice oq (p0.S ++ T2).length capq)) col2 (LP.grow { p0 with now := nx, P := tkR p0.P p0.kp nx, R := tkR p0.R p0.k nx, col := col2 } v2.heap.size 5) := ⟨(hf3.mono (fun c e => by rw [show col2 c = 5 from (HL2.out.cX c (.inr e)).2.2]; decide)).setCell ⟨p0.x, 5, none⟩ _ (.inl (by show col2 p0.x ≠ 0; rw [show col2 p0.x = 5 from (HL2.out.cX _ (.inl rfl)).2.2]; decide)), fun c hc => grow_old hc⟩
  have hfx : Fr (fun c => FoX p0.x p0.vs c) v2 (v3.setCell ⟨p0.x, 5, none⟩ (.slice oq (p0.S ++ T2).length capq)) := (hf3.mono (fun c e => Or.inr e)).setCell ⟨p0.x, 5, none⟩ _ (.inl (.inl rfl))
  have hr1 := HRX2.out.turn hfx (fun c e => ⟨(HLa.out.cX c e).1, (HLa.out.cX c e).2.1⟩)
  have hr2 := HRK.out.turn hfx (fun c e => ⟨(HLb.out.cX c e).1, (HLb.out.cX c e).2.1⟩)
  have z5 : v3.frozen? ⟨p0.x, 5, none⟩ = false := (HL2.out.bx.kept (hf3.block _ HL2.out.bx.lt (fun e => HL2.out.xv _ e rfl))).frozen 5
  have d5 : v3.cell? ⟨p0.x, 5, none⟩ = some (.slice oS nS cS) := by
   have h1 := (HL2.out.bx.kept (hf3.block _ HL2.out.bx.lt (fun e => HL2.out.xv _ e rfl))).cell 5
   rw [← hnS, ← hv];exact h1
  have hc12 : (Ms.map (ordM id)).map MP.c = (T2.map (ordM id)).map MP.c := by
   refine ordM_c id Ms T2 ?_
   rw [HC1.out, snR_c]
   show snR (p0.P.map PG.c) p0.kp nx = _
   rw [← HT2.out, snR_c, HE.out.eP, HE.out.ek]
  have he3 : LnE { p0 with now := nx, P := tkR p0.P p0.kp nx, R := tkR p0.R p0.k nx, vs := .slice oq (p0.S ++ T2).length capq, S := p0.S ++ T2, col := LP.grow { p0 with now := nx, P := tkR p0.P p0.kp nx, R := tkR p0.R p0.k nx, col := col2 } v2.heap.size 5 } := ⟨by show (tkR p0.P p0.kp nx).map PG.c = (tkR p0.R p0.k nx).map PG.c; rw [tkR_c, tkR_c, HE.out.eP, HE.out.ek], HE.out.ek, HE.out.el, HE.out.eE⟩
  have hs3 : LP.s { p0 with now := nx, P := tkR p0.P p0.kp nx, R := tkR p0.R p0.k nx, vs := .slice oq (p0.S ++ T2).length capq, S := p0.S ++ T2, col := LP.grow { p0 with now := nx, P := tkR p0.P p0.kp nx, R := tkR p0.R p0.k nx, col := col2 } v2.heap.size 5 } = p0.s.tk nx := by
   show (⟨(tkR p0.R p0.k nx).map PG.c, p0.k, p0.l2.map GP.c, (p0.E2.map ke).map ec, (p0.S ++ T2).map GP.c, nx⟩ : PS) = _
   rw [List.map_append, ← HT2.out, tkR_c, snR_c]
   rfl
  obtain ⟨v4, hv4⟩ := geG (v3.setCell ⟨p0.x, 5, none⟩ (.slice oq (p0.S ++ T2).length capq))
  rw [hv4] at hl3 hx3 hr1 hr2
  have HEND := Lib.hid (fun (y9 : World) (hb9 : Below v4.heap.size v4 y9) => does_end (k := 1) HX0.out HS0.out HN0.out (hl3.below hb9) he3 rfl ((HX2.out.trans hx3).trans (Nx.below hb9)) (by rw [hs3]; exact kp_tk 1 (by show p0.now - 9 ≤ nx; rw [HNW.out]; exact HNX.out.2.2.1) (by show nx ≤ p0.now + 9; rw [HNW.out]; exact HNX.out.2.2.2)))
  rw [hv, hnS, HN2.out] at hrun
  obtain ⟨n4, hn4⟩ := geG ((p0.S ++ T2).length)
  rw [hn4] at hrun hv4;have HR1 := Lib.hid hr1;have HR2 := Lib.hid hr2;have HC12 := Lib.hid hc12;have HRUN := Lib.hid hrun
  have HLT : Hid (n1 ≤ 1000000) := (by have := HN2.out; omega : n1 ≤ 1000000)
  clear hl3 hx3 hr1 hr2 hc12 he3 hs3 hfx hlow ho3 hf3 hn3 hn4 hv hnS hlS hlT HL2 HRK HOW HX2 HLa HLb HXa HXb HRX2
  go_wp2_with (at_builtin; refine wpList_append_run _ rfl _ _ 55 rfl _ _ _ _ rfl rfl hrun ?_; clear hrun)
  refine (same_msgs (by rw [List.length_map]; exact HN1.out) (by rw [List.length_map]; exact HN2.out) HLT.out HR1.out.rd HR2.out.rd HC12.out).mono ?_
  rintro e v5 ⟨rfl, hb5⟩
  have HEND2 := Lib.hid (HEND.out v5 hb5)
  clear hb5
  go_wp2_with fail
  go_ret;exact HEND2.out
end Go.Proofs.YtjkiidhnmljmbaaGreatDoor
