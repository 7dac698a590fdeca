/- Orders: does: an acknowledgment, a new receiver, an arbitrary message. -/
import Derived.Deep.CutBlock
import Derived.Test.YtjkiidhnmljmbaaGreatDoorLnD
set_option linter.unusedVariables false
set_option linter.unusedSimpArgs false
set_option maxRecDepth 100000
set_option maxHeartbeats 8000000
namespace Go.Proofs.YtjkiidhnmljmbaaGreatDoor
open Go.RowKit
abbrev lY (y : StD) : List Value := [.int .i64 y.yc, .int .i64 y.ya, .int .i64 y.yb, .int .i64 y.o.s, .int .i64 y.o.ch, .int .i64 y.o.f, .int .i64 y.o.k, .int .i64 y.o.e, .int .i64 y.o.n, .int .i64 y.o.nid, .int .i64 y.o.item, .int .i64 y.o.frs, .int .i64 y.o.ear, .int .i64 y.o.lat, .int .i64 y.o.book, .slice y.o.ao y.o.an y.o.ac, .int .i64 y.o.cl.kind, .int .i64 y.o.cl.item, .int .i64 y.o.cl.frm, .int .i64 y.o.cl.til, .int .i64 y.o.cl.regs, .int .i64 y.o.cl.n, .int .i64 y.o.cl.a, .int .i64 y.o.cl.b, .int .i64 y.o.qid, .int .i64 y.o.qf, .int .i64 y.o.qt, .int .i64 y.o.qp, .string y.o.txt, .int .i64 y.m.kd, .int .i64 y.m.tn, .int .i64 y.m.sq, .int .i64 y.m.fr, .int .i64 y.m.n, .int .i64 y.m.o.s, .int .i64 y.m.o.ch, .int .i64 y.m.o.f, .int .i64 y.m.o.k, .int .i64 y.m.o.e, .int .i64 y.m.o.n, .int .i64 y.m.o.nid, .int .i64 y.m.o.item, .int .i64 y.m.o.frs, .int .i64 y.m.o.ear, .int .i64 y.m.o.lat, .int .i64 y.m.o.book, .slice y.m.o.ao y.m.o.an y.m.o.ac, .int .i64 y.m.o.cl.kind, .int .i64 y.m.o.cl.item, .int .i64 y.m.o.cl.frm, .int .i64 y.m.o.cl.til, .int .i64 y.m.o.cl.regs, .int .i64 y.m.o.cl.n, .int .i64 y.m.o.cl.a, .int .i64 y.m.o.cl.b, .int .i64 y.m.o.qid, .int .i64 y.m.o.qf, .int .i64 y.m.o.qt, .int .i64 y.m.o.qp, .string y.m.o.txt]
abbrev aY (y : StD) : Array Value := #[.int .i64 y.yc, .int .i64 y.ya, .int .i64 y.yb, .int .i64 y.o.s, .int .i64 y.o.ch, .int .i64 y.o.f, .int .i64 y.o.k, .int .i64 y.o.e, .int .i64 y.o.n, .int .i64 y.o.nid, .int .i64 y.o.item, .int .i64 y.o.frs, .int .i64 y.o.ear, .int .i64 y.o.lat, .int .i64 y.o.book, .slice y.o.ao y.o.an y.o.ac, .int .i64 y.o.cl.kind, .int .i64 y.o.cl.item, .int .i64 y.o.cl.frm, .int .i64 y.o.cl.til, .int .i64 y.o.cl.regs, .int .i64 y.o.cl.n, .int .i64 y.o.cl.a, .int .i64 y.o.cl.b, .int .i64 y.o.qid, .int .i64 y.o.qf, .int .i64 y.o.qt, .int .i64 y.o.qp, .string y.o.txt, .int .i64 y.m.kd, .int .i64 y.m.tn, .int .i64 y.m.sq, .int .i64 y.m.fr, .int .i64 y.m.n, .int .i64 y.m.o.s, .int .i64 y.m.o.ch, .int .i64 y.m.o.f, .int .i64 y.m.o.k, .int .i64 y.m.o.e, .int .i64 y.m.o.n, .int .i64 y.m.o.nid, .int .i64 y.m.o.item, .int .i64 y.m.o.frs, .int .i64 y.m.o.ear, .int .i64 y.m.o.lat, .int .i64 y.m.o.book, .slice y.m.o.ao y.m.o.an y.m.o.ac, .int .i64 y.m.o.cl.kind, .int .i64 y.m.o.cl.item, .int .i64 y.m.o.cl.frm, .int .i64 y.m.o.cl.til, .int .i64 y.m.o.cl.regs, .int .i64 y.m.o.cl.n, .int .i64 y.m.o.cl.a, .int .i64 y.m.o.cl.b, .int .i64 y.m.o.qid, .int .i64 y.m.o.qf, .int .i64 y.m.o.qt, .int .i64 y.m.o.qp, .string y.m.o.txt]
attribute [local go_sem] Oper.semAt_some
theorem StO.kept {W W' : World} {B : Nat} {y : StD} (h : StO W B y) (hb : Below W.heap.size W W') : StO W' B y :=
 ⟨h.c, h.a, h.b, h.ol, h.oc, h.om, h.or.kept hb, h.ot, h.ow, h.ml, h.mc, h.mm, h.mr.kept hb, h.mt, h.mw⟩
theorem Blk.part29 {W : World} {N : Nat} {y : StD} (h : Blk W N 48 y.l) : W.rangeAt N 29 y.m.l := fun j v hj => by
 have := h.range (29 + j) v (by
  have e : y.l = ([.int .i64 y.yc, .int .i64 y.ya, .int .i64 y.yb] ++ y.o.l) ++ y.m.l := rfl
  rw [e, List.getElem?_append_right (by rw [List.length_append, GOd.len]; simp)]
  rw [List.length_append, GOd.len]
  simpa using hj)
 rw [Nat.zero_add] at this;exact this
theorem Blk.part3 {W : World} {N : Nat} {y : StD} (h : Blk W N 48 y.l) : W.rangeAt N 3 y.o.l := fun j v hj => by
 have hl := (List.getElem?_eq_some_iff.1 hj).1
 have := h.range (3 + j) v (by
  have e : y.l = [.int .i64 y.yc, .int .i64 y.ya, .int .i64 y.yb] ++ (y.o.l ++ y.m.l) := rfl
  rw [e, List.getElem?_append_right (by simp)];rw [List.getElem?_append_left (by simpa using hl)]
  simpa using hj)
 rw [Nat.zero_add] at this;exact this
def DoesP (W : World) (B : Nat) (id : Int) (p : LP) (k : Int) (e : Ending) (w' : World) : Prop := e = .returned (.bool true) ∧ ∃ p', LnM w' B id p' ∧ LnE p' ∧ p'.x = p.x ∧ Nx W w' p.col p'.col ∧ Kp k p.s p'.s
theorem does_start {W w1 : World} {B : Nat} {id : Int} {p : LP} (h : LnM W B id p) (he : LnE p) (hb : Below W.heap.size W w1) : ∃ p0 : LP, LnM w1 B id p0 ∧ LnE p0 ∧ p0.x = p.x ∧ p0.s = p.s ∧ Nx W w1 p.col p0.col ∧ ∀ c, W.heap.size ≤ c → p0.col c = 0 :=
 ⟨{ p with col := p.grow W.heap.size 0 }, h.norm.below hb, ⟨he.eP, he.ek, he.el, he.eE⟩, rfl, rfl, ⟨Fr.under _ hb, fun c hc => grow_old hc⟩, fun c hc => grow_new hc⟩
theorem does_end {W w1 w' : World} {B : Nat} {id k : Int} {p p0 p' : LP} (hx : p0.x = p.x) (hs : p0.s = p.s) (hn : Nx W w1 p.col p0.col) (hl : LnM w' B id p') (he : LnE p') (hx' : p'.x = p0.x) (hn' : Nx w1 w' p0.col p'.col) (hk : Kp k p0.s p'.s) : DoesP W B id p k (.returned (.bool true)) w' :=
 ⟨rfl, p', hl, he, hx'.trans hx, hn.trans hn', hs ▸ hk⟩
theorem does_ack (W : World) (B : Nat) (id : Int) (p : LP) (h : LnM W B id p) (he : LnE p) (y : StD) (hy : StO W B y) (n m : Nat) (hok : Ok n m p.s) (hn : n < 50) (hm : m ≤ 150) (h0 : 0 ≤ id) (h1 : id < 3) (hc : pickO y.yc 7 = 4) :
  Calls Tryz.prog 15 #[.pointer (some ⟨p.x, 0, none⟩), .agg y.l.toArray, .int .i64 id] W (DoesP W B id p 4) := by
 obtain ⟨N, hN⟩ : ∃ N, W.heap.size = N := ⟨_, rfl⟩
 obtain ⟨w1, hw1⟩ : ∃ w1, W.alloc (.cells (aY y) 48) = w1 := ⟨_, rfl⟩
 have hb1 : Below W.heap.size W w1 := by rw [← hw1]; exact (Below.refl _ W).alloc (Nat.le_refl _) _
 have hk1 : Blk w1 N 48 y.l := by rw [← hw1, ← hN]; exact Blk.new W _ y.l
 obtain ⟨p0, hl0, he0, hx0, hs0, hn0, hc0⟩ := does_start h he hb1
 have hy1 := hy.kept hb1
 rw [hN] at hc0
 have hok0 : Ok n m p0.s := by rw [hs0]; exact hok
 rw [← hx0];have HE := Lib.hid he0;have HX0 := Lib.hid hx0;have HS0 := Lib.hid hs0;have HN0 := Lib.hid hn0;have HC0 := Lib.hid hc0;have HOK := Lib.hid hok0
 have HNM : Hid (n < 50 ∧ m ≤ 150) := (⟨hn, hm⟩ : n < 50 ∧ m ≤ 150)
 have HID : Hid (0 ≤ id ∧ id < 3) := (⟨h0, h1⟩ : 0 ≤ id ∧ id < 3)
 have HY := Lib.hid hy1;have HCC := Lib.hid hc
 have HSM := szM
 have HSZ := szO
 have y0 : w1.cell? ⟨N, 0, none⟩ = some (.int .i64 y.yc) := hk1.cell 0
 have y1 : w1.cell? ⟨N, 1, none⟩ = some (.int .i64 y.ya) := hk1.cell 1
 have y2 : w1.cell? ⟨N, 2, none⟩ = some (.int .i64 y.yb) := hk1.cell 2
 have HK := Lib.hid hk1
 have HNN : Hid (p0.col N = 0) := hc0 N (Nat.le_refl _)
 have HL := Lib.hid hl0;have HBN := Lib.hid hN;rw [show y.l.toArray = (aY y) from by kernel_rfl];clear h he hy hb1 hk1 hl0 he0 hx0 hs0 hn0 hc0 hy1 hok hok0 hn hm h0 h1 hc
 go_enter Tryz.func15, Tryz.ntmps15
 go_wp2_with fail
 refine (pickO_any y.yc 7 _ HY.out.c.1 HY.out.c.2 (by decide) (by decide)).mono ?_
 rintro e w' ⟨rfl, rfl⟩;rw [HCC.out];clear hN hw1
 have HPL : Hid (p0.P.length ≤ 190 ∧ p0.kp ≤ p0.P.length) := (⟨by rw [HE.out.lenP]; have := HOK.out.R.1; have := HNM.out; omega, by rw [HE.out.lenP, HE.out.ek]; exact HOK.out.R.2.1⟩ : p0.P.length ≤ 190 ∧ p0.kp ≤ p0.P.length)
 have HRL : Hid (p0.R.length ≤ 190 ∧ p0.k ≤ p0.R.length) := (⟨by have := HOK.out.R.1; have := HNM.out; omega, HOK.out.R.2.1⟩ : p0.R.length ≤ 190 ∧ p0.k ≤ p0.R.length)
 obtain ⟨L, hL⟩ : ∃ L, w1.heap.size = L := ⟨_, rfl⟩
 obtain ⟨w2, hw2⟩ : ∃ w2, w1.alloc (.cells aZm 32) = w2 := ⟨_, rfl⟩
 have hb2 : Below w1.heap.size w1 w2 := by rw [← hw2]; exact (Below.refl _ w1).alloc (Nat.le_refl _) _
 have hk2 : Blk w2 L 32 lZm := by rw [← hw2, ← hL]; exact Blk.new w1 _ _
 obtain ⟨z, hz⟩ : ∃ z, w2.setRow L (aA id y.ya) = z := ⟨_, rfl⟩
 have hkz : Blk z L 32 (MOd.mk 2 id y.ya 0 0 zG.o).l := by rw [← hz]; exact hk2.setRow (lA id y.ya)
 have hbz : Below w1.heap.size w1 z := by rw [← hz]; exact below_setRow hb2 (by omega) _
 have HLz := Lib.hid (HL.out.below hbz)
 have HKz := Lib.hid hkz
 have HXz : Hid (Nx w1 z p0.col p0.col) := Nx.below hbz
 have HLz0 : Hid (p0.col L = 0) := HC0.out L (by have := HK.out.lt; omega)
 have HK2 := Lib.hid hk2;have HZ := Lib.hid hz
 have HO1 : Hid ((aA id y.ya).all (·.oneCell') = true) := (by first | rfl | simp [Value.oneCell'] : (aA id y.ya).all (·.oneCell') = true)
 have HO2 : Hid (aZm.size = (aA id y.ya).size) := rfl
 clear hb2 hk2 hz hkz hbz
 go_upto_region 25 with (refine wpList_store_row rfl 32 (.tmp 13) (.tmp 187) rfl L (aA id y.ya) rfl rfl 32 _ HK2.out HSM.out HO2.out HO1.out ?_; rw [HZ.out])
 clear hL hw2 HK2 HZ HO1 HO2 y0 y1 y2 HL HK
 go_upto_region 25 with (fail)
 have hla := HLz.out.below (Below.refl _ _).drew
 have hka := HKz.out.drew
 have HXa : Hid (Nx w1 z.drew p0.col p0.col) := HXz.out.trans (Nx.below (Below.refl _ _).drew)
 refine wp_region_held_drew (S := fun W => W.cell? ⟨p0.x, 0, none⟩ = some (.pointer (some ⟨p0.bs, 0, none⟩)) ∧ W.rangeAt L 0 (MOd.mk 2 id y.ya 0 0 zG.o).l) (by kernel_rfl) ?_ (fun hHeld => ?_)
 ·exact ⟨hla.bx.cell 0, hka.range⟩
 have HLa := Lib.hid hla;have HKa := Lib.hid hka
 have HLa0 := HLz0
 clear hla hka;generalize z.drew = za at HLa HKa HXa hHeld ⊢;refine tk 0 (some 188) ?_;refine tk 1 (some 189) ?_;refine tk 2 (some 190) ?_;refine tk 3 (some 191) ?_
 refine tkL 4 (some 192) 32 (.tmp 13) L 0 (MOd.mk 2 id y.ya 0 0 zG.o).l (fun _ h => h.2) Tryz.underlying32 HSM.out ?_
 refine rd1 5 (some 193) (fun K hK => ?_)
 go_simp
 refine (LnM.ackP HLa.out (mo := MOd.mk 2 id y.ya 0 0 zG.o) (al := []) rfl (Nat.zero_le _) (.inl rfl) (Nat.zero_le _) (by have := HPL.out.1; omega) HPL.out.2).mono ?_
 rintro e v1 ⟨⟨u1, rfl⟩, hf, col3, hnx3, hl3⟩;have HL3 := Lib.hid hl3
 have HX3 := Lib.hid (HXa.out.trans hnx3)
 have HK3 := Lib.hid (HKa.out.kept (hnx3.fr.block L HKa.out.lt (fun e => e HLa0.out)))
 have HCL3 : Hid (col3 L = 0) := (hnx3.co L HKa.out.lt).trans HLa0.out
 clear hl3 hf hnx3;go_simp
 refine hK.out _ _ ?_ (fun hHeld2 => ?_)
 ·exact ⟨HL3.out.bx.cell 0, HK3.out.range⟩
 clear hK K hHeld;rename _ => hHeld
 try simp only [Act.put, sa, sz, ss]
 refine wpAnyH_done (by kernel_rfl) ?_ _;clear hHeld
 go_upto_region 26 with (fail)
 have hlb := HL3.out.below (Below.refl _ _).drew
 have hkb := HK3.out.drew
 have HXb : Hid (Nx w1 v1.drew p0.col col3) := HX3.out.trans (Nx.below (Below.refl _ _).drew)
 refine wp_region_held_drew (S := fun W => W.cell? ⟨p0.x, 2, none⟩ = some (.pointer (some ⟨p0.ba, 0, none⟩)) ∧ W.rangeAt L 0 (MOd.mk 2 id y.ya 0 0 zG.o).l) (by kernel_rfl) ?_ (fun hHeld => ?_)
 ·exact ⟨hlb.bx.cell 2, hkb.range⟩
 have HLb := Lib.hid hlb;have HKb := Lib.hid hkb
 have HLb0 := HCL3
 clear hlb hkb;generalize v1.drew = zb at HLb HKb HXb hHeld ⊢;refine tk 0 (some 194) ?_;refine tk 1 (some 195) ?_;refine tk 2 (some 196) ?_;refine tk 3 (some 197) ?_
 refine tkL 4 (some 198) 32 (.tmp 13) L 0 (MOd.mk 2 id y.ya 0 0 zG.o).l (fun _ h => h.2) Tryz.underlying32 HSM.out ?_
 refine rd1 5 (some 199) (fun K hK => ?_)
 go_simp
 refine (LnM.ackA HLb.out (mo := MOd.mk 2 id y.ya 0 0 zG.o) (al := []) rfl (Nat.zero_le _) (.inl rfl) (Nat.zero_le _) (by have := HRL.out.1; show p0.R.length ≤ 200; omega) HRL.out.2).mono ?_
 rintro e v2 ⟨⟨u2, rfl⟩, hf, col4, hnx4, hl4⟩;have HL4 := Lib.hid hl4
 have HX4 := Lib.hid (HXb.out.trans hnx4)
 have HK4 := Lib.hid (HKb.out.kept (hnx4.fr.block L HKb.out.lt (fun e => e HLb0.out)))
 have HCL4 : Hid (col4 L = 0) := (hnx4.co L HKb.out.lt).trans HLb0.out
 clear hl4 hf hnx4;go_simp
 refine hK.out _ _ ?_ (fun hHeld2 => ?_)
 ·exact ⟨HL4.out.bx.cell 2, HK4.out.range⟩
 clear hK K hHeld;rename _ => hHeld
 try simp only [Act.put, sa, sz, ss]
 refine wpAnyH_done (by kernel_rfl) ?_ _;clear hHeld
 have hb := msg_both (id := id) (mo := MOd.mk 2 id y.ya 0 0 zG.o) (al := []) (c1 := col4) HE.out
 have HEND := Lib.hid (does_end (k := 4) HX0.out HS0.out HN0.out HL4.out hb.1 rfl HX4.out (by rw [hb.2]; exact kp_msg 4))
 clear hb
 go_wp2_with fail
 go_ret;exact HEND.out
theorem does_fresh (W : World) (B : Nat) (id : Int) (p : LP) (h : LnM W B id p) (he : LnE p) (y : StD) (hy : StO W B y) (n m : Nat) (hok : Ok n m p.s) (hn : n < 50) (hm : m ≤ 150) (h0 : 0 ≤ id) (h1 : id < 3) (hc : pickO y.yc 7 = 5) :
  Calls Tryz.prog 15 #[.pointer (some ⟨p.x, 0, none⟩), .agg y.l.toArray, .int .i64 id] W (DoesP W B id p 5) := by
 obtain ⟨N, hN⟩ : ∃ N, W.heap.size = N := ⟨_, rfl⟩
 obtain ⟨w1, hw1⟩ : ∃ w1, W.alloc (.cells (aY y) 48) = w1 := ⟨_, rfl⟩
 have hb1 : Below W.heap.size W w1 := by rw [← hw1]; exact (Below.refl _ W).alloc (Nat.le_refl _) _
 have hk1 : Blk w1 N 48 y.l := by rw [← hw1, ← hN]; exact Blk.new W _ y.l
 obtain ⟨p0, hl0, he0, hx0, hs0, hn0, hc0⟩ := does_start h he hb1
 have hy1 := hy.kept hb1
 rw [hN] at hc0
 have hok0 : Ok n m p0.s := by rw [hs0]; exact hok
 rw [← hx0];have HE := Lib.hid he0;have HX0 := Lib.hid hx0;have HS0 := Lib.hid hs0;have HN0 := Lib.hid hn0;have HC0 := Lib.hid hc0;have HOK := Lib.hid hok0
 have HNM : Hid (n < 50 ∧ m ≤ 150) := (⟨hn, hm⟩ : n < 50 ∧ m ≤ 150)
 have HID : Hid (0 ≤ id ∧ id < 3) := (⟨h0, h1⟩ : 0 ≤ id ∧ id < 3)
 have HY := Lib.hid hy1;have HCC := Lib.hid hc
 have HSM := szM
 have HSZ := szO
 have y0 : w1.cell? ⟨N, 0, none⟩ = some (.int .i64 y.yc) := hk1.cell 0
 have y1 : w1.cell? ⟨N, 1, none⟩ = some (.int .i64 y.ya) := hk1.cell 1
 have y2 : w1.cell? ⟨N, 2, none⟩ = some (.int .i64 y.yb) := hk1.cell 2
 have HK := Lib.hid hk1
 have HNN : Hid (p0.col N = 0) := hc0 N (Nat.le_refl _)
 have HL := Lib.hid hl0;have HBN := Lib.hid hN;rw [show y.l.toArray = (aY y) from by kernel_rfl];clear h he hy hb1 hk1 hl0 he0 hx0 hs0 hn0 hc0 hy1 hok hok0 hn hm h0 h1 hc
 go_enter Tryz.func15, Tryz.ntmps15
 go_wp2_with fail
 refine (pickO_any y.yc 7 _ HY.out.c.1 HY.out.c.2 (by decide) (by decide)).mono ?_
 rintro e w' ⟨rfl, rfl⟩;rw [HCC.out];clear hN hw1
 have c1 := HL.out.bx.cell 1
 have z1 := HL.out.bx.frozen 1
 simp only [gz, gs] at c1
 clear y0 y1 y2
 go_wp2_with fail
 refine (newReceiver_ok id _ HID.out.1 HID.out.2).mono ?_
 rintro e w2 ⟨b, mm, rfl, hb, hmm, h5, h6, hb2⟩
 have hrc : RcG w2 B b id (.slice none 0 0) [] mm [] := by
  have h7 := HL.out.lB
  exact ⟨hb, World.ownsRow_nil _ _ _ _, ⟨#[], 0, hmm, rfl⟩, by omega, by omega, fun g e => by simp [Value.ownBlock] at e, fun q hq => by
   rcases hq with hq | hq
   ·exact absurd hq (by simp)
   ·exact absurd hq (by simp)⟩
 have hl2 := HL.out.newR hb2 hrc (by omega) h5
 have hf2 : Fr (fun c => p0.col c ≠ 0) w1 (w2.setCell ⟨p0.x, 1, none⟩ (.pointer (some ⟨b, 0, none⟩))) := (Fr.under _ hb2).setCell ⟨p0.x, 1, none⟩ _ (.inl (by rw [(HL.out.cX _ (.inl rfl)).2.2]; decide))
 have hx2 : Nx w1 (w2.setCell ⟨p0.x, 1, none⟩ (.pointer (some ⟨b, 0, none⟩))) p0.col (p0.grow w1.heap.size 2) := ⟨hf2, fun c hc => grow_old hc⟩
 have c1 : w2.cell? ⟨p0.x, 1, none⟩ = some (.pointer (some ⟨p0.br, 0, none⟩)) := (HL.out.bx.kept (hb2.block _ HL.out.bx.lt)).cell 1
 have z1 := (HL.out.bx.kept (hb2.block _ HL.out.bx.lt)).frozen 1
 obtain ⟨w3, hw3⟩ : ∃ w3, w2.setCell ⟨p0.x, 1, none⟩ (.pointer (some ⟨b, 0, none⟩)) = w3 := ⟨_, rfl⟩
 rw [hw3] at hl2 hx2
 obtain ⟨p1, hp1⟩ : ∃ p1, ({ p0 with br := b, m := mm, vo := .slice none 0 0, l1 := [], E1 := [], col := p0.grow w1.heap.size 2 } : LP) = p1 := ⟨_, rfl⟩
 have e1 : p1.x = p0.x := by rw [← hp1]
 have e2 : p1.bb = p0.bb := by rw [← hp1]
 have e3 : p1.col = p0.grow w1.heap.size 2 := by rw [← hp1]
 have he1 : LnE { p1 with bb := w3.heap.size, vl := .slice none 0 0, vE := .slice none 0 0, l2 := [], E2 := [], col := p1.grow w3.heap.size 4 } := by rw [← hp1]; exact ⟨HE.out.eP, HE.out.ek, rfl, rfl⟩
 have hs1 : LP.s { p1 with bb := w3.heap.size, vl := .slice none 0 0, vE := .slice none 0 0, l2 := [], E2 := [], col := p1.grow w3.heap.size 4 } = p0.s.fresh := by rw [← hp1]; rfl
 rw [hp1] at hl2;rw [← e3] at hx2;have HL2 := Lib.hid hl2;have HX2 := Lib.hid hx2;have HE1 := Lib.hid he1;have HS1 := Lib.hid hs1
 have HEX := Lib.hid (And.intro e1 e2)
 clear hb hmm h5 h6 hb2 hrc hl2 hx2 he1 hs1 e1 e2 e3 hp1 hf2
 go_wp2_with fail
 refine (refNewR id _).mono ?_
 rintro e w4 ⟨rfl, hw4⟩
 have hb4 : Below w3.heap.size w3 w4 := by rw [hw4]; exact (Below.refl _ w3).alloc (Nat.le_refl _) _
 have hrb : RbG w4 w3.heap.size id (.slice none 0 0) (.slice none 0 0) [] [] := by
  have h9 : Blk w4 w3.heap.size 60 [.int .i64 id, .slice none 0 0, .slice none 0 0] := by rw [hw4]; exact Blk.new w3 _ _
  exact ⟨h9, World.ownsRow_nil _ _ _ _, World.ownsRow_nil _ _ _ _, fun g e => by simp [Value.ownBlock] at e, fun g e => by simp [Value.ownBlock] at e, fun g e => by simp [Value.ownBlock] at e, fun q hq => by
   rcases hq with hq | hq
   ·exact absurd hq (by simp)
   ·exact absurd hq (by simp)⟩
 have hl4 := HL2.out.newB hb4 hrb (Nat.le_refl _)
 have hf4 : Fr (fun c => p1.col c ≠ 0) w3 (w4.setCell ⟨p1.x, 3, none⟩ (.pointer (some ⟨w3.heap.size, 0, none⟩))) := (Fr.under _ hb4).setCell ⟨p1.x, 3, none⟩ _ (.inl (by rw [(HL2.out.cX _ (.inl rfl)).2.2]; decide))
 have hx4 : Nx w3 (w4.setCell ⟨p1.x, 3, none⟩ (.pointer (some ⟨w3.heap.size, 0, none⟩))) p1.col (p1.grow w3.heap.size 4) := ⟨hf4, fun c hc => grow_old hc⟩
 have HEND := Lib.hid (does_end (k := 5) HX0.out HS0.out HN0.out hl4 HE1.out HEX.out.1 (HX2.out.trans hx4) (by rw [HS1.out]; exact kp_fresh 5))
 have c3 : w4.cell? ⟨p0.x, 3, none⟩ = some (.pointer (some ⟨p1.bb, 0, none⟩)) := by rw [← HEX.out.1]; exact (HL2.out.bx.kept (hb4.block _ HL2.out.bx.lt)).cell 3
 have z3 : w4.frozen? ⟨p0.x, 3, none⟩ = false := by rw [← HEX.out.1]; exact (HL2.out.bx.kept (hb4.block _ HL2.out.bx.lt)).frozen 3
 have c1 : (w4.setCell ⟨p0.x, 3, none⟩ (.pointer (some ⟨w3.heap.size, 0, none⟩))).cell? ⟨p0.x, 1, none⟩ = some (.pointer (some ⟨p1.br, 0, none⟩)) := by rw [← HEX.out.1]; exact hl4.bx.cell 1
 have HXX := HEX.out.1
 rw [HXX] at HEND;clear hb4 hrb hl4 hf4 hx4 hw4 hw3 HXX
 go_wp2_with fail
 go_ret;exact HEND.out
theorem does_msg (W : World) (B : Nat) (id : Int) (p : LP) (h : LnM W B id p) (he : LnE p) (y : StD) (hy : StO W B y) (n m : Nat) (hok : Ok n m p.s) (hn : n < 50) (hm : m ≤ 150) (h0 : 0 ≤ id) (h1 : id < 3) (hc : pickO y.yc 7 = 6) :
  Calls Tryz.prog 15 #[.pointer (some ⟨p.x, 0, none⟩), .agg y.l.toArray, .int .i64 id] W (DoesP W B id p 6) := by
 obtain ⟨N, hN⟩ : ∃ N, W.heap.size = N := ⟨_, rfl⟩
 obtain ⟨w1, hw1⟩ : ∃ w1, W.alloc (.cells (aY y) 48) = w1 := ⟨_, rfl⟩
 have hb1 : Below W.heap.size W w1 := by rw [← hw1]; exact (Below.refl _ W).alloc (Nat.le_refl _) _
 have hk1 : Blk w1 N 48 y.l := by rw [← hw1, ← hN]; exact Blk.new W _ y.l
 obtain ⟨p0, hl0, he0, hx0, hs0, hn0, hc0⟩ := does_start h he hb1
 have hy1 := hy.kept hb1
 rw [hN] at hc0
 have hok0 : Ok n m p0.s := by rw [hs0]; exact hok
 rw [← hx0];have HE := Lib.hid he0;have HX0 := Lib.hid hx0;have HS0 := Lib.hid hs0;have HN0 := Lib.hid hn0;have HC0 := Lib.hid hc0;have HOK := Lib.hid hok0
 have HNM : Hid (n < 50 ∧ m ≤ 150) := (⟨hn, hm⟩ : n < 50 ∧ m ≤ 150)
 have HID : Hid (0 ≤ id ∧ id < 3) := (⟨h0, h1⟩ : 0 ≤ id ∧ id < 3)
 have HY := Lib.hid hy1;have HCC := Lib.hid hc
 have HSM := szM
 have HSZ := szO
 have y0 : w1.cell? ⟨N, 0, none⟩ = some (.int .i64 y.yc) := hk1.cell 0
 have y1 : w1.cell? ⟨N, 1, none⟩ = some (.int .i64 y.ya) := hk1.cell 1
 have y2 : w1.cell? ⟨N, 2, none⟩ = some (.int .i64 y.yb) := hk1.cell 2
 have HK := Lib.hid hk1
 have HNN : Hid (p0.col N = 0) := hc0 N (Nat.le_refl _)
 have HL := Lib.hid hl0;have HBN := Lib.hid hN;rw [show y.l.toArray = (aY y) from by kernel_rfl];clear h he hy hb1 hk1 hl0 he0 hx0 hs0 hn0 hc0 hy1 hok hok0 hn hm h0 h1 hc
 go_enter Tryz.func15, Tryz.ntmps15
 go_wp2_with fail
 refine (pickO_any y.yc 7 _ HY.out.c.1 HY.out.c.2 (by decide) (by decide)).mono ?_
 rintro e w' ⟨rfl, rfl⟩;rw [HCC.out];clear hN hw1
 have HPL : Hid (p0.P.length ≤ 190 ∧ p0.kp ≤ p0.P.length) := (⟨by rw [HE.out.lenP]; have := HOK.out.R.1; have := HNM.out; omega, by rw [HE.out.lenP, HE.out.ek]; exact HOK.out.R.2.1⟩ : p0.P.length ≤ 190 ∧ p0.kp ≤ p0.P.length)
 have HRL : Hid (p0.R.length ≤ 190 ∧ p0.k ≤ p0.R.length) := (⟨by have := HOK.out.R.1; have := HNM.out; omega, HOK.out.R.2.1⟩ : p0.R.length ≤ 190 ∧ p0.k ≤ p0.R.length)
 obtain ⟨m2, hm2⟩ : ∃ m2 : MOd, { y.m with o := y.m.o.cutO } = m2 := ⟨_, rfl⟩
 have hmo : m2.o = y.m.o.cutO := by rw [← hm2]
 have hlow : LowA w1 B ⟨m2.o, y.ml.take 9⟩ := by rw [hmo]; exact cut_low HY.out.ml HY.out.mr HY.out.mt HY.out.mw
 obtain ⟨L, hL⟩ : ∃ L, w1.heap.size = L := ⟨_, rfl⟩
 obtain ⟨w2, hw2⟩ : ∃ w2, w1.alloc (.cells aZm 32) = w2 := ⟨_, rfl⟩
 have hb2 : Below w1.heap.size w1 w2 := by rw [← hw2]; exact (Below.refl _ w1).alloc (Nat.le_refl _) _
 have hk2 : Blk w2 L 32 lZm := by rw [← hw2, ← hL]; exact Blk.new w1 _ _
 obtain ⟨w3, hw3⟩ : ∃ w3, w2.setRow L y.m.l.toArray = w3 := ⟨_, rfl⟩
 have hk3 : Blk w3 L 32 y.m.l := by rw [← hw3]; exact hk2.setRow y.m.l
 have hb3 : Below w1.heap.size w1 w3 := by rw [← hw3]; exact below_setRow hb2 (by omega) _
 have HB3 := Lib.hid hb3;have HK3 := Lib.hid hk3
 have HLz0 : Hid (p0.col L = 0) := HC0.out L (by have := HK.out.lt; omega)
 have HK2 := Lib.hid hk2;have HW3 := Lib.hid hw3;have HLW := Lib.hid hlow
 have HO1 : Hid (y.m.l.toArray.all (·.oneCell') = true) := y.m.oneC
 have HO2 : Hid (aZm.size = y.m.l.toArray.size) := rfl
 have HOM : Hid (m2.o.l.toArray.all (·.oneCell') = true) := m2.o.oneC
 have HM1 : Hid (setsL y.m.l 5 m2.o.l = m2.l) := (by rw [hmo, ← hm2]; kernel_rfl : setsL y.m.l 5 m2.o.l = m2.l)
 have HCM : Hid (∀ W', Calls Tryz.prog 7 #[.agg y.m.o.l.toArray] W' fun en w' => en = .returned (.agg m2.o.l.toArray) ∧ Below W'.heap.size W' w') := (by rw [hmo]; exact fun W' => gCut y.m.o W' HY.out.mc HY.out.mm HY.out.mt : ∀ W', _)
 have HR29 : Hid (w1.rangeAt N 29 y.m.l) := HK.out.part29
 have HWL : Hid (w1.heap.size = L) := hL
 clear hb2 hk2 hw3 hk3 hb3 hm2 hmo hlow
 go_wp2_with (first | (refine wpList_load_mid rfl 32 (.tmp 217) rfl N 29 rfl y.m.l _ HR29.out Tryz.underlying32 rfl HSM.out ?_) | (refine wpList_store_row rfl 32 (.tmp 14) (.tmp 218) rfl L y.m.l.toArray rfl rfl 32 _ HK2.out HSM.out HO2.out HO1.out ?_; rw [HW3.out]) | (refine wpList_load_mid rfl 30 (.tmp 219) rfl L 5 rfl y.m.o.l _ (Blk.part5 HK3.out) Tryz.underlying30 rfl HSZ.out ?_))
 refine (HCM.out _).mono ?_
 rintro e w4 ⟨rfl, hb4⟩;clear hL hw2 HK2 HW3 HO1 HO2 y0 y1 y2 HR29
 have HK4 := Lib.hid (HK3.out.kept (hb4.block _ HK3.out.lt))
 have HB4 : Hid (Below w1.heap.size w1 w4) := HB3.out.trans (hb4.mono HB3.out.size)
 clear hb4 HCM HB3 HK3
 go_upto_region 34 with (refine wpList_store_mid rfl 30 (.tmp 222) (.tmp 221) rfl L 5 m2.o.l.toArray rfl rfl (HK4.out.there 5 26 (Nat.le_refl 31)) HSZ.out HOM.out ?_)
 have hks := Blk.sets m2.o.l 5 HK4.out
 rw [HM1.out] at hks;have HKz := Lib.hid hks
 have hbz := below_setCells HB4.out (HB4.out.size) L 5 m2.o.l (by have := HWL.out; omega)
 have HBZ := Lib.hid hbz;clear hks hbz HOM HM1 HB4 HK4
 generalize World.setCells _ _ _ _ = z at HKz HBZ ⊢
 have HLz := Lib.hid (HL.out.below HBZ.out)
 have HXz : Hid (Nx w1 z p0.col p0.col) := Nx.below HBZ.out
 have HYz := Lib.hid (HLW.out.turn (Fr.under (fun _ => False) HBZ.out) (fun _ e => e.elim))
 clear HBZ HL HK
 go_upto_region 34 with (fail)
 have hla := HLz.out.below (Below.refl _ _).drew
 have hka := HKz.out.drew
 have HXa : Hid (Nx w1 z.drew p0.col p0.col) := HXz.out.trans (Nx.below (Below.refl _ _).drew)
 refine wp_region_held_drew (S := fun W => W.cell? ⟨p0.x, 0, none⟩ = some (.pointer (some ⟨p0.bs, 0, none⟩)) ∧ W.rangeAt L 0 m2.l) (by kernel_rfl) ?_ (fun hHeld => ?_)
 ·exact ⟨hla.bx.cell 0, hka.range⟩
 have HLa := Lib.hid hla;have HKa := Lib.hid hka
 have HLa0 := HLz0
 have HYa := Lib.hid (LowA.turn HYz.out ((Fr.refl (fun _ => False) z).drew) (fun _ e => e.elim))
 clear hla hka;generalize z.drew = za at HLa HKa HXa HYa hHeld ⊢;refine tk 0 (some 223) ?_;refine tk 1 (some 224) ?_;refine tk 2 (some 225) ?_;refine tk 3 (some 226) ?_
 refine tkL 4 (some 227) 32 (.tmp 14) L 0 m2.l (fun _ h => h.2) Tryz.underlying32 HSM.out ?_
 refine rd1 5 (some 228) (fun K hK => ?_)
 go_simp
 refine (LnM.ackP HLa.out (mo := m2) (al := y.ml.take 9) HYa.out.len HYa.out.few HYa.out.rd HYa.out.txt (by have := HPL.out.1; omega) HPL.out.2).mono ?_
 rintro e v1 ⟨⟨u1, rfl⟩, hf, col3, hnx3, hl3⟩;have HL3 := Lib.hid hl3
 have HX3 := Lib.hid (HXa.out.trans hnx3)
 have HK3 := Lib.hid (HKa.out.kept (hnx3.fr.block L HKa.out.lt (fun e => e HLa0.out)))
 have HCL3 : Hid (col3 L = 0) := (hnx3.co L HKa.out.lt).trans HLa0.out
 have HYa3 := Lib.hid (HYa.out.turn hf (fun c e => (HLa.out.cS c e).1))
 clear hl3 hf hnx3;go_simp
 refine hK.out _ _ ?_ (fun hHeld2 => ?_)
 ·exact ⟨HL3.out.bx.cell 0, HK3.out.range⟩
 clear hK K hHeld;rename _ => hHeld
 try simp only [Act.put, sa, sz, ss]
 refine wpAnyH_done (by kernel_rfl) ?_ _;clear hHeld
 go_upto_region 35 with (fail)
 have hlb := HL3.out.below (Below.refl _ _).drew
 have hkb := HK3.out.drew
 have HXb : Hid (Nx w1 v1.drew p0.col col3) := HX3.out.trans (Nx.below (Below.refl _ _).drew)
 have hyb := HYa3.out.turn ((Fr.refl (fun _ => False) v1).drew) (fun _ e => e.elim)
 refine wp_region_held_drew (S := fun W => W.cell? ⟨p0.x, 2, none⟩ = some (.pointer (some ⟨p0.ba, 0, none⟩)) ∧ W.rangeAt L 0 m2.l) (by kernel_rfl) ?_ (fun hHeld => ?_)
 ·exact ⟨hlb.bx.cell 2, hkb.range⟩
 have HLb := Lib.hid hlb;have HKb := Lib.hid hkb
 have HLb0 := HCL3
 have HYb := Lib.hid hyb;clear hyb;clear hlb hkb;generalize v1.drew = zb at HLb HKb HXb HYb hHeld ⊢;refine tk 0 (some 229) ?_;refine tk 1 (some 230) ?_;refine tk 2 (some 231) ?_;refine tk 3 (some 232) ?_
 refine tkL 4 (some 233) 32 (.tmp 14) L 0 m2.l (fun _ h => h.2) Tryz.underlying32 HSM.out ?_
 refine rd1 5 (some 234) (fun K hK => ?_)
 go_simp
 refine (LnM.ackA HLb.out (mo := m2) (al := y.ml.take 9) HYb.out.len HYb.out.few HYb.out.rd HYb.out.txt (by have := HRL.out.1; show p0.R.length ≤ 200; omega) HRL.out.2).mono ?_
 rintro e v2 ⟨⟨u2, rfl⟩, hf, col4, hnx4, hl4⟩;have HL4 := Lib.hid hl4
 have HX4 := Lib.hid (HXb.out.trans hnx4)
 have HK4 := Lib.hid (HKb.out.kept (hnx4.fr.block L HKb.out.lt (fun e => e HLb0.out)))
 have HCL4 : Hid (col4 L = 0) := (hnx4.co L HKb.out.lt).trans HLb0.out
 have HYa4 := Lib.hid (HYb.out.turn hf (fun c e => (HLb.out.cA c e).1))
 clear hl4 hf hnx4;go_simp
 refine hK.out _ _ ?_ (fun hHeld2 => ?_)
 ·exact ⟨HL4.out.bx.cell 2, HK4.out.range⟩
 clear hK K hHeld;rename _ => hHeld
 try simp only [Act.put, sa, sz, ss]
 refine wpAnyH_done (by kernel_rfl) ?_ _;clear hHeld
 have hb := msg_both (id := id) (mo := m2) (al := y.ml.take 9) (c1 := col4) HE.out
 obtain ⟨p4, hp4⟩ : ∃ p4, ({ p0 with P := (ackM id m2 (y.ml.take 9) p0.P p0.kp).1, kp := (ackM id m2 (y.ml.take 9) p0.P p0.kp).2, R := (ackM id m2 (y.ml.take 9) p0.R p0.k).1, k := (ackM id m2 (y.ml.take 9) p0.R p0.k).2, col := col4 } : LP) = p4 := ⟨_, rfl⟩
 have hl4 : LnM v2 B id p4 := by rw [← hp4]; exact HL4.out
 rw [hp4] at hb
 have e1 : p4.x = p0.x := by rw [← hp4]
 have e2 : p4.col = col4 := by rw [← hp4]
 have hok4 : Ok n m p4.s := by
  rw [hb.2]
  rcases PS.msg_eq id p0.s m2 (y.ml.take 9) with e | ⟨sq, e⟩
  ·rw [e]; exact HOK.out
  ·rw [e]; exact HOK.out.ack
 have HP := Lib.hid (pass_any v2 B id p4 hl4 hb.1 m2 (y.ml.take 9) HYa4.out HYa4.out.txt true HID.out.1 HID.out.2 (by have := hok4.R.2.2.1; have := HNM.out; omega) (by have := hok4.R.1; have := HNM.out; omega) hok4.R.2.1)
 rw [e1] at HP;have HB := Lib.hid hb
 have HEX := Lib.hid (And.intro e1 e2)
 clear hb hp4 hl4 e1 e2 hok4
 go_wp2_with (refine wpList_load_mid rfl 32 (.tmp 14) rfl L 0 rfl m2.l _ HK4.out.range Tryz.underlying32 rfl HSM.out ?_)
 refine HP.out.mono ?_
 rintro e v3 ⟨rfl, p5, hl5, he5, hx5, hs5, hn5⟩
 have HEND := Lib.hid (does_end (k := 6) HX0.out HS0.out HN0.out hl5 he5 hx5 (HX4.out.trans (HEX.out.2 ▸ hn5)) (by rw [hs5, HB.out.2]; exact kp_msgpass))
 clear hl5 he5 hx5 hs5 hn5
 go_wp2_with fail
 go_ret;exact HEND.out
end Go.Proofs.YtjkiidhnmljmbaaGreatDoor
