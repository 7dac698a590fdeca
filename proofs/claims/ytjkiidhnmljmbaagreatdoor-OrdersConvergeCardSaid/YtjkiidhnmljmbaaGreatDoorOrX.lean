/- Orders: sane is true. -/
import Derived.Test.YtjkiidhnmljmbaaGreatDoorOrTV
import Derived.Test.YtjkiidhnmljmbaaGreatDoorOrRp
set_option linter.unusedVariables false
set_option linter.unusedSimpArgs false
namespace Go.Proofs.YtjkiidhnmljmbaaGreatDoor
open Go.RowKit Onair
theorem own_ne {W : World} {B : Nat} {t t' : TypeId} {size : Nat} {v : Value} {n : Nat} {xs l : List Value} {g : Nat} (h : W.ownsRow B t size v n xs) (hg : Blk W g t' l) (hne : t ≠ t') : v.ownBlock ≠ some g := fun e => by
 rcases h.2 with ⟨h2, _⟩ | ⟨g', cap, cur, h2, _, h3, _⟩
 ·rw [h2] at e
  simp [Value.ownBlock] at e
 ·rw [h2] at e
  simp [Value.ownBlock] at e
  subst e
  unfold Blk at hg
  rw [hg] at h3
  simp only [Option.some.injEq, Obj.cells.injEq] at h3
  exact hne h3.2.1.symm
theorem rdo_of {W : World} {B : Nat} {oa : Option Addr} {n cap : Nat} {l : List Od} (h : W.ownsRow B 30 26 (.slice oa n cap) l.length (oCells l)) : RdO W oa l := by
 rcases h.2 with ⟨_, hz⟩ | ⟨g, cap', cur, h1, h2, h3, h4⟩
 ·exact .inl (List.eq_nil_of_length_eq_zero hz)
 ·simp only [Value.slice.injEq] at h1
  obtain ⟨rfl, rfl, rfl⟩ := h1
  refine .inr ⟨g, 0, rfl, (Array.getElem?_eq_some_iff.1 h3).1, fun j v hj => ?_⟩
  rw [Nat.zero_add, h.cellAt j (by have := (List.getElem?_eq_some_iff.1 hj).1; rw [oCells_len] at this; exact this)]
  exact hj
theorem glob_kept {W W' : World} {g : Nat} {v : Value} (h : W.cell? ⟨g, 0, none⟩ = some v) (hb : Below W.heap.size W W') : W'.cell? ⟨g, 0, none⟩ = some v := (hb.cell (p := ⟨g, 0, none⟩) (block_lt h)).trans h
abbrev o1 : Od := ⟨1, -1, 5, 2, 1⟩
abbrev o2 : Od := ⟨2, -1, 5, 2, 1⟩
theorem adv1 : advE (putE [] [] 2 o2).length [] (putE [] [] 2 o2) = ([], [(2, o2)]) := rfl
theorem adv2 : advE (putE [] [(2, o2)] 1 o1).length [] (putE [] [(2, o2)] 1 o1) = ([o1, o2], []) := rfl
theorem tick1 : sentL [⟨5, false, 0⟩, ⟨5, false, 0⟩] (firstW 0 2) 5 2 = [(0, 5), (1, 5)] ∧ updL [⟨5, false, 0⟩, ⟨5, false, 0⟩] (firstW 0 2) 2 5 = [⟨5, true, 5⟩, ⟨5, true, 5⟩] := ⟨rfl, rfl⟩
theorem tick2 : sentL [⟨5, true, 5⟩, ⟨5, true, 5⟩] (firstW 0 2) 6 2 = [] ∧ updL [⟨5, true, 5⟩, ⟨5, true, 5⟩] (firstW 0 2) 2 6 = [⟨5, true, 5⟩, ⟨5, true, 5⟩] := ⟨rfl, rfl⟩
theorem tick3 : (sentL [⟨5, true, 5⟩, ⟨5, true, 5⟩] (firstW 2 2) 11 2).length = 1 := rfl
set_option maxHeartbeats 16000000 in
set_option maxRecDepth 100000 in
theorem sane_any (er : Addr) (W : World) (hg : W.cell? ⟨0, 0, none⟩ = some (.iface 196 (.pointer (some er)))) :
  Calls Tryz.prog 6 #[] W fun e w' => e = .returned (.bool true) ∧ Below W.heap.size W w' := by
 have HG := Lib.hid hg
 have HSM := szM
 clear hg
 go_enter Tryz.func6, Tryz.ntmps6
 go_wp2_with fail
 refine (newSender_ok 1 W (by decide) (by decide)).mono ?_
 rintro e w1 ⟨bs, rfl, hk1, hge1, hb1⟩;have HK1 := Lib.hid hk1;have HB1 := Lib.hid hb1;have HGE := Lib.hid hge1;clear hk1 hge1 hb1
 go_wp2_with fail
 refine (newReceiver_ok 1 w1 (by decide) (by decide)).mono ?_
 rintro e w2 ⟨br, m, rfl, hk2, hm2, hge2, hlt2, hb2⟩
 have hl2 : LnS W w2 bs br 1 (.slice none 0 0) [] 0 (.slice none 0 0) [] m [] [] := by
  have hs := HB1.out.size
  have hk := HK1.out.lt
  refine ⟨⟨HK1.out.kept (hb2.block _ HK1.out.lt), World.ownsRow_nil _ _ _ _, HGE.out, fun g e => by simp [Value.ownBlock] at e⟩, ⟨hk2, World.ownsRow_nil _ _ _ _, ⟨_, _, hm2, rfl⟩, by omega, by omega, fun g e => by simp [Value.ownBlock] at e⟩, fun c h1 h2 => ?_, HB1.out.trans (hb2.mono hs), fun p hp => by cases hp⟩
  simp only [FtS, FtR, Value.ownBlock] at h1 h2
  rcases h1 with rfl | h1
  ·rcases h2 with rfl | rfl | h2
   ·omega
   ·omega
   ·cases h2
  ·cases h1
 have HL2 := Lib.hid hl2;clear hk2 hm2 hge2 hlt2 hb2 hl2 HK1 HB1 HGE
 go_wp2_with fail
 refine (newSender_bad 3 w2 (by decide)).mono ?_
 rintro e w' ⟨rfl, rfl⟩
 go_wp2_with fail
 refine (newReceiver_bad (-1) w2 (by decide)).mono ?_
 rintro e w' ⟨rfl, rfl⟩
 go_wp2_with fail
 refine (drop_any 1 5 w2).mono ?_
 rintro e w3 ⟨rfl, hb3⟩
 have hl3 := HL2.out.below hb3
 go_wp2_with fail
 refine (add_ok w3 W.heap.size bs 1 (.slice none 0 0) [] 0 5 1 hl3.sn rfl (by decide) (by decide) (by decide) (fun j p hj => by cases hj)).mono ?_
 rintro e w4 ⟨rfl, vp4, hs4, hf4, hn4⟩
 have hl4 := hl3.send hs4 hf4 (fun c h => h) hn4
 have HL4 := Lib.hid hl4;clear hb3 hl3 hs4 hf4 hn4 hl4 HL2
 go_wp2_with fail
 refine (drop_any 2 5 w4).mono ?_
 rintro e w5 ⟨rfl, hb5⟩
 have hl5 := HL4.out.below hb5
 go_wp2_with fail
 refine (add_ok w5 W.heap.size bs 1 vp4 _ 0 5 2 hl5.sn rfl (by decide) (by decide) (by decide) (fun j p hj _ => by cases j with | zero => cases hj; decide | succ j => cases hj)).mono ?_
 rintro e w6 ⟨rfl, vp6, hs6, hf6, hn6⟩
 have hl6 := hl5.send hs6 hf6 (fun c h => h) hn6
 have HL6 := Lib.hid hl6;clear hb5 hl5 hs6 hf6 hn6 hl6 HL4
 go_wp2_with fail
 refine (drop_any 3 4 w6).mono ?_
 rintro e w7 ⟨rfl, hb7⟩
 have hl7 := HL6.out.below hb7
 go_wp2_with fail
 refine (add_bad w7 W.heap.size bs 1 vp6 _ 0 4 3 hl7.sn rfl (by decide) (by decide) (by decide) 1 ⟨5, false, 0⟩ rfl rfl (by decide)).mono ?_
 rintro e w8 ⟨rfl, hb8⟩
 have hl8 := hl7.below hb8
 have HL8 := Lib.hid hl8;clear hb7 hl7 hb8 hl8 HL6
 go_wp2_with fail
 refine (tick_any w8 W.heap.size bs 1 vp6 _ 0 5 HL8.out.sn (by decide) (by decide) (by decide) (by decide) (fun p hp => by simp at hp; subst hp; decide)).mono ?_
 rintro e w9 ⟨vl, rfl, ho9, hs9, hf9⟩
 have t1 := tick1
 have hs9' : SnAt w9 W.heap.size bs 1 vp6 [⟨5, true, 5⟩, ⟨5, true, 5⟩] 0 := by have := hs9; rw [show (([] ++ [(⟨5, false, 0⟩ : Pst)]) ++ [⟨5, false, 0⟩]) = [⟨5, false, 0⟩, ⟨5, false, 0⟩] from rfl, show [(⟨5, false, 0⟩ : Pst), ⟨5, false, 0⟩].length = 2 from rfl, t1.2] at this; exact this
 have ho9' : w9.ownsRow w8.heap.size 32 31 vl 2 (mCells 1 [(0, 5), (1, 5)]) := by have := ho9; rw [show (([] ++ [(⟨5, false, 0⟩ : Pst)]) ++ [⟨5, false, 0⟩]) = [⟨5, false, 0⟩, ⟨5, false, 0⟩] from rfl, show [(⟨5, false, 0⟩ : Pst), ⟨5, false, 0⟩].length = 2 from rfl, t1.1] at this; exact this
 obtain ⟨g6, cap6, cur6, rfl, hg6, hc6, hx6⟩ := msgs_at ho9' (by decide)
 have hl9 := HL8.out.send hs9' hf9 (fun c h => .inr h) (fun g e => .inl e)
 have hl9p := hl9.pin hc6 (fun h => by have := HL8.out.sn.lt _ h; omega) (fun h => by have := HL8.out.rc.lt _ h; omega)
 have HL9 := Lib.hid hl9p;have HX6 := Lib.hid hx6;clear t1 hs9 ho9 hs9' ho9' hf9 hg6 hc6 hx6 hl9 hl9p HL8
 go_wp2_with fail
 refine (tick_any w9 W.heap.size bs 1 vp6 _ 0 6 HL9.out.sn (by decide) (by decide) (by decide) (by decide) (fun p hp => by simp at hp; subst hp; decide)).mono ?_
 rintro e w10 ⟨vl, rfl, ho10, hs10, hf10⟩
 have t2 := tick2
 have hs10' : SnAt w10 W.heap.size bs 1 vp6 [⟨5, true, 5⟩, ⟨5, true, 5⟩] 0 := by have := hs10; rw [show [(⟨5, true, 5⟩ : Pst), ⟨5, true, 5⟩].length = 2 from rfl, t2.2] at this; exact this
 have ho10' : w10.ownsRow w9.heap.size 32 31 vl 0 (mCells 1 []) := by have := ho10; rw [show [(⟨5, true, 5⟩ : Pst), ⟨5, true, 5⟩].length = 2 from rfl, t2.1] at this; exact this
 obtain ⟨oa10, ca10, rfl⟩ := own_slice ho10'
 have hl10 := HL9.out.send hs10' hf10 (fun c h => .inr h) (fun g e => .inl e)
 obtain ⟨ovp, cvp, rfl⟩ := own_slice hl10.sn.own
 have HL10 := Lib.hid hl10;clear t2 hs10 ho10 hs10' ho10' hf10 hl10 HL9
 go_wp2_with fail
 refine (done_any bs 2 cvp ovp _ 0 w10 HL10.out.sn.blk).mono ?_
 rintro e w11 ⟨rfl, hb11⟩
 have HL11 := Lib.hid (HL10.out.below hb11)
 rw [show ((0 : Int) == ((2 : Nat) : Int)) = false from rfl];clear hb11 HL10
 have k11 := (HL11.out.kp _ (.head _)).1
 have HR11 : Hid (w11.rangeAt g6 31 (msgA 1 1 2 0 0 2 (-1) 5 2 1).toList) := range_of k11 HX6.out 31 _ rfl
 clear k11
 go_wp2_with (refine wpList_load_mid rfl 32 (.tmp 71) rfl g6 31 rfl (msgA 1 1 2 0 0 2 (-1) 5 2 1).toList _ HR11.out Tryz.underlying32 rfl HSM.out ?_)
 refine (recv_ord w11 W.heap.size br 1 _ [] m [] 2 5 HL11.out.rc (by decide) (by decide) (by decide) (by decide) (by decide) (by decide) (by decide)).mono ?_
 rintro e w12 ⟨vo12, ob12, l12, E12, hadv, rfl, hk12, hge12, hrc12, hf12, hn12⟩
 obtain ⟨rfl, rfl⟩ := Prod.mk.inj (hadv.trans adv1)
 have hl12 := HL11.out.recv hrc12 hf12 (fun c h => h) hn12
 have hl12p := hl12.pin (g := ob12) hk12 (fun h => by have := HL11.out.sn.lt _ h; omega) (fun h => by
  rcases h with h | h | h
  ·have := HL11.out.rc.blk.lt; omega
  ·have := HL11.out.rc.mp.lt; omega
  ·exact own_ne hrc12.own hk12 (by decide) h)
 have HL12 := Lib.hid hl12p;clear hadv hk12 hge12 hrc12 hf12 hn12 hl12 hl12p HL11 HR11
 have HR12 : Hid (w12.rangeAt g6 0 (msgA 1 1 1 0 0 1 (-1) 5 2 1).toList) := range_of (HL12.out.kp _ (.tail _ (.head _))).1 HX6.out 0 _ rfl
 go_wp2_with (refine wpList_load_mid rfl 32 (.tmp 76) rfl g6 0 rfl (msgA 1 1 1 0 0 1 (-1) 5 2 1).toList _ HR12.out Tryz.underlying32 rfl HSM.out ?_)
 refine (recv_ord w12 W.heap.size br 1 _ [] m [(2, o2)] 1 5 HL12.out.rc (by decide) (by decide) (by decide) (by decide) (by decide) (by decide) (by decide)).mono ?_
 rintro e w13 ⟨vo13, ob13, l13, E13, hadv, rfl, hk13, hge13, hrc13, hf13, hn13⟩
 obtain ⟨rfl, rfl⟩ := Prod.mk.inj (hadv.trans adv2)
 have hl13 := HL12.out.recv hrc13 hf13 (fun c h => h) hn13
 have hl13p := hl13.pin (g := ob13) hk13 (fun h => by have := HL12.out.sn.lt _ h; omega) (fun h => by
  rcases h with h | h | h
  ·have := HL12.out.rc.blk.lt; omega
  ·have := HL12.out.rc.mp.lt; omega
  ·exact own_ne hrc13.own hk13 (by decide) h)
 have HL13 := Lib.hid hl13p
 have x12 : w13.cell? ⟨ob12, 2, none⟩ = some (.int .i64 0) := Blk.cell (show Blk w13 ob12 32 (msgA 2 1 ((0 : Nat) : Int) 0 0 0 0 0 0 0).toList from (hl13p.kp _ (.tail _ (.head _))).1) 2
 have x13 : w13.cell? ⟨ob13, 2, none⟩ = some (.int .i64 2) := hk13.cell 2
 have HR13 : Hid (w13.rangeAt ob13 0 (msgA 2 1 ((2 : Nat) : Int) 0 0 0 0 0 0 0).toList) := hk13.range
 clear hadv hk13 hge13 hrc13 hf13 hn13 hl13 hl13p HL12 HR12
 go_wp2_with (refine wpList_load_mid rfl 32 (.tmp 103) rfl ob13 0 rfl (msgA 2 1 ((2 : Nat) : Int) 0 0 0 0 0 0 0).toList _ HR13.out Tryz.underlying32 rfl HSM.out ?_)
 clear x12 x13
 refine (srecv_up w13 W.heap.size bs 1 _ [⟨5, true, 5⟩, ⟨5, true, 5⟩] 0 2 HL13.out.sn (by decide) (by decide) (by decide) (by decide) (by decide)).mono ?_
 rintro e w14 ⟨⟨v14, rfl⟩, hs14, hf14⟩
 have hl14 := HL13.out.send hs14 hf14 (fun c h => .inl h) (fun g e => .inl e)
 have HL14 := Lib.hid hl14;clear hs14 hf14 hl14 HL13 HR13
 have HR14 : Hid (w14.rangeAt g6 0 (msgA 1 1 1 0 0 1 (-1) 5 2 1).toList) := range_of (HL14.out.kp _ (.tail _ (.tail _ (.head _)))).1 HX6.out 0 _ rfl
 go_wp2_with (refine wpList_load_mid rfl 32 (.tmp 108) rfl g6 0 rfl (msgA 1 1 1 0 0 1 (-1) 5 2 1).toList _ HR14.out Tryz.underlying32 rfl HSM.out ?_)
 refine (encode_ord 1 1 5 w14 (by decide) (by decide) (by decide) (by decide) (by decide) (by decide)).mono ?_
 rintro e w15 ⟨rfl, hb15⟩
 have HL15 := Lib.hid (HL14.out.below hb15)
 obtain ⟨z, hz⟩ : ∃ z : ByteArray, (⟨(encMs 1 1 5).toArray⟩ : ByteArray) = z := ⟨_, rfl⟩
 have hzl : z.data.toList = SL := by rw [← hz]; exact encMs_SL
 have HDC := Lib.hid (fun W' => decode_ok z W' hzl)
 rw [hz];clear hb15 hz hzl HL14 HR14 HX6
 go_wp2_with fail
 refine (HDC.out _).mono ?_
 rintro e w16 ⟨rfl, hb16⟩
 have hl16 := HL15.out.below hb16
 obtain ⟨bm, hbm⟩ : ∃ bm, w16.heap.size = bm := ⟨_, rfl⟩
 obtain ⟨y16, hy16⟩ : ∃ y16, w16.alloc (.cells aZm 32) = y16 := ⟨_, rfl⟩
 have kxbm : Blk y16 bm 32 lZm := by rw [← hy16, ← hbm]; exact Blk.new w16 _ _
 obtain ⟨w17, hw17⟩ : ∃ w17, y16.setRow bm (msgA 1 1 1 0 0 1 (-1) 5 2 1) = w17 := ⟨_, rfl⟩
 have kybm : Blk w17 bm 32 (msgA 1 1 1 0 0 1 (-1) 5 2 1).toList := by rw [← hw17]; exact kxbm.setRow _
 have hbw17 : Below w16.heap.size w16 w17 := by
  rw [← hw17, ← hy16, ← hbm]
  exact below_setRow ((Below.refl _ w16).alloc (Nat.le_refl _) _) (Nat.le_refl _) _
 have hl16y := (hl16.below hbw17).pin (g := bm) kybm (fun h => by have := hl16.sn.lt _ h; omega) (fun h => by have := hl16.rc.lt _ h; omega)
 have HKXbm := Lib.hid kxbm;have HYbm := Lib.hid hw17;have HL17 := Lib.hid hl16y
 have HObm : Hid ((msgA 1 1 1 0 0 1 (-1) 5 2 1).all (·.oneCell') = true) := (by first | rfl | (simp [msgJ, msgA, ordA, Value.oneCell']) : (msgA 1 1 1 0 0 1 (-1) 5 2 1).all (·.oneCell') = true)
 have HSbm : Hid (aZm.size = (msgA 1 1 1 0 0 1 (-1) 5 2 1).size) := rfl
 clear hb16 hl16 hl16y kxbm hw17 kybm hbw17 HL15 HDC
 go_wp2_with (refine wpList_store_row rfl 32 (.tmp 12) (.tmp 116) rfl bm (msgA 1 1 1 0 0 1 (-1) 5 2 1) rfl rfl 32 _ HKXbm.out HSM.out HSbm.out HObm.out ?_; rw [HYbm.out])
 refine (decode_empty er w17 (glob_kept HG.out HL17.out.bel)).mono ?_
 rintro e w18 ⟨rfl, hb18⟩
 have hl18 := HL17.out.below hb18
 obtain ⟨be, hbe⟩ : ∃ be, w18.heap.size = be := ⟨_, rfl⟩
 obtain ⟨y18, hy18⟩ : ∃ y18, w18.alloc (.cells aZm 32) = y18 := ⟨_, rfl⟩
 have kxbe : Blk y18 be 32 lZm := by rw [← hy18, ← hbe]; exact Blk.new w18 _ _
 obtain ⟨w19, hw19⟩ : ∃ w19, y18.setRow be ((msgJ 0).toArray) = w19 := ⟨_, rfl⟩
 have kybe : Blk w19 be 32 ((msgJ 0).toArray).toList := by rw [← hw19]; exact kxbe.setRow _
 have hbw19 : Below w18.heap.size w18 w19 := by
  rw [← hw19, ← hy18, ← hbe]
  exact below_setRow ((Below.refl _ w18).alloc (Nat.le_refl _) _) (Nat.le_refl _) _
 have hl18y := (hl18.below hbw19).pin (g := be) kybe (fun h => by have := hl18.sn.lt _ h; omega) (fun h => by have := hl18.rc.lt _ h; omega)
 have HKXbe := Lib.hid kxbe;have HYbe := Lib.hid hw19;have HL19 := Lib.hid hl18y
 have HObe : Hid (((msgJ 0).toArray).all (·.oneCell') = true) := (by first | rfl | (simp [msgJ, msgA, ordA, Value.oneCell']) : ((msgJ 0).toArray).all (·.oneCell') = true)
 have HSbe : Hid (aZm.size = ((msgJ 0).toArray).size) := rfl
 clear hb18 hl18 hl18y kxbe hw19 kybe hbw19 HL17 hy16 hbm
 go_wp2_with (refine wpList_store_row rfl 32 (.tmp 14) (.tmp 120) rfl be ((msgJ 0).toArray) rfl rfl 32 _ HKXbe.out HSM.out HSbe.out HObe.out ?_; rw [HYbe.out])
 refine (done_any bs 2 cvp ovp _ 2 w19 HL19.out.sn.blk).mono ?_
 rintro e w20 ⟨rfl, hb20⟩;rw [show ((2 : Int) == ((2 : Nat) : Int)) = true from rfl]
 have hl20 := HL19.out.below hb20
 obtain ⟨ovo, cvo, rfl⟩ := own_slice hl20.rc.own
 have HL20 := Lib.hid hl20;clear hb20 hl20 HL19 hy18 hbe
 go_wp2_with fail
 refine (orders_any w20 br 2 cvo _ _ ovo [o1, o2] HL20.out.rc.blk rfl (by decide) (rdo_of HL20.out.rc.own)).mono ?_
 rintro e w21 ⟨ob21, cb21, rfl, ho21, hb21⟩
 have HL21 := Lib.hid (HL20.out.below hb21)
 clear ho21 hb21 HL20
 go_wp2_with fail
 refine (tick_any w21 W.heap.size bs 1 _ _ 2 11 HL21.out.sn (by decide) (by decide) (by decide) (by decide) (fun p hp => by simp at hp; subst hp; decide)).mono ?_
 rintro e w22 ⟨vl, rfl, ho22, hs22, hf22⟩
 rw [show [(⟨5, true, 5⟩ : Pst), ⟨5, true, 5⟩].length = 2 from rfl] at ho22
 rw [tick3] at ho22
 obtain ⟨oa22, ca22, rfl⟩ := own_slice ho22
 have hl22 := HL21.out.send hs22 hf22 (fun c h => .inr h) (fun g e => .inl e)
 have HL22 := Lib.hid hl22
 have x7 : w22.cell? ⟨bm, 7, none⟩ = some (.int .i64 5) := Blk.cell (show Blk w22 bm 32 (msgA 1 1 1 0 0 1 (-1) 5 2 1).toList from (hl22.kp _ (.tail _ (.head _))).1) 7
 clear ho22 hs22 hf22 hl22 HL21
 go_wp2_with fail
 clear x7
 refine (orders_any w22 br 2 cvo _ _ ovo [o1, o2] HL22.out.rc.blk rfl (by decide) (rdo_of HL22.out.rc.own)).mono ?_
 rintro e w23 ⟨ob23, cb23, rfl, ho23, hb23⟩
 have HL23 := Lib.hid (HL22.out.below hb23)
 have HR23 := Lib.hid (rdo_of ho23)
 clear ho23 hb23 HL22
 go_wp2_with fail
 refine (count_any [o1, o2] ob23 2 cb23 5 w23 rfl (by decide) HR23.out).mono ?_
 rintro e w24 ⟨rfl, hb24⟩
 rw [show ((cntO [o1, o2] 5 : Nat) : Int) = 2 from rfl]
 have HL24 := Lib.hid (HL23.out.below hb24)
 clear hb24 HL23 HR23
 go_wp2_with fail
 refine (orders_any w24 br 2 cvo _ _ ovo [o1, o2] HL24.out.rc.blk rfl (by decide) (rdo_of HL24.out.rc.own)).mono ?_
 rintro e w25 ⟨ob25, cb25, rfl, ho25, hb25⟩
 have HL25 := Lib.hid (HL24.out.below hb25)
 have HR25 := Lib.hid (rdo_of ho25)
 clear ho25 hb25 HL24
 go_wp2_with fail
 refine (count_any [o1, o2] ob25 2 cb25 4 w25 rfl (by decide) HR25.out).mono ?_
 rintro e w26 ⟨rfl, hb26⟩
 rw [show ((cntO [o1, o2] 4 : Nat) : Int) = 0 from rfl]
 have HL26 := Lib.hid (HL25.out.below hb26)
 clear hb26 HL25 HR25
 go_wp2_with fail
 go_ret;exact ⟨rfl, HL26.out.bel⟩
end Go.Proofs.YtjkiidhnmljmbaaGreatDoor
