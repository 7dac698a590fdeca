/-
  The laws' world: does, one call on both logs.
  What the law's walk knows of both logs: the loop's state; the calls on an open log; the proofs of a record.
-/
import Derived.WalkKit
import Derived.Test.YtfpcdlpfmlaakaaGreatDoorTk
import Derived.LoopTactic
import Derived.WalkSpells
import Derived.WalkLawsBesides
import Derived.RegionTactic
import Derived.BigRegion
import Derived.IntWalk
import Derived.Outline
import Derived.Deep.QuietTactic
import Derived.BigQuiet
import Derived.Lib.Hide
import Derived.Test.YtfpcdlpfmlaakaaGreatDoorOpZ
import Derived.Test.YtfpcdlpfmlaakaaGreatDoorUU
set_option linter.unusedVariables false
set_option linter.unusedSimpArgs false
namespace Go.Proofs.YtfpcdlpfmlaakaaGreatDoor
open Go.RowKit Onair
attribute [local go_sem ↓] Go.wp_at_zero Go.wp_at_succ
attribute [local go_sem] Oper.semAt_some
/-- What a call on both leaves. -/
def DoesP (W : World) (N q b r n i : Nat) (e : Ending) (w' : World) : Prop := e = .returned (.bool true) ∧ Below N W w' ∧ ∃ D' o' x' y' S' T', WX w' N q b r D' o' x' y' S' T' ∧ Inv D' n (i + 10) ∧ OkO D' n o'
theorem bnl9 {N : Nat} {w W : World} (hN : N ≤ w.heap.size) (hb : Below N w W) : N ≤ W.heap.size := Nat.le_trans hN hb.size
set_option maxHeartbeats 8000000 in
set_option maxRecDepth 100000 in
theorem does_cut (W : World) (N q b r : Nat) (D : DS) (o : Option (List Rec × Bool)) (x y : Value) (S T : Nat → Prop) (n i : Nat) (p : Opr) (hW : WX W N q b r D o x y S T) (hT : ∀ W9, Below N W W9 → TabAt W9) (hg : 0 < N) (hi : Inv D n i) (hib : i ≤ 800000) (hn : n ≤ 1500) (ho : OkO D n o) (hp : OprI p) (hr : RdOp W N p) (hK : pickI p.kind 9 = 5) :
    Calls Tryz.prog 22 #[.pointer (some ⟨q, 0, none⟩), .agg (opA p)] W (DoesP W N q b r n i) := by
  have hNW : N ≤ W.heap.size := Nat.le_trans hW.le (Nat.le_of_lt hW.blk.lt)
  obtain ⟨B, hB⟩ : ∃ B, W.heap.size = B := ⟨_, rfl⟩
  obtain ⟨w1, hw1⟩ : ∃ w1, W.alloc (.cells (opA p) 55) = w1 := ⟨_, rfl⟩
  have hb1 : Below W.heap.size W w1 := by rw [← hw1]; exact (Below.refl _ W).alloc (Nat.le_refl _) _
  have k1 : Blk w1 B 55 (opA p).toList := by rw [← hw1, ← hB]; exact Blk.new W _ _
  have hSB : ¬ S B := fun h => by have := (hW.a.lt B h).2; omega
  have hTB : ¬ T B := fun h => by have := (hW.c.lt B h).2; omega
  have hqB : q < B := by rw [← hB]; exact hW.blk.lt
  have HX := Lib.hid (hW.below hb1)
  have HQ : Hid (Below N W w1) := hb1.mono hNW
  have HTB := Lib.hid hT
  have HPK := Lib.hid (fun W => pick_any p.kind 9 W hp.k0 hp.k1 (by decide) (by decide))
  have HRD := Lib.hid hr
  have HOP := Lib.hid hp
  have HI := Lib.hid hi
  have HO := Lib.hid ho
  have HG := Lib.hid hg
  have HNW := Lib.hid hNW
  have HSB := Lib.hid hSB
  have HTB9 := Lib.hid hTB
  have HK := Lib.hid k1
  have c0 := k1.cell 0
  dsimp only [opA, Array.toList, List.getElem?_cons_zero] at c0
  rw [hK] at HPK
  dsimp only [opA] at hw1 HK ⊢
  have hpn := pickI_bd p.n 5 (by decide)
  have HPN := Lib.hid (fun W => pick_any p.n 5 W hp.n0 hp.n1 (by decide) (by decide))
  obtain ⟨pn, hpn1⟩ : ∃ pn, pickI p.n 5 = pn := ⟨_, rfl⟩
  rw [hpn1] at hpn HPN
  obtain ⟨m, hm⟩ : ∃ m, 1 + pn = m := ⟨_, rfl⟩
  have hwr : IntKind.i64.wrap (1 + pn) = m := by rw [← hm]; exact IntWalk.i64_in (1 + pn) (by omega)
  obtain ⟨ec, hec⟩ : ∃ ec, cutE D m = ec := ⟨_, rfl⟩
  have hb2 : Below W.heap.size W w1.drew := hb1.drew
  have HQ : Hid (Below N W w1.drew) := hb2.mono hNW
  have HCA : Hid (Calls Tryz.prog 62 #[.pointer (some ⟨b, 0, none⟩), .int .i64 m] w1.drew fun e w' => e = .returned (.int .i64 ec) ∧ Below N w1.drew w' ∧ Fr S w1.drew w' ∧ OMid N q b r D (if D.lost then D else cutD D m) o x y T w') := by
    have := cutA (hW.below hb2) m
    rw [hec] at this
    exact this
  have HCC : Hid (∀ W', OMid N q b r D (if D.lost then D else cutD D m) o x y T W' → Calls Tryz.prog 63 #[.pointer (some ⟨r, 0, none⟩), .int .i64 m] W' fun e w' => e = .returned (.int .i64 ec) ∧ Below N W' w' ∧ Fr T W' w' ∧ ∃ S' T', WX w' N q b r (if D.lost then D else cutD D m) o x y S' T') := fun W' h => by
    have := cutC m h
    rw [hec] at this
    exact this
  have HI2 : Hid (Inv (if D.lost then D else cutD D m) n (i + 10)) := (hi.cutn m (by omega)).mono (by omega)
  have HO2 : Hid (OkO (if D.lost then D else cutD D m) n o) := ho.cut m (by omega)
  have HK1 : Hid (Blk w1.drew B 55 (opA p).toList) := k1.drew
  have HKC : Hid ((w1.drew.cell? ⟨q, 0, none⟩ = some (.pointer (some ⟨b, 0, none⟩)) ∧ w1.drew.cell? ⟨q, 2, none⟩ = some (.pointer (some ⟨r, 0, none⟩))) ∧ w1.drew.cell? ⟨B, 2, none⟩ = some (.int .i64 p.n)) := ⟨(hW.below hb2).blk.dd, k1.drew.cell 2⟩
  clear hpn1 hm hpn hec hb2
  clear hW hT hi ho hp hr k1 hSB hTB hb1 hNW hK hib hn hg
  dsimp only [opA] at HK1
  go_enter Tryz.func22, Tryz.ntmps22
  go_wp2_with fail
  refine (HPK.out _).mono ?_
  rintro e w' ⟨rfl, rfl⟩
  have HHB := Lib.hid hB
  clear HPK c0 hw1 hB
  go_upto_region 4 with (fail)
  clear HX HTB HRD HOP HI HO HK
  refine wp_region_held_drew (S := fun W => (W.cell? ⟨q, 0, none⟩ = some (.pointer (some ⟨b, 0, none⟩)) ∧ W.cell? ⟨q, 2, none⟩ = some (.pointer (some ⟨r, 0, none⟩))) ∧ W.cell? ⟨B, 2, none⟩ = some (.int .i64 p.n)) (by kernel_rfl) ?_ (fun hHeld => ?_)
  · exact HKC.out
  generalize w1.drew = w2 at HCA HQ HK1 HKC hHeld ⊢
  refine tk 0 (some 14) ?_
  refine tk 1 (some 15) ?_
  refine tk 2 (some 16) ?_
  refine tk 3 (some 17) ?_
  refine tk 4 (some 18) ?_
  refine tk 5 (some 19) ?_
  refine tk 9 (some 23) ?_
  refine tk 10 (some 24) ?_
  refine tk 11 (some 25) ?_
  refine tk 12 (some 26) ?_
  refine tk 13 (some 27) ?_
  refine tk 14 (some 28) ?_
  refine rd1 6 (some 20) (fun K hK => ?_)
  go_simp
  refine (HPN.out _).mono ?_
  rintro e w' ⟨rfl, rfl⟩
  go_simp
  refine hK.out _ _ ?_ (fun hHeld2 => ?_)
  · exact HKC.out
  clear hK K hHeld
  rename _ => hHeld
  try simp only [Act.put, List.setIfInBounds_toArray, List.set_cons_zero, List.set_cons_succ]
  refine tk 7 (some 21) ?_
  refine rd1 8 (some 22) (fun K hK => ?_)
  go_simp
  refine HCA.out.mono ?_
  rintro e wA ⟨rfl, hbA, hfA, hmA⟩
  have HM := Lib.hid hmA
  have HQ1 : Hid (Below N W wA) := HQ.out.trans hbA
  have HK2 := Lib.hid (HK1.out.kept (hfA.block B HK1.out.lt HSB.out))
  have HKC : Hid _ := (⟨hmA.2.dd, HK2.out.cell 2⟩ : _ ∧ _)
  clear hmA hbA hfA HCA HQ HK1
  go_simp
  refine hK.out _ _ ?_ (fun hHeld2 => ?_)
  · exact HKC.out
  clear hK K hHeld
  rename _ => hHeld
  try simp only [Act.put, List.setIfInBounds_toArray, List.set_cons_zero, List.set_cons_succ]
  refine rd1 15 (some 29) (fun K hK => ?_)
  go_simp
  refine (HPN.out _).mono ?_
  rintro e w' ⟨rfl, rfl⟩
  go_simp
  refine hK.out _ _ ?_ (fun hHeld2 => ?_)
  · exact HKC.out
  clear hK K hHeld
  rename _ => hHeld
  try simp only [Act.put, List.setIfInBounds_toArray, List.set_cons_zero, List.set_cons_succ]
  refine tk 16 (some 30) ?_
  refine rd1 17 (some 31) (fun K hK => ?_)
  go_simp
  refine (HCC.out _ HM.out).mono ?_
  rintro e wB ⟨rfl, hbB, hfB, S2, T2, hxB⟩
  have HX2 := Lib.hid hxB
  have HQ2 : Hid (Below N W wB) := HQ1.out.trans hbB
  have HKC : Hid _ := (⟨hxB.blk.dd, (HK2.out.kept (hfB.block B HK2.out.lt HTB9.out)).cell 2⟩ : _ ∧ _)
  clear hxB hbB hfB HQ1 HM
  go_simp
  refine hK.out _ _ ?_ (fun hHeld2 => ?_)
  · exact HKC.out
  clear hK K hHeld
  rename _ => hHeld
  try simp only [Act.put, List.setIfInBounds_toArray, List.set_cons_zero, List.set_cons_succ]
  refine wpAnyH_take (i := 18) (oi := ⟨some 32, _, _, _, _, _⟩) (v := .bool true) rfl (by kernel_rfl) (by kernel_rfl) (by kernel_rfl) (fun _ _ _ h => h) (Or.inl ⟨by rfl, ?yp15⟩) (by assumption) ?rp15
  case yp15 => (intro w hSw; (try dsimp only at hSw); go_simp; (first | done | (with_reducible rfl) | exact (beq_self_eq_true _) | simpa using (beq_self_eq_true _)))
  try simp only [Act.put, List.setIfInBounds_toArray, List.set_cons_zero, List.set_cons_succ]
  refine tk 19 (some 4) ?_
  refine wpAnyH_done (by kernel_rfl) ?_ _
  clear hHeld
  go_wp2_with fail
  go_ret
  exact ⟨rfl, HQ2.out, _, _, _, _, _, _, HX2.out, HI2.out, HO2.out⟩
set_option maxHeartbeats 8000000 in
set_option maxRecDepth 100000 in
theorem does_crash (W : World) (N q b r : Nat) (D : DS) (o : Option (List Rec × Bool)) (x y : Value) (S T : Nat → Prop) (n i : Nat) (p : Opr) (hW : WX W N q b r D o x y S T) (hT : ∀ W9, Below N W W9 → TabAt W9) (hg : 0 < N) (hi : Inv D n i) (hib : i ≤ 800000) (hn : n ≤ 1500) (ho : OkO D n o) (hp : OprI p) (hr : RdOp W N p) (hK : pickI p.kind 9 = 6) :
    Calls Tryz.prog 22 #[.pointer (some ⟨q, 0, none⟩), .agg (opA p)] W (DoesP W N q b r n i) := by
  have hNW : N ≤ W.heap.size := Nat.le_trans hW.le (Nat.le_of_lt hW.blk.lt)
  obtain ⟨B, hB⟩ : ∃ B, W.heap.size = B := ⟨_, rfl⟩
  obtain ⟨w1, hw1⟩ : ∃ w1, W.alloc (.cells (opA p) 55) = w1 := ⟨_, rfl⟩
  have hb1 : Below W.heap.size W w1 := by rw [← hw1]; exact (Below.refl _ W).alloc (Nat.le_refl _) _
  have k1 : Blk w1 B 55 (opA p).toList := by rw [← hw1, ← hB]; exact Blk.new W _ _
  have hSB : ¬ S B := fun h => by have := (hW.a.lt B h).2; omega
  have hTB : ¬ T B := fun h => by have := (hW.c.lt B h).2; omega
  have hqB : q < B := by rw [← hB]; exact hW.blk.lt
  have HX := Lib.hid (hW.below hb1)
  have HQ : Hid (Below N W w1) := hb1.mono hNW
  have HTB := Lib.hid hT
  have HPK := Lib.hid (fun W => pick_any p.kind 9 W hp.k0 hp.k1 (by decide) (by decide))
  have HRD := Lib.hid hr
  have HOP := Lib.hid hp
  have HI := Lib.hid hi
  have HO := Lib.hid ho
  have HG := Lib.hid hg
  have HNW := Lib.hid hNW
  have HSB := Lib.hid hSB
  have HTB9 := Lib.hid hTB
  have HK := Lib.hid k1
  have c0 := k1.cell 0
  dsimp only [opA, Array.toList, List.getElem?_cons_zero] at c0
  rw [hK] at HPK
  dsimp only [opA] at hw1 HK ⊢
  obtain ⟨kd, hkd⟩ : ∃ kd, crashD D p.ks (min p.nK 20) p.n = kd := ⟨_, rfl⟩
  have hI2 : Inv kd n (i + 1) := by rw [← hkd]; exact hi.crash p.ks (min p.nK 20) p.n
  obtain ⟨mk, hmk⟩ : ∃ mk, min p.nK 20 = mk := ⟨_, rfl⟩
  have hmk1 : mk ≤ p.nK := by omega
  have hmk2 : min (p.nK : Int) 20 = (mk : Int) := by omega
  have hmk3 : (mk : Int) ≤ (p.cK : Int) := by have := hp.kc; omega
  have hmk4 : (0 : Int) ≤ (mk : Int) := by omega
  rw [hmk] at hkd
  have hmx : mk ≤ maxLen := Nat.le_trans hmk1 (Nat.le_trans hp.kc hp.km)
  have hb2 : Below W.heap.size W w1.drew := hb1.drew
  have HQ : Hid (Below N W w1.drew) := hb2.mono hNW
  have HRK : Hid (∀ W', Below N W W' → IntsB W' N p.oK mk p.ks) := fun W' h => (hr.k.less hmk1).below h
  have HCA : Hid (Calls Tryz.prog 64 #[.pointer (some ⟨b, 0, none⟩), .slice p.oK mk p.cK, .int .i64 p.n] w1.drew fun e w' => e = .returned (.int .i64 0) ∧ Below N w1.drew w' ∧ Fr S w1.drew w' ∧ OMid N q b r D kd o x y T w') := by
    have := crashA (hW.below hb2) p.oK mk p.cK p.ks p.n hmx hp.ki hp.n0 hp.n1 hi (by omega) (by omega) (HRK.out _ HQ.out)
    rw [hkd] at this
    exact this
  have HCC : Hid (∀ W', Below N W W' → OMid N q b r D kd o x y T W' → Calls Tryz.prog 65 #[.pointer (some ⟨r, 0, none⟩), .slice p.oK mk p.cK, .int .i64 p.n] W' fun e w' => (∃ v, e = .returned v) ∧ Below N W' w' ∧ Fr T W' w' ∧ ∃ S' T', WX w' N q b r kd o x y S' T') := fun W' h' h => by
    have := crashC (n := n) (i := i) p.oK mk p.cK p.ks p.n (by rw [hkd]; exact h) hmx hp.n0 hp.n1 hi (by omega) (HRK.out _ h')
    rw [hkd] at this
    exact this
  have HI2 := Lib.hid hI2
  have HK1 : Hid (Blk w1.drew B 55 (opA p).toList) := k1.drew
  have HKC : Hid (w1.drew.cell? ⟨q, 0, none⟩ = some (.pointer (some ⟨b, 0, none⟩)) ∧ w1.drew.cell? ⟨B, 2, none⟩ = some (.int .i64 p.n)) := ⟨(hW.below hb2).blk.dd.1, k1.drew.cell 2⟩
  have c3 := k1.cell 3
  dsimp only [opA, Array.toList, List.getElem?_cons_zero, List.getElem?_cons_succ] at c3
  have HIB : Hid (i ≤ 800000) := hib
  have HN15 : Hid (n ≤ 1500) := hn
  clear hkd hmk hmk1 hmx hI2 hb2
  clear hW hT hi ho hp hr k1 hSB hTB hb1 hNW hK hib hn hg
  dsimp only [opA] at HK1
  go_enter Tryz.func22, Tryz.ntmps22
  go_wp2_with fail
  refine (HPK.out _).mono ?_
  rintro e w' ⟨rfl, rfl⟩
  have HHB := Lib.hid hB
  clear HPK c0 hw1 hB
  go_upto_region 7 with (fail)
  have hib := HIB.out
  have hn := HN15.out
  clear HX HRD HOP HI HO HK
  refine wp_region_held_drew (S := fun W => W.cell? ⟨q, 0, none⟩ = some (.pointer (some ⟨b, 0, none⟩)) ∧ W.cell? ⟨B, 2, none⟩ = some (.int .i64 p.n)) (by kernel_rfl) ?_ (fun hHeld => ?_)
  · exact HKC.out
  generalize w1.drew = w2 at HCA HQ HK1 HKC hHeld ⊢
  refine tk 0 (some 42) ?_
  refine tk 1 (some 43) ?_
  refine tk 2 (some 44) ?_
  refine tk 3 (some 45) ?_
  refine tk 4 (some 46) ?_
  refine tk 5 (some 47) ?_
  refine tk 6 (some 48) ?_
  refine rd1 7 (some 49) (fun K hK => ?_)
  go_simp
  refine HCA.out.mono ?_
  rintro e wA ⟨rfl, hbA, hfA, hmA⟩
  have HM := Lib.hid hmA
  have HQ1 : Hid (Below N W wA) := HQ.out.trans hbA
  have HK2 := Lib.hid (HK1.out.kept (hfA.block B HK1.out.lt HSB.out))
  have HKC := Lib.hid (And.intro hmA.2.dd.1 (HK2.out.cell 2))
  have HKD := Lib.hid (And.intro hmA.2.dd.2 (HK2.out.cell 2))
  clear hmA hbA hfA HCA HQ HK1
  go_simp
  refine hK.out _ _ ?_ (fun hHeld2 => ?_)
  · exact HKC.out
  clear hK K hHeld
  rename _ => hHeld
  try simp only [Act.put, List.setIfInBounds_toArray, List.set_cons_zero, List.set_cons_succ]
  refine wpAnyH_done (by kernel_rfl) ?_ _
  clear hHeld
  go_upto_region 8 with (fail)
  have HM2 := Lib.hid (OMid.below HM.out (bnl9 HNW.out HQ1.out) (Below.refl _ wA).drew)
  have HQ12 : Hid (Below N W wA.drew) := HQ1.out.drew
  have HK22 : Hid (Blk wA.drew B 55 _) := HK2.out.drew
  have HKD2 : Hid _ := (And.intro HM2.out.2.dd.2 (HK22.out.cell 2))
  clear HM HQ1 HK2 HKC HKD
  refine wp_region_held_drew (S := fun W => W.cell? ⟨q, 2, none⟩ = some (.pointer (some ⟨r, 0, none⟩)) ∧ W.cell? ⟨B, 2, none⟩ = some (.int .i64 p.n)) (by kernel_rfl) ?_ (fun hHeld => ?_)
  · exact HKD2.out
  generalize wA.drew = wA2 at HM2 HQ12 HK22 hHeld ⊢
  refine tk 0 (some 50) ?_
  refine tk 1 (some 51) ?_
  refine tk 2 (some 52) ?_
  refine tk 3 (some 53) ?_
  refine tk 4 (some 54) ?_
  refine tk 5 (some 55) ?_
  refine tk 6 (some 56) ?_
  refine rd1 7 (some 57) (fun K hK => ?_)
  go_simp
  refine (HCC.out _ HQ12.out HM2.out).mono ?_
  rintro e wB ⟨⟨ev, rfl⟩, hbB, hfB, S2, T2, hxB⟩
  have HX2 := Lib.hid hxB
  have HQ2 : Hid (Below N W wB) := HQ12.out.trans hbB
  have HKC := Lib.hid (And.intro hxB.blk.dd.2 ((HK22.out.kept (hfB.block B HK22.out.lt HTB9.out)).cell 2))
  clear hxB hbB hfB HQ12 HM2 HK22
  go_simp
  refine hK.out _ _ ?_ (fun hHeld2 => ?_)
  · exact HKC.out
  clear hK K hHeld
  rename _ => hHeld
  try simp only [Act.put, List.setIfInBounds_toArray, List.set_cons_zero, List.set_cons_succ]
  refine wpAnyH_done (by kernel_rfl) ?_ _
  clear hHeld
  go_wp2_with fail
  refine (openW _ N q b r _ _ _ _ _ _ n (i + 1) HX2.out (HTB.out _ HQ2.out) HI2.out (by omega) (by omega)).mono ?_
  rintro e wC ⟨rfl, hbC, x', y', S', T', hx'⟩
  have HX3 := Lib.hid hx'
  have HQ3 : Hid (Below N W wC) := HQ2.out.trans hbC
  clear hx' hbC HX2 HQ2
  go_wp2_with fail
  go_ret
  exact ⟨rfl, HQ3.out, _, _, _, _, _, _, HX3.out, HI2.out.opened.mono (by omega), OkO.opened HI2.out⟩
set_option maxHeartbeats 8000000 in
set_option maxRecDepth 100000 in
theorem does_open (W : World) (N q b r : Nat) (D : DS) (o : Option (List Rec × Bool)) (x y : Value) (S T : Nat → Prop) (n i : Nat) (p : Opr) (hW : WX W N q b r D o x y S T) (hT : ∀ W9, Below N W W9 → TabAt W9) (hg : 0 < N) (hi : Inv D n i) (hib : i ≤ 800000) (hn : n ≤ 1500) (ho : OkO D n o) (hp : OprI p) (hr : RdOp W N p) (hK : pickI p.kind 9 = 7) :
    Calls Tryz.prog 22 #[.pointer (some ⟨q, 0, none⟩), .agg (opA p)] W (DoesP W N q b r n i) := by
  have hNW : N ≤ W.heap.size := Nat.le_trans hW.le (Nat.le_of_lt hW.blk.lt)
  obtain ⟨B, hB⟩ : ∃ B, W.heap.size = B := ⟨_, rfl⟩
  obtain ⟨w1, hw1⟩ : ∃ w1, W.alloc (.cells (opA p) 55) = w1 := ⟨_, rfl⟩
  have hb1 : Below W.heap.size W w1 := by rw [← hw1]; exact (Below.refl _ W).alloc (Nat.le_refl _) _
  have k1 : Blk w1 B 55 (opA p).toList := by rw [← hw1, ← hB]; exact Blk.new W _ _
  have hSB : ¬ S B := fun h => by have := (hW.a.lt B h).2; omega
  have hTB : ¬ T B := fun h => by have := (hW.c.lt B h).2; omega
  have hqB : q < B := by rw [← hB]; exact hW.blk.lt
  have HX := Lib.hid (hW.below hb1)
  have HQ : Hid (Below N W w1) := hb1.mono hNW
  have HTB := Lib.hid hT
  have HPK := Lib.hid (fun W => pick_any p.kind 9 W hp.k0 hp.k1 (by decide) (by decide))
  have HRD := Lib.hid hr
  have HOP := Lib.hid hp
  have HI := Lib.hid hi
  have HO := Lib.hid ho
  have HG := Lib.hid hg
  have HNW := Lib.hid hNW
  have HSB := Lib.hid hSB
  have HTB9 := Lib.hid hTB
  have HK := Lib.hid k1
  have c0 := k1.cell 0
  dsimp only [opA, Array.toList, List.getElem?_cons_zero] at c0
  rw [hK] at HPK
  dsimp only [opA] at hw1 HK ⊢
  have HIB : Hid (i ≤ 800000) := hib
  have HN15 : Hid (n ≤ 1500) := hn
  clear hW hT hi ho hp hr k1 hSB hTB hb1 hNW hK hib hn hg
  go_enter Tryz.func22, Tryz.ntmps22
  go_wp2_with fail
  refine (HPK.out _).mono ?_
  rintro e w' ⟨rfl, rfl⟩
  have HHB := Lib.hid hB
  clear HPK c0 hw1 hB
  go_wp2_with fail
  have HX2 := HX
  have HI2 := HI
  have HQ2 := HQ
  have hib := HIB.out
  have hn := HN15.out
  clear HX HI HQ HRD HOP HO HK
  refine (openW _ N q b r _ _ _ _ _ _ n i HX2.out (HTB.out _ HQ2.out) HI2.out (by omega) (by omega)).mono ?_
  rintro e wC ⟨rfl, hbC, x', y', S', T', hx'⟩
  have HX3 := Lib.hid hx'
  have HQ3 : Hid (Below N W wC) := HQ2.out.trans hbC
  clear hx' hbC HX2 HQ2
  go_wp2_with fail
  go_ret
  exact ⟨rfl, HQ3.out, _, _, _, _, _, _, HX3.out, HI2.out.opened.mono (by omega), OkO.opened HI2.out⟩
set_option maxHeartbeats 8000000 in
set_option maxRecDepth 100000 in
theorem does_nil (W : World) (N q b r : Nat) (D : DS) (y : Value) (S T : Nat → Prop) (n i : Nat) (p : Opr) (hW : WX W N q b r D none (.pointer none) y S T) (hT : ∀ W9, Below N W W9 → TabAt W9) (hg : 0 < N) (hi : Inv D n i) (hib : i ≤ 800000) (hn : n ≤ 1500) (ho : OkO D n none) (hp : OprI p) (hr : RdOp W N p) (h5 : ¬ pickI p.kind 9 = 5) (h6 : ¬ pickI p.kind 9 = 6) (h7 : ¬ pickI p.kind 9 = 7) :
    Calls Tryz.prog 22 #[.pointer (some ⟨q, 0, none⟩), .agg (opA p)] W (DoesP W N q b r n i) := by
  have hNW : N ≤ W.heap.size := Nat.le_trans hW.le (Nat.le_of_lt hW.blk.lt)
  obtain ⟨B, hB⟩ : ∃ B, W.heap.size = B := ⟨_, rfl⟩
  obtain ⟨w1, hw1⟩ : ∃ w1, W.alloc (.cells (opA p) 55) = w1 := ⟨_, rfl⟩
  have hb1 : Below W.heap.size W w1 := by rw [← hw1]; exact (Below.refl _ W).alloc (Nat.le_refl _) _
  have k1 : Blk w1 B 55 (opA p).toList := by rw [← hw1, ← hB]; exact Blk.new W _ _
  have hSB : ¬ S B := fun h => by have := (hW.a.lt B h).2; omega
  have hTB : ¬ T B := fun h => by have := (hW.c.lt B h).2; omega
  have hqB : q < B := by rw [← hB]; exact hW.blk.lt
  have HX := Lib.hid (hW.below hb1)
  have HQ : Hid (Below N W w1) := hb1.mono hNW
  have HTB := Lib.hid hT
  have HPK := Lib.hid (fun W => pick_any p.kind 9 W hp.k0 hp.k1 (by decide) (by decide))
  have HRD := Lib.hid hr
  have HOP := Lib.hid hp
  have HI := Lib.hid hi
  have HO := Lib.hid ho
  have HG := Lib.hid hg
  have HNW := Lib.hid hNW
  have HSB := Lib.hid hSB
  have HTB9 := Lib.hid hTB
  have HK := Lib.hid k1
  have c0 := k1.cell 0
  dsimp only [opA, Array.toList, List.getElem?_cons_zero] at c0
  obtain ⟨kd, hkd⟩ : ∃ kd, pickI p.kind 9 = kd := ⟨_, rfl⟩
  rw [hkd] at HPK h5 h6 h7 
  have e5 : (kd == 5) = false := by rw [beq_eq_false_iff_ne]; exact h5
  have e6 : (kd == 6) = false := by rw [beq_eq_false_iff_ne]; exact h6
  have e7 : (kd == 7) = false := by rw [beq_eq_false_iff_ne]; exact h7
  clear hkd h5 h6 h7
  dsimp only [opA] at hw1 HK ⊢
  have HFW : Hid (∀ W', Below N W W' → Calls Tryz.prog 11 #[.slice p.oL p.l.length p.cL] W' (CloP W'.heap.size W' (fewL p.l))) := fun W' h => few_any p.oL p.cL p.l W' (Nat.le_trans hp.lc hp.lm) hp.li (hr.l W' h)
  obtain ⟨ln, hln⟩ : ∃ ln, p.l.length = ln := ⟨_, rfl⟩
  have hL6 := fewL_len p.l
  have HLI := Lib.hid (valid_I (fewL_valid p.l))
  obtain ⟨L, hL⟩ : ∃ L, fewL p.l = L := ⟨_, rfl⟩
  rw [hL] at HFW hL6 HLI
  rw [hln] at HFW
  have hb2 : Below W.heap.size W w1.drew := hb1.drew
  have c1 : w1.cell? ⟨q, 1, none⟩ = some (.pointer none) := (hW.below hb1).blk.two.1
  have HX9 := Lib.hid (hW.below hb2)
  have HQ9 : Hid (Below N W w1.drew) := hb2.mono hNW
  have HK1 : Hid (Blk w1.drew B 55 (opA p).toList) := k1.drew
  have HKC : Hid (w1.drew.cell? ⟨q, 1, none⟩ = some (.pointer none) ∧ w1.drew.cell? ⟨B, 1, none⟩ = some (.slice p.oL ln p.cL)) := ⟨(hW.below hb2).blk.two.1, by rw [← hln]; exact k1.drew.cell 1⟩
  clear hL6 hL hb2
  clear hW hT hi ho hp hr k1 hSB hTB hb1 hNW hib hn hg
  dsimp only [opA] at HK1
  rw [hln] at HK1 HK hw1 ⊢
  clear hln
  go_enter Tryz.func22, Tryz.ntmps22
  go_wp2_with fail
  refine (HPK.out _).mono ?_
  rintro e w' ⟨rfl, rfl⟩
  have HHB := Lib.hid hB
  clear HPK c0 hw1 hB
  go_upto_region 13 with (fail)
  clear HX HQ HK HRD HOP c1
  have HX := HX9
  have HQ := HQ9
  clear HX9 HQ9
  refine wp_region_held_drew (S := fun W => W.cell? ⟨q, 1, none⟩ = some (.pointer none) ∧ W.cell? ⟨B, 1, none⟩ = some (.slice p.oL ln p.cL)) (by kernel_rfl) ?_ (fun hHeld => ?_)
  · exact HKC.out
  generalize w1.drew = w2 at HX HQ HK1 HKC hHeld ⊢
  refine tk 0 (some 69) ?_
  refine tk 1 (some 70) ?_
  refine tk 2 (some 71) ?_
  refine tk 3 (some 72) ?_
  refine tk 4 (some 73) ?_
  refine tk 5 (some 74) ?_
  refine rd1 6 (some 75) (fun K hK => ?_)
  go_simp
  refine (HFW.out _ HQ.out).mono ?_
  rintro e wB ⟨oF, cF, rfl, howF, hbF⟩
  have HQ1 : Hid (Below N W wB) := HQ.out.trans (hbF.mono (bnl9 HNW.out HQ.out))
  have HX1 := Lib.hid (HX.out.below hbF)
  have HK2 := Lib.hid (HK1.out.kept (hbF.block B HK1.out.lt))
  have HKC := Lib.hid (And.intro HX1.out.blk.two.1 (HK2.out.cell 1))
  clear howF hbF HQ HX HK1
  go_simp
  refine hK.out _ _ ?_ (fun hHeld2 => ?_)
  · exact HKC.out
  clear hK K hHeld
  rename _ => hHeld
  try simp only [Act.put, List.setIfInBounds_toArray, List.set_cons_zero, List.set_cons_succ]
  refine rd1 7 (some 76) (fun K hK => ?_)
  go_simp
  refine (append_nil _ oF _ cF).mono ?_
  rintro e wC ⟨rfl, hbC⟩
  have HQ2 : Hid (Below N W wC) := HQ1.out.trans (hbC.mono (bnl9 HNW.out HQ1.out))
  have HX2 := Lib.hid (HX1.out.below hbC)
  have HKC := Lib.hid (And.intro HX2.out.blk.two.1 ((HK2.out.kept (hbC.block B HK2.out.lt)).cell 1))
  clear hbC HQ1 HX1 HK2
  go_simp
  refine hK.out _ _ ?_ (fun hHeld2 => ?_)
  · exact HKC.out
  clear hK K hHeld
  rename _ => hHeld
  try simp only [Act.put, List.setIfInBounds_toArray, List.set_cons_zero, List.set_cons_succ]
  refine tk 8 (some 77) ?_
  refine tk 9 (some 4) ?_
  refine wpAnyH_done (by kernel_rfl) ?_ _
  clear hHeld
  go_wp2_with fail
  go_ret
  exact ⟨rfl, HQ2.out, _, _, _, _, _, _, HX2.out, HI.out.mono (by omega), HO.out⟩
set_option maxHeartbeats 8000000 in
set_option maxRecDepth 100000 in
theorem does_few (W : World) (N q b r : Nat) (D : DS) (R : List Rec) (br : Bool) (x y : Value) (S T : Nat → Prop) (n i : Nat) (p : Opr) (hW : WX W N q b r D (some (R, br)) x y S T) (hT : ∀ W9, Below N W W9 → TabAt W9) (hg : 0 < N) (hi : Inv D n i) (hib : i ≤ 800000) (hn : n ≤ 1500) (ho : OkO D n (some (R, br))) (hp : OprI p) (hr : RdOp W N p) (h5 : ¬ pickI p.kind 9 = 5) (h6 : ¬ pickI p.kind 9 = 6) (h7 : ¬ pickI p.kind 9 = 7) (h8 : ¬ pickI p.kind 9 = 8) :
    Calls Tryz.prog 22 #[.pointer (some ⟨q, 0, none⟩), .agg (opA p)] W (DoesP W N q b r n i) := by
  obtain ⟨bl, FA, GA, rfl, _, _⟩ := hW.a.ptr
  obtain ⟨cl, FC, GC, rfl, _, _⟩ := hW.c.ptr
  obtain ⟨ho1, ho2, _⟩ := ho R br rfl
  have hRl : 33 * R.length ≤ endN R := (logL_bd zero32 R).2
  have hNW : N ≤ W.heap.size := Nat.le_trans hW.le (Nat.le_of_lt hW.blk.lt)
  obtain ⟨B, hB⟩ : ∃ B, W.heap.size = B := ⟨_, rfl⟩
  obtain ⟨w1, hw1⟩ : ∃ w1, W.alloc (.cells (opA p) 55) = w1 := ⟨_, rfl⟩
  have hb1 : Below W.heap.size W w1 := by rw [← hw1]; exact (Below.refl _ W).alloc (Nat.le_refl _) _
  have k1 : Blk w1 B 55 (opA p).toList := by rw [← hw1, ← hB]; exact Blk.new W _ _
  have hSB : ¬ S B := fun h => by have := (hW.a.lt B h).2; omega
  have hTB : ¬ T B := fun h => by have := (hW.c.lt B h).2; omega
  have hqB : q < B := by rw [← hB]; exact hW.blk.lt
  have HX := Lib.hid (hW.below hb1)
  have HQ : Hid (Below N W w1) := hb1.mono hNW
  have HTB := Lib.hid hT
  have HPK := Lib.hid (fun W => pick_any p.kind 9 W hp.k0 hp.k1 (by decide) (by decide))
  have HRD := Lib.hid hr
  have HOP := Lib.hid hp
  have HI := Lib.hid hi
  have HO := Lib.hid ho
  have HG := Lib.hid hg
  have HNW := Lib.hid hNW
  have HSB := Lib.hid hSB
  have HTB9 := Lib.hid hTB
  have HK := Lib.hid k1
  have c0 := k1.cell 0
  dsimp only [opA, Array.toList, List.getElem?_cons_zero] at c0
  obtain ⟨kd, hkd⟩ : ∃ kd, pickI p.kind 9 = kd := ⟨_, rfl⟩
  rw [hkd] at HPK h5 h6 h7 h8
  have e5 : (kd == 5) = false := by rw [beq_eq_false_iff_ne]; exact h5
  have e6 : (kd == 6) = false := by rw [beq_eq_false_iff_ne]; exact h6
  have e7 : (kd == 7) = false := by rw [beq_eq_false_iff_ne]; exact h7
  have e8 : (kd == 8) = false := by rw [beq_eq_false_iff_ne]; exact h8
  clear h8
  clear hkd h5 h6 h7
  dsimp only [opA] at hw1 HK ⊢
  have HFW : Hid (∀ W', Below N W W' → Calls Tryz.prog 11 #[.slice p.oL p.l.length p.cL] W' (CloP W'.heap.size W' (fewL p.l))) := fun W' h => few_any p.oL p.cL p.l W' (Nat.le_trans hp.lc hp.lm) hp.li (hr.l W' h)
  obtain ⟨ln, hln⟩ : ∃ ln, p.l.length = ln := ⟨_, rfl⟩
  have hL6 := fewL_len p.l
  have HLI := Lib.hid (valid_I (fewL_valid p.l))
  obtain ⟨L, hL⟩ : ∃ L, fewL p.l = L := ⟨_, rfl⟩
  rw [hL] at HFW hL6 HLI
  rw [hln] at HFW
  have HIO := Lib.hid (OkO.app hi ho L)
  obtain ⟨ec, hec⟩ : ∃ ec, (appC ⟨D, R, br⟩ L).1 = ec := ⟨_, rfl⟩
  have HEC := Lib.hid hec
  have HR9 : Hid (R.length ≤ 100000) := (by omega : R.length ≤ 100000)
  have HLO : Hid (br = false → D.lost = false) := ho2
  have HIB : Hid (i ≤ 800000) := hib
  have HN15 : Hid (n ≤ 1500) := hn
  have HSlt : Hid (∀ k, S k → k < W.heap.size) := fun k hk => (hW.a.lt k hk).2
  have HTlt : Hid (∀ k, T k → k < W.heap.size) := fun k hk => (hW.c.lt k hk).2
  have HSge : Hid (∀ k, S k → N ≤ k) := fun k hk => (hW.a.lt k hk).1
  have HTge : Hid (∀ k, T k → N ≤ k) := fun k hk => (hW.c.lt k hk).1
  clear hec ho1 ho2 hRl
  have c1 : w1.cell? ⟨q, 1, none⟩ = some (.pointer (some ⟨bl, 0, none⟩)) := (hW.below hb1).blk.two.1
  have b1 := k1.cell 1
  dsimp only [opA, Array.toList, List.getElem?_cons_zero, List.getElem?_cons_succ] at b1
  rw [hln] at b1
  have HWz : Hid (Below W.heap.size W w1) := hb1
  clear hW hT hi ho hp hr k1 hSB hTB hb1 hNW hib hn hg
  rw [hln] at HK hw1 ⊢
  clear hln hL
  go_enter Tryz.func22, Tryz.ntmps22
  go_wp2_with fail
  refine (HPK.out _).mono ?_
  rintro e w' ⟨rfl, rfl⟩
  have HHB := Lib.hid hB
  clear HPK c0 hw1 hB
  go_wp2_with fail
  refine (HFW.out _ HQ.out).mono ?_
  rintro e wF ⟨oF, cF, rfl, howF, hbF⟩
  have hgeF := own_ge howF
  obtain ⟨ml, hml⟩ : ∃ ml, L.length = ml := ⟨_, rfl⟩
  have HLM := Lib.hid hml
  have HXF := Lib.hid (HX.out.below hbF)
  have HQF : Hid (Below N W wF) := HQ.out.trans (hbF.mono (bnl9 HNW.out HQ.out))
  have HLC : Hid (L.length ≤ cF ∧ cF ≤ 9223372036854775807) := ⟨(own_rdr howF).2.1, (own_rdr howF).2.2.1⟩
  have HRLF := Lib.hid (own_rdr howF).2.2.2
  have HNS : Hid (∀ b o, oF = some ⟨b, o, none⟩ → ¬ S b) := fun b o e h => by
    have h1 := HSlt.out b h
    subst e
    have h2 := own_ge howF b rfl
    have := HWz.out.size
    omega
  have HNT : Hid (L ≠ [] → ∀ b o, oF = some ⟨b, o, none⟩ → ¬ T b) := fun _ b o e h => by
    have h1 := HTlt.out b h
    subst e
    have h2 := own_ge howF b rfl
    have := HWz.out.size
    omega
  clear howF hgeF hbF HX HQ
  rw [hml]
  clear hml
  go_upto_region 17 with (fail)
  have hbF9 : Below N W wF.drew := HQF.out.drew
  have HX : Hid (WX wF.drew N q b r D (some (R, br)) (.pointer (some ⟨bl, 0, none⟩)) (.pointer (some ⟨cl, 0, none⟩)) S T) := HXF.out.below (Below.refl _ wF).drew
  have HQ := Lib.hid hbF9
  have HRL : Hid (RdR wF.drew oF L) := HRLF.out.kept (Below.refl _ wF).drew
  have HAA : Hid (Calls Tryz.prog 10 #[.pointer (some ⟨bl, 0, none⟩), .slice oF ml cF] wF.drew fun e w' => e = .returned (.int .i64 ec) ∧ SideP (fun w x S => SA w N b x S (appC ⟨D, R, br⟩ L).2.D (some ((appC ⟨D, R, br⟩ L).2.R, (appC ⟨D, R, br⟩ L).2.br))) wF.drew S (.pointer (some ⟨bl, 0, none⟩)) w') := by
    have := appendA (n := n) (i := i) L oF cF (by omega) HLC.out.1 HLC.out.2 HLI.out HR9.out HRL.out (HTB.out _ HQ.out) HG.out HLO.out HI.out (by have := HIB.out; omega) HX.out.a
    rw [HEC.out, HLM.out] at this
    exact this
  have HAC : Hid (∀ W', RdR W' oF L → SC W' N r (.pointer (some ⟨cl, 0, none⟩)) T D (some (R, br)) → Calls Tryz.prog 12 #[.pointer (some ⟨cl, 0, none⟩), .slice oF ml cF] W' fun e w' => e = .returned (.int .i64 ec) ∧ SideP (fun w x S => SC w N r x S (appC ⟨D, R, br⟩ L).2.D (some ((appC ⟨D, R, br⟩ L).2.R, (appC ⟨D, R, br⟩ L).2.br))) W' T (.pointer (some ⟨cl, 0, none⟩)) w') := fun W' h1 h2 => by
    have := appendC (n := n) (i := i) L oF cF (by omega) HLI.out HR9.out h1 HNT.out HLO.out HI.out (by have := HIB.out; omega) (by have := HN15.out; omega) h2
    rw [HEC.out, HLM.out] at this
    exact this
  have HKC := Lib.hid HX.out.blk.two
  clear HXF HQF HRLF HK HRD HOP HFW
  refine wp_region_held_drew (S := fun W => W.cell? ⟨q, 1, none⟩ = some (.pointer (some ⟨bl, 0, none⟩)) ∧ W.cell? ⟨q, 3, none⟩ = some (.pointer (some ⟨cl, 0, none⟩))) (by kernel_rfl) ?_ (fun hHeld => ?_)
  · exact HKC.out
  generalize wF.drew = w2 at HX HQ HAA HRL HKC hHeld ⊢
  refine tk 0 (some 90) ?_
  refine tk 1 (some 91) ?_
  refine tk 2 (some 92) ?_
  refine tk 3 (some 93) ?_
  refine tk 4 (some 94) ?_
  refine tk 6 (some 96) ?_
  refine tk 7 (some 97) ?_
  refine tk 8 (some 98) ?_
  refine tk 9 (some 99) ?_
  refine tk 10 (some 100) ?_
  refine rd1 5 (some 95) (fun K hK => ?_)
  go_simp
  refine HAA.out.mono ?_
  rintro e wC ⟨rfl, hsC⟩
  obtain ⟨hscC, hbkC, hblC, hstC⟩ := HX.out.two hsC
  obtain ⟨SZ, _, _, hfC⟩ := hsC
  have HSC := Lib.hid hscC
  have HST := Lib.hid hstC
  have HRC := Lib.hid (HRL.out.fr hfC HNS.out)
  have HQ3 : Hid (Below N W wC) := HQ.out.trans hblC
  have HKC := Lib.hid hbkC.two
  clear hfC hscC hbkC hblC hstC HX HQ HAA HRL HNS
  go_simp
  refine hK.out _ _ ?_ (fun hHeld2 => ?_)
  · exact HKC.out
  clear hK K hHeld
  rename _ => hHeld
  try simp only [Act.put, List.setIfInBounds_toArray, List.set_cons_zero, List.set_cons_succ]
  refine rd1 11 (some 101) (fun K hK => ?_)
  go_simp
  refine (HAC.out _ HRC.out HSC.out).mono ?_
  rintro e wE ⟨rfl, hsE⟩
  obtain ⟨hblE, _, S2, T2, _, hxE⟩ := HST.out _ wE hsE
  have HX5 := Lib.hid (hxE rfl rfl)
  have HQ5 : Hid (Below N W wE) := HQ3.out.trans hblE
  have HKC := Lib.hid HX5.out.blk.two
  clear hsE hblE hxE HST HSC HRC HAC HQ3
  go_simp
  refine hK.out _ _ ?_ (fun hHeld2 => ?_)
  · exact HKC.out
  clear hK K hHeld
  rename _ => hHeld
  try simp only [Act.put, List.setIfInBounds_toArray, List.set_cons_zero, List.set_cons_succ]
  refine wpAnyH_take (i := 12) (oi := ⟨some 102, _, _, _, _, _⟩) (v := .bool true) rfl (by kernel_rfl) (by kernel_rfl) (by kernel_rfl) (fun _ _ _ h => h) (Or.inl ⟨by rfl, ?ya11⟩) (by assumption) ?ra11
  case ya11 => (intro w hSw; (try dsimp only at hSw); go_simp; (first | done | (with_reducible rfl) | exact (beq_self_eq_true _) | simpa using (beq_self_eq_true _)))
  try simp only [Act.put, List.setIfInBounds_toArray, List.set_cons_zero, List.set_cons_succ]
  refine tk 13 (some 4) ?_
  refine wpAnyH_done (by kernel_rfl) ?_ _
  clear hHeld
  go_wp2_with fail
  go_ret
  exact ⟨rfl, HQ5.out, _, _, _, _, _, _, HX5.out, HIO.out.1.mono (by omega), HIO.out.2⟩
set_option maxHeartbeats 8000000 in
set_option maxRecDepth 100000 in
theorem does_raw (W : World) (N q b r : Nat) (D : DS) (R : List Rec) (br : Bool) (x y : Value) (S T : Nat → Prop) (n i : Nat) (p : Opr) (hW : WX W N q b r D (some (R, br)) x y S T) (hT : ∀ W9, Below N W W9 → TabAt W9) (hg : 0 < N) (hi : Inv D n i) (hib : i ≤ 800000) (hn : n ≤ 1500) (ho : OkO D n (some (R, br))) (hp : OprI p) (hr : RdOp W N p) (h8 : pickI p.kind 9 = 8) :
    Calls Tryz.prog 22 #[.pointer (some ⟨q, 0, none⟩), .agg (opA p)] W (DoesP W N q b r n i) := by
  obtain ⟨bl, FA, GA, rfl, _, _⟩ := hW.a.ptr
  obtain ⟨cl, FC, GC, rfl, _, _⟩ := hW.c.ptr
  obtain ⟨ho1, ho2, _⟩ := ho R br rfl
  have hRl : 33 * R.length ≤ endN R := (logL_bd zero32 R).2
  have hNW : N ≤ W.heap.size := Nat.le_trans hW.le (Nat.le_of_lt hW.blk.lt)
  obtain ⟨B, hB⟩ : ∃ B, W.heap.size = B := ⟨_, rfl⟩
  obtain ⟨w1, hw1⟩ : ∃ w1, W.alloc (.cells (opA p) 55) = w1 := ⟨_, rfl⟩
  have hb1 : Below W.heap.size W w1 := by rw [← hw1]; exact (Below.refl _ W).alloc (Nat.le_refl _) _
  have k1 : Blk w1 B 55 (opA p).toList := by rw [← hw1, ← hB]; exact Blk.new W _ _
  have hSB : ¬ S B := fun h => by have := (hW.a.lt B h).2; omega
  have hTB : ¬ T B := fun h => by have := (hW.c.lt B h).2; omega
  have hqB : q < B := by rw [← hB]; exact hW.blk.lt
  have HX := Lib.hid (hW.below hb1)
  have HQ : Hid (Below N W w1) := hb1.mono hNW
  have HTB := Lib.hid hT
  have HPK := Lib.hid (fun W => pick_any p.kind 9 W hp.k0 hp.k1 (by decide) (by decide))
  have HRD := Lib.hid hr
  have HOP := Lib.hid hp
  have HI := Lib.hid hi
  have HO := Lib.hid ho
  have HG := Lib.hid hg
  have HNW := Lib.hid hNW
  have HSB := Lib.hid hSB
  have HTB9 := Lib.hid hTB
  have HK := Lib.hid k1
  have c0 := k1.cell 0
  dsimp only [opA, Array.toList, List.getElem?_cons_zero] at c0
  obtain ⟨kd, hkd⟩ : ∃ kd, pickI p.kind 9 = kd := ⟨_, rfl⟩
  rw [hkd] at HPK h8
  have h5 : ¬ kd = 5 := by omega
  have h6 : ¬ kd = 6 := by omega
  have h7 : ¬ kd = 7 := by omega
  have e5 : (kd == 5) = false := by rw [beq_eq_false_iff_ne]; exact h5
  have e6 : (kd == 6) = false := by rw [beq_eq_false_iff_ne]; exact h6
  have e7 : (kd == 7) = false := by rw [beq_eq_false_iff_ne]; exact h7
  have e8 : (kd == 8) = true := by rw [beq_iff_eq]; exact h8
  clear h8
  clear hkd h5 h6 h7
  dsimp only [opA] at hw1 HK ⊢
  have HFW : Hid (∀ W', Below N W W' → Calls Tryz.prog 11 #[.slice p.oL p.l.length p.cL] W' (CloP W'.heap.size W' (fewL p.l))) := fun W' h => few_any p.oL p.cL p.l W' (Nat.le_trans hp.lc hp.lm) hp.li (hr.l W' h)
  obtain ⟨ln, hln⟩ : ∃ ln, p.l.length = ln := ⟨_, rfl⟩
  have hL6 := fewL_len p.l
  have HLI := Lib.hid (valid_I (fewL_valid p.l))
  obtain ⟨L, hL⟩ : ∃ L, fewL p.l = L := ⟨_, rfl⟩
  rw [hL] at HFW hL6 HLI
  rw [hln] at HFW
  obtain ⟨ml, hml⟩ : ∃ ml, (p.raw.take 4).length = ml := ⟨_, rfl⟩
  have hml2 : min p.raw.length 4 = ml := by rw [← hml, List.length_take]; omega
  have hL4 : (p.raw.take 4).length ≤ 4 := by rw [List.length_take]; omega
  have HLI2 := Lib.hid (fun r (h : r ∈ p.raw.take 4) => hp.ri r (List.mem_of_mem_take h))
  have hr2 : ∀ W', Below N W W' → RdR W' p.oR (p.raw.take 4) := fun W' h => (hr.r W' h).take 4
  have hr3 : p.raw.take 4 ≠ [] → ∀ b o, p.oR = some ⟨b, o, none⟩ → b < N := fun h0 b o e => hr.rl b o e (fun h => h0 (by rw [h]; rfl))
  obtain ⟨rn, hrn⟩ : ∃ rn, p.raw.length = rn := ⟨_, rfl⟩
  have hrc : rn ≤ p.cR := hrn ▸ hp.rc
  have hrm := hp.rm
  unfold maxLen at hrm
  rw [hrn] at hml2
  have m1 : min (rn : Int) 4 = (ml : Int) := by omega
  have m2 : (ml : Int) ≤ (p.cR : Int) := by omega
  have m3 : (0 : Int) ≤ (ml : Int) := by omega
  have HLC : Hid ((p.raw.take 4).length ≤ p.cR ∧ p.cR ≤ 9223372036854775807) := ⟨by omega, by omega⟩
  have HLM := Lib.hid hml
  have HR2 := Lib.hid hr2
  have HR3 := Lib.hid hr3
  clear hml2 hml hr2 hr3 hrc hrm
  obtain ⟨L0, hL0⟩ : ∃ L0, L = L0 := ⟨_, rfl⟩
  obtain ⟨L, hL⟩ : ∃ L, p.raw.take 4 = L := ⟨_, rfl⟩
  rw [hL] at HLI2 hL4 HLC HLM HR2 HR3
  have HIO := Lib.hid (OkO.app hi ho L)
  obtain ⟨ec, hec⟩ : ∃ ec, (appC ⟨D, R, br⟩ L).1 = ec := ⟨_, rfl⟩
  have HEC := Lib.hid hec
  have HR9 : Hid (R.length ≤ 100000) := (by omega : R.length ≤ 100000)
  have HLO : Hid (br = false → D.lost = false) := ho2
  have HIB : Hid (i ≤ 800000) := hib
  have HN15 : Hid (n ≤ 1500) := hn
  have HSlt : Hid (∀ k, S k → k < W.heap.size) := fun k hk => (hW.a.lt k hk).2
  have HTlt : Hid (∀ k, T k → k < W.heap.size) := fun k hk => (hW.c.lt k hk).2
  have HSge : Hid (∀ k, S k → N ≤ k) := fun k hk => (hW.a.lt k hk).1
  have HTge : Hid (∀ k, T k → N ≤ k) := fun k hk => (hW.c.lt k hk).1
  clear hec ho1 ho2 hRl
  have c1 : w1.cell? ⟨q, 1, none⟩ = some (.pointer (some ⟨bl, 0, none⟩)) := (hW.below hb1).blk.two.1
  have b1 := k1.cell 1
  have b4 := k1.cell 4
  dsimp only [opA, Array.toList, List.getElem?_cons_zero, List.getElem?_cons_succ] at b1 b4
  rw [hln] at b1
  rw [hrn] at b4
  clear hW hT hi ho hp hr k1 hSB hTB hb1 hNW hib hn hg
  rw [hln, hrn] at HK hw1 ⊢
  clear hln hL hL0 hrn HLI
  go_enter Tryz.func22, Tryz.ntmps22
  go_wp2_with fail
  refine (HPK.out _).mono ?_
  rintro e w' ⟨rfl, rfl⟩
  have HHB := Lib.hid hB
  clear HPK c0 hw1 hB
  go_wp2_with fail
  refine (HFW.out _ HQ.out).mono ?_
  rintro e wF ⟨oF, cF, rfl, howF, hbF⟩
  have HXF := Lib.hid (HX.out.below hbF)
  have HQF : Hid (Below N W wF) := HQ.out.trans (hbF.mono (bnl9 HNW.out HQ.out))
  have HRLF : Hid (RdR wF p.oR L) := HR2.out _ HQF.out
  have f4 := (HK.out.kept (hbF.block B HK.out.lt)).cell 4
  dsimp only [Array.toList, List.getElem?_cons_zero, List.getElem?_cons_succ] at f4
  have HLI := HLI2
  have HNT : Hid (L ≠ [] → ∀ b o, p.oR = some ⟨b, o, none⟩ → ¬ T b) := fun h0 b o e h => by
    have h1 := HR3.out h0 b o e
    have h2 := HTge.out b h
    omega
  have HNS0 : Hid (L ≠ [] → ∀ b o, p.oR = some ⟨b, o, none⟩ → ¬ S b) := fun h0 b o e h => by
    have h1 := HR3.out h0 b o e
    have h2 := HSge.out b h
    omega
  clear howF hbF HX HQ c1 b1 b4
  go_upto_region 17 with (fail)
  have hbF9 : Below N W wF.drew := HQF.out.drew
  have HX : Hid (WX wF.drew N q b r D (some (R, br)) (.pointer (some ⟨bl, 0, none⟩)) (.pointer (some ⟨cl, 0, none⟩)) S T) := HXF.out.below (Below.refl _ wF).drew
  have HQ := Lib.hid hbF9
  have HRL : Hid (RdR wF.drew p.oR L) := HRLF.out.kept (Below.refl _ wF).drew
  have HAA : Hid (Calls Tryz.prog 10 #[.pointer (some ⟨bl, 0, none⟩), .slice p.oR ml p.cR] wF.drew fun e w' => e = .returned (.int .i64 ec) ∧ SideP (fun w x S => SA w N b x S (appC ⟨D, R, br⟩ L).2.D (some ((appC ⟨D, R, br⟩ L).2.R, (appC ⟨D, R, br⟩ L).2.br))) wF.drew S (.pointer (some ⟨bl, 0, none⟩)) w') := by
    have := appendA (n := n) (i := i) L p.oR p.cR (by omega) HLC.out.1 HLC.out.2 HLI.out HR9.out HRL.out (HTB.out _ HQ.out) HG.out HLO.out HI.out (by have := HIB.out; omega) HX.out.a
    rw [HEC.out, HLM.out] at this
    exact this
  have HAC : Hid (∀ W', RdR W' p.oR L → SC W' N r (.pointer (some ⟨cl, 0, none⟩)) T D (some (R, br)) → Calls Tryz.prog 12 #[.pointer (some ⟨cl, 0, none⟩), .slice p.oR ml p.cR] W' fun e w' => e = .returned (.int .i64 ec) ∧ SideP (fun w x S => SC w N r x S (appC ⟨D, R, br⟩ L).2.D (some ((appC ⟨D, R, br⟩ L).2.R, (appC ⟨D, R, br⟩ L).2.br))) W' T (.pointer (some ⟨cl, 0, none⟩)) w') := fun W' h1 h2 => by
    have := appendC (n := n) (i := i) L p.oR p.cR (by omega) HLI.out HR9.out h1 HNT.out HLO.out HI.out (by have := HIB.out; omega) (by have := HN15.out; omega) h2
    rw [HEC.out, HLM.out] at this
    exact this
  have HKC := Lib.hid HX.out.blk.two
  clear HXF HQF HRLF HK HRD HOP HFW f4
  refine wp_region_held_drew (S := fun W => W.cell? ⟨q, 1, none⟩ = some (.pointer (some ⟨bl, 0, none⟩)) ∧ W.cell? ⟨q, 3, none⟩ = some (.pointer (some ⟨cl, 0, none⟩))) (by kernel_rfl) ?_ (fun hHeld => ?_)
  · exact HKC.out
  generalize wF.drew = w2 at HX HQ HAA HRL HKC hHeld ⊢
  refine tk 0 (some 90) ?_
  refine tk 1 (some 91) ?_
  refine tk 2 (some 92) ?_
  refine tk 3 (some 93) ?_
  refine tk 4 (some 94) ?_
  refine tk 6 (some 96) ?_
  refine tk 7 (some 97) ?_
  refine tk 8 (some 98) ?_
  refine tk 9 (some 99) ?_
  refine tk 10 (some 100) ?_
  refine rd1 5 (some 95) (fun K hK => ?_)
  go_simp
  refine HAA.out.mono ?_
  rintro e wC ⟨rfl, hsC⟩
  obtain ⟨hscC, hbkC, hblC, hstC⟩ := HX.out.two hsC
  obtain ⟨SZ, _, _, hfC⟩ := hsC
  have HSC := Lib.hid hscC
  have HST := Lib.hid hstC
  have HRC := Lib.hid ((Classical.em (L = [])).elim .inl (fun h0 => HRL.out.fr hfC (HNS0.out h0)))
  have HQ3 : Hid (Below N W wC) := HQ.out.trans hblC
  have HKC := Lib.hid hbkC.two
  clear hfC hscC hbkC hblC hstC HX HQ HAA HRL HNS0
  go_simp
  refine hK.out _ _ ?_ (fun hHeld2 => ?_)
  · exact HKC.out
  clear hK K hHeld
  rename _ => hHeld
  try simp only [Act.put, List.setIfInBounds_toArray, List.set_cons_zero, List.set_cons_succ]
  refine rd1 11 (some 101) (fun K hK => ?_)
  go_simp
  refine (HAC.out _ HRC.out HSC.out).mono ?_
  rintro e wE ⟨rfl, hsE⟩
  obtain ⟨hblE, _, S2, T2, _, hxE⟩ := HST.out _ wE hsE
  have HX5 := Lib.hid (hxE rfl rfl)
  have HQ5 : Hid (Below N W wE) := HQ3.out.trans hblE
  have HKC := Lib.hid HX5.out.blk.two
  clear hsE hblE hxE HST HSC HRC HAC HQ3
  go_simp
  refine hK.out _ _ ?_ (fun hHeld2 => ?_)
  · exact HKC.out
  clear hK K hHeld
  rename _ => hHeld
  try simp only [Act.put, List.setIfInBounds_toArray, List.set_cons_zero, List.set_cons_succ]
  refine wpAnyH_take (i := 12) (oi := ⟨some 102, _, _, _, _, _⟩) (v := .bool true) rfl (by kernel_rfl) (by kernel_rfl) (by kernel_rfl) (fun _ _ _ h => h) (Or.inl ⟨by rfl, ?ya11⟩) (by assumption) ?ra11
  case ya11 => (intro w hSw; (try dsimp only at hSw); go_simp; (first | done | (with_reducible rfl) | exact (beq_self_eq_true _) | simpa using (beq_self_eq_true _)))
  try simp only [Act.put, List.setIfInBounds_toArray, List.set_cons_zero, List.set_cons_succ]
  refine tk 13 (some 4) ?_
  refine wpAnyH_done (by kernel_rfl) ?_ _
  clear hHeld
  go_wp2_with fail
  go_ret
  exact ⟨rfl, HQ5.out, _, _, _, _, _, _, HX5.out, HIO.out.1.mono (by omega), HIO.out.2⟩
theorem does_any (W : World) (N q b r : Nat) (D : DS) (o : Option (List Rec × Bool)) (x y : Value) (S T : Nat → Prop) (n i : Nat) (p : Opr) (hW : WX W N q b r D o x y S T) (hT : ∀ W9, Below N W W9 → TabAt W9) (hg : 0 < N) (hi : Inv D n i) (hib : i ≤ 800000) (hn : n ≤ 1500) (ho : OkO D n o) (hp : OprI p) (hr : RdOp W N p) :
    Calls Tryz.prog 22 #[.pointer (some ⟨q, 0, none⟩), .agg (opA p)] W (DoesP W N q b r n i) := by
  by_cases h5 : pickI p.kind 9 = 5
  · exact does_cut W N q b r D o x y S T n i p hW hT hg hi hib hn ho hp hr h5
  by_cases h6 : pickI p.kind 9 = 6
  · exact does_crash W N q b r D o x y S T n i p hW hT hg hi hib hn ho hp hr h6
  by_cases h7 : pickI p.kind 9 = 7
  · exact does_open W N q b r D o x y S T n i p hW hT hg hi hib hn ho hp hr h7
  rcases o with _ | ⟨R, br⟩
  · obtain ⟨rfl, _⟩ := hW.a.nil
    exact does_nil W N q b r D y S T n i p hW hT hg hi hib hn ho hp hr h5 h6 h7
  by_cases h8 : pickI p.kind 9 = 8
  · exact does_raw W N q b r D R br x y S T n i p hW hT hg hi hib hn ho hp hr h8
  · exact does_few W N q b r D R br x y S T n i p hW hT hg hi hib hn ho hp hr h5 h6 h7 h8
end Go.Proofs.YtfpcdlpfmlaakaaGreatDoor
namespace Go.Proofs.YtfpcdlpfmlaakaaGreatDoor
open Go.RowKit Onair
/-- The loop's state: both logs after k calls. -/
structure MSt (w : World) (N q b r z k : Nat) (wr : World) : Prop where
  ex : ∃ D o x y S T, WX wr N q b r D o x y S T ∧ Inv D z (10 + 10 * k) ∧ OkO D z o
  bel : Below N w wr
theorem MSt.up {w : World} {N q b r z k : Nat} {W W' : World} (h : MSt w N q b r z k W) (hb : Below W.heap.size W W') : MSt w N q b r z k W' := by
  obtain ⟨D, o, x, y, S, T, h1, h2, h3⟩ := h.ex
  exact ⟨⟨D, o, x, y, S, T, h1.below hb, h2, h3⟩, h.bel.trans (hb.mono (Nat.le_trans h1.le (Nat.le_of_lt h1.blk.lt)))⟩
/-- A reference disk's two cells that the law reads. -/
theorem RDX.two {W : World} {N r : Nat} {F : Nat → Prop} {D : DS} (h : RDX W N r F D) : ∃ oa c, W.cell? ⟨r, 1, none⟩ = some (.slice oa D.pend.length c) ∧ W.cell? ⟨r, 2, none⟩ = some (.bool D.lost) := by
  obtain ⟨h0, gs, cs, rest, vl, h1, h2⟩ := h
  obtain ⟨oa, c, rfl⟩ : ∃ oa c, vl = .slice oa D.pend.length c := by
    rcases h1.own.2 with ⟨hv, h0⟩ | ⟨g, cap, _, hv, _⟩
    · exact ⟨none, 0, by rw [hv]; simp at h0; rw [h0]; rfl⟩
    · exact ⟨_, _, hv⟩
  exact ⟨oa, c, h1.blk.cell 1, h1.blk.cell 2⟩
theorem logF {W : World} {N q b r : Nat} {D : DS} {R : List Rec} {br : Bool} {x y : Value} {S T : Nat → Prop} {z i : Nat} (hx : WX W N q b r D (some (R, br)) x y S T) (hi : Inv D z i) (hib : i ≤ 1000000) (ho : OkO D z (some (R, br))) (hz : z ≤ 1500) :
    ∃ bl cl oR nR cR FA GA E H, x = .pointer (some ⟨bl, 0, none⟩) ∧ y = .pointer (some ⟨cl, 0, none⟩) ∧ R.length = nR ∧ nR ≤ 100 ∧ endN R = E ∧ headR R = H ∧ LX W N b bl FA GA ⟨D, R, br⟩ ∧ ∀ W', Below W.heap.size W W' →
      (W'.cell? ⟨q, 1, none⟩ = some (.pointer (some ⟨bl, 0, none⟩)) ∧ W'.cell? ⟨q, 3, none⟩ = some (.pointer (some ⟨cl, 0, none⟩)) ∧ W'.cell? ⟨cl, 1, none⟩ = some (.slice oR nR cR)) ∧ RdR W' oR R ∧
      Calls Tryz.prog 17 #[.pointer (some ⟨bl, 0, none⟩)] W' (CloP W'.heap.size W' R) ∧
      (Calls Tryz.prog 18 #[.pointer (some ⟨bl, 0, none⟩)] W' fun e w' => e = .returned (.int .i64 ((z : Int) - (E : Int))) ∧ Below W'.heap.size W' w') ∧
      (Calls Tryz.prog 19 #[.pointer (some ⟨cl, 0, none⟩)] W' fun e w' => e = .returned (.int .i64 ((z : Int) - (E : Int))) ∧ Below W'.heap.size W' w') ∧
      Calls Tryz.prog 24 #[.pointer (some ⟨bl, 0, none⟩)] W' fun e w' => e = .returned (.string H) ∧ W' = w' := by
  obtain ⟨bl, FA, GA, rfl, hlx, _⟩ := hx.a.ptr
  obtain ⟨cl, FC, GC, rfl, hrl, _⟩ := hx.c.ptr
  obtain ⟨vr, p1, p2, _⟩ := hrl.ex
  obtain ⟨oR, nR, cR, rfl⟩ : ∃ oR nR cR, vr = .slice oR nR cR := by
    rcases p2.recs.2 with ⟨h1, h0⟩ | ⟨g, cap, _, h1, _⟩
    · exact ⟨none, 0, 0, h1⟩
    · exact ⟨_, _, _, h1⟩
  obtain ⟨d0, d2, d3, d4⟩ := p2.rd
  have hfit := (ho R br rfl).1
  have hRl : 33 * R.length ≤ endN R := (logL_bd zero32 R).2
  have hvl : D.vis.length = z := hi.len
  refine ⟨bl, cl, oR, nR, cR, FA, GA, _, _, rfl, rfl, Eq.symm d0, by dsimp only at d0; omega, rfl, rfl, hlx, fun W' hW => ⟨⟨(hx.below hW).blk.cell 1, (hx.below hW).blk.cell 3, (p2.below hW).blk.cell 1⟩, (show RdR W oR R from d4).kept hW, records_x W' N b bl FA GA ⟨D, R, br⟩ (by show R.length ≤ _; omega) (hlx.below hW), ?_, ?_, head_x W' N b bl FA GA ⟨D, R, br⟩ (hlx.below hW)⟩⟩
  · have := room_x W' N b bl FA GA ⟨D, R, br⟩ (by show endN R ≤ _; omega) (hlx.below hW)
    dsimp only at this
    rw [hvl] at this
    exact this
  · have := refRoom_any W' N r cl FC (.slice oR nR cR) D R br z _ hi (by omega) (p1.below hW) (p2.below hW)
    refine this.mono ?_
    rintro e w' ⟨he, k, rfl⟩
    exact ⟨he, drewN_below (Below.refl _ _) k⟩
/-- What a call of Prove leaves: the proof's ten cells, an error. -/
def PrU (rr : Rec) (i n : Int) (s : ByteArray) (P : List ByteArray) (er : Int) (W : World) (e : Ending) (w' : World) : Prop := ∃ oa cap, e = .returned (.tuple #[.agg (proA rr i n s (.slice oa P.length cap)), .int .i64 er]) ∧ RdS w' oa P ∧ (∀ b o, oa = some ⟨b, o, none⟩ → W.heap.size ≤ b) ∧ Below W.heap.size W w'
theorem PrU.of {W : World} {rr : Rec} {i n : Nat} {s : ByteArray} {P : List ByteArray} {e : Ending} {w' : World} (h : ProP W rr i n s P e w') : PrU rr i n s P 0 W e w' := by
  obtain ⟨oa, cap, he, ho, hb⟩ := h
  exact ⟨oa, cap, he, (own_rds ho).2.2.2, fun b o e => own_ge ho b (by subst e; rfl), hb⟩
theorem PrU.bad {W : World} {e : Ending} {w' : World} (h : ProN W e w') : PrU ⟨0, 0, 0, 0, 0, 0⟩ 0 0 ⟨#[]⟩ [] 2 W e w' := ⟨none, 0, h.1, .inl rfl, fun b o e => (nomatch e), h.2⟩
theorem prove_two {W : World} {N b bl : Nat} {FA GA : Nat → Prop} {D : DS} {R : List Rec} {br : Bool} {nR pk : Nat} (hx : LX W N b bl FA GA ⟨D, R, br⟩) (hn : R.length = nR) (hnr : nR ≤ 100) (hpk : pk ≤ 7) :
    ∃ (rr : Rec) (i n : Int) (s : ByteArray) (P : List ByteArray) (er : Int), P.length ≤ 10000 ∧
      (∀ W', Below W.heap.size W W' → TabAt W' → Calls Tryz.prog 26 #[.pointer (some ⟨bl, 0, none⟩), .int .i64 (pk : Int)] W' (PrU rr i n s P er W')) ∧
      (∀ W' oR cR, RdR W' oR R → Calls Tryz.prog 27 #[.slice oR nR cR, .int .i64 (pk : Int)] W' (PrU rr i n s P er W')) := by
  obtain ⟨bd, bv, vp, vr, ve, h1, h2, h3, h4⟩ := hx.ex
  by_cases h : pk < nR
  · obtain ⟨r, hr⟩ : ∃ r, R[pk]? = some r := ⟨R[pk]'(by omega), List.getElem?_eq_getElem _⟩
    obtain ⟨x, hx'⟩ : ∃ x, (entR R)[pk]? = some x := ⟨(entR R)[pk]'(by rw [entR_len]; omega), List.getElem?_eq_getElem _⟩
    refine ⟨r, pk, nR, x.extract 0 32, proofL (entR R) pk, 0, ?_, fun W' hW ht => ?_, fun W' oR cR hrd => ?_⟩
    · have := proofL_len (entR R) pk
      rw [entR_len] at this
      omega
    · have := prove_at W' N b bl vr ve R br pk r x (by omega) ht (h2.below hW) hr hx'
      rw [hn] at this
      exact this.mono (fun e w' h => PrU.of h)
    · exact (refProve_at W' R oR cR pk nR r x hn (by omega) hrd hr hx').mono (fun e w' h => PrU.of h)
  · refine ⟨⟨0, 0, 0, 0, 0, 0⟩, 0, 0, ⟨#[]⟩, [], 2, Nat.zero_le _, fun W' hW ht => ?_, fun W' oR cR hrd => ?_⟩
    · exact (prove_bad W' N b bl vr ve R br pk (by omega) (h2.below hW) (by omega) (by omega)).mono (fun e w' h => PrU.bad h)
    · exact (refProve_bad W' R oR cR pk nR hn (by omega) hrd (by omega) (by omega)).mono (fun e w' h => PrU.bad h)
theorem RdS.fr1 {W W' : World} {oa : Option Addr} {P : List ByteArray} {B : Nat} (h : RdS W oa P) (hf : Fr (fun k => k = B) W W') (hne : P = [] ∨ ∀ b o, oa = Option.some ⟨b, o, none⟩ → b ≠ B) : RdS W' oa P := by
  rcases h with h0 | ⟨b, o, e, hb⟩
  · exact .inl h0
  · rcases hne with h0 | h1
    · exact .inl h0
    · exact .inr ⟨b, o, e, ⟨Nat.lt_of_lt_of_le hb.lt hf.size, fun j x hj => (hf.cell ⟨b, o + j, none⟩ hb.lt (h1 b o e)).trans (hb.cell j x hj)⟩⟩
theorem RdS.ne {W : World} {oa : Option Addr} {P : List ByteArray} (h : RdS W oa P) : P = [] ∨ ∀ b o, oa = Option.some ⟨b, o, none⟩ → b ≠ W.heap.size := by
  rcases h with h0 | ⟨b, o, e, hb⟩
  · exact .inl h0
  · refine .inr fun b' o' e' => ?_
    rw [e] at e'
    cases e'
    have := hb.lt
    omega
theorem allocP {M : Nat} {w1 z : World} (h : Below M w1 z) (hM : M ≤ z.heap.size) : ∃ B za, z.heap.size = B ∧ z.alloc (.cells #[.int .i64 0, .int .i64 0, .int .i64 0, .int .i64 0, .int .i64 0, .int .i64 0, .int .i64 0, .int .i64 0, .string ⟨#[]⟩, .slice none 0 0] 65) = za ∧ Below M w1 za ∧ Blk za B 65 [.int .i64 0, .int .i64 0, .int .i64 0, .int .i64 0, .int .i64 0, .int .i64 0, .int .i64 0, .int .i64 0, .string ⟨#[]⟩, .slice none 0 0] ∧ M ≤ B ∧ Below z.heap.size z za :=
  ⟨_, _, rfl, rfl, h.alloc hM _, Blk.new z _ _, hM, (Below.refl _ z).alloc (Nat.le_refl _) _⟩
end Go.Proofs.YtfpcdlpfmlaakaaGreatDoor
