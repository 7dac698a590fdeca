/-
  The walk of the law MediaFound (printed by mkmedfound.py).
-/
import Derived.WalkKit
import Derived.LoopTactic
import Derived.WalkSpells
import Derived.WalkLawsBesides
import Derived.RegionTactic
import Derived.BigRegion
import Derived.Deep.QuietTactic
import Derived.Deep.RegionHeld3
import Derived.BigQuiet
import Derived.IntWalk
import Derived.Outline
import Derived.Test.YtfplajafekpccaaMedS
import Derived.Test.YtfplajafekpccaaMedOpenB
set_option linter.unusedVariables false
set_option linter.unusedSimpArgs false
namespace Go.Proofs.Ytfplajafekpccaa
open Go.RowKit Onair
/-- The row that is written over. -/
def RowOk (wr : World) (B kf : Nat) (oa : Option Addr) (n : Nat) : Prop := n = 0 ∨ ∃ g cur, oa = some ⟨g, 0, none⟩ ∧ wr.heap[g]? = some (.cells cur 42 (0, 0)) ∧ n * 3 ≤ cur.size ∧ B ≤ g ∧ g ≠ kf
theorem RowOk.of {wr : World} {B kf : Nat} {oa : Option Addr} {n m cap : Nat} {xs : List Value} (h : wr.ownsRow B 42 3 (.slice oa n cap) m xs) (hk : wr.heap.size ≤ kf) : RowOk wr B kf oa n := by
  rcases h.2 with ⟨e, _⟩ | ⟨g, cap', cur, e, q1, q2, q3, q4, q5, q6⟩
  · simp at e
    exact .inl e.2.1
  · simp at e
    obtain ⟨rfl, rfl, rfl⟩ := e
    refine .inr ⟨g, cur, rfl, q2, ?_, q1, ?_⟩
    · rw [q5]
      exact Nat.mul_le_mul_right 3 q3
    · have := (Array.getElem?_eq_some_iff.1 q2).1
      omega
theorem RowOk.kept {wr w' : World} {B kf : Nat} {oa : Option Addr} {n : Nat} (h : RowOk wr B kf oa n) (hb : Below wr.heap.size wr w') : RowOk w' B kf oa n := by
  rcases h with h | ⟨g, cur, e, h1, h2⟩
  · exact .inl h
  · exact .inr ⟨g, cur, e, (hb.block g (Array.getElem?_eq_some_iff.1 h1).1).trans h1, h2⟩
/-- What the stores of one picture need and leave. -/
theorem RowOk.put {wr : World} {B kf : Nat} {oa : Option Addr} {n : Nat} (h : RowOk wr B kf oa n) (k : Nat) (hk : k < n) (v0 v1 v2 : Value) : ∃ g, oa = some ⟨g, 0, none⟩ ∧ B ≤ g ∧ g ≠ kf ∧
    (∃ u, wr.cell? ⟨g, k * 3, none⟩ = some u) ∧ wr.frozen? ⟨g, k * 3, none⟩ = false ∧
    (∃ u, (wr.setCell ⟨g, k * 3, none⟩ v0).cell? ⟨g, k * 3 + 1, none⟩ = some u) ∧ (wr.setCell ⟨g, k * 3, none⟩ v0).frozen? ⟨g, k * 3 + 1, none⟩ = false ∧
    (∃ u, ((wr.setCell ⟨g, k * 3, none⟩ v0).setCell ⟨g, k * 3 + 1, none⟩ v1).cell? ⟨g, k * 3 + 2, none⟩ = some u) ∧ ((wr.setCell ⟨g, k * 3, none⟩ v0).setCell ⟨g, k * 3 + 1, none⟩ v1).frozen? ⟨g, k * 3 + 2, none⟩ = false ∧
    RowOk (((wr.setCell ⟨g, k * 3, none⟩ v0).setCell ⟨g, k * 3 + 1, none⟩ v1).setCell ⟨g, k * 3 + 2, none⟩ v2) B kf oa n := by
  rcases h with h | ⟨g, cur, e, h1, h2, h3, h4⟩
  · omega
  · have b : Blk wr g 42 cur.toList := by unfold Blk; rw [h1]
    have b1 := b.set (k * 3) v0
    have b2 := b1.set (k * 3 + 1) v1
    have b3 := b2.set (k * 3 + 2) v2
    have l0 : cur.toList.length = cur.size := by simp
    refine ⟨g, e, h3, h4, ⟨_, by rw [b.cell, List.getElem?_eq_getElem (by omega)]⟩, b.frozen _, ⟨_, by rw [b1.cell, List.getElem?_eq_getElem (by rw [List.length_set]; omega)]⟩, b1.frozen _, ⟨_, by rw [b2.cell, List.getElem?_eq_getElem (by rw [List.length_set, List.length_set]; omega)]⟩, b2.frozen _, .inr ⟨g, _, e, b3, ?_, h3, h4⟩⟩
    rw [List.size_toArray, List.length_set, List.length_set, List.length_set]
    omega
theorem pick_ast {W : World} {A : List Ast} {k : Nat} {a : Ast} (h : A[k]? = some a) (hm : ∀ a ∈ A, AOk W a) : AOk W a := hm a (List.mem_of_getElem? h)
set_option maxHeartbeats 32000000 in
set_option maxRecDepth 100000 in
theorem walkFound (W : World) (oa : Option Addr) (ca : Nat) (la : List Ast) (ob : Option Addr) (cb : Nat) (lb : List Ast) (x : Int) (hla : la.length ≤ maxLen) (hra : RdA W oa la) (hka : ∀ a ∈ la, AOk W a) (hlb : lb.length ≤ maxLen) (hrb : RdA W ob lb) (hkb : ∀ a ∈ lb, AOk W a) :
    Calls Try.prog 6 #[.slice oa la.length ca, .slice ob lb.length cb, .int .i64 x] W fun e w' => e = .returned (.bool true) ∧ Below W.heap.size W w' := by
  unfold maxLen at hla hlb
  have HRA := Lib.hid hra
  have HRB := Lib.hid hrb
  have HKA := Lib.hid hka
  have HKB := Lib.hid hkb
  obtain ⟨n, hn⟩ : ∃ n, la.length = n := ⟨_, rfl⟩
  obtain ⟨m, hm⟩ : ∃ m, lb.length = m := ⟨_, rfl⟩
  have HN := Lib.hid hn
  have HM := Lib.hid hm
  rw [hn] at hla ⊢
  rw [hm] at hlb ⊢
  clear hra hrb hka hkb hn hm
  go_enter Try.func6, Try.ntmps6
  go_wp2_with fail
  refine (sane_any _).mono ?_
  rintro e w1 ⟨rfl, hb1⟩
  have HB1 := Lib.hid hb1
  clear hb1
  go_wp2_with fail
  go_loopw [8, 9, 10] (fun v q i wr => ∃ (k : Nat) (A : List Ast) (z : Int), k ≤ n ∧ k ≤ 10 ∧ i = .int .i64 k ∧ q = .int .i64 z ∧ -1 ≤ z ∧ Hid (A.length = k) ∧ Hid (idxI A x = z) ∧ Hid (AL w1 wr v A)) (fun _ _ i _ => n - (intOf i).toNat)
  case atStart => exact ⟨0, [], -1, Nat.zero_le _, Nat.zero_le _, rfl, rfl, by decide, rfl, rfl, AL.new w1⟩
  case round =>
    obtain ⟨k, A, z, hk, hk2, rfl, rfl, hz, HA, HI, HL⟩ := hrel
    obtain ⟨oA, cA, eA⟩ := own_slice HL.out.own
    subst eA
    by_cases hend : k = n ∨ k = 10
    · have q0 : ¬ ((k : Int) < n ∧ (k : Int) < 10) := by omega
      have hAl : A.length ≤ 10 := by rw [HA.out]; exact hk2
      obtain ⟨wo, rfl⟩ : ∃ wo : World, wo = wr := ⟨_, rfl⟩
      have HF := Lib.hid (fun w (h : AL w1 w (.slice oA A.length cA) A) => find_any w oA cA A x (by rw [HA.out]; omega) h.rda h.rdp)
      clear hend
      by_cases q1 : (k : Int) < n
      · skip
        have q2 : ¬ (k : Int) < 10 := fun h => q0 ⟨q1, h⟩
        clear q0
        go_wp2_with fail
        refine (HF.out wo HL.out).mono ?_
        rcases hcase : firstA A x with _ | a
        · skip
          obtain ⟨i1, i2, i3, i4⟩ := firstA_none hcase
          have hz1 : z = -1 := by rw [← HI.out]; exact i1
          subst hz1
          clear i1
          have E1 := Lib.hid i2
          have E2 := Lib.hid i3
          have E3 := Lib.hid i4
          clear i2 i3 i4 hcase
          rw [E1.out, E2.out, E3.out]
          rw [List.length_nil]
          rintro e w2 ⟨oF, cF, rfl, hoF, hbF⟩
          obtain ⟨kf, hkf⟩ : ∃ kf, w2.heap.size = kf := ⟨_, rfl⟩
          have hb3 : Below w2.heap.size w2 (w2.alloc (.cells #[.int .i64 0, .slice oF 0 cF] 24)) := (Below.refl _ w2).alloc (Nat.le_refl _) _
          have HB3 : Hid (Below wo.heap.size wo (w2.alloc (.cells #[.int .i64 0, .slice oF 0 cF] 24))) := bstep hbF hb3
          have HK3 : Hid (Blk (w2.alloc (.cells #[.int .i64 0, .slice oF 0 cF] 24)) kf 24 [.int .i64 0, .slice oF 0 cF]) := blk_at (l := [.int .i64 0, .slice oF 0 cF]) hkf
          have HW3 : Hid (RowOk (w2.alloc (.cells #[.int .i64 0, .slice oF 0 cF] 24)) wo.heap.size kf oF 0) := (RowOk.of hoF (by omega)).kept hb3
          have HKF := Lib.hid hkf
          clear hkf hb3 hbF hoF
          go_wp2_with fail
          rw [HKF.out]
          generalize w2.alloc (.cells #[.int .i64 0, .slice oF 0 cF] 24) = w3 at HB3 HK3 HW3  ⊢
          clear HKF
          have f0 := HK3.out.cell 0
          have f1 := HK3.out.cell 1
          simp only [List.getElem?_cons_zero, List.getElem?_cons_succ] at f0 f1
          go_quiet (fail)
          have HB4 := Lib.hid (drewN_below HB3.out nq)
          have HK4 : Hid (Blk (w3.drewN nq) kf 24 [.int .i64 0, .slice oF 0 cF]) := HK3.out
          have HW4 : Hid (RowOk (w3.drewN nq) wo.heap.size kf oF 0) := .inl rfl
          generalize w3.drewN nq = w4 at HB4 HK4 HW4 ⊢
          clear f0 f1 HB3 HK3 HW3
          go_wp2_with fail
          go_loopw [13] (fun i w => ∃ (k2 : Nat), k2 ≤ 0 ∧ i = .int .i64 k2 ∧ Hid (RowOk w wo.heap.size kf oF 0) ∧ Hid (Blk w kf 24 [.int .i64 0, .slice oF 0 cF]) ∧ Hid (Below wo.heap.size wo w)) (fun i _ => 0 - (intOf i).toNat)
          case atStart => exact ⟨0, Nat.zero_le _, rfl, HW4, HK4, HB4⟩
          case round =>
            clear HW4 HK4 HB4
            obtain ⟨k2, hk3, rfl, HRW, HKW, HBW⟩ := hrel
            have f1 := HKW.out.cell 1
            simp only [List.getElem?_cons_zero, List.getElem?_cons_succ] at f1
            · obtain rfl : k2 = 0 := by omega
              have HL5 := Lib.hid (HL.out.below HBW.out)
              clear hk3 HRW HKW HBW
              go_wp2_with fail
              refine (HF.out wr HL5.out).mono ?_
              rw [E1.out, E2.out, E3.out]
              rw [List.length_nil]
              rintro e w6 ⟨oG, cG, rfl, hoG, hbG⟩
              obtain ⟨kb, hkb⟩ : ∃ kb, w6.heap.size = kb := ⟨_, rfl⟩
              have hb7 : Below w6.heap.size w6 (w6.alloc (.cells #[.int .i64 0, .slice oG 0 cG] 24)) := (Below.refl _ w6).alloc (Nat.le_refl _) _
              have HL6 := Lib.hid (HL5.out.below hbG)
              have HL7 := Lib.hid (HL6.out.below hb7)
              have HK7 : Hid (Blk (w6.alloc (.cells #[.int .i64 0, .slice oG 0 cG] 24)) kb 24 [.int .i64 0, .slice oG 0 cG]) := blk_at (l := [.int .i64 0, .slice oG 0 cG]) hkb
              have HG7 : Hid ((w6.alloc (.cells #[.int .i64 0, .slice oG 0 cG] 24)).ownsRow w1.heap.size 42 3 (.slice oG 0 cG) 0 (pcells [])) := own_weak (hoG.alloc _) HL5.out.bel.size
              have HV7 : Hid ((Value.slice oA A.length cA).ownBlock ≠ some kb) := fun e => by have := (HL6.out.own.lt kb e).2; omega
              have HKB2 := Lib.hid hkb
              clear hkb hb7 hbG hoG f1 HL5 HL6
              go_wp2_with fail
              rw [HKB2.out]
              generalize w6.alloc (.cells #[.int .i64 0, .slice oG 0 cG] 24) = w7 at HL7 HK7 HG7 ⊢
              go_loopw [8, 16] (fun v i w => ∃ (k3 : Nat) (M : List Ast), k3 ≤ m ∧ k3 ≤ 10 ∧ i = .int .i64 k3 ∧ Hid (M.length = k3) ∧ Hid (AL w1 w v (A ++ M)) ∧ Hid (v.ownBlock ≠ some kb) ∧ Hid (Blk w kb 24 [.int .i64 0, .slice oG 0 cG]) ∧ Hid (w.ownsRow w1.heap.size 42 3 (.slice oG 0 cG) 0 (pcells []))) (fun _ i _ => m - (intOf i).toNat)
              case atStart => exact ⟨0, [], Nat.zero_le _, Nat.zero_le _, rfl, rfl, by rw [List.append_nil]; exact HL7, HV7, HK7, HG7⟩
              case round =>
                clear HL7 HV7 HK7 HG7 HKB2
                obtain ⟨k3, M, hk3, hk4, rfl, HMl, HL8, HV8, HK8, HG8⟩ := hrel
                obtain ⟨oB, cB, eB⟩ := own_slice HL8.out.own
                subst eB
                have hAM : (A ++ M).length ≤ 20 := by rw [List.length_append, HA.out, HMl.out]; omega
                by_cases hend : k3 = m ∨ k3 = 10
                · have q0 : ¬ ((k3 : Int) < m ∧ (k3 : Int) < 10) := by omega
                  have HF3 := Lib.hid (fun w (h : AL w1 w (.slice oB (A ++ M).length cB) (A ++ M)) => find_any w oB cB (A ++ M) x (by omega) h.rda h.rdp)
                  generalize fI (A ++ M) x = ri at HF3
                  generalize fP (A ++ M) x = rp at HF3
                  generalize fB (A ++ M) x = rb at HF3
                  clear hend
                  obtain ⟨nA, hnA⟩ : ∃ nA, (A ++ M).length = nA := ⟨_, rfl⟩
                  rw [hnA] at HF3 HL8 hAM ⊢
                  have HNA := Lib.hid hnA
                  clear hnA
                  by_cases q1 : (k3 : Int) < m
                  · skip
                    have q2 : ¬ (k3 : Int) < 10 := fun h => q0 ⟨q1, h⟩
                    clear q0
                    go_wp2_with fail
                    refine (HF3.out wr HL8.out).mono ?_
                    rintro e w9 ⟨oH, cH, rfl, hoH, hbH⟩
                    obtain ⟨kc, hkc⟩ : ∃ kc, w9.heap.size = kc := ⟨_, rfl⟩
                    have hb10 : Below w9.heap.size w9 (w9.alloc (.cells #[.int .i64 ri, .slice oH rp.length cH] 24)) := (Below.refl _ w9).alloc (Nat.le_refl _) _
                    have hbb : Below wr.heap.size wr (w9.alloc (.cells #[.int .i64 ri, .slice oH rp.length cH] 24)) := bstep hbH hb10
                    have HL10 := Lib.hid (HL8.out.below hbb)
                    have HKC := Lib.hid hkc
                    clear hkc hb10 hbb hbH hoH HF3 HL8 HK8 HG8
                    go_wp2_with fail
                    rw [HKC.out]
                    go_quiet (fail)
                    go_wp2_with fail
                    go_ret
                    exact ⟨rfl, drewN_below (bstep HB1.out HL10.out.bel) _⟩
                  · skip
                    skip
                    clear q0
                    go_wp2_with fail
                    refine (HF3.out wr HL8.out).mono ?_
                    rintro e w9 ⟨oH, cH, rfl, hoH, hbH⟩
                    obtain ⟨kc, hkc⟩ : ∃ kc, w9.heap.size = kc := ⟨_, rfl⟩
                    have hb10 : Below w9.heap.size w9 (w9.alloc (.cells #[.int .i64 ri, .slice oH rp.length cH] 24)) := (Below.refl _ w9).alloc (Nat.le_refl _) _
                    have hbb : Below wr.heap.size wr (w9.alloc (.cells #[.int .i64 ri, .slice oH rp.length cH] 24)) := bstep hbH hb10
                    have HL10 := Lib.hid (HL8.out.below hbb)
                    have HKC := Lib.hid hkc
                    clear hkc hb10 hbb hbH hoH HF3 HL8 HK8 HG8
                    go_wp2_with fail
                    rw [HKC.out]
                    go_quiet (fail)
                    go_wp2_with fail
                    go_ret
                    exact ⟨rfl, drewN_below (bstep HB1.out HL10.out.bel) _⟩
                · have q1 : (k3 : Int) < m := by omega
                  have q2 : (k3 : Int) < 10 := by omega
                  obtain ⟨c, hc⟩ : ∃ c, lb[k3]? = some c := ⟨_, List.getElem?_eq_getElem (by rw [HM.out]; omega)⟩
                  have hbW := bstep HB1.out (HL8.out.bel)
                  obtain ⟨g, off, e', d0, d1⟩ := (HRB.out.kept hbW).at k3 c hc
                  subst e'
                  obtain ⟨cok, cln, crd⟩ := pick_ast hc HKB.out
                  have HCO := Lib.hid cok
                  have HCL := Lib.hid cln
                  have HCR := Lib.hid (crd.kept hbW)
                  clear hc hend cok cln crd hbW
                  go_wp2_with fail
                  refine (short_any wr c.item c.o c.c c.ps HCL.out HCO.out HCR.out).mono ?_
                  have hcl := cutP_len c.ps
                  generalize cutP c.ps = L at hcl ⊢
                  rintro e w8 ⟨oL, cL, rfl, ho8, hb8⟩
                  have HL9 := Lib.hid (HL8.out.below hb8)
                  have HO9 := Lib.hid (own_weak ho8 HL8.out.bel.size)
                  have HK9 := Lib.hid (HK8.out.kept (hb8.block _ HK8.out.lt))
                  have HG9 := Lib.hid (ownsRow_kept' HG8.out (fun g hg => hb8.block g (HG8.out.lt g hg).2))
                  obtain ⟨oM, cM, w9, hrun, ho10, hf10, hv10⟩ := app_ast w8 w1.heap.size _ (A ++ M) ⟨c.item, oL, cL, L⟩ HL9.out.own (by omega) HL9.out.bel.size 38
                  have HL10 := Lib.hid (HL9.out.app (c := ⟨c.item, oL, cL, L⟩) HO9.out hcl ho10 hf10)
                  rw [List.append_assoc] at HL10
                  have HV10 : Hid ((Value.slice oM ((A ++ M).length + 1) cM).ownBlock ≠ some kb) := fun e => (hv10 kb e).elim HV8.out (fun h => by have := HK9.out.lt; omega)
                  have HK10 := Lib.hid (HK9.out.kept (hf10.block _ HK9.out.lt HV8.out))
                  have HG10 := Lib.hid (pic_kept HG9.out HL9.out.own hf10)
                  have HM10 : Hid ((M ++ [(⟨c.item, oL, cL, L⟩ : Ast)]).length = k3 + 1) := by show _ = _; rw [List.length_append, HMl.out]; rfl
                  dsimp only at hrun
                  clear ho8 hb8 ho10 hf10 hv10 HL8 HL9 HK8 HK9 HG8 HG9 HV8
                  obtain ⟨nA, hnA⟩ : ∃ nA, (A ++ M).length = nA := ⟨_, rfl⟩
                  rw [hnA] at hrun HL10 HV10 ⊢
                  clear hnA
                  go_wp2_with (at_builtin; refine wpList_append_run _ rfl _ _ 38 rfl _ _ _ _ rfl rfl hrun ?_)
                  go_roundw
                  case rel => exact ⟨k3 + 1, _, by omega, by omega, by go_num, HM10, HL10, HV10, HK10, HG10⟩
                  case measure => simp [intOf]; omega
        · skip
          obtain ⟨i1, i5, i2, i3, i4, i6⟩ := firstA_some hcase
          obtain ⟨p, hp⟩ : ∃ p : Nat, idxA A x = p := ⟨_, rfl⟩
          have hz1 : z = (p : Int) := by rw [← HI.out, i1, hp]
          rw [hp, HA.out] at i5
          have HP := Lib.hid hp
          have HFA := Lib.hid hcase
          have HPA : Hid (A[p]? = some a) := by rw [← hp]; exact hcase
          have HIT := Lib.hid i6
          subst hz1
          have hpl := HL.out.len a (List.mem_of_getElem? HPA.out)
          clear hp i6 i1
          have E1 := Lib.hid i2
          have E2 := Lib.hid i3
          have E3 := Lib.hid i4
          clear i2 i3 i4 hcase
          rw [E1.out, E2.out, E3.out]
          rintro e w2 ⟨oF, cF, rfl, hoF, hbF⟩
          obtain ⟨kf, hkf⟩ : ∃ kf, w2.heap.size = kf := ⟨_, rfl⟩
          have hb3 : Below w2.heap.size w2 (w2.alloc (.cells #[.int .i64 x, .slice oF a.ps.length cF] 24)) := (Below.refl _ w2).alloc (Nat.le_refl _) _
          have HB3 : Hid (Below wo.heap.size wo (w2.alloc (.cells #[.int .i64 x, .slice oF a.ps.length cF] 24))) := bstep hbF hb3
          have HK3 : Hid (Blk (w2.alloc (.cells #[.int .i64 x, .slice oF a.ps.length cF] 24)) kf 24 [.int .i64 x, .slice oF a.ps.length cF]) := blk_at (l := [.int .i64 x, .slice oF a.ps.length cF]) hkf
          have HW3 : Hid (RowOk (w2.alloc (.cells #[.int .i64 x, .slice oF a.ps.length cF] 24)) wo.heap.size kf oF a.ps.length) := (RowOk.of hoF (by omega)).kept hb3
          have HR3 : Hid (RdP (w2.alloc (.cells #[.int .i64 x, .slice oF a.ps.length cF] 24)) oF a.ps) := (own_rdp hoF).2.kept hb3
          have HKF := Lib.hid hkf
          clear hkf hb3 hbF hoF
          go_wp2_with fail
          rw [HKF.out]
          generalize w2.alloc (.cells #[.int .i64 x, .slice oF a.ps.length cF] 24) = w3 at HB3 HK3 HW3 HR3 ⊢
          clear HKF
          have HL3 := Lib.hid (HL.out.below HB3.out)
          obtain ⟨gA, oA0, eA, a0, a1⟩ := HL3.out.rda.at p a HPA.out
          subst eA
          have HX3 := Lib.hid (HL3.out.rdp a (List.mem_of_getElem? HPA.out)).1
          rw [HIT.out] at a0
          have f0 := HK3.out.cell 0
          have f1 := HK3.out.cell 1
          simp only [List.getElem?_cons_zero, List.getElem?_cons_succ] at f0 f1
          have hpA : (p : Int) < A.length := by rw [HA.out]; omega
          have hp0 : (0 : Int) ≤ p := by omega
          have hgA : gA < w3.heap.size := block_lt a0
          have hkf2 : kf < w3.heap.size := HK3.out.lt
          refine wp_region_held_drew (S := fun w' => w'.cell? ⟨kf, 0, none⟩ = some (.int .i64 x) ∧ w'.cell? ⟨kf, 1, none⟩ = some (.slice oF a.ps.length cF) ∧ w'.cell? ⟨gA, oA0 + p * 2, none⟩ = some (.int .i64 x) ∧ w'.cell? ⟨gA, oA0 + p * 2 + 1, none⟩ = some (.slice a.o a.ps.length a.c)) (by kernel_rfl) ?_ (fun hHeld => ?_)
          · exact ⟨f0, f1, a0, a1⟩
          refine wpAnyH_take (i := 0) (oi := ⟨some 56, _, _, _, _, _⟩) (v := ?vsq1q0) rfl (by kernel_rfl) (by kernel_rfl) (by kernel_rfl) (fun _ _ _ h => h) (Or.inl ⟨by rfl, ?ysq1q0⟩) (by assumption) ?rsq1q0
          case ysq1q0 => (intro w hSw; (try dsimp only at hSw); go_simp; (try (with_reducible rfl)))
          try simp only [Act.put, List.setIfInBounds_toArray, List.set_cons_zero, List.set_cons_succ]
          refine wpAnyH_take (i := 1) (oi := ⟨some 57, _, _, _, _, _⟩) (v := ?vsq2q1) rfl (by kernel_rfl) (by kernel_rfl) (by kernel_rfl) (fun _ _ _ h => h) (Or.inl ⟨by rfl, ?ysq2q1⟩) (by assumption) ?rsq2q1
          case ysq2q1 => (intro w hSw; (try dsimp only at hSw); go_simp; (try (with_reducible rfl)))
          try simp only [Act.put, List.setIfInBounds_toArray, List.set_cons_zero, List.set_cons_succ]
          refine wpAnyH_take (i := 2) (oi := ⟨some 58, _, _, _, _, _⟩) (v := .bool true) rfl (by kernel_rfl) (by kernel_rfl) (by kernel_rfl) (fun _ _ _ h => h) (Or.inl ⟨by rfl, ?ysq3q2⟩) (by assumption) ?rsq3q2
          case ysq3q2 => (intro w hSw; (try dsimp only at hSw); go_simp; (try (with_reducible rfl)))
          try simp only [Act.put, List.setIfInBounds_toArray, List.set_cons_zero, List.set_cons_succ]
          refine wpAnyH_take (i := 3) (oi := ⟨some 59, _, _, _, _, _⟩) (v := .bool false) rfl (by kernel_rfl) (by kernel_rfl) (by kernel_rfl) (fun _ _ _ h => h) (Or.inl ⟨by rfl, ?ysq4q3⟩) (by assumption) ?rsq4q3
          case ysq4q3 => (intro w hSw; (try dsimp only at hSw); go_simp; (try (with_reducible rfl)))
          try simp only [Act.put, List.setIfInBounds_toArray, List.set_cons_zero, List.set_cons_succ]
          refine wpAnyH_take (i := 4) (oi := ⟨some 60, _, _, _, _, _⟩) (v := .bool false) rfl (by kernel_rfl) (by kernel_rfl) (by kernel_rfl) (fun _ _ _ h => h) (Or.inl ⟨by rfl, ?ysq5q4⟩) (by assumption) ?rsq5q4
          case ysq5q4 => (intro w hSw; (try dsimp only at hSw); go_simp; (try (with_reducible rfl)))
          try simp only [Act.put, List.setIfInBounds_toArray, List.set_cons_zero, List.set_cons_succ]
          refine wpAnyH_take (i := 5) (oi := ⟨some 61, _, _, _, _, _⟩) (v := .bool true) rfl (by kernel_rfl) (by kernel_rfl) (by kernel_rfl) (fun _ _ _ h => h) (Or.inl ⟨by rfl, ?ysq6q5⟩) (by assumption) ?rsq6q5
          case ysq6q5 => (intro w hSw; (try dsimp only at hSw); go_simp; (try (with_reducible rfl)))
          try simp only [Act.put, List.setIfInBounds_toArray, List.set_cons_zero, List.set_cons_succ]
          refine wpAnyH_take (i := 6) (oi := ⟨some 62, _, _, _, _, _⟩) (v := .bool true) rfl (by kernel_rfl) (by kernel_rfl) (by kernel_rfl) (fun _ _ _ h => h) (Or.inl ⟨by rfl, ?ysq7q6⟩) (by assumption) ?rsq7q6
          case ysq7q6 => (intro w hSw; (try dsimp only at hSw); go_simp; (try (with_reducible rfl)))
          try simp only [Act.put, List.setIfInBounds_toArray, List.set_cons_zero, List.set_cons_succ]
          refine wpAnyH_take (i := 7) (oi := ⟨some 63, _, _, _, _, _⟩) (v := ?vsq8q7) rfl (by kernel_rfl) (by kernel_rfl) (by kernel_rfl) (fun _ _ _ h => h) (Or.inl ⟨by rfl, ?ysq8q7⟩) (by assumption) ?rsq8q7
          case ysq8q7 => (intro w hSw; (try dsimp only at hSw); go_simp; (try (with_reducible rfl)))
          try simp only [Act.put, List.setIfInBounds_toArray, List.set_cons_zero, List.set_cons_succ]
          refine wpAnyH_take (i := 8) (oi := ⟨some 64, _, _, _, _, _⟩) (v := ?vsq9q8) rfl (by kernel_rfl) (by kernel_rfl) (by kernel_rfl) (fun _ _ _ h => h) (Or.inl ⟨by rfl, ?ysq9q8⟩) (by assumption) ?rsq9q8
          case ysq9q8 => (intro w hSw; (try dsimp only at hSw); go_simp; (try (with_reducible rfl)))
          try simp only [Act.put, List.setIfInBounds_toArray, List.set_cons_zero, List.set_cons_succ]
          refine wpAnyH_take (i := 9) (oi := ⟨some 65, _, _, _, _, _⟩) (v := ?vsq10q9) rfl (by kernel_rfl) (by kernel_rfl) (by kernel_rfl) (fun _ _ _ h => h) (Or.inl ⟨by rfl, ?ysq10q9⟩) (by assumption) ?rsq10q9
          case ysq10q9 => (intro w hSw; (try dsimp only at hSw); go_simp; (try (with_reducible rfl)))
          try simp only [Act.put, List.setIfInBounds_toArray, List.set_cons_zero, List.set_cons_succ]
          refine wpAnyH_take (i := 10) (oi := ⟨some 66, _, _, _, _, _⟩) (v := ?vsq11q10) rfl (by kernel_rfl) (by kernel_rfl) (by kernel_rfl) (fun _ _ _ h => h) (Or.inl ⟨by rfl, ?ysq11q10⟩) (by assumption) ?rsq11q10
          case ysq11q10 => (intro w hSw; (try dsimp only at hSw); go_simp; (try (with_reducible rfl)))
          try simp only [Act.put, List.setIfInBounds_toArray, List.set_cons_zero, List.set_cons_succ]
          refine wpAnyH_take (i := 11) (oi := ⟨some 67, _, _, _, _, _⟩) (v := ?vsq12q11) rfl (by kernel_rfl) (by kernel_rfl) (by kernel_rfl) (fun _ _ _ h => h) (Or.inl ⟨by rfl, ?ysq12q11⟩) (by assumption) ?rsq12q11
          case ysq12q11 => (intro w hSw; (try dsimp only at hSw); go_simp; (try (with_reducible rfl)))
          try simp only [Act.put, List.setIfInBounds_toArray, List.set_cons_zero, List.set_cons_succ]
          refine wpAnyH_ready (rs := [12]) (by kernel_rfl) (by simp) (AllReadyH.cons (o := ⟨some 68, _, _, _, _, _⟩) rfl (fun K hK => ?_) AllReadyH.nil)
          go_simp
          refine (same_of w3.drew x x oF a.o cF a.c a.ps.length a.ps.length a.ps a.ps true rfl rfl (sameA_self x a.ps) (by omega) (by omega) (HR3.out.kept ((Below.refl _ w3).drew)) (HX3.out.kept ((Below.refl _ w3).drew))).mono ?_
          rintro e w4 ⟨rfl, hb4⟩
          have hb4' : Below w3.heap.size w3 w4 := (Below.refl _ w3).drew.trans hb4
          have HB4 := Lib.hid (bstep HB3.out hb4')
          have HK4 := Lib.hid (HK3.out.kept (hb4'.block _ HK3.out.lt))
          have HW4 := Lib.hid (HW3.out.kept hb4')
          have t0 := (hb4'.cell (p := ⟨gA, oA0 + p * 2, none⟩) hgA).trans a0
          have t1 := (hb4'.cell (p := ⟨gA, oA0 + p * 2 + 1, none⟩) hgA).trans a1
          have s0 := (hb4'.cell (p := ⟨kf, 0, none⟩) hkf2).trans f0
          have s1 := (hb4'.cell (p := ⟨kf, 1, none⟩) hkf2).trans f1
          clear hb4 hb4'
          go_simp
          refine hK.out _ _ ?_ (fun hHeld2 => ?_)
          · exact ⟨s0, s1, t0, t1⟩
          clear hK K hHeld
          rename _ => hHeld
          try simp only [Act.put, List.setIfInBounds_toArray, List.set_cons_zero, List.set_cons_succ]
          refine wpAnyH_take (i := 13) (oi := ⟨some 69, _, _, _, _, _⟩) (v := .bool false) rfl (by kernel_rfl) (by kernel_rfl) (by kernel_rfl) (fun _ _ _ h => h) (Or.inl ⟨by rfl, ?ysq13q13⟩) (by assumption) ?rsq13q13
          case ysq13q13 => (intro w hSw; (try dsimp only at hSw); go_simp; (try (with_reducible rfl)))
          try simp only [Act.put, List.setIfInBounds_toArray, List.set_cons_zero, List.set_cons_succ]
          refine wpAnyH_take (i := 14) (oi := ⟨some 70, _, _, _, _, _⟩) (v := .bool false) rfl (by kernel_rfl) (by kernel_rfl) (by kernel_rfl) (fun _ _ _ h => h) (Or.inl ⟨by rfl, ?ysq14q14⟩) (by assumption) ?rsq14q14
          case ysq14q14 => (intro w hSw; (try dsimp only at hSw); go_simp; (try (with_reducible rfl)))
          try simp only [Act.put, List.setIfInBounds_toArray, List.set_cons_zero, List.set_cons_succ]
          refine wpAnyH_take (i := 15) (oi := ⟨some 71, _, _, _, _, _⟩) (v := .bool false) rfl (by kernel_rfl) (by kernel_rfl) (by kernel_rfl) (fun _ _ _ h => h) (Or.inl ⟨by rfl, ?ysq15q15⟩) (by assumption) ?rsq15q15
          case ysq15q15 => (intro w hSw; (try dsimp only at hSw); go_simp; (try (with_reducible rfl)))
          try simp only [Act.put, List.setIfInBounds_toArray, List.set_cons_zero, List.set_cons_succ]
          refine wpAnyH_take (i := 16) (oi := ⟨some 72, _, _, _, _, _⟩) (v := .bool false) rfl (by kernel_rfl) (by kernel_rfl) (by kernel_rfl) (fun _ _ _ h => h) (Or.inl ⟨by rfl, ?ysq16q16⟩) (by assumption) ?rsq16q16
          case ysq16q16 => (intro w hSw; (try dsimp only at hSw); go_simp; (try (with_reducible rfl)))
          try simp only [Act.put, List.setIfInBounds_toArray, List.set_cons_zero, List.set_cons_succ]
          refine wpAnyH_take (i := 17) (oi := ⟨some 73, _, _, _, _, _⟩) (v := .bool true) rfl (by kernel_rfl) (by kernel_rfl) (by kernel_rfl) (fun _ _ _ h => h) (Or.inl ⟨by rfl, ?ysq17q17⟩) (by assumption) ?rsq17q17
          case ysq17q17 => (intro w hSw; (try dsimp only at hSw); go_simp; (try (with_reducible rfl)))
          try simp only [Act.put, List.setIfInBounds_toArray, List.set_cons_zero, List.set_cons_succ]
          refine wpAnyH_take (i := 18) (oi := ⟨some 74, _, _, _, _, _⟩) (v := .bool false) rfl (by kernel_rfl) (by kernel_rfl) (by kernel_rfl) (fun _ _ _ h => h) (Or.inl ⟨by rfl, ?ysq18q18⟩) (by assumption) ?rsq18q18
          case ysq18q18 => (intro w hSw; (try dsimp only at hSw); go_simp; (try (with_reducible rfl)))
          try simp only [Act.put, List.setIfInBounds_toArray, List.set_cons_zero, List.set_cons_succ]
          refine wpAnyH_take (i := 19) (oi := ⟨some 75, _, _, _, _, _⟩) (v := .bool false) rfl (by kernel_rfl) (by kernel_rfl) (by kernel_rfl) (fun _ _ _ h => h) (Or.inl ⟨by rfl, ?ysq19q19⟩) (by assumption) ?rsq19q19
          case ysq19q19 => (intro w hSw; (try dsimp only at hSw); go_simp; (try (with_reducible rfl)))
          try simp only [Act.put, List.setIfInBounds_toArray, List.set_cons_zero, List.set_cons_succ]
          refine wpAnyH_take (i := 20) (oi := ⟨some 76, _, _, _, _, _⟩) (v := undef) rfl (by kernel_rfl) (by kernel_rfl) (by kernel_rfl) (fun _ _ _ h => h) (Or.inr ⟨by rfl, rfl⟩) (by assumption) ?_
          try simp only [Act.put, List.setIfInBounds_toArray, List.set_cons_zero, List.set_cons_succ]
          refine wpAnyH_take (i := 21) (oi := ⟨some 77, _, _, _, _, _⟩) (v := undef) rfl (by kernel_rfl) (by kernel_rfl) (by kernel_rfl) (fun _ _ _ h => h) (Or.inr ⟨by rfl, rfl⟩) (by assumption) ?_
          try simp only [Act.put, List.setIfInBounds_toArray, List.set_cons_zero, List.set_cons_succ]
          refine wpAnyH_take (i := 22) (oi := ⟨some 78, _, _, _, _, _⟩) (v := undef) rfl (by kernel_rfl) (by kernel_rfl) (by kernel_rfl) (fun _ _ _ h => h) (Or.inr ⟨by rfl, rfl⟩) (by assumption) ?_
          try simp only [Act.put, List.setIfInBounds_toArray, List.set_cons_zero, List.set_cons_succ]
          refine wpAnyH_take (i := 23) (oi := ⟨some 79, _, _, _, _, _⟩) (v := undef) rfl (by kernel_rfl) (by kernel_rfl) (by kernel_rfl) (fun _ _ _ h => h) (Or.inr ⟨by rfl, rfl⟩) (by assumption) ?_
          try simp only [Act.put, List.setIfInBounds_toArray, List.set_cons_zero, List.set_cons_succ]
          refine wpAnyH_take (i := 24) (oi := ⟨some 80, _, _, _, _, _⟩) (v := undef) rfl (by kernel_rfl) (by kernel_rfl) (by kernel_rfl) (fun _ _ _ h => h) (Or.inr ⟨by rfl, rfl⟩) (by assumption) ?_
          try simp only [Act.put, List.setIfInBounds_toArray, List.set_cons_zero, List.set_cons_succ]
          refine wpAnyH_take (i := 25) (oi := ⟨some 81, _, _, _, _, _⟩) (v := undef) rfl (by kernel_rfl) (by kernel_rfl) (by kernel_rfl) (fun _ _ _ h => h) (Or.inr ⟨by rfl, rfl⟩) (by assumption) ?_
          try simp only [Act.put, List.setIfInBounds_toArray, List.set_cons_zero, List.set_cons_succ]
          refine wpAnyH_take (i := 26) (oi := ⟨some 82, _, _, _, _, _⟩) (v := undef) rfl (by kernel_rfl) (by kernel_rfl) (by kernel_rfl) (fun _ _ _ h => h) (Or.inr ⟨by rfl, rfl⟩) (by assumption) ?_
          try simp only [Act.put, List.setIfInBounds_toArray, List.set_cons_zero, List.set_cons_succ]
          refine wpAnyH_take (i := 27) (oi := ⟨some 83, _, _, _, _, _⟩) (v := undef) rfl (by kernel_rfl) (by kernel_rfl) (by kernel_rfl) (fun _ _ _ h => h) (Or.inr ⟨by rfl, rfl⟩) (by assumption) ?_
          try simp only [Act.put, List.setIfInBounds_toArray, List.set_cons_zero, List.set_cons_succ]
          refine wpAnyH_take (i := 28) (oi := ⟨some 84, _, _, _, _, _⟩) (v := undef) rfl (by kernel_rfl) (by kernel_rfl) (by kernel_rfl) (fun _ _ _ h => h) (Or.inr ⟨by rfl, rfl⟩) (by assumption) ?_
          try simp only [Act.put, List.setIfInBounds_toArray, List.set_cons_zero, List.set_cons_succ]
          refine wpAnyH_take (i := 29) (oi := ⟨some 85, _, _, _, _, _⟩) (v := .bool false) rfl (by kernel_rfl) (by kernel_rfl) (by kernel_rfl) (fun _ _ _ h => h) (Or.inl ⟨by rfl, ?ysq20q29⟩) (by assumption) ?rsq20q29
          case ysq20q29 => (intro w hSw; (try dsimp only at hSw); go_simp; (try (with_reducible rfl)))
          try simp only [Act.put, List.setIfInBounds_toArray, List.set_cons_zero, List.set_cons_succ]
          refine wpAnyH_take (i := 30) (oi := ⟨some 86, _, _, _, _, _⟩) (v := .bool false) rfl (by kernel_rfl) (by kernel_rfl) (by kernel_rfl) (fun _ _ _ h => h) (Or.inl ⟨by rfl, ?ysq21q30⟩) (by assumption) ?rsq21q30
          case ysq21q30 => (intro w hSw; (try dsimp only at hSw); go_simp; (try (with_reducible rfl)))
          try simp only [Act.put, List.setIfInBounds_toArray, List.set_cons_zero, List.set_cons_succ]
          refine wpAnyH_done (by kernel_rfl) ?_ _
          clear hHeld s0 s1 t0 t1 a0 a1 f0 f1 HR3 HX3 HL3 HB3 HK3 HW3 hgA hkf2
          go_wp2_with fail
          go_loopw [13] (fun i w => ∃ (k2 : Nat), k2 ≤ a.ps.length ∧ i = .int .i64 k2 ∧ Hid (RowOk w wo.heap.size kf oF a.ps.length) ∧ Hid (Blk w kf 24 [.int .i64 x, .slice oF a.ps.length cF]) ∧ Hid (Below wo.heap.size wo w)) (fun i _ => a.ps.length - (intOf i).toNat)
          case atStart => exact ⟨0, Nat.zero_le _, rfl, HW4, HK4, HB4⟩
          case round =>
            clear HW4 HK4 HB4
            obtain ⟨k2, hk3, rfl, HRW, HKW, HBW⟩ := hrel
            have f1 := HKW.out.cell 1
            simp only [List.getElem?_cons_zero, List.getElem?_cons_succ] at f1
            by_cases hke : k2 < a.ps.length
            · have hke' : (k2 : Int) < a.ps.length := by omega
              obtain ⟨g, eF, hgB, hgk, ⟨u0, x0⟩, y0, ⟨u1, x1⟩, y1, ⟨u2, x2⟩, y2, hrw⟩ := HRW.out.put k2 hke (.bool false) (.string ⟨#[99, 104, 97, 110, 103, 101, 100]⟩) (.int .i64 0)
              subst eF
              have HRW2 := Lib.hid hrw
              have HKW2 := Lib.hid (((HKW.out.other ⟨g, k2 * 3, none⟩ hgk (.bool false)).other ⟨g, k2 * 3 + 1, none⟩ hgk (.string ⟨#[99, 104, 97, 110, 103, 101, 100]⟩)).other ⟨g, k2 * 3 + 2, none⟩ hgk (.int .i64 0))
              have HBW2 := Lib.hid (((HBW.out.setCell (p := ⟨g, k2 * 3, none⟩) hgB (.bool false)).setCell (p := ⟨g, k2 * 3 + 1, none⟩) hgB (.string ⟨#[99, 104, 97, 110, 103, 101, 100]⟩)).setCell (p := ⟨g, k2 * 3 + 2, none⟩) hgB (.int .i64 0))
              clear hrw hke
              go_wp2_with fail
              go_roundw
              case rel => exact ⟨k2 + 1, by omega, by go_num, HRW2, HKW2, HBW2⟩
              case measure => simp [intOf]; omega
            · obtain rfl : k2 = a.ps.length := by omega
              have hke' : ¬ ((a.ps.length : Nat) : Int) < (a.ps.length : Nat) := by omega
              clear hke
              have HL5 := Lib.hid (HL.out.below HBW.out)
              clear hk3 HRW HKW HBW
              go_wp2_with fail
              refine (HF.out wr HL5.out).mono ?_
              rw [E1.out, E2.out, E3.out]
              rintro e w6 ⟨oG, cG, rfl, hoG, hbG⟩
              obtain ⟨kb, hkb⟩ : ∃ kb, w6.heap.size = kb := ⟨_, rfl⟩
              have hb7 : Below w6.heap.size w6 (w6.alloc (.cells #[.int .i64 x, .slice oG a.ps.length cG] 24)) := (Below.refl _ w6).alloc (Nat.le_refl _) _
              have HL6 := Lib.hid (HL5.out.below hbG)
              have HL7 := Lib.hid (HL6.out.below hb7)
              have HK7 : Hid (Blk (w6.alloc (.cells #[.int .i64 x, .slice oG a.ps.length cG] 24)) kb 24 [.int .i64 x, .slice oG a.ps.length cG]) := blk_at (l := [.int .i64 x, .slice oG a.ps.length cG]) hkb
              have HG7 : Hid ((w6.alloc (.cells #[.int .i64 x, .slice oG a.ps.length cG] 24)).ownsRow w1.heap.size 42 3 (.slice oG a.ps.length cG) a.ps.length (pcells a.ps)) := own_weak (hoG.alloc _) HL5.out.bel.size
              have HV7 : Hid ((Value.slice (some ⟨gA, oA0, none⟩) A.length cA).ownBlock ≠ some kb) := fun e => by have := (HL6.out.own.lt kb e).2; omega
              have HKB2 := Lib.hid hkb
              clear hkb hb7 hbG hoG f1 HL5 HL6
              go_wp2_with fail
              rw [HKB2.out]
              generalize w6.alloc (.cells #[.int .i64 x, .slice oG a.ps.length cG] 24) = w7 at HL7 HK7 HG7 ⊢
              go_loopw [8, 16] (fun v i w => ∃ (k3 : Nat) (M : List Ast), k3 ≤ m ∧ k3 ≤ 10 ∧ i = .int .i64 k3 ∧ Hid (M.length = k3) ∧ Hid (AL w1 w v (A ++ M)) ∧ Hid (v.ownBlock ≠ some kb) ∧ Hid (Blk w kb 24 [.int .i64 x, .slice oG a.ps.length cG]) ∧ Hid (w.ownsRow w1.heap.size 42 3 (.slice oG a.ps.length cG) a.ps.length (pcells a.ps))) (fun _ i _ => m - (intOf i).toNat)
              case atStart => exact ⟨0, [], Nat.zero_le _, Nat.zero_le _, rfl, rfl, by rw [List.append_nil]; exact HL7, HV7, HK7, HG7⟩
              case round =>
                clear HL7 HV7 HK7 HG7 HKB2
                obtain ⟨k3, M, hk3, hk4, rfl, HMl, HL8, HV8, HK8, HG8⟩ := hrel
                obtain ⟨oB, cB, eB⟩ := own_slice HL8.out.own
                subst eB
                have hAM : (A ++ M).length ≤ 20 := by rw [List.length_append, HA.out, HMl.out]; omega
                by_cases hend : k3 = m ∨ k3 = 10
                · have q0 : ¬ ((k3 : Int) < m ∧ (k3 : Int) < 10) := by omega
                  have HF3 := Lib.hid (fun w (h : AL w1 w (.slice oB (A ++ M).length cB) (A ++ M)) => find_any w oB cB (A ++ M) x (by omega) h.rda h.rdp)
                  obtain ⟨m1, m2⟩ := firstA_more HFA.out M
                  obtain ⟨_, j5, j2, j3, j4, _⟩ := firstA_some m1
                  rw [m2, HP.out] at j5
                  rw [j2, j3, j4] at HF3
                  have HPM : Hid ((A ++ M)[p]? = some a) := by show _ = _; rw [← HP.out, ← m2]; exact m1
                  clear m1 m2 j2 j3 j4
                  clear hend
                  obtain ⟨nA, hnA⟩ : ∃ nA, (A ++ M).length = nA := ⟨_, rfl⟩
                  rw [hnA] at HF3 HL8 hAM j5 ⊢
                  have HNA := Lib.hid hnA
                  clear hnA
                  by_cases q1 : (k3 : Int) < m
                  · skip
                    have q2 : ¬ (k3 : Int) < 10 := fun h => q0 ⟨q1, h⟩
                    clear q0
                    go_wp2_with fail
                    refine (HF3.out wr HL8.out).mono ?_
                    rintro e w9 ⟨oH, cH, rfl, hoH, hbH⟩
                    obtain ⟨kc, hkc⟩ : ∃ kc, w9.heap.size = kc := ⟨_, rfl⟩
                    have hb10 : Below w9.heap.size w9 (w9.alloc (.cells #[.int .i64 x, .slice oH a.ps.length cH] 24)) := (Below.refl _ w9).alloc (Nat.le_refl _) _
                    have hbb : Below wr.heap.size wr (w9.alloc (.cells #[.int .i64 x, .slice oH a.ps.length cH] 24)) := bstep hbH hb10
                    have HL10 := Lib.hid (HL8.out.below hbb)
                    have HKC := Lib.hid hkc
                    have HK10 := Lib.hid (HK8.out.kept (hbb.block _ HK8.out.lt))
                    have HG10 := Lib.hid ((own_rdp HG8.out).2.kept hbb)
                    have HC10 : Hid (Blk (w9.alloc (.cells #[.int .i64 x, .slice oH a.ps.length cH] 24)) kc 24 [.int .i64 x, .slice oH a.ps.length cH]) := blk_at (l := [.int .i64 x, .slice oH a.ps.length cH]) hkc
                    have HH10 := Lib.hid ((own_rdp hoH).2.kept hb10)
                    clear hkc hb10 hbb hbH hoH HF3 HL8 HK8 HG8
                    go_wp2_with fail
                    rw [HKC.out]
                    generalize w9.alloc (.cells #[.int .i64 x, .slice oH a.ps.length cH] 24) = w10 at HL10 HK10 HG10 HC10 HH10 ⊢
                    obtain ⟨gB, oB0, eB, a0, a1⟩ := HL10.out.rda.at p a HPM.out
                    subst eB
                    have HX10 := Lib.hid (HL10.out.rdp a (List.mem_of_getElem? HPM.out)).1
                    rw [HIT.out] at a0
                    have f0 := HK10.out.cell 0
                    have f1 := HK10.out.cell 1
                    have g0 := HC10.out.cell 0
                    have g1 := HC10.out.cell 1
                    simp only [List.getElem?_cons_zero, List.getElem?_cons_succ] at f0 f1 g0 g1
                    have hgB : gB < w10.heap.size := block_lt a0
                    have hkb2 : kb < w10.heap.size := HK10.out.lt
                    have hkc2 : kc < w10.heap.size := HC10.out.lt
                    have hpA2 : (p : Int) < nA := by omega
                    refine wp_region_held_drew (S := fun w' => w'.cell? ⟨kb, 0, none⟩ = some (.int .i64 x) ∧ w'.cell? ⟨kb, 1, none⟩ = some (.slice oG a.ps.length cG) ∧ w'.cell? ⟨kc, 0, none⟩ = some (.int .i64 x) ∧ w'.cell? ⟨kc, 1, none⟩ = some (.slice oH a.ps.length cH) ∧ w'.cell? ⟨gB, oB0 + p * 2, none⟩ = some (.int .i64 x) ∧ w'.cell? ⟨gB, oB0 + p * 2 + 1, none⟩ = some (.slice a.o a.ps.length a.c)) (by kernel_rfl) ?_ (fun hHeld => ?_)
                    · exact ⟨f0, f1, g0, g1, a0, a1⟩
                    refine wpAnyH_take (i := 0) (oi := ⟨some 129, _, _, _, _, _⟩) (v := .bool true) rfl (by kernel_rfl) (by kernel_rfl) (by kernel_rfl) (fun _ _ _ h => h) (Or.inl ⟨by rfl, ?yzq22q0⟩) (by assumption) ?rzq22q0
                    case yzq22q0 => (intro w hSw; (try dsimp only at hSw); go_simp; (try (with_reducible rfl)))
                    try simp only [Act.put, List.setIfInBounds_toArray, List.set_cons_zero, List.set_cons_succ]
                    refine wpAnyH_take (i := 1) (oi := ⟨some 130, _, _, _, _, _⟩) (v := .bool true) rfl (by kernel_rfl) (by kernel_rfl) (by kernel_rfl) (fun _ _ _ h => h) (Or.inl ⟨by rfl, ?yzq23q1⟩) (by assumption) ?rzq23q1
                    case yzq23q1 => (intro w hSw; (try dsimp only at hSw); go_simp; (try (with_reducible rfl)))
                    try simp only [Act.put, List.setIfInBounds_toArray, List.set_cons_zero, List.set_cons_succ]
                    refine wpAnyH_take (i := 2) (oi := ⟨some 131, _, _, _, _, _⟩) (v := .bool true) rfl (by kernel_rfl) (by kernel_rfl) (by kernel_rfl) (fun _ _ _ h => h) (Or.inl ⟨by rfl, ?yzq24q2⟩) (by assumption) ?rzq24q2
                    case yzq24q2 => (intro w hSw; (try dsimp only at hSw); go_simp; (try (with_reducible rfl)))
                    try simp only [Act.put, List.setIfInBounds_toArray, List.set_cons_zero, List.set_cons_succ]
                    refine wpAnyH_take (i := 3) (oi := ⟨some 132, _, _, _, _, _⟩) (v := .bool false) rfl (by kernel_rfl) (by kernel_rfl) (by kernel_rfl) (fun _ _ _ h => h) (Or.inl ⟨by rfl, ?yzq25q3⟩) (by assumption) ?rzq25q3
                    case yzq25q3 => (intro w hSw; (try dsimp only at hSw); go_simp; (try (with_reducible rfl)))
                    try simp only [Act.put, List.setIfInBounds_toArray, List.set_cons_zero, List.set_cons_succ]
                    refine wpAnyH_take (i := 4) (oi := ⟨some 133, _, _, _, _, _⟩) (v := .bool false) rfl (by kernel_rfl) (by kernel_rfl) (by kernel_rfl) (fun _ _ _ h => h) (Or.inl ⟨by rfl, ?yzq26q4⟩) (by assumption) ?rzq26q4
                    case yzq26q4 => (intro w hSw; (try dsimp only at hSw); go_simp; (try (with_reducible rfl)))
                    try simp only [Act.put, List.setIfInBounds_toArray, List.set_cons_zero, List.set_cons_succ]
                    refine wpAnyH_take (i := 5) (oi := ⟨some 134, _, _, _, _, _⟩) (v := .bool true) rfl (by kernel_rfl) (by kernel_rfl) (by kernel_rfl) (fun _ _ _ h => h) (Or.inl ⟨by rfl, ?yzq27q5⟩) (by assumption) ?rzq27q5
                    case yzq27q5 => (intro w hSw; (try dsimp only at hSw); go_simp; (try (with_reducible rfl)))
                    try simp only [Act.put, List.setIfInBounds_toArray, List.set_cons_zero, List.set_cons_succ]
                    refine wpAnyH_take (i := 6) (oi := ⟨some 135, _, _, _, _, _⟩) (v := .bool true) rfl (by kernel_rfl) (by kernel_rfl) (by kernel_rfl) (fun _ _ _ h => h) (Or.inl ⟨by rfl, ?yzq28q6⟩) (by assumption) ?rzq28q6
                    case yzq28q6 => (intro w hSw; (try dsimp only at hSw); go_simp; (try (with_reducible rfl)))
                    try simp only [Act.put, List.setIfInBounds_toArray, List.set_cons_zero, List.set_cons_succ]
                    refine wpAnyH_take (i := 7) (oi := ⟨some 136, _, _, _, _, _⟩) (v := ?vzq29q7) rfl (by kernel_rfl) (by kernel_rfl) (by kernel_rfl) (fun _ _ _ h => h) (Or.inl ⟨by rfl, ?yzq29q7⟩) (by assumption) ?rzq29q7
                    case yzq29q7 => (intro w hSw; (try dsimp only at hSw); go_simp; (try (with_reducible rfl)))
                    try simp only [Act.put, List.setIfInBounds_toArray, List.set_cons_zero, List.set_cons_succ]
                    refine wpAnyH_take (i := 8) (oi := ⟨some 137, _, _, _, _, _⟩) (v := ?vzq30q8) rfl (by kernel_rfl) (by kernel_rfl) (by kernel_rfl) (fun _ _ _ h => h) (Or.inl ⟨by rfl, ?yzq30q8⟩) (by assumption) ?rzq30q8
                    case yzq30q8 => (intro w hSw; (try dsimp only at hSw); go_simp; (try (with_reducible rfl)))
                    try simp only [Act.put, List.setIfInBounds_toArray, List.set_cons_zero, List.set_cons_succ]
                    refine wpAnyH_ready (rs := [9]) (by kernel_rfl) (by simp) (AllReadyH.cons (o := ⟨some 138, _, _, _, _, _⟩) rfl (fun K hK => ?_) AllReadyH.nil)
                    go_simp
                    refine (same_of w10.drew x x oG oH cG cH a.ps.length a.ps.length a.ps a.ps true rfl rfl (sameA_self x a.ps) (by omega) (by omega) (HG10.out.kept ((Below.refl _ w10).drew)) (HH10.out.kept ((Below.refl _ w10).drew))).mono ?_
                    rintro e w11 ⟨rfl, hb11⟩
                    have hq : Below w10.heap.size w10 w11 := (Below.refl _ w10).drew.trans hb11
                    have HQ11 := Lib.hid hq
                    have s0 := (hq.cell (p := ⟨kb, 0, none⟩) hkb2).trans f0
                    have s1 := (hq.cell (p := ⟨kb, 1, none⟩) hkb2).trans f1
                    have s2 := (hq.cell (p := ⟨kc, 0, none⟩) hkc2).trans g0
                    have s3 := (hq.cell (p := ⟨kc, 1, none⟩) hkc2).trans g1
                    have s4 := (hq.cell (p := ⟨gB, oB0 + p * 2, none⟩) hgB).trans a0
                    have s5 := (hq.cell (p := ⟨gB, oB0 + p * 2 + 1, none⟩) hgB).trans a1
                    clear hb11 hq
                    go_simp
                    refine hK.out _ _ ?_ (fun hHeld2 => ?_)
                    · exact ⟨s0, s1, s2, s3, s4, s5⟩
                    clear hK K hHeld
                    rename _ => hHeld
                    try simp only [Act.put, List.setIfInBounds_toArray, List.set_cons_zero, List.set_cons_succ]
                    clear s0 s1 s2 s3 s4 s5
                    refine wpAnyH_take (i := 10) (oi := ⟨some 139, _, _, _, _, _⟩) (v := .bool true) rfl (by kernel_rfl) (by kernel_rfl) (by kernel_rfl) (fun _ _ _ h => h) (Or.inl ⟨by rfl, ?yzq31q10⟩) (by assumption) ?rzq31q10
                    case yzq31q10 => (intro w hSw; (try dsimp only at hSw); go_simp; (try (with_reducible rfl)))
                    try simp only [Act.put, List.setIfInBounds_toArray, List.set_cons_zero, List.set_cons_succ]
                    refine wpAnyH_take (i := 11) (oi := ⟨some 140, _, _, _, _, _⟩) (v := .bool true) rfl (by kernel_rfl) (by kernel_rfl) (by kernel_rfl) (fun _ _ _ h => h) (Or.inl ⟨by rfl, ?yzq32q11⟩) (by assumption) ?rzq32q11
                    case yzq32q11 => (intro w hSw; (try dsimp only at hSw); go_simp; (try (with_reducible rfl)))
                    try simp only [Act.put, List.setIfInBounds_toArray, List.set_cons_zero, List.set_cons_succ]
                    refine wpAnyH_take (i := 12) (oi := ⟨some 141, _, _, _, _, _⟩) (v := ?vzq33q12) rfl (by kernel_rfl) (by kernel_rfl) (by kernel_rfl) (fun _ _ _ h => h) (Or.inl ⟨by rfl, ?yzq33q12⟩) (by assumption) ?rzq33q12
                    case yzq33q12 => (intro w hSw; (try dsimp only at hSw); go_simp; (try (with_reducible rfl)))
                    try simp only [Act.put, List.setIfInBounds_toArray, List.set_cons_zero, List.set_cons_succ]
                    refine wpAnyH_take (i := 13) (oi := ⟨some 142, _, _, _, _, _⟩) (v := ?vzq34q13) rfl (by kernel_rfl) (by kernel_rfl) (by kernel_rfl) (fun _ _ _ h => h) (Or.inl ⟨by rfl, ?yzq34q13⟩) (by assumption) ?rzq34q13
                    case yzq34q13 => (intro w hSw; (try dsimp only at hSw); go_simp; (try (with_reducible rfl)))
                    try simp only [Act.put, List.setIfInBounds_toArray, List.set_cons_zero, List.set_cons_succ]
                    refine wpAnyH_take (i := 14) (oi := ⟨some 143, _, _, _, _, _⟩) (v := ?vzq35q14) rfl (by kernel_rfl) (by kernel_rfl) (by kernel_rfl) (fun _ _ _ h => h) (Or.inl ⟨by rfl, ?yzq35q14⟩) (by assumption) ?rzq35q14
                    case yzq35q14 => (intro w hSw; (try dsimp only at hSw); go_simp; (try (with_reducible rfl)))
                    try simp only [Act.put, List.setIfInBounds_toArray, List.set_cons_zero, List.set_cons_succ]
                    refine wpAnyH_take (i := 15) (oi := ⟨some 144, _, _, _, _, _⟩) (v := ?vzq36q15) rfl (by kernel_rfl) (by kernel_rfl) (by kernel_rfl) (fun _ _ _ h => h) (Or.inl ⟨by rfl, ?yzq36q15⟩) (by assumption) ?rzq36q15
                    case yzq36q15 => (intro w hSw; (try dsimp only at hSw); go_simp; (try (with_reducible rfl)))
                    try simp only [Act.put, List.setIfInBounds_toArray, List.set_cons_zero, List.set_cons_succ]
                    refine wpAnyH_take (i := 16) (oi := ⟨some 145, _, _, _, _, _⟩) (v := ?vzq37q16) rfl (by kernel_rfl) (by kernel_rfl) (by kernel_rfl) (fun _ _ _ h => h) (Or.inl ⟨by rfl, ?yzq37q16⟩) (by assumption) ?rzq37q16
                    case yzq37q16 => (intro w hSw; (try dsimp only at hSw); go_simp; (try (with_reducible rfl)))
                    try simp only [Act.put, List.setIfInBounds_toArray, List.set_cons_zero, List.set_cons_succ]
                    refine wpAnyH_ready (rs := [17]) (by kernel_rfl) (by simp) (AllReadyH.cons (o := ⟨some 146, _, _, _, _, _⟩) rfl (fun K hK => ?_) AllReadyH.nil)
                    go_simp
                    refine (same_of w11 x x oG a.o cG a.c a.ps.length a.ps.length a.ps a.ps true rfl rfl (sameA_self x a.ps) (by omega) (by omega) (HG10.out.kept HQ11.out) (HX10.out.kept HQ11.out)).mono ?_
                    rintro e w12 ⟨rfl, hb12⟩
                    have hq : Below w10.heap.size w10 w12 := bstep HQ11.out hb12
                    have HQ12 := Lib.hid hq
                    have s0 := (hq.cell (p := ⟨kb, 0, none⟩) hkb2).trans f0
                    have s1 := (hq.cell (p := ⟨kb, 1, none⟩) hkb2).trans f1
                    have s2 := (hq.cell (p := ⟨kc, 0, none⟩) hkc2).trans g0
                    have s3 := (hq.cell (p := ⟨kc, 1, none⟩) hkc2).trans g1
                    have s4 := (hq.cell (p := ⟨gB, oB0 + p * 2, none⟩) hgB).trans a0
                    have s5 := (hq.cell (p := ⟨gB, oB0 + p * 2 + 1, none⟩) hgB).trans a1
                    clear hb12 hq
                    go_simp
                    refine hK.out _ _ ?_ (fun hHeld2 => ?_)
                    · exact ⟨s0, s1, s2, s3, s4, s5⟩
                    clear hK K hHeld
                    rename _ => hHeld
                    try simp only [Act.put, List.setIfInBounds_toArray, List.set_cons_zero, List.set_cons_succ]
                    clear s0 s1 s2 s3 s4 s5
                    refine wpAnyH_take (i := 18) (oi := ⟨some 147, _, _, _, _, _⟩) (v := .bool true) rfl (by kernel_rfl) (by kernel_rfl) (by kernel_rfl) (fun _ _ _ h => h) (Or.inl ⟨by rfl, ?yzq38q18⟩) (by assumption) ?rzq38q18
                    case yzq38q18 => (intro w hSw; (try dsimp only at hSw); go_simp; (try (with_reducible rfl)))
                    try simp only [Act.put, List.setIfInBounds_toArray, List.set_cons_zero, List.set_cons_succ]
                    refine wpAnyH_take (i := 19) (oi := ⟨some 148, _, _, _, _, _⟩) (v := .bool true) rfl (by kernel_rfl) (by kernel_rfl) (by kernel_rfl) (fun _ _ _ h => h) (Or.inl ⟨by rfl, ?yzq39q19⟩) (by assumption) ?rzq39q19
                    case yzq39q19 => (intro w hSw; (try dsimp only at hSw); go_simp; (try (with_reducible rfl)))
                    try simp only [Act.put, List.setIfInBounds_toArray, List.set_cons_zero, List.set_cons_succ]
                    refine wpAnyH_take (i := 20) (oi := ⟨some 149, _, _, _, _, _⟩) (v := .bool true) rfl (by kernel_rfl) (by kernel_rfl) (by kernel_rfl) (fun _ _ _ h => h) (Or.inl ⟨by rfl, ?yzq40q20⟩) (by assumption) ?rzq40q20
                    case yzq40q20 => (intro w hSw; (try dsimp only at hSw); go_simp; (try (with_reducible rfl)))
                    try simp only [Act.put, List.setIfInBounds_toArray, List.set_cons_zero, List.set_cons_succ]
                    refine wpAnyH_take (i := 21) (oi := ⟨some 6, _, _, _, _, _⟩) (v := .bool true) rfl (by kernel_rfl) (by kernel_rfl) (by kernel_rfl) (fun _ _ _ h => h) (Or.inl ⟨by rfl, ?yzq41q21⟩) (by assumption) ?rzq41q21
                    case yzq41q21 => (intro w hSw; (try dsimp only at hSw); go_simp; (try (with_reducible rfl)))
                    try simp only [Act.put, List.setIfInBounds_toArray, List.set_cons_zero, List.set_cons_succ]
                    refine wpAnyH_done (by kernel_rfl) ?_ _
                    clear hHeld f0 f1 g0 g1 a0 a1
                    go_wp2_with fail
                    go_ret
                    exact ⟨rfl, bstep (bstep HB1.out HL10.out.bel) HQ12.out⟩
                  · skip
                    skip
                    clear q0
                    go_wp2_with fail
                    refine (HF3.out wr HL8.out).mono ?_
                    rintro e w9 ⟨oH, cH, rfl, hoH, hbH⟩
                    obtain ⟨kc, hkc⟩ : ∃ kc, w9.heap.size = kc := ⟨_, rfl⟩
                    have hb10 : Below w9.heap.size w9 (w9.alloc (.cells #[.int .i64 x, .slice oH a.ps.length cH] 24)) := (Below.refl _ w9).alloc (Nat.le_refl _) _
                    have hbb : Below wr.heap.size wr (w9.alloc (.cells #[.int .i64 x, .slice oH a.ps.length cH] 24)) := bstep hbH hb10
                    have HL10 := Lib.hid (HL8.out.below hbb)
                    have HKC := Lib.hid hkc
                    have HK10 := Lib.hid (HK8.out.kept (hbb.block _ HK8.out.lt))
                    have HG10 := Lib.hid ((own_rdp HG8.out).2.kept hbb)
                    have HC10 : Hid (Blk (w9.alloc (.cells #[.int .i64 x, .slice oH a.ps.length cH] 24)) kc 24 [.int .i64 x, .slice oH a.ps.length cH]) := blk_at (l := [.int .i64 x, .slice oH a.ps.length cH]) hkc
                    have HH10 := Lib.hid ((own_rdp hoH).2.kept hb10)
                    clear hkc hb10 hbb hbH hoH HF3 HL8 HK8 HG8
                    go_wp2_with fail
                    rw [HKC.out]
                    generalize w9.alloc (.cells #[.int .i64 x, .slice oH a.ps.length cH] 24) = w10 at HL10 HK10 HG10 HC10 HH10 ⊢
                    obtain ⟨gB, oB0, eB, a0, a1⟩ := HL10.out.rda.at p a HPM.out
                    subst eB
                    have HX10 := Lib.hid (HL10.out.rdp a (List.mem_of_getElem? HPM.out)).1
                    rw [HIT.out] at a0
                    have f0 := HK10.out.cell 0
                    have f1 := HK10.out.cell 1
                    have g0 := HC10.out.cell 0
                    have g1 := HC10.out.cell 1
                    simp only [List.getElem?_cons_zero, List.getElem?_cons_succ] at f0 f1 g0 g1
                    have hgB : gB < w10.heap.size := block_lt a0
                    have hkb2 : kb < w10.heap.size := HK10.out.lt
                    have hkc2 : kc < w10.heap.size := HC10.out.lt
                    have hpA2 : (p : Int) < nA := by omega
                    refine wp_region_held_drew (S := fun w' => w'.cell? ⟨kb, 0, none⟩ = some (.int .i64 x) ∧ w'.cell? ⟨kb, 1, none⟩ = some (.slice oG a.ps.length cG) ∧ w'.cell? ⟨kc, 0, none⟩ = some (.int .i64 x) ∧ w'.cell? ⟨kc, 1, none⟩ = some (.slice oH a.ps.length cH) ∧ w'.cell? ⟨gB, oB0 + p * 2, none⟩ = some (.int .i64 x) ∧ w'.cell? ⟨gB, oB0 + p * 2 + 1, none⟩ = some (.slice a.o a.ps.length a.c)) (by kernel_rfl) ?_ (fun hHeld => ?_)
                    · exact ⟨f0, f1, g0, g1, a0, a1⟩
                    refine wpAnyH_take (i := 0) (oi := ⟨some 129, _, _, _, _, _⟩) (v := .bool true) rfl (by kernel_rfl) (by kernel_rfl) (by kernel_rfl) (fun _ _ _ h => h) (Or.inl ⟨by rfl, ?yzq42q0⟩) (by assumption) ?rzq42q0
                    case yzq42q0 => (intro w hSw; (try dsimp only at hSw); go_simp; (try (with_reducible rfl)))
                    try simp only [Act.put, List.setIfInBounds_toArray, List.set_cons_zero, List.set_cons_succ]
                    refine wpAnyH_take (i := 1) (oi := ⟨some 130, _, _, _, _, _⟩) (v := .bool true) rfl (by kernel_rfl) (by kernel_rfl) (by kernel_rfl) (fun _ _ _ h => h) (Or.inl ⟨by rfl, ?yzq43q1⟩) (by assumption) ?rzq43q1
                    case yzq43q1 => (intro w hSw; (try dsimp only at hSw); go_simp; (try (with_reducible rfl)))
                    try simp only [Act.put, List.setIfInBounds_toArray, List.set_cons_zero, List.set_cons_succ]
                    refine wpAnyH_take (i := 2) (oi := ⟨some 131, _, _, _, _, _⟩) (v := .bool true) rfl (by kernel_rfl) (by kernel_rfl) (by kernel_rfl) (fun _ _ _ h => h) (Or.inl ⟨by rfl, ?yzq44q2⟩) (by assumption) ?rzq44q2
                    case yzq44q2 => (intro w hSw; (try dsimp only at hSw); go_simp; (try (with_reducible rfl)))
                    try simp only [Act.put, List.setIfInBounds_toArray, List.set_cons_zero, List.set_cons_succ]
                    refine wpAnyH_take (i := 3) (oi := ⟨some 132, _, _, _, _, _⟩) (v := .bool false) rfl (by kernel_rfl) (by kernel_rfl) (by kernel_rfl) (fun _ _ _ h => h) (Or.inl ⟨by rfl, ?yzq45q3⟩) (by assumption) ?rzq45q3
                    case yzq45q3 => (intro w hSw; (try dsimp only at hSw); go_simp; (try (with_reducible rfl)))
                    try simp only [Act.put, List.setIfInBounds_toArray, List.set_cons_zero, List.set_cons_succ]
                    refine wpAnyH_take (i := 4) (oi := ⟨some 133, _, _, _, _, _⟩) (v := .bool false) rfl (by kernel_rfl) (by kernel_rfl) (by kernel_rfl) (fun _ _ _ h => h) (Or.inl ⟨by rfl, ?yzq46q4⟩) (by assumption) ?rzq46q4
                    case yzq46q4 => (intro w hSw; (try dsimp only at hSw); go_simp; (try (with_reducible rfl)))
                    try simp only [Act.put, List.setIfInBounds_toArray, List.set_cons_zero, List.set_cons_succ]
                    refine wpAnyH_take (i := 5) (oi := ⟨some 134, _, _, _, _, _⟩) (v := .bool true) rfl (by kernel_rfl) (by kernel_rfl) (by kernel_rfl) (fun _ _ _ h => h) (Or.inl ⟨by rfl, ?yzq47q5⟩) (by assumption) ?rzq47q5
                    case yzq47q5 => (intro w hSw; (try dsimp only at hSw); go_simp; (try (with_reducible rfl)))
                    try simp only [Act.put, List.setIfInBounds_toArray, List.set_cons_zero, List.set_cons_succ]
                    refine wpAnyH_take (i := 6) (oi := ⟨some 135, _, _, _, _, _⟩) (v := .bool true) rfl (by kernel_rfl) (by kernel_rfl) (by kernel_rfl) (fun _ _ _ h => h) (Or.inl ⟨by rfl, ?yzq48q6⟩) (by assumption) ?rzq48q6
                    case yzq48q6 => (intro w hSw; (try dsimp only at hSw); go_simp; (try (with_reducible rfl)))
                    try simp only [Act.put, List.setIfInBounds_toArray, List.set_cons_zero, List.set_cons_succ]
                    refine wpAnyH_take (i := 7) (oi := ⟨some 136, _, _, _, _, _⟩) (v := ?vzq49q7) rfl (by kernel_rfl) (by kernel_rfl) (by kernel_rfl) (fun _ _ _ h => h) (Or.inl ⟨by rfl, ?yzq49q7⟩) (by assumption) ?rzq49q7
                    case yzq49q7 => (intro w hSw; (try dsimp only at hSw); go_simp; (try (with_reducible rfl)))
                    try simp only [Act.put, List.setIfInBounds_toArray, List.set_cons_zero, List.set_cons_succ]
                    refine wpAnyH_take (i := 8) (oi := ⟨some 137, _, _, _, _, _⟩) (v := ?vzq50q8) rfl (by kernel_rfl) (by kernel_rfl) (by kernel_rfl) (fun _ _ _ h => h) (Or.inl ⟨by rfl, ?yzq50q8⟩) (by assumption) ?rzq50q8
                    case yzq50q8 => (intro w hSw; (try dsimp only at hSw); go_simp; (try (with_reducible rfl)))
                    try simp only [Act.put, List.setIfInBounds_toArray, List.set_cons_zero, List.set_cons_succ]
                    refine wpAnyH_ready (rs := [9]) (by kernel_rfl) (by simp) (AllReadyH.cons (o := ⟨some 138, _, _, _, _, _⟩) rfl (fun K hK => ?_) AllReadyH.nil)
                    go_simp
                    refine (same_of w10.drew x x oG oH cG cH a.ps.length a.ps.length a.ps a.ps true rfl rfl (sameA_self x a.ps) (by omega) (by omega) (HG10.out.kept ((Below.refl _ w10).drew)) (HH10.out.kept ((Below.refl _ w10).drew))).mono ?_
                    rintro e w11 ⟨rfl, hb11⟩
                    have hq : Below w10.heap.size w10 w11 := (Below.refl _ w10).drew.trans hb11
                    have HQ11 := Lib.hid hq
                    have s0 := (hq.cell (p := ⟨kb, 0, none⟩) hkb2).trans f0
                    have s1 := (hq.cell (p := ⟨kb, 1, none⟩) hkb2).trans f1
                    have s2 := (hq.cell (p := ⟨kc, 0, none⟩) hkc2).trans g0
                    have s3 := (hq.cell (p := ⟨kc, 1, none⟩) hkc2).trans g1
                    have s4 := (hq.cell (p := ⟨gB, oB0 + p * 2, none⟩) hgB).trans a0
                    have s5 := (hq.cell (p := ⟨gB, oB0 + p * 2 + 1, none⟩) hgB).trans a1
                    clear hb11 hq
                    go_simp
                    refine hK.out _ _ ?_ (fun hHeld2 => ?_)
                    · exact ⟨s0, s1, s2, s3, s4, s5⟩
                    clear hK K hHeld
                    rename _ => hHeld
                    try simp only [Act.put, List.setIfInBounds_toArray, List.set_cons_zero, List.set_cons_succ]
                    clear s0 s1 s2 s3 s4 s5
                    refine wpAnyH_take (i := 10) (oi := ⟨some 139, _, _, _, _, _⟩) (v := .bool true) rfl (by kernel_rfl) (by kernel_rfl) (by kernel_rfl) (fun _ _ _ h => h) (Or.inl ⟨by rfl, ?yzq51q10⟩) (by assumption) ?rzq51q10
                    case yzq51q10 => (intro w hSw; (try dsimp only at hSw); go_simp; (try (with_reducible rfl)))
                    try simp only [Act.put, List.setIfInBounds_toArray, List.set_cons_zero, List.set_cons_succ]
                    refine wpAnyH_take (i := 11) (oi := ⟨some 140, _, _, _, _, _⟩) (v := .bool true) rfl (by kernel_rfl) (by kernel_rfl) (by kernel_rfl) (fun _ _ _ h => h) (Or.inl ⟨by rfl, ?yzq52q11⟩) (by assumption) ?rzq52q11
                    case yzq52q11 => (intro w hSw; (try dsimp only at hSw); go_simp; (try (with_reducible rfl)))
                    try simp only [Act.put, List.setIfInBounds_toArray, List.set_cons_zero, List.set_cons_succ]
                    refine wpAnyH_take (i := 12) (oi := ⟨some 141, _, _, _, _, _⟩) (v := ?vzq53q12) rfl (by kernel_rfl) (by kernel_rfl) (by kernel_rfl) (fun _ _ _ h => h) (Or.inl ⟨by rfl, ?yzq53q12⟩) (by assumption) ?rzq53q12
                    case yzq53q12 => (intro w hSw; (try dsimp only at hSw); go_simp; (try (with_reducible rfl)))
                    try simp only [Act.put, List.setIfInBounds_toArray, List.set_cons_zero, List.set_cons_succ]
                    refine wpAnyH_take (i := 13) (oi := ⟨some 142, _, _, _, _, _⟩) (v := ?vzq54q13) rfl (by kernel_rfl) (by kernel_rfl) (by kernel_rfl) (fun _ _ _ h => h) (Or.inl ⟨by rfl, ?yzq54q13⟩) (by assumption) ?rzq54q13
                    case yzq54q13 => (intro w hSw; (try dsimp only at hSw); go_simp; (try (with_reducible rfl)))
                    try simp only [Act.put, List.setIfInBounds_toArray, List.set_cons_zero, List.set_cons_succ]
                    refine wpAnyH_take (i := 14) (oi := ⟨some 143, _, _, _, _, _⟩) (v := ?vzq55q14) rfl (by kernel_rfl) (by kernel_rfl) (by kernel_rfl) (fun _ _ _ h => h) (Or.inl ⟨by rfl, ?yzq55q14⟩) (by assumption) ?rzq55q14
                    case yzq55q14 => (intro w hSw; (try dsimp only at hSw); go_simp; (try (with_reducible rfl)))
                    try simp only [Act.put, List.setIfInBounds_toArray, List.set_cons_zero, List.set_cons_succ]
                    refine wpAnyH_take (i := 15) (oi := ⟨some 144, _, _, _, _, _⟩) (v := ?vzq56q15) rfl (by kernel_rfl) (by kernel_rfl) (by kernel_rfl) (fun _ _ _ h => h) (Or.inl ⟨by rfl, ?yzq56q15⟩) (by assumption) ?rzq56q15
                    case yzq56q15 => (intro w hSw; (try dsimp only at hSw); go_simp; (try (with_reducible rfl)))
                    try simp only [Act.put, List.setIfInBounds_toArray, List.set_cons_zero, List.set_cons_succ]
                    refine wpAnyH_take (i := 16) (oi := ⟨some 145, _, _, _, _, _⟩) (v := ?vzq57q16) rfl (by kernel_rfl) (by kernel_rfl) (by kernel_rfl) (fun _ _ _ h => h) (Or.inl ⟨by rfl, ?yzq57q16⟩) (by assumption) ?rzq57q16
                    case yzq57q16 => (intro w hSw; (try dsimp only at hSw); go_simp; (try (with_reducible rfl)))
                    try simp only [Act.put, List.setIfInBounds_toArray, List.set_cons_zero, List.set_cons_succ]
                    refine wpAnyH_ready (rs := [17]) (by kernel_rfl) (by simp) (AllReadyH.cons (o := ⟨some 146, _, _, _, _, _⟩) rfl (fun K hK => ?_) AllReadyH.nil)
                    go_simp
                    refine (same_of w11 x x oG a.o cG a.c a.ps.length a.ps.length a.ps a.ps true rfl rfl (sameA_self x a.ps) (by omega) (by omega) (HG10.out.kept HQ11.out) (HX10.out.kept HQ11.out)).mono ?_
                    rintro e w12 ⟨rfl, hb12⟩
                    have hq : Below w10.heap.size w10 w12 := bstep HQ11.out hb12
                    have HQ12 := Lib.hid hq
                    have s0 := (hq.cell (p := ⟨kb, 0, none⟩) hkb2).trans f0
                    have s1 := (hq.cell (p := ⟨kb, 1, none⟩) hkb2).trans f1
                    have s2 := (hq.cell (p := ⟨kc, 0, none⟩) hkc2).trans g0
                    have s3 := (hq.cell (p := ⟨kc, 1, none⟩) hkc2).trans g1
                    have s4 := (hq.cell (p := ⟨gB, oB0 + p * 2, none⟩) hgB).trans a0
                    have s5 := (hq.cell (p := ⟨gB, oB0 + p * 2 + 1, none⟩) hgB).trans a1
                    clear hb12 hq
                    go_simp
                    refine hK.out _ _ ?_ (fun hHeld2 => ?_)
                    · exact ⟨s0, s1, s2, s3, s4, s5⟩
                    clear hK K hHeld
                    rename _ => hHeld
                    try simp only [Act.put, List.setIfInBounds_toArray, List.set_cons_zero, List.set_cons_succ]
                    clear s0 s1 s2 s3 s4 s5
                    refine wpAnyH_take (i := 18) (oi := ⟨some 147, _, _, _, _, _⟩) (v := .bool true) rfl (by kernel_rfl) (by kernel_rfl) (by kernel_rfl) (fun _ _ _ h => h) (Or.inl ⟨by rfl, ?yzq58q18⟩) (by assumption) ?rzq58q18
                    case yzq58q18 => (intro w hSw; (try dsimp only at hSw); go_simp; (try (with_reducible rfl)))
                    try simp only [Act.put, List.setIfInBounds_toArray, List.set_cons_zero, List.set_cons_succ]
                    refine wpAnyH_take (i := 19) (oi := ⟨some 148, _, _, _, _, _⟩) (v := .bool true) rfl (by kernel_rfl) (by kernel_rfl) (by kernel_rfl) (fun _ _ _ h => h) (Or.inl ⟨by rfl, ?yzq59q19⟩) (by assumption) ?rzq59q19
                    case yzq59q19 => (intro w hSw; (try dsimp only at hSw); go_simp; (try (with_reducible rfl)))
                    try simp only [Act.put, List.setIfInBounds_toArray, List.set_cons_zero, List.set_cons_succ]
                    refine wpAnyH_take (i := 20) (oi := ⟨some 149, _, _, _, _, _⟩) (v := .bool true) rfl (by kernel_rfl) (by kernel_rfl) (by kernel_rfl) (fun _ _ _ h => h) (Or.inl ⟨by rfl, ?yzq60q20⟩) (by assumption) ?rzq60q20
                    case yzq60q20 => (intro w hSw; (try dsimp only at hSw); go_simp; (try (with_reducible rfl)))
                    try simp only [Act.put, List.setIfInBounds_toArray, List.set_cons_zero, List.set_cons_succ]
                    refine wpAnyH_take (i := 21) (oi := ⟨some 6, _, _, _, _, _⟩) (v := .bool true) rfl (by kernel_rfl) (by kernel_rfl) (by kernel_rfl) (fun _ _ _ h => h) (Or.inl ⟨by rfl, ?yzq61q21⟩) (by assumption) ?rzq61q21
                    case yzq61q21 => (intro w hSw; (try dsimp only at hSw); go_simp; (try (with_reducible rfl)))
                    try simp only [Act.put, List.setIfInBounds_toArray, List.set_cons_zero, List.set_cons_succ]
                    refine wpAnyH_done (by kernel_rfl) ?_ _
                    clear hHeld f0 f1 g0 g1 a0 a1
                    go_wp2_with fail
                    go_ret
                    exact ⟨rfl, bstep (bstep HB1.out HL10.out.bel) HQ12.out⟩
                · have q1 : (k3 : Int) < m := by omega
                  have q2 : (k3 : Int) < 10 := by omega
                  obtain ⟨c, hc⟩ : ∃ c, lb[k3]? = some c := ⟨_, List.getElem?_eq_getElem (by rw [HM.out]; omega)⟩
                  have hbW := bstep HB1.out (HL8.out.bel)
                  obtain ⟨g, off, e', d0, d1⟩ := (HRB.out.kept hbW).at k3 c hc
                  subst e'
                  obtain ⟨cok, cln, crd⟩ := pick_ast hc HKB.out
                  have HCO := Lib.hid cok
                  have HCL := Lib.hid cln
                  have HCR := Lib.hid (crd.kept hbW)
                  clear hc hend cok cln crd hbW
                  go_wp2_with fail
                  refine (short_any wr c.item c.o c.c c.ps HCL.out HCO.out HCR.out).mono ?_
                  have hcl := cutP_len c.ps
                  generalize cutP c.ps = L at hcl ⊢
                  rintro e w8 ⟨oL, cL, rfl, ho8, hb8⟩
                  have HL9 := Lib.hid (HL8.out.below hb8)
                  have HO9 := Lib.hid (own_weak ho8 HL8.out.bel.size)
                  have HK9 := Lib.hid (HK8.out.kept (hb8.block _ HK8.out.lt))
                  have HG9 := Lib.hid (ownsRow_kept' HG8.out (fun g hg => hb8.block g (HG8.out.lt g hg).2))
                  obtain ⟨oM, cM, w9, hrun, ho10, hf10, hv10⟩ := app_ast w8 w1.heap.size _ (A ++ M) ⟨c.item, oL, cL, L⟩ HL9.out.own (by omega) HL9.out.bel.size 38
                  have HL10 := Lib.hid (HL9.out.app (c := ⟨c.item, oL, cL, L⟩) HO9.out hcl ho10 hf10)
                  rw [List.append_assoc] at HL10
                  have HV10 : Hid ((Value.slice oM ((A ++ M).length + 1) cM).ownBlock ≠ some kb) := fun e => (hv10 kb e).elim HV8.out (fun h => by have := HK9.out.lt; omega)
                  have HK10 := Lib.hid (HK9.out.kept (hf10.block _ HK9.out.lt HV8.out))
                  have HG10 := Lib.hid (pic_kept HG9.out HL9.out.own hf10)
                  have HM10 : Hid ((M ++ [(⟨c.item, oL, cL, L⟩ : Ast)]).length = k3 + 1) := by show _ = _; rw [List.length_append, HMl.out]; rfl
                  dsimp only at hrun
                  clear ho8 hb8 ho10 hf10 hv10 HL8 HL9 HK8 HK9 HG8 HG9 HV8
                  obtain ⟨nA, hnA⟩ : ∃ nA, (A ++ M).length = nA := ⟨_, rfl⟩
                  rw [hnA] at hrun HL10 HV10 ⊢
                  clear hnA
                  go_wp2_with (at_builtin; refine wpList_append_run _ rfl _ _ 38 rfl _ _ _ _ rfl rfl hrun ?_)
                  go_roundw
                  case rel => exact ⟨k3 + 1, _, by omega, by omega, by go_num, HM10, HL10, HV10, HK10, HG10⟩
                  case measure => simp [intOf]; omega
      · skip
        skip
        clear q0
        go_wp2_with fail
        refine (HF.out wo HL.out).mono ?_
        rcases hcase : firstA A x with _ | a
        · skip
          obtain ⟨i1, i2, i3, i4⟩ := firstA_none hcase
          have hz1 : z = -1 := by rw [← HI.out]; exact i1
          subst hz1
          clear i1
          have E1 := Lib.hid i2
          have E2 := Lib.hid i3
          have E3 := Lib.hid i4
          clear i2 i3 i4 hcase
          rw [E1.out, E2.out, E3.out]
          rw [List.length_nil]
          rintro e w2 ⟨oF, cF, rfl, hoF, hbF⟩
          obtain ⟨kf, hkf⟩ : ∃ kf, w2.heap.size = kf := ⟨_, rfl⟩
          have hb3 : Below w2.heap.size w2 (w2.alloc (.cells #[.int .i64 0, .slice oF 0 cF] 24)) := (Below.refl _ w2).alloc (Nat.le_refl _) _
          have HB3 : Hid (Below wo.heap.size wo (w2.alloc (.cells #[.int .i64 0, .slice oF 0 cF] 24))) := bstep hbF hb3
          have HK3 : Hid (Blk (w2.alloc (.cells #[.int .i64 0, .slice oF 0 cF] 24)) kf 24 [.int .i64 0, .slice oF 0 cF]) := blk_at (l := [.int .i64 0, .slice oF 0 cF]) hkf
          have HW3 : Hid (RowOk (w2.alloc (.cells #[.int .i64 0, .slice oF 0 cF] 24)) wo.heap.size kf oF 0) := (RowOk.of hoF (by omega)).kept hb3
          have HKF := Lib.hid hkf
          clear hkf hb3 hbF hoF
          go_wp2_with fail
          rw [HKF.out]
          generalize w2.alloc (.cells #[.int .i64 0, .slice oF 0 cF] 24) = w3 at HB3 HK3 HW3  ⊢
          clear HKF
          have f0 := HK3.out.cell 0
          have f1 := HK3.out.cell 1
          simp only [List.getElem?_cons_zero, List.getElem?_cons_succ] at f0 f1
          go_quiet (fail)
          have HB4 := Lib.hid (drewN_below HB3.out nq)
          have HK4 : Hid (Blk (w3.drewN nq) kf 24 [.int .i64 0, .slice oF 0 cF]) := HK3.out
          have HW4 : Hid (RowOk (w3.drewN nq) wo.heap.size kf oF 0) := .inl rfl
          generalize w3.drewN nq = w4 at HB4 HK4 HW4 ⊢
          clear f0 f1 HB3 HK3 HW3
          go_wp2_with fail
          go_loopw [13] (fun i w => ∃ (k2 : Nat), k2 ≤ 0 ∧ i = .int .i64 k2 ∧ Hid (RowOk w wo.heap.size kf oF 0) ∧ Hid (Blk w kf 24 [.int .i64 0, .slice oF 0 cF]) ∧ Hid (Below wo.heap.size wo w)) (fun i _ => 0 - (intOf i).toNat)
          case atStart => exact ⟨0, Nat.zero_le _, rfl, HW4, HK4, HB4⟩
          case round =>
            clear HW4 HK4 HB4
            obtain ⟨k2, hk3, rfl, HRW, HKW, HBW⟩ := hrel
            have f1 := HKW.out.cell 1
            simp only [List.getElem?_cons_zero, List.getElem?_cons_succ] at f1
            · obtain rfl : k2 = 0 := by omega
              have HL5 := Lib.hid (HL.out.below HBW.out)
              clear hk3 HRW HKW HBW
              go_wp2_with fail
              refine (HF.out wr HL5.out).mono ?_
              rw [E1.out, E2.out, E3.out]
              rw [List.length_nil]
              rintro e w6 ⟨oG, cG, rfl, hoG, hbG⟩
              obtain ⟨kb, hkb⟩ : ∃ kb, w6.heap.size = kb := ⟨_, rfl⟩
              have hb7 : Below w6.heap.size w6 (w6.alloc (.cells #[.int .i64 0, .slice oG 0 cG] 24)) := (Below.refl _ w6).alloc (Nat.le_refl _) _
              have HL6 := Lib.hid (HL5.out.below hbG)
              have HL7 := Lib.hid (HL6.out.below hb7)
              have HK7 : Hid (Blk (w6.alloc (.cells #[.int .i64 0, .slice oG 0 cG] 24)) kb 24 [.int .i64 0, .slice oG 0 cG]) := blk_at (l := [.int .i64 0, .slice oG 0 cG]) hkb
              have HG7 : Hid ((w6.alloc (.cells #[.int .i64 0, .slice oG 0 cG] 24)).ownsRow w1.heap.size 42 3 (.slice oG 0 cG) 0 (pcells [])) := own_weak (hoG.alloc _) HL5.out.bel.size
              have HV7 : Hid ((Value.slice oA A.length cA).ownBlock ≠ some kb) := fun e => by have := (HL6.out.own.lt kb e).2; omega
              have HKB2 := Lib.hid hkb
              clear hkb hb7 hbG hoG f1 HL5 HL6
              go_wp2_with fail
              rw [HKB2.out]
              generalize w6.alloc (.cells #[.int .i64 0, .slice oG 0 cG] 24) = w7 at HL7 HK7 HG7 ⊢
              go_loopw [8, 16] (fun v i w => ∃ (k3 : Nat) (M : List Ast), k3 ≤ m ∧ k3 ≤ 10 ∧ i = .int .i64 k3 ∧ Hid (M.length = k3) ∧ Hid (AL w1 w v (A ++ M)) ∧ Hid (v.ownBlock ≠ some kb) ∧ Hid (Blk w kb 24 [.int .i64 0, .slice oG 0 cG]) ∧ Hid (w.ownsRow w1.heap.size 42 3 (.slice oG 0 cG) 0 (pcells []))) (fun _ i _ => m - (intOf i).toNat)
              case atStart => exact ⟨0, [], Nat.zero_le _, Nat.zero_le _, rfl, rfl, by rw [List.append_nil]; exact HL7, HV7, HK7, HG7⟩
              case round =>
                clear HL7 HV7 HK7 HG7 HKB2
                obtain ⟨k3, M, hk3, hk4, rfl, HMl, HL8, HV8, HK8, HG8⟩ := hrel
                obtain ⟨oB, cB, eB⟩ := own_slice HL8.out.own
                subst eB
                have hAM : (A ++ M).length ≤ 20 := by rw [List.length_append, HA.out, HMl.out]; omega
                by_cases hend : k3 = m ∨ k3 = 10
                · have q0 : ¬ ((k3 : Int) < m ∧ (k3 : Int) < 10) := by omega
                  have HF3 := Lib.hid (fun w (h : AL w1 w (.slice oB (A ++ M).length cB) (A ++ M)) => find_any w oB cB (A ++ M) x (by omega) h.rda h.rdp)
                  generalize fI (A ++ M) x = ri at HF3
                  generalize fP (A ++ M) x = rp at HF3
                  generalize fB (A ++ M) x = rb at HF3
                  clear hend
                  obtain ⟨nA, hnA⟩ : ∃ nA, (A ++ M).length = nA := ⟨_, rfl⟩
                  rw [hnA] at HF3 HL8 hAM ⊢
                  have HNA := Lib.hid hnA
                  clear hnA
                  by_cases q1 : (k3 : Int) < m
                  · skip
                    have q2 : ¬ (k3 : Int) < 10 := fun h => q0 ⟨q1, h⟩
                    clear q0
                    go_wp2_with fail
                    refine (HF3.out wr HL8.out).mono ?_
                    rintro e w9 ⟨oH, cH, rfl, hoH, hbH⟩
                    obtain ⟨kc, hkc⟩ : ∃ kc, w9.heap.size = kc := ⟨_, rfl⟩
                    have hb10 : Below w9.heap.size w9 (w9.alloc (.cells #[.int .i64 ri, .slice oH rp.length cH] 24)) := (Below.refl _ w9).alloc (Nat.le_refl _) _
                    have hbb : Below wr.heap.size wr (w9.alloc (.cells #[.int .i64 ri, .slice oH rp.length cH] 24)) := bstep hbH hb10
                    have HL10 := Lib.hid (HL8.out.below hbb)
                    have HKC := Lib.hid hkc
                    clear hkc hb10 hbb hbH hoH HF3 HL8 HK8 HG8
                    go_wp2_with fail
                    rw [HKC.out]
                    go_quiet (fail)
                    go_wp2_with fail
                    go_ret
                    exact ⟨rfl, drewN_below (bstep HB1.out HL10.out.bel) _⟩
                  · skip
                    skip
                    clear q0
                    go_wp2_with fail
                    refine (HF3.out wr HL8.out).mono ?_
                    rintro e w9 ⟨oH, cH, rfl, hoH, hbH⟩
                    obtain ⟨kc, hkc⟩ : ∃ kc, w9.heap.size = kc := ⟨_, rfl⟩
                    have hb10 : Below w9.heap.size w9 (w9.alloc (.cells #[.int .i64 ri, .slice oH rp.length cH] 24)) := (Below.refl _ w9).alloc (Nat.le_refl _) _
                    have hbb : Below wr.heap.size wr (w9.alloc (.cells #[.int .i64 ri, .slice oH rp.length cH] 24)) := bstep hbH hb10
                    have HL10 := Lib.hid (HL8.out.below hbb)
                    have HKC := Lib.hid hkc
                    clear hkc hb10 hbb hbH hoH HF3 HL8 HK8 HG8
                    go_wp2_with fail
                    rw [HKC.out]
                    go_quiet (fail)
                    go_wp2_with fail
                    go_ret
                    exact ⟨rfl, drewN_below (bstep HB1.out HL10.out.bel) _⟩
                · have q1 : (k3 : Int) < m := by omega
                  have q2 : (k3 : Int) < 10 := by omega
                  obtain ⟨c, hc⟩ : ∃ c, lb[k3]? = some c := ⟨_, List.getElem?_eq_getElem (by rw [HM.out]; omega)⟩
                  have hbW := bstep HB1.out (HL8.out.bel)
                  obtain ⟨g, off, e', d0, d1⟩ := (HRB.out.kept hbW).at k3 c hc
                  subst e'
                  obtain ⟨cok, cln, crd⟩ := pick_ast hc HKB.out
                  have HCO := Lib.hid cok
                  have HCL := Lib.hid cln
                  have HCR := Lib.hid (crd.kept hbW)
                  clear hc hend cok cln crd hbW
                  go_wp2_with fail
                  refine (short_any wr c.item c.o c.c c.ps HCL.out HCO.out HCR.out).mono ?_
                  have hcl := cutP_len c.ps
                  generalize cutP c.ps = L at hcl ⊢
                  rintro e w8 ⟨oL, cL, rfl, ho8, hb8⟩
                  have HL9 := Lib.hid (HL8.out.below hb8)
                  have HO9 := Lib.hid (own_weak ho8 HL8.out.bel.size)
                  have HK9 := Lib.hid (HK8.out.kept (hb8.block _ HK8.out.lt))
                  have HG9 := Lib.hid (ownsRow_kept' HG8.out (fun g hg => hb8.block g (HG8.out.lt g hg).2))
                  obtain ⟨oM, cM, w9, hrun, ho10, hf10, hv10⟩ := app_ast w8 w1.heap.size _ (A ++ M) ⟨c.item, oL, cL, L⟩ HL9.out.own (by omega) HL9.out.bel.size 38
                  have HL10 := Lib.hid (HL9.out.app (c := ⟨c.item, oL, cL, L⟩) HO9.out hcl ho10 hf10)
                  rw [List.append_assoc] at HL10
                  have HV10 : Hid ((Value.slice oM ((A ++ M).length + 1) cM).ownBlock ≠ some kb) := fun e => (hv10 kb e).elim HV8.out (fun h => by have := HK9.out.lt; omega)
                  have HK10 := Lib.hid (HK9.out.kept (hf10.block _ HK9.out.lt HV8.out))
                  have HG10 := Lib.hid (pic_kept HG9.out HL9.out.own hf10)
                  have HM10 : Hid ((M ++ [(⟨c.item, oL, cL, L⟩ : Ast)]).length = k3 + 1) := by show _ = _; rw [List.length_append, HMl.out]; rfl
                  dsimp only at hrun
                  clear ho8 hb8 ho10 hf10 hv10 HL8 HL9 HK8 HK9 HG8 HG9 HV8
                  obtain ⟨nA, hnA⟩ : ∃ nA, (A ++ M).length = nA := ⟨_, rfl⟩
                  rw [hnA] at hrun HL10 HV10 ⊢
                  clear hnA
                  go_wp2_with (at_builtin; refine wpList_append_run _ rfl _ _ 38 rfl _ _ _ _ rfl rfl hrun ?_)
                  go_roundw
                  case rel => exact ⟨k3 + 1, _, by omega, by omega, by go_num, HM10, HL10, HV10, HK10, HG10⟩
                  case measure => simp [intOf]; omega
        · skip
          obtain ⟨i1, i5, i2, i3, i4, i6⟩ := firstA_some hcase
          obtain ⟨p, hp⟩ : ∃ p : Nat, idxA A x = p := ⟨_, rfl⟩
          have hz1 : z = (p : Int) := by rw [← HI.out, i1, hp]
          rw [hp, HA.out] at i5
          have HP := Lib.hid hp
          have HFA := Lib.hid hcase
          have HPA : Hid (A[p]? = some a) := by rw [← hp]; exact hcase
          have HIT := Lib.hid i6
          subst hz1
          have hpl := HL.out.len a (List.mem_of_getElem? HPA.out)
          clear hp i6 i1
          have E1 := Lib.hid i2
          have E2 := Lib.hid i3
          have E3 := Lib.hid i4
          clear i2 i3 i4 hcase
          rw [E1.out, E2.out, E3.out]
          rintro e w2 ⟨oF, cF, rfl, hoF, hbF⟩
          obtain ⟨kf, hkf⟩ : ∃ kf, w2.heap.size = kf := ⟨_, rfl⟩
          have hb3 : Below w2.heap.size w2 (w2.alloc (.cells #[.int .i64 x, .slice oF a.ps.length cF] 24)) := (Below.refl _ w2).alloc (Nat.le_refl _) _
          have HB3 : Hid (Below wo.heap.size wo (w2.alloc (.cells #[.int .i64 x, .slice oF a.ps.length cF] 24))) := bstep hbF hb3
          have HK3 : Hid (Blk (w2.alloc (.cells #[.int .i64 x, .slice oF a.ps.length cF] 24)) kf 24 [.int .i64 x, .slice oF a.ps.length cF]) := blk_at (l := [.int .i64 x, .slice oF a.ps.length cF]) hkf
          have HW3 : Hid (RowOk (w2.alloc (.cells #[.int .i64 x, .slice oF a.ps.length cF] 24)) wo.heap.size kf oF a.ps.length) := (RowOk.of hoF (by omega)).kept hb3
          have HR3 : Hid (RdP (w2.alloc (.cells #[.int .i64 x, .slice oF a.ps.length cF] 24)) oF a.ps) := (own_rdp hoF).2.kept hb3
          have HKF := Lib.hid hkf
          clear hkf hb3 hbF hoF
          go_wp2_with fail
          rw [HKF.out]
          generalize w2.alloc (.cells #[.int .i64 x, .slice oF a.ps.length cF] 24) = w3 at HB3 HK3 HW3 HR3 ⊢
          clear HKF
          have HL3 := Lib.hid (HL.out.below HB3.out)
          obtain ⟨gA, oA0, eA, a0, a1⟩ := HL3.out.rda.at p a HPA.out
          subst eA
          have HX3 := Lib.hid (HL3.out.rdp a (List.mem_of_getElem? HPA.out)).1
          rw [HIT.out] at a0
          have f0 := HK3.out.cell 0
          have f1 := HK3.out.cell 1
          simp only [List.getElem?_cons_zero, List.getElem?_cons_succ] at f0 f1
          have hpA : (p : Int) < A.length := by rw [HA.out]; omega
          have hp0 : (0 : Int) ≤ p := by omega
          have hgA : gA < w3.heap.size := block_lt a0
          have hkf2 : kf < w3.heap.size := HK3.out.lt
          refine wp_region_held_drew (S := fun w' => w'.cell? ⟨kf, 0, none⟩ = some (.int .i64 x) ∧ w'.cell? ⟨kf, 1, none⟩ = some (.slice oF a.ps.length cF) ∧ w'.cell? ⟨gA, oA0 + p * 2, none⟩ = some (.int .i64 x) ∧ w'.cell? ⟨gA, oA0 + p * 2 + 1, none⟩ = some (.slice a.o a.ps.length a.c)) (by kernel_rfl) ?_ (fun hHeld => ?_)
          · exact ⟨f0, f1, a0, a1⟩
          refine wpAnyH_take (i := 0) (oi := ⟨some 56, _, _, _, _, _⟩) (v := ?vsq62q0) rfl (by kernel_rfl) (by kernel_rfl) (by kernel_rfl) (fun _ _ _ h => h) (Or.inl ⟨by rfl, ?ysq62q0⟩) (by assumption) ?rsq62q0
          case ysq62q0 => (intro w hSw; (try dsimp only at hSw); go_simp; (try (with_reducible rfl)))
          try simp only [Act.put, List.setIfInBounds_toArray, List.set_cons_zero, List.set_cons_succ]
          refine wpAnyH_take (i := 1) (oi := ⟨some 57, _, _, _, _, _⟩) (v := ?vsq63q1) rfl (by kernel_rfl) (by kernel_rfl) (by kernel_rfl) (fun _ _ _ h => h) (Or.inl ⟨by rfl, ?ysq63q1⟩) (by assumption) ?rsq63q1
          case ysq63q1 => (intro w hSw; (try dsimp only at hSw); go_simp; (try (with_reducible rfl)))
          try simp only [Act.put, List.setIfInBounds_toArray, List.set_cons_zero, List.set_cons_succ]
          refine wpAnyH_take (i := 2) (oi := ⟨some 58, _, _, _, _, _⟩) (v := .bool true) rfl (by kernel_rfl) (by kernel_rfl) (by kernel_rfl) (fun _ _ _ h => h) (Or.inl ⟨by rfl, ?ysq64q2⟩) (by assumption) ?rsq64q2
          case ysq64q2 => (intro w hSw; (try dsimp only at hSw); go_simp; (try (with_reducible rfl)))
          try simp only [Act.put, List.setIfInBounds_toArray, List.set_cons_zero, List.set_cons_succ]
          refine wpAnyH_take (i := 3) (oi := ⟨some 59, _, _, _, _, _⟩) (v := .bool false) rfl (by kernel_rfl) (by kernel_rfl) (by kernel_rfl) (fun _ _ _ h => h) (Or.inl ⟨by rfl, ?ysq65q3⟩) (by assumption) ?rsq65q3
          case ysq65q3 => (intro w hSw; (try dsimp only at hSw); go_simp; (try (with_reducible rfl)))
          try simp only [Act.put, List.setIfInBounds_toArray, List.set_cons_zero, List.set_cons_succ]
          refine wpAnyH_take (i := 4) (oi := ⟨some 60, _, _, _, _, _⟩) (v := .bool false) rfl (by kernel_rfl) (by kernel_rfl) (by kernel_rfl) (fun _ _ _ h => h) (Or.inl ⟨by rfl, ?ysq66q4⟩) (by assumption) ?rsq66q4
          case ysq66q4 => (intro w hSw; (try dsimp only at hSw); go_simp; (try (with_reducible rfl)))
          try simp only [Act.put, List.setIfInBounds_toArray, List.set_cons_zero, List.set_cons_succ]
          refine wpAnyH_take (i := 5) (oi := ⟨some 61, _, _, _, _, _⟩) (v := .bool true) rfl (by kernel_rfl) (by kernel_rfl) (by kernel_rfl) (fun _ _ _ h => h) (Or.inl ⟨by rfl, ?ysq67q5⟩) (by assumption) ?rsq67q5
          case ysq67q5 => (intro w hSw; (try dsimp only at hSw); go_simp; (try (with_reducible rfl)))
          try simp only [Act.put, List.setIfInBounds_toArray, List.set_cons_zero, List.set_cons_succ]
          refine wpAnyH_take (i := 6) (oi := ⟨some 62, _, _, _, _, _⟩) (v := .bool true) rfl (by kernel_rfl) (by kernel_rfl) (by kernel_rfl) (fun _ _ _ h => h) (Or.inl ⟨by rfl, ?ysq68q6⟩) (by assumption) ?rsq68q6
          case ysq68q6 => (intro w hSw; (try dsimp only at hSw); go_simp; (try (with_reducible rfl)))
          try simp only [Act.put, List.setIfInBounds_toArray, List.set_cons_zero, List.set_cons_succ]
          refine wpAnyH_take (i := 7) (oi := ⟨some 63, _, _, _, _, _⟩) (v := ?vsq69q7) rfl (by kernel_rfl) (by kernel_rfl) (by kernel_rfl) (fun _ _ _ h => h) (Or.inl ⟨by rfl, ?ysq69q7⟩) (by assumption) ?rsq69q7
          case ysq69q7 => (intro w hSw; (try dsimp only at hSw); go_simp; (try (with_reducible rfl)))
          try simp only [Act.put, List.setIfInBounds_toArray, List.set_cons_zero, List.set_cons_succ]
          refine wpAnyH_take (i := 8) (oi := ⟨some 64, _, _, _, _, _⟩) (v := ?vsq70q8) rfl (by kernel_rfl) (by kernel_rfl) (by kernel_rfl) (fun _ _ _ h => h) (Or.inl ⟨by rfl, ?ysq70q8⟩) (by assumption) ?rsq70q8
          case ysq70q8 => (intro w hSw; (try dsimp only at hSw); go_simp; (try (with_reducible rfl)))
          try simp only [Act.put, List.setIfInBounds_toArray, List.set_cons_zero, List.set_cons_succ]
          refine wpAnyH_take (i := 9) (oi := ⟨some 65, _, _, _, _, _⟩) (v := ?vsq71q9) rfl (by kernel_rfl) (by kernel_rfl) (by kernel_rfl) (fun _ _ _ h => h) (Or.inl ⟨by rfl, ?ysq71q9⟩) (by assumption) ?rsq71q9
          case ysq71q9 => (intro w hSw; (try dsimp only at hSw); go_simp; (try (with_reducible rfl)))
          try simp only [Act.put, List.setIfInBounds_toArray, List.set_cons_zero, List.set_cons_succ]
          refine wpAnyH_take (i := 10) (oi := ⟨some 66, _, _, _, _, _⟩) (v := ?vsq72q10) rfl (by kernel_rfl) (by kernel_rfl) (by kernel_rfl) (fun _ _ _ h => h) (Or.inl ⟨by rfl, ?ysq72q10⟩) (by assumption) ?rsq72q10
          case ysq72q10 => (intro w hSw; (try dsimp only at hSw); go_simp; (try (with_reducible rfl)))
          try simp only [Act.put, List.setIfInBounds_toArray, List.set_cons_zero, List.set_cons_succ]
          refine wpAnyH_take (i := 11) (oi := ⟨some 67, _, _, _, _, _⟩) (v := ?vsq73q11) rfl (by kernel_rfl) (by kernel_rfl) (by kernel_rfl) (fun _ _ _ h => h) (Or.inl ⟨by rfl, ?ysq73q11⟩) (by assumption) ?rsq73q11
          case ysq73q11 => (intro w hSw; (try dsimp only at hSw); go_simp; (try (with_reducible rfl)))
          try simp only [Act.put, List.setIfInBounds_toArray, List.set_cons_zero, List.set_cons_succ]
          refine wpAnyH_ready (rs := [12]) (by kernel_rfl) (by simp) (AllReadyH.cons (o := ⟨some 68, _, _, _, _, _⟩) rfl (fun K hK => ?_) AllReadyH.nil)
          go_simp
          refine (same_of w3.drew x x oF a.o cF a.c a.ps.length a.ps.length a.ps a.ps true rfl rfl (sameA_self x a.ps) (by omega) (by omega) (HR3.out.kept ((Below.refl _ w3).drew)) (HX3.out.kept ((Below.refl _ w3).drew))).mono ?_
          rintro e w4 ⟨rfl, hb4⟩
          have hb4' : Below w3.heap.size w3 w4 := (Below.refl _ w3).drew.trans hb4
          have HB4 := Lib.hid (bstep HB3.out hb4')
          have HK4 := Lib.hid (HK3.out.kept (hb4'.block _ HK3.out.lt))
          have HW4 := Lib.hid (HW3.out.kept hb4')
          have t0 := (hb4'.cell (p := ⟨gA, oA0 + p * 2, none⟩) hgA).trans a0
          have t1 := (hb4'.cell (p := ⟨gA, oA0 + p * 2 + 1, none⟩) hgA).trans a1
          have s0 := (hb4'.cell (p := ⟨kf, 0, none⟩) hkf2).trans f0
          have s1 := (hb4'.cell (p := ⟨kf, 1, none⟩) hkf2).trans f1
          clear hb4 hb4'
          go_simp
          refine hK.out _ _ ?_ (fun hHeld2 => ?_)
          · exact ⟨s0, s1, t0, t1⟩
          clear hK K hHeld
          rename _ => hHeld
          try simp only [Act.put, List.setIfInBounds_toArray, List.set_cons_zero, List.set_cons_succ]
          refine wpAnyH_take (i := 13) (oi := ⟨some 69, _, _, _, _, _⟩) (v := .bool false) rfl (by kernel_rfl) (by kernel_rfl) (by kernel_rfl) (fun _ _ _ h => h) (Or.inl ⟨by rfl, ?ysq74q13⟩) (by assumption) ?rsq74q13
          case ysq74q13 => (intro w hSw; (try dsimp only at hSw); go_simp; (try (with_reducible rfl)))
          try simp only [Act.put, List.setIfInBounds_toArray, List.set_cons_zero, List.set_cons_succ]
          refine wpAnyH_take (i := 14) (oi := ⟨some 70, _, _, _, _, _⟩) (v := .bool false) rfl (by kernel_rfl) (by kernel_rfl) (by kernel_rfl) (fun _ _ _ h => h) (Or.inl ⟨by rfl, ?ysq75q14⟩) (by assumption) ?rsq75q14
          case ysq75q14 => (intro w hSw; (try dsimp only at hSw); go_simp; (try (with_reducible rfl)))
          try simp only [Act.put, List.setIfInBounds_toArray, List.set_cons_zero, List.set_cons_succ]
          refine wpAnyH_take (i := 15) (oi := ⟨some 71, _, _, _, _, _⟩) (v := .bool false) rfl (by kernel_rfl) (by kernel_rfl) (by kernel_rfl) (fun _ _ _ h => h) (Or.inl ⟨by rfl, ?ysq76q15⟩) (by assumption) ?rsq76q15
          case ysq76q15 => (intro w hSw; (try dsimp only at hSw); go_simp; (try (with_reducible rfl)))
          try simp only [Act.put, List.setIfInBounds_toArray, List.set_cons_zero, List.set_cons_succ]
          refine wpAnyH_take (i := 16) (oi := ⟨some 72, _, _, _, _, _⟩) (v := .bool false) rfl (by kernel_rfl) (by kernel_rfl) (by kernel_rfl) (fun _ _ _ h => h) (Or.inl ⟨by rfl, ?ysq77q16⟩) (by assumption) ?rsq77q16
          case ysq77q16 => (intro w hSw; (try dsimp only at hSw); go_simp; (try (with_reducible rfl)))
          try simp only [Act.put, List.setIfInBounds_toArray, List.set_cons_zero, List.set_cons_succ]
          refine wpAnyH_take (i := 17) (oi := ⟨some 73, _, _, _, _, _⟩) (v := .bool true) rfl (by kernel_rfl) (by kernel_rfl) (by kernel_rfl) (fun _ _ _ h => h) (Or.inl ⟨by rfl, ?ysq78q17⟩) (by assumption) ?rsq78q17
          case ysq78q17 => (intro w hSw; (try dsimp only at hSw); go_simp; (try (with_reducible rfl)))
          try simp only [Act.put, List.setIfInBounds_toArray, List.set_cons_zero, List.set_cons_succ]
          refine wpAnyH_take (i := 18) (oi := ⟨some 74, _, _, _, _, _⟩) (v := .bool false) rfl (by kernel_rfl) (by kernel_rfl) (by kernel_rfl) (fun _ _ _ h => h) (Or.inl ⟨by rfl, ?ysq79q18⟩) (by assumption) ?rsq79q18
          case ysq79q18 => (intro w hSw; (try dsimp only at hSw); go_simp; (try (with_reducible rfl)))
          try simp only [Act.put, List.setIfInBounds_toArray, List.set_cons_zero, List.set_cons_succ]
          refine wpAnyH_take (i := 19) (oi := ⟨some 75, _, _, _, _, _⟩) (v := .bool false) rfl (by kernel_rfl) (by kernel_rfl) (by kernel_rfl) (fun _ _ _ h => h) (Or.inl ⟨by rfl, ?ysq80q19⟩) (by assumption) ?rsq80q19
          case ysq80q19 => (intro w hSw; (try dsimp only at hSw); go_simp; (try (with_reducible rfl)))
          try simp only [Act.put, List.setIfInBounds_toArray, List.set_cons_zero, List.set_cons_succ]
          refine wpAnyH_take (i := 20) (oi := ⟨some 76, _, _, _, _, _⟩) (v := undef) rfl (by kernel_rfl) (by kernel_rfl) (by kernel_rfl) (fun _ _ _ h => h) (Or.inr ⟨by rfl, rfl⟩) (by assumption) ?_
          try simp only [Act.put, List.setIfInBounds_toArray, List.set_cons_zero, List.set_cons_succ]
          refine wpAnyH_take (i := 21) (oi := ⟨some 77, _, _, _, _, _⟩) (v := undef) rfl (by kernel_rfl) (by kernel_rfl) (by kernel_rfl) (fun _ _ _ h => h) (Or.inr ⟨by rfl, rfl⟩) (by assumption) ?_
          try simp only [Act.put, List.setIfInBounds_toArray, List.set_cons_zero, List.set_cons_succ]
          refine wpAnyH_take (i := 22) (oi := ⟨some 78, _, _, _, _, _⟩) (v := undef) rfl (by kernel_rfl) (by kernel_rfl) (by kernel_rfl) (fun _ _ _ h => h) (Or.inr ⟨by rfl, rfl⟩) (by assumption) ?_
          try simp only [Act.put, List.setIfInBounds_toArray, List.set_cons_zero, List.set_cons_succ]
          refine wpAnyH_take (i := 23) (oi := ⟨some 79, _, _, _, _, _⟩) (v := undef) rfl (by kernel_rfl) (by kernel_rfl) (by kernel_rfl) (fun _ _ _ h => h) (Or.inr ⟨by rfl, rfl⟩) (by assumption) ?_
          try simp only [Act.put, List.setIfInBounds_toArray, List.set_cons_zero, List.set_cons_succ]
          refine wpAnyH_take (i := 24) (oi := ⟨some 80, _, _, _, _, _⟩) (v := undef) rfl (by kernel_rfl) (by kernel_rfl) (by kernel_rfl) (fun _ _ _ h => h) (Or.inr ⟨by rfl, rfl⟩) (by assumption) ?_
          try simp only [Act.put, List.setIfInBounds_toArray, List.set_cons_zero, List.set_cons_succ]
          refine wpAnyH_take (i := 25) (oi := ⟨some 81, _, _, _, _, _⟩) (v := undef) rfl (by kernel_rfl) (by kernel_rfl) (by kernel_rfl) (fun _ _ _ h => h) (Or.inr ⟨by rfl, rfl⟩) (by assumption) ?_
          try simp only [Act.put, List.setIfInBounds_toArray, List.set_cons_zero, List.set_cons_succ]
          refine wpAnyH_take (i := 26) (oi := ⟨some 82, _, _, _, _, _⟩) (v := undef) rfl (by kernel_rfl) (by kernel_rfl) (by kernel_rfl) (fun _ _ _ h => h) (Or.inr ⟨by rfl, rfl⟩) (by assumption) ?_
          try simp only [Act.put, List.setIfInBounds_toArray, List.set_cons_zero, List.set_cons_succ]
          refine wpAnyH_take (i := 27) (oi := ⟨some 83, _, _, _, _, _⟩) (v := undef) rfl (by kernel_rfl) (by kernel_rfl) (by kernel_rfl) (fun _ _ _ h => h) (Or.inr ⟨by rfl, rfl⟩) (by assumption) ?_
          try simp only [Act.put, List.setIfInBounds_toArray, List.set_cons_zero, List.set_cons_succ]
          refine wpAnyH_take (i := 28) (oi := ⟨some 84, _, _, _, _, _⟩) (v := undef) rfl (by kernel_rfl) (by kernel_rfl) (by kernel_rfl) (fun _ _ _ h => h) (Or.inr ⟨by rfl, rfl⟩) (by assumption) ?_
          try simp only [Act.put, List.setIfInBounds_toArray, List.set_cons_zero, List.set_cons_succ]
          refine wpAnyH_take (i := 29) (oi := ⟨some 85, _, _, _, _, _⟩) (v := .bool false) rfl (by kernel_rfl) (by kernel_rfl) (by kernel_rfl) (fun _ _ _ h => h) (Or.inl ⟨by rfl, ?ysq81q29⟩) (by assumption) ?rsq81q29
          case ysq81q29 => (intro w hSw; (try dsimp only at hSw); go_simp; (try (with_reducible rfl)))
          try simp only [Act.put, List.setIfInBounds_toArray, List.set_cons_zero, List.set_cons_succ]
          refine wpAnyH_take (i := 30) (oi := ⟨some 86, _, _, _, _, _⟩) (v := .bool false) rfl (by kernel_rfl) (by kernel_rfl) (by kernel_rfl) (fun _ _ _ h => h) (Or.inl ⟨by rfl, ?ysq82q30⟩) (by assumption) ?rsq82q30
          case ysq82q30 => (intro w hSw; (try dsimp only at hSw); go_simp; (try (with_reducible rfl)))
          try simp only [Act.put, List.setIfInBounds_toArray, List.set_cons_zero, List.set_cons_succ]
          refine wpAnyH_done (by kernel_rfl) ?_ _
          clear hHeld s0 s1 t0 t1 a0 a1 f0 f1 HR3 HX3 HL3 HB3 HK3 HW3 hgA hkf2
          go_wp2_with fail
          go_loopw [13] (fun i w => ∃ (k2 : Nat), k2 ≤ a.ps.length ∧ i = .int .i64 k2 ∧ Hid (RowOk w wo.heap.size kf oF a.ps.length) ∧ Hid (Blk w kf 24 [.int .i64 x, .slice oF a.ps.length cF]) ∧ Hid (Below wo.heap.size wo w)) (fun i _ => a.ps.length - (intOf i).toNat)
          case atStart => exact ⟨0, Nat.zero_le _, rfl, HW4, HK4, HB4⟩
          case round =>
            clear HW4 HK4 HB4
            obtain ⟨k2, hk3, rfl, HRW, HKW, HBW⟩ := hrel
            have f1 := HKW.out.cell 1
            simp only [List.getElem?_cons_zero, List.getElem?_cons_succ] at f1
            by_cases hke : k2 < a.ps.length
            · have hke' : (k2 : Int) < a.ps.length := by omega
              obtain ⟨g, eF, hgB, hgk, ⟨u0, x0⟩, y0, ⟨u1, x1⟩, y1, ⟨u2, x2⟩, y2, hrw⟩ := HRW.out.put k2 hke (.bool false) (.string ⟨#[99, 104, 97, 110, 103, 101, 100]⟩) (.int .i64 0)
              subst eF
              have HRW2 := Lib.hid hrw
              have HKW2 := Lib.hid (((HKW.out.other ⟨g, k2 * 3, none⟩ hgk (.bool false)).other ⟨g, k2 * 3 + 1, none⟩ hgk (.string ⟨#[99, 104, 97, 110, 103, 101, 100]⟩)).other ⟨g, k2 * 3 + 2, none⟩ hgk (.int .i64 0))
              have HBW2 := Lib.hid (((HBW.out.setCell (p := ⟨g, k2 * 3, none⟩) hgB (.bool false)).setCell (p := ⟨g, k2 * 3 + 1, none⟩) hgB (.string ⟨#[99, 104, 97, 110, 103, 101, 100]⟩)).setCell (p := ⟨g, k2 * 3 + 2, none⟩) hgB (.int .i64 0))
              clear hrw hke
              go_wp2_with fail
              go_roundw
              case rel => exact ⟨k2 + 1, by omega, by go_num, HRW2, HKW2, HBW2⟩
              case measure => simp [intOf]; omega
            · obtain rfl : k2 = a.ps.length := by omega
              have hke' : ¬ ((a.ps.length : Nat) : Int) < (a.ps.length : Nat) := by omega
              clear hke
              have HL5 := Lib.hid (HL.out.below HBW.out)
              clear hk3 HRW HKW HBW
              go_wp2_with fail
              refine (HF.out wr HL5.out).mono ?_
              rw [E1.out, E2.out, E3.out]
              rintro e w6 ⟨oG, cG, rfl, hoG, hbG⟩
              obtain ⟨kb, hkb⟩ : ∃ kb, w6.heap.size = kb := ⟨_, rfl⟩
              have hb7 : Below w6.heap.size w6 (w6.alloc (.cells #[.int .i64 x, .slice oG a.ps.length cG] 24)) := (Below.refl _ w6).alloc (Nat.le_refl _) _
              have HL6 := Lib.hid (HL5.out.below hbG)
              have HL7 := Lib.hid (HL6.out.below hb7)
              have HK7 : Hid (Blk (w6.alloc (.cells #[.int .i64 x, .slice oG a.ps.length cG] 24)) kb 24 [.int .i64 x, .slice oG a.ps.length cG]) := blk_at (l := [.int .i64 x, .slice oG a.ps.length cG]) hkb
              have HG7 : Hid ((w6.alloc (.cells #[.int .i64 x, .slice oG a.ps.length cG] 24)).ownsRow w1.heap.size 42 3 (.slice oG a.ps.length cG) a.ps.length (pcells a.ps)) := own_weak (hoG.alloc _) HL5.out.bel.size
              have HV7 : Hid ((Value.slice (some ⟨gA, oA0, none⟩) A.length cA).ownBlock ≠ some kb) := fun e => by have := (HL6.out.own.lt kb e).2; omega
              have HKB2 := Lib.hid hkb
              clear hkb hb7 hbG hoG f1 HL5 HL6
              go_wp2_with fail
              rw [HKB2.out]
              generalize w6.alloc (.cells #[.int .i64 x, .slice oG a.ps.length cG] 24) = w7 at HL7 HK7 HG7 ⊢
              go_loopw [8, 16] (fun v i w => ∃ (k3 : Nat) (M : List Ast), k3 ≤ m ∧ k3 ≤ 10 ∧ i = .int .i64 k3 ∧ Hid (M.length = k3) ∧ Hid (AL w1 w v (A ++ M)) ∧ Hid (v.ownBlock ≠ some kb) ∧ Hid (Blk w kb 24 [.int .i64 x, .slice oG a.ps.length cG]) ∧ Hid (w.ownsRow w1.heap.size 42 3 (.slice oG a.ps.length cG) a.ps.length (pcells a.ps))) (fun _ i _ => m - (intOf i).toNat)
              case atStart => exact ⟨0, [], Nat.zero_le _, Nat.zero_le _, rfl, rfl, by rw [List.append_nil]; exact HL7, HV7, HK7, HG7⟩
              case round =>
                clear HL7 HV7 HK7 HG7 HKB2
                obtain ⟨k3, M, hk3, hk4, rfl, HMl, HL8, HV8, HK8, HG8⟩ := hrel
                obtain ⟨oB, cB, eB⟩ := own_slice HL8.out.own
                subst eB
                have hAM : (A ++ M).length ≤ 20 := by rw [List.length_append, HA.out, HMl.out]; omega
                by_cases hend : k3 = m ∨ k3 = 10
                · have q0 : ¬ ((k3 : Int) < m ∧ (k3 : Int) < 10) := by omega
                  have HF3 := Lib.hid (fun w (h : AL w1 w (.slice oB (A ++ M).length cB) (A ++ M)) => find_any w oB cB (A ++ M) x (by omega) h.rda h.rdp)
                  obtain ⟨m1, m2⟩ := firstA_more HFA.out M
                  obtain ⟨_, j5, j2, j3, j4, _⟩ := firstA_some m1
                  rw [m2, HP.out] at j5
                  rw [j2, j3, j4] at HF3
                  have HPM : Hid ((A ++ M)[p]? = some a) := by show _ = _; rw [← HP.out, ← m2]; exact m1
                  clear m1 m2 j2 j3 j4
                  clear hend
                  obtain ⟨nA, hnA⟩ : ∃ nA, (A ++ M).length = nA := ⟨_, rfl⟩
                  rw [hnA] at HF3 HL8 hAM j5 ⊢
                  have HNA := Lib.hid hnA
                  clear hnA
                  by_cases q1 : (k3 : Int) < m
                  · skip
                    have q2 : ¬ (k3 : Int) < 10 := fun h => q0 ⟨q1, h⟩
                    clear q0
                    go_wp2_with fail
                    refine (HF3.out wr HL8.out).mono ?_
                    rintro e w9 ⟨oH, cH, rfl, hoH, hbH⟩
                    obtain ⟨kc, hkc⟩ : ∃ kc, w9.heap.size = kc := ⟨_, rfl⟩
                    have hb10 : Below w9.heap.size w9 (w9.alloc (.cells #[.int .i64 x, .slice oH a.ps.length cH] 24)) := (Below.refl _ w9).alloc (Nat.le_refl _) _
                    have hbb : Below wr.heap.size wr (w9.alloc (.cells #[.int .i64 x, .slice oH a.ps.length cH] 24)) := bstep hbH hb10
                    have HL10 := Lib.hid (HL8.out.below hbb)
                    have HKC := Lib.hid hkc
                    have HK10 := Lib.hid (HK8.out.kept (hbb.block _ HK8.out.lt))
                    have HG10 := Lib.hid ((own_rdp HG8.out).2.kept hbb)
                    have HC10 : Hid (Blk (w9.alloc (.cells #[.int .i64 x, .slice oH a.ps.length cH] 24)) kc 24 [.int .i64 x, .slice oH a.ps.length cH]) := blk_at (l := [.int .i64 x, .slice oH a.ps.length cH]) hkc
                    have HH10 := Lib.hid ((own_rdp hoH).2.kept hb10)
                    clear hkc hb10 hbb hbH hoH HF3 HL8 HK8 HG8
                    go_wp2_with fail
                    rw [HKC.out]
                    generalize w9.alloc (.cells #[.int .i64 x, .slice oH a.ps.length cH] 24) = w10 at HL10 HK10 HG10 HC10 HH10 ⊢
                    obtain ⟨gB, oB0, eB, a0, a1⟩ := HL10.out.rda.at p a HPM.out
                    subst eB
                    have HX10 := Lib.hid (HL10.out.rdp a (List.mem_of_getElem? HPM.out)).1
                    rw [HIT.out] at a0
                    have f0 := HK10.out.cell 0
                    have f1 := HK10.out.cell 1
                    have g0 := HC10.out.cell 0
                    have g1 := HC10.out.cell 1
                    simp only [List.getElem?_cons_zero, List.getElem?_cons_succ] at f0 f1 g0 g1
                    have hgB : gB < w10.heap.size := block_lt a0
                    have hkb2 : kb < w10.heap.size := HK10.out.lt
                    have hkc2 : kc < w10.heap.size := HC10.out.lt
                    have hpA2 : (p : Int) < nA := by omega
                    refine wp_region_held_drew (S := fun w' => w'.cell? ⟨kb, 0, none⟩ = some (.int .i64 x) ∧ w'.cell? ⟨kb, 1, none⟩ = some (.slice oG a.ps.length cG) ∧ w'.cell? ⟨kc, 0, none⟩ = some (.int .i64 x) ∧ w'.cell? ⟨kc, 1, none⟩ = some (.slice oH a.ps.length cH) ∧ w'.cell? ⟨gB, oB0 + p * 2, none⟩ = some (.int .i64 x) ∧ w'.cell? ⟨gB, oB0 + p * 2 + 1, none⟩ = some (.slice a.o a.ps.length a.c)) (by kernel_rfl) ?_ (fun hHeld => ?_)
                    · exact ⟨f0, f1, g0, g1, a0, a1⟩
                    refine wpAnyH_take (i := 0) (oi := ⟨some 129, _, _, _, _, _⟩) (v := .bool true) rfl (by kernel_rfl) (by kernel_rfl) (by kernel_rfl) (fun _ _ _ h => h) (Or.inl ⟨by rfl, ?yzq83q0⟩) (by assumption) ?rzq83q0
                    case yzq83q0 => (intro w hSw; (try dsimp only at hSw); go_simp; (try (with_reducible rfl)))
                    try simp only [Act.put, List.setIfInBounds_toArray, List.set_cons_zero, List.set_cons_succ]
                    refine wpAnyH_take (i := 1) (oi := ⟨some 130, _, _, _, _, _⟩) (v := .bool true) rfl (by kernel_rfl) (by kernel_rfl) (by kernel_rfl) (fun _ _ _ h => h) (Or.inl ⟨by rfl, ?yzq84q1⟩) (by assumption) ?rzq84q1
                    case yzq84q1 => (intro w hSw; (try dsimp only at hSw); go_simp; (try (with_reducible rfl)))
                    try simp only [Act.put, List.setIfInBounds_toArray, List.set_cons_zero, List.set_cons_succ]
                    refine wpAnyH_take (i := 2) (oi := ⟨some 131, _, _, _, _, _⟩) (v := .bool true) rfl (by kernel_rfl) (by kernel_rfl) (by kernel_rfl) (fun _ _ _ h => h) (Or.inl ⟨by rfl, ?yzq85q2⟩) (by assumption) ?rzq85q2
                    case yzq85q2 => (intro w hSw; (try dsimp only at hSw); go_simp; (try (with_reducible rfl)))
                    try simp only [Act.put, List.setIfInBounds_toArray, List.set_cons_zero, List.set_cons_succ]
                    refine wpAnyH_take (i := 3) (oi := ⟨some 132, _, _, _, _, _⟩) (v := .bool false) rfl (by kernel_rfl) (by kernel_rfl) (by kernel_rfl) (fun _ _ _ h => h) (Or.inl ⟨by rfl, ?yzq86q3⟩) (by assumption) ?rzq86q3
                    case yzq86q3 => (intro w hSw; (try dsimp only at hSw); go_simp; (try (with_reducible rfl)))
                    try simp only [Act.put, List.setIfInBounds_toArray, List.set_cons_zero, List.set_cons_succ]
                    refine wpAnyH_take (i := 4) (oi := ⟨some 133, _, _, _, _, _⟩) (v := .bool false) rfl (by kernel_rfl) (by kernel_rfl) (by kernel_rfl) (fun _ _ _ h => h) (Or.inl ⟨by rfl, ?yzq87q4⟩) (by assumption) ?rzq87q4
                    case yzq87q4 => (intro w hSw; (try dsimp only at hSw); go_simp; (try (with_reducible rfl)))
                    try simp only [Act.put, List.setIfInBounds_toArray, List.set_cons_zero, List.set_cons_succ]
                    refine wpAnyH_take (i := 5) (oi := ⟨some 134, _, _, _, _, _⟩) (v := .bool true) rfl (by kernel_rfl) (by kernel_rfl) (by kernel_rfl) (fun _ _ _ h => h) (Or.inl ⟨by rfl, ?yzq88q5⟩) (by assumption) ?rzq88q5
                    case yzq88q5 => (intro w hSw; (try dsimp only at hSw); go_simp; (try (with_reducible rfl)))
                    try simp only [Act.put, List.setIfInBounds_toArray, List.set_cons_zero, List.set_cons_succ]
                    refine wpAnyH_take (i := 6) (oi := ⟨some 135, _, _, _, _, _⟩) (v := .bool true) rfl (by kernel_rfl) (by kernel_rfl) (by kernel_rfl) (fun _ _ _ h => h) (Or.inl ⟨by rfl, ?yzq89q6⟩) (by assumption) ?rzq89q6
                    case yzq89q6 => (intro w hSw; (try dsimp only at hSw); go_simp; (try (with_reducible rfl)))
                    try simp only [Act.put, List.setIfInBounds_toArray, List.set_cons_zero, List.set_cons_succ]
                    refine wpAnyH_take (i := 7) (oi := ⟨some 136, _, _, _, _, _⟩) (v := ?vzq90q7) rfl (by kernel_rfl) (by kernel_rfl) (by kernel_rfl) (fun _ _ _ h => h) (Or.inl ⟨by rfl, ?yzq90q7⟩) (by assumption) ?rzq90q7
                    case yzq90q7 => (intro w hSw; (try dsimp only at hSw); go_simp; (try (with_reducible rfl)))
                    try simp only [Act.put, List.setIfInBounds_toArray, List.set_cons_zero, List.set_cons_succ]
                    refine wpAnyH_take (i := 8) (oi := ⟨some 137, _, _, _, _, _⟩) (v := ?vzq91q8) rfl (by kernel_rfl) (by kernel_rfl) (by kernel_rfl) (fun _ _ _ h => h) (Or.inl ⟨by rfl, ?yzq91q8⟩) (by assumption) ?rzq91q8
                    case yzq91q8 => (intro w hSw; (try dsimp only at hSw); go_simp; (try (with_reducible rfl)))
                    try simp only [Act.put, List.setIfInBounds_toArray, List.set_cons_zero, List.set_cons_succ]
                    refine wpAnyH_ready (rs := [9]) (by kernel_rfl) (by simp) (AllReadyH.cons (o := ⟨some 138, _, _, _, _, _⟩) rfl (fun K hK => ?_) AllReadyH.nil)
                    go_simp
                    refine (same_of w10.drew x x oG oH cG cH a.ps.length a.ps.length a.ps a.ps true rfl rfl (sameA_self x a.ps) (by omega) (by omega) (HG10.out.kept ((Below.refl _ w10).drew)) (HH10.out.kept ((Below.refl _ w10).drew))).mono ?_
                    rintro e w11 ⟨rfl, hb11⟩
                    have hq : Below w10.heap.size w10 w11 := (Below.refl _ w10).drew.trans hb11
                    have HQ11 := Lib.hid hq
                    have s0 := (hq.cell (p := ⟨kb, 0, none⟩) hkb2).trans f0
                    have s1 := (hq.cell (p := ⟨kb, 1, none⟩) hkb2).trans f1
                    have s2 := (hq.cell (p := ⟨kc, 0, none⟩) hkc2).trans g0
                    have s3 := (hq.cell (p := ⟨kc, 1, none⟩) hkc2).trans g1
                    have s4 := (hq.cell (p := ⟨gB, oB0 + p * 2, none⟩) hgB).trans a0
                    have s5 := (hq.cell (p := ⟨gB, oB0 + p * 2 + 1, none⟩) hgB).trans a1
                    clear hb11 hq
                    go_simp
                    refine hK.out _ _ ?_ (fun hHeld2 => ?_)
                    · exact ⟨s0, s1, s2, s3, s4, s5⟩
                    clear hK K hHeld
                    rename _ => hHeld
                    try simp only [Act.put, List.setIfInBounds_toArray, List.set_cons_zero, List.set_cons_succ]
                    clear s0 s1 s2 s3 s4 s5
                    refine wpAnyH_take (i := 10) (oi := ⟨some 139, _, _, _, _, _⟩) (v := .bool true) rfl (by kernel_rfl) (by kernel_rfl) (by kernel_rfl) (fun _ _ _ h => h) (Or.inl ⟨by rfl, ?yzq92q10⟩) (by assumption) ?rzq92q10
                    case yzq92q10 => (intro w hSw; (try dsimp only at hSw); go_simp; (try (with_reducible rfl)))
                    try simp only [Act.put, List.setIfInBounds_toArray, List.set_cons_zero, List.set_cons_succ]
                    refine wpAnyH_take (i := 11) (oi := ⟨some 140, _, _, _, _, _⟩) (v := .bool true) rfl (by kernel_rfl) (by kernel_rfl) (by kernel_rfl) (fun _ _ _ h => h) (Or.inl ⟨by rfl, ?yzq93q11⟩) (by assumption) ?rzq93q11
                    case yzq93q11 => (intro w hSw; (try dsimp only at hSw); go_simp; (try (with_reducible rfl)))
                    try simp only [Act.put, List.setIfInBounds_toArray, List.set_cons_zero, List.set_cons_succ]
                    refine wpAnyH_take (i := 12) (oi := ⟨some 141, _, _, _, _, _⟩) (v := ?vzq94q12) rfl (by kernel_rfl) (by kernel_rfl) (by kernel_rfl) (fun _ _ _ h => h) (Or.inl ⟨by rfl, ?yzq94q12⟩) (by assumption) ?rzq94q12
                    case yzq94q12 => (intro w hSw; (try dsimp only at hSw); go_simp; (try (with_reducible rfl)))
                    try simp only [Act.put, List.setIfInBounds_toArray, List.set_cons_zero, List.set_cons_succ]
                    refine wpAnyH_take (i := 13) (oi := ⟨some 142, _, _, _, _, _⟩) (v := ?vzq95q13) rfl (by kernel_rfl) (by kernel_rfl) (by kernel_rfl) (fun _ _ _ h => h) (Or.inl ⟨by rfl, ?yzq95q13⟩) (by assumption) ?rzq95q13
                    case yzq95q13 => (intro w hSw; (try dsimp only at hSw); go_simp; (try (with_reducible rfl)))
                    try simp only [Act.put, List.setIfInBounds_toArray, List.set_cons_zero, List.set_cons_succ]
                    refine wpAnyH_take (i := 14) (oi := ⟨some 143, _, _, _, _, _⟩) (v := ?vzq96q14) rfl (by kernel_rfl) (by kernel_rfl) (by kernel_rfl) (fun _ _ _ h => h) (Or.inl ⟨by rfl, ?yzq96q14⟩) (by assumption) ?rzq96q14
                    case yzq96q14 => (intro w hSw; (try dsimp only at hSw); go_simp; (try (with_reducible rfl)))
                    try simp only [Act.put, List.setIfInBounds_toArray, List.set_cons_zero, List.set_cons_succ]
                    refine wpAnyH_take (i := 15) (oi := ⟨some 144, _, _, _, _, _⟩) (v := ?vzq97q15) rfl (by kernel_rfl) (by kernel_rfl) (by kernel_rfl) (fun _ _ _ h => h) (Or.inl ⟨by rfl, ?yzq97q15⟩) (by assumption) ?rzq97q15
                    case yzq97q15 => (intro w hSw; (try dsimp only at hSw); go_simp; (try (with_reducible rfl)))
                    try simp only [Act.put, List.setIfInBounds_toArray, List.set_cons_zero, List.set_cons_succ]
                    refine wpAnyH_take (i := 16) (oi := ⟨some 145, _, _, _, _, _⟩) (v := ?vzq98q16) rfl (by kernel_rfl) (by kernel_rfl) (by kernel_rfl) (fun _ _ _ h => h) (Or.inl ⟨by rfl, ?yzq98q16⟩) (by assumption) ?rzq98q16
                    case yzq98q16 => (intro w hSw; (try dsimp only at hSw); go_simp; (try (with_reducible rfl)))
                    try simp only [Act.put, List.setIfInBounds_toArray, List.set_cons_zero, List.set_cons_succ]
                    refine wpAnyH_ready (rs := [17]) (by kernel_rfl) (by simp) (AllReadyH.cons (o := ⟨some 146, _, _, _, _, _⟩) rfl (fun K hK => ?_) AllReadyH.nil)
                    go_simp
                    refine (same_of w11 x x oG a.o cG a.c a.ps.length a.ps.length a.ps a.ps true rfl rfl (sameA_self x a.ps) (by omega) (by omega) (HG10.out.kept HQ11.out) (HX10.out.kept HQ11.out)).mono ?_
                    rintro e w12 ⟨rfl, hb12⟩
                    have hq : Below w10.heap.size w10 w12 := bstep HQ11.out hb12
                    have HQ12 := Lib.hid hq
                    have s0 := (hq.cell (p := ⟨kb, 0, none⟩) hkb2).trans f0
                    have s1 := (hq.cell (p := ⟨kb, 1, none⟩) hkb2).trans f1
                    have s2 := (hq.cell (p := ⟨kc, 0, none⟩) hkc2).trans g0
                    have s3 := (hq.cell (p := ⟨kc, 1, none⟩) hkc2).trans g1
                    have s4 := (hq.cell (p := ⟨gB, oB0 + p * 2, none⟩) hgB).trans a0
                    have s5 := (hq.cell (p := ⟨gB, oB0 + p * 2 + 1, none⟩) hgB).trans a1
                    clear hb12 hq
                    go_simp
                    refine hK.out _ _ ?_ (fun hHeld2 => ?_)
                    · exact ⟨s0, s1, s2, s3, s4, s5⟩
                    clear hK K hHeld
                    rename _ => hHeld
                    try simp only [Act.put, List.setIfInBounds_toArray, List.set_cons_zero, List.set_cons_succ]
                    clear s0 s1 s2 s3 s4 s5
                    refine wpAnyH_take (i := 18) (oi := ⟨some 147, _, _, _, _, _⟩) (v := .bool true) rfl (by kernel_rfl) (by kernel_rfl) (by kernel_rfl) (fun _ _ _ h => h) (Or.inl ⟨by rfl, ?yzq99q18⟩) (by assumption) ?rzq99q18
                    case yzq99q18 => (intro w hSw; (try dsimp only at hSw); go_simp; (try (with_reducible rfl)))
                    try simp only [Act.put, List.setIfInBounds_toArray, List.set_cons_zero, List.set_cons_succ]
                    refine wpAnyH_take (i := 19) (oi := ⟨some 148, _, _, _, _, _⟩) (v := .bool true) rfl (by kernel_rfl) (by kernel_rfl) (by kernel_rfl) (fun _ _ _ h => h) (Or.inl ⟨by rfl, ?yzq100q19⟩) (by assumption) ?rzq100q19
                    case yzq100q19 => (intro w hSw; (try dsimp only at hSw); go_simp; (try (with_reducible rfl)))
                    try simp only [Act.put, List.setIfInBounds_toArray, List.set_cons_zero, List.set_cons_succ]
                    refine wpAnyH_take (i := 20) (oi := ⟨some 149, _, _, _, _, _⟩) (v := .bool true) rfl (by kernel_rfl) (by kernel_rfl) (by kernel_rfl) (fun _ _ _ h => h) (Or.inl ⟨by rfl, ?yzq101q20⟩) (by assumption) ?rzq101q20
                    case yzq101q20 => (intro w hSw; (try dsimp only at hSw); go_simp; (try (with_reducible rfl)))
                    try simp only [Act.put, List.setIfInBounds_toArray, List.set_cons_zero, List.set_cons_succ]
                    refine wpAnyH_take (i := 21) (oi := ⟨some 6, _, _, _, _, _⟩) (v := .bool true) rfl (by kernel_rfl) (by kernel_rfl) (by kernel_rfl) (fun _ _ _ h => h) (Or.inl ⟨by rfl, ?yzq102q21⟩) (by assumption) ?rzq102q21
                    case yzq102q21 => (intro w hSw; (try dsimp only at hSw); go_simp; (try (with_reducible rfl)))
                    try simp only [Act.put, List.setIfInBounds_toArray, List.set_cons_zero, List.set_cons_succ]
                    refine wpAnyH_done (by kernel_rfl) ?_ _
                    clear hHeld f0 f1 g0 g1 a0 a1
                    go_wp2_with fail
                    go_ret
                    exact ⟨rfl, bstep (bstep HB1.out HL10.out.bel) HQ12.out⟩
                  · skip
                    skip
                    clear q0
                    go_wp2_with fail
                    refine (HF3.out wr HL8.out).mono ?_
                    rintro e w9 ⟨oH, cH, rfl, hoH, hbH⟩
                    obtain ⟨kc, hkc⟩ : ∃ kc, w9.heap.size = kc := ⟨_, rfl⟩
                    have hb10 : Below w9.heap.size w9 (w9.alloc (.cells #[.int .i64 x, .slice oH a.ps.length cH] 24)) := (Below.refl _ w9).alloc (Nat.le_refl _) _
                    have hbb : Below wr.heap.size wr (w9.alloc (.cells #[.int .i64 x, .slice oH a.ps.length cH] 24)) := bstep hbH hb10
                    have HL10 := Lib.hid (HL8.out.below hbb)
                    have HKC := Lib.hid hkc
                    have HK10 := Lib.hid (HK8.out.kept (hbb.block _ HK8.out.lt))
                    have HG10 := Lib.hid ((own_rdp HG8.out).2.kept hbb)
                    have HC10 : Hid (Blk (w9.alloc (.cells #[.int .i64 x, .slice oH a.ps.length cH] 24)) kc 24 [.int .i64 x, .slice oH a.ps.length cH]) := blk_at (l := [.int .i64 x, .slice oH a.ps.length cH]) hkc
                    have HH10 := Lib.hid ((own_rdp hoH).2.kept hb10)
                    clear hkc hb10 hbb hbH hoH HF3 HL8 HK8 HG8
                    go_wp2_with fail
                    rw [HKC.out]
                    generalize w9.alloc (.cells #[.int .i64 x, .slice oH a.ps.length cH] 24) = w10 at HL10 HK10 HG10 HC10 HH10 ⊢
                    obtain ⟨gB, oB0, eB, a0, a1⟩ := HL10.out.rda.at p a HPM.out
                    subst eB
                    have HX10 := Lib.hid (HL10.out.rdp a (List.mem_of_getElem? HPM.out)).1
                    rw [HIT.out] at a0
                    have f0 := HK10.out.cell 0
                    have f1 := HK10.out.cell 1
                    have g0 := HC10.out.cell 0
                    have g1 := HC10.out.cell 1
                    simp only [List.getElem?_cons_zero, List.getElem?_cons_succ] at f0 f1 g0 g1
                    have hgB : gB < w10.heap.size := block_lt a0
                    have hkb2 : kb < w10.heap.size := HK10.out.lt
                    have hkc2 : kc < w10.heap.size := HC10.out.lt
                    have hpA2 : (p : Int) < nA := by omega
                    refine wp_region_held_drew (S := fun w' => w'.cell? ⟨kb, 0, none⟩ = some (.int .i64 x) ∧ w'.cell? ⟨kb, 1, none⟩ = some (.slice oG a.ps.length cG) ∧ w'.cell? ⟨kc, 0, none⟩ = some (.int .i64 x) ∧ w'.cell? ⟨kc, 1, none⟩ = some (.slice oH a.ps.length cH) ∧ w'.cell? ⟨gB, oB0 + p * 2, none⟩ = some (.int .i64 x) ∧ w'.cell? ⟨gB, oB0 + p * 2 + 1, none⟩ = some (.slice a.o a.ps.length a.c)) (by kernel_rfl) ?_ (fun hHeld => ?_)
                    · exact ⟨f0, f1, g0, g1, a0, a1⟩
                    refine wpAnyH_take (i := 0) (oi := ⟨some 129, _, _, _, _, _⟩) (v := .bool true) rfl (by kernel_rfl) (by kernel_rfl) (by kernel_rfl) (fun _ _ _ h => h) (Or.inl ⟨by rfl, ?yzq103q0⟩) (by assumption) ?rzq103q0
                    case yzq103q0 => (intro w hSw; (try dsimp only at hSw); go_simp; (try (with_reducible rfl)))
                    try simp only [Act.put, List.setIfInBounds_toArray, List.set_cons_zero, List.set_cons_succ]
                    refine wpAnyH_take (i := 1) (oi := ⟨some 130, _, _, _, _, _⟩) (v := .bool true) rfl (by kernel_rfl) (by kernel_rfl) (by kernel_rfl) (fun _ _ _ h => h) (Or.inl ⟨by rfl, ?yzq104q1⟩) (by assumption) ?rzq104q1
                    case yzq104q1 => (intro w hSw; (try dsimp only at hSw); go_simp; (try (with_reducible rfl)))
                    try simp only [Act.put, List.setIfInBounds_toArray, List.set_cons_zero, List.set_cons_succ]
                    refine wpAnyH_take (i := 2) (oi := ⟨some 131, _, _, _, _, _⟩) (v := .bool true) rfl (by kernel_rfl) (by kernel_rfl) (by kernel_rfl) (fun _ _ _ h => h) (Or.inl ⟨by rfl, ?yzq105q2⟩) (by assumption) ?rzq105q2
                    case yzq105q2 => (intro w hSw; (try dsimp only at hSw); go_simp; (try (with_reducible rfl)))
                    try simp only [Act.put, List.setIfInBounds_toArray, List.set_cons_zero, List.set_cons_succ]
                    refine wpAnyH_take (i := 3) (oi := ⟨some 132, _, _, _, _, _⟩) (v := .bool false) rfl (by kernel_rfl) (by kernel_rfl) (by kernel_rfl) (fun _ _ _ h => h) (Or.inl ⟨by rfl, ?yzq106q3⟩) (by assumption) ?rzq106q3
                    case yzq106q3 => (intro w hSw; (try dsimp only at hSw); go_simp; (try (with_reducible rfl)))
                    try simp only [Act.put, List.setIfInBounds_toArray, List.set_cons_zero, List.set_cons_succ]
                    refine wpAnyH_take (i := 4) (oi := ⟨some 133, _, _, _, _, _⟩) (v := .bool false) rfl (by kernel_rfl) (by kernel_rfl) (by kernel_rfl) (fun _ _ _ h => h) (Or.inl ⟨by rfl, ?yzq107q4⟩) (by assumption) ?rzq107q4
                    case yzq107q4 => (intro w hSw; (try dsimp only at hSw); go_simp; (try (with_reducible rfl)))
                    try simp only [Act.put, List.setIfInBounds_toArray, List.set_cons_zero, List.set_cons_succ]
                    refine wpAnyH_take (i := 5) (oi := ⟨some 134, _, _, _, _, _⟩) (v := .bool true) rfl (by kernel_rfl) (by kernel_rfl) (by kernel_rfl) (fun _ _ _ h => h) (Or.inl ⟨by rfl, ?yzq108q5⟩) (by assumption) ?rzq108q5
                    case yzq108q5 => (intro w hSw; (try dsimp only at hSw); go_simp; (try (with_reducible rfl)))
                    try simp only [Act.put, List.setIfInBounds_toArray, List.set_cons_zero, List.set_cons_succ]
                    refine wpAnyH_take (i := 6) (oi := ⟨some 135, _, _, _, _, _⟩) (v := .bool true) rfl (by kernel_rfl) (by kernel_rfl) (by kernel_rfl) (fun _ _ _ h => h) (Or.inl ⟨by rfl, ?yzq109q6⟩) (by assumption) ?rzq109q6
                    case yzq109q6 => (intro w hSw; (try dsimp only at hSw); go_simp; (try (with_reducible rfl)))
                    try simp only [Act.put, List.setIfInBounds_toArray, List.set_cons_zero, List.set_cons_succ]
                    refine wpAnyH_take (i := 7) (oi := ⟨some 136, _, _, _, _, _⟩) (v := ?vzq110q7) rfl (by kernel_rfl) (by kernel_rfl) (by kernel_rfl) (fun _ _ _ h => h) (Or.inl ⟨by rfl, ?yzq110q7⟩) (by assumption) ?rzq110q7
                    case yzq110q7 => (intro w hSw; (try dsimp only at hSw); go_simp; (try (with_reducible rfl)))
                    try simp only [Act.put, List.setIfInBounds_toArray, List.set_cons_zero, List.set_cons_succ]
                    refine wpAnyH_take (i := 8) (oi := ⟨some 137, _, _, _, _, _⟩) (v := ?vzq111q8) rfl (by kernel_rfl) (by kernel_rfl) (by kernel_rfl) (fun _ _ _ h => h) (Or.inl ⟨by rfl, ?yzq111q8⟩) (by assumption) ?rzq111q8
                    case yzq111q8 => (intro w hSw; (try dsimp only at hSw); go_simp; (try (with_reducible rfl)))
                    try simp only [Act.put, List.setIfInBounds_toArray, List.set_cons_zero, List.set_cons_succ]
                    refine wpAnyH_ready (rs := [9]) (by kernel_rfl) (by simp) (AllReadyH.cons (o := ⟨some 138, _, _, _, _, _⟩) rfl (fun K hK => ?_) AllReadyH.nil)
                    go_simp
                    refine (same_of w10.drew x x oG oH cG cH a.ps.length a.ps.length a.ps a.ps true rfl rfl (sameA_self x a.ps) (by omega) (by omega) (HG10.out.kept ((Below.refl _ w10).drew)) (HH10.out.kept ((Below.refl _ w10).drew))).mono ?_
                    rintro e w11 ⟨rfl, hb11⟩
                    have hq : Below w10.heap.size w10 w11 := (Below.refl _ w10).drew.trans hb11
                    have HQ11 := Lib.hid hq
                    have s0 := (hq.cell (p := ⟨kb, 0, none⟩) hkb2).trans f0
                    have s1 := (hq.cell (p := ⟨kb, 1, none⟩) hkb2).trans f1
                    have s2 := (hq.cell (p := ⟨kc, 0, none⟩) hkc2).trans g0
                    have s3 := (hq.cell (p := ⟨kc, 1, none⟩) hkc2).trans g1
                    have s4 := (hq.cell (p := ⟨gB, oB0 + p * 2, none⟩) hgB).trans a0
                    have s5 := (hq.cell (p := ⟨gB, oB0 + p * 2 + 1, none⟩) hgB).trans a1
                    clear hb11 hq
                    go_simp
                    refine hK.out _ _ ?_ (fun hHeld2 => ?_)
                    · exact ⟨s0, s1, s2, s3, s4, s5⟩
                    clear hK K hHeld
                    rename _ => hHeld
                    try simp only [Act.put, List.setIfInBounds_toArray, List.set_cons_zero, List.set_cons_succ]
                    clear s0 s1 s2 s3 s4 s5
                    refine wpAnyH_take (i := 10) (oi := ⟨some 139, _, _, _, _, _⟩) (v := .bool true) rfl (by kernel_rfl) (by kernel_rfl) (by kernel_rfl) (fun _ _ _ h => h) (Or.inl ⟨by rfl, ?yzq112q10⟩) (by assumption) ?rzq112q10
                    case yzq112q10 => (intro w hSw; (try dsimp only at hSw); go_simp; (try (with_reducible rfl)))
                    try simp only [Act.put, List.setIfInBounds_toArray, List.set_cons_zero, List.set_cons_succ]
                    refine wpAnyH_take (i := 11) (oi := ⟨some 140, _, _, _, _, _⟩) (v := .bool true) rfl (by kernel_rfl) (by kernel_rfl) (by kernel_rfl) (fun _ _ _ h => h) (Or.inl ⟨by rfl, ?yzq113q11⟩) (by assumption) ?rzq113q11
                    case yzq113q11 => (intro w hSw; (try dsimp only at hSw); go_simp; (try (with_reducible rfl)))
                    try simp only [Act.put, List.setIfInBounds_toArray, List.set_cons_zero, List.set_cons_succ]
                    refine wpAnyH_take (i := 12) (oi := ⟨some 141, _, _, _, _, _⟩) (v := ?vzq114q12) rfl (by kernel_rfl) (by kernel_rfl) (by kernel_rfl) (fun _ _ _ h => h) (Or.inl ⟨by rfl, ?yzq114q12⟩) (by assumption) ?rzq114q12
                    case yzq114q12 => (intro w hSw; (try dsimp only at hSw); go_simp; (try (with_reducible rfl)))
                    try simp only [Act.put, List.setIfInBounds_toArray, List.set_cons_zero, List.set_cons_succ]
                    refine wpAnyH_take (i := 13) (oi := ⟨some 142, _, _, _, _, _⟩) (v := ?vzq115q13) rfl (by kernel_rfl) (by kernel_rfl) (by kernel_rfl) (fun _ _ _ h => h) (Or.inl ⟨by rfl, ?yzq115q13⟩) (by assumption) ?rzq115q13
                    case yzq115q13 => (intro w hSw; (try dsimp only at hSw); go_simp; (try (with_reducible rfl)))
                    try simp only [Act.put, List.setIfInBounds_toArray, List.set_cons_zero, List.set_cons_succ]
                    refine wpAnyH_take (i := 14) (oi := ⟨some 143, _, _, _, _, _⟩) (v := ?vzq116q14) rfl (by kernel_rfl) (by kernel_rfl) (by kernel_rfl) (fun _ _ _ h => h) (Or.inl ⟨by rfl, ?yzq116q14⟩) (by assumption) ?rzq116q14
                    case yzq116q14 => (intro w hSw; (try dsimp only at hSw); go_simp; (try (with_reducible rfl)))
                    try simp only [Act.put, List.setIfInBounds_toArray, List.set_cons_zero, List.set_cons_succ]
                    refine wpAnyH_take (i := 15) (oi := ⟨some 144, _, _, _, _, _⟩) (v := ?vzq117q15) rfl (by kernel_rfl) (by kernel_rfl) (by kernel_rfl) (fun _ _ _ h => h) (Or.inl ⟨by rfl, ?yzq117q15⟩) (by assumption) ?rzq117q15
                    case yzq117q15 => (intro w hSw; (try dsimp only at hSw); go_simp; (try (with_reducible rfl)))
                    try simp only [Act.put, List.setIfInBounds_toArray, List.set_cons_zero, List.set_cons_succ]
                    refine wpAnyH_take (i := 16) (oi := ⟨some 145, _, _, _, _, _⟩) (v := ?vzq118q16) rfl (by kernel_rfl) (by kernel_rfl) (by kernel_rfl) (fun _ _ _ h => h) (Or.inl ⟨by rfl, ?yzq118q16⟩) (by assumption) ?rzq118q16
                    case yzq118q16 => (intro w hSw; (try dsimp only at hSw); go_simp; (try (with_reducible rfl)))
                    try simp only [Act.put, List.setIfInBounds_toArray, List.set_cons_zero, List.set_cons_succ]
                    refine wpAnyH_ready (rs := [17]) (by kernel_rfl) (by simp) (AllReadyH.cons (o := ⟨some 146, _, _, _, _, _⟩) rfl (fun K hK => ?_) AllReadyH.nil)
                    go_simp
                    refine (same_of w11 x x oG a.o cG a.c a.ps.length a.ps.length a.ps a.ps true rfl rfl (sameA_self x a.ps) (by omega) (by omega) (HG10.out.kept HQ11.out) (HX10.out.kept HQ11.out)).mono ?_
                    rintro e w12 ⟨rfl, hb12⟩
                    have hq : Below w10.heap.size w10 w12 := bstep HQ11.out hb12
                    have HQ12 := Lib.hid hq
                    have s0 := (hq.cell (p := ⟨kb, 0, none⟩) hkb2).trans f0
                    have s1 := (hq.cell (p := ⟨kb, 1, none⟩) hkb2).trans f1
                    have s2 := (hq.cell (p := ⟨kc, 0, none⟩) hkc2).trans g0
                    have s3 := (hq.cell (p := ⟨kc, 1, none⟩) hkc2).trans g1
                    have s4 := (hq.cell (p := ⟨gB, oB0 + p * 2, none⟩) hgB).trans a0
                    have s5 := (hq.cell (p := ⟨gB, oB0 + p * 2 + 1, none⟩) hgB).trans a1
                    clear hb12 hq
                    go_simp
                    refine hK.out _ _ ?_ (fun hHeld2 => ?_)
                    · exact ⟨s0, s1, s2, s3, s4, s5⟩
                    clear hK K hHeld
                    rename _ => hHeld
                    try simp only [Act.put, List.setIfInBounds_toArray, List.set_cons_zero, List.set_cons_succ]
                    clear s0 s1 s2 s3 s4 s5
                    refine wpAnyH_take (i := 18) (oi := ⟨some 147, _, _, _, _, _⟩) (v := .bool true) rfl (by kernel_rfl) (by kernel_rfl) (by kernel_rfl) (fun _ _ _ h => h) (Or.inl ⟨by rfl, ?yzq119q18⟩) (by assumption) ?rzq119q18
                    case yzq119q18 => (intro w hSw; (try dsimp only at hSw); go_simp; (try (with_reducible rfl)))
                    try simp only [Act.put, List.setIfInBounds_toArray, List.set_cons_zero, List.set_cons_succ]
                    refine wpAnyH_take (i := 19) (oi := ⟨some 148, _, _, _, _, _⟩) (v := .bool true) rfl (by kernel_rfl) (by kernel_rfl) (by kernel_rfl) (fun _ _ _ h => h) (Or.inl ⟨by rfl, ?yzq120q19⟩) (by assumption) ?rzq120q19
                    case yzq120q19 => (intro w hSw; (try dsimp only at hSw); go_simp; (try (with_reducible rfl)))
                    try simp only [Act.put, List.setIfInBounds_toArray, List.set_cons_zero, List.set_cons_succ]
                    refine wpAnyH_take (i := 20) (oi := ⟨some 149, _, _, _, _, _⟩) (v := .bool true) rfl (by kernel_rfl) (by kernel_rfl) (by kernel_rfl) (fun _ _ _ h => h) (Or.inl ⟨by rfl, ?yzq121q20⟩) (by assumption) ?rzq121q20
                    case yzq121q20 => (intro w hSw; (try dsimp only at hSw); go_simp; (try (with_reducible rfl)))
                    try simp only [Act.put, List.setIfInBounds_toArray, List.set_cons_zero, List.set_cons_succ]
                    refine wpAnyH_take (i := 21) (oi := ⟨some 6, _, _, _, _, _⟩) (v := .bool true) rfl (by kernel_rfl) (by kernel_rfl) (by kernel_rfl) (fun _ _ _ h => h) (Or.inl ⟨by rfl, ?yzq122q21⟩) (by assumption) ?rzq122q21
                    case yzq122q21 => (intro w hSw; (try dsimp only at hSw); go_simp; (try (with_reducible rfl)))
                    try simp only [Act.put, List.setIfInBounds_toArray, List.set_cons_zero, List.set_cons_succ]
                    refine wpAnyH_done (by kernel_rfl) ?_ _
                    clear hHeld f0 f1 g0 g1 a0 a1
                    go_wp2_with fail
                    go_ret
                    exact ⟨rfl, bstep (bstep HB1.out HL10.out.bel) HQ12.out⟩
                · have q1 : (k3 : Int) < m := by omega
                  have q2 : (k3 : Int) < 10 := by omega
                  obtain ⟨c, hc⟩ : ∃ c, lb[k3]? = some c := ⟨_, List.getElem?_eq_getElem (by rw [HM.out]; omega)⟩
                  have hbW := bstep HB1.out (HL8.out.bel)
                  obtain ⟨g, off, e', d0, d1⟩ := (HRB.out.kept hbW).at k3 c hc
                  subst e'
                  obtain ⟨cok, cln, crd⟩ := pick_ast hc HKB.out
                  have HCO := Lib.hid cok
                  have HCL := Lib.hid cln
                  have HCR := Lib.hid (crd.kept hbW)
                  clear hc hend cok cln crd hbW
                  go_wp2_with fail
                  refine (short_any wr c.item c.o c.c c.ps HCL.out HCO.out HCR.out).mono ?_
                  have hcl := cutP_len c.ps
                  generalize cutP c.ps = L at hcl ⊢
                  rintro e w8 ⟨oL, cL, rfl, ho8, hb8⟩
                  have HL9 := Lib.hid (HL8.out.below hb8)
                  have HO9 := Lib.hid (own_weak ho8 HL8.out.bel.size)
                  have HK9 := Lib.hid (HK8.out.kept (hb8.block _ HK8.out.lt))
                  have HG9 := Lib.hid (ownsRow_kept' HG8.out (fun g hg => hb8.block g (HG8.out.lt g hg).2))
                  obtain ⟨oM, cM, w9, hrun, ho10, hf10, hv10⟩ := app_ast w8 w1.heap.size _ (A ++ M) ⟨c.item, oL, cL, L⟩ HL9.out.own (by omega) HL9.out.bel.size 38
                  have HL10 := Lib.hid (HL9.out.app (c := ⟨c.item, oL, cL, L⟩) HO9.out hcl ho10 hf10)
                  rw [List.append_assoc] at HL10
                  have HV10 : Hid ((Value.slice oM ((A ++ M).length + 1) cM).ownBlock ≠ some kb) := fun e => (hv10 kb e).elim HV8.out (fun h => by have := HK9.out.lt; omega)
                  have HK10 := Lib.hid (HK9.out.kept (hf10.block _ HK9.out.lt HV8.out))
                  have HG10 := Lib.hid (pic_kept HG9.out HL9.out.own hf10)
                  have HM10 : Hid ((M ++ [(⟨c.item, oL, cL, L⟩ : Ast)]).length = k3 + 1) := by show _ = _; rw [List.length_append, HMl.out]; rfl
                  dsimp only at hrun
                  clear ho8 hb8 ho10 hf10 hv10 HL8 HL9 HK8 HK9 HG8 HG9 HV8
                  obtain ⟨nA, hnA⟩ : ∃ nA, (A ++ M).length = nA := ⟨_, rfl⟩
                  rw [hnA] at hrun HL10 HV10 ⊢
                  clear hnA
                  go_wp2_with (at_builtin; refine wpList_append_run _ rfl _ _ 38 rfl _ _ _ _ rfl rfl hrun ?_)
                  go_roundw
                  case rel => exact ⟨k3 + 1, _, by omega, by omega, by go_num, HM10, HL10, HV10, HK10, HG10⟩
                  case measure => simp [intOf]; omega
    · have q1 : (k : Int) < n := by omega
      have q2 : (k : Int) < 10 := by omega
      obtain ⟨c, hc⟩ : ∃ c, la[k]? = some c := ⟨_, List.getElem?_eq_getElem (by rw [HN.out]; omega)⟩
      have HC := Lib.hid hc
      have hbW := bstep HB1.out (HL.out.bel)
      obtain ⟨g, off, e', d0, d1⟩ := (HRA.out.kept hbW).at k c hc
      subst e'
      obtain ⟨cok, cln, crd⟩ := pick_ast hc HKA.out
      have HCO := Lib.hid cok
      have HCL := Lib.hid cln
      have HCR := Lib.hid (crd.kept hbW)
      clear hc hend cok cln crd hbW
      go_wp2_with fail
      refine (short_any wr c.item c.o c.c c.ps HCL.out HCO.out HCR.out).mono ?_
      have hcl := cutP_len c.ps
      generalize cutP c.ps = L at hcl ⊢
      rintro e w2 ⟨oL, cL, rfl, ho2, hb2⟩
      have HL2 := Lib.hid (HL.out.below hb2)
      have HO2 := Lib.hid (own_weak ho2 HL.out.bel.size)
      obtain ⟨oM, cM, w3, hrun, ho3, hf3, -⟩ := app_ast w2 w1.heap.size _ A ⟨c.item, oL, cL, L⟩ HL2.out.own (by rw [HA.out]; omega) HL2.out.bel.size 38
      have HL3 := Lib.hid (HL2.out.app (c := ⟨c.item, oL, cL, L⟩) HO2.out hcl ho3 hf3)
      have HI3 := Lib.hid (idxI_snoc A ⟨c.item, oL, cL, L⟩ x)
      rw [HI.out, HA.out] at HI3
      have hbW := bstep HB1.out (HL3.out.bel)
      obtain ⟨g', off', e', d0', d1'⟩ := (HRA.out.kept hbW).at k c HC.out
      simp at e'
      obtain ⟨rfl, rfl⟩ := e'
      have HA3 : Hid ((A ++ [(⟨c.item, oL, cL, L⟩ : Ast)]).length = k + 1) := by show _ = _; rw [List.length_append, HA.out]; rfl
      dsimp only at hrun
      clear ho2 hb2 ho3 hf3 hbW d0 d1 d1'
      by_cases q3 : z < 0
      · by_cases q4 : c.item = x
        · have q4' : (c.item == x) = true := by rw [q4]; simp
          have HI4 : Hid (idxI (A ++ [(⟨c.item, oL, cL, L⟩ : Ast)]) x = (k : Int)) := by show _ = _; rw [HI3.out, if_pos q3, if_pos q4]
          clear q4
          go_wp2_with (at_builtin; refine wpList_append_run _ rfl _ _ 38 rfl _ _ _ _ rfl rfl hrun ?_)
          go_roundw
          case rel => exact ⟨k + 1, _, _, by omega, by omega, by go_num, rfl, by omega, HA3, HI4, HL3⟩
          case measure => simp [intOf]; omega
        · have q4' : (c.item == x) = false := by rw [beq_eq_false_iff_ne]; exact q4
          have HI4 : Hid (idxI (A ++ [(⟨c.item, oL, cL, L⟩ : Ast)]) x = z) := by
            show _ = _
            rw [HI3.out, if_pos q3, if_neg q4]
            omega
          clear q4
          go_wp2_with (at_builtin; refine wpList_append_run _ rfl _ _ 38 rfl _ _ _ _ rfl rfl hrun ?_)
          go_roundw
          case rel => exact ⟨k + 1, _, _, by omega, by omega, by go_num, rfl, by omega, HA3, HI4, HL3⟩
          case measure => simp [intOf]; omega
      · have HI4 : Hid (idxI (A ++ [(⟨c.item, oL, cL, L⟩ : Ast)]) x = z) := by show _ = _; rw [HI3.out, if_neg q3]
        go_wp2_with (at_builtin; refine wpList_append_run _ rfl _ _ 38 rfl _ _ _ _ rfl rfl hrun ?_)
        go_roundw
        case rel => exact ⟨k + 1, _, _, by omega, by omega, by go_num, rfl, by omega, HA3, HI4, HL3⟩
        case measure => simp [intOf]; omega
end Go.Proofs.Ytfplajafekpccaa
