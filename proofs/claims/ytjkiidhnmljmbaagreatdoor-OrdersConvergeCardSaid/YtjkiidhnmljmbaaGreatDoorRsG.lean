/- The reference's receiver: Receive. -/
import Derived.Deep.CutBlock
import Derived.Test.YtjkiidhnmljmbaaGreatDoorRsE
import Derived.Test.YtjkiidhnmljmbaaGreatDoorRkEI
set_option linter.unusedVariables false
set_option linter.unusedSimpArgs false
set_option maxRecDepth 100000
set_option maxHeartbeats 8000000
namespace Go.Proofs.YtjkiidhnmljmbaaGreatDoor
open Go.RowKit
attribute [local go_sem] Oper.semAt_some
theorem Blk.part5 {W : World} {N : Nat} {m : MOd} (h : Blk W N 32 m.l) : W.rangeAt N 5 m.o.l := fun j v hj => by
 have := h.range (5 + j) v (by
  have e : m.l = [.int .i64 m.kd, .int .i64 m.tn, .int .i64 m.sq, .int .i64 m.fr, .int .i64 m.n] ++ m.o.l := rfl
  rw [e, List.getElem?_append_right (by simp)]
  simpa using hj)
 rw [Nat.zero_add] at this;exact this
theorem okM_oq {m : MOd} {al : List (Int × Int)} (h : okM m al = true) (hk : m.kd = 1) : m.o.s = m.sq ∧ 1 ≤ m.sq ∧ m.sq ≤ 200 := by
 unfold okM at h
 rw [if_pos hk] at h
 simp only [Bool.and_eq_true, decide_eq_true_eq, beq_iff_eq] at h
 exact ⟨h.2.2.2.2.2.1, h.2.1, h.2.2.1⟩
def knB (sq : Int) (n : Nat) (E : List GP) (i : Nat) : Bool := decide (sq ≤ (n : Int)) || (E.take i).any (fun p => p.o.s == sq)
theorem knB_zero (sq : Int) (n : Nat) (E : List GP) : decide (sq ≤ (n : Int)) = knB sq n E 0 := by simp [knB]
theorem knB_succ (sq : Int) (n : Nat) (E : List GP) (i : Nat) (p : GP) (hp : E[i]? = some p) : knB sq n E (i + 1) = (knB sq n E i || p.o.s == sq) := by
 unfold knB
 rw [List.take_add_one, hp]
 simp [Bool.or_assoc]
theorem idxG_any : ∀ (E : List GP) (sq : Int), (idxG (E.map ke) sq).isSome = E.any (fun p => p.o.s == sq)
 | [], _ => rfl
 | p :: E, sq => by
  simp only [List.map_cons, idxG, List.any_cons]
  by_cases hk : sq = p.o.s
  ·rw [if_pos (by rw [beq_iff_eq]; exact hk)]
   simp [hk]
  ·rw [if_neg (by rw [beq_iff_eq]; exact hk)]
   have e : (p.o.s == sq) = false := beq_eq_false_iff_ne.2 (fun e => hk e.symm)
   rw [e, Bool.false_or, ← idxG_any E sq]
   cases idxG (E.map ke) sq <;> rfl
theorem knB_all (sq : Int) (n : Nat) (E : List GP) : knB sq n E E.length = (decide (sq ≤ (n : Int)) || (idxG (E.map ke) sq).isSome) := by
 unfold knB
 rw [List.take_length, idxG_any]
theorem putG_known {l : List GP} {E : List GP} {sq : Int} {q : GP} (h : knB sq l.length E E.length = true) : putG l (E.map ke) sq q = E.map ke := by
 rw [knB_all] at h
 unfold putG
 cases hi : idxG (E.map ke) sq with
 | some x => rfl
 | none =>
  rw [hi] at h
  simp at h
  dsimp only
  rw [if_neg (by omega)]
theorem putG_new {l : List GP} {E : List GP} {q : GP} {sq : Int} (hs : q.o.s = sq) (h : knB sq l.length E E.length = false) : putG l (E.map ke) sq q = (E ++ [q]).map ke := by
 rw [knB_all] at h
 unfold putG
 cases hi : idxG (E.map ke) sq with
 | some x => rw [hi] at h; simp at h
 | none =>
  rw [hi] at h
  simp at h
  dsimp only
  rw [if_pos (by omega), List.map_append, ← hs]
  rfl
def earlyN (W : World) (bb : Nat) : Nat := match W.cell? ⟨bb, 2, none⟩ with
 | some (.slice _ n _) => n
 | _ => 0
def okN : Value → Nat
 | .bool true => 1
 | _ => 0
theorem RbG.earlyN {W : World} {bb : Nat} {tn : Int} {vl vE : Value} {l E : List GP} (h : RbG W bb tn vl vE l E) : earlyN W bb = E.length := by
 obtain ⟨oE, cE, rfl⟩ := own_slice h.ownE
 have c2 := h.blk.cell 2
 simp only [gz, gs] at c2
 unfold Go.Proofs.YtjkiidhnmljmbaaGreatDoor.earlyN
 rw [c2]
def advR (b : Bool) (l : List GP) (q : GP) (E : List GP) : List GP × List (Int × GP) := match b with
 | true => advG (E.map ke).length (l ++ [q]) (E.map ke)
 | false => (l, E.map ke)
theorem advR_t (l : List GP) (q : GP) (E : List GP) : advR true l q E = advG (E.map ke).length (l ++ [q]) (E.map ke) := rfl
theorem advR_f (l : List GP) (q : GP) (E : List GP) : advR false l q E = (l, E.map ke) := rfl
def RRecvG (W : World) (bb : Nat) (tn : Int) (vl vE : Value) (l E : List GP) (mo : MOd) (al : List (Int × Int)) (e : Ending) (w' : World) : Prop :=
 ∃ vl' vE' ob l' E', (l', E'.map ke) = advG (putG l (E.map ke) mo.sq ⟨mo.o, al⟩).length l (putG l (E.map ke) mo.sq ⟨mo.o, al⟩) ∧ e = .returned (.slice (some ⟨ob, 0, none⟩) 1 1) ∧ Blk w' ob 32 (msgA 2 tn (l'.length : Int) 0 0 0 0 0 0 0).toList ∧ W.heap.size ≤ ob ∧ RbG w' bb tn vl' vE' l' E' ∧ Fr (SaS bb vl vE) W w' ∧ (∀ c, SaS bb vl' vE' c → SaS bb vl vE c ∨ W.heap.size ≤ c) ∧ ¬ SaS bb vl' vE' ob
theorem refRecv_no (W : World) (bb : Nat) (tn : Int) (vl vE : Value) (l E : List GP) (mo : MOd) (al : List (Int × Int)) (h : RbG W bb tn vl vE l E) (hlE : l.length + E.length ≤ 800) (hna : al.length = mo.o.an) (hlm : mo.o.an ≤ 1000000) (hr : RdA W mo.o.ao al) (hts : mo.o.txt.size ≤ maxLen) (hbad : okM mo al = false ∨ (okM mo al = true ∧ (mo.kd ≠ 1 ∨ (mo.kd = 1 ∧ mo.tn ≠ tn)))) :
  Calls Tryz.prog 84 #[.pointer (some ⟨bb, 0, none⟩), .agg mo.l.toArray] W fun e w' => e = .returned (.slice none 0 0) ∧ Below W.heap.size W w' := by
 obtain ⟨N, hN⟩ : ∃ N, W.heap.size = N := ⟨_, rfl⟩
 obtain ⟨n, hn⟩ : ∃ n, l.length = n := ⟨_, rfl⟩
 obtain ⟨nE, hnE⟩ : ∃ nE, E.length = nE := ⟨_, rfl⟩
 obtain ⟨oL, cL, rfl⟩ := own_slice h.ownl
 obtain ⟨oE, cE, rfl⟩ := own_slice h.ownE
 rw [hn, hnE] at h
 obtain ⟨w1, hw1⟩ : ∃ w1, W.alloc (.cells (aM mo) 32) = w1 := ⟨_, rfl⟩
 have hb1 : Below N W w1 := by rw [← hw1, ← hN]; exact (Below.refl _ W).alloc (Nat.le_refl _) _
 have hk1 : Blk w1 N 32 mo.l := by rw [← hw1, ← hN]; exact Blk.new W _ mo.l
 have hs1 := h.below (by rw [hN]; exact hb1)
 have HSM := szM
 have HSZ := szO
 have HR1 := Lib.hid hk1.range;have HK1 := Lib.hid hk1;have HS1 := Lib.hid hs1;have HN := Lib.hid hN;have HB1 := Lib.hid hb1
 have HVL := Lib.hid (gRef20 mo al w1 hna hlm (hr.kept (hN ▸ hb1)) hts)
 have HLN := Lib.hid hn;have HLE := Lib.hid hnE
 have HNB : Hid (bb < N) := (by rw [← hN]; exact h.blk.lt : bb < N)
 have HLT : Hid (∀ c, SaS bb (.slice oL n cL) (.slice oE nE cE) c → c < N) := fun c e => by rw [← hN]; exact h.lt c e
 rcases hbad with hv | ⟨hv, hb | ⟨hkd, hb⟩⟩
 ·rw [hv] at HVL
  clear hv
  show Calls Tryz.prog 84 #[.pointer (some ⟨bb, 0, none⟩), .agg (aM mo)] W _
  clear hb1 hk1 hs1 h hr hn hnE
  go_enter Tryz.func84, Tryz.ntmps84
  go_wp2_with (refine wpList_load_mid rfl 32 (.tmp 3) rfl N 0 rfl mo.l _ HR1.out Tryz.underlying32 rfl HSM.out ?_)
  refine HVL.out.mono ?_
  rintro e w2 ⟨rfl, hb2⟩
  have HS2 := Lib.hid (HS1.out.below hb2)
  have HK2 := Lib.hid (HK1.out.kept (hb2.block N HK1.out.lt))
  have HB2 : Hid (Below N W w2) := HB1.out.trans (hb2.mono (bnl9 HN.out HB1.out))
  have d0 : w2.cell? ⟨N, 0, none⟩ = some (.int .i64 mo.kd) := HK2.out.cell 0
  have d1 : w2.cell? ⟨N, 1, none⟩ = some (.int .i64 mo.tn) := HK2.out.cell 1
  have c0 := HS2.out.blk.cell 0
  simp only [gz, gs] at c0
  clear hb2 HVL HS1 HK1 HR1 HB1 hN hw1
  go_upto_region 2 with (fail)
  refine wp_region_held_drew (S := fun W => W.cell? ⟨N, 0, none⟩ = some (.int .i64 mo.kd) ∧ W.cell? ⟨N, 1, none⟩ = some (.int .i64 mo.tn) ∧ W.cell? ⟨bb, 0, none⟩ = some (.int .i64 tn)) (by kernel_rfl) ?_ (fun hHeld => ?_)
  ·exact ⟨d0, d1, c0⟩
  refine tk 0 (some 12) ?_;refine tk 1 (some 13) ?_;refine tk 2 (some 14) ?_;refine tkU 3 (some 15) ?_;refine tkU 4 (some 16) ?_;refine tkU 5 (some 17) ?_;refine tk 6 (some 18) ?_;refine tk 7 (some 19) ?_;refine tkU 8 (some 20) ?_;refine tkU 9 (some 21) ?_;refine tkU 10 (some 22) ?_
  refine tkU 11 (some 23) ?_;refine tkU 12 (some 24) ?_;refine tkU 13 (some 25) ?_;refine tkU 14 (some 26) ?_;refine tk 15 (some 27) ?_;refine wpAnyH_done (by kernel_rfl) ?_ _;clear hHeld
  go_wp2_with fail
  go_ret
  exact ⟨rfl, by rw [HN.out]; exact HB2.out.drew⟩
 ·rw [hv] at HVL
  clear hv
  have g1 : (mo.kd != 1) = true := by simpa using hb
  clear hb
  show Calls Tryz.prog 84 #[.pointer (some ⟨bb, 0, none⟩), .agg (aM mo)] W _
  clear hb1 hk1 hs1 h hr hn hnE
  go_enter Tryz.func84, Tryz.ntmps84
  go_wp2_with (refine wpList_load_mid rfl 32 (.tmp 3) rfl N 0 rfl mo.l _ HR1.out Tryz.underlying32 rfl HSM.out ?_)
  refine HVL.out.mono ?_
  rintro e w2 ⟨rfl, hb2⟩
  have HS2 := Lib.hid (HS1.out.below hb2)
  have HK2 := Lib.hid (HK1.out.kept (hb2.block N HK1.out.lt))
  have HB2 : Hid (Below N W w2) := HB1.out.trans (hb2.mono (bnl9 HN.out HB1.out))
  have d0 : w2.cell? ⟨N, 0, none⟩ = some (.int .i64 mo.kd) := HK2.out.cell 0
  have d1 : w2.cell? ⟨N, 1, none⟩ = some (.int .i64 mo.tn) := HK2.out.cell 1
  have c0 := HS2.out.blk.cell 0
  simp only [gz, gs] at c0
  clear hb2 HVL HS1 HK1 HR1 HB1 hN hw1
  go_upto_region 2 with (fail)
  refine wp_region_held_drew (S := fun W => W.cell? ⟨N, 0, none⟩ = some (.int .i64 mo.kd) ∧ W.cell? ⟨N, 1, none⟩ = some (.int .i64 mo.tn) ∧ W.cell? ⟨bb, 0, none⟩ = some (.int .i64 tn)) (by kernel_rfl) ?_ (fun hHeld => ?_)
  ·exact ⟨d0, d1, c0⟩
  refine tk 0 (some 12) ?_;refine tk 1 (some 13) ?_;refine tk 2 (some 14) ?_;refine tk 3 (some 15) ?_;refine tk 4 (some 16) ?_
  refine tk 5 (some 17) (v := .bool true) ?_ (hy := by (intro w hSw; (try dsimp only at hSw); go_simp; (first | done | (with_reducible rfl) | exact g1 | simpa using g1)))
  refine tk 6 (some 18) ?_;refine tk 7 (some 19) ?_;refine tkU 8 (some 20) ?_;refine tkU 9 (some 21) ?_;refine tkU 10 (some 22) ?_;refine tkU 11 (some 23) ?_;refine tkU 12 (some 24) ?_;refine tkU 13 (some 25) ?_;refine tkU 14 (some 26) ?_;refine tk 15 (some 27) ?_
  refine wpAnyH_done (by kernel_rfl) ?_ _;clear hHeld
  go_wp2_with fail
  go_ret
  exact ⟨rfl, by rw [HN.out]; exact HB2.out.drew⟩
 ·rw [hv] at HVL
  clear hv
  have g1 : (mo.kd != 1) = false := by simpa using hkd
  have g2 : (mo.tn != tn) = true := by simpa using hb
  clear hb hkd
  show Calls Tryz.prog 84 #[.pointer (some ⟨bb, 0, none⟩), .agg (aM mo)] W _
  clear hb1 hk1 hs1 h hr hn hnE
  go_enter Tryz.func84, Tryz.ntmps84
  go_wp2_with (refine wpList_load_mid rfl 32 (.tmp 3) rfl N 0 rfl mo.l _ HR1.out Tryz.underlying32 rfl HSM.out ?_)
  refine HVL.out.mono ?_
  rintro e w2 ⟨rfl, hb2⟩
  have HS2 := Lib.hid (HS1.out.below hb2)
  have HK2 := Lib.hid (HK1.out.kept (hb2.block N HK1.out.lt))
  have HB2 : Hid (Below N W w2) := HB1.out.trans (hb2.mono (bnl9 HN.out HB1.out))
  have d0 : w2.cell? ⟨N, 0, none⟩ = some (.int .i64 mo.kd) := HK2.out.cell 0
  have d1 : w2.cell? ⟨N, 1, none⟩ = some (.int .i64 mo.tn) := HK2.out.cell 1
  have c0 := HS2.out.blk.cell 0
  simp only [gz, gs] at c0
  clear hb2 HVL HS1 HK1 HR1 HB1 hN hw1
  go_upto_region 2 with (fail)
  refine wp_region_held_drew (S := fun W => W.cell? ⟨N, 0, none⟩ = some (.int .i64 mo.kd) ∧ W.cell? ⟨N, 1, none⟩ = some (.int .i64 mo.tn) ∧ W.cell? ⟨bb, 0, none⟩ = some (.int .i64 tn)) (by kernel_rfl) ?_ (fun hHeld => ?_)
  ·exact ⟨d0, d1, c0⟩
  refine tk 0 (some 12) ?_;refine tk 1 (some 13) ?_;refine tk 2 (some 14) ?_;refine tk 3 (some 15) ?_;refine tk 4 (some 16) ?_
  refine tk 5 (some 17) (v := .bool false) ?_ (hy := by (intro w hSw; (try dsimp only at hSw); go_simp; (first | done | (with_reducible rfl) | exact g1 | simpa using g1)))
  refine tk 6 (some 18) ?_;refine tk 7 (some 19) ?_;refine tk 8 (some 20) ?_;refine tk 9 (some 21) ?_;refine tk 10 (some 22) ?_;refine tk 11 (some 23) ?_;refine tk 12 (some 24) ?_;refine tk 13 (some 25) ?_
  refine tk 14 (some 26) (v := .bool true) ?_ (hy := by (intro w hSw; (try dsimp only at hSw); go_simp; (first | done | (with_reducible rfl) | exact g2 | simpa using g2)))
  refine tk 15 (some 27) ?_;refine wpAnyH_done (by kernel_rfl) ?_ _;clear hHeld
  go_wp2_with fail
  go_ret
  exact ⟨rfl, by rw [HN.out]; exact HB2.out.drew⟩
theorem refRecv_any (W : World) (bb : Nat) (tn : Int) (vl vE : Value) (l E : List GP) (mo : MOd) (al : List (Int × Int)) (h : RbG W bb tn vl vE l E) (hlE : l.length + E.length ≤ 800) (hna : al.length = mo.o.an) (hlm : mo.o.an ≤ 1000000) (hr : RdA W mo.o.ao al) (hts : mo.o.txt.size ≤ maxLen) (hv : okM mo al = true) (hkd : mo.kd = 1) (htn : mo.tn = tn) (hfa : al ≠ [] → ∀ a, mo.o.ao = some a → ¬ SaS bb vl vE a.block) :
  Calls Tryz.prog 84 #[.pointer (some ⟨bb, 0, none⟩), .agg mo.l.toArray] W (RRecvG W bb tn vl vE l E mo al) := by
 have hq0 : AtA W (SaS bb vl vE) ⟨mo.o, al⟩ := ⟨hna, hlm, hr, hfa⟩
 have HOS := Lib.hid (okM_oq hv hkd).1
 obtain ⟨N, hN⟩ : ∃ N, W.heap.size = N := ⟨_, rfl⟩
 obtain ⟨n, hn⟩ : ∃ n, l.length = n := ⟨_, rfl⟩
 obtain ⟨nE, hnE⟩ : ∃ nE, E.length = nE := ⟨_, rfl⟩
 obtain ⟨oL, cL, rfl⟩ := own_slice h.ownl
 obtain ⟨oE, cE, rfl⟩ := own_slice h.ownE
 rw [hn, hnE] at h
 obtain ⟨w1, hw1⟩ : ∃ w1, W.alloc (.cells (aM mo) 32) = w1 := ⟨_, rfl⟩
 have hb1 : Below N W w1 := by rw [← hw1, ← hN]; exact (Below.refl _ W).alloc (Nat.le_refl _) _
 have hk1 : Blk w1 N 32 mo.l := by rw [← hw1, ← hN]; exact Blk.new W _ mo.l
 have hs1 := h.below (by rw [hN]; exact hb1)
 have HSM := szM
 have HSZ := szO
 have HR1 := Lib.hid hk1.range;have HK1 := Lib.hid hk1;have HS1 := Lib.hid hs1;have HN := Lib.hid hN;have HB1 := Lib.hid hb1
 have HVL := Lib.hid (gRef20 mo al w1 hna hlm (hr.kept (hN ▸ hb1)) hts)
 have HLN := Lib.hid hn;have HLE := Lib.hid hnE
 have HNB : Hid (bb < N) := (by rw [← hN]; exact h.blk.lt : bb < N)
 have HLT : Hid (∀ c, SaS bb (.slice oL n cL) (.slice oE nE cE) c → c < N) := fun c e => by rw [← hN]; exact h.lt c e
 rw [hn, hnE];rw [hn, hnE] at hlE;rw [hn, hnE] at hq0;have HQ0 := Lib.hid hq0
 have g1 : (mo.kd != 1) = false := by simpa using hkd
 have g2 : (mo.tn != tn) = false := by simpa using htn
 rw [hv] at HVL;clear hkd htn hv hq0 hfa
 show Calls Tryz.prog 84 #[.pointer (some ⟨bb, 0, none⟩), .agg (aM mo)] W _
 clear hb1 hk1 hs1 h hr hn hnE
 go_enter Tryz.func84, Tryz.ntmps84
 go_wp2_with (refine wpList_load_mid rfl 32 (.tmp 3) rfl N 0 rfl mo.l _ HR1.out Tryz.underlying32 rfl HSM.out ?_)
 refine HVL.out.mono ?_
 rintro e w2 ⟨rfl, hb2⟩
 have HS2 := Lib.hid (HS1.out.below hb2)
 have HK2 := Lib.hid (HK1.out.kept (hb2.block N HK1.out.lt))
 have HB2 : Hid (Below N W w2) := HB1.out.trans (hb2.mono (bnl9 HN.out HB1.out))
 have d0 : w2.cell? ⟨N, 0, none⟩ = some (.int .i64 mo.kd) := HK2.out.cell 0
 have d1 : w2.cell? ⟨N, 1, none⟩ = some (.int .i64 mo.tn) := HK2.out.cell 1
 have c0 := HS2.out.blk.cell 0
 simp only [gz, gs] at c0
 clear hb2 HVL HS1 HK1 HR1 HB1 hN hw1
 go_upto_region 2 with (fail)
 refine wp_region_held_drew (S := fun W => W.cell? ⟨N, 0, none⟩ = some (.int .i64 mo.kd) ∧ W.cell? ⟨N, 1, none⟩ = some (.int .i64 mo.tn) ∧ W.cell? ⟨bb, 0, none⟩ = some (.int .i64 tn)) (by kernel_rfl) ?_ (fun hHeld => ?_)
 ·exact ⟨d0, d1, c0⟩
 refine tk 0 (some 12) ?_;refine tk 1 (some 13) ?_;refine tk 2 (some 14) ?_;refine tk 3 (some 15) ?_;refine tk 4 (some 16) ?_
 refine tk 5 (some 17) (v := .bool false) ?_ (hy := by (intro w hSw; (try dsimp only at hSw); go_simp; (first | done | (with_reducible rfl) | exact g1 | simpa using g1)))
 refine tk 6 (some 18) ?_;refine tk 7 (some 19) ?_;refine tk 8 (some 20) ?_;refine tk 9 (some 21) ?_;refine tk 10 (some 22) ?_;refine tk 11 (some 23) ?_;refine tk 12 (some 24) ?_;refine tk 13 (some 25) ?_
 refine tk 14 (some 26) (v := .bool false) ?_ (hy := by (intro w hSw; (try dsimp only at hSw); go_simp; (first | done | (with_reducible rfl) | exact g2 | simpa using g2)))
 refine tk 15 (some 27) ?_;refine wpAnyH_done (by kernel_rfl) ?_ _;clear hHeld
 have HK3 := Lib.hid (HK2.out.drew)
 have HS3 := Lib.hid (HS2.out.below (Below.refl _ _).drew)
 have HB3 : Hid (Below N W w2.drew) := HB2.out.drew
 clear HK2 HS2 HB2 d0 d1 c0 g1 g2;generalize w2.drew = w3 at HK3 HS3 HB3 ⊢
 have d2 : w3.cell? ⟨N, 2, none⟩ = some (.int .i64 mo.sq) := HK3.out.cell 2
 have c1 := HS3.out.blk.cell 1
 simp only [gz, gs] at c1
 go_upto_region 4 with (fail)
 refine wp_region_held_drew (S := fun W => W.cell? ⟨N, 2, none⟩ = some (.int .i64 mo.sq) ∧ W.cell? ⟨bb, 1, none⟩ = some (.slice oL n cL)) (by kernel_rfl) ?_ (fun hHeld => ?_)
 ·exact ⟨d2, c1⟩
 refine tk 0 (some 28) ?_;refine tk 1 (some 29) ?_;refine tk 2 (some 30) ?_;refine tk 3 (some 31) ?_;refine tk 4 (some 32) ?_;refine tk 5 (some 33) ?_;refine tk 6 (some 34) ?_;refine tk 7 (some 35) ?_;refine tk 8 (some 6) ?_;refine wpAnyH_done (by kernel_rfl) ?_ _;clear hHeld
 have HK4 := Lib.hid (HK3.out.drew)
 have HS4 := Lib.hid (HS3.out.below (Below.refl _ _).drew)
 have HB4 : Hid (Below N W w3.drew) := HB3.out.drew
 clear HK3 HS3 HB3 d2 c1;generalize w3.drew = w4 at HK4 HS4 HB4 ⊢
 go_wp2_with fail
 have HK0 := Lib.hid (knB_zero mo.sq n E)
 go_loopw [6, 7] (fun vk vi wr => ∃ (i : Nat) (b : Bool), i ≤ nE ∧ vk = .bool b ∧ vi = .int .i64 i ∧ Hid (b = knB mo.sq n E i) ∧ Hid (Blk wr N 32 mo.l) ∧ Hid (RbG wr bb tn (.slice oL n cL) (.slice oE nE cE) l E) ∧ Hid (Below N W wr)) (fun _ v _ => nE - (intOf v).toNat)
 case atStart => exact ⟨0, _, Nat.zero_le _, rfl, rfl, HK0, HK4, HS4, HB4⟩
 case round =>
  clear HK4 HS4 HB4 HK0
  obtain ⟨i, b, hi, rfl, rfl, HKB, HK4, HS4, HB4⟩ := hrel
  have c2 := HS4.out.blk.cell 2
  simp only [gz, gs] at c2
  by_cases h : i < nE
  ·have q1 : (i : Int) < (nE : Int) := by omega
   have q2 : (0 : Int) ≤ (i : Int) := by omega
   have hni : IntKind.i64.wrap ((i : Int) + 1) = (i : Int) + 1 := IntWalk.i64_in _ (by omega)
   obtain ⟨p, hp⟩ : ∃ p, E[i]? = some p := ⟨E[i]'(by rw [HLE.out]; omega), List.getElem?_eq_getElem _⟩
   obtain ⟨b', o', e2, hbl, hrg⟩ := HS4.out.rdE.at i p hp
   subst e2
   have x0 : wr.cell? ⟨b', o' + i * 26, none⟩ = some (.int .i64 p.o.s) := hrg 0 _ rfl
   have d2 : wr.cell? ⟨N, 2, none⟩ = some (.int .i64 mo.sq) := HK4.out.cell 2
   obtain ⟨ps, hps⟩ : ∃ ps, p.o.s = ps := ⟨_, rfl⟩
   have HNX : Hid (knB mo.sq n E (i + 1) = (knB mo.sq n E i || ps == mo.sq)) := (by rw [← hps]; exact knB_succ mo.sq n E i p hp : knB mo.sq n E (i + 1) = (knB mo.sq n E i || ps == mo.sq))
   rw [hps] at x0;clear hp hps hrg hbl
   cases b with
   | true =>
    go_upto_region 8 with (fail)
    refine wp_region_held_drew (S := fun W => W.cell? ⟨N, 2, none⟩ = some (.int .i64 mo.sq) ∧ W.cell? ⟨bb, 2, none⟩ = some (.slice (some ⟨b', o', none⟩) nE cE) ∧ W.cell? ⟨b', o' + i * 26, none⟩ = some (.int .i64 ps)) (by kernel_rfl) ?_ (fun hHeld => ?_)
    ·exact ⟨d2, c2, x0⟩
    refine tk 0 (some 45) ?_;refine tk 1 (some 46) ?_;refine tkU 2 (some 47) ?_;refine tkU 3 (some 48) ?_;refine tkU 4 (some 49) ?_;refine tkU 5 (some 50) ?_;refine tkU 6 (some 51) ?_;refine tkU 7 (some 52) ?_;refine tkU 8 (some 53) ?_;refine tkU 9 (some 54) ?_;refine tkU 10 (some 55) ?_
    refine tkU 11 (some 56) ?_;refine tkU 12 (some 57) ?_;refine tk 13 (some 58) ?_;refine tk 14 (some 6) ?_;refine wpAnyH_done (by kernel_rfl) ?_ _;clear hHeld
    have HK5 := Lib.hid (HK4.out.drew)
    have HS5 := Lib.hid (HS4.out.below (Below.refl _ _).drew)
    have HB5 : Hid (Below N W wr.drew) := HB4.out.drew
    generalize wr.drew = w5 at HK5 HS5 HB5 ⊢
    go_wp2_with fail
    go_roundw
    case rel => exact ⟨i + 1, _, by omega, rfl, by go_num, by first | (rw [HNX.out, ← HKB.out]; rfl) | (show _ = _; rw [HNX.out, ← HKB.out]; simp), HK5, HS5, HB5⟩
    case measure => simp [intOf]; omega
   | false =>
    go_upto_region 8 with (fail)
    refine wp_region_held_drew (S := fun W => W.cell? ⟨N, 2, none⟩ = some (.int .i64 mo.sq) ∧ W.cell? ⟨bb, 2, none⟩ = some (.slice (some ⟨b', o', none⟩) nE cE) ∧ W.cell? ⟨b', o' + i * 26, none⟩ = some (.int .i64 ps)) (by kernel_rfl) ?_ (fun hHeld => ?_)
    ·exact ⟨d2, c2, x0⟩
    refine tk 0 (some 45) ?_;refine tk 1 (some 46) ?_;refine tk 2 (some 47) ?_;refine tk 3 (some 48) ?_;refine tk 4 (some 49) ?_;refine tk 5 (some 50) ?_;refine tk 6 (some 51) ?_;refine tk 7 (some 52) ?_;refine tk 8 (some 53) ?_;refine tk 9 (some 54) ?_;refine tk 10 (some 55) ?_
    refine tk 11 (some 56) ?_;refine tk 12 (some 57) ?_;refine tk 13 (some 58) ?_;refine tk 14 (some 6) ?_;refine wpAnyH_done (by kernel_rfl) ?_ _;clear hHeld
    have HK5 := Lib.hid (HK4.out.drew)
    have HS5 := Lib.hid (HS4.out.below (Below.refl _ _).drew)
    have HB5 : Hid (Below N W wr.drew) := HB4.out.drew
    generalize wr.drew = w5 at HK5 HS5 HB5 ⊢
    go_wp2_with fail
    go_roundw
    case rel => exact ⟨i + 1, _, by omega, rfl, by go_num, by first | (rw [HNX.out, ← HKB.out]; rfl) | (show _ = _; rw [HNX.out, ← HKB.out]; simp), HK5, HS5, HB5⟩
    case measure => simp [intOf]; omega
  ·have e : i = nE := by omega
   subst e
   have q1 : ¬ (i : Int) < (i : Int) := by omega
   clear h
   have HKB : Hid (b = knB mo.sq n E E.length) := (by rw [HLE.out]; exact HKB.out : b = knB mo.sq n E E.length)
   go_upto_if 60 with (fail)
   go_cut [] from 61 to 72 (fun wx => ∃ (vE1 : Value) (E1 : List GP), Hid (RbG wx bb tn (.slice oL n cL) vE1 l E1) ∧ Hid (E1.map ke = putG l (E.map ke) mo.sq ⟨mo.o, al⟩) ∧ Hid (Fr (SaS bb (.slice oL n cL) (.slice oE i cE)) W wx) ∧ Hid (∀ c, SaS bb (.slice oL n cL) vE1 c → SaS bb (.slice oL n cL) (.slice oE i cE) c ∨ N ≤ c) ∧ Hid (E1.length ≤ i + 1))
   case first =>
    cases b with
    | true =>
     go_wp2_with fail
     go_meet
     exact ⟨_, E, HS4, (putG_known (by rw [HLN.out]; exact HKB.out.symm)).symm, Fr.under _ (by rw [HN.out]; exact HB4.out), fun c e => .inl e, by show _ ≤ _; rw [HLE.out]; omega⟩
    | false =>
     go_upto_region 10 with (fail)
     have hs5 := HS4.out.below (Below.refl _ _).drew
     have hk5 := HK4.out.drew
     have hb5 : Below N W wr.drew := HB4.out.drew
     refine wp_region_held_drew (S := fun W => W.rangeAt N 5 mo.o.l) (by kernel_rfl) ?_ (fun hHeld => ?_)
     ·exact hk5.part5
     generalize wr.drew = z at hs5 hk5 hb5 hHeld ⊢;have HS5 := Lib.hid hs5;have HK5 := Lib.hid hk5;have HQ5 := Lib.hid hb5;clear hs5 hk5 hb5;refine tk 0 (some 61) ?_;refine tk 1 (some 62) ?_;refine tk 2 (some 63) ?_;refine tk 3 (some 64) ?_;refine tk 5 (some 66) ?_
     refine tkL 6 (some 67) 30 (.tmp 66) N 5 mo.o.l (fun _ h => h) Tryz.underlying30 HSZ.out ?_
     refine wpAnyH_ready (rs := [4, 7]) (by kernel_rfl) (by simp) (AllReadyH.cons (o := ⟨some 65, _, _, _, _, _⟩) rfl (fun K hK => ?_) (AllReadyH.cons (o := ⟨some 68, _, _, _, _, _⟩) rfl (fun K hK => ?_) AllReadyH.nil))
     ·have c2 := HS5.out.blk.cell 2
      simp only [gz, gs] at c2
      go_simp;clear c2
      refine hK.out _ _ ?_ (fun hHeld2 => ?_)
      ·exact HK5.out.part5
      clear hK K hHeld;rename _ => hHeld
      try simp only [Act.put, sa, sz, ss]
      refine rd1 7 (some 68) (fun K hK => ?_)
      try simp only [GOd.l, ClD.l, List.cons_append, List.nil_append]
      go_simp
      have HS8 := HS5
      have HK8 := HK5
      have hb := (Below.refl z.heap.size z).alloc (Nat.le_refl _) (.cells (aO mo.o) 30)
      have HS5 := Lib.hid (HS8.out.below hb)
      have HK5 := Lib.hid (HK8.out.kept (hb.block N HK8.out.lt))
      clear hb
      refine hK.out _ _ ?_ (fun hHeld2 => ?_)
      ·exact HK5.out.part5
      clear hK K hHeld;rename _ => hHeld
      try simp only [Act.put, sa, sz, ss]
      refine rd1 8 (some 69) (fun K hK => ?_)
      obtain ⟨oa, cap, w5, hrun, ho5, hf5, hk5⟩ := app_ord z 0 (.slice oE i cE) i (gCells E) (lO mo.o) (by have := HS8.out.ownE; rw [HLE.out] at this; exact this) (by omega) (Nat.zero_le _) 50 rfl (by simp [Value.oneCell'])
      refine step_run (by rfl) _ _ (by rfl) (by rfl) (by rfl) (fun _ => hrun) ?_
      have HB5 := Lib.hid (HS8.out.blk.kept (hf5.block bb HS8.out.blk.lt (fun e => HS8.out.neE bb e rfl)))
      have HKK := Lib.hid (Blk.kept HK8.out (hf5.block N HK8.out.lt (fun e => by have := HLT.out N (.inr (.inr e)); omega)))
      have HO5 := Lib.hid ho5;have HF5 := Lib.hid hf5;have HG5 := Lib.hid hk5;clear hrun ho5 hf5 hk5
      refine hK.out _ _ ?_ (fun hHeld2 => ?_)
      ·exact HKK.out.part5
      clear hK K hHeld;rename _ => hHeld;refine tk 9 (some 70) ?_;refine tk 10 (some 71) ?_
      refine rd1 11 none (fun K hK => ?_)
      have c2 := HB5.out.cell 2
      have z2 := HB5.out.frozen 2
      simp only [gz, gs] at c2
      go_simp;clear c2 z2
      refine hK.out _ _ ?_ (fun hHeld2 => ?_)
      ·exact (HKK.out.other ⟨bb, 2, none⟩ (show bb ≠ N by have := HNB.out; omega) _).part5
      clear hK K hHeld;rename _ => hHeld
      try simp only [Act.put, sa, sz, ss]
      refine wpAnyH_done (by kernel_rfl) ?_ _;clear hHeld
      have h5 := HO5.out
      have e5 : gCells E ++ (lO mo.o) = gCells (E ++ [⟨mo.o, al⟩]) := by simp [gCells, GOd.l, ClD.l]
      rw [e5] at h5
      have hl5 : (E ++ [(⟨mo.o, al⟩ : GP)]).length = i + 1 := by rw [List.length_append, HLE.out]; rfl
      have hbz : Below W.heap.size W z := by rw [HN.out]; exact HQ5.out
      have hq5 : AtA z (SaS bb (.slice oL n cL) (.slice oE i cE)) ⟨mo.o, al⟩ := HQ0.out.turn (Fr.under (fun _ => False) hbz) (fun _ _ _ e => e) (fun c e => .inl e)
      have hmain := RbG.putE (W1 := w5) (oL := oa) (nL := i + 1) (cL := cap) (E' := E ++ [⟨mo.o, al⟩]) HS8.out (fun p hp => by
       rcases List.mem_append.1 hp with hp | hp
       ·exact HS8.out.alts p (.inr hp)
       ·rw [List.mem_singleton.1 hp]
        exact hq5) (by rw [hl5]; exact h5) HF5.out HG5.out
      have HM1 := Lib.hid hmain.1;have HM2 := Lib.hid hmain.2.1;have HM3 := Lib.hid hmain.2.2;have HBZ := Lib.hid hbz;have HL9 := Lib.hid hl5;clear h5 e5 hl5 hbz hq5 hmain HB5 HKK
      generalize World.setCell _ _ _ = y at HM1 HM2 ⊢
      go_wp2_with fail
      go_meet
      exact ⟨_, E ++ [(⟨mo.o, al⟩ : GP)], HM1, (putG_new (l := l) (E := E) (q := ⟨mo.o, al⟩) (sq := mo.sq) HOS.out (by rw [HLN.out]; exact HKB.out.symm)).symm, (Fr.under _ HBZ.out).trans HM2.out (fun c _ e => e), fun c e => (HM3.out c e).imp_right (fun h => by have := HBZ.out.size; have := HN.out; omega), by show _ ≤ _; rw [HL9.out]; exact Nat.le_refl _⟩
     ·try simp only [GOd.l, ClD.l, List.cons_append, List.nil_append]
      go_simp
      have HS8 := HS5
      have HK8 := HK5
      have hb := (Below.refl z.heap.size z).alloc (Nat.le_refl _) (.cells (aO mo.o) 30)
      have HS5 := Lib.hid (HS8.out.below hb)
      have HK5 := Lib.hid (HK8.out.kept (hb.block N HK8.out.lt))
      clear hb
      refine hK.out _ _ ?_ (fun hHeld2 => ?_)
      ·exact HK5.out.part5
      clear hK K hHeld;rename _ => hHeld
      try simp only [Act.put, sa, sz, ss]
      refine rd1 4 (some 65) (fun K hK => ?_)
      have c2 := HS5.out.blk.cell 2
      simp only [gz, gs] at c2
      go_simp;clear c2
      refine hK.out _ _ ?_ (fun hHeld2 => ?_)
      ·exact HK5.out.part5
      clear hK K hHeld;rename _ => hHeld
      try simp only [Act.put, sa, sz, ss]
      refine rd1 8 (some 69) (fun K hK => ?_)
      obtain ⟨oa, cap, w5, hrun, ho5, hf5, hk5⟩ := app_ord z 0 (.slice oE i cE) i (gCells E) (lO mo.o) (by have := HS8.out.ownE; rw [HLE.out] at this; exact this) (by omega) (Nat.zero_le _) 50 rfl (by simp [Value.oneCell'])
      refine step_run (by rfl) _ _ (by rfl) (by rfl) (by rfl) (fun _ => hrun) ?_
      have HB5 := Lib.hid (HS8.out.blk.kept (hf5.block bb HS8.out.blk.lt (fun e => HS8.out.neE bb e rfl)))
      have HKK := Lib.hid (Blk.kept HK8.out (hf5.block N HK8.out.lt (fun e => by have := HLT.out N (.inr (.inr e)); omega)))
      have HO5 := Lib.hid ho5;have HF5 := Lib.hid hf5;have HG5 := Lib.hid hk5;clear hrun ho5 hf5 hk5
      refine hK.out _ _ ?_ (fun hHeld2 => ?_)
      ·exact HKK.out.part5
      clear hK K hHeld;rename _ => hHeld;refine tk 9 (some 70) ?_;refine tk 10 (some 71) ?_
      refine rd1 11 none (fun K hK => ?_)
      have c2 := HB5.out.cell 2
      have z2 := HB5.out.frozen 2
      simp only [gz, gs] at c2
      go_simp;clear c2 z2
      refine hK.out _ _ ?_ (fun hHeld2 => ?_)
      ·exact (HKK.out.other ⟨bb, 2, none⟩ (show bb ≠ N by have := HNB.out; omega) _).part5
      clear hK K hHeld;rename _ => hHeld
      try simp only [Act.put, sa, sz, ss]
      refine wpAnyH_done (by kernel_rfl) ?_ _;clear hHeld
      have h5 := HO5.out
      have e5 : gCells E ++ (lO mo.o) = gCells (E ++ [⟨mo.o, al⟩]) := by simp [gCells, GOd.l, ClD.l]
      rw [e5] at h5
      have hl5 : (E ++ [(⟨mo.o, al⟩ : GP)]).length = i + 1 := by rw [List.length_append, HLE.out]; rfl
      have hbz : Below W.heap.size W z := by rw [HN.out]; exact HQ5.out
      have hq5 : AtA z (SaS bb (.slice oL n cL) (.slice oE i cE)) ⟨mo.o, al⟩ := HQ0.out.turn (Fr.under (fun _ => False) hbz) (fun _ _ _ e => e) (fun c e => .inl e)
      have hmain := RbG.putE (W1 := w5) (oL := oa) (nL := i + 1) (cL := cap) (E' := E ++ [⟨mo.o, al⟩]) HS8.out (fun p hp => by
       rcases List.mem_append.1 hp with hp | hp
       ·exact HS8.out.alts p (.inr hp)
       ·rw [List.mem_singleton.1 hp]
        exact hq5) (by rw [hl5]; exact h5) HF5.out HG5.out
      have HM1 := Lib.hid hmain.1;have HM2 := Lib.hid hmain.2.1;have HM3 := Lib.hid hmain.2.2;have HBZ := Lib.hid hbz;have HL9 := Lib.hid hl5;clear h5 e5 hl5 hbz hq5 hmain HB5 HKK
      generalize World.setCell _ _ _ = y at HM1 HM2 ⊢
      go_wp2_with fail
      go_meet
      exact ⟨_, E ++ [(⟨mo.o, al⟩ : GP)], HM1, (putG_new (l := l) (E := E) (q := ⟨mo.o, al⟩) (sq := mo.sq) HOS.out (by rw [HLN.out]; exact HKB.out.symm)).symm, (Fr.under _ HBZ.out).trans HM2.out (fun c _ e => e), fun c e => (HM3.out c e).imp_right (fun h => by have := HBZ.out.size; have := HN.out; omega), by show _ ≤ _; rw [HL9.out]; exact Nat.le_refl _⟩
   case rest =>
    obtain ⟨vE1, E1, HS5, HE1, HF5, HN5, HL5⟩ := hcut
    obtain ⟨oF, cF, hvE⟩ := own_slice HS5.out.ownE
    have c1 := HS5.out.blk.cell 1
    simp only [gz, gs] at c1
    have hnn : IntKind.i64.wrap ((n : Int) + 1) = (n : Int) + 1 := IntWalk.i64_in _ (by omega)
    clear hvE
    go_wp2_with fail
    refine (refTake _ bb tn _ vE1 l E1 ((n : Int) + 1) HS5.out (by have := HL5.out; omega)).mono ?_
    rintro e z ⟨ok, q, vE2, E2, rfl, hs6, hf6, hn6, hok, hno⟩
    obtain ⟨Mb, hMb⟩ : ∃ Mb, z.heap.size = Mb := ⟨_, rfl⟩
    have HS6 := Lib.hid hs6
    have HF6 : Hid (Fr (SaS bb (.slice oL n cL) (.slice oE i cE)) W z) := HF5.out.trans hf6 (fun c _ e => .inl e)
    have HN6 : Hid (∀ c, SaS bb (.slice oL n cL) vE2 c → SaS bb (.slice oL n cL) (.slice oE i cE) c ∨ N ≤ c) := fun c e => by
     rcases e with e | e | e
     ·exact HN5.out c (.inl e)
     ·exact HN5.out c (.inr (.inl e))
     ·rcases hn6 c e with e | e
      ·exact HN5.out c (.inr (.inr e))
      ·have := HF5.out.size
       have := HN.out
       exact .inr (by omega)
    have HAD : Hid (advG (E1.map ke).length l (E1.map ke) = advR ok l q E2) := by
     show advG (E1.map ke).length l (E1.map ke) = _
     cases ok with
     | true =>
      obtain ⟨_, j, hj, rfl⟩ := hok rfl
      rw [advR_t, advG_some l (E1.map ke) j q (by rw [HLN.out]; exact hj)]
      have e : (E1.map ke).eraseIdx j = (E1.eraseIdx j).map ke := by
       rw [List.eraseIdx_eq_take_drop_succ, List.eraseIdx_eq_take_drop_succ, List.map_append, List.map_take, List.map_drop]
      rw [e]
     | false =>
      obtain ⟨hj, rfl⟩ := hno rfl
      rw [advR_f, advG_none l (E2.map ke) _ (by rw [HLN.out]; exact hj)]
    have HAT : Hid (ok = true → AtA z (SaS bb (.slice oL n cL) vE2) q) := fun e => (hok e).1
    have HL6 : Hid (E2.length ≤ E1.length) := by
     show E2.length ≤ E1.length
     cases ok with
     | true =>
      obtain ⟨_, j, hj, rfl⟩ := hok rfl
      exact List.length_eraseIdx_le _ _
     | false =>
      obtain ⟨hj, rfl⟩ := hno rfl
      exact Nat.le_refl _
    have HMb := Lib.hid hMb
    obtain ⟨z1, hz1⟩ : ∃ z1, z.alloc (.cells aZo 30) = z1 := ⟨_, rfl⟩
    have hb61 : Below Mb z z1 := by rw [← hz1, ← hMb]; exact (Below.refl _ z).alloc (Nat.le_refl _) _
    have hkz : Blk z1 Mb 30 (ordA 0 0 0 0 0).toList := by rw [← hz1, ← hMb]; exact Blk.new z _ _
    obtain ⟨z2, hz2⟩ : ∃ z2, z1.setRow Mb q.o.l.toArray = z2 := ⟨_, rfl⟩
    have hb62 : Below Mb z z2 := by rw [← hz2]; exact below_setRow hb61 (Nat.le_refl _) _
    have hk62 : Blk z2 Mb 30 q.o.l := by rw [← hz2]; exact hkz.setRow q.o.l
    have HKZ := Lib.hid hkz;have HZ2 := Lib.hid hz2
    have HO1 : Hid (q.o.l.toArray.all (·.oneCell') = true) := q.o.oneC
    have HO2 : Hid ((ordA 0 0 0 0 0).toList.toArray.size = q.o.l.toArray.size) := rfl
    have HS7 : Hid (RbG z2 bb tn (.slice oL n cL) vE2 l E2) := HS6.out.below (by rw [hMb]; exact hb62)
    have HF7 : Hid (Fr (SaS bb (.slice oL n cL) (.slice oE i cE)) W z2) := HF6.out.trans (Fr.under (fun _ => False) (by rw [hMb]; exact hb62)) (fun _ _ e => e.elim)
    have HK7 := Lib.hid hk62
    have HAT7 : Hid (ok = true → AtA z2 (SaS bb (.slice oL n cL) vE2) q) := fun e => (HAT.out e).turn (Fr.under (fun _ => False) (by rw [hMb]; exact hb62)) (fun _ _ _ e => e) (fun c e => .inl e)
    have HNM : Hid (bb ≠ Mb ∧ N ≤ Mb) := (⟨by have := HS6.out.blk.lt; omega, by have := HF6.out.size; have := HN.out; omega⟩ : bb ≠ Mb ∧ N ≤ Mb)
    have HNS : Hid (∀ c, SaS bb (.slice oL n cL) vE2 c → c ≠ Mb) := fun c e => by have := HS6.out.lt c e; omega
    have HALM : Hid (∀ p, p ∈ l ∨ p ∈ E2 → p.al ≠ [] → ∀ a, p.o.ao = some a → a.block ≠ Mb) := fun p hp hne a ha => by have := (HS6.out.alts p hp).rd.lt hne a ha; omega
    have HALQ : Hid (ok = true → q.al ≠ [] → ∀ a, q.o.ao = some a → a.block ≠ Mb) := fun e hne a ha => by have := (HAT.out e).rd.lt hne a ha; omega
    clear hs6 hf6 hn6 hok hno hb61 hkz hz2 hb62 hk62 HS6 HF6 HAT c1
    go_wp2_with (refine wpList_store_row rfl 30 (.tmp 8) (.tmp 81) rfl Mb q.o.l.toArray rfl rfl 30 _ HKZ.out HSZ.out HO2.out HO1.out ?_; rw [HZ2.out])
    clear hMb hz1
    have HEQ : Hid (advG (putG l (E.map ke) mo.sq ⟨mo.o, al⟩).length l (putG l (E.map ke) mo.sq ⟨mo.o, al⟩) = advR ok l q E2) := by
     show advG _ _ _ = _
     rw [← HE1.out];exact HAD.out
    have HLQ : Hid (l.length + E2.length ≤ 801) := (by have := HL5.out; have := HL6.out; have := HLN.out; have := HLE.out; omega : l.length + E2.length ≤ 801)
    have HSL : Hid (l.length = n) := HLN.out
    have HLS : Hid (l.length + E2.length + okN (.bool ok) ≤ 802) := (by
     have := HLQ.out
     have h9 : okN (.bool ok) ≤ 1 := by cases ok <;> decide
     omega : l.length + E2.length + okN (.bool ok) ≤ 802)
    clear HAD HE1
    go_loopw [9] (fun v wr => ∃ (b : Bool) (q1 : GP) (oa : Option Addr) (k ca : Nat) (vE3 : Value) (l3 E3 : List GP), v = .bool b ∧ Hid (RbG wr bb tn (.slice oa k ca) vE3 l3 E3) ∧ Hid (l3.length = k) ∧ Hid (Blk wr Mb 30 q1.o.l) ∧ Hid (advG (putG l (E.map ke) mo.sq ⟨mo.o, al⟩).length l (putG l (E.map ke) mo.sq ⟨mo.o, al⟩) = advR b l3 q1 E3) ∧ Hid (b = true → AtA wr (SaS bb (.slice oa k ca) vE3) q1) ∧ Hid (l3.length + E3.length + okN v ≤ 802) ∧ Hid (Fr (SaS bb (.slice oL n cL) (.slice oE i cE)) W wr) ∧ Hid (∀ c, SaS bb (.slice oa k ca) vE3 c → SaS bb (.slice oL n cL) (.slice oE i cE) c ∨ N ≤ c) ∧ Hid (∀ c, SaS bb (.slice oa k ca) vE3 c → c ≠ Mb) ∧ Hid (∀ p, p ∈ l3 ∨ p ∈ E3 → p.al ≠ [] → ∀ a, p.o.ao = some a → a.block ≠ Mb) ∧ Hid (b = true → q1.al ≠ [] → ∀ a, q1.o.ao = some a → a.block ≠ Mb)) (fun v wr => earlyN wr bb + okN v)
    case atStart => exact ⟨ok, q, oL, n, cL, vE2, l, E2, rfl, HS7, HSL, HK7, HEQ, HAT7, HLS, HF7, HN6, HNS, HALM, HALQ⟩
    case round =>
     clear HS7 HK7 HEQ HAT7 HF7 HN6 HNS HL6 HLQ HSL HS4 HK4 HB4 HALM HALQ
     obtain ⟨b, q1, oa, k, ca, vE3, l3, E3, rfl, HS, HKL, HK, HEQ, HAT, HLQ, HF, HNW, HNM2, HALM, HALQ⟩ := hrel
     cases b with
     | false =>
      have c0 := HS.out.blk.cell 0
      have c1 := HS.out.blk.cell 1
      simp only [gz, gs] at c0 c1
      go_upto_region 15 with (fail)
      refine wp_region_held_drew (S := fun W => W.cell? ⟨bb, 0, none⟩ = some (.int .i64 tn) ∧ W.cell? ⟨bb, 1, none⟩ = some (.slice oa k ca)) (by kernel_rfl) ?_ (fun hHeld => ?_)
      ·exact ⟨c0, c1⟩
      have hs5 := HS.out.below (Below.refl _ _).drew
      have hf5 : Fr (SaS bb (.slice oL n cL) (.slice oE i cE)) W wr.drew := HF.out.drew
      generalize wr.drew = z at hs5 hf5 hHeld ⊢;have HS5 := Lib.hid hs5;have HF5 := Lib.hid hf5;clear hs5 hf5;refine tk 0 (some 105) ?_;refine tk 1 (some 106) ?_;refine tk 2 (some 107) ?_;refine tk 3 (some 108) ?_;refine tk 4 (some 109) ?_;refine tk 5 (some 110) ?_;refine tk 6 (some 111) ?_
      refine tk 7 (some 112) ?_;refine tk 8 (some 113) ?_;refine tk 9 (some 114) ?_
      refine rd1 10 (some 115) (fun K hK => ?_)
      go_simp
      have hbz := (Below.refl z.heap.size z).alloc (Nat.le_refl _) (.cells (aA tn (k : Int)) 32)
      have HKZ := Lib.hid (Blk.new z 32 (lA tn (k : Int)))
      have HBZ := Lib.hid hbz;clear hbz
      refine hK.out _ _ ?_ (fun hHeld2 => ?_)
      ·exact ⟨(HS5.out.below HBZ.out).blk.cell 0, (HS5.out.below HBZ.out).blk.cell 1⟩
      clear hK K hHeld;rename _ => hHeld;refine tk 11 (some 4) ?_;refine wpAnyH_done (by kernel_rfl) ?_ _;clear hHeld;have HBZ2 := Lib.hid HBZ.out
      go_wp2_with fail
      go_ret
      have hz9 := HF5.out.size
      have hnn9 := HN.out
      have heq : (l3, E3.map ke) = advG (putG l (E.map ke) mo.sq ⟨mo.o, al⟩).length l (putG l (E.map ke) mo.sq ⟨mo.o, al⟩) := by rw [HEQ.out, advR_f]
      refine ⟨.slice oa k ca, vE3, z.heap.size, l3, E3, heq, rfl, by rw [HKL.out]; exact HKZ.out, by omega, HS5.out.below HBZ.out, HF5.out.trans (Fr.under (fun _ => False) HBZ.out) (fun _ _ e => e.elim), fun c e => (HNW.out c e).imp_right (fun h => by omega), fun e => by have := HS5.out.lt _ e; omega⟩
     | true =>
      go_upto_region 13 with (fail)
      have HL8 : Hid ((l3 ++ [q1]).length = k + 1) := (by rw [List.length_append, HKL.out]; rfl : (l3 ++ [q1]).length = k + 1)
      have HA8 : Hid (∀ p, p ∈ l3 ++ [q1] ∨ p ∈ E3 → p.al ≠ [] → ∀ a, p.o.ao = some a → a.block ≠ Mb) := fun p hp hne a ha e => by
       rcases hp with hp | hp
       ·rcases List.mem_append.1 hp with hp | hp
        ·exact HALM.out p (.inl hp) hne a ha e
        ·rw [List.mem_singleton.1 hp] at hne ha
         exact HALQ.out rfl hne a ha e
       ·exact HALM.out p (.inr hp) hne a ha e
      have HERL : Hid (earlyN wr bb = E3.length) := HS.out.earlyN
      go_cut [] from 84 to 94 (fun wx => ∃ (ob : Option Addr) (cap : Nat), Hid (RbG wx bb tn (.slice ob (k + 1) cap) vE3 (l3 ++ [q1]) E3) ∧ Hid (Fr (SaS bb (.slice oL n cL) (.slice oE i cE)) W wx) ∧ Hid (Blk wx Mb 30 q1.o.l) ∧ Hid (∀ c, SaS bb (.slice ob (k + 1) cap) vE3 c → SaS bb (.slice oL n cL) (.slice oE i cE) c ∨ N ≤ c) ∧ Hid (∀ c, SaS bb (.slice ob (k + 1) cap) vE3 c → c ≠ Mb))
      case first =>
       have hs5 := HS.out.below (Below.refl _ _).drew
       have hk5 := HK.out.drew
       have hf5 : Fr (SaS bb (.slice oL n cL) (.slice oE i cE)) W wr.drew := HF.out.drew
       have ha5 : AtA wr.drew (SaS bb (.slice oa k ca) vE3) q1 := (HAT.out rfl).turn ((Fr.refl (fun _ => False) wr).drew) (fun _ _ _ e => e) (fun c e => .inl e)
       refine wp_region_held_drew (S := fun W => W.rangeAt Mb 0 q1.o.l) (by kernel_rfl) ?_ (fun hHeld => ?_)
       ·exact hk5.range
       generalize wr.drew = z at hs5 hk5 hf5 ha5 hHeld ⊢;have HS5 := Lib.hid hs5;have HK5 := Lib.hid hk5;have HFZ := Lib.hid hf5;have HA5 := Lib.hid ha5;clear hs5 hk5 hf5 ha5;refine tk 0 (some 84) ?_;refine tk 1 (some 85) ?_;refine tk 2 (some 86) ?_;refine tk 3 (some 87) ?_
       refine tkL 5 (some 89) 30 (.tmp 8) Mb 0 q1.o.l (fun _ h => h) Tryz.underlying30 HSZ.out ?_
       refine wpAnyH_ready (rs := [4, 6]) (by kernel_rfl) (by simp) (AllReadyH.cons (o := ⟨some 88, _, _, _, _, _⟩) rfl (fun K hK => ?_) (AllReadyH.cons (o := ⟨some 90, _, _, _, _, _⟩) rfl (fun K hK => ?_) AllReadyH.nil))
       ·have c1 := HS5.out.blk.cell 1
        simp only [gz, gs] at c1
        go_simp;clear c1
        refine hK.out _ _ ?_ (fun hHeld2 => ?_)
        ·exact HK5.out.range
        clear hK K hHeld;rename _ => hHeld
        try simp only [Act.put, sa, sz, ss]
        refine rd1 6 (some 90) (fun K hK => ?_)
        try simp only [GOd.l, ClD.l, List.cons_append, List.nil_append]
        go_simp
        have HSP := HS5
        have HKP := HK5
        have hb := (Below.refl z.heap.size z).alloc (Nat.le_refl _) (.cells (aO q1.o) 30)
        have HS5 := Lib.hid (HSP.out.below hb)
        have HK5 := Lib.hid (HKP.out.kept (hb.block Mb HKP.out.lt))
        clear hb
        refine hK.out _ _ ?_ (fun hHeld2 => ?_)
        ·exact HK5.out.range
        clear hK K hHeld;rename _ => hHeld
        try simp only [Act.put, sa, sz, ss]
        refine rd1 7 (some 91) (fun K hK => ?_)
        obtain ⟨ob, cap, w5, hrun, ho5, hf5, hk5⟩ := app_ord z 0 (.slice oa k ca) k (gCells l3) (lO q1.o) (by have := HSP.out.ownl; rw [HKL.out] at this; exact this) (by have := HLQ.out; have := HKL.out; omega) (Nat.zero_le _) 50 rfl (by simp [Value.oneCell'])
        refine step_run (by rfl) _ _ (by rfl) (by rfl) (by rfl) (fun _ => hrun) ?_
        have HB5 := Lib.hid (HSP.out.blk.kept (hf5.block bb HSP.out.blk.lt (fun e => HSP.out.nel bb e rfl)))
        have HKW := Lib.hid (HKP.out.kept (hf5.block Mb HKP.out.lt (fun e => HNM2.out Mb (.inr (.inl e)) rfl)))
        have HO5 := Lib.hid ho5;have HF5 := Lib.hid hf5;have HG5 := Lib.hid hk5;clear hrun ho5 hf5 hk5
        refine hK.out _ _ ?_ (fun hHeld2 => ?_)
        ·exact HKW.out.range
        clear hK K hHeld;rename _ => hHeld;refine tk 8 (some 92) ?_;refine tk 9 (some 93) ?_
        refine rd1 10 none (fun K hK => ?_)
        have c1 := HB5.out.cell 1
        have z1 := HB5.out.frozen 1
        simp only [gz, gs] at c1
        go_simp;clear c1 z1
        refine hK.out _ _ ?_ (fun hHeld2 => ?_)
        ·exact (HKW.out.other ⟨bb, 1, none⟩ (show bb ≠ Mb from HNM.out.1) _).range
        clear hK K hHeld;rename _ => hHeld
        try simp only [Act.put, sa, sz, ss]
        refine wpAnyH_done (by kernel_rfl) ?_ _;clear hHeld
        have h5 := HO5.out
        have e5 : gCells l3 ++ (lO q1.o) = gCells (l3 ++ [q1]) := by simp [gCells, GOd.l, ClD.l]
        rw [e5] at h5
        have hl5 : (l3 ++ [q1]).length = k + 1 := by rw [List.length_append, HKL.out]; rfl
        have hmain := RbG.appl (W1 := w5) (oL := ob) (nL := k + 1) (cL := cap) HSP.out HA5.out (by rw [hl5]; exact h5) HF5.out HG5.out
        have HS8 := Lib.hid hmain.1
        have HF8 : Hid (Fr (SaS bb (.slice oL n cL) (.slice oE i cE)) W (w5.setCell ⟨bb, 1, none⟩ (.slice ob (k + 1) cap))) := HFZ.out.trans hmain.2.1 (fun c hc e => (HNW.out c e).elim id (fun h => by have := HN.out; omega))
        have HN8 : Hid (∀ c, SaS bb (.slice ob (k + 1) cap) vE3 c → SaS bb (.slice oL n cL) (.slice oE i cE) c ∨ N ≤ c) := fun c e => (hmain.2.2 c e).elim (fun h => HNW.out c h) (fun h => .inr (by have := HFZ.out.size; have := HN.out; omega))
        have HM8 : Hid (∀ c, SaS bb (.slice ob (k + 1) cap) vE3 c → c ≠ Mb) := fun c e => (hmain.2.2 c e).elim (fun h => HNM2.out c h) (fun h => by have := HKP.out.lt; omega)
        have HK8 := Lib.hid (HKW.out.other ⟨bb, 1, none⟩ (show bb ≠ Mb from HNM.out.1) (.slice ob (k + 1) cap))
        clear h5 e5 hl5 hmain HB5 HKW HSP HKP HS5 HK5 HO5 HF5 HG5
        generalize World.setCell _ _ _ = y at HS8 HF8 HK8 ⊢
        go_wp2_with fail
        go_meet
        exact ⟨ob, cap, HS8, HF8, HK8, HN8, HM8⟩
       ·try simp only [GOd.l, ClD.l, List.cons_append, List.nil_append]
        go_simp
        have HSP := HS5
        have HKP := HK5
        have hb := (Below.refl z.heap.size z).alloc (Nat.le_refl _) (.cells (aO q1.o) 30)
        have HS5 := Lib.hid (HSP.out.below hb)
        have HK5 := Lib.hid (HKP.out.kept (hb.block Mb HKP.out.lt))
        clear hb
        refine hK.out _ _ ?_ (fun hHeld2 => ?_)
        ·exact HK5.out.range
        clear hK K hHeld;rename _ => hHeld
        try simp only [Act.put, sa, sz, ss]
        refine rd1 4 (some 88) (fun K hK => ?_)
        have c1 := HS5.out.blk.cell 1
        simp only [gz, gs] at c1
        go_simp;clear c1
        refine hK.out _ _ ?_ (fun hHeld2 => ?_)
        ·exact HK5.out.range
        clear hK K hHeld;rename _ => hHeld
        try simp only [Act.put, sa, sz, ss]
        refine rd1 7 (some 91) (fun K hK => ?_)
        obtain ⟨ob, cap, w5, hrun, ho5, hf5, hk5⟩ := app_ord z 0 (.slice oa k ca) k (gCells l3) (lO q1.o) (by have := HSP.out.ownl; rw [HKL.out] at this; exact this) (by have := HLQ.out; have := HKL.out; omega) (Nat.zero_le _) 50 rfl (by simp [Value.oneCell'])
        refine step_run (by rfl) _ _ (by rfl) (by rfl) (by rfl) (fun _ => hrun) ?_
        have HB5 := Lib.hid (HSP.out.blk.kept (hf5.block bb HSP.out.blk.lt (fun e => HSP.out.nel bb e rfl)))
        have HKW := Lib.hid (HKP.out.kept (hf5.block Mb HKP.out.lt (fun e => HNM2.out Mb (.inr (.inl e)) rfl)))
        have HO5 := Lib.hid ho5;have HF5 := Lib.hid hf5;have HG5 := Lib.hid hk5;clear hrun ho5 hf5 hk5
        refine hK.out _ _ ?_ (fun hHeld2 => ?_)
        ·exact HKW.out.range
        clear hK K hHeld;rename _ => hHeld;refine tk 8 (some 92) ?_;refine tk 9 (some 93) ?_
        refine rd1 10 none (fun K hK => ?_)
        have c1 := HB5.out.cell 1
        have z1 := HB5.out.frozen 1
        simp only [gz, gs] at c1
        go_simp;clear c1 z1
        refine hK.out _ _ ?_ (fun hHeld2 => ?_)
        ·exact (HKW.out.other ⟨bb, 1, none⟩ (show bb ≠ Mb from HNM.out.1) _).range
        clear hK K hHeld;rename _ => hHeld
        try simp only [Act.put, sa, sz, ss]
        refine wpAnyH_done (by kernel_rfl) ?_ _;clear hHeld
        have h5 := HO5.out
        have e5 : gCells l3 ++ (lO q1.o) = gCells (l3 ++ [q1]) := by simp [gCells, GOd.l, ClD.l]
        rw [e5] at h5
        have hl5 : (l3 ++ [q1]).length = k + 1 := by rw [List.length_append, HKL.out]; rfl
        have hmain := RbG.appl (W1 := w5) (oL := ob) (nL := k + 1) (cL := cap) HSP.out HA5.out (by rw [hl5]; exact h5) HF5.out HG5.out
        have HS8 := Lib.hid hmain.1
        have HF8 : Hid (Fr (SaS bb (.slice oL n cL) (.slice oE i cE)) W (w5.setCell ⟨bb, 1, none⟩ (.slice ob (k + 1) cap))) := HFZ.out.trans hmain.2.1 (fun c hc e => (HNW.out c e).elim id (fun h => by have := HN.out; omega))
        have HN8 : Hid (∀ c, SaS bb (.slice ob (k + 1) cap) vE3 c → SaS bb (.slice oL n cL) (.slice oE i cE) c ∨ N ≤ c) := fun c e => (hmain.2.2 c e).elim (fun h => HNW.out c h) (fun h => .inr (by have := HFZ.out.size; have := HN.out; omega))
        have HM8 : Hid (∀ c, SaS bb (.slice ob (k + 1) cap) vE3 c → c ≠ Mb) := fun c e => (hmain.2.2 c e).elim (fun h => HNM2.out c h) (fun h => by have := HKP.out.lt; omega)
        have HK8 := Lib.hid (HKW.out.other ⟨bb, 1, none⟩ (show bb ≠ Mb from HNM.out.1) (.slice ob (k + 1) cap))
        clear h5 e5 hl5 hmain HB5 HKW HSP HKP HS5 HK5 HO5 HF5 HG5
        generalize World.setCell _ _ _ = y at HS8 HF8 HK8 ⊢
        go_wp2_with fail
        go_meet
        exact ⟨ob, cap, HS8, HF8, HK8, HN8, HM8⟩
      case rest =>
       obtain ⟨ob, cap, HS8, HF8, HK8, HN8, HM8⟩ := hcut
       clear HS HK HF HNW HNM2
       have c1 := HS8.out.blk.cell 1
       simp only [gz, gs] at c1
       have hnn : IntKind.i64.wrap ((k : Int) + 1) = (k : Int) + 1 := IntWalk.i64_in _ (by have := HLQ.out; have := HKL.out; omega)
       have hnn2 : IntKind.i64.wrap ((k : Int) + 1 + 1) = (k : Int) + 1 + 1 := IntWalk.i64_in _ (by have := HLQ.out; have := HKL.out; omega)
       go_wp2_with fail
       refine (refTake _ bb tn _ vE3 (l3 ++ [q1]) E3 ((k : Int) + 1 + 1) HS8.out (by have := HLQ.out; omega)).mono ?_
       rintro e z ⟨ok, q2, vE4, E4, rfl, hs9, hf9, hn9, hok, hno⟩
       have HAD : Hid (advG (putG l (E.map ke) mo.sq ⟨mo.o, al⟩).length l (putG l (E.map ke) mo.sq ⟨mo.o, al⟩) = advR ok (l3 ++ [q1]) q2 E4) := by
        show advG _ _ _ = _
        rw [HEQ.out, advR_t]
        cases ok with
        | true =>
         obtain ⟨_, j, hj, rfl⟩ := hok rfl
         rw [advR_t, advG_some (l3 ++ [q1]) (E3.map ke) j q2 (by rw [HL8.out]; exact hj)]
         have e : (E3.map ke).eraseIdx j = (E3.eraseIdx j).map ke := by
          rw [List.eraseIdx_eq_take_drop_succ, List.eraseIdx_eq_take_drop_succ, List.map_append, List.map_take, List.map_drop]
         rw [e]
        | false =>
         obtain ⟨hj, rfl⟩ := hno rfl
         rw [advR_f, advG_none (l3 ++ [q1]) (E4.map ke) _ (by rw [HL8.out]; exact hj)]
       have HMS : Hid (E4.length + okN (.bool ok) ≤ E3.length) := by
        show E4.length + okN (.bool ok) ≤ E3.length
        cases ok with
        | true =>
         obtain ⟨_, j, hj, rfl⟩ := hok rfl
         have hj2 := (List.getElem?_eq_some_iff.1 (idxG_ke hj).1).1
         rw [List.length_eraseIdx, if_pos hj2]
         show _ + 1 ≤ _
         omega
        | false =>
         obtain ⟨hj, rfl⟩ := hno rfl
         exact Nat.le_refl _
       have HSUB : Hid (∀ p, p ∈ E4 → p ∈ E3) := by
        show ∀ p, p ∈ E4 → p ∈ E3
        cases ok with
        | true =>
         obtain ⟨_, j, hj, rfl⟩ := hok rfl
         exact fun p hp => List.mem_of_mem_eraseIdx hp
        | false =>
         obtain ⟨hj, rfl⟩ := hno rfl
         exact fun p hp => hp
       have HQM : Hid (ok = true → q2 ∈ E3) := fun e => by
        obtain ⟨_, j, hj, _⟩ := hok e
        exact List.mem_of_getElem? (idxG_ke hj).1
       have HK9 := Lib.hid (HK8.out.kept (hf9.block Mb HK8.out.lt (fun e => HNM.out.1 e.symm)))
       obtain ⟨z2, hz2⟩ : ∃ z2, z.setRow Mb q2.o.l.toArray = z2 := ⟨_, rfl⟩
       have hf2 : Fr (fun c => c = Mb) z z2 := by rw [← hz2]; exact (Fr.refl _ z).setRow Mb _ (.inl rfl)
       have hnm9 : ∀ c, SaS bb (.slice ob (k + 1) cap) vE4 c → c ≠ Mb := fun c e => by
        rcases e with e | e | e
        ·exact HM8.out c (.inl e)
        ·exact HM8.out c (.inr (.inl e))
        ·rcases hn9 c e with e | e
         ·exact HM8.out c (.inr (.inr e))
         ·have := HK8.out.lt
          omega
       have HS9 : Hid (RbG z2 bb tn (.slice ob (k + 1) cap) vE4 (l3 ++ [q1]) E4) := hs9.turn hf2 (fun c e hc => hnm9 c hc e) (fun p hp hne a ha e => HA8.out p (hp.imp id (HSUB.out p)) hne a ha e)
       have HF9 : Hid (Fr (SaS bb (.slice oL n cL) (.slice oE i cE)) W z2) := (HF8.out.trans hf9 (fun c _ e => .inl e)).trans hf2 (fun c hc e => by have := HNM.out.2; have := HN.out; omega)
       have HN9 : Hid (∀ c, SaS bb (.slice ob (k + 1) cap) vE4 c → SaS bb (.slice oL n cL) (.slice oE i cE) c ∨ N ≤ c) := fun c e => by
        rcases e with e | e | e
        ·exact HN8.out c (.inl e)
        ·exact HN8.out c (.inr (.inl e))
        ·rcases hn9 c e with e | e
         ·exact HN8.out c (.inr (.inr e))
         ·have := HF8.out.size
          have := HN.out
          exact .inr (by omega)
       have HAT9 : Hid (ok = true → AtA z2 (SaS bb (.slice ob (k + 1) cap) vE4) q2) := fun e => (hok e).1.turn hf2 (fun hne a ha hc => HA8.out q2 (.inr (HQM.out e)) hne a ha hc) (fun c e => .inl e)
       have HNM9 := Lib.hid hnm9
       have HALM9 : Hid (∀ p, p ∈ l3 ++ [q1] ∨ p ∈ E4 → p.al ≠ [] → ∀ a, p.o.ao = some a → a.block ≠ Mb) := fun p hp => HA8.out p (hp.imp id (HSUB.out p))
       have HALQ9 : Hid (ok = true → q2.al ≠ [] → ∀ a, q2.o.ao = some a → a.block ≠ Mb) := fun e => HA8.out q2 (.inr (HQM.out e))
       have HKR : Hid (Blk z2 Mb 30 q2.o.l) := (by rw [← hz2]; exact HK9.out.setRow q2.o.l : Blk z2 Mb 30 q2.o.l)
       have HZ2 := Lib.hid hz2
       have HO1 : Hid (q2.o.l.toArray.all (·.oneCell') = true) := q2.o.oneC
       have HO2 : Hid (q1.o.l.toArray.size = q2.o.l.toArray.size) := rfl
       clear hs9 hf9 hn9 hok hno hf2 hnm9 hz2 c1 hnn hnn2
       go_wp2_with (refine wpList_store_row rfl 30 (.tmp 8) (.tmp 103) rfl Mb q2.o.l.toArray rfl rfl 30 _ HK9.out HSZ.out HO2.out HO1.out ?_; rw [HZ2.out])
       go_roundw
       case rel => exact ⟨ok, q2, ob, k + 1, cap, vE4, l3 ++ [q1], E4, rfl, HS9, HL8, HKR, HAD, HAT9, by have h1 := HLQ.out; have h2 := HMS.out; have h3 := HL8.out; have h4 := HKL.out; have h5 : okN (.bool true) = 1 := rfl; show _ ≤ 802; omega, HF9, HN9, HNM9, HALM9, HALQ9⟩
       case measure => rw [HS9.out.earlyN, HERL.out]; exact Nat.lt_of_le_of_lt HMS.out (show E3.length < E3.length + okN (.bool true) from Nat.lt_succ_self _)
end Go.Proofs.YtjkiidhnmljmbaaGreatDoor
