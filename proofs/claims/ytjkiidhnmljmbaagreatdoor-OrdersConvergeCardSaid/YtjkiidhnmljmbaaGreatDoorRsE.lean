/- The reference's receiver: take. -/
import Derived.Deep.CutBlock
import Derived.Test.YtjkiidhnmljmbaaGreatDoorRsAB
set_option linter.unusedVariables false
set_option linter.unusedSimpArgs false
set_option maxRecDepth 100000
set_option maxHeartbeats 8000000
namespace Go.Proofs.YtjkiidhnmljmbaaGreatDoor
open Go.RowKit
attribute [local go_sem] Oper.semAt_some
theorem results_row_tmp2 {P : Program} {fn : Func} {p u : Tmp} {ty : TypeId} (h : fn.results = #[.cell p ty, .tmp u]) (tmps : Array Value) (w : World) (g : Nat) (t : TypeId) (cs : Array Value) (fr : Nat × Nat) (d : TypeDesc)
  (hp : tmps.getD p undef = .pointer (some ⟨g, 0, none⟩)) (hg : w.heap[g]? = some (.cells cs t fr))
  (hu : P.underlying ty = some d) (hd : (match d with | .struct _ | .array _ _ => true | _ => false) = true) (hi : (P.info? ty).map (·.size) = some cs.size) :
  (results fn tmps).run P w = .ok (.tuple #[.agg cs, tmps.getD u undef]) w := by
 have hp' : tmps[p]?.getD undef = .pointer (some ⟨g, 0, none⟩) := by simpa using hp
 simp [results, h, hp', asAddr, run_loadVar_row w g t ty cs fr d hg hu hd hi]
theorem gCells_app (l m : List GP) : gCells (l ++ m) = gCells l ++ gCells m := by simp [gCells]
theorem gCells_one (l : List GP) : ∀ u ∈ gCells l, u.oneCell' = true := fun u hu => by
 obtain ⟨p, _, hp⟩ := List.mem_flatMap.1 hu
 have := p.o.oneC
 rw [Array.all_eq_true_iff_forall_mem] at this
 exact this u (by simpa using hp)
theorem gCells_take {E : List GP} {i t : Nat} {u : Value} (h : (gCells (E.take i))[t]? = some u) : (gCells E)[t]? = some u := by
 have e : gCells E = gCells (E.take i) ++ gCells (E.drop i) := by rw [← gCells_app, List.take_append_drop]
 rw [e, List.getElem?_append_left (List.getElem?_eq_some_iff.1 h).1];exact h
theorem gCells_drop {E : List GP} {i t : Nat} {u : Value} (hi : i ≤ E.length) (h : (gCells (E.drop i))[t]? = some u) : (gCells E)[i * 26 + t]? = some u := by
 have e : gCells E = gCells (E.take i) ++ gCells (E.drop i) := by rw [← gCells_app, List.take_append_drop]
 have hl : (gCells (E.take i)).length = i * 26 := by rw [gCells_len, List.length_take, Nat.min_eq_left hi]
 rw [e, List.getElem?_append_right (by omega), hl, show i * 26 + t - i * 26 = t by omega];exact h
theorem app_gps (wr : World) (B : Nat) (v : Value) (n m c : Nat) (b o : Nat) (xs ys : List GP) (hown : wr.ownsRow B 30 26 v n (gCells xs)) (hn : n ≤ 1000) (hm : ys.length = m) (hm9 : m ≤ 1000) (hr : ∀ (j : Nat) u, (gCells ys)[j]? = some u → wr.cell? ⟨b, o + j, none⟩ = some u) (hB : B ≤ wr.heap.size) (ty : TypeId) :
  ∃ oa cap w', (Builtin.append_ #[50, 50] ty #[v, .slice (some ⟨b, o, none⟩) m c]).run Tryz.prog wr = .ok (.slice oa (n + m) cap) w' ∧ w'.ownsRow B 30 26 (.slice oa (n + m) cap) (n + m) (gCells (xs ++ ys)) ∧ Fr (fun k => v.ownBlock = some k) wr w' ∧ (∀ k, (Value.slice oa (n + m) cap).ownBlock = some k → v.ownBlock = some k ∨ wr.heap.size ≤ k) := by
 obtain ⟨i0, hi, hz0, hz1, hz2⟩ := info_parts Tryz.infoOrd
 obtain ⟨v', w', hrun, h1, h2, h3⟩ := app_own (P := Tryz.prog) (W := wr) B 50 ty 30 i0 (.agg aZo) 26 232 Tryz.underlying50 hi hz0 hz1 hz2 rfl (by decide) v n (gCells xs) hown ⟨b, o, none⟩ m c (gCells ys) (by rw [gCells_len, hm]) (fun j u hj => by
   have := hr j u hj
   rw [show ((⟨b, o, none⟩ : Addr).add j) = ⟨b, o + j, none⟩ from by unfold Addr.add; split <;> simp_all]
   exact this) (gCells_one ys) (by unfold maxLen; omega) (by omega) hB
 obtain ⟨oa, cap, rfl⟩ := own_slice h1
 exact ⟨oa, cap, w', hrun, by rw [gCells_app]; exact h1, h2, h3⟩
theorem refTake_no (W : World) (bb : Nat) (tn : Int) (vl vE : Value) (l E : List GP) (seq : Int) (h : RbG W bb tn vl vE l E) (hE : E.length ≤ 900) (hno : ∀ q ∈ E, q.o.s ≠ seq) :
  Calls Tryz.prog 102 #[.pointer (some ⟨bb, 0, none⟩), .int .i64 seq] W fun e w' => e = .returned (.tuple #[.agg (ordA 0 0 0 0 0), .bool false]) ∧ Below W.heap.size W w' := by
 obtain ⟨N, w1, hN, hw1, hb1, hk1⟩ := bx W aZo (ordA 0 0 0 0 0).toList 30 rfl
 have hs1 := h.below (by rw [hN]; exact hb1)
 obtain ⟨n, hn⟩ : ∃ n, E.length = n := ⟨_, rfl⟩
 have HSZ := szO
 have HN := Lib.hid hN;have HLN := Lib.hid hn
 obtain ⟨oE, cE, rfl⟩ := own_slice h.ownE
 have HNE : Hid (∀ (j : Nat) p, j < n → E[j]? = some p → p.o.s ≠ seq) := fun j p _ hp => hno p (List.mem_of_getElem? hp)
 have HS := Lib.hid hs1;have HK := Lib.hid hk1;have HB := Lib.hid hb1
 have HO1 : Hid (aZo.all (·.oneCell') = true) := (by first | rfl | simp [Value.oneCell'] : aZo.all (·.oneCell') = true)
 have HO2 : Hid ((ordA 0 0 0 0 0).toList.toArray.size = aZo.size) := rfl
 have HLE : Hid (n ≤ 900) := hn ▸ hE
 clear hno hb1 hk1 hs1 h hn hE
 go_enter Tryz.func102, Tryz.ntmps102
 go_wp2_with fail
 clear hN hw1
 go_loopw [6] (fun vi wr => ∃ j, j ≤ n ∧ vi = .int .i64 j ∧ wr = w1) (fun v _ => n - (intOf v).toNat)
 case atStart => exact ⟨0, Nat.zero_le _, rfl, rfl⟩
 case round =>
  obtain ⟨j, hj, rfl, hw⟩ := hrel
  subst hw
  have hn9 := HLE.out
  by_cases h : j < n
  ·have q1 : (j : Int) < (n : Int) := by omega
   have q2 : (0 : Int) ≤ (j : Int) := by omega
   have hnj : IntKind.i64.wrap ((j : Int) + 1) = (j : Int) + 1 := IntWalk.i64_in _ (by omega)
   obtain ⟨p, hp⟩ : ∃ p, E[j]? = some p := ⟨E[j]'(by rw [HLN.out]; omega), List.getElem?_eq_getElem _⟩
   obtain ⟨b', o', e2, hbl, hrg⟩ := HS.out.rdE.at j p hp
   cases e2
   have d0 : wr.cell? ⟨b', o' + j * 26, none⟩ = some (.int .i64 p.o.s) := hrg 0 _ rfl
   have c2 := HS.out.blk.cell 2
   simp only [gz, gs] at c2
   rw [HLN.out] at c2
   obtain ⟨ps, hps⟩ : ∃ ps, p.o.s = ps := ⟨_, rfl⟩
   have g1 : (ps == seq) = false := beq_eq_false_iff_ne.2 (by rw [← hps]; exact HNE.out j p h hp)
   rw [hps] at d0;clear hp hps hrg hbl
   go_wp2_with fail
   go_roundw
   case rel => exact ⟨j + 1, by omega, by go_num, by first | trivial | rfl⟩
   case measure => simp [intOf]; omega
  ·have e : j = n := by omega
   subst e
   have q1 : ¬ (j : Int) < (j : Int) := by omega
   have c2 := HS.out.blk.cell 2
   simp only [gz, gs] at c2
   rw [HLN.out] at c2;clear h
   go_wp2_with (refine wpList_store_row rfl 30 (.tmp 4) (.tmp 56) rfl N aZo rfl rfl 30 _ HK.out HSZ.out HO2.out HO1.out ?_)
   refine bodyPost_ret (results_row_tmp2 Tryz.results102 _ _ N 30 aZo (0, 0) _ rfl (setRow_heap _ _ _ _ _ _ HK.out) Tryz.underlying30 rfl HSZ.out) rfl ?_
   exact ⟨rfl, by rw [HN.out]; exact below_setRow HB.out (Nat.le_refl _) _⟩
def TakeP (W : World) (bb : Nat) (tn : Int) (vl : Value) (l E : List GP) (i : Nat) (q : GP) (e : Ending) (w' : World) : Prop :=
 e = .returned (.tuple #[.agg q.o.l.toArray, .bool true]) ∧ ∃ vE', RbG w' bb tn vl vE' l (E.eraseIdx i) ∧ Fr (fun c => c = bb) W w' ∧ ∀ c, vE'.ownBlock = some c → W.heap.size ≤ c
theorem refTake_hit (W : World) (bb : Nat) (tn : Int) (vl vE : Value) (l E : List GP) (seq : Int) (h : RbG W bb tn vl vE l E) (hE : E.length ≤ 900) (i : Nat) (q : GP) (hq : E[i]? = some q) (hs : q.o.s = seq) (hno : ∀ (j : Nat) p, j < i → E[j]? = some p → p.o.s ≠ seq) :
  Calls Tryz.prog 102 #[.pointer (some ⟨bb, 0, none⟩), .int .i64 seq] W (TakeP W bb tn vl l E i q) := by
 obtain ⟨N, w1, hN, hw1, hb1, hk1⟩ := bx W aZo (ordA 0 0 0 0 0).toList 30 rfl
 have hs1 := h.below (by rw [hN]; exact hb1)
 obtain ⟨n, hn⟩ : ∃ n, E.length = n := ⟨_, rfl⟩
 have HSZ := szO
 have HN := Lib.hid hN;have HLN := Lib.hid hn
 have hin : i < n := by rw [← hn]; exact (List.getElem?_eq_some_iff.1 hq).1
 have hE0 := h.ownE
 obtain ⟨g, cE, hvE, hgl, hnc⟩ : ∃ g cE, vE = .slice (some ⟨g, 0, none⟩) n cE ∧ g < W.heap.size ∧ n ≤ cE := by
  rcases h.ownE.2 with ⟨h2, h3⟩ | ⟨g, cap, cur, h2, q1, q2, q3, q4⟩
  ·omega
  ·rw [hn] at h2 q3
   exact ⟨g, cap, h2, (Array.getElem?_eq_some_iff.1 q2).1, q3⟩
 subst hvE
 obtain ⟨M, hM⟩ : ∃ M, w1.heap.size = M := ⟨_, rfl⟩
 have hMN : M = N + 1 := by rw [← hM, ← hw1, World.size_alloc, hN]
 obtain ⟨w2, hw2⟩ : ∃ w2, w1.alloc (.cells aZo 30) = w2 := ⟨_, rfl⟩
 have hk2 : Blk w2 M 30 (ordA 0 0 0 0 0).toList := by rw [← hw2, ← hM]; exact Blk.new w1 _ _
 obtain ⟨w3, hw3⟩ : ∃ w3, w2.setRow M q.o.l.toArray = w3 := ⟨_, rfl⟩
 have hk3 : Blk w3 M 30 q.o.l := by rw [← hw3]; exact hk2.setRow q.o.l
 have hb12 : Below M w1 w2 := by rw [← hw2, ← hM]; exact (Below.refl _ w1).alloc (Nat.le_refl _) _
 have hb13 : Below M w1 w3 := by rw [← hw3]; exact below_setRow hb12 (Nat.le_refl _) _
 have hs3 := hs1.below (by rw [hM]; exact hb13)
 have hgc : ∀ (t : Nat) u, (gCells E)[t]? = some u → w3.cell? ⟨g, t, none⟩ = some u := fun t u ht => by
  have h3 := hs3.ownE
  rw [hn] at h3
  rw [h3.cellAt t (by have := (List.getElem?_eq_some_iff.1 ht).1; rw [gCells_len, hn] at this; exact this)]
  exact ht
 have hz3 : M < w3.heap.size := hk3.lt
 obtain ⟨oa4, cap4, w4, hrun4, ho4, hf4, hn4⟩ := app_gps w3 w3.heap.size (.slice none 0 0) 0 i cE g 0 [] (E.take i) (World.ownsRow_nil w3 _ _ _) (by omega) (by rw [List.length_take, hn]; omega) (by omega) (fun j u hj => by rw [Nat.zero_add]; exact hgc j u (gCells_take hj)) (Nat.le_refl _) 50
 have hb34 : Below w3.heap.size w3 w4 := hf4.below _ (Nat.le_refl _) (fun k e => by simp [Value.ownBlock] at e)
 rw [Nat.zero_add, List.nil_append] at ho4;rw [Nat.zero_add] at hrun4
 have hl4 : (E.take i).length = i := by rw [List.length_take, hn]; omega
 obtain ⟨j1, hj1⟩ : ∃ j1, i + 1 = j1 := ⟨_, rfl⟩
 have hld : (E.drop j1).length = n - j1 := by rw [List.length_drop, hn]
 obtain ⟨o2, ho2⟩ : ∃ o2, (if cE = j1 then 0 else j1 * 26) = o2 := ⟨_, rfl⟩
 obtain ⟨oa5, cap5, w5, hrun5, ho5, hf5, hn5⟩ := app_gps w4 w3.heap.size (.slice oa4 i cap4) i (n - j1) (cE - j1) g o2 (E.take i) (E.drop j1) ho4 (by omega) hld (by omega) (fun j u hj => by
  have hlt : j < (n - j1) * 26 := by
   have := (List.getElem?_eq_some_iff.1 hj).1
   rw [gCells_len, hld] at this;exact this
  have hne : cE ≠ j1 := fun e => by
   have : n - j1 = 0 := by omega
   rw [this] at hlt
   omega
  rw [if_neg hne] at ho2;rw [← ho2]
  have h3 := hgc _ u (gCells_drop (by omega) hj)
  exact (hb34.cell (p := ⟨g, j1 * 26 + j, none⟩) (block_lt h3)).trans h3) hb34.size 50
 rw [show i + (n - j1) = n - 1 by omega] at hrun5 ho5 hn5
 have hk5 : Blk w5 M 30 q.o.l := (hk3.kept (hb34.block M hz3)).kept (hf5.block M (by have := hb34.size; omega) (fun e => by have := own_ge ho4 M e; omega))
 have hfr35 : Fr (fun _ => False) w3 w5 := (Fr.under (fun _ => False) hb34).trans hf5 (fun c hc e => by have := own_ge ho4 c e; omega)
 have hlE : (E.eraseIdx i).length = n - 1 := by rw [List.length_eraseIdx, if_pos (by omega), hn]
 have heE : E.take i ++ E.drop j1 = E.eraseIdx i := by rw [← hj1, List.eraseIdx_eq_take_drop_succ]
 rw [heE] at ho5
 obtain ⟨hs6, hf6, hc6⟩ := RbG.putE (W1 := w5) (oL := oa5) (nL := n - 1) (cL := cap5) (E' := E.eraseIdx i) hs3 (fun p hp => hs3.alts p (.inr (List.mem_of_mem_eraseIdx hp))) (by rw [hlE]; exact ⟨ho5.1, ho5.2.imp id (fun ⟨g, cap, cur, h1, h2, h3⟩ => ⟨g, cap, cur, h1, Nat.zero_le _, h3⟩)⟩) (hfr35.mono (fun _ e => e.elim)) (fun c e => .inr (own_ge ho5 c e))
 obtain ⟨w6, hw6⟩ : ∃ w6, w5.setCell ⟨bb, 2, none⟩ (.slice oa5 (n - 1) cap5) = w6 := ⟨_, rfl⟩
 have hbN : bb < N := by rw [← hN]; exact h.blk.lt
 have hk6 : Blk w6 M 30 q.o.l := by rw [← hw6]; exact hk5.other ⟨bb, 2, none⟩ (show bb ≠ M by omega) _
 have hkN : Blk w6 N 30 (ordA 0 0 0 0 0).toList := by
  rw [← hw6]
  exact ((hk1.kept (hb13.block N (by omega))).kept (hfr35.block N (by omega) (fun e => e))).other ⟨bb, 2, none⟩ (show bb ≠ N by omega) _
 rw [hw6] at hs6
 have hf06 : Fr (fun c => c = bb) W w6 := by
  rw [← hw6]
  exact (((Fr.under (fun c => c = bb) (by rw [hN]; exact hb1)).trans (Fr.under (fun _ => False) (by rw [hM]; exact hb13)) (fun _ _ e => e.elim)).trans hfr35 (fun _ _ e => e.elim)).setCell ⟨bb, 2, none⟩ _ (.inl rfl)
 have c25 : w5.cell? ⟨bb, 2, none⟩ = some (.slice (some ⟨g, 0, none⟩) n cE) := by
  have := (hs3.blk.kept (hfr35.block bb (by omega) (fun e => e))).cell 2
  exact this
 have z25 : w5.frozen? ⟨bb, 2, none⟩ = false := (hs3.blk.kept (hfr35.block bb (by omega) (fun e => e))).frozen 2
 have c24 : w4.cell? ⟨bb, 2, none⟩ = some (.slice (some ⟨g, 0, none⟩) n cE) := (hs3.blk.kept (hb34.block bb (by omega))).cell 2
 have c23 : w3.cell? ⟨bb, 2, none⟩ = some (.slice (some ⟨g, 0, none⟩) n cE) := hs3.blk.cell 2
 have c21 : w1.cell? ⟨bb, 2, none⟩ = some (.slice (some ⟨g, 0, none⟩) n cE) := hs1.blk.cell 2
 have hrgq : w1.rangeAt g (i * 26) q.o.l := by
  obtain ⟨b', o', e2, _, hrg⟩ := hs1.rdE.at i q hq
  cases e2
  rw [Nat.zero_add] at hrg;exact hrg
 have hdq : w1.cell? ⟨g, i * 26, none⟩ = some (.int .i64 q.o.s) := hrgq 0 _ rfl
 rw [hs] at hdq
 have HFIN : Hid (∀ w7, w6.setRow N q.o.l.toArray = w7 → TakeP W bb tn vl l E i q (.returned (.tuple #[.agg q.o.l.toArray, .bool true])) w7) := fun w7 e7 => by
  have hf67 : Fr (fun c => c = N) w6 w7 := by rw [← e7]; exact (Fr.refl _ w6).setRow N _ (.inl rfl)
  have hown5 : ∀ c, (Value.slice oa5 (n - 1) cap5).ownBlock = some c → w3.heap.size ≤ c := fun c e => own_ge ho5 c e
  refine ⟨rfl, .slice oa5 (n - 1) cap5, hs6.turn hf67 (fun c e hc => ?_) (fun p hp hne a ha e => ?_), ?_, fun c e => ?_⟩
  ·subst e
   rcases hc with hc | hc | hc
   ·omega
   ·have := h.lt _ (.inr (.inl hc))
    omega
   ·have := hown5 _ hc
    omega
  ·have hp2 : p ∈ l ∨ p ∈ E := hp.imp id (fun hp => List.mem_of_mem_eraseIdx hp)
   have := (h.alts p hp2).rd.lt hne a ha
   omega
  ·rw [← e7]
   exact hf06.setRow N _ (.inr (by omega))
  ·have := hown5 c e
   omega
 have HO1 : Hid (q.o.l.toArray.all (·.oneCell') = true) := q.o.oneC
 have HO2 : Hid ((ordA 0 0 0 0 0).toList.toArray.size = q.o.l.toArray.size) := rfl
 have HNE : Hid (∀ (j : Nat) p, j < i → E[j]? = some p → p.o.s ≠ seq) := hno
 have HS := Lib.hid hs1;have HRQ := Lib.hid hrgq;have HK2 := Lib.hid hk2;have HKN := Lib.hid hkN;have HW3 := Lib.hid hw3;have HR6 := Lib.hid hk6.range;have HM := Lib.hid hM;have HDQ := Lib.hid hdq
 have HC := Lib.hid (And.intro c21 (And.intro c23 (And.intro c24 (And.intro c25 z25))))
 have HRUN := Lib.hid (And.intro hrun4 hrun5)
 have HW2 := Lib.hid hw2;have HW6 := Lib.hid hw6
 have HP : Hid ((IntKind.i64.wrap ((i : Int) + 1) = (j1 : Int)) ∧ (j1 ≤ n ∧ i ≤ cE ∧ i < n ∧ ¬ cE = 0)) := (⟨by rw [IntWalk.i64_in _ (by omega)]; omega, by omega, by omega, by omega, by omega⟩ : (IntKind.i64.wrap ((i : Int) + 1) = (j1 : Int)) ∧ (j1 ≤ n ∧ i ≤ cE ∧ i < n ∧ ¬ cE = 0))
 have hwi : IntKind.i64.wrap ((i : Int) + 1) = (j1 : Int) := by rw [IntWalk.i64_in _ (by omega)]; omega
 have p1 : (0 : Int) ≤ (i : Int) := by omega
 have p2 : (i : Int) ≤ (cE : Int) := by omega
 have p3 : (0 : Int) ≤ (j1 : Int) := by omega
 have p4 : (j1 : Int) ≤ (n : Int) := by omega
 have p5 : (i : Int) < (n : Int) := by omega
 have p6 : ¬ cE = 0 := by omega
 have hb' : n ≤ 900 := hn ▸ hE
 clear hno hk1 hs1 h hn hE hb1 hE0 hk2 hk3 hb12 hb13 hs3 hgc ho4 hf4 hn4 hb34 ho5 hf5 hn5 hk5 hfr35 hs6 hf6 hc6 hk6 hkN hf06 hrgq hw3 hl4 hld heE hlE hq hs hM hMN hz3 hdq c21 c23 c24 c25 z25 hrun4 hrun5 hw2 hw6 hwi p1 p2 p3 p4 p5 p6
 go_enter Tryz.func102, Tryz.ntmps102
 go_wp2_with fail
 clear hN hw1
 go_loopw [6] (fun vi wr => ∃ j, j ≤ i ∧ vi = .int .i64 j ∧ wr = w1) (fun v _ => n - (intOf v).toNat)
 case atStart => exact ⟨0, Nat.zero_le _, rfl, rfl⟩
 case round =>
  obtain ⟨j, hj, rfl, hw⟩ := hrel
  subst hw
  by_cases h : j < i
  ·have c2 := HC.out.1
   have hin := HP.out.2.2.2.1
   have q1 : (j : Int) < (n : Int) := by omega
   have q2 : (0 : Int) ≤ (j : Int) := by omega
   have hnj : IntKind.i64.wrap ((j : Int) + 1) = (j : Int) + 1 := IntWalk.i64_in _ (by omega)
   obtain ⟨p, hp⟩ : ∃ p, E[j]? = some p := ⟨E[j]'(by rw [HLN.out]; omega), List.getElem?_eq_getElem _⟩
   obtain ⟨b', o', e2, hbl, hrg⟩ := HS.out.rdE.at j p hp
   cases e2
   have d0 : wr.cell? ⟨g, j * 26, none⟩ = some (.int .i64 p.o.s) := by
    have := hrg 0 _ rfl
    rw [Nat.zero_add] at this;exact this
   obtain ⟨ps, hps⟩ : ∃ ps, p.o.s = ps := ⟨_, rfl⟩
   have g1 : (ps == seq) = false := beq_eq_false_iff_ne.2 (by rw [← hps]; exact HNE.out j p h hp)
   rw [hps] at d0;clear hp hps hrg hbl
   go_wp2_with fail
   go_roundw
   case rel => exact ⟨j + 1, by omega, by go_num, by first | trivial | rfl⟩
   case measure => simp [intOf]; omega
  ·have e : j = i := by omega
   subst e
   have g1 : (seq == seq) = true := by simp
   have hdq := HDQ.out
   obtain ⟨c21, c23, c24, c25, z25⟩ := HC.out
   obtain ⟨hrun4, hrun5⟩ := HRUN.out
   have hw2 := HW2.out
   have hw6 := HW6.out
   have hM := HM.out
   obtain ⟨hwi, r1, r2, r3, p6⟩ := HP.out
   have p1 : (0 : Int) ≤ (j : Int) := by omega
   have p2 : (j : Int) ≤ (cE : Int) := by omega
   have p3 : (0 : Int) ≤ (j1 : Int) := by omega
   have p4 : (j1 : Int) ≤ (n : Int) := by omega
   have p5 : (j : Int) < (n : Int) := by omega
   clear h
   by_cases hcj : cE = j1
   ·subst hcj
    rw [if_pos rfl] at ho2;subst ho2;rw [show n - cE = 0 by omega, Nat.sub_self] at hrun5
    go_wp2_with (first | (at_builtin; refine wpList_append_run _ rfl _ _ 50 rfl _ _ _ _ rfl rfl hrun4 ?_; clear hrun4) | (at_builtin; refine wpList_append_run _ rfl _ _ 50 rfl _ _ _ _ rfl rfl hrun5 ?_; clear hrun5) | (refine wpList_load_mid rfl 30 (.tmp 33) rfl g (j * 26) rfl q.o.l _ HRQ.out Tryz.underlying30 rfl HSZ.out ?_) | (refine wpList_store_row rfl 30 (.tmp 7) (.tmp 34) rfl M q.o.l.toArray rfl rfl 30 _ HK2.out HSZ.out HO2.out HO1.out ?_; rw [HW3.out]) | (refine wpList_load_mid rfl 30 (.tmp 7) rfl M 0 rfl q.o.l _ HR6.out Tryz.underlying30 rfl HSZ.out ?_) | (refine wpList_store_row rfl 30 (.tmp 4) (.tmp 55) rfl N q.o.l.toArray rfl rfl 30 _ HKN.out HSZ.out HO2.out HO1.out ?_))
    refine bodyPost_ret (results_row_tmp2 Tryz.results102 _ _ N 30 q.o.l.toArray (0, 0) _ rfl (setRow_heap _ _ _ _ _ _ HKN.out) Tryz.underlying30 rfl HSZ.out) rfl ?_
    exact HFIN.out _ rfl
   ·rw [if_neg hcj] at ho2
    subst ho2
    go_wp2_with (first | (at_builtin; refine wpList_append_run _ rfl _ _ 50 rfl _ _ _ _ rfl rfl hrun4 ?_; clear hrun4) | (at_builtin; refine wpList_append_run _ rfl _ _ 50 rfl _ _ _ _ rfl rfl hrun5 ?_; clear hrun5) | (refine wpList_load_mid rfl 30 (.tmp 33) rfl g (j * 26) rfl q.o.l _ HRQ.out Tryz.underlying30 rfl HSZ.out ?_) | (refine wpList_store_row rfl 30 (.tmp 7) (.tmp 34) rfl M q.o.l.toArray rfl rfl 30 _ HK2.out HSZ.out HO2.out HO1.out ?_; rw [HW3.out]) | (refine wpList_load_mid rfl 30 (.tmp 7) rfl M 0 rfl q.o.l _ HR6.out Tryz.underlying30 rfl HSZ.out ?_) | (refine wpList_store_row rfl 30 (.tmp 4) (.tmp 55) rfl N q.o.l.toArray rfl rfl 30 _ HKN.out HSZ.out HO2.out HO1.out ?_))
    refine bodyPost_ret (results_row_tmp2 Tryz.results102 _ _ N 30 q.o.l.toArray (0, 0) _ rfl (setRow_heap _ _ _ _ _ _ HKN.out) Tryz.underlying30 rfl HSZ.out) rfl ?_
    exact HFIN.out _ rfl
def ke (p : GP) : Int × GP := (p.o.s, p)
theorem idxG_ke : ∀ {E : List GP} {k : Int} {j : Nat} {q : GP}, idxG (E.map ke) k = some (j, q) → E[j]? = some q ∧ q.o.s = k ∧ ∀ (i : Nat) p, i < j → E[i]? = some p → p.o.s ≠ k
 | [], _, _, _, h => by simp [idxG] at h
 | p :: E, k, j, q, h => by
  simp only [List.map_cons, idxG] at h
  by_cases hk : k = p.o.s
  ·rw [if_pos (by rw [beq_iff_eq]; exact hk)] at h
   simp only [Option.some.injEq, Prod.mk.injEq] at h
   obtain ⟨rfl, rfl⟩ := h
   exact ⟨rfl, hk.symm, fun i p hi => by omega⟩
  ·rw [if_neg (by rw [beq_iff_eq]; exact hk)] at h
   cases hq : idxG (E.map ke) k with
   | none => rw [hq] at h; simp at h
   | some x =>
    rw [hq] at h
    simp only [Option.map_some, Option.some.injEq, Prod.mk.injEq] at h
    obtain ⟨rfl, rfl⟩ := h
    obtain ⟨h1, h2, h3⟩ := idxG_ke (j := x.1) (q := x.2) hq
    refine ⟨h1, h2, fun i r hi hr => ?_⟩
    cases i with
    | zero =>
     simp at hr
     rw [← hr]
     exact fun e => hk e.symm
    | succ i => exact h3 i r (by omega) (by simpa using hr)
theorem idxG_ke_none : ∀ {E : List GP} {k : Int}, idxG (E.map ke) k = none → ∀ q ∈ E, q.o.s ≠ k
 | [], _, _, q, hq => by simp at hq
 | p :: E, k, h, q, hq => by
  simp only [List.map_cons, idxG] at h
  by_cases hk : k = p.o.s
  ·rw [if_pos (by rw [beq_iff_eq]; exact hk)] at h
   simp at h
  ·rw [if_neg (by rw [beq_iff_eq]; exact hk)] at h
   have h2 : idxG (E.map ke) k = none := by
    cases hx : idxG (E.map ke) k with
    | none => rfl
    | some x => rw [hx] at h; simp at h
   rcases List.mem_cons.1 hq with e | e
   ·rw [e]
    exact fun e => hk e.symm
   ·exact idxG_ke_none h2 q e
def zG : GP := ⟨⟨0, 0, 0, 0, 0, 0, 0, 0, 0, 0, 0, 0, none, 0, 0, ⟨0, 0, 0, 0, 0, 0, 0, 0⟩, 0, 0, 0, 0, ⟨#[]⟩⟩, []⟩
def TakeR (W : World) (bb : Nat) (tn : Int) (vl vE : Value) (l E : List GP) (seq : Int) (e : Ending) (w' : World) : Prop :=
 ∃ (ok : Bool) (q : GP) (vE' : Value) (E' : List GP), e = .returned (.tuple #[.agg q.o.l.toArray, .bool ok]) ∧ RbG w' bb tn vl vE' l E' ∧ Fr (fun c => c = bb) W w' ∧ (∀ c, vE'.ownBlock = some c → vE.ownBlock = some c ∨ W.heap.size ≤ c) ∧
  (ok = true → AtA w' (SaS bb vl vE') q ∧ ∃ j, idxG (E.map ke) seq = some (j, q) ∧ E' = E.eraseIdx j) ∧ (ok = false → idxG (E.map ke) seq = none ∧ E' = E)
theorem refTake (W : World) (bb : Nat) (tn : Int) (vl vE : Value) (l E : List GP) (seq : Int) (h : RbG W bb tn vl vE l E) (hE : E.length ≤ 900) :
  Calls Tryz.prog 102 #[.pointer (some ⟨bb, 0, none⟩), .int .i64 seq] W (TakeR W bb tn vl vE l E seq) := by
 cases hi : idxG (E.map ke) seq with
 | none =>
  refine (refTake_no W bb tn vl vE l E seq h hE (idxG_ke_none hi)).mono ?_
  rintro e w' ⟨rfl, hb⟩
  exact ⟨false, zG, vE, E, rfl, h.below hb, Fr.under _ hb, fun c e => .inl e, fun e => (nomatch e), fun _ => ⟨hi, rfl⟩⟩
 | some x =>
  obtain ⟨j, q⟩ := x
  obtain ⟨h1, h2, h3⟩ := idxG_ke hi
  refine (refTake_hit W bb tn vl vE l E seq h hE j q h1 h2 h3).mono ?_
  rintro e w' ⟨rfl, vE', hr, hf, hn⟩
  have ha := h.alts q (.inr (List.mem_of_getElem? h1))
  refine ⟨true, q, vE', E.eraseIdx j, rfl, hr, hf, fun c e => .inr (hn c e), fun _ => ⟨ha.turn hf (fun hne a e hs => ha.far hne a e (.inl hs)) (fun c hc => ?_), j, hi, rfl⟩, fun e => (nomatch e)⟩
  rcases hc with hc | hc | hc
  ·exact .inl (.inl hc)
  ·exact .inl (.inr (.inl hc))
  ·exact .inr (hn c hc)
end Go.Proofs.YtjkiidhnmljmbaaGreatDoor
