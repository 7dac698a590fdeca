/- Orders of every kind: orders.own gives an order with alternatives of its own. -/
import Derived.Test.YtjkiidhnmljmbaaGreatDoorGoJK
import Derived.Test.YtjkiidhnmljmbaaGreatDoorOrJK
set_option linter.unusedVariables false
set_option linter.unusedSimpArgs false
set_option maxRecDepth 100000
set_option maxHeartbeats 8000000
namespace Go.Proofs.YtjkiidhnmljmbaaGreatDoor
open Go.RowKit
def aCells (l : List (Int × Int)) : List Value := l.flatMap fun p => [.int .i64 p.1, .int .i64 p.2]
theorem aCells_len (l : List (Int × Int)) : (aCells l).length = l.length * 2 := by
 induction l with
 | nil => rfl
 | cons p l ih => simp only [aCells, List.flatMap_cons, List.length_append, List.length_cons, List.length_nil] at *; rw [ih]; omega
theorem aCells_at : ∀ (l : List (Int × Int)) (i : Nat) (p : Int × Int), l[i]? = some p → (aCells l)[i * 2]? = some (.int .i64 p.1) ∧ (aCells l)[i * 2 + 1]? = some (.int .i64 p.2)
 | [], _, _, h => by simp at h
 | q :: l, 0, p, h => by
  simp at h
  subst h;exact ⟨rfl, rfl⟩
 | q :: l, i + 1, p, h => by
  obtain ⟨h1, h2⟩ := aCells_at l i p (by simpa using h)
  refine ⟨?_, ?_⟩
  ·rw [← h1, show (i + 1) * 2 = i * 2 + 1 + 1 by omega]; rfl
  ·rw [← h2, show (i + 1) * 2 + 1 = i * 2 + 1 + 1 + 1 by omega]; rfl
theorem aCells_get (l : List (Int × Int)) (j : Nat) (u : Value) (h : (aCells l)[j]? = some u) : ∃ p, l[j / 2]? = some p ∧ u = if j % 2 = 0 then .int .i64 p.1 else .int .i64 p.2 := by
 have hj := (List.getElem?_eq_some_iff.1 h).1
 rw [aCells_len] at hj
 refine ⟨l[j / 2]'(by omega), List.getElem?_eq_getElem _, ?_⟩
 obtain ⟨h1, h2⟩ := aCells_at l (j / 2) _ (List.getElem?_eq_getElem (by omega))
 rcases (show j % 2 = 0 ∨ j % 2 = 1 from by omega) with hm | hm
 ·rw [show j / 2 * 2 = j by omega, h] at h1
  rw [if_pos hm];exact Option.some.inj h1
 ·rw [show j / 2 * 2 + 1 = j by omega, h] at h2
  rw [if_neg (by omega)];exact Option.some.inj h2
theorem own_rda {W : World} {B : Nat} {oa : Option Addr} {n cap : Nat} {l : List (Int × Int)} (h : W.ownsRow B 140 2 (.slice oa n cap) l.length (aCells l)) : n = l.length ∧ RdA W oa l ∧ ∀ a, oa = some a → B ≤ a.block := by
 have h' := h
 rcases h.2 with ⟨he, h0⟩ | ⟨g, cap', cur, he, q1, q2, q3⟩
 ·simp at he
  have : l = [] := List.eq_nil_of_length_eq_zero h0
  exact ⟨by rw [he.2.1, h0], .inl this, fun a e => by rw [he.1] at e; cases e⟩
 ·simp at he
  obtain ⟨rfl, rfl, rfl⟩ := he
  refine ⟨rfl, .inr ⟨g, 0, rfl, (Array.getElem?_eq_some_iff.1 q2).1, fun i p hp => ?_⟩, fun a e => by cases e; exact q1⟩
  have hi := (List.getElem?_eq_some_iff.1 hp).1
  obtain ⟨h1, h2⟩ := aCells_at l i p hp
  rw [Nat.zero_add]
  exact ⟨(h'.cellAt _ (by omega)).trans h1, (h'.cellAt _ (by omega)).trans h2⟩
theorem Tryz.infoAlt : (Tryz.prog.info? 140).map (fun i => (i.zero, i.size, i.bytes)) = some (some (.agg #[.int .i64 0, .int .i64 0]), 2, 16) := by kernel_rfl
theorem clone_alts (wr : World) (ao : Option Addr) (an ac : Nat) (al : List (Int × Int)) (ty : TypeId) (hn : al.length = an) (hlm : an ≤ 1000000) (hr : RdA wr ao al) :
  ∃ oa cap w', (Builtin.append_ #[22, 22] ty #[.slice none 0 0, .slice ao an ac]).run Tryz.prog wr = .ok (.slice oa an cap) w' ∧ w'.ownsRow wr.heap.size 140 2 (.slice oa an cap) an (aCells al) ∧ Below wr.heap.size wr w' := by
 obtain ⟨i0, hi, hz0, hz1, hz2⟩ := info_parts Tryz.infoAlt
 rcases hr with rfl | ⟨b, o, rfl, hlt, hc⟩
 ·obtain rfl : an = 0 := hn.symm
  refine ⟨none, 0, wr, ?_, World.ownsRow_nil wr _ _ _, Below.refl _ _⟩
  cases ao <;> simp [loadCells, loadCellsFrom, Builtin.append_, run_underlying Tryz.underlying22, Tryz.underlying140, sizeOf, typeInfo, hi, Builtin.lenOf, Builtin.firstCells]
 ·obtain ⟨v', w', hrun, h1, h2, h3⟩ := app_own (P := Tryz.prog) (W := wr) wr.heap.size 22 ty 140 i0 (.agg #[.int .i64 0, .int .i64 0]) 2 16 Tryz.underlying22 hi hz0 hz1 hz2 rfl (by decide) (.slice none 0 0) 0 [] (World.ownsRow_nil wr _ _ _) ⟨b, o, none⟩ an ac (aCells al) (by rw [aCells_len, hn]) (fun j u hj => by
      obtain ⟨p, hp, rfl⟩ := aCells_get al j u hj
      obtain ⟨h1, h2⟩ := hc _ p hp
      rw [show ((⟨b, o, none⟩ : Addr).add j) = ⟨b, o + j, none⟩ from by unfold Addr.add; split <;> simp_all]
      rcases (show j % 2 = 0 ∨ j % 2 = 1 from by omega) with hm | hm
      ·rw [if_pos hm, ← h1, show o + j / 2 * 2 = o + j by omega]
      ·rw [if_neg (by omega), ← h2, show o + j / 2 * 2 + 1 = o + j by omega]) (fun u hu => by
      obtain ⟨p, _, hp⟩ := List.mem_flatMap.1 hu
      simp at hp
      rcases hp with rfl | rfl <;> rfl) (by unfold maxLen; omega) (by omega) (Nat.le_refl _)
  rw [Nat.zero_add] at h1
  obtain ⟨oa, cap, rfl⟩ := own_slice h1
  exact ⟨oa, cap, w', hrun, by simpa using h1, h2.below _ (Nat.le_refl _) (fun k e => by simp [Value.ownBlock] at e)⟩
def GOd.withA (o : GOd) (oa : Option Addr) (ac : Nat) : GOd := { o with ao := oa, ac := ac }
theorem gOwn (o : GOd) (al : List (Int × Int)) (W : World) (hn : al.length = o.an) (hlm : o.an ≤ 1000000) (hr : RdA W o.ao al) : Calls Tryz.prog 56 #[.agg o.l.toArray] W fun en w' => ∃ oa ac, en = .returned (.agg (o.withA oa ac).l.toArray) ∧ RdA w' oa al ∧ (∀ a, oa = some a → W.heap.size ≤ a.block) ∧ Below W.heap.size W w' := by
 obtain ⟨N, w1, hN, hw1, hb1, hk1⟩ := bx W (aO o) o.l 30 rfl
 obtain ⟨M, w2, hM, hw2, hb2, hk2⟩ := bx w1 (ordA 0 0 0 0 0) (ordA 0 0 0 0 0).toList 30 rfl
 have hNM : N < M := by rw [← hM]; exact hk1.lt
 have hk3 : Blk w2 N 30 o.l := hk1.kept (hb2.block N hNM)
 have hb12 : Below N W w2 := hb1.trans (hb2.mono (Nat.le_of_lt hNM))
 obtain ⟨oa, ac', w3, hrun, ho3, hb3⟩ := clone_alts w2 o.ao o.an o.ac al 22 hn hlm (hr.kept (hN ▸ hb12))
 have hz2 : M < w2.heap.size := hk2.lt
 have hk4 := hk3.kept (hb3.block N (by omega))
 have hk5 := hk2.kept (hb3.block M hk2.lt)
 obtain ⟨w4, hw4⟩ : ∃ w4, w3.setCell ⟨N, 12, none⟩ (.slice oa o.an ac') = w4 := ⟨_, rfl⟩
 have hk6 : Blk w4 N 30 (o.withA oa ac').l := by rw [← hw4]; exact hk4.set 12 (.slice oa o.an ac')
 have hk7 : Blk w4 M 30 (ordA 0 0 0 0 0).toList := by rw [← hw4]; exact hk5.other ⟨N, 12, none⟩ (show N ≠ M by omega) _
 have hb4 : Below N W w4 := by rw [← hw4]; exact (hb12.trans (hb3.mono (by omega))).setCell (p := ⟨N, 12, none⟩) (Nat.le_refl _) _
 have ho4 : w4.ownsRow w2.heap.size 140 2 (.slice oa o.an ac') o.an (aCells al) := ownsRow_keptF ho3 (fun k e => by
  rw [← hw4]
  have := own_ge ho3 k e
  exact Below.heap_setCell _ _ _ _ (show k ≠ N by omega))
 have HSZ := szO
 have HO1 : Hid ((o.withA oa ac').l.toArray.all (·.oneCell') = true) := (o.withA oa ac').oneC
 have HO2 : Hid ((ordA 0 0 0 0 0).toList.toArray.size = (o.withA oa ac').l.toArray.size) := rfl
 have HN := Lib.hid hN;have HB4 := Lib.hid hb4
 have HLE : Hid (N ≤ M) := Nat.le_of_lt hNM
 have HZ2 : Hid (M < w2.heap.size) := hz2
 have HR6 := Lib.hid hk6.range;have HK7 := Lib.hid hk7;have HO4 := Lib.hid ho4;have HAL := Lib.hid hn
 have n1 : N ≠ M := by omega
 have n2 : M ≠ N := by omega
 have c12 : w2.cell? ⟨N, 12, none⟩ = some (.slice o.ao o.an o.ac) := hk3.cell 12
 have d12 : w3.cell? ⟨N, 12, none⟩ = some (.slice o.ao o.an o.ac) := hk4.cell 12
 have z12 := hk4.frozen 12
 dsimp only [ordA] at hw2
 show Calls Tryz.prog 56 #[.agg (aO o)] W _
 clear hb1 hb2 hk1 hk2 hk3 hk4 hk5 hk6 hk7 hNM hb3 hb12 hb4 ho3 ho4 hz2 hr hn hlm
 go_enter Tryz.func56, Tryz.ntmps56
 go_wp2_with (first | (at_builtin; refine wpList_append_run _ rfl _ _ 22 rfl _ _ _ _ rfl rfl hrun ?_) | (refine wpList_load_mid rfl 30 (.tmp 1) rfl N 0 rfl (o.withA oa ac').l _ HR6.out Tryz.underlying30 rfl HSZ.out ?_) | (refine wpList_store_row rfl 30 (.tmp 2) (.tmp 9) rfl M (o.withA oa ac').l.toArray rfl rfl 30 _ HK7.out HSZ.out HO2.out HO1.out ?_))
 refine bodyPost_ret (results_cell_row Tryz.results56 _ _ M 30 (o.withA oa ac').l.toArray (0, 0) _ rfl (setRow_heap _ _ _ _ _ _ HK7.out) Tryz.underlying30 rfl HSZ.out) rfl ?_
 have hfin : (w4.setRow M (o.withA oa ac').l.toArray).ownsRow w2.heap.size 140 2 (.slice oa o.an ac') al.length (aCells al) := by
  rw [HAL.out]
  exact ownsRow_keptF HO4.out (fun k e => heap_setRow_other _ _ _ _ (by have := own_ge HO4.out k e; have := HZ2.out; omega))
 obtain ⟨_, h1, h2⟩ := own_rda hfin
 exact ⟨oa, ac', rfl, h1, fun a e => by have := h2 a e; have := HZ2.out; have := HLE.out; have := HN.out; omega, by rw [HN.out]; exact below_setRow HB4.out HLE.out _⟩
def GOd.cutO (o : GOd) : GOd := { o with an := min o.an 9, txt := o.txt.extract 0 (min o.txt.size 300) }
theorem cut_facts (o : GOd) : (o.cutO).an ≤ 9 ∧ (o.cutO).an ≤ o.an ∧ (o.cutO).txt.size ≤ 300 ∧ (o.cutO).ao = o.ao ∧ (o.cutO).ac = o.ac := by
 refine ⟨Nat.min_le_right _ _, Nat.min_le_left _ _, ?_, rfl, rfl⟩
 show (o.txt.extract 0 (min o.txt.size 300)).size ≤ 300
 rw [ByteArray.size_extract]
 omega
theorem cut_alts {o : GOd} {al : List (Int × Int)} {W : World} (hn : al.length = o.an) (hr : RdA W o.ao al) : (al.take 9).length = (o.cutO).an ∧ RdA W (o.cutO).ao (al.take 9) := by
 refine ⟨by rw [List.length_take, hn]; exact Nat.min_comm _ _, ?_⟩
 rcases hr with rfl | ⟨b, f, e, hlt, hc⟩
 ·exact .inl rfl
 ·exact .inr ⟨b, f, e, hlt, fun i p hp => hc i p (by
   rw [List.getElem?_take] at hp
   split at hp
   ·exact hp
   ·cases hp)⟩
theorem gCut (o : GOd) (W : World) (hac : o.an ≤ o.ac) (hcm : o.ac ≤ maxLen) (hts : o.txt.size ≤ maxLen) : Calls Tryz.prog 7 #[.agg o.l.toArray] W fun en w' => en = .returned (.agg (o.cutO).l.toArray) ∧ Below W.heap.size W w' := by
 obtain ⟨m, hm⟩ : ∃ m, min o.an 9 = m := ⟨_, rfl⟩
 obtain ⟨t, ht⟩ : ∃ t, min o.txt.size 300 = t := ⟨_, rfl⟩
 obtain ⟨X, hX⟩ : ∃ X, o.txt.extract 0 t = X := ⟨_, rfl⟩
 have hq : o.cutO = { o with an := m, txt := X } := by unfold GOd.cutO; rw [hm, ht, hX]
 rw [hq]
 obtain ⟨q, hqq⟩ : ∃ q : GOd, ({ o with an := m, txt := X } : GOd) = q := ⟨_, rfl⟩
 rw [hqq]
 have hm1 : min (o.an : Int) 9 = (m : Int) := by omega
 have hm2 : (if (9 : Int) < (o.an : Int) then (9 : Int) else (o.an : Int)) = (m : Int) := by split <;> omega
 have ht1 : min (o.txt.size : Int) 300 = (t : Int) := by omega
 have ht2 : (if (300 : Int) < (o.txt.size : Int) then (300 : Int) else (o.txt.size : Int)) = (t : Int) := by split <;> omega
 obtain ⟨N, w1, hN, hw1, hb1, hk1⟩ := bx W (aO o) o.l 30 rfl
 obtain ⟨M, w2, hM, hw2, hb2, hk2⟩ := bx w1 (ordA 0 0 0 0 0) (ordA 0 0 0 0 0).toList 30 rfl
 have hNM : N < M := by rw [← hM]; exact hk1.lt
 have hk3 : Blk w2 N 30 o.l := hk1.kept (hb2.block N hNM)
 have hb12 : Below N W w2 := hb1.trans (hb2.mono (Nat.le_of_lt hNM))
 obtain ⟨w3, hw3⟩ : ∃ w3, w2.setCell ⟨N, 12, none⟩ (.slice o.ao m o.ac) = w3 := ⟨_, rfl⟩
 have hk4 := hk3.set 12 (.slice o.ao m o.ac)
 rw [hw3] at hk4
 obtain ⟨w4, hw4⟩ : ∃ w4, w3.setCell ⟨N, 25, none⟩ (.string X) = w4 := ⟨_, rfl⟩
 have hk6 : Blk w4 N 30 q.l := by rw [← hw4, ← hqq]; exact hk4.set 25 (.string X)
 have hk7 : Blk w4 M 30 (ordA 0 0 0 0 0).toList := by rw [← hw4, ← hw3]; exact (hk2.other ⟨N, 12, none⟩ (show N ≠ M by omega) _).other ⟨N, 25, none⟩ (show N ≠ M by omega) _
 have hb4 : Below N W w4 := by rw [← hw4, ← hw3]; exact (hb12.setCell (p := ⟨N, 12, none⟩) (Nat.le_refl _) _).setCell (p := ⟨N, 25, none⟩) (Nat.le_refl _) _
 have HSZ := szO
 have HO1 : Hid (q.l.toArray.all (·.oneCell') = true) := q.oneC
 have HO2 : Hid ((ordA 0 0 0 0 0).toList.toArray.size = q.l.toArray.size) := rfl
 have HN := Lib.hid hN;have HB4 := Lib.hid hb4
 have HLE : Hid (N ≤ M) := Nat.le_of_lt hNM
 have HR6 := Lib.hid hk6.range;have HK7 := Lib.hid hk7
 have n1 : N ≠ M := by omega
 have n2 : M ≠ N := by omega
 have c12 : w2.cell? ⟨N, 12, none⟩ = some (.slice o.ao o.an o.ac) := hk3.cell 12
 have z12 := hk3.frozen 12
 have c25 : w3.cell? ⟨N, 25, none⟩ = some (.string o.txt) := hk4.cell 25
 have z25 := hk4.frozen 25
 have p1 : (0 : Int) ≤ (m : Int) := by omega
 have p2 : (m : Int) ≤ (o.ac : Int) := by omega
 have p3 : m ≤ o.ac := by omega
 have p4 : (0 : Int) ≤ (t : Int) := by omega
 have p5 : (t : Int) ≤ (o.txt.size : Int) := by omega
 have p6 : t ≤ o.txt.size := by omega
 dsimp only [ordA] at hw2
 show Calls Tryz.prog 7 #[.agg (aO o)] W _
 clear hb1 hb2 hk1 hk2 hk3 hk4 hk6 hk7 hNM hb12 hb4 hq hqq hm ht
 go_enter Tryz.func7, Tryz.ntmps7
 go_wp2_with (first | (refine wpList_load_mid rfl 30 (.tmp 1) rfl N 0 rfl q.l _ HR6.out Tryz.underlying30 rfl HSZ.out ?_) | (refine wpList_store_row rfl 30 (.tmp 2) (.tmp 25) rfl M q.l.toArray rfl rfl 30 _ HK7.out HSZ.out HO2.out HO1.out ?_))
 refine bodyPost_ret (results_cell_row Tryz.results7 _ _ M 30 q.l.toArray (0, 0) _ rfl (setRow_heap _ _ _ _ _ _ HK7.out) Tryz.underlying30 rfl HSZ.out) rfl ?_
 exact ⟨rfl, by rw [HN.out]; exact below_setRow HB4.out HLE.out _⟩
theorem below_setCells {B : Nat} {W A : World} (h : Below B W A) (hB : B ≤ A.heap.size) (g f : Nat) (cs : List Value) (hg : B ≤ g) : Below B W (A.setCells g f cs) :=
 h.trans ((Fr.setCells (S := fun c => c = g) g cs f (Fr.refl _ A) (.inl rfl)).below B hB (fun c e => by omega))
end Go.Proofs.YtjkiidhnmljmbaaGreatDoor
