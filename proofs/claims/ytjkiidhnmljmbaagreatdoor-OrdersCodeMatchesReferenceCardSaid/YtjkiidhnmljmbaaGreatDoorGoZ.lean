/-
  Orders of every kind: the law's cut of an order.
-/
import Derived.Test.YtjkiidhnmljmbaaGreatDoorGoL
import Derived.Test.YtjkiidhnmljmbaaGreatDoorLits
set_option linter.unusedVariables false
set_option linter.unusedSimpArgs false
namespace Go.Proofs.YtjkiidhnmljmbaaGreatDoor
open Go.RowKit
/-- The order with at most 9 alternatives and a text of at most 300 bytes. -/
def GOd.cutO (o : GOd) : GOd := { o with an := min o.an 9, txt := o.txt.extract 0 (min o.txt.size 300) }
theorem cut_facts (o : GOd) : (o.cutO).an ≤ 9 ∧ (o.cutO).an ≤ o.an ∧ (o.cutO).txt.size ≤ 300 ∧ (o.cutO).ao = o.ao ∧ (o.cutO).ac = o.ac := by
  refine ⟨Nat.min_le_right _ _, Nat.min_le_left _ _, ?_, rfl, rfl⟩
  show (o.txt.extract 0 (min o.txt.size 300)).size ≤ 300
  rw [ByteArray.size_extract]
  omega
theorem cut_alts {o : GOd} {al : List (Int × Int)} {W : World} (hn : al.length = o.an) (hr : RdA W o.ao al) : (al.take 9).length = (o.cutO).an ∧ RdA W (o.cutO).ao (al.take 9) := by
  refine ⟨by rw [List.length_take, hn]; exact Nat.min_comm _ _, ?_⟩
  rcases hr with rfl | ⟨b, f, e, hlt, hc⟩
  · exact .inl rfl
  · exact .inr ⟨b, f, e, hlt, fun i p hp => hc i p (by
      rw [List.getElem?_take] at hp
      split at hp
      · exact hp
      · cases hp)⟩
set_option maxHeartbeats 8000000 in
set_option maxRecDepth 100000 in
theorem gCut (o : GOd) (W : World) (hac : o.an ≤ o.ac) (hcm : o.ac ≤ maxLen) (hts : o.txt.size ≤ maxLen) : Calls Tryz.prog 7 #[.agg o.l.toArray] W fun en w' => en = .returned (.agg (o.cutO).l.toArray) ∧ Below W.heap.size W w' := by
  obtain ⟨m, hm⟩ : ∃ m, min o.an 9 = m := ⟨_, rfl⟩
  obtain ⟨t, ht⟩ : ∃ t, min o.txt.size 300 = t := ⟨_, rfl⟩
  obtain ⟨X, hX⟩ : ∃ X, o.txt.extract 0 t = X := ⟨_, rfl⟩
  have hq : o.cutO = { o with an := m, txt := X } := by unfold GOd.cutO; rw [hm, ht, hX]
  rw [hq]
  obtain ⟨q, hqq⟩ : ∃ q : GOd, ({ o with an := m, txt := X } : GOd) = q := ⟨_, rfl⟩
  rw [hqq]
  have hm1 : min (o.an : Int) 9 = (m : Int) := by omega
  have hm2 : (if (9 : Int) < (o.an : Int) then (9 : Int) else (o.an : Int)) = (m : Int) := by split <;> omega
  have ht1 : min (o.txt.size : Int) 300 = (t : Int) := by omega
  have ht2 : (if (300 : Int) < (o.txt.size : Int) then (300 : Int) else (o.txt.size : Int)) = (t : Int) := by split <;> omega
  obtain ⟨N, hN⟩ : ∃ N, W.heap.size = N := ⟨_, rfl⟩
  obtain ⟨w1, hw1⟩ : ∃ w1, W.alloc (.cells (aO o) 30) = w1 := ⟨_, rfl⟩
  have hb1 : Below N W w1 := by rw [← hw1, ← hN]; exact (Below.refl _ W).alloc (Nat.le_refl _) _
  have hk1 : Blk w1 N 30 o.l := by rw [← hw1, ← hN]; exact Blk.new W _ o.l
  obtain ⟨M, hM⟩ : ∃ M, w1.heap.size = M := ⟨_, rfl⟩
  obtain ⟨w2, hw2⟩ : ∃ w2, w1.alloc (.cells (ordA 0 0 0 0 0) 30) = w2 := ⟨_, rfl⟩
  have hb2 : Below M w1 w2 := by rw [← hw2, ← hM]; exact (Below.refl _ w1).alloc (Nat.le_refl _) _
  have hk2 : Blk w2 M 30 (ordA 0 0 0 0 0).toList := by rw [← hw2, ← hM]; exact Blk.new w1 _ _
  have hNM : N < M := by rw [← hM]; exact hk1.lt
  have hk3 : Blk w2 N 30 o.l := hk1.kept (hb2.block N hNM)
  have hb12 : Below N W w2 := hb1.trans (hb2.mono (Nat.le_of_lt hNM))
  obtain ⟨w3, hw3⟩ : ∃ w3, w2.setCell ⟨N, 12, none⟩ (.slice o.ao m o.ac) = w3 := ⟨_, rfl⟩
  have hk4 := hk3.set 12 (.slice o.ao m o.ac)
  rw [hw3] at hk4
  obtain ⟨w4, hw4⟩ : ∃ w4, w3.setCell ⟨N, 25, none⟩ (.string X) = w4 := ⟨_, rfl⟩
  have hk6 : Blk w4 N 30 q.l := by rw [← hw4, ← hqq]; exact hk4.set 25 (.string X)
  have hk7 : Blk w4 M 30 (ordA 0 0 0 0 0).toList := by rw [← hw4, ← hw3]; exact (hk2.other ⟨N, 12, none⟩ (show N ≠ M by omega) _).other ⟨N, 25, none⟩ (show N ≠ M by omega) _
  have hb4 : Below N W w4 := by rw [← hw4, ← hw3]; exact (hb12.setCell (p := ⟨N, 12, none⟩) (Nat.le_refl _) _).setCell (p := ⟨N, 25, none⟩) (Nat.le_refl _) _
  have HSZ := Lib.hid (show (Tryz.prog.info? 30).map (·.size) = some 26 from by kernel_rfl)
  have HO1 : Hid (q.l.toArray.all (·.oneCell') = true) := q.oneC
  have HO2 : Hid ((ordA 0 0 0 0 0).toList.toArray.size = q.l.toArray.size) := rfl
  have HN := Lib.hid hN
  have HB4 := Lib.hid hb4
  have HLE : Hid (N ≤ M) := Nat.le_of_lt hNM
  have HR6 := Lib.hid hk6.range
  have HK7 := Lib.hid hk7
  have n1 : N ≠ M := by omega
  have n2 : M ≠ N := by omega
  have c12 : w2.cell? ⟨N, 12, none⟩ = some (.slice o.ao o.an o.ac) := hk3.cell 12
  have z12 := hk3.frozen 12
  have c25 : w3.cell? ⟨N, 25, none⟩ = some (.string o.txt) := hk4.cell 25
  have z25 := hk4.frozen 25
  have p1 : (0 : Int) ≤ (m : Int) := by omega
  have p2 : (m : Int) ≤ (o.ac : Int) := by omega
  have p3 : m ≤ o.ac := by omega
  have p4 : (0 : Int) ≤ (t : Int) := by omega
  have p5 : (t : Int) ≤ (o.txt.size : Int) := by omega
  have p6 : t ≤ o.txt.size := by omega
  dsimp only [ordA] at hw2
  show Calls Tryz.prog 7 #[.agg (aO o)] W _
  clear hb1 hb2 hk1 hk2 hk3 hk4 hk6 hk7 hNM hb12 hb4 hq hqq hm ht
  go_enter Tryz.func7, Tryz.ntmps7
  go_wp2_with (first | (refine wpList_load_mid rfl 30 (.tmp 1) rfl N 0 rfl q.l _ HR6.out Tryz.underlying30 rfl HSZ.out ?_) | (refine wpList_store_row rfl 30 (.tmp 2) (.tmp 25) rfl M q.l.toArray rfl rfl 30 _ HK7.out HSZ.out HO2.out HO1.out ?_))
  refine bodyPost_ret (results_cell_row Tryz.results7 _ _ M 30 q.l.toArray (0, 0) _ rfl (setRow_heap _ _ _ _ _ _ HK7.out) Tryz.underlying30 rfl HSZ.out) rfl ?_
  exact ⟨rfl, by rw [HN.out]; exact below_setRow HB4.out HLE.out _⟩
end Go.Proofs.YtjkiidhnmljmbaaGreatDoor
