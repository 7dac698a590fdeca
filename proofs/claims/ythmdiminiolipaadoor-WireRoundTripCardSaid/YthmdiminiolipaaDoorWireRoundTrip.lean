/-
  The walk of the law WireRoundTrip.
-/
import Derived.WalkKit
import Derived.OwnWalk
import Derived.WalkSpells
import Derived.WalkLawsBesides
import Derived.Lib.Hide
import Derived.IntWalk
import Derived.Test.YthmdiminiolipaaDoorWireSane
import Derived.Test.YthmdiminiolipaaDoorWireHelp
import Derived.Test.YthmdiminiolipaaDoorWireLaws
set_option linter.unusedVariables false
set_option linter.unusedSimpArgs false
namespace Go.Proofs.YthmdiminiolipaaDoor
open Go.RowKit Onair
set_option maxHeartbeats 4000000 in
set_option maxRecDepth 100000 in
theorem walkRoundTrip (c : Int) (s p q : ByteArray) (w : World) (hs : s.size ≤ maxLen) (hp : p.size ≤ maxLen) (hq : q.size ≤ maxLen) (hc0 : -9223372036854775808 ≤ c) (hc1 : c ≤ 9223372036854775807) (ht : TabAt w) :
    Calls Tryd.prog 4 #[.int .i64 c, .string s, .agg #[.string p, .string q]] w fun e w' => e = .returned (.bool true) ∧ Below w.heap.size w w' := by
  unfold maxLen at hs hp hq
  have HT := Lib.hid ht
  have h0 := ht.lt
  clear ht
  go_enter Tryd.func4, Tryd.ntmps4
  go_wp2_with fail
  have hb0 : Below w.heap.size w (w.alloc (.cells #[.string p, .string q] 36)) := (Below.refl _ w).alloc (Nat.le_refl _) _
  refine (sane_any _ (HT.out.below hb0 h0)).mono ?_
  rintro e w1 ⟨rfl, hb1⟩
  have c0 : w1.cell? ⟨w.heap.size, 0, none⟩ = some (.string p) := (hb1.cell (p := ⟨w.heap.size, 0, none⟩) (by simp)).trans (by go_simp)
  have c1 : w1.cell? ⟨w.heap.size, 1, none⟩ = some (.string q) := (hb1.cell (p := ⟨w.heap.size, 1, none⟩) (by simp)).trans (by go_simp)
  have hz1 : w.heap.size < w1.heap.size := by have := hb1.size; simp at this; omega
  go_wp2_with fail
  refine (number_any _ _ hc0 hc1).mono ?_
  obtain ⟨x, hx⟩ : ∃ x, numF c = x := ⟨_, rfl⟩
  have hox := numF_ok c
  rw [hx] at hox ⊢
  have HOX := Lib.hid hox
  clear hx hox
  rintro e w2 ⟨rfl, hb2⟩
  have d0 : w2.cell? ⟨w.heap.size, 0, none⟩ = some (.string p) := (hb2.cell (p := ⟨w.heap.size, 0, none⟩) hz1).trans c0
  have d1 : w2.cell? ⟨w.heap.size, 1, none⟩ = some (.string q) := (hb2.cell (p := ⟨w.heap.size, 1, none⟩) hz1).trans c1
  have HB := Lib.hid (bstep (bstep hb0 hb1) hb2)
  clear hb0 hb1 hb2 c0 c1 hz1
  obtain ⟨mp, P, hp1, hp2, hp3, hp4, hp5⟩ := min_cut p 200
  obtain ⟨mq, Q, hq1, hq2, hq3, hq4, hq5⟩ := min_cut q 200
  obtain ⟨ms, T, hs1, hs2, hs3, hs4, hs5⟩ := min_cut s 200
  rw [show ((200 : Nat) : Int) = 200 from rfl] at hp4 hq4 hs4
  have HP5 := Lib.hid hp5
  have HQ5 := Lib.hid hq5
  have HS5 := Lib.hid hs5
  go_wp2_with fail
  have hP2 : P.size ≤ 200 := by omega
  have hQ2 : Q.size ≤ 200 := by omega
  have hT2 : T.size ≤ 200 := by omega
  clear hp1 hp2 hp3 hp4 hp5 hq1 hq2 hq3 hq4 hq5 hs1 hs2 hs3 hs4 hs5 HP5 HQ5 HS5 d0 d1
  refine (putInt_any _ _).mono ?_
  rw [show putE x = 0 from by unfold putE; rw [HOX.out]; rfl]
  obtain ⟨A, hA⟩ : ∃ A : ByteArray, ByteArray.mk (putL x).toArray = A := ⟨_, rfl⟩
  rw [hA]
  have HA : Hid (A.data.toList = putL x) := by rw [← hA]; exact rfl
  have hA9 : A.size ≤ 9 := by rw [← hA]; exact putL_len x
  clear hA
  rintro e w3 ⟨rfl, hb3⟩
  go_wp2_with fail
  refine (putString_any _ _ (small_len _ (by omega))).mono ?_
  rw [show putSE T.data.toList = 0 from by unfold putSE; rw [len_data, if_neg (by omega)]]
  obtain ⟨B, hB⟩ : ∃ B : ByteArray, ByteArray.mk (putSL T.data.toList).toArray = B := ⟨_, rfl⟩
  rw [hB]
  have HBl : Hid (B.data.toList = putSL T.data.toList) := by rw [← hB]; exact rfl
  have hB9 : B.size ≤ 300 := by
    have h1 := putL_len T.data.toList.length
    have h3 : putSL T.data.toList = putL T.data.toList.length ++ T.data.toList := putSL_eq _ (by rw [len_data]; omega)
    rw [← hB]
    show (putSL T.data.toList).length ≤ 300
    rw [h3, List.length_append, len_data]
    rw [len_data] at h1
    omega
  clear hB
  rintro e w4 ⟨rfl, hb4⟩
  have HB4 := Lib.hid (bstep (bstep HB.out hb3) hb4)
  clear HB hb3 hb4
  go_wp2_with fail
  refine (int_any _ _ _ (small_len _ (by simp; omega))).mono ?_
  rw [show intR (P ++ A ++ Q).data.toList P.size = (x, (P.size : Int) + A.size, 0) from by
    have h := intR_put P.data.toList Q.data.toList x HOX.out
    rw [← HA.out, len_data, len_data] at h
    simpa using h]
  rintro e w' ⟨rfl, rfl⟩
  go_wp2_with fail
  refine (string_any _ _ _ (small_len _ (by simp; omega))).mono ?_
  rw [show strR (P ++ B ++ Q).data.toList P.size = (T.data.toList, (P.size : Int) + B.size, 0) from by
    have h := strR_put P.data.toList Q.data.toList T.data.toList (by rw [len_data]; omega)
    rw [← HBl.out, len_data, len_data] at h
    simpa using h]
  rintro e w' ⟨rfl, rfl⟩
  rw [bmk]
  have k1 : (x == x) = true := by simp
  have k2 : (((P.size : Int) + A.size) == ((P.size : Int) + A.size)) = true := by simp
  have k3 : (((P.size : Int) + B.size) == ((P.size : Int) + B.size)) = true := by simp
  have k4 : (T.toList == T.toList) = true := by simp
  go_wp2_with fail
  go_ret
  exact ⟨rfl, HB4.out⟩
end Go.Proofs.YthmdiminiolipaaDoor
