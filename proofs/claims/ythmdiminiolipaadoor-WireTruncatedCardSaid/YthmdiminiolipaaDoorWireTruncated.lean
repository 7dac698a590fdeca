/-
  The walk of the law WireTruncated.
-/
import Derived.WalkKit
import Derived.OwnWalk
import Derived.WalkSpells
import Derived.WalkLawsBesides
import Derived.Lib.Hide
import Derived.IntWalk
import Derived.Test.YthmdiminiolipaaDoorWireSane
import Derived.Test.YthmdiminiolipaaDoorWireHelp
import Derived.Test.YthmdiminiolipaaDoorWireLaws
namespace Go.Proofs.YthmdiminiolipaaDoor
open Go.RowKit Onair
set_option maxHeartbeats 4000000 in
set_option maxRecDepth 100000 in
theorem walkTruncated (c d at_ : Int) (s : ByteArray) (w : World) (hs : s.size ≤ maxLen) (hc0 : -9223372036854775808 ≤ c) (hc1 : c ≤ 9223372036854775807) (hd0 : -9223372036854775808 ≤ d) (hd1 : d ≤ 9223372036854775807) (ha0 : -9223372036854775808 ≤ at_) (ha1 : at_ ≤ 9223372036854775807) (ht : TabAt w) :
    Calls Tryd.prog 7 #[.int .i64 c, .int .i64 d, .string s, .int .i64 at_] w fun e w' => e = .returned (.bool true) ∧ Below w.heap.size w w' := by
  unfold maxLen at hs
  have HT := Lib.hid ht
  clear ht
  go_enter Tryd.func7, Tryd.ntmps7
  go_wp2_with fail
  refine (sane_any _ HT.out).mono ?_
  rintro e w1 ⟨rfl, hb1⟩
  go_wp2_with fail
  refine (number_any _ _ hc0 hc1).mono ?_
  obtain ⟨x, hx⟩ : ∃ x, numF c = x := ⟨_, rfl⟩
  have hox := numF_ok c
  rw [hx] at hox ⊢
  have HX := Lib.hid hx
  have HOX := Lib.hid hox
  clear hx hox
  rintro e w2 ⟨rfl, hb2⟩
  go_wp2_with fail
  refine (putInt_any _ _).mono ?_
  rw [show putE x = 0 from by unfold putE; rw [HOX.out]; rfl]
  obtain ⟨A, hA⟩ : ∃ A : ByteArray, ByteArray.mk (putL x).toArray = A := ⟨_, rfl⟩
  rw [hA]
  have HA := Lib.hid hA
  have hA9 : A.size ≤ 9 ∧ 1 ≤ A.size := by rw [← HA.out]; have := uv_len (zig x); unfold putL; rw [HOX.out]; exact this
  obtain ⟨hA9, hA1⟩ := hA9
  clear hA
  rintro e w3 ⟨rfl, hb3⟩
  go_wp2_with fail
  refine (number_any _ _ hd0 hd1).mono ?_
  obtain ⟨y, hy⟩ : ∃ y, numF d = y := ⟨_, rfl⟩
  have hoy := numF_ok d
  rw [hy] at hoy ⊢
  have HY := Lib.hid hy
  have HOY := Lib.hid hoy
  clear hy hoy
  rintro e w4 ⟨rfl, hb4⟩
  go_wp2_with fail
  refine (putInt_any _ _).mono ?_
  rw [show putE y = 0 from by unfold putE; rw [HOY.out]; rfl]
  obtain ⟨B, hB⟩ : ∃ B : ByteArray, ByteArray.mk (putL y).toArray = B := ⟨_, rfl⟩
  rw [hB]
  have HB := Lib.hid hB
  have hB9 : B.size ≤ 9 ∧ 1 ≤ B.size := by rw [← HB.out]; have := uv_len (zig y); unfold putL; rw [HOY.out]; exact this
  obtain ⟨hB9, hB1⟩ := hB9
  clear hB
  rintro e w5 ⟨rfl, hb5⟩
  have hB5 := Lib.hid (bstep (bstep (bstep (bstep hb1 hb2) hb3) hb4) hb5)
  clear hb1 hb2 hb3 hb4 hb5
  by_cases h200 : 200 < s.size
  · have h200' : ¬ s.size ≤ 200 := by omega
    go_wp2_with fail
    obtain ⟨T, hT⟩ : ∃ T : ByteArray, s.extract 0 200 = T := ⟨_, rfl⟩
    have hT2 : T.size ≤ 200 := by rw [← hT]; simp; omega
    rw [hT]
    clear hT
    refine (putString_any T _ (small_len _ (by omega))).mono ?_
    rw [show putSE T.data.toList = 0 from by unfold putSE; rw [len_data, if_neg (by omega)]]
    obtain ⟨U, hU⟩ : ∃ U : ByteArray, ByteArray.mk (putSL T.data.toList).toArray = U := ⟨_, rfl⟩
    rw [hU]
    have HU := Lib.hid hU
    have hUl : U.size ≤ 300 ∧ 1 ≤ U.size := by
      have h1 := putL_len T.data.toList.length
      have h2 := uv_len (zig T.data.toList.length)
      have h3 : putSL T.data.toList = putL T.data.toList.length ++ T.data.toList := putSL_eq _ (by rw [len_data]; omega)
      have h4 : (putL T.data.toList.length).length = (uv (zig T.data.toList.length)).length := by unfold putL; rw [len_ok _ (by rw [len_data]; omega)]; rfl
      rw [← HU.out]
      show (putSL T.data.toList).length ≤ 300 ∧ 1 ≤ (putSL T.data.toList).length
      rw [h3, List.length_append, len_data]
      rw [len_data] at h1 h2 h4
      omega
    obtain ⟨hU3, hU1⟩ := hUl
    clear hU
    have hA0 : ((A.size : Int) == 0) = false := by rw [beq_eq_false_iff_ne]; omega
    have hU0 : ((U.size : Int) == 0) = false := by rw [beq_eq_false_iff_ne]; omega
    rintro e w6 ⟨rfl, hb6⟩
    have hB6 := Lib.hid (bstep hB5.out hb6)
    clear hB5 hb6
    go_wp2_with fail
    refine (pick_any _ _ _ ha0 ha1 (by omega) (by omega)).mono ?_
    have hp1 := pickI_bd at_ A.size (by omega)
    obtain ⟨k1, hk1⟩ : ∃ k1 : Nat, pickI at_ A.size = (k1 : Int) := ⟨(pickI at_ A.size).toNat, by omega⟩
    rw [hk1] at hp1 ⊢
    clear hk1
    obtain ⟨hp10, hp11⟩ := hp1
    rintro e w' ⟨rfl, rfl⟩
    go_wp2_with fail
    refine (int_any _ _ _ (small_len _ (by simp; omega))).mono ?_
    rw [show intR (A.extract 0 k1).data.toList 0 = (0, 0, 10) from by
      rw [← HA.out]
      have h1 := extract_list ⟨(putL x).toArray⟩ 0 k1
      rw [Nat.zero_add] at h1
      rw [h1]
      have h2 := intR_take_put HOX.out k1 (by have : A.size = (putL x).length := by rw [← HA.out]; rfl
                                              omega) []
      simpa using h2]
    rintro e w' ⟨rfl, rfl⟩
    go_wp2_with fail
    refine (pick_any _ _ _ ha0 ha1 (by omega) (by omega)).mono ?_
    have hp2 := pickI_bd at_ U.size (by omega)
    obtain ⟨k2, hk2⟩ : ∃ k2 : Nat, pickI at_ U.size = (k2 : Int) := ⟨(pickI at_ U.size).toNat, by omega⟩
    rw [hk2] at hp2 ⊢
    clear hk2
    obtain ⟨hp20, hp21⟩ := hp2
    rintro e w' ⟨rfl, rfl⟩
    go_wp2_with fail
    refine (string_any _ _ _ (small_len _ (by simp; omega))).mono ?_
    rw [show strR (U.extract 0 k2).data.toList 0 = ([], 0, 10) from by
      rw [← HU.out]
      have h1 := extract_list ⟨(putSL T.data.toList).toArray⟩ 0 k2
      rw [Nat.zero_add] at h1
      rw [h1]
      have h2 := strR_take_put T.data.toList (by rw [len_data]; omega) k2 (by have : U.size = (putSL T.data.toList).length := by rw [← HU.out]; rfl
                                                                              omega)
      simpa using h2]
    rintro e w' ⟨rfl, rfl⟩
    have hAl : A.data.toList = putL x := by rw [← HA.out]
    have hBl : B.data.toList = putL y := by rw [← HB.out]
    have HAl := Lib.hid hAl
    have HBl := Lib.hid hBl
    clear hAl hBl
    by_cases hxy : x = y
    · subst hxy
      obtain rfl : A = B := by rw [← HA.out, ← HB.out]
      have hEq : ((A.extract 0 A.size).toList == A.toList) = true := by
        rw [show A.extract 0 A.size = A from by simp]
        simp
      have hxx : (x == x) = true := by simp
      have hle : (A.size : Int) ≤ A.size := Int.le_refl _
      go_wp2_with fail
      refine (number_any _ _ hc0 hc1).mono ?_
      rw [HX.out]
      rintro e w7 ⟨rfl, hb7⟩
      go_wp2_with fail
      refine (number_any _ _ hd0 hd1).mono ?_
      rw [HY.out]
      rintro e w8 ⟨rfl, hb8⟩
      go_wp2_with fail
      go_ret
      exact ⟨rfl, bstep (bstep hB6.out hb7) hb8⟩
    · have hne : (x == y) = false := by simpa using hxy
      have hNe : A.size ≤ B.size → ((B.extract 0 A.size).toList == A.toList) = false := by
        intro hle
        rw [beq_eq_false_iff_ne]
        intro h
        apply hxy
        apply putL_inj HOX.out HOY.out (B.data.toList.drop A.size)
        rw [ByteArray.toList_eq, ByteArray.toList_eq, ByteArray.data_extract] at h
        rw [← HBl.out, ← HAl.out, ← h]
        simp
      clear hxy
      by_cases hle : A.size ≤ B.size
      · have hle' : (A.size : Int) ≤ B.size := by omega
        have hNe' := hNe hle
        clear hNe
        go_wp2_with fail
        refine (number_any _ _ hc0 hc1).mono ?_
        rw [HX.out]
        rintro e w7 ⟨rfl, hb7⟩
        go_wp2_with fail
        refine (number_any _ _ hd0 hd1).mono ?_
        rw [HY.out]
        rintro e w8 ⟨rfl, hb8⟩
        go_wp2_with fail
        go_ret
        exact ⟨rfl, bstep (bstep hB6.out hb7) hb8⟩
      · have hle' : ¬ (A.size : Int) ≤ B.size := by omega
        clear hNe
        go_wp2_with fail
        refine (number_any _ _ hc0 hc1).mono ?_
        rw [HX.out]
        rintro e w7 ⟨rfl, hb7⟩
        go_wp2_with fail
        refine (number_any _ _ hd0 hd1).mono ?_
        rw [HY.out]
        rintro e w8 ⟨rfl, hb8⟩
        go_wp2_with fail
        go_ret
        exact ⟨rfl, bstep (bstep hB6.out hb7) hb8⟩
  · have h200' : s.size ≤ 200 := by omega
    clear h200
    go_wp2_with fail
    obtain ⟨T, hT⟩ : ∃ T : ByteArray, s = T := ⟨_, rfl⟩
    have hT2 : T.size ≤ 200 := by rw [← hT]; omega
    rw [hT]
    clear hT
    refine (putString_any T _ (small_len _ (by omega))).mono ?_
    rw [show putSE T.data.toList = 0 from by unfold putSE; rw [len_data, if_neg (by omega)]]
    obtain ⟨U, hU⟩ : ∃ U : ByteArray, ByteArray.mk (putSL T.data.toList).toArray = U := ⟨_, rfl⟩
    rw [hU]
    have HU := Lib.hid hU
    have hUl : U.size ≤ 300 ∧ 1 ≤ U.size := by
      have h1 := putL_len T.data.toList.length
      have h2 := uv_len (zig T.data.toList.length)
      have h3 : putSL T.data.toList = putL T.data.toList.length ++ T.data.toList := putSL_eq _ (by rw [len_data]; omega)
      have h4 : (putL T.data.toList.length).length = (uv (zig T.data.toList.length)).length := by unfold putL; rw [len_ok _ (by rw [len_data]; omega)]; rfl
      rw [← HU.out]
      show (putSL T.data.toList).length ≤ 300 ∧ 1 ≤ (putSL T.data.toList).length
      rw [h3, List.length_append, len_data]
      rw [len_data] at h1 h2 h4
      omega
    obtain ⟨hU3, hU1⟩ := hUl
    clear hU
    have hA0 : ((A.size : Int) == 0) = false := by rw [beq_eq_false_iff_ne]; omega
    have hU0 : ((U.size : Int) == 0) = false := by rw [beq_eq_false_iff_ne]; omega
    rintro e w6 ⟨rfl, hb6⟩
    have hB6 := Lib.hid (bstep hB5.out hb6)
    clear hB5 hb6
    go_wp2_with fail
    refine (pick_any _ _ _ ha0 ha1 (by omega) (by omega)).mono ?_
    have hp1 := pickI_bd at_ A.size (by omega)
    obtain ⟨k1, hk1⟩ : ∃ k1 : Nat, pickI at_ A.size = (k1 : Int) := ⟨(pickI at_ A.size).toNat, by omega⟩
    rw [hk1] at hp1 ⊢
    clear hk1
    obtain ⟨hp10, hp11⟩ := hp1
    rintro e w' ⟨rfl, rfl⟩
    go_wp2_with fail
    refine (int_any _ _ _ (small_len _ (by simp; omega))).mono ?_
    rw [show intR (A.extract 0 k1).data.toList 0 = (0, 0, 10) from by
      rw [← HA.out]
      have h1 := extract_list ⟨(putL x).toArray⟩ 0 k1
      rw [Nat.zero_add] at h1
      rw [h1]
      have h2 := intR_take_put HOX.out k1 (by have : A.size = (putL x).length := by rw [← HA.out]; rfl
                                              omega) []
      simpa using h2]
    rintro e w' ⟨rfl, rfl⟩
    go_wp2_with fail
    refine (pick_any _ _ _ ha0 ha1 (by omega) (by omega)).mono ?_
    have hp2 := pickI_bd at_ U.size (by omega)
    obtain ⟨k2, hk2⟩ : ∃ k2 : Nat, pickI at_ U.size = (k2 : Int) := ⟨(pickI at_ U.size).toNat, by omega⟩
    rw [hk2] at hp2 ⊢
    clear hk2
    obtain ⟨hp20, hp21⟩ := hp2
    rintro e w' ⟨rfl, rfl⟩
    go_wp2_with fail
    refine (string_any _ _ _ (small_len _ (by simp; omega))).mono ?_
    rw [show strR (U.extract 0 k2).data.toList 0 = ([], 0, 10) from by
      rw [← HU.out]
      have h1 := extract_list ⟨(putSL T.data.toList).toArray⟩ 0 k2
      rw [Nat.zero_add] at h1
      rw [h1]
      have h2 := strR_take_put T.data.toList (by rw [len_data]; omega) k2 (by have : U.size = (putSL T.data.toList).length := by rw [← HU.out]; rfl
                                                                              omega)
      simpa using h2]
    rintro e w' ⟨rfl, rfl⟩
    have hAl : A.data.toList = putL x := by rw [← HA.out]
    have hBl : B.data.toList = putL y := by rw [← HB.out]
    have HAl := Lib.hid hAl
    have HBl := Lib.hid hBl
    clear hAl hBl
    by_cases hxy : x = y
    · subst hxy
      obtain rfl : A = B := by rw [← HA.out, ← HB.out]
      have hEq : ((A.extract 0 A.size).toList == A.toList) = true := by
        rw [show A.extract 0 A.size = A from by simp]
        simp
      have hxx : (x == x) = true := by simp
      have hle : (A.size : Int) ≤ A.size := Int.le_refl _
      go_wp2_with fail
      refine (number_any _ _ hc0 hc1).mono ?_
      rw [HX.out]
      rintro e w7 ⟨rfl, hb7⟩
      go_wp2_with fail
      refine (number_any _ _ hd0 hd1).mono ?_
      rw [HY.out]
      rintro e w8 ⟨rfl, hb8⟩
      go_wp2_with fail
      go_ret
      exact ⟨rfl, bstep (bstep hB6.out hb7) hb8⟩
    · have hne : (x == y) = false := by simpa using hxy
      have hNe : A.size ≤ B.size → ((B.extract 0 A.size).toList == A.toList) = false := by
        intro hle
        rw [beq_eq_false_iff_ne]
        intro h
        apply hxy
        apply putL_inj HOX.out HOY.out (B.data.toList.drop A.size)
        rw [ByteArray.toList_eq, ByteArray.toList_eq, ByteArray.data_extract] at h
        rw [← HBl.out, ← HAl.out, ← h]
        simp
      clear hxy
      by_cases hle : A.size ≤ B.size
      · have hle' : (A.size : Int) ≤ B.size := by omega
        have hNe' := hNe hle
        clear hNe
        go_wp2_with fail
        refine (number_any _ _ hc0 hc1).mono ?_
        rw [HX.out]
        rintro e w7 ⟨rfl, hb7⟩
        go_wp2_with fail
        refine (number_any _ _ hd0 hd1).mono ?_
        rw [HY.out]
        rintro e w8 ⟨rfl, hb8⟩
        go_wp2_with fail
        go_ret
        exact ⟨rfl, bstep (bstep hB6.out hb7) hb8⟩
      · have hle' : ¬ (A.size : Int) ≤ B.size := by omega
        clear hNe
        go_wp2_with fail
        refine (number_any _ _ hc0 hc1).mono ?_
        rw [HX.out]
        rintro e w7 ⟨rfl, hb7⟩
        go_wp2_with fail
        refine (number_any _ _ hd0 hd1).mono ?_
        rw [HY.out]
        rintro e w8 ⟨rfl, hb8⟩
        go_wp2_with fail
        go_ret
        exact ⟨rfl, bstep (bstep hB6.out hb7) hb8⟩
end Go.Proofs.YthmdiminiolipaaDoor
