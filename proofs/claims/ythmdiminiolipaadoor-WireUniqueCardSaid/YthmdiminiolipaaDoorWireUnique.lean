/-
  The walk of the law WireUnique.
-/
import Derived.WalkKit
import Derived.LoopTactic
import Derived.OwnWalk
import Derived.WalkSpells
import Derived.WalkLawsBesides
import Derived.RegionTactic
import Derived.BigRegion
import Derived.ChangeAlike
import Derived.Lib.Hide
import Derived.Lib.SlBytesConst
import Derived.IntWalk
import Derived.Test.YthmdiminiolipaaDoorWireSane
import Derived.Test.YthmdiminiolipaaDoorWireHelp
import Derived.Test.YthmdiminiolipaaDoorWireLaws
set_option linter.unusedVariables false
set_option linter.unusedSimpArgs false
namespace Go.Proofs.YthmdiminiolipaaDoor
open Go.RowKit Onair
set_option maxHeartbeats 4000000 in
set_option maxRecDepth 100000 in
theorem walkUnique (s : ByteArray) (at_ b : Int) (w : World) (hs : s.size ≤ maxLen) (ha0 : -9223372036854775808 ≤ at_) (ha1 : at_ ≤ 9223372036854775807) (hb0 : 0 ≤ b) (hb1 : b ≤ 255) (ht : TabAt w) :
    Calls Tryd.prog 5 #[.string s, .int .i64 at_, .int .u8 b] w fun e w' => e = .returned (.bool true) ∧ Below w.heap.size w w' := by
  unfold maxLen at hs
  have HT := Lib.hid ht
  clear ht
  go_enter Tryd.func5, Tryd.ntmps5
  go_wp2_with fail
  refine (sane_any _ HT.out).mono ?_
  rintro e w1 ⟨rfl, hb1⟩
  obtain ⟨ms, T, hs1, hs2, hs3, hs4, hs5⟩ := min_cut s 300
  rw [show ((300 : Nat) : Int) = 300 from rfl] at hs4
  obtain ⟨B, hB⟩ : ∃ B : ByteArray, B = ⟨#[UInt8.ofNat b.toNat]⟩ := ⟨_, rfl⟩
  have kc : ∀ (W : World), W.cell? ⟨w1.heap.size, 0, none⟩ = some (.int .u8 b) → (convert 38 9 (.slice (some ⟨w1.heap.size, 0, none⟩) 1 1)).run Tryd.prog W = .ok (.string B) W := by
    intro W hW
    have h := run_convert_bytes_back (P := Tryd.prog) W 38 9 5 ⟨w1.heap.size, 0, none⟩ 1 [UInt8.ofNat b.toNat] Tryd.underlying38 Tryd.underlying5 Tryd.underlying9 (fun j hj => by
      have : j = 0 := by simpa using hj
      subst this
      show W.cell? _ = _
      rw [show ((⟨w1.heap.size, 0, none⟩ : Addr).add 0) = ⟨w1.heap.size, 0, none⟩ from by simp [Addr.add], hW]
      simp
      omega)
    rw [hB]
    exact h
  have kc1 := kc (w1.alloc (.cells #[.int .u8 b] 5)) (by go_simp)
  have kc2 := kc (w1.drew.alloc (.cells #[.int .u8 b] 5)) (by go_simp)
  have kc3 := kc (w1.alloc (.cells #[.int .u8 b] 5)).drew (by go_simp)
  have hBz : B.size = 1 := by rw [hB]; rfl
  have hTz : T.size ≤ 300 := by omega
  have HB := Lib.hid hB
  have HBz := Lib.hid hBz
  have hBz1 : B.size ≤ 1 := by omega
  clear kc hB hBz
  go_wp2_with fail
  go_region
  obtain ⟨U, hU⟩ : ∃ U : ByteArray, B ++ T = U := ⟨_, rfl⟩
  rw [hU]
  have hU1 : U.size ≤ 301 ∧ 1 ≤ U.size := by rw [← hU, ByteArray.size_append]; have := HBz.out; omega
  obtain ⟨hU1, hU2⟩ := hU1
  obtain ⟨W1, hW1⟩ : ∃ W1, (w1.alloc (.cells #[.int .u8 b] 5)).drew = W1 := ⟨_, rfl⟩
  rw [hW1]
  have HW1 : Hid (Below w.heap.size w W1) := by
    show Below _ _ _
    rw [← hW1]
    exact (hb1.alloc hb1.size _).drew
  clear hU hs5 kc1 kc2 kc3 hW1 HB HBz hBz1 hs1 hs2 hs3 hs4 hTz
  go_wp2_with fail
  refine (pick_any _ _ _ ha0 ha1 (by omega) (by omega)).mono ?_
  have hp1 := pickI_bd at_ (U.size + 1) (by omega)
  obtain ⟨k1, hk1⟩ : ∃ k1 : Nat, pickI at_ (U.size + 1) = (k1 : Int) := ⟨(pickI at_ (U.size + 1)).toNat, by omega⟩
  rw [hk1] at hp1 ⊢
  clear hk1
  obtain ⟨hp10, hp11⟩ := hp1
  rintro e w' ⟨rfl, rfl⟩
  go_wp2_with fail
  have HC : Hid ((W1.alloc (.cells #[.int .i64 0, .int .i64 (k1 : Int)] 3)).cell? ⟨W1.heap.size, 0, none⟩ = some (.int .i64 ((0 : Nat) : Int)) ∧ (W1.alloc (.cells #[.int .i64 0, .int .i64 (k1 : Int)] 3)).cell? ⟨W1.heap.size, 1, none⟩ = some (.int .i64 (k1 : Int)) ∧ W1.heap.size < (W1.alloc (.cells #[.int .i64 0, .int .i64 (k1 : Int)] 3)).heap.size) := by
    refine ⟨?_, ?_, ?_⟩
    · go_simp
    · go_simp
    · simp
  have HB2 : Hid (Below w.heap.size w (W1.alloc (.cells #[.int .i64 0, .int .i64 (k1 : Int)] 3))) := HW1.out.alloc HW1.out.size _
  have hkk : k1 ≤ U.size := by omega
  clear hp10 hp11
  go_loopw [38] (fun i wr => ∃ j : Nat, j ≤ 2 ∧ i = .int .i64 j ∧ Hid (Below w.heap.size w wr) ∧ Hid (wr.cell? ⟨W1.heap.size, 0, none⟩ = some (.int .i64 ((0 : Nat) : Int)) ∧ wr.cell? ⟨W1.heap.size, 1, none⟩ = some (.int .i64 (k1 : Int)) ∧ W1.heap.size < wr.heap.size)) (fun i _ => 2 - (intOf i).toNat)
  case atStart => exact ⟨0, by omega, rfl, HB2, HC⟩
  case round =>
    obtain ⟨j, hj, rfl, HBr, HCr⟩ := hrel
    clear HB2 HC HW1
    by_cases hj2 : j = 2
    · subst hj2
      go_wp2_with fail
      go_ret
      exact ⟨rfl, HBr.out⟩
    · have hj3 : (j : Int) < 2 := by omega
      obtain ⟨kk, hkU, hkc⟩ : ∃ kk : Nat, kk ≤ U.size ∧ wr.cell? ⟨W1.heap.size, j, none⟩ = some (.int .i64 (kk : Int)) := by
        rcases (show j = 0 ∨ j = 1 by omega) with rfl | rfl
        · exact ⟨0, by omega, HCr.out.1⟩
        · exact ⟨k1, hkk, HCr.out.2.1⟩
      have hlU : kk ≤ U.data.toList.length := by rw [len_data]; exact hkU
      obtain ⟨n, x, e, hr⟩ : ∃ n x e, intR U.data.toList kk = (n, x, e) := ⟨_, _, _, rfl⟩
      obtain ⟨v, y, g, hst⟩ : ∃ v y g, strR U.data.toList kk = (v, y, g) := ⟨_, _, _, rfl⟩
      have fI : (e = 0 ∧ putE n = 0 ∧ (kk : Int) ≤ x ∧ x ≤ U.size ∧ (U.extract kk x.toNat).toList = putL n) ∨ (e = 10 ∧ n = 0 ∧ x = 0) := by
        by_cases he : e = 0
        · left
          have h1 := intR_back U.data.toList kk (by rw [hr]; exact he)
          have h2 := intR_ok (l := U.data.toList) (a := kk) (by rw [hr]; exact he)
          rw [hr] at h1 h2
          rw [len_data] at h2
          obtain ⟨g1, g2, g3⟩ := h1
          refine ⟨he, by unfold putE; rw [g1]; rfl, by simp at h2; omega, h2.2.2.1, ?_⟩
          have := take_extract U kk _ _ g3 rfl
          simp only at g2
          rw [g2, ByteArray.toList_eq, show ((kk : Int) + ((putL n).length : Int)).toNat = kk + (putL n).length from by omega]
          exact this
        · right
          have := intR_err10 U.data.toList kk hlU (by rw [hr]; exact he)
          rw [hr] at this
          simp only [Prod.mk.injEq] at this
          exact ⟨this.2.2, this.1, this.2.1⟩
      have fS : (g = 0 ∧ putSE v = 0 ∧ v.length ≤ 65536 ∧ (kk : Int) ≤ y ∧ y ≤ U.size ∧ (U.extract kk y.toNat).toList = putSL v) ∨ (g = 10 ∧ v = [] ∧ y = 0) := by
        by_cases he : g = 0
        · left
          obtain ⟨g1, g2, g3, g4⟩ := strR_back U.data.toList kk (by rw [hst]; exact he)
          rw [hst] at g1 g2 g3 g4
          rw [len_data] at g4
          simp only at g1 g2 g3 g4
          refine ⟨he, by unfold putSE; rw [if_neg (by omega)], g1, by omega, g4, ?_⟩
          have := take_extract U kk _ _ g3 rfl
          rw [g2, ByteArray.toList_eq, show ((kk : Int) + ((putSL v).length : Int)).toNat = kk + (putSL v).length from by omega]
          exact this
        · right
          have := strR_err10 U.data.toList kk hlU (by rw [hst]; exact he)
          rw [hst] at this
          simp only [Prod.mk.injEq] at this
          exact ⟨this.2.2, this.1, this.2.1⟩
      have HR := Lib.hid hr
      have HS := Lib.hid hst
      clear hr hst hlU
      have hvl : v.length ≤ 65536 := by
        rcases fS with h | h
        · exact h.2.2.1
        · rw [h.2.1]; simp
      go_wp2_with fail
      refine (int_any _ _ _ (small_len _ (by omega))).mono ?_
      rw [HR.out]
      rintro e' w' ⟨rfl, rfl⟩
      go_wp2_with fail
      refine (putInt_any _ _).mono ?_
      obtain ⟨pe, hpe⟩ : ∃ pe, putE n = pe := ⟨_, rfl⟩
      obtain ⟨A, hA⟩ : ∃ A : ByteArray, ByteArray.mk (putL n).toArray = A := ⟨_, rfl⟩
      have hAl : putL n = A.toList := by rw [← hA, ByteArray.toList_eq]
      rw [hA, hpe]
      rw [hpe, hAl] at fI
      clear hpe hA hAl
      rintro e' w2 ⟨rfl, hb2⟩
      rcases fI with ⟨rfl, rfl, f1, f2, f3⟩ | ⟨rfl, rfl, rfl⟩
      · obtain ⟨xx, rfl⟩ : ∃ m : Nat, x = m := ⟨x.toNat, by omega⟩
        rw [Int.toNat_natCast] at f3
        have m1 : ((U.extract kk xx).toList == A.toList) = true := by rw [f3]; simp
        have m2 : ((U.extract kk xx).toList != A.toList) = false := by rw [f3]; simp
        clear f3
        go_wp2_with fail
        refine (string_any _ _ _ (small_len _ (by omega))).mono ?_
        rw [HS.out]
        obtain ⟨V, hV⟩ : ∃ V : ByteArray, ByteArray.mk v.toArray = V := ⟨_, rfl⟩
        have HV : Hid (V.data.toList = v) := by rw [← hV]; exact rfl
        have hVz : V.size ≤ 65536 := by rw [← hV]; exact hvl
        rw [hV]
        rintro e' w' ⟨rfl, rfl⟩
        go_wp2_with fail
        refine (putString_any _ _ (small_len _ (by omega))).mono ?_
        rw [HV.out]
        obtain ⟨pe2, hpe2⟩ : ∃ pe2, putSE v = pe2 := ⟨_, rfl⟩
        obtain ⟨C, hC⟩ : ∃ C : ByteArray, ByteArray.mk (putSL v).toArray = C := ⟨_, rfl⟩
        have hCl : putSL v = C.toList := by rw [← hC, ByteArray.toList_eq]
        rw [hC, hpe2]
        rw [hpe2, hCl] at fS
        clear hpe2 hC hCl
        rintro e' w3 ⟨rfl, hb3⟩
        have HB3 : Hid (Below w.heap.size w w3) := bstep (bstep HBr.out hb2) hb3
        have HC3 : Hid (w3.cell? ⟨W1.heap.size, 0, none⟩ = some (.int .i64 ((0 : Nat) : Int)) ∧ w3.cell? ⟨W1.heap.size, 1, none⟩ = some (.int .i64 (k1 : Int)) ∧ W1.heap.size < w3.heap.size) := by
          obtain ⟨q0, q1, q2⟩ := HCr.out
          have z2 := hb2.size
          have z3 := hb3.size
          refine ⟨?_, ?_, by omega⟩
          · rw [hb3.cell (p := ⟨W1.heap.size, 0, none⟩) (by show W1.heap.size < _; omega), hb2.cell (p := ⟨W1.heap.size, 0, none⟩) (by show W1.heap.size < _; omega)]; exact q0
          · rw [hb3.cell (p := ⟨W1.heap.size, 1, none⟩) (by show W1.heap.size < _; omega), hb2.cell (p := ⟨W1.heap.size, 1, none⟩) (by show W1.heap.size < _; omega)]; exact q1
        clear hb2 hb3 HBr HCr hkc
        rcases fS with ⟨rfl, rfl, _, k1', k2', k3'⟩ | ⟨rfl, hv0, rfl⟩
        · obtain ⟨yy, rfl⟩ : ∃ m : Nat, y = m := ⟨y.toNat, by omega⟩
          rw [Int.toNat_natCast] at k3'
          have l1 : ((U.extract kk yy).toList == C.toList) = true := by rw [k3']; simp
          have l2 : ((U.extract kk yy).toList != C.toList) = false := by rw [k3']; simp
          clear k3'
          go_wp2_with fail
          go_roundw
          case rel => exact ⟨j + 1, by omega, by go_num, HB3, HC3⟩
          case measure => simp [intOf]; omega
        · have hV0 : V = ⟨#[]⟩ := by
            have := HV.out
            rw [hv0] at this
            rw [← bmk V, this]
          clear hv0
          subst hV0
          go_wp2_with fail
          go_roundw
          case rel => exact ⟨j + 1, by omega, by go_num, HB3, HC3⟩
          case measure => simp [intOf]; omega
      · skip
        go_wp2_with fail
        refine (string_any _ _ _ (small_len _ (by omega))).mono ?_
        rw [HS.out]
        obtain ⟨V, hV⟩ : ∃ V : ByteArray, ByteArray.mk v.toArray = V := ⟨_, rfl⟩
        have HV : Hid (V.data.toList = v) := by rw [← hV]; exact rfl
        have hVz : V.size ≤ 65536 := by rw [← hV]; exact hvl
        rw [hV]
        rintro e' w' ⟨rfl, rfl⟩
        go_wp2_with fail
        refine (putString_any _ _ (small_len _ (by omega))).mono ?_
        rw [HV.out]
        obtain ⟨pe2, hpe2⟩ : ∃ pe2, putSE v = pe2 := ⟨_, rfl⟩
        obtain ⟨C, hC⟩ : ∃ C : ByteArray, ByteArray.mk (putSL v).toArray = C := ⟨_, rfl⟩
        have hCl : putSL v = C.toList := by rw [← hC, ByteArray.toList_eq]
        rw [hC, hpe2]
        rw [hpe2, hCl] at fS
        clear hpe2 hC hCl
        rintro e' w3 ⟨rfl, hb3⟩
        have HB3 : Hid (Below w.heap.size w w3) := bstep (bstep HBr.out hb2) hb3
        have HC3 : Hid (w3.cell? ⟨W1.heap.size, 0, none⟩ = some (.int .i64 ((0 : Nat) : Int)) ∧ w3.cell? ⟨W1.heap.size, 1, none⟩ = some (.int .i64 (k1 : Int)) ∧ W1.heap.size < w3.heap.size) := by
          obtain ⟨q0, q1, q2⟩ := HCr.out
          have z2 := hb2.size
          have z3 := hb3.size
          refine ⟨?_, ?_, by omega⟩
          · rw [hb3.cell (p := ⟨W1.heap.size, 0, none⟩) (by show W1.heap.size < _; omega), hb2.cell (p := ⟨W1.heap.size, 0, none⟩) (by show W1.heap.size < _; omega)]; exact q0
          · rw [hb3.cell (p := ⟨W1.heap.size, 1, none⟩) (by show W1.heap.size < _; omega), hb2.cell (p := ⟨W1.heap.size, 1, none⟩) (by show W1.heap.size < _; omega)]; exact q1
        clear hb2 hb3 HBr HCr hkc
        rcases fS with ⟨rfl, rfl, _, k1', k2', k3'⟩ | ⟨rfl, hv0, rfl⟩
        · obtain ⟨yy, rfl⟩ : ∃ m : Nat, y = m := ⟨y.toNat, by omega⟩
          rw [Int.toNat_natCast] at k3'
          have l1 : ((U.extract kk yy).toList == C.toList) = true := by rw [k3']; simp
          have l2 : ((U.extract kk yy).toList != C.toList) = false := by rw [k3']; simp
          clear k3'
          go_wp2_with fail
          go_roundw
          case rel => exact ⟨j + 1, by omega, by go_num, HB3, HC3⟩
          case measure => simp [intOf]; omega
        · have hV0 : V = ⟨#[]⟩ := by
            have := HV.out
            rw [hv0] at this
            rw [← bmk V, this]
          clear hv0
          subst hV0
          go_wp2_with fail
          go_roundw
          case rel => exact ⟨j + 1, by omega, by go_num, HB3, HC3⟩
          case measure => simp [intOf]; omega
end Go.Proofs.YthmdiminiolipaaDoor
