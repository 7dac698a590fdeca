/-
  The walks of the reference implementation of package wire: String, Sum.
-/
import Derived.WalkKit
import Derived.LoopTactic
import Derived.OwnWalk
import Derived.WalkSpells
import Derived.WalkLawsBesides
import Derived.Laws.BitsAllLaws
import Derived.Lib.Hide
import Derived.IntWalk
import Derived.Test.YthmdiminiolipaaDoorWireRefB
set_option linter.unusedVariables false
set_option linter.unusedSimpArgs false
namespace Go.Proofs.YthmdiminiolipaaDoor
open Go.RowKit Onair
set_option maxRecDepth 100000 in
theorem refString_any (s : ByteArray) (a : Int) (w : World) (hs : s.size ≤ maxLen) :
    Calls Tryd.prog 18 #[.string s, .int .i64 a] w fun e w' => e = .returned (.tuple #[.string ⟨(strR s.data.toList a).1.toArray⟩, .int .i64 (strR s.data.toList a).2.1, .int .i64 (strR s.data.toList a).2.2]) ∧ Below w.heap.size w w' := by
  have hs' := hs
  unfold maxLen at hs
  have hl := len_data s
  obtain ⟨n, x, e, hr⟩ : ∃ n x e, intR s.data.toList a = (n, x, e) := ⟨_, _, _, rfl⟩
  have hok : e = 0 → 0 ≤ a ∧ a < x ∧ x ≤ s.size ∧ -4611686018427387903 ≤ n ∧ n ≤ 4611686018427387903 := by
    have := intR_ok (l := s.data.toList) (a := a); rw [hr, hl] at this; exact this
  by_cases he : e = 0
  · subst he
    obtain ⟨h0, h1, h2, h3, h4⟩ := hok rfl
    by_cases hb : n < 0 ∨ 65536 < n ∨ (s.size : Int) - x < n
    · have e1 := strR_bad (l := s.data.toList) (a := a) (by rw [hr]) (by rw [hr, hl]; exact hb)
      rw [e1]
      clear e1 hl hok
      have HR := Lib.hid hr
      clear hr
      by_cases hb1 : n < 0
      · clear hb
        go_enter Tryd.func18, Tryd.ntmps18
        go_wp2_with (go_at_call 16; refine (refInt_any _ _ _ hs').mono ?_; rw [HR.out]; rintro e w' ⟨rfl, hb9⟩)
        go_ret3
        exact ⟨rfl, hb9⟩
      · by_cases hb2 : 65536 < n
        · clear hb
          go_enter Tryd.func18, Tryd.ntmps18
          go_wp2_with (go_at_call 16; refine (refInt_any _ _ _ hs').mono ?_; rw [HR.out]; rintro e w' ⟨rfl, hb9⟩)
          go_ret3
          exact ⟨rfl, hb9⟩
        · have hb3 : (s.size : Int) - x < n := by omega
          clear hb
          go_enter Tryd.func18, Tryd.ntmps18
          go_wp2_with (go_at_call 16; refine (refInt_any _ _ _ hs').mono ?_; rw [HR.out]; rintro e w' ⟨rfl, hb9⟩)
          go_ret3
          exact ⟨rfl, hb9⟩
    · have e1 := strR_good (l := s.data.toList) (a := a) (by rw [hr]) (by rw [hr, hl]; exact hb)
      rw [hr] at e1
      obtain ⟨nn, rfl⟩ : ∃ m : Nat, n = m := ⟨n.toNat, by omega⟩
      obtain ⟨xx, rfl⟩ : ∃ m : Nat, x = m := ⟨x.toNat, by omega⟩
      have hb1 : (nn : Int) ≤ 65536 := by omega
      have hb2 : (nn : Int) ≤ (s.size : Int) - xx := by omega
      have hb3 : (xx : Int) + nn ≤ (s.size : Int) := by omega
      simp only [Int.toNat_natCast] at e1
      rw [e1]
      clear e1 hl hok hb
      have HR := Lib.hid hr
      clear hr
      go_enter Tryd.func18, Tryd.ntmps18
      go_wp2_with (go_at_call 16; refine (refInt_any _ _ _ hs').mono ?_; rw [HR.out]; rintro e w' ⟨rfl, hb9⟩)
      go_ret3
      exact ⟨by rw [extract_list]; rfl, hb9⟩
  · rw [strR_err (by rw [hr]; exact he), hr]
    clear hok hl
    have HR := Lib.hid hr
    clear hr
    go_enter Tryd.func18, Tryd.ntmps18
    go_wp2_with (go_at_call 16; refine (refInt_any _ _ _ hs').mono ?_; rw [HR.out]; rintro e w' ⟨rfl, hb9⟩)
    go_ret3
    exact ⟨rfl, hb9⟩
set_option maxHeartbeats 1000000 in
set_option maxRecDepth 100000 in
theorem refSum_any (s : ByteArray) (w : World) (hs : s.size ≤ maxLen) :
    Calls Tryd.prog 22 #[.string s] w fun e w' => e = .returned (.int .i64 (sumL s.data.toList)) ∧ w = w' := by
  unfold maxLen at hs
  go_enter Tryd.func22, Tryd.ntmps22
  go_wp2
  go_loop [3, 4] (fun r i => ∃ k rr : Nat, k ≤ s.size ∧ i = .int .i64 k ∧ r = .int .u32 rr ∧ Hid (crc (s.data.toList.take k) = rr) ∧ rr < 4294967296) (fun _ i => s.size - (intOf i).toNat)
  case atStart => exact ⟨0, _, by omega, rfl, rfl, Lib.hid rfl, by decide⟩
  case round =>
    obtain ⟨k, rr, hk, rfl, rfl, HC, hr⟩ := hrel
    by_cases hlt : k < s.size
    · have hlt' : (k : Int) < s.size := by omega
      have hb := s[k].toNat_lt
      obtain ⟨r1, e1⟩ : ∃ r1, rr ^^^ s[k].toNat = r1 := ⟨_, rfl⟩
      have l1 : r1 < 4294967296 := e1 ▸ xor_lt32 hr (by omega)
      have x1 := xor32 rr s[k].toNat r1 hr (by omega) e1
      have HF : Hid (crc (s.data.toList.take (k + 1)) = bitTs 8 r1) := by
        show crc _ = _
        rw [List.take_succ_eq_append_getElem (by simpa using hlt)]
        unfold crc
        rw [List.foldl_append]
        show crcB (crc (s.data.toList.take k)) s[k] = _
        rw [HC.out, crcB_bits, e1]
      clear e1 HC
      go_wp2
      go_loop [3, 5] (fun r i => ∃ j q : Nat, j ≤ 8 ∧ i = .int .i64 j ∧ r = .int .u32 q ∧ Hid (bitTs j r1 = q) ∧ q < 4294967296) (fun _ i => 8 - (intOf i).toNat)
      case atStart => exact ⟨0, r1, by omega, rfl, rfl, rfl, l1⟩
      case round =>
        obtain ⟨j, q, hj, rfl, rfl, HQ, hq⟩ := hrel
        by_cases hj8 : j = 8
        · subst hj8
          go_wp2
          go_round
          case rel => exact ⟨k + 1, q, by omega, by go_num, rfl, by show _ = _; rw [HF.out, HQ.out], hq⟩
          case measure => simp [intOf]; omega
        · have hj8' : (j : Int) < 8 := by omega
          have HQ2 : Hid (bitTs (j + 1) r1 = bitT q) := by
            show _ = _
            rw [bitTs_add j 1 r1, HQ.out]; rfl
          have lq := bitT_lt hq
          by_cases hodd : q % 2 = 1
          · have ho : ((q : Int) % 2 == 1) = true := by rw [beq_iff_eq]; omega
            obtain ⟨q2, hq2⟩ : ∃ q2, bitT q = q2 := ⟨_, rfl⟩
            have xq : bits BinOp.xor IntKind.u32 ((q : Int) / 2) 2197175160 = (q2 : Int) := by
              have h := xor32 (q / 2) 2197175160 q2 (by omega) (by decide) (by rw [← hq2]; unfold bitT; rw [if_pos hodd])
              rw [show ((q / 2 : Nat) : Int) = (q : Int) / 2 from by omega, show ((2197175160 : Nat) : Int) = 2197175160 from rfl] at h
              exact h
            rw [hq2] at HQ2 lq
            clear hq2 hodd
            go_wp2
            go_round
            case rel => exact ⟨j + 1, q2, by omega, by go_num, rfl, HQ2, lq⟩
            case measure => simp [intOf]; omega
          · have ho : ((q : Int) % 2 == 1) = false := by rw [beq_eq_false_iff_ne]; omega
            have hq2 : bitT q = q / 2 := by unfold bitT; rw [if_neg hodd]; simp
            rw [hq2] at HQ2 lq
            clear hq2 hodd
            go_wp2
            go_round
            case rel => exact ⟨j + 1, q / 2, by omega, by go_num, by go_num, HQ2, lq⟩
            case measure => simp [intOf]; omega
    · have hlt' : ¬ (k : Int) < s.size := by omega
      have HF : Hid (sumL s.data.toList = ((4294967295 - rr : Nat) : Int)) := by
        show sumL _ = _
        unfold sumL
        rw [← HC.out, List.take_of_length_le (by rw [len_data]; omega)]
      obtain ⟨q, hq⟩ : ∃ q, 4294967295 - rr = q := ⟨_, rfl⟩
      have hq1 : q < 4294967296 := by omega
      have hcm : bits BinOp.xor IntKind.u32 IntKind.u32.max (rr : Int) = (q : Int) := by
        rw [← hq, show IntKind.u32.max = ((4294967295 : Nat) : Int) from rfl, u32_xor_nat _ _ (by decide) hr]
        congr 1
        exact xor_all32 rr hr
      rw [hq] at HF
      clear hq
      go_wp2
      go_ret
      rw [HF.out]
      exact ⟨by rw [IntWalk.wrap64_in _ ⟨by omega, by omega⟩]; rfl, rfl⟩
end Go.Proofs.YthmdiminiolipaaDoor
