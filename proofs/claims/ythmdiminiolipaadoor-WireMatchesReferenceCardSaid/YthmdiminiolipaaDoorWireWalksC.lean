/-
  The walks of wire.PutString, wire.String, wire.Sum.
-/
import Derived.WalkKit
import Derived.LoopTactic
import Derived.OwnWalk
import Derived.WalkSpells
import Derived.WalkLawsBesides
import Derived.Laws.BitsAllLaws
import Derived.Lib.Hide
import Derived.IntWalk
import Derived.Lib.Bytes
import Derived.Test.YthmdiminiolipaaDoorWireWalksB
set_option linter.unusedVariables false
set_option linter.unusedSimpArgs false
namespace Go.Proofs.YthmdiminiolipaaDoor
open Go.RowKit Onair
set_option maxRecDepth 100000 in
theorem putString_any (s : ByteArray) (w : World) (hs : s.size ≤ maxLen) :
    Calls Tryd.prog 19 #[.string s] w fun e w' => e = .returned (.tuple #[.string ⟨(putSL s.data.toList).toArray⟩, .int .i64 (putSE s.data.toList)]) ∧ Below w.heap.size w w' := by
  unfold maxLen at hs
  have hl := len_data s
  by_cases h : 65536 < s.size
  · have e1 : putSL s.data.toList = [] := by unfold putSL; rw [hl, if_pos h]
    have e2 : putSE s.data.toList = 10 := by unfold putSE; rw [hl, if_pos h]
    rw [e1, e2]
    clear e1 e2 hl
    go_enter Tryd.func19, Tryd.ntmps19
    go_wp2
    go_ret2
    exact ⟨rfl, Below.refl _ _⟩
  · have e1 : putSL s.data.toList = putL (s.size : Int) ++ s.data.toList := by unfold putSL; rw [hl, if_neg h]
    have e2 : putSE s.data.toList = 0 := by unfold putSE; rw [hl, if_neg h]
    have e3 := putE_len s.size (by omega)
    have hpl := putL_len (s.size : Int)
    rw [e1, e2]
    clear e1 e2 hl
    have E3 := Lib.hid e3
    clear e3
    go_enter Tryd.func19, Tryd.ntmps19
    go_wp2_with (go_at_call 12; refine (putInt_any _ _).mono ?_; rw [E3.out]; rintro e w' ⟨rfl, hb⟩)
    go_ret2
    exact ⟨by rw [append_list]; rfl, hb⟩
set_option maxRecDepth 100000 in
theorem string_any (s : ByteArray) (a : Int) (w : World) (hs : s.size ≤ maxLen) :
    Calls Tryd.prog 17 #[.string s, .int .i64 a] w fun e w' => e = .returned (.tuple #[.string ⟨(strR s.data.toList a).1.toArray⟩, .int .i64 (strR s.data.toList a).2.1, .int .i64 (strR s.data.toList a).2.2]) ∧ w = w' := by
  have hs' := hs
  unfold maxLen at hs
  have hl := len_data s
  obtain ⟨n, x, e, hr⟩ : ∃ n x e, intR s.data.toList a = (n, x, e) := ⟨_, _, _, rfl⟩
  have hok : e = 0 → 0 ≤ a ∧ a < x ∧ x ≤ s.size ∧ -4611686018427387903 ≤ n ∧ n ≤ 4611686018427387903 := by
    have := intR_ok (l := s.data.toList) (a := a); rw [hr, hl] at this; exact this
  by_cases he : e = 0
  · subst he
    obtain ⟨h0, h1, h2, h3, h4⟩ := hok rfl
    by_cases hb : n < 0 ∨ 65536 < n ∨ (s.size : Int) - x < n
    · have e1 := strR_bad (l := s.data.toList) (a := a) (by rw [hr]) (by rw [hr, hl]; exact hb)
      rw [e1]
      clear e1 hl hok
      have HR := Lib.hid hr
      clear hr
      by_cases hb1 : n < 0
      · clear hb
        go_enter Tryd.func17, Tryd.ntmps17
        go_wp2_with (go_at_call 15; refine (int_any _ _ _ hs').mono ?_; rw [HR.out]; rintro e w' ⟨rfl, rfl⟩)
        go_ret3
        exact ⟨rfl, rfl⟩
      · by_cases hb2 : 65536 < n
        · clear hb
          go_enter Tryd.func17, Tryd.ntmps17
          go_wp2_with (go_at_call 15; refine (int_any _ _ _ hs').mono ?_; rw [HR.out]; rintro e w' ⟨rfl, rfl⟩)
          go_ret3
          exact ⟨rfl, rfl⟩
        · have hb3 : (s.size : Int) - x < n := by omega
          clear hb
          go_enter Tryd.func17, Tryd.ntmps17
          go_wp2_with (go_at_call 15; refine (int_any _ _ _ hs').mono ?_; rw [HR.out]; rintro e w' ⟨rfl, rfl⟩)
          go_ret3
          exact ⟨rfl, rfl⟩
    · have e1 := strR_good (l := s.data.toList) (a := a) (by rw [hr]) (by rw [hr, hl]; exact hb)
      rw [hr] at e1
      obtain ⟨nn, rfl⟩ : ∃ m : Nat, n = m := ⟨n.toNat, by omega⟩
      obtain ⟨xx, rfl⟩ : ∃ m : Nat, x = m := ⟨x.toNat, by omega⟩
      have hb1 : (nn : Int) ≤ 65536 := by omega
      have hb2 : (nn : Int) ≤ (s.size : Int) - xx := by omega
      have hb3 : (xx : Int) + nn ≤ (s.size : Int) := by omega
      simp only [Int.toNat_natCast] at e1
      rw [e1]
      clear e1 hl hok hb
      have HR := Lib.hid hr
      clear hr
      go_enter Tryd.func17, Tryd.ntmps17
      go_wp2_with (go_at_call 15; refine (int_any _ _ _ hs').mono ?_; rw [HR.out]; rintro e w' ⟨rfl, rfl⟩)
      go_ret3
      exact ⟨by rw [extract_list]; rfl, rfl⟩
  · rw [strR_err (by rw [hr]; exact he), hr]
    clear hok hl
    have HR := Lib.hid hr
    clear hr
    go_enter Tryd.func17, Tryd.ntmps17
    go_wp2_with (go_at_call 15; refine (int_any _ _ _ hs').mono ?_; rw [HR.out]; rintro e w' ⟨rfl, rfl⟩)
    go_ret3
    exact ⟨rfl, rfl⟩
/-- The package variable 'remainders' reads as its table. -/
def TabAt (w : World) : Prop := ∀ i, i < 16 → w.cell? ⟨0, i, none⟩ = some (.int .u32 (tabAt i : Int))
theorem TabAt.below {w w' : World} {n : Nat} (h : TabAt w) (hb : Below n w w') (hn : 0 < n) : TabAt w' := fun i hi => (hb.cell (p := ⟨0, i, none⟩) hn).trans (h i hi)
theorem TabAt.lt {w : World} (h : TabAt w) : 0 < w.heap.size := by
  have := h 0 (by decide)
  rcases Nat.lt_or_ge 0 w.heap.size with h' | h'
  · exact h'
  · simp [World.cell?, Array.getElem?_eq_none h'] at this
theorem xor32 (a b c : Nat) (ha : a < 4294967296) (hb : b < 4294967296) (h : a ^^^ b = c) : bits BinOp.xor IntKind.u32 (a : Int) (b : Int) = (c : Int) := by
  rw [u32_xor_nat a b ha hb, h]
theorem and15 (a c : Nat) (ha : a < 4294967296) (h : a % 16 = c) : bits BinOp.and IntKind.u32 (a : Int) 15 = (c : Int) := by
  have := u32_and_nat a 15 ha (by decide)
  rw [show ((15 : Nat) : Int) = 15 from rfl] at this
  rw [this, Nat.and_two_pow_sub_one_eq_mod a 4, ← h]
set_option maxHeartbeats 1000000 in
set_option maxRecDepth 100000 in
theorem sum_any (s : ByteArray) (w : World) (hs : s.size ≤ maxLen) (ht : TabAt w) :
    Calls Tryd.prog 21 #[.string s] w fun e w' => e = .returned (.int .i64 (sumL s.data.toList)) ∧ w = w' := by
  unfold maxLen at hs
  have HT := Lib.hid ht
  clear ht
  go_enter Tryd.func21, Tryd.ntmps21
  go_wp2
  go_loop [3, 4] (fun r i => ∃ k rr : Nat, k ≤ s.size ∧ i = .int .i64 k ∧ r = .int .u32 rr ∧ Hid (crc (s.data.toList.take k) = rr) ∧ rr < 4294967296) (fun _ i => s.size - (intOf i).toNat)
  case atStart => exact ⟨0, _, by omega, rfl, rfl, Lib.hid rfl, by decide⟩
  case round =>
    obtain ⟨k, rr, hk, rfl, rfl, HC, hr⟩ := hrel
    by_cases hlt : k < s.size
    · have hlt' : (k : Int) < s.size := by omega
      have hb := s[k].toNat_lt
      obtain ⟨r1, e1⟩ : ∃ r1, rr ^^^ s[k].toNat = r1 := ⟨_, rfl⟩
      have l1 : r1 < 4294967296 := e1 ▸ xor_lt32 hr (by omega)
      obtain ⟨i1, f1⟩ : ∃ i1, r1 % 16 = i1 := ⟨_, rfl⟩
      have j1 : i1 < 16 := by omega
      obtain ⟨t1, g1⟩ : ∃ t1, tabAt i1 = t1 := ⟨_, rfl⟩
      have c1 := HT.out i1 j1
      rw [g1] at c1
      have l1' := tabAt_lt i1
      rw [g1] at l1'
      obtain ⟨r2, e2⟩ : ∃ r2, (r1 / 16) ^^^ t1 = r2 := ⟨_, rfl⟩
      have l2 : r2 < 4294967296 := e2 ▸ xor_lt32 (by omega) (by omega)
      obtain ⟨i2, f2⟩ : ∃ i2, r2 % 16 = i2 := ⟨_, rfl⟩
      have j2 : i2 < 16 := by omega
      obtain ⟨t2, g2⟩ : ∃ t2, tabAt i2 = t2 := ⟨_, rfl⟩
      have c2 := HT.out i2 j2
      rw [g2] at c2
      have l2' := tabAt_lt i2
      rw [g2] at l2'
      obtain ⟨r3, e3⟩ : ∃ r3, (r2 / 16) ^^^ t2 = r3 := ⟨_, rfl⟩
      have l3 : r3 < 4294967296 := e3 ▸ xor_lt32 (by omega) (by omega)
      have HF : Hid (crc (s.data.toList.take (k + 1)) = r3) := by
        show crc _ = r3
        rw [List.take_succ_eq_append_getElem (by simpa using hlt)]
        unfold crc
        rw [List.foldl_append]
        show crcB (crc (s.data.toList.take k)) s[k] = r3
        rw [HC.out]
        unfold crcB nib
        rw [e1, f1, g1, e2, f2, g2, e3]
      have x1 := xor32 rr s[k].toNat r1 hr (by omega) e1
      have a1 := and15 r1 i1 l1 f1
      have x2 := xor32 (r1 / 16) t1 r2 (by omega) l1' e2
      have a2 := and15 r2 i2 l2 f2
      have x3 := xor32 (r2 / 16) t2 r3 (by omega) l2' e3
      rw [show ((r1 / 16 : Nat) : Int) = (r1 : Int) / 16 from by omega] at x2
      rw [show ((r2 / 16 : Nat) : Int) = (r2 : Int) / 16 from by omega] at x3
      have j1' : (i1 : Int) < 16 := by omega
      have j2' : (i2 : Int) < 16 := by omega
      clear e1 e2 e3 f1 f2 g1 g2
      go_wp2
      go_round
      case rel => exact ⟨k + 1, r3, by omega, by go_num, rfl, HF, l3⟩
      case measure => simp [intOf]; omega
    · have hlt' : ¬ (k : Int) < s.size := by omega
      have HF : Hid (sumL s.data.toList = ((4294967295 - rr : Nat) : Int)) := by
        show sumL _ = _
        unfold sumL
        rw [← HC.out, List.take_of_length_le (by rw [len_data]; omega)]
      obtain ⟨q, hq⟩ : ∃ q, 4294967295 - rr = q := ⟨_, rfl⟩
      have hq1 : q < 4294967296 := by omega
      have hcm : bits BinOp.xor IntKind.u32 IntKind.u32.max (rr : Int) = (q : Int) := by
        rw [← hq, show IntKind.u32.max = ((4294967295 : Nat) : Int) from rfl, u32_xor_nat _ _ (by decide) hr]
        congr 1
        exact xor_all32 rr hr
      rw [hq] at HF
      clear hq
      go_wp2
      go_ret
      rw [HF.out]
      exact ⟨by rw [IntWalk.wrap64_in _ ⟨by omega, by omega⟩]; rfl, rfl⟩
end Go.Proofs.YthmdiminiolipaaDoor
