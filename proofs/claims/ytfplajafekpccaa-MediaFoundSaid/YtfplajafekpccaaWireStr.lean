/-
  The walks of wire.PutString, wire.String.
-/
import Derived.WalkKit
import Derived.LoopTactic
import Derived.OwnWalk
import Derived.WalkSpells
import Derived.WalkLawsBesides
import Derived.Laws.BitsAllLaws
import Derived.Lib.Hide
import Derived.IntWalk
import Derived.Lib.Bytes
import Derived.Test.YtfplajafekpccaaWireWalksB
set_option linter.unusedVariables false
set_option linter.unusedSimpArgs false
namespace Go.Proofs.Ytfplajafekpccaa
open Go.RowKit Onair
set_option maxRecDepth 100000 in
theorem putString_any (s : ByteArray) (w : World) (hs : s.size ≤ maxLen) :
    Calls Try.prog 40 #[.string s] w fun e w' => e = .returned (.tuple #[.string ⟨(putSL s.data.toList).toArray⟩, .int .i64 (putSE s.data.toList)]) ∧ Below w.heap.size w w' := by
  unfold maxLen at hs
  have hl := len_data s
  by_cases h : 65536 < s.size
  · have e1 : putSL s.data.toList = [] := by unfold putSL; rw [hl, if_pos h]
    have e2 : putSE s.data.toList = 10 := by unfold putSE; rw [hl, if_pos h]
    rw [e1, e2]
    clear e1 e2 hl
    go_enter Try.func40, Try.ntmps40
    go_wp2
    go_ret2
    exact ⟨rfl, Below.refl _ _⟩
  · have e1 : putSL s.data.toList = putL (s.size : Int) ++ s.data.toList := by unfold putSL; rw [hl, if_neg h]
    have e2 : putSE s.data.toList = 0 := by unfold putSE; rw [hl, if_neg h]
    have e3 := putE_len s.size (by omega)
    have hpl := putL_len (s.size : Int)
    rw [e1, e2]
    clear e1 e2 hl
    have E3 := Lib.hid e3
    clear e3
    go_enter Try.func40, Try.ntmps40
    go_wp2_with (go_at_call 37; refine (putInt_any _ _).mono ?_; rw [E3.out]; rintro e w' ⟨rfl, hb⟩)
    go_ret2
    exact ⟨by rw [append_list]; rfl, hb⟩
set_option maxRecDepth 100000 in
theorem string_any (s : ByteArray) (a : Int) (w : World) (hs : s.size ≤ maxLen) :
    Calls Try.prog 49 #[.string s, .int .i64 a] w fun e w' => e = .returned (.tuple #[.string ⟨(strR s.data.toList a).1.toArray⟩, .int .i64 (strR s.data.toList a).2.1, .int .i64 (strR s.data.toList a).2.2]) ∧ w = w' := by
  have hs' := hs
  unfold maxLen at hs
  have hl := len_data s
  obtain ⟨n, x, e, hr⟩ : ∃ n x e, intR s.data.toList a = (n, x, e) := ⟨_, _, _, rfl⟩
  have hok : e = 0 → 0 ≤ a ∧ a < x ∧ x ≤ s.size ∧ -4611686018427387903 ≤ n ∧ n ≤ 4611686018427387903 := by
    have := intR_ok (l := s.data.toList) (a := a); rw [hr, hl] at this; exact this
  by_cases he : e = 0
  · subst he
    obtain ⟨h0, h1, h2, h3, h4⟩ := hok rfl
    by_cases hb : n < 0 ∨ 65536 < n ∨ (s.size : Int) - x < n
    · have e1 := strR_bad (l := s.data.toList) (a := a) (by rw [hr]) (by rw [hr, hl]; exact hb)
      rw [e1]
      clear e1 hl hok
      have HR := Lib.hid hr
      clear hr
      by_cases hb1 : n < 0
      · clear hb
        go_enter Try.func49, Try.ntmps49
        go_wp2_with (go_at_call 46; refine (int_any _ _ _ hs').mono ?_; rw [HR.out]; rintro e w' ⟨rfl, rfl⟩)
        go_ret3
        exact ⟨rfl, rfl⟩
      · by_cases hb2 : 65536 < n
        · clear hb
          go_enter Try.func49, Try.ntmps49
          go_wp2_with (go_at_call 46; refine (int_any _ _ _ hs').mono ?_; rw [HR.out]; rintro e w' ⟨rfl, rfl⟩)
          go_ret3
          exact ⟨rfl, rfl⟩
        · have hb3 : (s.size : Int) - x < n := by omega
          clear hb
          go_enter Try.func49, Try.ntmps49
          go_wp2_with (go_at_call 46; refine (int_any _ _ _ hs').mono ?_; rw [HR.out]; rintro e w' ⟨rfl, rfl⟩)
          go_ret3
          exact ⟨rfl, rfl⟩
    · have e1 := strR_good (l := s.data.toList) (a := a) (by rw [hr]) (by rw [hr, hl]; exact hb)
      rw [hr] at e1
      obtain ⟨nn, rfl⟩ : ∃ m : Nat, n = m := ⟨n.toNat, by omega⟩
      obtain ⟨xx, rfl⟩ : ∃ m : Nat, x = m := ⟨x.toNat, by omega⟩
      have hb1 : (nn : Int) ≤ 65536 := by omega
      have hb2 : (nn : Int) ≤ (s.size : Int) - xx := by omega
      have hb3 : (xx : Int) + nn ≤ (s.size : Int) := by omega
      simp only [Int.toNat_natCast] at e1
      rw [e1]
      clear e1 hl hok hb
      have HR := Lib.hid hr
      clear hr
      go_enter Try.func49, Try.ntmps49
      go_wp2_with (go_at_call 46; refine (int_any _ _ _ hs').mono ?_; rw [HR.out]; rintro e w' ⟨rfl, rfl⟩)
      go_ret3
      exact ⟨by rw [extract_list]; rfl, rfl⟩
  · rw [strR_err (by rw [hr]; exact he), hr]
    clear hok hl
    have HR := Lib.hid hr
    clear hr
    go_enter Try.func49, Try.ntmps49
    go_wp2_with (go_at_call 46; refine (int_any _ _ _ hs').mono ?_; rw [HR.out]; rintro e w' ⟨rfl, rfl⟩)
    go_ret3
    exact ⟨rfl, rfl⟩
end Go.Proofs.Ytfplajafekpccaa
