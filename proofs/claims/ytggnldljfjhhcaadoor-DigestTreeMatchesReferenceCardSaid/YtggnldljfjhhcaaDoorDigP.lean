/-
  What the laws of package digest share: a list that is read, binary.
-/
import Derived.WalkKit
import Derived.LoopTactic
import Derived.WalkSpells
import Derived.WalkLawsBesides
import Derived.IntWalk
import Derived.Outline
import Derived.Deep.QuietTactic
import Derived.BigQuiet
import Derived.Deep.RegionLaw
import Derived.Deep.RegionHeld3
import Derived.Deep.DrawnRows
import Derived.Deep.AppendLies
import Derived.Laws.EntriesVeiled
import Derived.Lib.Hide
import Derived.Laws.OwnMore
import Derived.Test.YtggnldljfjhhcaaDoorDigSha
import Derived.Test.YtggnldljfjhhcaaDoorDigH
import Derived.Test.YtggnldljfjhhcaaDoorDigJ
import Derived.Test.YtggnldljfjhhcaaDoorDigM
import Derived.Test.YtggnldljfjhhcaaDoorDigN
import Derived.Test.YtggnldljfjhhcaaDoorDigO
set_option linter.unusedVariables false
set_option linter.unusedSimpArgs false
namespace Go.Proofs.YtggnldljfjhhcaaDoor
open Go.RowKit Onair
attribute [local go_sem ↓] Go.wp_at_zero Go.wp_at_succ
/-- A list of strings that a law reads. -/
structure LW (w : World) (oa : Option Addr) (L : List ByteArray) (W : World) : Prop where
  rd : RdS W oa L
  tab : TabAt W
  bel : Below w.heap.size w W
theorem LW.next {w : World} {oa : Option Addr} {L : List ByteArray} {W W' : World} (h : LW w oa L W) (hb : Below W.heap.size W W') : LW w oa L W' := ⟨h.rd.kept hb, h.tab.below hb, h.bel.trans (hb.mono h.bel.size)⟩
theorem LW.drewN {w : World} {oa : Option Addr} {L : List ByteArray} {W : World} (h : LW w oa L W) (n : Nat) : LW w oa L (W.drewN n) := h.next (drewN_below (Below.refl _ _) n)
theorem LW.drew {w : World} {oa : Option Addr} {L : List ByteArray} {W : World} (h : LW w oa L W) : LW w oa L W.drew := h.next (Below.refl _ _).drew
theorem RdS.take {W : World} {oa : Option Addr} {l : List ByteArray} (h : RdS W oa l) (k : Nat) : RdS W oa (l.take k) := by
  rcases h with rfl | ⟨b, o, e, h⟩
  · exact .inl (by simp)
  · exact .inr ⟨b, o, e, h.take k⟩
theorem SzB.mono {m n : Nat} {l : List ByteArray} (h : SzB m l) (hmn : m ≤ n) : SzB n l := fun x hx => Nat.le_trans (h x hx) hmn
theorem binN_half (m : Nat) (h : m ≠ 0) : binN m = binN (m / 2) + 1 := by
  unfold binN
  rw [if_neg h]
  by_cases h2 : m / 2 = 0
  · rw [if_pos h2]
    have : m = 1 := by omega
    subst this
    rfl
  · rw [if_neg h2]
    have hl := Nat.log2_eq_iff (n := m) (k := (m / 2).log2 + 1) h
    have a1 := Nat.log2_self_le h2
    have a2 := Nat.lt_log2_self (n := m / 2)
    have := hl.2 ⟨by rw [Nat.pow_succ]; omega, by rw [Nat.pow_succ]; omega⟩
    rw [this]
theorem binN_le (m : Nat) : binN m ≤ m := by
  unfold binN
  split
  · omega
  · rename_i h
    have h1 := Nat.log2_self_le h
    have h2 : m.log2 < 2 ^ m.log2 := Nat.lt_two_pow_self
    omega
set_option maxHeartbeats 1000000 in
theorem binary_any (n : Nat) (w : World) (hn : n ≤ 1000000) : Calls Tryd.prog 19 #[.int .i64 (n : Int)] w fun e w' => e = .returned (.int .i64 (binN n : Nat)) ∧ w = w' := by
  have hbn := binN_le n
  go_enter Tryd.func19, Tryd.ntmps19
  go_wp2_with fail
  go_loop [0, 3] (fun x v => ∃ (m k : Nat), x = .int .i64 m ∧ v = .int .i64 k ∧ m ≤ n ∧ Hid (binN m + k = binN n)) (fun x _ => (intOf x).toNat)
  case atStart => exact ⟨n, 0, rfl, rfl, Nat.le_refl _, rfl⟩
  case round =>
    obtain ⟨m, k, rfl, rfl, hm, HB⟩ := hrel
    have hkb : k ≤ n := by have := HB.out; omega
    by_cases h : m = 0
    · obtain rfl := h
      have HE : Hid (k = binN n) := by have := HB.out; rw [show binN 0 = 0 from rfl] at this; show k = _; omega
      clear HB
      go_wp2_with fail
      go_ret
      exact ⟨by rw [HE.out]; rfl, rfl⟩
    · have q1 : (0 : Int) < (m : Int) := by omega
      have HE : Hid (binN (m / 2) + (k + 1) = binN n) := by have := HB.out; rw [binN_half m h] at this; show _ = _; omega
      have q2 : (m : Int) / 2 = ((m / 2 : Nat) : Int) := by omega
      have q3 : m / 2 ≤ n := by omega
      have q4 : m / 2 < m := by omega
      obtain ⟨z, hz⟩ : ∃ z, m / 2 = z := ⟨_, rfl⟩
      rw [hz] at HE q2 q3 q4
      clear HB hz h hbn
      go_wp2_with fail
      go_round
      case rel => exact ⟨z, k + 1, by first | rfl | rw [q2], by go_num, q3, HE⟩
      case measure => simp [intOf]; omega
def extP (l : List ByteArray) (m : Nat) : List ByteArray := if m = 0 then [] else extL l m true
theorem extP_short (l : List ByteArray) (m : Nat) (hm : m ≤ l.length) : (extP l m).length ≤ 2 * binN l.length := by
  unfold extP
  split
  · exact Nat.zero_le _
  · exact extL_short l m true (by omega) hm
theorem ext_all (l : List ByteArray) (oa : Option Addr) (n c m : Nat) (w : World) (hn : l.length = n) (hc : n ≤ c) (hcm : c ≤ 9223372036854775807) (hx : n ≤ 10000) (hm : m ≤ n) (hs : SzB 300000000 l) (hr : RdS w oa l) (ht : TabAt w) :
    Calls Tryd.prog 14 #[.slice oa n c, .int .i64 (m : Int)] w fun e w' => ∃ oa cap, e = .returned (.tuple #[.slice oa (extP l m).length cap, .int .i64 0]) ∧ (extP l m).length ≤ cap ∧ cap ≤ 9223372036854775807 ∧ RdS w' oa (extP l m) ∧ Below w.heap.size w w' := by
  by_cases h0 : m = 0
  · subst h0
    exact (ext_zero oa n c w (by omega)).mono fun e w' ⟨he, hw⟩ => ⟨none, 0, he, Nat.le_refl _, Nat.zero_le _, .inl rfl, hw ▸ Below.refl _ _⟩
  · obtain ⟨b, o, rfl, hrb⟩ := hr.some (by omega)
    have h := ext_in l b o n c m w hn hc hcm (by omega) (by omega) hm hs hrb ht
    unfold extP
    rw [if_neg h0]
    exact h
end Go.Proofs.YtggnldljfjhhcaaDoor
