/-
  The reference implementation of package digest: Extension; Proof out of reach.
-/
import Derived.WalkKit
import Derived.LoopTactic
import Derived.WalkSpells
import Derived.WalkLawsBesides
import Derived.IntWalk
import Derived.Outline
import Derived.Deep.QuietTactic
import Derived.BigQuiet
import Derived.Deep.RegionLaw
import Derived.Deep.RegionHeld3
import Derived.Deep.DrawnRows
import Derived.Deep.AppendLies
import Derived.Laws.EntriesVeiled
import Derived.Lib.Hide
import Derived.Laws.OwnMore
import Derived.Test.YtggnldljfjhhcaaDoorDigSha
import Derived.Test.YtggnldljfjhhcaaDoorDigH
import Derived.Test.YtggnldljfjhhcaaDoorDigJ
import Derived.Test.YtggnldljfjhhcaaDoorDigM
import Derived.Test.YtggnldljfjhhcaaDoorDigN
import Derived.Test.YtggnldljfjhhcaaDoorDigO
import Derived.Test.YtggnldljfjhhcaaDoorDigP
import Derived.Test.YtggnldljfjhhcaaDoorDigQ
import Derived.Test.YtggnldljfjhhcaaDoorDigRF
set_option linter.unusedVariables false
set_option linter.unusedSimpArgs false
namespace Go.Proofs.YtggnldljfjhhcaaDoor
open Go.RowKit Onair
attribute [local go_sem ↓] Go.wp_at_zero Go.wp_at_succ
set_option maxHeartbeats 1000000 in
theorem refProof_bad (oa : Option Addr) (n c : Nat) (m : Int) (w : World) (h : m < 0 ∨ (n : Int) ≤ m) : Calls Tryd.prog 13 #[.slice oa n c, .int .i64 m] w fun e w' => e = .returned (.tuple #[.slice none 0 0, .int .i64 2]) ∧ w = w' := by
  by_cases q0 : m < 0
  · clear h
    go_enter Tryd.func13, Tryd.ntmps13
    go_wp2_with fail
    go_ret2
    exact ⟨rfl, rfl⟩
  · have q1 : (n : Int) ≤ m := h.resolve_left q0
    clear h
    go_enter Tryd.func13, Tryd.ntmps13
    go_wp2_with fail
    go_ret2
    exact ⟨rfl, rfl⟩
set_option maxHeartbeats 1000000 in
theorem refExtn_bad (oa : Option Addr) (n c : Nat) (m : Int) (w : World) (h : m < 0 ∨ (n : Int) < m) : Calls Tryd.prog 15 #[.slice oa n c, .int .i64 m] w fun e w' => e = .returned (.tuple #[.slice none 0 0, .int .i64 2]) ∧ w = w' := by
  by_cases q0 : m < 0
  · clear h
    go_enter Tryd.func15, Tryd.ntmps15
    go_wp2_with fail
    go_ret2
    exact ⟨rfl, rfl⟩
  · have q1 : (n : Int) < m := h.resolve_left q0
    clear h
    go_enter Tryd.func15, Tryd.ntmps15
    go_wp2_with fail
    go_ret2
    exact ⟨rfl, rfl⟩
set_option maxHeartbeats 1000000 in
theorem refExtn_zero (oa : Option Addr) (n c : Nat) (w : World) : Calls Tryd.prog 15 #[.slice oa n c, .int .i64 0] w fun e w' => e = .returned (.tuple #[.slice none 0 0, .int .i64 0]) ∧ w = w' := by
  have q0 : ¬ (n : Int) < 0 := by omega
  go_enter Tryd.func15, Tryd.ntmps15
  go_wp2_with fail
  go_ret2
  exact ⟨rfl, rfl⟩
set_option maxHeartbeats 1000000 in
theorem refExtn_good (l : List ByteArray) (b o n c m : Nat) (w : World) (hn : l.length = n) (hc : n ≤ c) (hcm : c ≤ 9223372036854775807) (hnm : n ≤ 1000) (h1 : 1 ≤ m) (h2 : m ≤ n) (hs : SzB 1000 l) (hr : RdB w b o l) :
    Calls Tryd.prog 15 #[.slice (some ⟨b, o, none⟩) n c, .int .i64 (m : Int)] w (PrfP w (extL l m true)) := by
  have HH := Lib.hid (refPart_any n l b o n c m true w (by omega) hn hc hcm hnm h1 h2 hs hr)
  have q0 : ¬ (m : Int) < 0 := by omega
  have q1 : ¬ (n : Int) < (m : Int) := by omega
  have q2 : ((m : Int) == 0) = false := by rw [beq_eq_false_iff_ne]; omega
  clear hr hs hn h1 h2
  go_enter Tryd.func15, Tryd.ntmps15
  go_wp2_with fail
  refine HH.out.mono ?_
  rintro e w2 ⟨oa, cap, rfl, ho, hb⟩
  have HO := Lib.hid ho
  have HB := Lib.hid hb
  clear ho hb
  go_wp2_with fail
  go_ret2
  exact ⟨oa, cap, rfl, HO.out, HB.out⟩
end Go.Proofs.YtggnldljfjhhcaaDoor
