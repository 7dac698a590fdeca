/-
  The walk of digest.Extension.
-/
import Derived.WalkKit
import Derived.LoopTactic
import Derived.WalkSpells
import Derived.WalkLawsBesides
import Derived.IntWalk
import Derived.Outline
import Derived.Deep.QuietTactic
import Derived.BigQuiet
import Derived.Deep.RegionLaw
import Derived.Deep.RegionHeld3
import Derived.Deep.DrawnRows
import Derived.Deep.AppendLies
import Derived.Laws.EntriesVeiled
import Derived.Lib.Hide
import Derived.Test.YtggnldljfjhhcaaDoorDigI
set_option linter.unusedVariables false
set_option linter.unusedSimpArgs false
namespace Go.Proofs.YtggnldljfjhhcaaDoor
open Go.RowKit Onair
attribute [local go_sem ↓] Go.wp_at_zero Go.wp_at_succ
set_option maxHeartbeats 2000000 in
theorem ext_in (l : List ByteArray) (b o n c m : Nat) (w : World) (hn : l.length = n) (hc : n ≤ c) (hcm : c ≤ 9223372036854775807) (hx : n + 1 ≤ 1000000) (hm1 : 1 ≤ m) (hm : m ≤ n) (hs : SzB 300000000 l) (hr : RdB w b o l) (ht : TabAt w) :
    Calls Tryd.prog 14 #[.slice (some ⟨b, o, none⟩) n c, .int .i64 (m : Int)] w fun e w' => ∃ oa cap, e = .returned (.tuple #[.slice oa (extL l m true).length cap, .int .i64 0]) ∧ (extL l m true).length ≤ cap ∧ cap ≤ 9223372036854775807 ∧ RdS w' oa (extL l m true) ∧ Below w.heap.size w w' := by
  obtain ⟨P, hP⟩ : ∃ P, w.heap.size = P := ⟨_, rfl⟩
  obtain ⟨fq, hfq⟩ : ∃ fq, Value.func (.func 34) #[] #[.pointer (some ⟨P, 0, none⟩), .pointer (some ⟨P + 1, 0, none⟩)] = fq := ⟨_, rfl⟩
  have hpi : PI w P 46 fq (.slice none 0 0) [] ((w.alloc (.cells #[.slice none 0 0] 22)).alloc (.cells #[fq] 46)) := by
    subst hP
    refine ⟨(Blk.new w 22 [.slice none 0 0]).alloc _, World.ownsRow_nil _ _ _ _, ?_, rfl, ((Below.refl _ w).alloc (Nat.le_refl _) _).alloc (by simp) _⟩
    have := Blk.new (w.alloc (.cells #[.slice none 0 0] 22)) 46 [fq]
    rw [World.size_alloc] at this
    exact this
  subst hfq
  have HH := Lib.hid (part_any w P ht l.length l b o n c m true none 0 [] _ (Nat.le_refl _) hn hc hcm (by simpa using hx) hm1 hm hs hr hpi)
  have HP := Lib.hid hP
  have i0 : ¬ (m : Int) < 0 := by omega
  have i1 : ¬ (n : Int) < (m : Int) := by omega
  have i2 : (m : Int) ≤ (n : Int) := by omega
  have i3 : ((m : Int) == 0) = false := by rw [beq_eq_false_iff_ne]; omega
  clear hpi hP hr hs ht
  go_enter Tryd.func14, Tryd.ntmps14
  go_wp2_with fail
  rw [HP.out]
  refine HH.out.mono ?_
  rintro e w' ⟨rfl, oa', cap', hpi⟩
  rw [List.nil_append] at hpi
  have c0 := hpi.p.cell 0
  simp only [List.getElem?_cons_zero] at c0
  have HPI := Lib.hid hpi
  clear hpi HH
  go_wp2_with fail
  have h := own_rds HPI.out.o
  refine bodyPost_ret (v := .tuple #[.slice oa' (extL l m true).length cap', .int .i64 0]) (by simp [results, Tryd.results14, go_sem]) rfl ⟨oa', cap', rfl, h.2.1, h.2.2.1, h.2.2.2, HPI.out.bel⟩
set_option maxHeartbeats 2000000 in
theorem ext_zero (oa : Option Addr) (n c : Nat) (w : World) (hn : n ≤ 1000000) :
    Calls Tryd.prog 14 #[.slice oa n c, .int .i64 0] w fun e w' => e = .returned (.tuple #[.slice none 0 0, .int .i64 0]) ∧ w = w' := by
  have i1 : (0 : Int) ≤ (n : Int) := by omega
  go_enter Tryd.func14, Tryd.ntmps14
  go_wp2_with fail
  go_ret2
  exact ⟨rfl, rfl⟩
set_option maxHeartbeats 2000000 in
theorem ext_out (oa : Option Addr) (n c : Nat) (i : Int) (w : World) (hn : n ≤ 1000000) (hi : i < 0 ∨ (n : Int) < i) :
    Calls Tryd.prog 14 #[.slice oa n c, .int .i64 i] w fun e w' => e = .returned (.tuple #[.slice none 0 0, .int .i64 2]) ∧ w = w' := by
  by_cases h0 : i < 0
  · clear hi
    go_enter Tryd.func14, Tryd.ntmps14
    go_wp2_with fail
    go_ret2
    exact ⟨rfl, rfl⟩
  · have h1 : (n : Int) < i := by omega
    have h2 : 0 ≤ i := by omega
    clear hi
    go_enter Tryd.func14, Tryd.ntmps14
    go_wp2_with fail
    go_ret2
    exact ⟨rfl, rfl⟩
end Go.Proofs.YtggnldljfjhhcaaDoor
