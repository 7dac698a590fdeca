/-
  The walk of digest.Proof.
-/
import Derived.WalkKit
import Derived.LoopTactic
import Derived.WalkSpells
import Derived.WalkLawsBesides
import Derived.IntWalk
import Derived.Outline
import Derived.Deep.QuietTactic
import Derived.BigQuiet
import Derived.Deep.RegionLaw
import Derived.Deep.RegionHeld3
import Derived.Deep.DrawnRows
import Derived.Deep.AppendLies
import Derived.Laws.EntriesVeiled
import Derived.Lib.Hide
import Derived.Test.YtggnldljfjhhcaaDoorDigG
set_option linter.unusedVariables false
set_option linter.unusedSimpArgs false
namespace Go.Proofs.YtggnldljfjhhcaaDoor
open Go.RowKit Onair
attribute [local go_sem ↓] Go.wp_at_zero Go.wp_at_succ
set_option maxHeartbeats 2000000 in
theorem proof_in (l : List ByteArray) (b o n c i : Nat) (w : World) (hn : l.length = n) (hc : n ≤ c) (hcm : c ≤ 9223372036854775807) (hx : n ≤ 1000000) (hi : i < n) (hs : SzB 300000000 l) (hr : RdB w b o l) (ht : TabAt w) :
    Calls Tryd.prog 12 #[.slice (some ⟨b, o, none⟩) n c, .int .i64 (i : Int)] w fun e w' => ∃ oa cap, e = .returned (.tuple #[.slice oa (proofL l i).length cap, .int .i64 0]) ∧ (proofL l i).length ≤ cap ∧ cap ≤ 9223372036854775807 ∧ RdS w' oa (proofL l i) ∧ Below w.heap.size w w' := by
  obtain ⟨P, hP⟩ : ∃ P, w.heap.size = P := ⟨_, rfl⟩
  obtain ⟨fq, hfq⟩ : ∃ fq, Value.func (.func 31) #[] #[.pointer (some ⟨P + 1, 0, none⟩), .pointer (some ⟨P, 0, none⟩)] = fq := ⟨_, rfl⟩
  have hpi : PI w P 45 fq (.slice none 0 0) [] ((w.alloc (.cells #[.slice none 0 0] 22)).alloc (.cells #[fq] 45)) := by
    subst hP
    refine ⟨(Blk.new w 22 [.slice none 0 0]).alloc _, World.ownsRow_nil _ _ _ _, ?_, rfl, ((Below.refl _ w).alloc (Nat.le_refl _) _).alloc (by simp) _⟩
    have := Blk.new (w.alloc (.cells #[.slice none 0 0] 22)) 45 [fq]
    rw [World.size_alloc] at this
    exact this
  subst hfq
  have HH := Lib.hid (prove_any w P ht l.length l b o n c i none 0 [] _ (Nat.le_refl _) hn hc hcm (by simpa using hx) hi hs hr hpi)
  have HP := Lib.hid hP
  have i0 : ¬ (i : Int) < 0 := by omega
  have i1 : ¬ (n : Int) ≤ (i : Int) := by omega
  have i2 : (i : Int) < (n : Int) := by omega
  clear hpi hP hr hs ht
  go_enter Tryd.func12, Tryd.ntmps12
  go_wp2_with fail
  rw [HP.out]
  refine HH.out.mono ?_
  rintro e w' ⟨rfl, oa', cap', hpi⟩
  rw [List.nil_append] at hpi
  have c0 := hpi.p.cell 0
  simp only [List.getElem?_cons_zero] at c0
  have HPI := Lib.hid hpi
  clear hpi HH
  go_wp2_with fail
  have h := own_rds HPI.out.o
  refine bodyPost_ret (v := .tuple #[.slice oa' (proofL l i).length cap', .int .i64 0]) (by simp [results, Tryd.results12, go_sem]) rfl ⟨oa', cap', rfl, h.2.1, h.2.2.1, h.2.2.2, HPI.out.bel⟩
set_option maxHeartbeats 2000000 in
theorem proof_out (oa : Option Addr) (n c : Nat) (i : Int) (w : World) (hn : n ≤ 1000000) (hi : i < 0 ∨ (n : Int) ≤ i) :
    Calls Tryd.prog 12 #[.slice oa n c, .int .i64 i] w fun e w' => e = .returned (.tuple #[.slice none 0 0, .int .i64 2]) ∧ w = w' := by
  by_cases h0 : i < 0
  · clear hi
    go_enter Tryd.func12, Tryd.ntmps12
    go_wp2_with fail
    go_ret2
    exact ⟨rfl, rfl⟩
  · have h1 : (n : Int) ≤ i := by omega
    have h2 : 0 ≤ i := by omega
    clear hi
    go_enter Tryd.func12, Tryd.ntmps12
    go_wp2_with fail
    go_ret2
    exact ⟨rfl, rfl⟩
end Go.Proofs.YtggnldljfjhhcaaDoor
