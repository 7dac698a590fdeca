/-
  The disk of package disk: how it lies in memory, and the walks of its small methods.
-/
import Derived.WalkKit
import Derived.LoopTactic
import Derived.WalkSpells
import Derived.WalkLawsBesides
import Derived.RegionTactic
import Derived.BigRegion
import Derived.Deep.QuietTactic
import Derived.BigQuiet
import Derived.IntWalk
import Derived.Test.YtdcnddbkjdbbbaaBlk
import Derived.Test.YtdcnddbkjdbbbaaProg
set_option linter.unusedVariables false
set_option linter.unusedSimpArgs false
namespace Go.Proofs.Ytdcnddbkjdbbbaa
open Go.RowKit
/-- What a disk is: no power, the scheduled cut, the durable and the visible content, the pending writes. -/
structure DS where
  lost : Bool
  cut : Nat
  dur : List UInt8
  vis : List UInt8
  pend : List (Nat × ByteArray)
/-- The cells of the pending writes. -/
def pcells (l : List (Nat × ByteArray)) : List Value := l.flatMap fun p => [.int .i64 (p.1 : Int), .string p.2]
/-- The disk D lies at block b, its contents at bd and bv, its pending writes under the slice vp; all from block B on. -/
structure DkAt (W : World) (B b bd bv : Nat) (vp : Value) (D : DS) : Prop where
  blk : Blk W b 65 [.bool D.lost, .int .i64 (D.cut : Int), .slice (some ⟨bd, 0, none⟩) D.vis.length D.vis.length, .slice (some ⟨bv, 0, none⟩) D.vis.length D.vis.length, vp]
  dur : Blk W bd 5 (cellsB D.dur)
  vis : Blk W bv 5 (cellsB D.vis)
  own : W.ownsRow B 69 2 vp D.pend.length (pcells D.pend)
  len : D.dur.length = D.vis.length
  pos : 1 ≤ D.vis.length
  max : D.vis.length ≤ 4194304
  hb : B ≤ b
  hbd : B ≤ bd
  hbv : B ≤ bv
  ne1 : b ≠ bd
  ne2 : b ≠ bv
  ne3 : bd ≠ bv
  np : ∀ g, vp.ownBlock = some g → g ≠ b ∧ g ≠ bd ∧ g ≠ bv
/-- The blocks of a disk. -/
def Foot (b bd bv : Nat) (vp : Value) (k : Nat) : Prop := k = b ∨ k = bd ∨ k = bv ∨ vp.ownBlock = some k
/-- What state answers. -/
def stE (D : DS) : Int := if D.lost then 241 else 0
set_option maxRecDepth 100000 in
theorem state_any (W : World) (B b bd bv : Nat) (vp : Value) (D : DS) (h : DkAt W B b bd bv vp D) :
    Calls Try.prog 28 #[.pointer (some ⟨b, 0, none⟩)] W fun e w' => e = .returned (.int .i64 (stE D)) ∧ W = w' := by
  have c0 := h.blk.cell 0
  have c3 := h.blk.cell 3
  have hp := h.pos
  have hm := h.max
  simp only [List.getElem?_cons_zero, List.getElem?_cons_succ] at c0 c3
  have hz : ((D.vis.length : Int) == 0) = false := by rw [beq_eq_false_iff_ne]; omega
  unfold stE
  clear h
  cases hl : D.lost
  · rw [hl] at c0
    go_enter Try.func28, Try.ntmps28
    go_wp2
    go_ret
    exact ⟨rfl, rfl⟩
  · rw [hl] at c0
    go_enter Try.func28, Try.ntmps28
    go_wp2
    go_ret
    exact ⟨rfl, rfl⟩
theorem state_nil (W : World) :
    Calls Try.prog 28 #[.pointer none] W fun e w' => e = .returned (.int .i64 1) ∧ W = w' := by
  go_enter Try.func28, Try.ntmps28
  go_wp2
  go_ret
  exact ⟨rfl, rfl⟩
/-- What inside answers. -/
def insB (D : DS) (off n : Int) : Bool := decide (0 ≤ off ∧ 0 ≤ n ∧ n ≤ D.vis.length ∧ off ≤ D.vis.length - n)
set_option maxRecDepth 100000 in
theorem inside_any (W : World) (B b bd bv : Nat) (vp : Value) (D : DS) (off n : Int) (ho : -9223372036854775808 ≤ off) (ho1 : off ≤ 9223372036854775807) (hn : -9223372036854775808 ≤ n) (hn1 : n ≤ 9223372036854775807) (h : DkAt W B b bd bv vp D) :
    Calls Try.prog 29 #[.pointer (some ⟨b, 0, none⟩), .int .i64 off, .int .i64 n] W fun e w' => e = .returned (.bool (insB D off n)) ∧ W = w' := by
  have c3 := h.blk.cell 3
  have hm := h.max
  simp only [List.getElem?_cons_zero, List.getElem?_cons_succ] at c3
  clear h
  by_cases h1 : 0 ≤ off
  · by_cases h2 : 0 ≤ n
    · by_cases h3 : n ≤ D.vis.length
      · by_cases h4 : off ≤ (D.vis.length : Int) - n
        · rw [show insB D off n = true from decide_eq_true ⟨h1, h2, h3, h4⟩]
          go_enter Try.func29, Try.ntmps29
          go_wp2
          go_ret
          exact ⟨rfl, rfl⟩
        · rw [show insB D off n = false from decide_eq_false (by omega)]
          go_enter Try.func29, Try.ntmps29
          go_wp2
          go_ret
          exact ⟨rfl, rfl⟩
      · rw [show insB D off n = false from decide_eq_false (by omega)]
        go_enter Try.func29, Try.ntmps29
        go_wp2
        go_ret
        exact ⟨rfl, rfl⟩
    · rw [show insB D off n = false from decide_eq_false (by omega)]
      go_enter Try.func29, Try.ntmps29
      go_wp2
      go_ret
      exact ⟨rfl, rfl⟩
  · rw [show insB D off n = false from decide_eq_false (by omega)]
    go_enter Try.func29, Try.ntmps29
    go_wp2
    go_ret
    exact ⟨rfl, rfl⟩
theorem size_any (W : World) (B b bd bv : Nat) (vp : Value) (D : DS) (h : DkAt W B b bd bv vp D) :
    Calls Try.prog 16 #[.pointer (some ⟨b, 0, none⟩)] W fun e w' => e = .returned (.int .i64 (D.vis.length : Int)) ∧ W = w' := by
  have c3 := h.blk.cell 3
  have hm := h.max
  simp only [List.getElem?_cons_zero, List.getElem?_cons_succ] at c3
  have H := Lib.hid h
  clear h
  have hne : (stE D == 1) = false := by unfold stE; split <;> rfl
  go_enter Try.func16, Try.ntmps16
  go_wp2_with fail
  refine (state_any W B b bd bv vp D H.out).mono ?_
  rintro e w' ⟨rfl, rfl⟩
  go_wp2_with fail
  go_ret
  exact ⟨rfl, rfl⟩
theorem pending_any (W : World) (B b bd bv : Nat) (vp : Value) (D : DS) (h : DkAt W B b bd bv vp D) :
    Calls Try.prog 17 #[.pointer (some ⟨b, 0, none⟩)] W fun e w' => e = .returned (.int .i64 (D.pend.length : Int)) ∧ W = w' := by
  have c4 := h.blk.cell 4
  simp only [List.getElem?_cons_zero, List.getElem?_cons_succ] at c4
  have H := Lib.hid h
  obtain ⟨oa, cap, rfl⟩ : ∃ oa cap, vp = .slice oa D.pend.length cap := by
    rcases h.own.2 with ⟨rfl, h0⟩ | ⟨g, cap, _, rfl, _⟩
    · exact ⟨none, 0, by rw [h0]⟩
    · exact ⟨_, cap, rfl⟩
  clear h
  have hne : (stE D == 1) = false := by unfold stE; split <;> rfl
  go_enter Try.func17, Try.ntmps17
  go_wp2_with fail
  refine (state_any W B b bd bv _ D H.out).mono ?_
  rintro e w' ⟨rfl, rfl⟩
  go_wp2_with fail
  go_ret
  exact ⟨rfl, rfl⟩
end Go.Proofs.Ytdcnddbkjdbbbaa
