/-
  The walks of the disk's methods: Read, New, settle.
-/
import Derived.WalkKit
import Derived.LoopTactic
import Derived.WalkSpells
import Derived.WalkLawsBesides
import Derived.RegionTactic
import Derived.BigRegion
import Derived.Deep.QuietTactic
import Derived.BigQuiet
import Derived.IntWalk
import Derived.Laws.IdiomStrings
import Derived.Lib.SlBytesRow
import Derived.Lib.BufferRead
import Derived.Test.YtdcnddbkjdbbbaaDiskB
set_option linter.unusedVariables false
set_option linter.unusedSimpArgs false
namespace Go.Proofs.Ytdcnddbkjdbbbaa
open Go.RowKit
theorem conv_blk {W : World} {g : Nat} {l : List UInt8} (h : Blk W g 5 (cellsB l)) (off n cap : Nat) (hn : off + n ≤ l.length) : (convert 40 9 (.slice (some ⟨g, off, none⟩) n cap)).run Try.prog W = .ok (.string ⟨((l.drop off).take n).toArray⟩) W := by
  have hl : ((l.drop off).take n).length = n := by rw [List.length_take, List.length_drop]; omega
  have := run_convert_bytes_back (P := Try.prog) W 40 9 5 ⟨g, off, none⟩ cap ((l.drop off).take n) Try.underlying40 Try.underlying5 Try.underlying9 (fun j hj => by
    rw [hl] at hj
    rw [show ((⟨g, off, none⟩ : Addr).add j) = ⟨g, off + j, none⟩ from by unfold Addr.add; split <;> simp_all, h.cell, cellsB_get l (off + j) (by omega)]
    simp)
  rw [hl] at this
  exact this
theorem conv_blk0 (W : World) (a : Option Addr) (cap : Nat) : (convert 40 9 (.slice a 0 cap)).run Try.prog W = .ok (.string ⟨#[]⟩) W := by
  cases a with
  | none => exact Lib.run_convert_nil_bytes W 40 9 5 cap Try.underlying40 Try.underlying5 Try.underlying9
  | some a => exact run_convert_bytes_back (P := Try.prog) W 40 9 5 a cap [] Try.underlying40 Try.underlying5 Try.underlying9 (fun j hj => by simp at hj)
def readL (D : DS) (off n : Int) : List UInt8 := if D.lost then [] else if insB D off n then (D.vis.drop off.toNat).take n.toNat else []
def readE (D : DS) (off n : Int) : Int := if D.lost then 241 else if insB D off n then 0 else 240
set_option maxRecDepth 100000 in
theorem read_any (W : World) (B b bd bv : Nat) (vp : Value) (D : DS) (off n : Int) (ho : -9223372036854775808 ≤ off) (ho1 : off ≤ 9223372036854775807) (hn : -9223372036854775808 ≤ n) (hn1 : n ≤ 9223372036854775807) (h : DkAt W B b bd bv vp D) :
    Calls Try.prog 14 #[.pointer (some ⟨b, 0, none⟩), .int .i64 off, .int .i64 n] W fun e w' => e = .returned (.tuple #[.string ⟨(readL D off n).toArray⟩, .int .i64 (readE D off n)]) ∧ W = w' := by
  have c3 := h.blk.cell 3
  have hm := h.max
  simp only [List.getElem?_cons_zero, List.getElem?_cons_succ] at c3
  have H := Lib.hid h
  clear h
  cases hl : D.lost
  · have hst : stE D = 0 := by unfold stE; rw [hl]; rfl
    have HST := Lib.hid hst
    clear hst
    cases hi : insB D off n
    · have e1 : readL D off n = [] := by unfold readL; rw [hl, hi]; rfl
      have e2 : readE D off n = 240 := by unfold readE; rw [hl, hi]; rfl
      rw [e1, e2]
      have HI := Lib.hid hi
      clear e1 e2 hl hi
      go_enter Try.func14, Try.ntmps14
      go_wp2_with fail
      refine (state_any W B b bd bv vp D H.out).mono ?_
      rw [HST.out]
      rintro e w' ⟨rfl, rfl⟩
      go_wp2_with fail
      refine (inside_any W B b bd bv vp D off n ho ho1 hn hn1 H.out).mono ?_
      rw [HI.out]
      rintro e w' ⟨rfl, rfl⟩
      go_wp2_with fail
      go_ret2
      exact ⟨rfl, rfl⟩
    · have hii := of_decide_eq_true hi
      have e1 : readL D off n = (D.vis.drop off.toNat).take n.toNat := by unfold readL; rw [hl, hi]; rfl
      have e2 : readE D off n = 0 := by unfold readE; rw [hl, hi]; rfl
      obtain ⟨o, rfl⟩ : ∃ o : Nat, off = o := ⟨off.toNat, by omega⟩
      obtain ⟨m, rfl⟩ : ∃ m : Nat, n = m := ⟨n.toNat, by omega⟩
      rw [Int.toNat_natCast, Int.toNat_natCast] at e1
      rw [e1, e2]
      have HI := Lib.hid hi
      clear e1 e2 hl hi
      obtain ⟨hi1, hi2, hi3, hi4⟩ := hii
      have hom : (o : Int) + m ≤ D.vis.length := by omega
      by_cases hm0 : m = 0
      · subst hm0
        rw [List.take_zero]
        have hcv := conv_blk0 W
        go_enter Try.func14, Try.ntmps14
        go_wp2_with fail
        refine (state_any W B b bd bv vp D H.out).mono ?_
        rw [HST.out]
        rintro e w' ⟨rfl, rfl⟩
        go_wp2_with fail
        refine (inside_any W B b bd bv vp D _ _ ho ho1 hn hn1 H.out).mono ?_
        rw [HI.out]
        rintro e w' ⟨rfl, rfl⟩
        go_wp2_with fail
        all_goals (go_ret2; exact ⟨rfl, rfl⟩)
      · have hcv := conv_blk H.out.vis o m (D.vis.length - o) (by omega)
        have hlt : (o : Int) < (o : Int) + m := by omega
        have hsw := Lib.run_slice_window (P := Try.prog) W 40 5 Try.underlying40 (fun _ => by kernel_rfl) bv 0 D.vis.length D.vis.length o (o + m) (by omega) (by omega)
        rw [Nat.zero_add, show o + m - o = m from by omega] at hsw
        rw [show ((o + m : Nat) : Int) = (o : Int) + m from by omega] at hsw
        go_enter Try.func14, Try.ntmps14
        go_wp2_with fail
        refine (state_any W B b bd bv vp D H.out).mono ?_
        rw [HST.out]
        rintro e w' ⟨rfl, rfl⟩
        go_wp2_with fail
        refine (inside_any W B b bd bv vp D _ _ ho ho1 hn hn1 H.out).mono ?_
        rw [HI.out]
        rintro e w' ⟨rfl, rfl⟩
        go_wp2_with fail
        go_ret2
        exact ⟨rfl, rfl⟩
  · have hst : stE D = 241 := by unfold stE; rw [hl]; rfl
    have e1 : readL D off n = [] := by unfold readL; rw [hl]; rfl
    have e2 : readE D off n = 241 := by unfold readE; rw [hl]; rfl
    rw [e1, e2]
    have HST := Lib.hid hst
    clear hst e1 e2 hl
    go_enter Try.func14, Try.ntmps14
    go_wp2_with fail
    refine (state_any W B b bd bv vp D H.out).mono ?_
    rw [HST.out]
    rintro e w' ⟨rfl, rfl⟩
    go_wp2_with fail
    go_ret2
    exact ⟨rfl, rfl⟩
end Go.Proofs.Ytdcnddbkjdbbbaa
