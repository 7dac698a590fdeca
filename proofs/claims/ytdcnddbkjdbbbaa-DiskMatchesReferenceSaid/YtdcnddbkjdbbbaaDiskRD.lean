/-
  The reference disk: Read.
-/
import Derived.WalkKit
import Derived.LoopTactic
import Derived.WalkSpells
import Derived.WalkLawsBesides
import Derived.RegionTactic
import Derived.BigRegion
import Derived.IntWalk
import Derived.Test.YtdcnddbkjdbbbaaDiskRC
set_option linter.unusedVariables false
set_option linter.unusedSimpArgs false
namespace Go.Proofs.Ytdcnddbkjdbbbaa
open Go.RowKit
theorem conv_blkR {W : World} {g : Nat} {l : List UInt8} {rest : List Value} (h : Blk W g 5 (cellsB l ++ rest)) (off n cap : Nat) (hn : off + n ≤ l.length) : (convert 40 9 (.slice (some ⟨g, off, none⟩) n cap)).run Try.prog W = .ok (.string ⟨((l.drop off).take n).toArray⟩) W := by
  have hl : ((l.drop off).take n).length = n := by rw [List.length_take, List.length_drop]; omega
  have := run_convert_bytes_back (P := Try.prog) W 40 9 5 ⟨g, off, none⟩ cap ((l.drop off).take n) Try.underlying40 Try.underlying5 Try.underlying9 (fun j hj => by
    rw [hl] at hj
    rw [show ((⟨g, off, none⟩ : Addr).add j) = ⟨g, off + j, none⟩ from by unfold Addr.add; split <;> simp_all, h.cell, List.getElem?_append_left (by rw [cellsB_len]; omega), cellsB_get l (off + j) (by omega)]
    simp)
  rw [hl] at this
  exact this
set_option maxHeartbeats 2000000 in
set_option maxRecDepth 100000 in
theorem refRead_any (W : World) (B b gs cs : Nat) (rest : List Value) (vl : Value) (D : DS) (off n : Int) (ho : -9223372036854775808 ≤ off) (ho1 : off ≤ 9223372036854775807) (hn : -9223372036854775808 ≤ n) (hn1 : n ≤ 9223372036854775807) (hB : B ≤ W.heap.size) (hvis : D.vis = visL D.dur D.pend) (hlen : D.dur.length = D.vis.length) (hpl : D.pend.length ≤ 1000000) (hfit : ∀ p ∈ D.pend, p.1 + p.2.size ≤ D.dur.length) (h : RkAt W B b gs cs rest vl D) :
    Calls Try.prog 20 #[.pointer (some ⟨b, 0, none⟩), .int .i64 off, .int .i64 n] W fun e w' => e = .returned (.tuple #[.string ⟨(readL D off n).toArray⟩, .int .i64 (readE D off n)]) ∧ Below W.heap.size W w' := by
  have c2 := h.blk.cell 2
  have c0 := h.blk.cell 0
  have hm := h.max
  simp only [List.getElem?_cons_zero, List.getElem?_cons_succ] at c0 c2
  have H := Lib.hid h
  have HV := Lib.hid hvis
  have HF := Lib.hid hfit
  have HLE := Lib.hid hlen
  clear h hvis hfit hlen
  cases hl : D.lost
  · rw [hl] at c2
    cases hi : insB D off n
    · have hi2 : ¬ (0 ≤ off ∧ 0 ≤ n ∧ n ≤ D.vis.length ∧ off ≤ D.vis.length - n) := fun e => by
        have := decide_eq_true e
        unfold insB at hi
        rw [hi] at this
        cases this
      have e1 : readL D off n = [] := by unfold readL; rw [hl, hi]; rfl
      have e2 : readE D off n = 240 := by unfold readE; rw [hl, hi]; rfl
      rw [e1, e2]
      rw [← HLE.out] at hi2
      clear e1 e2 hl hi
      by_cases q1 : off < 0
      · clear hi2
        go_enter Try.func20, Try.ntmps20
        go_wp2_with fail
        go_ret2
        exact ⟨rfl, Below.refl _ _⟩
      · by_cases q2 : n < 0
        · clear hi2
          go_enter Try.func20, Try.ntmps20
          go_wp2_with fail
          go_ret2
          exact ⟨rfl, Below.refl _ _⟩
        · by_cases q3 : (D.dur.length : Int) < off
          · clear hi2
            go_enter Try.func20, Try.ntmps20
            go_wp2_with fail
            go_ret2
            exact ⟨rfl, Below.refl _ _⟩
          · have q4 : (D.dur.length : Int) - off < n := by omega
            have hw : IntKind.i64.wrap ((D.dur.length : Int) - off) = (D.dur.length : Int) - off := IntWalk.i64_in _ (by omega)
            clear hi2
            go_enter Try.func20, Try.ntmps20
            go_wp2_with fail
            go_ret2
            exact ⟨rfl, Below.refl _ _⟩
    · have hii := of_decide_eq_true hi
      have e1 : readL D off n = (D.vis.drop off.toNat).take n.toNat := by unfold readL; rw [hl, hi]; rfl
      have e2 : readE D off n = 0 := by unfold readE; rw [hl, hi]; rfl
      obtain ⟨o, rfl⟩ : ∃ o : Nat, off = o := ⟨off.toNat, by omega⟩
      obtain ⟨m, rfl⟩ : ∃ m : Nat, n = m := ⟨n.toNat, by omega⟩
      rw [Int.toNat_natCast, Int.toNat_natCast] at e1
      rw [e1, e2]
      rw [← HLE.out] at hii
      clear e1 e2 hl hi
      obtain ⟨hi1, hi2, hi3, hi4⟩ := hii
      have q3 : ¬ (D.dur.length : Int) < (o : Int) := by omega
      have q4 : ¬ (D.dur.length : Int) - (o : Int) < (m : Int) := by omega
      have hw : IntKind.i64.wrap ((D.dur.length : Int) - (o : Int)) = (D.dur.length : Int) - (o : Int) := IntWalk.i64_in _ (by omega)
      go_enter Try.func20, Try.ntmps20
      go_wp2_with fail
      refine (visible_any W B b gs cs rest vl D hB hpl HF.out H.out).mono ?_
      rintro e w1 ⟨g, cg, rfl, ⟨rest', hb⟩, hcg, hge, hbel⟩
      rw [← HV.out] at hb
      have HB := Lib.hid hb
      have HL := Lib.hid hbel
      clear hb hbel
      by_cases hm0 : m = 0
      · subst hm0
        have hcv := conv_blk0 w1
        go_wp2_with fail
        all_goals (go_ret2; exact ⟨rfl, HL.out⟩)
      · have hcv := conv_blkR HB.out o m (cg - o) (by rw [← HLE.out]; omega)
        have hlt : (o : Int) < (o : Int) + m := by omega
        have hsw := Lib.run_slice_window (P := Try.prog) w1 40 5 Try.underlying40 (fun _ => by kernel_rfl) g 0 D.dur.length cg o (o + m) (by omega) (by omega)
        rw [Nat.zero_add, show o + m - o = m from by omega] at hsw
        rw [show ((o + m : Nat) : Int) = (o : Int) + m from by omega] at hsw
        go_wp2_with fail
        go_ret2
        exact ⟨rfl, HL.out⟩
  · have e1 : readL D off n = [] := by unfold readL; rw [hl]; rfl
    have e2 : readE D off n = 241 := by unfold readE; rw [hl]; rfl
    rw [e1, e2]
    rw [hl] at c2
    clear e1 e2 hl
    go_enter Try.func20, Try.ntmps20
    go_wp2_with fail
    go_ret2
    exact ⟨rfl, Below.refl _ _⟩
end Go.Proofs.Ytdcnddbkjdbbbaa
