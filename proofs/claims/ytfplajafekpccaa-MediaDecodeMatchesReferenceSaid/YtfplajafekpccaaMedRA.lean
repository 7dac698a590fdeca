/-
  The walks of the reference implementation of package media: Valid, Same.
-/
import Derived.WalkKit
import Derived.LoopTactic
import Derived.WalkSpells
import Derived.WalkLawsBesides
import Derived.RegionTactic
import Derived.BigRegion
import Derived.Deep.QuietTactic
import Derived.Deep.RegionHeld3
import Derived.BigQuiet
import Derived.IntWalk
import Derived.Outline
import Derived.Test.YtfplajafekpccaaMedN
set_option linter.unusedVariables false
set_option linter.unusedSimpArgs false
namespace Go.Proofs.Ytfplajafekpccaa
open Go.RowKit Onair
set_option maxHeartbeats 4000000 in
set_option maxRecDepth 100000 in
theorem refValid_any (i : Int) (oa : Option Addr) (cap : Nat) (l : List Pic) (W : World) (hl : l.length ≤ maxLen) (hok : ∀ p ∈ l, POk p) (h : RdP W oa l) :
    Calls Try.prog 14 #[.agg #[.int .i64 i, .slice oa l.length cap]] W fun e w' => e = .returned (.bool (validA i l)) ∧ Below W.heap.size W w' := by
  unfold maxLen at hl
  obtain ⟨r, hr0⟩ : ∃ r, W.heap.size = r := ⟨_, rfl⟩
  have H0 := Lib.hid (AM.new W r i oa cap l hr0 h)
  have HR0 := Lib.hid hr0
  have HOK := Lib.hid hok
  clear h hok hr0
  by_cases h1 : 1 ≤ i ∧ i ≤ 4611686018427387903
  · by_cases h2 : 1 ≤ l.length ∧ l.length ≤ 2000
    · cases l with
      | nil => exact absurd h2.1 (by simp)
      | cons c0 m =>
        have hv : validA i (c0 :: m) = (c0.key && (c0 :: m).all okPic) := by
          unfold validA
          rw [decide_eq_true h1, decide_eq_true h2]
          rfl
        rw [hv]
        clear hv
        obtain ⟨g, off, e', d0, _, _⟩ := H0.out.rd.at 0 c0 rfl
        rw [Nat.zero_mul, Nat.add_zero] at d0
        subst e'
        obtain ⟨h1, h1'⟩ := h1
        generalize hL : c0 :: m = L at *
        obtain ⟨n, hn⟩ : ∃ n, L.length = n := ⟨_, rfl⟩
        rw [hn] at h2 hl d0 ⊢
        obtain ⟨h2, h2'⟩ := h2
        have HN := Lib.hid hn
        clear hn hL
        have q0 : (0 : Int) < n := by omega
        cases hk : c0.key
        · rw [hk] at d0
          clear hk
          go_enter Try.func14, Try.ntmps14
          go_wp2_with fail
          go_ret
          exact ⟨rfl, by rw [← HN.out]; exact H0.out.bel⟩
        · rw [hk] at d0
          clear hk
          rw [Bool.true_and]
          go_enter Try.func14, Try.ntmps14
          go_wp2_with fail
          rw [HR0.out]
          clear d0
          rw [← HN.out]
          obtain ⟨w0, hw0⟩ : ∃ w0, W.alloc (.cells #[.int .i64 i, .slice (some ⟨g, off, none⟩) L.length cap] 24) = w0 := ⟨_, rfl⟩
          have H0' : Hid (AM W r i (some ⟨g, off, none⟩) cap L w0) := hw0 ▸ H0.out
          rw [hw0]
          clear hw0 H0
          go_loopw [3] (fun x wr => ∃ j : Nat, j ≤ n ∧ x = .int .i64 j ∧ Hid ((L.take j).all okPic = true) ∧ Hid (AM W r i (some ⟨g, off, none⟩) cap L wr)) (fun x _ => n - (intOf x).toNat)
          case atStart => exact ⟨0, Nat.zero_le _, rfl, rfl, H0'⟩
          case round =>
            obtain ⟨j, hj, rfl, HA, HM⟩ := hrel
            have b1 := HM.out.blk.cell 1
            simp only [List.getElem?_cons_zero, List.getElem?_cons_succ, HN.out] at b1
            by_cases hjn : j = n
            · have q1 : ¬ (j : Int) < n := by omega
              have HE : Hid (L.all okPic = true) := by
                have := HA.out
                rw [hjn, ← HN.out, List.take_length] at this
                exact this
              clear hjn
              go_wp2_with fail
              go_ret
              rw [HE.out]
              exact ⟨rfl, HM.out.bel⟩
            · have q1 : (j : Int) < n := by omega
              obtain ⟨c, hc⟩ : ∃ c, L[j]? = some c := ⟨_, List.getElem?_eq_getElem (by rw [HN.out]; omega)⟩
              obtain ⟨g', off', e', d0, d1, d2⟩ := HM.out.rd.at j c hc
              have hp := HOK.out c (List.mem_of_getElem? hc)
              obtain ⟨p0, p1, sz⟩ := hp
              simp at e'
              obtain ⟨rfl, rfl⟩ := e'
              unfold maxLen at sz
              have HM2 := Lib.hid (HM.out.alloc (.cells #[.bool c.key, .string c.data, .int .i64 c.power] 42))
              have HT := Lib.hid (all_take_succ L j c hc)
              have HF := Lib.hid (all_false L j c hc)
              clear hc hjn
              obtain ⟨k, dt, pw⟩ := c
              dsimp only at *
              by_cases r1 : dt.size ≤ 400
              · by_cases r2 : 0 ≤ pw
                · by_cases r3 : pw ≤ 1000000
                  · have HA2 : Hid ((L.take (j + 1)).all okPic = true) := by
                      show _ = _
                      rw [HT.out, HA.out, (okPic_iff _).2 ⟨r1, r2, r3⟩]
                      rfl
                    go_wp2_with fail
                    go_roundw
                    case rel => exact ⟨j + 1, by omega, by go_num, HA2, HM2⟩
                    case measure => simp [intOf]; omega
                  · have HX : Hid (L.all okPic = false) := HF.out (by
                      rw [Bool.eq_false_iff, ne_eq, okPic_iff]
                      exact fun e => r3 e.2.2)
                    go_wp2_with fail
                    go_ret
                    rw [HX.out]
                    exact ⟨rfl, HM2.out.bel⟩
                · have HX : Hid (L.all okPic = false) := HF.out (by
                    rw [Bool.eq_false_iff, ne_eq, okPic_iff]
                    exact fun e => r2 e.2.1)
                  go_wp2_with fail
                  go_ret
                  rw [HX.out]
                  exact ⟨rfl, HM2.out.bel⟩
              · have HX : Hid (L.all okPic = false) := HF.out (by
                  rw [Bool.eq_false_iff, ne_eq, okPic_iff]
                  exact fun e => r1 e.1)
                go_wp2_with fail
                go_ret
                rw [HX.out]
                exact ⟨rfl, HM2.out.bel⟩
    · have hv : validA i l = false := by
        unfold validA
        rw [decide_eq_false h2]
        simp
      rw [hv]
      have HB0 := Lib.hid H0.out.bel
      clear hv H0 HOK
      obtain ⟨n, hn⟩ : ∃ n, l.length = n := ⟨_, rfl⟩
      rw [hn] at h2 hl HB0 ⊢
      clear hn
      obtain ⟨h1, h1'⟩ := h1
      by_cases h3 : n < 1
      · have h3' : (n : Int) < 1 := by omega
        go_enter Try.func14, Try.ntmps14
        go_wp2_with fail
        go_ret
        exact ⟨rfl, HB0.out⟩
      · have h3' : ¬ (n : Int) < 1 := by omega
        have h4 : (2000 : Int) < n := by omega
        go_enter Try.func14, Try.ntmps14
        go_wp2_with fail
        go_ret
        exact ⟨rfl, HB0.out⟩
  · have hv : validA i l = false := by
      unfold validA
      rw [decide_eq_false h1]
      simp
    rw [hv]
    have HB0 := Lib.hid H0.out.bel
    clear hv H0 HOK
    by_cases h3 : i < 1
    · go_enter Try.func14, Try.ntmps14
      go_wp2_with fail
      go_ret
      exact ⟨rfl, HB0.out⟩
    · have h4 : 4611686018427387903 < i := by omega
      go_enter Try.func14, Try.ntmps14
      go_wp2_with fail
      go_ret
      exact ⟨rfl, HB0.out⟩
end Go.Proofs.Ytfplajafekpccaa
