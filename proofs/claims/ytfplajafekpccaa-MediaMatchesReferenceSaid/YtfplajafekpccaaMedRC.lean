/-
  The walks of the reference implementation of package media: Keys, Sizes, Powers.
-/
import Derived.WalkKit
import Derived.LoopTactic
import Derived.WalkSpells
import Derived.WalkLawsBesides
import Derived.RegionTactic
import Derived.BigRegion
import Derived.Deep.QuietTactic
import Derived.Deep.RegionHeld3
import Derived.BigQuiet
import Derived.IntWalk
import Derived.Outline
import Derived.Test.YtfplajafekpccaaMedN
set_option linter.unusedVariables false
set_option linter.unusedSimpArgs false
namespace Go.Proofs.Ytfplajafekpccaa
open Go.RowKit Onair
theorem keysF_len' (l : List Pic) : (keysF 0 l).length ≤ l.length := keysF_len l 0
theorem sizesL_len' (l : List Pic) : (sizesL l).length ≤ l.length := by simp [sizesL]
theorem powersL_len' (l : List Pic) : (powersL l).length ≤ l.length := by simp [powersL]
set_option maxHeartbeats 4000000 in
set_option maxRecDepth 100000 in
theorem refKeys_any (W : World) (i : Int) (oa : Option Addr) (cap : Nat) (l : List Pic) (hl : l.length ≤ 1000000) (hok : ∀ p ∈ l, POk p) (hr : RdP W oa l) :
    Calls Try.prog 19 #[.agg #[.int .i64 i, .slice oa l.length cap]] W fun e w' => ∃ oa' cap', e = .returned (.slice oa' (keysF 0 l).length cap') ∧ RdV w' oa' (ints (keysF 0 l)) ∧ Below W.heap.size W w' := by
  obtain ⟨r, hr0⟩ : ∃ r, W.heap.size = r := ⟨_, rfl⟩
  have H0 := Lib.hid (AM.new W r i oa cap l hr0 hr)
  have HR0 := Lib.hid hr0
  have HOK := Lib.hid hok
  clear hr hok hr0
  obtain ⟨n, hn⟩ : ∃ n, l.length = n := ⟨_, rfl⟩
  rw [hn] at hl H0 ⊢
  have HN := Lib.hid hn
  clear hn
  go_enter Try.func19, Try.ntmps19
  go_wp2_with fail
  rw [HR0.out]
  obtain ⟨w0, hw0⟩ : ∃ w0, W.alloc (.cells #[.int .i64 i, .slice oa n cap] 24) = w0 := ⟨_, rfl⟩
  have H1 : Hid (AM W r i oa cap l w0) := hw0 ▸ H0.out
  rw [hw0]
  clear hw0 H0
  go_loopw [3, 4] (fun v x wr => ∃ (k : Nat) (X : List Value), k ≤ n ∧ x = .int .i64 k ∧ Hid (ints (keysF 0 (l.take k)) = X) ∧ Hid (LV w0 wr 3 v X)) (fun _ x _ => n - (intOf x).toNat)
  case atStart => exact ⟨0, [], Nat.zero_le _, rfl, rfl, ⟨World.ownsRow_nil _ _ _ _, Below.refl _ _⟩⟩
  case round =>
    obtain ⟨k, X, hk, rfl, HX, HL⟩ := hrel
    obtain ⟨oL, cL, rfl⟩ := own_slice HL.out.own
    have HM := Lib.hid (H1.out.below HL.out.bel)
    have b1 := HM.out.blk.cell 1
    simp only [List.getElem?_cons_zero, List.getElem?_cons_succ, HN.out] at b1
    have hXl : X.length ≤ 1000000 := by
      rw [← HX.out, ints_len]
      have h1 := keysF_len' (l.take k)
      have h2 : (l.take k).length ≤ l.length := by rw [List.length_take]; omega
      have := HN.out
      omega
    by_cases hkn : k = n
    · have q1 : ¬ (k : Int) < n := by omega
      have HE : Hid (ints (keysF 0 l) = X) := by
        have := HX.out
        rw [hkn, ← HN.out, List.take_length] at this
        exact this
      have HXN : Hid (X.length = (keysF 0 l).length) := by show _ = _; rw [← HE.out, ints_len]
      clear hkn
      go_wp2_with fail
      go_ret
      refine ⟨oL, ⟨cL, by rw [← HXN.out]; rfl⟩, ?_, bstep H1.out.bel HL.out.bel⟩
      rw [HE.out]
      exact (own_rdv HL.out.own).2
    · have q1 : (k : Int) < n := by omega
      obtain ⟨c, hc⟩ : ∃ c, l[k]? = some c := ⟨_, List.getElem?_eq_getElem (by rw [HN.out]; omega)⟩
      obtain ⟨g, off, e', d0, d1, d2⟩ := HM.out.rd.at k c hc
      subst e'
      have hsz := (HOK.out c (List.mem_of_getElem? hc)).sz
      unfold maxLen at hsz
      have HS := Lib.hid (keysF_snoc l k c hc)
      clear hkn hc
      cases hck : c.key
      · rw [hck] at d0
        have HX2 : Hid (ints (keysF 0 (l.take (k + 1))) = X) := by
          show _ = _
          rw [HS.out, hck]
          exact HX.out
        clear hck
        go_wp2_with fail
        go_roundw
        case rel => exact ⟨k + 1, _, by omega, by go_num, HX2, HL⟩
        case measure => simp [intOf]; omega
      · rw [hck] at d0
        have HX2 : Hid (ints (keysF 0 (l.take (k + 1))) = X ++ [.int .i64 (k : Int)]) := by
          show _ = _
          rw [HS.out, hck, if_pos rfl, ← HX.out]
          simp [ints]
        clear hck
        obtain ⟨oM, cM, w4, hrun, ho4, hf4⟩ := app_i wr w0.heap.size _ X (k : Int) HL.out.own hXl HL.out.bel.size 30
        have HL4 := Lib.hid (HL.out.app ho4 hf4)
        clear ho4 hf4
        go_wp2_with (at_builtin; refine wpList_append_run _ rfl _ _ 30 rfl _ _ _ _ rfl rfl hrun ?_)
        go_roundw
        case rel => exact ⟨k + 1, _, by omega, by go_num, HX2, HL4⟩
        case measure => simp [intOf]; omega
set_option maxHeartbeats 4000000 in
set_option maxRecDepth 100000 in
theorem refSizes_any (W : World) (i : Int) (oa : Option Addr) (cap : Nat) (l : List Pic) (hl : l.length ≤ 1000000) (hok : ∀ p ∈ l, POk p) (hr : RdP W oa l) :
    Calls Try.prog 21 #[.agg #[.int .i64 i, .slice oa l.length cap]] W fun e w' => ∃ oa' cap', e = .returned (.slice oa' (sizesL l).length cap') ∧ RdV w' oa' (ints (sizesL l)) ∧ Below W.heap.size W w' := by
  obtain ⟨r, hr0⟩ : ∃ r, W.heap.size = r := ⟨_, rfl⟩
  have H0 := Lib.hid (AM.new W r i oa cap l hr0 hr)
  have HR0 := Lib.hid hr0
  have HOK := Lib.hid hok
  clear hr hok hr0
  obtain ⟨n, hn⟩ : ∃ n, l.length = n := ⟨_, rfl⟩
  rw [hn] at hl H0 ⊢
  have HN := Lib.hid hn
  clear hn
  go_enter Try.func21, Try.ntmps21
  go_wp2_with fail
  rw [HR0.out]
  obtain ⟨w0, hw0⟩ : ∃ w0, W.alloc (.cells #[.int .i64 i, .slice oa n cap] 24) = w0 := ⟨_, rfl⟩
  have H1 : Hid (AM W r i oa cap l w0) := hw0 ▸ H0.out
  rw [hw0]
  clear hw0 H0
  go_loopw [3, 4] (fun v x wr => ∃ (k : Nat) (X : List Value), k ≤ n ∧ x = .int .i64 k ∧ Hid (ints (sizesL (l.take k)) = X) ∧ Hid (LV w0 wr 3 v X)) (fun _ x _ => n - (intOf x).toNat)
  case atStart => exact ⟨0, [], Nat.zero_le _, rfl, rfl, ⟨World.ownsRow_nil _ _ _ _, Below.refl _ _⟩⟩
  case round =>
    obtain ⟨k, X, hk, rfl, HX, HL⟩ := hrel
    obtain ⟨oL, cL, rfl⟩ := own_slice HL.out.own
    have HM := Lib.hid (H1.out.below HL.out.bel)
    have b1 := HM.out.blk.cell 1
    simp only [List.getElem?_cons_zero, List.getElem?_cons_succ, HN.out] at b1
    have hXl : X.length ≤ 1000000 := by
      rw [← HX.out, ints_len]
      have h1 := sizesL_len' (l.take k)
      have h2 : (l.take k).length ≤ l.length := by rw [List.length_take]; omega
      have := HN.out
      omega
    by_cases hkn : k = n
    · have q1 : ¬ (k : Int) < n := by omega
      have HE : Hid (ints (sizesL l) = X) := by
        have := HX.out
        rw [hkn, ← HN.out, List.take_length] at this
        exact this
      have HXN : Hid (X.length = (sizesL l).length) := by show _ = _; rw [← HE.out, ints_len]
      clear hkn
      go_wp2_with fail
      go_ret
      refine ⟨oL, ⟨cL, by rw [← HXN.out]; rfl⟩, ?_, bstep H1.out.bel HL.out.bel⟩
      rw [HE.out]
      exact (own_rdv HL.out.own).2
    · have q1 : (k : Int) < n := by omega
      obtain ⟨c, hc⟩ : ∃ c, l[k]? = some c := ⟨_, List.getElem?_eq_getElem (by rw [HN.out]; omega)⟩
      obtain ⟨g, off, e', d0, d1, d2⟩ := HM.out.rd.at k c hc
      subst e'
      have hsz := (HOK.out c (List.mem_of_getElem? hc)).sz
      unfold maxLen at hsz
      have HX2 : Hid (ints (sizesL (l.take (k + 1))) = X ++ [.int .i64 (c.data.size : Int)]) := by
        show _ = _
        rw [List.take_add_one, hc, ← HX.out]
        simp [ints, sizesL]
      clear hkn hc
      obtain ⟨oM, cM, w4, hrun, ho4, hf4⟩ := app_i wr w0.heap.size _ X (c.data.size : Int) HL.out.own hXl HL.out.bel.size 30
      have HL4 := Lib.hid (HL.out.app ho4 hf4)
      clear ho4 hf4
      go_wp2_with (at_builtin; refine wpList_append_run _ rfl _ _ 30 rfl _ _ _ _ rfl rfl hrun ?_)
      go_roundw
      case rel => exact ⟨k + 1, _, by omega, by go_num, HX2, HL4⟩
      case measure => simp [intOf]; omega
set_option maxHeartbeats 4000000 in
set_option maxRecDepth 100000 in
theorem refPowers_any (W : World) (i : Int) (oa : Option Addr) (cap : Nat) (l : List Pic) (hl : l.length ≤ 1000000) (hok : ∀ p ∈ l, POk p) (hr : RdP W oa l) :
    Calls Try.prog 23 #[.agg #[.int .i64 i, .slice oa l.length cap]] W fun e w' => ∃ oa' cap', e = .returned (.slice oa' (powersL l).length cap') ∧ RdV w' oa' (ints (powersL l)) ∧ Below W.heap.size W w' := by
  obtain ⟨r, hr0⟩ : ∃ r, W.heap.size = r := ⟨_, rfl⟩
  have H0 := Lib.hid (AM.new W r i oa cap l hr0 hr)
  have HR0 := Lib.hid hr0
  have HOK := Lib.hid hok
  clear hr hok hr0
  obtain ⟨n, hn⟩ : ∃ n, l.length = n := ⟨_, rfl⟩
  rw [hn] at hl H0 ⊢
  have HN := Lib.hid hn
  clear hn
  go_enter Try.func23, Try.ntmps23
  go_wp2_with fail
  rw [HR0.out]
  obtain ⟨w0, hw0⟩ : ∃ w0, W.alloc (.cells #[.int .i64 i, .slice oa n cap] 24) = w0 := ⟨_, rfl⟩
  have H1 : Hid (AM W r i oa cap l w0) := hw0 ▸ H0.out
  rw [hw0]
  clear hw0 H0
  go_loopw [3, 4] (fun v x wr => ∃ (k : Nat) (X : List Value), k ≤ n ∧ x = .int .i64 k ∧ Hid (ints (powersL (l.take k)) = X) ∧ Hid (LV w0 wr 3 v X)) (fun _ x _ => n - (intOf x).toNat)
  case atStart => exact ⟨0, [], Nat.zero_le _, rfl, rfl, ⟨World.ownsRow_nil _ _ _ _, Below.refl _ _⟩⟩
  case round =>
    obtain ⟨k, X, hk, rfl, HX, HL⟩ := hrel
    obtain ⟨oL, cL, rfl⟩ := own_slice HL.out.own
    have HM := Lib.hid (H1.out.below HL.out.bel)
    have b1 := HM.out.blk.cell 1
    simp only [List.getElem?_cons_zero, List.getElem?_cons_succ, HN.out] at b1
    have hXl : X.length ≤ 1000000 := by
      rw [← HX.out, ints_len]
      have h1 := powersL_len' (l.take k)
      have h2 : (l.take k).length ≤ l.length := by rw [List.length_take]; omega
      have := HN.out
      omega
    by_cases hkn : k = n
    · have q1 : ¬ (k : Int) < n := by omega
      have HE : Hid (ints (powersL l) = X) := by
        have := HX.out
        rw [hkn, ← HN.out, List.take_length] at this
        exact this
      have HXN : Hid (X.length = (powersL l).length) := by show _ = _; rw [← HE.out, ints_len]
      clear hkn
      go_wp2_with fail
      go_ret
      refine ⟨oL, ⟨cL, by rw [← HXN.out]; rfl⟩, ?_, bstep H1.out.bel HL.out.bel⟩
      rw [HE.out]
      exact (own_rdv HL.out.own).2
    · have q1 : (k : Int) < n := by omega
      obtain ⟨c, hc⟩ : ∃ c, l[k]? = some c := ⟨_, List.getElem?_eq_getElem (by rw [HN.out]; omega)⟩
      obtain ⟨g, off, e', d0, d1, d2⟩ := HM.out.rd.at k c hc
      subst e'
      have hsz := (HOK.out c (List.mem_of_getElem? hc)).sz
      unfold maxLen at hsz
      have HX2 : Hid (ints (powersL (l.take (k + 1))) = X ++ [.int .i64 c.power]) := by
        show _ = _
        rw [List.take_add_one, hc, ← HX.out]
        simp [ints, powersL]
      clear hkn hc
      obtain ⟨oM, cM, w4, hrun, ho4, hf4⟩ := app_i wr w0.heap.size _ X c.power HL.out.own hXl HL.out.bel.size 30
      have HL4 := Lib.hid (HL.out.app ho4 hf4)
      clear ho4 hf4
      go_wp2_with (at_builtin; refine wpList_append_run _ rfl _ _ 30 rfl _ _ _ _ rfl rfl hrun ?_)
      go_roundw
      case rel => exact ⟨k + 1, _, by omega, by go_num, HX2, HL4⟩
      case measure => simp [intOf]; omega
end Go.Proofs.Ytfplajafekpccaa
