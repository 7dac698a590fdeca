/-
  The walk of the law MediaDecodeMatchesReference.
-/
import Derived.WalkKit
import Derived.LoopTactic
import Derived.WalkSpells
import Derived.WalkLawsBesides
import Derived.RegionTactic
import Derived.BigRegion
import Derived.Deep.QuietTactic
import Derived.Deep.RegionHeld3
import Derived.BigQuiet
import Derived.IntWalk
import Derived.Outline
import Derived.Test.YtfplajafekpccaaMedRF
import Derived.Test.YtfplajafekpccaaMedRB
set_option linter.unusedVariables false
set_option linter.unusedSimpArgs false
namespace Go.Proofs.Ytfplajafekpccaa
open Go.RowKit Onair
theorem refSame_of (w : World) (i : Int) (oa ob : Option Addr) (ca cb n : Nat) (a : List Pic) (hn : a.length = n) (ha : a.length ≤ 1000000) (hra : RdP w oa a) (hrb : RdP w ob a) :
    Calls Try.prog 16 #[.agg #[.int .i64 i, .slice oa n ca], .agg #[.int .i64 i, .slice ob n cb]] w fun e w' => e = .returned (.bool true) ∧ Below w.heap.size w w' := by
  subst hn
  have := refSame_any w i i oa ob ca cb a a ha ha hra hrb
  rw [sameA_self] at this
  exact this
/-- What Decode answers, in one form. -/
def dI (D : Int ⊕ (Int × List Pic)) : Int := match D with | .inl _ => 0 | .inr p => p.1
def dP (D : Int ⊕ (Int × List Pic)) : List Pic := match D with | .inl _ => [] | .inr p => p.2
def dE (D : Int ⊕ (Int × List Pic)) : Int := match D with | .inl c => c | .inr _ => 0
theorem DecPost.one {F : FuncId} {av : Array Value} {W : World} {D : Int ⊕ (Int × List Pic)} (h : Calls Try.prog F av W (DecPost W D)) :
    Calls Try.prog F av W fun e w' => ∃ (oa : Option Addr) (cap : Nat), e = .returned (.tuple #[.agg #[.int .i64 (dI D), .slice oa (dP D).length cap], .int .i64 (dE D)]) ∧ RdP w' oa (dP D) ∧ Below W.heap.size W w' := by
  refine h.mono ?_
  rcases D with c | ⟨i, l⟩
  · rintro e w' ⟨rfl, hb⟩
    exact ⟨none, 0, rfl, .inl rfl, hb⟩
  · rintro e w' ⟨oa, cap, rfl, hr, hb⟩
    exact ⟨oa, cap, rfl, hr, hb⟩
set_option maxHeartbeats 4000000 in
set_option maxRecDepth 100000 in
theorem walkDecodeMatches (W : World) (s : ByteArray) (hs : s.size ≤ maxLen) :
    Calls Try.prog 5 #[.string s] W fun e w' => e = .returned (.bool true) ∧ Below W.heap.size W w' := by
  unfold maxLen at hs
  obtain ⟨m, T, h1, h2, h3, h4⟩ : ∃ (m : Nat) (T : ByteArray), m ≤ s.size ∧ T.size ≤ 100000 ∧ (if (100000 : Int) < (s.size : Int) then (100000 : Int) else (s.size : Int)) = (m : Int) ∧ s.extract 0 m = T := ⟨min 100000 s.size, _, by omega, by simp; omega, by split <;> omega, rfl⟩
  have h3' : min (s.size : Int) 100000 = (m : Int) := by split at h3 <;> omega
  go_enter Try.func5, Try.ntmps5
  go_wp2_with fail
  refine (sane_any _).mono ?_
  rintro e w1 ⟨rfl, hb1⟩
  have HB1 := Lib.hid hb1
  clear hb1
  go_wp2_with fail
  clear h3 h3' h4
  refine (DecPost.one (decode_any T w1 (by unfold maxLen; omega))).mono ?_
  have HREF := Lib.hid (fun w => DecPost.one (refDecode_any T w (by unfold maxLen; omega)))
  have hlen : (dP (decR T.data.toList)).length ≤ 1000000 := by
    rcases hD : decR T.data.toList with c | ⟨i, l⟩
    · simp [dP]
    · have := (validA_parts (decR_back _ _ _ hD).1).2.2.2.1
      simp only [dP]
      omega
  generalize decR T.data.toList = D at hlen HREF ⊢
  generalize dI D = i at HREF ⊢
  generalize dP D = l at HREF hlen ⊢
  generalize dE D = c at HREF ⊢
  rintro e w2 ⟨oa, cap, rfl, hr2, hb2⟩
  have hb3 : Below w2.heap.size w2 (w2.alloc (.cells #[.int .i64 i, .slice oa l.length cap] 24)) := (Below.refl _ w2).alloc (Nat.le_refl _) _
  have HB3 := Lib.hid (bstep (bstep HB1.out hb2) hb3)
  have HR3 := Lib.hid (hr2.kept hb3)
  have HK3 := Lib.hid (Blk.new w2 24 [.int .i64 i, .slice oa l.length cap])
  obtain ⟨n, hn⟩ : ∃ n, l.length = n := ⟨_, rfl⟩
  rw [hn] at HB3 HR3 HK3 ⊢
  have HN := Lib.hid hn
  clear hb2 hb3 hr2 HB1 hn
  go_wp2_with fail
  refine (HREF.out _).mono ?_
  rw [HN.out]
  rintro e w4 ⟨ob, cb, rfl, hr4, hb4⟩
  have hb5 : Below w4.heap.size w4 (w4.alloc (.cells #[.int .i64 i, .slice ob n cb] 24)) := (Below.refl _ w4).alloc (Nat.le_refl _) _
  have HB5 := Lib.hid (bstep (bstep HB3.out hb4) hb5)
  have HR5 := Lib.hid ((HR3.out.kept hb4).kept hb5)
  have HQ5 := Lib.hid (hr4.kept hb5)
  have HK5 := Lib.hid ((HK3.out.kept (hb4.block _ HK3.out.lt)).alloc (.cells #[.int .i64 i, .slice ob n cb] 24))
  have c0 := HK5.out.cell 0
  have c1 := HK5.out.cell 1
  simp only [List.getElem?_cons_zero, List.getElem?_cons_succ] at c0 c1
  have hcc : (c == c) = true := by simp
  have HLEN := Lib.hid hlen
  have hkl : w2.heap.size < w4.heap.size := by have := (HK3.out.kept (hb4.block _ HK3.out.lt)).lt; exact this
  clear hb4 hb5 hr4 HB3 HR3 HK3 hlen
  go_wp2_with fail
  refine (refSame_of _ i oa ob cap cb n l HN.out HLEN.out HR5.out HQ5.out).mono ?_
  rintro e w6 ⟨rfl, hb6⟩
  have HB6 := Lib.hid (bstep HB5.out hb6)
  clear hb6 c0 c1 HB5 HR5 HQ5 HK5
  go_wp2_with fail
  go_ret
  exact ⟨rfl, HB6.out⟩
end Go.Proofs.Ytfplajafekpccaa
