/-
  The walk of the law MediaPrefixes.
-/
import Derived.WalkKit
import Derived.LoopTactic
import Derived.WalkSpells
import Derived.WalkLawsBesides
import Derived.RegionTactic
import Derived.BigRegion
import Derived.Deep.QuietTactic
import Derived.Deep.RegionHeld3
import Derived.BigQuiet
import Derived.IntWalk
import Derived.Outline
import Derived.Test.YtfplajafekpccaaMedN
set_option linter.unusedVariables false
set_option linter.unusedSimpArgs false
namespace Go.Proofs.Ytfplajafekpccaa
open Go.RowKit Onair
set_option maxHeartbeats 4000000 in
set_option maxRecDepth 100000 in
theorem walkPrefixes (W : World) (i : Int) (oa : Option Addr) (cap : Nat) (l : List Pic) (n : Int) (s : ByteArray) (hl : l.length ≤ maxLen) (hok : ∀ p ∈ l, POk p) (hr : RdP W oa l) (hn0 : -9223372036854775808 ≤ n) (hn1 : n ≤ 9223372036854775807) (hs : s.size ≤ maxLen) :
    Calls Try.prog 9 #[.agg #[.int .i64 i, .slice oa l.length cap], .int .i64 n, .string s] W fun e w' => e = .returned (.bool true) ∧ Below W.heap.size W w' := by
  unfold maxLen at hs
  obtain ⟨r, hr0⟩ : ∃ r, W.heap.size = r := ⟨_, rfl⟩
  have H0 := Lib.hid (AM.new W r i oa cap l hr0 hr)
  have HR0 := Lib.hid hr0
  have HOK := Lib.hid hok
  have HL := Lib.hid hl
  obtain ⟨z, hz⟩ : ∃ z, l.length = z := ⟨_, rfl⟩
  rw [hz] at H0 ⊢
  have HN := Lib.hid hz
  clear hr hr0 hok hl hz
  obtain ⟨m, T, h1, h2, h3, h4⟩ : ∃ (m : Nat) (T : ByteArray), m ≤ s.size ∧ T.size ≤ 20 ∧ (if (20 : Int) < (s.size : Int) then (20 : Int) else (s.size : Int)) = (m : Int) ∧ s.extract 0 m = T := ⟨min 20 s.size, _, by omega, by simp; omega, by split <;> omega, rfl⟩
  have H3 : Hid (min (s.size : Int) 20 = (m : Int)) := by show _ = _; split at h3 <;> omega
  have H4 := Lib.hid h4
  clear h3 h4
  go_enter Try.func9, Try.ntmps9
  go_wp2_with fail
  rw [HR0.out]
  refine (sane_any _).mono ?_
  rintro e w1 ⟨rfl, hb1⟩
  have H1 := Lib.hid (H0.out.below hb1)
  have c0 := H1.out.blk.cell 0
  have c1 := H1.out.blk.cell 1
  simp only [List.getElem?_cons_zero, List.getElem?_cons_succ, HN.out] at c0 c1
  clear hb1 H0
  go_wp2_with fail
  rw [← HN.out]
  refine (short_any w1 i oa cap l HL.out HOK.out H1.out.rd).mono ?_
  have hll := cutP_len l
  have hko := cutP_ok l HOK.out
  generalize cutP l = L at hll hko ⊢
  have HKO := Lib.hid hko
  rintro e w2 ⟨oL, cL, rfl, ho2, hb2⟩
  have HB2 := Lib.hid (bstep H1.out.bel hb2)
  have HRD := Lib.hid (own_rdp ho2).2
  clear ho2 hb2 hko c0 c1 H1
  go_wp2_with fail
  refine (encode_any i oL cL L w2 (by unfold maxLen; omega) HKO.out HRD.out).mono ?_
  cases hv : validA i L
  · rw [encR_no hv, encE_no hv]
    clear hv
    rintro e w3 ⟨rfl, hb3⟩
    have HB3 := Lib.hid (bstep HB2.out hb3)
    clear hb3 HB2
    go_wp2_with fail
    go_ret
    exact ⟨rfl, HB3.out⟩
  · rw [encR_ok hv, encE_ok hv]
    have hE1 := encA_pos i L hv
    have hE2 := encA_len hv
    have HCUT := Lib.hid (decR_cut i L hv)
    have HMORE := Lib.hid (fun q => decR_more i L q hv)
    obtain ⟨E, hE⟩ : ∃ E : ByteArray, (⟨(encA i L).toArray⟩ : ByteArray) = E := ⟨_, rfl⟩
    have hEl : E.data.toList = encA i L := by rw [← hE]
    rw [hE]
    have hEs : E.size = (encA i L).length := by rw [← blen, hEl]
    rw [← hEs] at hE1 hE2
    rw [← hEl, blen] at HCUT
    rw [← hEl] at HMORE
    have hne := err_ne hE1
    have hne2 : E.toList.isEmpty = false := by
      rw [List.isEmpty_eq_false_iff]
      intro e
      have := congrArg List.length e
      rw [ByteArray.toList_eq, blen, List.length_nil] at this
      omega
    clear hE hEl hEs hv
    rintro e w3 ⟨rfl, hb3⟩
    have HB3 := Lib.hid (bstep HB2.out hb3)
    clear hb3 HB2
    go_wp2_with fail
    refine (pick_any n E.size _ hn0 hn1 (by omega) (by omega)).mono ?_
    have hpb := pickM_bd n E.size (by omega)
    obtain ⟨k, hk⟩ : ∃ k : Nat, pickM n E.size = (k : Int) := ⟨(pickM n E.size).toNat, by omega⟩
    rw [hk] at hpb ⊢
    clear hk
    rintro e w' ⟨rfl, rfl⟩
    have hk1 : k < E.size := by omega
    obtain ⟨X, hX⟩ : ∃ X, E.extract 0 k = X := ⟨_, rfl⟩
    have hXs : X.size ≤ 1000000 := by rw [← hX]; simp; omega
    have HX : Hid (decR X.data.toList = .inl 10) := by
      show _ = _
      rw [← hX, Lib.extract_data]
      simpa using HCUT.out k hk1
    go_wp2_with fail
    refine (decode_any X w3 (by unfold maxLen; omega)).mono ?_
    rw [HX.out]
    rintro e w4 ⟨rfl, hb4⟩
    have HB4 := Lib.hid ((bstep HB3.out hb4).alloc (bstep HB3.out hb4).size (.cells #[.int .i64 0, .slice none 0 0] 24))
    clear hb4 HB3 HX hX hXs hpb hk1 HCUT
    have h3 := H3.out
    have h4 := H4.out
    go_wp2_with fail
    clear h3 h4 hne hne2
    have hq := HMORE.out T.data.toList
    have ha : (E ++ T).data.toList = E.data.toList ++ T.data.toList := by simp
    have hsz : (E ++ T).size ≤ 1000020 := by rw [ByteArray.size_append]; omega
    rw [← ha] at hq
    clear ha
    refine (decode_any (E ++ T) _ (by unfold maxLen; omega)).mono ?_
    by_cases hT : T.data.toList = []
    · rw [hq, if_pos hT]
      have hT2 : T = ⟨#[]⟩ := by
        cases T with
        | mk d => simp at hT; subst hT; rfl
      rintro e w5 ⟨oD, cD, rfl, hrd5, hb5⟩
      have HB5 := Lib.hid ((bstep HB4.out hb5).alloc (bstep HB4.out hb5).size (.cells #[.int .i64 i, .slice oD L.length cD] 24))
      clear hb5 hrd5 HB4 hq hT
      subst hT2
      go_wp2_with fail
      go_ret
      exact ⟨rfl, HB5.out⟩
    · rw [hq, if_neg hT]
      have hT2 : T.toList.isEmpty = false := by
        rw [List.isEmpty_eq_false_iff, ByteArray.toList_eq]
        exact hT
      rintro e w5 ⟨rfl, hb5⟩
      have HB5 := Lib.hid ((bstep HB4.out hb5).alloc (bstep HB4.out hb5).size (.cells #[.int .i64 0, .slice none 0 0] 24))
      clear hb5 HB4 hq hT
      go_wp2_with fail
      go_ret
      exact ⟨rfl, HB5.out⟩
end Go.Proofs.Ytfplajafekpccaa
