/-
  The walk of the law CaptionExchange.
-/
import Derived.WalkKit
import Derived.LoopTactic
import Derived.WalkSpells
import Derived.WalkLawsBesides
import Derived.RegionTactic
import Derived.BigRegion
import Derived.Deep.QuietTactic
import Derived.BigQuiet
import Derived.IntWalk
import Derived.Outline
import Derived.Test.YtjmfhdnckgelaaaCapSane
import Derived.Test.YtjmfhdnckgelaaaCapEdP
import Derived.Test.YtjmfhdnckgelaaaCapOpen
set_option linter.unusedVariables false
set_option linter.unusedSimpArgs false
namespace Go.Proofs.Ytjmfhdnckgelaaa
open Go.RowKit
/-- The two cues in their boxes, and the list. -/
structure Exs (W wr : World) (A B : Nat) (a b : Cue) (ol : Option Addr) (L : List Cue) : Prop where
  a : Blk wr A 24 a.cells
  b : Blk wr B 24 b.cells
  l : RdC wr ol L
  bel : Below W.heap.size W wr
theorem Exs.below {W wr w' : World} {A B : Nat} {a b : Cue} {ol : Option Addr} {L : List Cue} (h : Exs W wr A B a b ol L) (hb : Below wr.heap.size wr w') : Exs W w' A B a b ol L :=
  ⟨h.a.kept (hb.block _ h.a.lt), h.b.kept (hb.block _ h.b.lt), h.l.kept hb, bstep h.bel hb⟩
theorem edit_good (l : List Cue) (c : Cue) (hv : validB c = true) (hl : (editL l c).length ≤ 200) : editR l c = editL l c ∧ editE l c = 0 := by
  have h : editOk l c = true := by unfold editOk; rw [hv, decide_eq_true hl]; rfl
  exact ⟨by unfold editR; rw [if_pos h], by unfold editE; rw [if_pos h]⟩
theorem editR_asc (l : List Cue) (c : Cue) (h : asc l) : asc (editR l c) := by
  unfold editR
  split
  · exact edit_asc l c h
  · exact List.Pairwise.nil
theorem editR_len (l : List Cue) (c : Cue) : (editR l c).length ≤ l.length + 1 := by
  unfold editR
  split
  · exact edit_len l c
  · simp
set_option maxHeartbeats 8000000 in
set_option maxRecDepth 100000 in
theorem walkExchange (W : World) (oa : Option Addr) (cap : Nat) (l : List Cue) (a b : Cue) (hok : ∀ c ∈ l, c.Ok) (hl : l.length ≤ maxLen) (hr : RdC W oa l) (hao : a.Ok) (hbo : b.Ok) :
    Calls Try.prog 8 #[.slice oa l.length cap, .agg #[.int .i64 a.id, .int .i64 a.fr, .int .i64 a.to, .int .i64 a.pr, .string a.tx], .agg #[.int .i64 b.id, .int .i64 b.fr, .int .i64 b.to, .int .i64 b.pr, .string b.tx]] W fun e w' => e = .returned (.bool true) ∧ Below W.heap.size W w' := by
  have HR := Lib.hid hr
  have HOK := Lib.hid hok
  unfold maxLen at hl
  clear hr hok
  go_enter Try.func8, Try.ntmps8
  go_wp2_with fail
  refine (sane_any _).mono ?_
  rintro e w1 ⟨rfl, hb1⟩
  have HX : Hid (Exs W w1 W.heap.size (W.heap.size + 1) a b none []) := by
    have h0 : Below W.heap.size W ((W.alloc (.cells #[.int .i64 a.id, .int .i64 a.fr, .int .i64 a.to, .int .i64 a.pr, .string a.tx] 24)).alloc (.cells #[.int .i64 b.id, .int .i64 b.fr, .int .i64 b.to, .int .i64 b.pr, .string b.tx] 24)) := ((Below.refl _ W).alloc (Nat.le_refl _) _).alloc (by simp) _
    have h1 : Blk ((W.alloc (.cells #[.int .i64 a.id, .int .i64 a.fr, .int .i64 a.to, .int .i64 a.pr, .string a.tx] 24)).alloc (.cells #[.int .i64 b.id, .int .i64 b.fr, .int .i64 b.to, .int .i64 b.pr, .string b.tx] 24)) W.heap.size 24 a.cells := (Blk.new W 24 a.cells).alloc _
    have h2 : Blk ((W.alloc (.cells #[.int .i64 a.id, .int .i64 a.fr, .int .i64 a.to, .int .i64 a.pr, .string a.tx] 24)).alloc (.cells #[.int .i64 b.id, .int .i64 b.fr, .int .i64 b.to, .int .i64 b.pr, .string b.tx] 24)) (W.heap.size + 1) 24 b.cells := by
      have := Blk.new (W.alloc (.cells #[.int .i64 a.id, .int .i64 a.fr, .int .i64 a.to, .int .i64 a.pr, .string a.tx] 24)) 24 b.cells
      rw [show (W.alloc (.cells #[.int .i64 a.id, .int .i64 a.fr, .int .i64 a.to, .int .i64 a.pr, .string a.tx] 24)).heap.size = W.heap.size + 1 from by simp] at this
      exact this
    exact ⟨h1.kept (hb1.block _ h1.lt), h2.kept (hb1.block _ h2.lt), .inl rfl, bstep h0 hb1⟩
  clear hb1
  go_wp2_with fail
  go_loopw [8, 9] (fun v i wr => ∃ (k : Nat) (ol : Option Addr) (cl : Nat) (L : List Cue), k ≤ 30 ∧ k ≤ l.length ∧ i = .int .i64 k ∧ v = .slice ol L.length cl ∧ L.length ≤ k ∧ Hid (asc L) ∧ Hid (Exs W wr W.heap.size (W.heap.size + 1) a b ol L)) (fun _ i _ => 30 - (intOf i).toNat)
  case atStart => exact ⟨0, none, 0, [], Nat.zero_le _, Nat.zero_le _, rfl, rfl, Nat.zero_le _, List.Pairwise.nil, HX⟩
  case round =>
    clear HX
    obtain ⟨k, ol, cl, L, hk30, hkl, rfl, rfl, hLk, HAS, HX⟩ := hrel
    by_cases hend : k = l.length ∨ k = 30
    · rcases (show ((k : Int) < l.length ∧ ¬ (k : Int) < 30) ∨ ¬ (k : Int) < l.length from by
        by_cases h : (k : Int) < l.length
        · exact .inl ⟨h, by omega⟩
        · exact .inr h) with ⟨q1, q2⟩ | q1
      all_goals
        clear hend
        obtain ⟨a0, a1, a2, a3, a4⟩ := cue_cells HX.out.a
        obtain ⟨b0, b1, b2, b3, b4⟩ := cue_cells HX.out.b
        by_cases hab : a.id = b.id
        · have hab' : (a.id == b.id) = true := by rw [hab]; exact beq_self_eq_true _
          clear hab
          go_wp2_with fail
          go_ret
          exact ⟨rfl, HX.out.bel⟩
        · have hab' : (a.id == b.id) = false := by rw [beq_eq_false_iff_ne]; exact hab
          have HAB := Lib.hid hab
          clear hab
          go_wp2_with fail
          refine (valid_any a _ hao).mono ?_
          cases hva : validB a
          · rintro e w3 ⟨rfl, hb3⟩
            have HX3 := Lib.hid (HX.out.below hb3)
            clear hb3 hva a0 a1 a2 a3 a4 b0 b1 b2 b3 b4
            go_wp2_with fail
            go_ret
            exact ⟨rfl, HX3.out.bel⟩
          · rintro e w3 ⟨rfl, hb3⟩
            have HX3 := Lib.hid (HX.out.below hb3)
            have HVA := Lib.hid hva
            clear hb3 hva a0 a1 a2 a3 a4 b0 b1 b2 b3 b4
            obtain ⟨a0, a1, a2, a3, a4⟩ := cue_cells HX3.out.a
            obtain ⟨b0, b1, b2, b3, b4⟩ := cue_cells HX3.out.b
            go_wp2_with fail
            refine (valid_any b _ hbo).mono ?_
            cases hvb : validB b
            · rintro e w4 ⟨rfl, hb4⟩
              have HX4 := Lib.hid (HX3.out.below hb4)
              clear hb4 hvb a0 a1 a2 a3 a4 b0 b1 b2 b3 b4
              go_wp2_with fail
              go_ret
              exact ⟨rfl, HX4.out.bel⟩
            · rintro e w4 ⟨rfl, hb4⟩
              have HX4 := Lib.hid (HX3.out.below hb4)
              have HVB := Lib.hid hvb
              clear hb4 hvb a0 a1 a2 a3 a4 b0 b1 b2 b3 b4
              have l1 := edit_len L a
              have l2 := edit_len L b
              have l3 := edit_len (editL L a) b
              have l4 := edit_len (editL L b) a
              have HRA := Lib.hid (edit_good L a HVA.out (by omega))
              have HRB := Lib.hid (edit_good L b HVB.out (by omega))
              have HRAB := Lib.hid (edit_good (editL L a) b HVB.out (by omega))
              have HRBA := Lib.hid (edit_good (editL L b) a HVA.out (by omega))
              have HSW := Lib.hid (edit_swap L a b HAS.out HAB.out)
              obtain ⟨a0, a1, a2, a3, a4⟩ := cue_cells HX4.out.a
              obtain ⟨b0, b1, b2, b3, b4⟩ := cue_cells HX4.out.b
              go_wp2_with fail
              refine (edit_any w4 ol cl L a hao (by omega) HX4.out.l).mono ?_
              rw [HRA.out.1, HRA.out.2]
              rintro e w5 ⟨o1, c1, rfl, ho5, hb5⟩
              have HX5 := Lib.hid (HX4.out.below hb5)
              have HL5 := Lib.hid (own_rdc ho5).2
              clear ho5 hb5 HX4 a0 a1 a2 a3 a4 b0 b1 b2 b3 b4
              obtain ⟨a0, a1, a2, a3, a4⟩ := cue_cells HX5.out.a
              obtain ⟨b0, b1, b2, b3, b4⟩ := cue_cells HX5.out.b
              go_wp2_with fail
              refine (edit_any w5 o1 c1 (editL L a) b hbo (by omega) HL5.out).mono ?_
              rw [HRAB.out.1, HRAB.out.2]
              rintro e w6 ⟨o2, c2, rfl, ho6, hb6⟩
              have HX6 := Lib.hid (HX5.out.below hb6)
              have HL6 := Lib.hid (own_rdc ho6).2
              clear ho6 hb6 HX5 HL5 a0 a1 a2 a3 a4 b0 b1 b2 b3 b4
              obtain ⟨a0, a1, a2, a3, a4⟩ := cue_cells HX6.out.a
              obtain ⟨b0, b1, b2, b3, b4⟩ := cue_cells HX6.out.b
              go_wp2_with fail
              refine (edit_any w6 ol cl L b hbo (by omega) HX6.out.l).mono ?_
              rw [HRB.out.1, HRB.out.2]
              rintro e w7 ⟨o3, c3, rfl, ho7, hb7⟩
              have HX7 := Lib.hid (HX6.out.below hb7)
              have HL7 := Lib.hid (HL6.out.kept hb7)
              have HM7 := Lib.hid (own_rdc ho7).2
              clear ho7 hb7 HX6 HL6 a0 a1 a2 a3 a4 b0 b1 b2 b3 b4
              obtain ⟨a0, a1, a2, a3, a4⟩ := cue_cells HX7.out.a
              obtain ⟨b0, b1, b2, b3, b4⟩ := cue_cells HX7.out.b
              go_wp2_with fail
              refine (edit_any w7 o3 c3 (editL L b) a hao (by omega) HM7.out).mono ?_
              rw [HRBA.out.1, HRBA.out.2]
              rintro e w8 ⟨o4, c4, rfl, ho8, hb8⟩
              have HX8 := Lib.hid (HX7.out.below hb8)
              have HL8 := Lib.hid (HL7.out.kept hb8)
              have HM8 := Lib.hid (own_rdc ho8).2
              clear ho8 hb8 HX7 HL7 HM7 a0 a1 a2 a3 a4 b0 b1 b2 b3 b4
              go_wp2_with fail
              refine (refSame_any w8 o2 o4 c2 c4 _ _ (by omega) (by omega) HL8.out HM8.out).mono ?_
              rw [decide_eq_true HSW.out]
              rintro e w9 ⟨rfl, hb9⟩
              have HB9 := Lib.hid (bstep HX8.out.bel hb9)
              clear hb9
              go_wp2_with fail
              go_ret
              exact ⟨rfl, HB9.out⟩
    · have hk1 : (k : Int) < l.length := by omega
      have hk2 : (k : Int) < 30 := by omega
      have hk3 : k < l.length := by omega
      obtain ⟨g, off, rfl, c0, c1, c2, c3, c4⟩ := (HR.out.kept HX.out.bel).at k hk3
      have hxo := HOK.out _ (List.getElem_mem hk3)
      generalize l[k] = x at c0 c1 c2 c3 c4 hxo
      clear hend
      go_wp2_with fail
      refine (edit_any wr ol cl L x hxo (by omega) HX.out.l).mono ?_
      have hrl := editR_len L x
      have HRA := Lib.hid (editR_asc L x HAS.out)
      by_cases hgo : editOk L x = true
      · rw [show editE L x = 0 from by unfold editE; rw [if_pos hgo]]
        clear hgo
        generalize editR L x = R at hrl HRA ⊢
        rintro e w2 ⟨o2, cc2, rfl, ho2, hb2⟩
        have hx2 := HX.out.below hb2
        have HX2 : Hid (Exs W w2 W.heap.size (W.heap.size + 1) a b o2 R) := ⟨hx2.a, hx2.b, (own_rdc ho2).2, hx2.bel⟩
        clear ho2 hb2 hx2 HX c0 c1 c2 c3 c4
        go_wp2_with fail
        go_roundw
        case rel => exact ⟨k + 1, o2, cc2, R, by omega, by omega, by go_num, rfl, by omega, HRA, HX2⟩
        case measure => simp [intOf]; omega
      · rw [show editE L x = 150 from by unfold editE; rw [if_neg hgo]]
        clear hgo
        rintro e w2 ⟨o2, cc2, rfl, ho2, hb2⟩
        have HX2 := Lib.hid (HX.out.below hb2)
        clear ho2 hb2 HX c0 c1 c2 c3 c4
        go_wp2_with fail
        go_roundw
        case rel => exact ⟨k + 1, ol, cl, L, by omega, by omega, by go_num, rfl, by omega, HAS, HX2⟩
        case measure => simp [intOf]; omega
end Go.Proofs.Ytjmfhdnckgelaaa
