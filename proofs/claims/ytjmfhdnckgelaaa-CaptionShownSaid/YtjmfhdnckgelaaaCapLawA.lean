/-
  The walk of the law CaptionShown.
-/
import Derived.WalkKit
import Derived.LoopTactic
import Derived.WalkSpells
import Derived.WalkLawsBesides
import Derived.RegionTactic
import Derived.BigRegion
import Derived.Deep.QuietTactic
import Derived.BigQuiet
import Derived.IntWalk
import Derived.Outline
import Derived.Test.YtjmfhdnckgelaaaCapSane
import Derived.Test.YtjmfhdnckgelaaaCapShow
import Derived.Test.YtjmfhdnckgelaaaCapOpen
set_option linter.unusedVariables false
set_option linter.unusedSimpArgs false
namespace Go.Proofs.Ytjmfhdnckgelaaa
open Go.RowKit
/-- The list and the cue that is shown, beside each other. -/
structure Sh (W wr : World) (ol : Option Addr) (L : List Cue) (X : Nat) (x : Cue) : Prop where
  l : RdC wr ol L
  x : Blk wr X 24 x.cells
  bel : Below W.heap.size W wr
theorem Sh.below {W wr w' : World} {ol : Option Addr} {L : List Cue} {X : Nat} {x : Cue} (h : Sh W wr ol L X x) (hb : Below wr.heap.size wr w') : Sh W w' ol L X x := ⟨h.l.kept hb, h.x.kept (hb.block _ h.x.lt), bstep h.bel hb⟩
theorem Sh.alloc {W wr : World} {ol : Option Addr} {L : List Cue} {X : Nat} {x : Cue} (h : Sh W wr ol L X x) (o : Obj) : Sh W (wr.alloc o) ol L X x := h.below ((Below.refl _ wr).alloc (Nat.le_refl _) o)
set_option maxHeartbeats 4000000 in
set_option maxRecDepth 100000 in
theorem walkShown (W : World) (oa : Option Addr) (cap : Nat) (l : List Cue) (f : Int) (hok : ∀ c ∈ l, c.Ok) (hl : l.length ≤ maxLen) (hr : RdC W oa l) :
    Calls Try.prog 9 #[.slice oa l.length cap, .int .i64 f] W fun e w' => e = .returned (.bool true) ∧ Below W.heap.size W w' := by
  have HR := Lib.hid hr
  have HOK := Lib.hid hok
  clear hr hok
  go_enter Try.func9, Try.ntmps9
  go_wp2_with fail
  refine (sane_any W).mono ?_
  rintro e w1 ⟨rfl, hb1⟩
  go_wp2_with fail
  refine (cut_any w1 oa cap l HOK.out hl (HR.out.kept hb1)).mono ?_
  have hll := cutC_len l
  generalize cutC l = L at hll ⊢
  rintro e w2 ⟨ol, cl, rfl, ho2, hb2⟩
  have HL2 := Lib.hid (own_rdc ho2).2
  have HB2 := Lib.hid (bstep hb1 hb2)
  clear hb1 hb2 ho2 HR HOK hl
  go_wp2_with fail
  refine (active_any w2 ol cl L f (by omega) HL2.out).mono ?_
  cases ho : activeL L f with
  | none =>
    have HN := Lib.hid (active_none ho)
    clear ho
    dsimp only [Option.getD_none, cue0, Option.isSome_none]
    rintro e w3 ⟨rfl, hb3⟩
    have HS : Hid (Sh W (w3.alloc (.cells #[.int .i64 0, .int .i64 0, .int .i64 0, .int .i64 0, .string ⟨#[]⟩] 24)) ol L w3.heap.size cue0) := by
      have hb := (bstep HB2.out hb3).alloc (bstep HB2.out hb3).size (.cells #[.int .i64 0, .int .i64 0, .int .i64 0, .int .i64 0, .string ⟨#[]⟩] 24)
      exact ⟨(HL2.out.kept hb3).kept ((Below.refl _ w3).alloc (Nat.le_refl _) _), Blk.new w3 24 cue0.cells, hb⟩
    clear hb3 HL2 HB2
    go_wp2_with fail
    generalize (w3.alloc (.cells #[.int .i64 0, .int .i64 0, .int .i64 0, .int .i64 0, .string ⟨#[]⟩] 24)) = w4 at HS ⊢
    generalize w3.heap.size = X at HS ⊢
    go_loopw [8, 9] (fun t i wr => ∃ k : Nat, k ≤ L.length ∧ i = .int .i64 k ∧ t = .bool false ∧ Hid (Sh W wr ol L X cue0)) (fun _ i _ => L.length - (intOf i).toNat)
    case atStart => exact ⟨0, Nat.zero_le _, rfl, rfl, HS⟩
    case round =>
      clear HS
      obtain ⟨k, hk, rfl, rfl, HS⟩ := hrel
      by_cases hkl : k = L.length
      · have hk' : ¬ (k : Int) < L.length := by omega
        clear hkl
        obtain ⟨x0, x1, x2, x3, x4⟩ := cue_cells HS.out.x
        dsimp only [cue0] at x0 x1 x2 x3 x4
        go_wp2_with fail
        refine (sameCue_any cue0 cue0 _).mono ?_
        rw [decide_eq_true rfl]
        rintro e w5 ⟨rfl, hb5⟩
        have HB5 := Lib.hid (bstep HS.out.bel hb5)
        clear hb5 x0 x1 x2 x3 x4
        go_wp2_with fail
        go_ret
        exact ⟨rfl, HB5.out⟩
      · have hk1 : (k : Int) < L.length := by omega
        have hk2 : k < L.length := by omega
        obtain ⟨g, off, rfl, c0, c1, c2, c3, c4⟩ := HS.out.l.at k hk2
        have hni := HN.out _ (List.getElem_mem hk2)
        generalize L[k] = c at c0 c1 c2 c3 c4 hni
        unfold inr at hni
        clear hkl
        have HSX := Lib.hid (HS.out.alloc (.cells #[.int .i64 c.id, .int .i64 c.fr, .int .i64 c.to, .int .i64 c.pr, .string c.tx] 24))
        by_cases hi1 : c.fr ≤ f
        · have hi2 : ¬ f < c.to := fun h => hni ⟨hi1, h⟩
          have hi3 : c.to ≤ f := by omega
          clear hni
          go_wp2_with fail
          go_roundw
          case rel => exact ⟨k + 1, by omega, by go_num, rfl, HSX⟩
          case measure => simp [intOf]; omega
        · have hi2 : f < c.fr := by omega
          clear hni
          go_wp2_with fail
          go_roundw
          case rel => exact ⟨k + 1, by omega, by go_num, rfl, HSX⟩
          case measure => simp [intOf]; omega
  | some x =>
    obtain ⟨m1, m2, m3⟩ := active_some ho
    have HM := Lib.hid m1
    have HI := Lib.hid m2
    have HN := Lib.hid m3
    clear ho m1 m2 m3
    dsimp only [Option.getD_some, Option.isSome_some]
    rintro e w3 ⟨rfl, hb3⟩
    have HS : Hid (Sh W (w3.alloc (.cells #[.int .i64 x.id, .int .i64 x.fr, .int .i64 x.to, .int .i64 x.pr, .string x.tx] 24)) ol L w3.heap.size x) := by
      have hb := (bstep HB2.out hb3).alloc (bstep HB2.out hb3).size (.cells #[.int .i64 x.id, .int .i64 x.fr, .int .i64 x.to, .int .i64 x.pr, .string x.tx] 24)
      exact ⟨(HL2.out.kept hb3).kept ((Below.refl _ w3).alloc (Nat.le_refl _) _), Blk.new w3 24 x.cells, hb⟩
    clear hb3 HL2 HB2
    go_wp2_with fail
    generalize (w3.alloc (.cells #[.int .i64 x.id, .int .i64 x.fr, .int .i64 x.to, .int .i64 x.pr, .string x.tx] 24)) = w4 at HS ⊢
    generalize w3.heap.size = X at HS ⊢
    go_loopw [8, 9] (fun t i wr => ∃ (k : Nat) (b : Bool), k ≤ L.length ∧ i = .int .i64 k ∧ t = .bool b ∧ Hid (thereB f x (L.take k) = b) ∧ Hid (Sh W wr ol L X x)) (fun _ i _ => L.length - (intOf i).toNat)
    case atStart => exact ⟨0, false, Nat.zero_le _, rfl, rfl, by show _ = _; rfl, HS⟩
    case round =>
      clear HS
      obtain ⟨k, b, hk, rfl, rfl, HT, HS⟩ := hrel
      by_cases hkl : k = L.length
      · have hk' : ¬ (k : Int) < L.length := by omega
        have hb : b = true := by
          rw [← HT.out, hkl, List.take_length]
          exact thereB_mem HM.out HI.out
        subst hb
        clear hkl
        go_wp2_with fail
        go_ret
        exact ⟨rfl, HS.out.bel⟩
      · have hk1 : (k : Int) < L.length := by omega
        have hk2 : k < L.length := by omega
        obtain ⟨g, off, rfl, c0, c1, c2, c3, c4⟩ := HS.out.l.at k hk2
        have hni := HN.out _ (List.getElem_mem hk2)
        have HTK : Hid (thereB f x (L.take (k + 1)) = (thereB f x (L.take k) || (decide (inr f L[k]) && decide (L[k] = x)))) := by
          show _ = _
          rw [List.take_succ_eq_append_getElem hk2, thereB_snoc]
        rw [HT.out] at HTK
        generalize L[k] = c at c0 c1 c2 c3 c4 hni HTK
        clear hkl
        have HSX := Lib.hid (HS.out.alloc (.cells #[.int .i64 c.id, .int .i64 c.fr, .int .i64 c.to, .int .i64 c.pr, .string c.tx] 24))
        have HCB : Hid (Blk (wr.alloc (.cells #[.int .i64 c.id, .int .i64 c.fr, .int .i64 c.to, .int .i64 c.pr, .string c.tx] 24)) wr.heap.size 24 c.cells) := Blk.new wr 24 c.cells
        by_cases hin : inr f c
        · have hnb := hni hin
          rw [decide_eq_true hin, Bool.true_and] at HTK
          unfold bet at hnb
          unfold inr at hin
          obtain ⟨hi1, hi2⟩ := hin
          have hi1' : ¬ f < c.fr := by omega
          have hi2' : ¬ c.to ≤ f := by omega
          have h1 : ¬ x.pr < c.pr := by omega
          obtain ⟨x0, x1, x2, x3, x4⟩ := cue_cells HSX.out.x
          rcases (show c.pr ≠ x.pr ∨ (c.pr = x.pr ∧ c.fr ≠ x.fr ∧ ¬ x.fr < c.fr) ∨ (c.pr = x.pr ∧ c.fr = x.fr ∧ ¬ x.id < c.id) from by omega) with e1 | ⟨e1, e2, e3⟩ | ⟨e1, e2, e3⟩
          all_goals
            clear hni hnb
          · have q1 : (c.pr == x.pr) = false := by rw [beq_eq_false_iff_ne]; exact e1
            clear e1
            cases b
            · go_wp2_with fail
              refine (sameCue_any c x _).mono ?_
              rintro e w5 ⟨rfl, hb5⟩
              have HS5 := Lib.hid (HSX.out.below hb5)
              clear hb5 x0 x1 x2 x3 x4 HSX HCB
              rw [Bool.false_or] at HTK
              generalize decide (c = x) = b2 at HTK ⊢
              go_wp2_with fail
              go_roundw
              case rel => exact ⟨k + 1, b2, by omega, by go_num, rfl, HTK, HS5⟩
              case measure => simp [intOf]; omega
            · rw [Bool.true_or] at HTK
              go_wp2_with fail
              go_roundw
              case rel => exact ⟨k + 1, true, by omega, by go_num, rfl, HTK, HSX⟩
              case measure => simp [intOf]; omega
          · have q1 : (c.pr == x.pr) = true := by rw [e1]; exact beq_self_eq_true _
            have q2 : (c.fr == x.fr) = false := by rw [beq_eq_false_iff_ne]; exact e2
            have q3 : ¬ x.fr < c.fr := e3
            clear e1 e2 e3
            cases b
            · go_wp2_with fail
              refine (sameCue_any c x _).mono ?_
              rintro e w5 ⟨rfl, hb5⟩
              have HS5 := Lib.hid (HSX.out.below hb5)
              clear hb5 x0 x1 x2 x3 x4 HSX HCB
              rw [Bool.false_or] at HTK
              generalize decide (c = x) = b2 at HTK ⊢
              go_wp2_with fail
              go_roundw
              case rel => exact ⟨k + 1, b2, by omega, by go_num, rfl, HTK, HS5⟩
              case measure => simp [intOf]; omega
            · rw [Bool.true_or] at HTK
              go_wp2_with fail
              go_roundw
              case rel => exact ⟨k + 1, true, by omega, by go_num, rfl, HTK, HSX⟩
              case measure => simp [intOf]; omega
          · have q1 : (c.pr == x.pr) = true := by rw [e1]; exact beq_self_eq_true _
            have q2 : (c.fr == x.fr) = true := by rw [e2]; exact beq_self_eq_true _
            have q3 : ¬ x.fr < c.fr := by omega
            have q4 : ¬ x.id < c.id := e3
            clear e1 e2 e3
            cases b
            · go_wp2_with fail
              refine (sameCue_any c x _).mono ?_
              rintro e w5 ⟨rfl, hb5⟩
              have HS5 := Lib.hid (HSX.out.below hb5)
              clear hb5 x0 x1 x2 x3 x4 HSX HCB
              rw [Bool.false_or] at HTK
              generalize decide (c = x) = b2 at HTK ⊢
              go_wp2_with fail
              go_roundw
              case rel => exact ⟨k + 1, b2, by omega, by go_num, rfl, HTK, HS5⟩
              case measure => simp [intOf]; omega
            · rw [Bool.true_or] at HTK
              go_wp2_with fail
              go_roundw
              case rel => exact ⟨k + 1, true, by omega, by go_num, rfl, HTK, HSX⟩
              case measure => simp [intOf]; omega
        · rw [decide_eq_false hin, Bool.false_and, Bool.or_false] at HTK
          unfold inr at hin
          clear hni
          by_cases hi1 : c.fr ≤ f
          · have hi2 : ¬ f < c.to := fun h => hin ⟨hi1, h⟩
            have hi3 : c.to ≤ f := by omega
            clear hin
            go_wp2_with fail
            go_roundw
            case rel => exact ⟨k + 1, b, by omega, by go_num, rfl, HTK, HSX⟩
            case measure => simp [intOf]; omega
          · have hi2 : f < c.fr := by omega
            clear hin
            go_wp2_with fail
            go_roundw
            case rel => exact ⟨k + 1, b, by omega, by go_num, rfl, HTK, HSX⟩
            case measure => simp [intOf]; omega
end Go.Proofs.Ytjmfhdnckgelaaa
