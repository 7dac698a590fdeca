/-
  The walks of media.refuse, media.next, the deferred closure of media.Decode.
-/
import Derived.WalkKit
import Derived.LoopTactic
import Derived.WalkSpells
import Derived.WalkLawsBesides
import Derived.RegionTactic
import Derived.BigRegion
import Derived.Deep.QuietTactic
import Derived.BigQuiet
import Derived.IntWalk
import Derived.Outline
import Derived.Defers
import Derived.Recover
import Derived.Test.YtfplajafekpccaaMedC
set_option linter.unusedVariables false
set_option linter.unusedSimpArgs false
namespace Go.Proofs.Ytfplajafekpccaa
open Go.RowKit Onair
/-- The panic with which the reading of an encoding is left. -/
def refusal (c : Int) : PanicEntry := { v := .iface 66 (.agg #[.int .i64 c]), recovered := false }
theorem refuse_any (c : Int) (w : World) : Calls Try.prog 47 #[.int .i64 c] w fun e w' => e = .panicked [refusal c] ∧ w = w' := by
  go_enter Try.func47, Try.ntmps47
  go_wp2
  exact ⟨rfl, rfl, rfl⟩
set_option maxRecDepth 100000 in
theorem nextInt_ok (s : ByteArray) (ka : Nat) (a : Int) (w : World) (hs : s.size ≤ maxLen) (hk : Blk w ka 3 [.int .i64 a]) (h : (intR s.data.toList a).2.2 = 0) :
    Calls Try.prog 45 #[.string s, .pointer (some ⟨ka, 0, none⟩), .func (.func 46) #[] #[]] w fun e w' => e = .returned (.int .i64 (intR s.data.toList a).1) ∧ w' = w.setCell ⟨ka, 0, none⟩ (.int .i64 (intR s.data.toList a).2.1) := by
  have c0 := hk.cell 0
  have f0 := hk.frozen 0
  simp only [List.getElem?_cons_zero] at c0
  obtain ⟨⟨x, y, z⟩, hr⟩ : ∃ r, intR s.data.toList a = r := ⟨_, rfl⟩
  rw [hr] at h ⊢
  have HR := Lib.hid hr
  dsimp only at h ⊢
  subst h
  clear hr hk
  go_enter Try.func45, Try.ntmps45
  go_wp2_with (go_at_call 46; refine (int_any _ _ _ hs).mono ?_; rw [HR.out]; rintro e w' ⟨rfl, rfl⟩)
  go_ret
  exact ⟨rfl, rfl⟩
set_option maxRecDepth 100000 in
theorem nextInt_bad (s : ByteArray) (ka : Nat) (a : Int) (w : World) (hs : s.size ≤ maxLen) (hk : Blk w ka 3 [.int .i64 a]) (h : (intR s.data.toList a).2.2 ≠ 0) :
    Calls Try.prog 45 #[.string s, .pointer (some ⟨ka, 0, none⟩), .func (.func 46) #[] #[]] w fun e w' => e = .panicked [refusal 10] ∧ w = w' := by
  have c0 := hk.cell 0
  simp only [List.getElem?_cons_zero] at c0
  obtain ⟨⟨x, y, z⟩, hr⟩ : ∃ r, intR s.data.toList a = r := ⟨_, rfl⟩
  rw [hr] at h
  have HR := Lib.hid hr
  dsimp only at h
  have h' : (z != 0) = true := by rw [bne_iff_ne]; exact h
  clear hr hk h
  go_enter Try.func45, Try.ntmps45
  go_wp2_with (go_at_call 46; refine (int_any _ _ _ hs).mono ?_; rw [HR.out]; rintro e w' ⟨rfl, rfl⟩)
  refine (refuse_any 10 _).mono ?_
  rintro e w' ⟨rfl, rfl⟩
  go_wp2_with fail
  exact ⟨rfl, rfl, rfl⟩
set_option maxRecDepth 100000 in
theorem nextStr_ok (s : ByteArray) (ka : Nat) (a : Int) (w : World) (hs : s.size ≤ maxLen) (hk : Blk w ka 3 [.int .i64 a]) (h : (strR s.data.toList a).2.2 = 0) :
    Calls Try.prog 48 #[.string s, .pointer (some ⟨ka, 0, none⟩), .func (.func 49) #[] #[]] w fun e w' => e = .returned (.string ⟨(strR s.data.toList a).1.toArray⟩) ∧ w' = w.setCell ⟨ka, 0, none⟩ (.int .i64 (strR s.data.toList a).2.1) := by
  have c0 := hk.cell 0
  have f0 := hk.frozen 0
  simp only [List.getElem?_cons_zero] at c0
  obtain ⟨⟨x, y, z⟩, hr⟩ : ∃ r, strR s.data.toList a = r := ⟨_, rfl⟩
  rw [hr] at h ⊢
  have HR := Lib.hid hr
  dsimp only at h ⊢
  subst h
  clear hr hk
  go_enter Try.func48, Try.ntmps48
  go_wp2_with (go_at_call 49; refine (string_any _ _ _ hs).mono ?_; rw [HR.out]; rintro e w' ⟨rfl, rfl⟩)
  go_ret
  exact ⟨rfl, rfl⟩
set_option maxRecDepth 100000 in
theorem nextStr_bad (s : ByteArray) (ka : Nat) (a : Int) (w : World) (hs : s.size ≤ maxLen) (hk : Blk w ka 3 [.int .i64 a]) (h : (strR s.data.toList a).2.2 ≠ 0) :
    Calls Try.prog 48 #[.string s, .pointer (some ⟨ka, 0, none⟩), .func (.func 49) #[] #[]] w fun e w' => e = .panicked [refusal 10] ∧ w = w' := by
  have c0 := hk.cell 0
  simp only [List.getElem?_cons_zero] at c0
  obtain ⟨⟨x, y, z⟩, hr⟩ : ∃ r, strR s.data.toList a = r := ⟨_, rfl⟩
  rw [hr] at h
  have HR := Lib.hid hr
  dsimp only at h
  have h' : (z != 0) = true := by rw [bne_iff_ne]; exact h
  clear hr hk h
  go_enter Try.func48, Try.ntmps48
  go_wp2_with (go_at_call 49; refine (string_any _ _ _ hs).mono ?_; rw [HR.out]; rintro e w' ⟨rfl, rfl⟩)
  refine (refuse_any 10 _).mono ?_
  rintro e w' ⟨rfl, rfl⟩
  go_wp2_with fail
  exact ⟨rfl, rfl, rfl⟩
set_option maxHeartbeats 2000000 in
set_option maxRecDepth 100000 in
theorem catch_panicking (r1 r2 : Nat) (c : Int) (u0 u1 u2 : Value) (w : World) (h1 : Blk w r1 24 [u0, u1]) (h2 : Blk w r2 32 [u2]) (hne : r1 ≠ r2) :
    CallsD Try.prog 44 #[.pointer (some ⟨r1, 0, none⟩), .pointer (some ⟨r2, 0, none⟩)] (.panicking [refusal c]) w fun e u' w' =>
      e = .returned (.tuple #[]) ∧ u' = .panicking [{ refusal c with recovered := true }] ∧ Blk w' r1 24 [.int .i64 0, .slice none 0 0] ∧ Blk w' r2 32 [.int .i64 c] ∧ Fr (fun k => k = r1 ∨ k = r2) w w' := by
  refine callsD_of_wpS Try.func44 rfl fun c₀ cs hu => ?_
  have a1 := h1.set 0 (.int .i64 0)
  have a2 := a1.set 1 (.slice none 0 0)
  have b2 := (h2.other ⟨r1, 0, none⟩ hne (.int .i64 0)).other ⟨r1, 1, none⟩ hne (.slice none 0 0)
  have b3 := b2.set 0 (.int .i64 120)
  have a3 := a2.other ⟨r2, 0, none⟩ (fun e => hne e.symm) (.int .i64 120)
  have b4 := b3.set 0 (.int .i64 c)
  have a4 := a3.other ⟨r2, 0, none⟩ (fun e => hne e.symm) (.int .i64 c)
  have c0 := h1.cell 0
  have f0 := h1.frozen 0
  have c1 := a1.cell 1
  have f1 := a1.frozen 1
  have c2 := b2.cell 0
  have f2 := b2.frozen 0
  have c3 := b3.cell 0
  have f3 := b3.frozen 0
  simp only [List.set_cons_zero, List.set_cons_succ, List.getElem?_cons_zero, List.getElem?_cons_succ] at c0 c1 c2 c3
  have hr2 : r2 < w.heap.size := h2.lt
  have c4 : ∀ o, ((((w.setCell ⟨r1, 0, none⟩ (.int .i64 0)).setCell ⟨r1, 1, none⟩ (.slice none 0 0)).setCell ⟨r2, 0, none⟩ (.int .i64 120)).alloc o).cell? ⟨r2, 0, none⟩ = some (.int .i64 120) := fun o => by
    have := (b3.alloc o).cell 0
    simpa using this
  have f4 : ∀ o, ((((w.setCell ⟨r1, 0, none⟩ (.int .i64 0)).setCell ⟨r1, 1, none⟩ (.slice none 0 0)).setCell ⟨r2, 0, none⟩ (.int .i64 120)).alloc o).frozen? ⟨r2, 0, none⟩ = false := fun o => (b3.alloc o).frozen 0
  have HA := Lib.hid (a4.alloc (.cells #[.int .i64 c] 66))
  have HB := Lib.hid (b4.alloc (.cells #[.int .i64 c] 66))
  have HF : Hid (Fr (fun k => k = r1 ∨ k = r2) w (((((w.setCell ⟨r1, 0, none⟩ (.int .i64 0)).setCell ⟨r1, 1, none⟩ (.slice none 0 0)).setCell ⟨r2, 0, none⟩ (.int .i64 120)).setCell ⟨r2, 0, none⟩ (.int .i64 c)).alloc (.cells #[.int .i64 c] 66))) :=
    (((((Fr.refl _ w).setCell ⟨r1, 0, none⟩ _ (.inl (.inl rfl))).setCell ⟨r1, 1, none⟩ _ (.inl (.inl rfl))).setCell ⟨r2, 0, none⟩ _ (.inl (.inr rfl))).setCell ⟨r2, 0, none⟩ _ (.inl (.inr rfl))).alloc _
  clear h1 h2 a1 a2 a3 a4 b2 b3 b4 hne
  have hta : ∀ w : World, (Instr.typeAssert (.iface 66 (.agg #[.int .i64 c])) 20 66 true).run Try.prog w = .ok (.tuple #[.agg #[.int .i64 c], .bool true]) w := fun w => by kernel_rfl
  unfold refusal at hu ⊢
  apply wpS_seq
  apply wpS_region
  simp [wpOpsS, go_sem, recoverD, hu, Try.ntmps44, Exit.thenS]
  refine wpS_of_wp ?_
  simp only [Array.replicate, List.replicate, List.setIfInBounds_toArray, List.set_cons_zero, List.set_cons_succ, List.append_toArray, List.cons_append, List.nil_append]
  go_wp2
  refine ⟨rfl, _, rfl, _, by simp [results, Try.results44, go_sem], rfl, rfl, ?_, ?_, ?_⟩
  · exact HA.out
  · exact HB.out
  · exact HF.out
set_option maxRecDepth 100000 in
theorem catch_idle (r1 r2 : Nat) (w : World) :
    CallsD Try.prog 44 #[.pointer (some ⟨r1, 0, none⟩), .pointer (some ⟨r2, 0, none⟩)] .returning w fun e u' w' => e = .returned (.tuple #[]) ∧ u' = .returning ∧ w' = w := by
  refine callsD_of_wpS Try.func44 rfl fun c₀ cs hu => ?_
  apply wpS_seq
  apply wpS_region
  simp [wpOpsS, go_sem, recoverD, hu, Try.ntmps44, Exit.thenS]
  refine wpS_of_wp ?_
  simp only [Array.replicate, List.replicate, List.setIfInBounds_toArray, List.set_cons_zero, List.set_cons_succ, List.append_toArray, List.cons_append, List.nil_append]
  go_wp2
  refine ⟨rfl, _, by rw [← hu], _, by simp [results, Try.results44, go_sem], rfl, rfl, rfl⟩
end Go.Proofs.Ytfplajafekpccaa
