/-
  The reference's reading of numbers.
  The reference's counts; its encoding of numbers.
  The reference's reading of a clause and of an entry.
-/
import Derived.Test.YtjkiidhnmljmbaaGreatDoorWrRf
import Derived.Test.YtjkiidhnmljmbaaGreatDoorTk
import Derived.Test.YtjkiidhnmljmbaaGreatDoorOrF
import Derived.Test.YtjkiidhnmljmbaaGreatDoorOrPQ
import Derived.Test.YtjkiidhnmljmbaaGreatDoorGoST
import Derived.Test.YtjkiidhnmljmbaaGreatDoorGoPQ
set_option linter.unusedVariables false
set_option linter.unusedSimpArgs false
namespace Go.Proofs.YtjkiidhnmljmbaaGreatDoor
open Go.RowKit Onair
/-- A number read: the number, the new place, the new error. -/
def rkN (l : List UInt8) (s : Int × Int) : Int × Int × Int :=
  if s.2 = 0 then (if (intR l s.1).2.2 = 0 then ((intR l s.1).1, (intR l s.1).2.1, 0) else (0, s.1, 10)) else (0, s.1, s.2)
def rkL (l : List UInt8) : Nat → Int × Int → List Int × Int × Int
  | 0, s => ([], s)
  | n + 1, s => ((rkN l s).1 :: (rkL l n (rkN l s).2).1, (rkL l n (rkN l s).2).2)
theorem rkL_len (l : List UInt8) : ∀ (n : Nat) (s : Int × Int), (rkL l n s).1.length = n
  | 0, _ => rfl
  | n + 1, s => by simp only [rkL, List.length_cons]; rw [rkL_len l n]
theorem rkL_err (l : List UInt8) : ∀ (n : Nat) (s : Int × Int), s.2 ≠ 0 → (rkL l n s).2.2 ≠ 0
  | 0, s, h => h
  | n + 1, s, h => by
    simp only [rkL]
    exact rkL_err l n _ (by unfold rkN; rw [if_neg h]; exact h)
theorem rkL_app (l : List UInt8) : ∀ (m n : Nat) (s : Int × Int), rkL l (m + n) s = ((rkL l m s).1 ++ (rkL l n (rkL l m s).2).1, (rkL l n (rkL l m s).2).2)
  | 0, n, s => by simp [rkL]
  | m + 1, n, s => by
    rw [show m + 1 + n = (m + n) + 1 by omega]
    simp only [rkL]
    rw [rkL_app l m n]
    simp
/-- The reader in memory. -/
def InAt (W : World) (b : Nat) (s : ByteArray) (q : Int × Int) : Prop := Blk W b 103 [.string s, .int .i64 q.1, .int .i64 q.2]
set_option maxHeartbeats 8000000 in
set_option maxRecDepth 100000 in
theorem rkNumber (s : ByteArray) (b : Nat) (a e : Int) (W : World) (hs : s.size ≤ maxLen) (h : Blk W b 103 [.string s, .int .i64 a, .int .i64 e]) :
    Calls Tryz.prog 44 #[.pointer (some ⟨b, 0, none⟩)] W fun en w' => en = .returned (.int .i64 (rkN s.data.toList (a, e)).1) ∧ InAt w' b s (rkN s.data.toList (a, e)).2 ∧ Fr (fun c => c = b) W w' := by
  have c0 : W.cell? ⟨b, 0, none⟩ = some (.string s) := h.cell 0
  have c1 : W.cell? ⟨b, 1, none⟩ = some (.int .i64 a) := h.cell 1
  have c2 : W.cell? ⟨b, 2, none⟩ = some (.int .i64 e) := h.cell 2
  have HB := Lib.hid h
  by_cases he : e = 0
  · subst he
    have HI := Lib.hid (fun w => refInt_any s a w hs)
    obtain ⟨n, hn⟩ : ∃ n, (intR s.data.toList a).1 = n := ⟨_, rfl⟩
    obtain ⟨a', ha⟩ : ∃ a', (intR s.data.toList a).2.1 = a' := ⟨_, rfl⟩
    obtain ⟨f, hf⟩ : ∃ f, (intR s.data.toList a).2.2 = f := ⟨_, rfl⟩
    rw [hn, ha, hf] at HI
    have HV0 : Hid (f = 0 → rkN s.data.toList (a, 0) = (n, a', 0)) := fun h0 => by unfold rkN; rw [if_pos rfl, if_pos (hf.trans h0), hn, ha]
    have HV1 : Hid (f ≠ 0 → rkN s.data.toList (a, 0) = (0, a, 10)) := fun h0 => by unfold rkN; rw [if_pos rfl, if_neg (by rw [hf]; exact h0)]
    clear hn ha hf h hs c0 c1
    go_enter Tryz.func44, Tryz.ntmps44
    go_upto_region 3 with (fail)
    refine wp_region_held_drew (S := fun W => W.cell? ⟨b, 0, none⟩ = some (.string s) ∧ W.cell? ⟨b, 1, none⟩ = some (.int .i64 a)) (by kernel_rfl) ?_ (fun hHeld => ?_)
    · exact ⟨HB.out.drew.cell 0, HB.out.drew.cell 1⟩
    have hk9 := HB.out.drew
    have hf9 : Fr (fun c => c = b) W W.drew := Fr.under _ (Below.refl _ _).drew
    generalize World.drew _ = z at hk9 hf9 hHeld ⊢
    have HKB := Lib.hid hk9
    have HFB := Lib.hid hf9
    clear hk9 hf9
    refine tk 0 (some 12) ?_
    refine tk 1 (some 13) ?_
    refine tk 2 (some 14) ?_
    refine tk 3 (some 15) ?_
    refine tk 4 (some 16) ?_
    refine tk 5 (some 17) ?_
    refine tk 6 (some 18) ?_
    refine tk 7 (some 19) ?_
    refine rd1 8 (some 20) (fun K hK => ?_)
    go_simp
    refine (HI.out _).mono ?_
    rintro e z1 ⟨rfl, hbz⟩
    have HKB := Lib.hid (HKB.out.kept (hbz.block _ HKB.out.lt))
    have HFB := Lib.hid (HFB.out.trans (Fr.under (fun c => c = b) hbz) (fun _ _ h => h))
    clear hbz
    go_simp
    refine hK.out _ _ ?_ (fun hHeld2 => ?_)
    · exact ⟨HKB.out.cell 0, HKB.out.cell 1⟩
    clear hK K hHeld
    rename _ => hHeld
    try simp only [Act.put, List.setIfInBounds_toArray, List.set_cons_zero, List.set_cons_succ]
    refine tk 9 (some 11) ?_
    refine tk 10 (some 21) ?_
    refine tk 11 (some 22) ?_
    refine tk 12 (some 23) ?_
    refine tk 13 (some 3) ?_
    refine tk 14 (some 4) ?_
    refine tk 15 (some 5) ?_
    refine wpAnyH_done (by kernel_rfl) ?_ _
    clear hHeld
    skip
    by_cases h0 : f = 0
    · have q0 : (f == 0) = true := beq_iff_eq.2 h0
      have HV := Lib.hid (HV0.out h0)
      have d1 : z1.cell? ⟨b, 1, none⟩ = some (.int .i64 a) := HKB.out.cell 1
      have f1 := HKB.out.frozen 1
      have HK := Lib.hid (HKB.out.set 1 (.int .i64 a'))
      have HF : Hid (Fr (fun c => c = b) W (z1.setCell ⟨b, 1, none⟩ (.int .i64 a'))) := HFB.out.setCell ⟨b, 1, none⟩ _ (.inl rfl)
      clear h0 HV0 HV1
      go_wp2_with fail
      go_ret
      exact ⟨by rw [HV.out]; rfl, by rw [HV.out]; exact HK.out, HF.out⟩
    · have q0 : (f == 0) = false := beq_eq_false_iff_ne.2 h0
      have HV := Lib.hid (HV1.out h0)
      have d1 : z1.cell? ⟨b, 2, none⟩ = some (.int .i64 0) := HKB.out.cell 2
      have f1 := HKB.out.frozen 2
      have HK := Lib.hid (HKB.out.set 2 (.int .i64 10))
      have HF : Hid (Fr (fun c => c = b) W (z1.setCell ⟨b, 2, none⟩ (.int .i64 10))) := HFB.out.setCell ⟨b, 2, none⟩ _ (.inl rfl)
      clear h0 HV0 HV1
      go_wp2_with fail
      go_ret
      exact ⟨by rw [HV.out]; rfl, by rw [HV.out]; exact HK.out, HF.out⟩
  · have HV : Hid (rkN s.data.toList (a, e) = (0, a, e)) := (by unfold rkN; rw [if_neg he] : rkN s.data.toList (a, e) = (0, a, e))
    have q0 : (e == 0) = false := beq_eq_false_iff_ne.2 he
    clear h hs
    go_enter Tryz.func44, Tryz.ntmps44
    go_wp2_with fail
    go_ret
    exact ⟨by rw [HV.out]; rfl, by rw [HV.out]; exact HB.out, Fr.under _ (Below.refl _ _)⟩
/-- A string read. -/
def rkT (l : List UInt8) (s : Int × Int) : List UInt8 × Int × Int :=
  if s.2 = 0 then (if (strR l s.1).2.2 = 0 then ((strR l s.1).1, (strR l s.1).2.1, 0) else ([], s.1, 10)) else ([], s.1, s.2)
set_option maxHeartbeats 8000000 in
set_option maxRecDepth 100000 in
theorem rkText (s : ByteArray) (b : Nat) (a e : Int) (W : World) (hs : s.size ≤ maxLen) (h : Blk W b 103 [.string s, .int .i64 a, .int .i64 e]) :
    Calls Tryz.prog 82 #[.pointer (some ⟨b, 0, none⟩)] W fun en w' => en = .returned (.string ⟨(rkT s.data.toList (a, e)).1.toArray⟩) ∧ InAt w' b s (rkT s.data.toList (a, e)).2 ∧ Fr (fun c => c = b) W w' := by
  have c0 : W.cell? ⟨b, 0, none⟩ = some (.string s) := h.cell 0
  have c1 : W.cell? ⟨b, 1, none⟩ = some (.int .i64 a) := h.cell 1
  have c2 : W.cell? ⟨b, 2, none⟩ = some (.int .i64 e) := h.cell 2
  have HB := Lib.hid h
  by_cases he : e = 0
  · subst he
    have HI := Lib.hid (fun w => refString_any s a w hs)
    obtain ⟨n, hn⟩ : ∃ n, (strR s.data.toList a).1 = n := ⟨_, rfl⟩
    obtain ⟨a', ha⟩ : ∃ a', (strR s.data.toList a).2.1 = a' := ⟨_, rfl⟩
    obtain ⟨f, hf⟩ : ∃ f, (strR s.data.toList a).2.2 = f := ⟨_, rfl⟩
    rw [hn, ha, hf] at HI
    have HV0 : Hid (f = 0 → rkT s.data.toList (a, 0) = (n, a', 0)) := fun h0 => by unfold rkT; rw [if_pos rfl, if_pos (hf.trans h0), hn, ha]
    have HV1 : Hid (f ≠ 0 → rkT s.data.toList (a, 0) = ([], a, 10)) := fun h0 => by unfold rkT; rw [if_pos rfl, if_neg (by rw [hf]; exact h0)]
    clear hn ha hf h hs c0 c1
    go_enter Tryz.func82, Tryz.ntmps82
    go_upto_region 3 with (fail)
    refine wp_region_held_drew (S := fun W => W.cell? ⟨b, 0, none⟩ = some (.string s) ∧ W.cell? ⟨b, 1, none⟩ = some (.int .i64 a)) (by kernel_rfl) ?_ (fun hHeld => ?_)
    · exact ⟨HB.out.drew.cell 0, HB.out.drew.cell 1⟩
    have hk9 := HB.out.drew
    have hf9 : Fr (fun c => c = b) W W.drew := Fr.under _ (Below.refl _ _).drew
    generalize World.drew _ = z at hk9 hf9 hHeld ⊢
    have HKB := Lib.hid hk9
    have HFB := Lib.hid hf9
    clear hk9 hf9
    refine tk 0 (some 12) ?_
    refine tk 1 (some 13) ?_
    refine tk 2 (some 14) ?_
    refine tk 3 (some 15) ?_
    refine tk 4 (some 16) ?_
    refine tk 5 (some 17) ?_
    refine tk 6 (some 18) ?_
    refine tk 7 (some 19) ?_
    refine rd1 8 (some 20) (fun K hK => ?_)
    go_simp
    refine (HI.out _).mono ?_
    rintro e z1 ⟨rfl, hbz⟩
    have HKB := Lib.hid (HKB.out.kept (hbz.block _ HKB.out.lt))
    have HFB := Lib.hid (HFB.out.trans (Fr.under (fun c => c = b) hbz) (fun _ _ h => h))
    clear hbz
    go_simp
    refine hK.out _ _ ?_ (fun hHeld2 => ?_)
    · exact ⟨HKB.out.cell 0, HKB.out.cell 1⟩
    clear hK K hHeld
    rename _ => hHeld
    try simp only [Act.put, List.setIfInBounds_toArray, List.set_cons_zero, List.set_cons_succ]
    refine tk 9 (some 11) ?_
    refine tk 10 (some 21) ?_
    refine tk 11 (some 22) ?_
    refine tk 12 (some 23) ?_
    refine tk 13 (some 3) ?_
    refine tk 14 (some 4) ?_
    refine tk 15 (some 5) ?_
    refine wpAnyH_done (by kernel_rfl) ?_ _
    clear hHeld
    skip
    by_cases h0 : f = 0
    · have q0 : (f == 0) = true := beq_iff_eq.2 h0
      have HV := Lib.hid (HV0.out h0)
      have d1 : z1.cell? ⟨b, 1, none⟩ = some (.int .i64 a) := HKB.out.cell 1
      have f1 := HKB.out.frozen 1
      have HK := Lib.hid (HKB.out.set 1 (.int .i64 a'))
      have HF : Hid (Fr (fun c => c = b) W (z1.setCell ⟨b, 1, none⟩ (.int .i64 a'))) := HFB.out.setCell ⟨b, 1, none⟩ _ (.inl rfl)
      clear h0 HV0 HV1
      go_wp2_with fail
      go_ret
      exact ⟨by rw [HV.out]; rfl, by rw [HV.out]; exact HK.out, HF.out⟩
    · have q0 : (f == 0) = false := beq_eq_false_iff_ne.2 h0
      have HV := Lib.hid (HV1.out h0)
      have d1 : z1.cell? ⟨b, 2, none⟩ = some (.int .i64 0) := HKB.out.cell 2
      have f1 := HKB.out.frozen 2
      have HK := Lib.hid (HKB.out.set 2 (.int .i64 10))
      have HF : Hid (Fr (fun c => c = b) W (z1.setCell ⟨b, 2, none⟩ (.int .i64 10))) := HFB.out.setCell ⟨b, 2, none⟩ _ (.inl rfl)
      clear h0 HV0 HV1
      go_wp2_with fail
      go_ret
      exact ⟨by rw [HV.out]; rfl, by rw [HV.out]; exact HK.out, HF.out⟩
  · have HV : Hid (rkT s.data.toList (a, e) = ([], a, e)) := (by unfold rkT; rw [if_neg he] : rkT s.data.toList (a, e) = ([], a, e))
    have q0 : (e == 0) = false := beq_eq_false_iff_ne.2 he
    clear h hs
    go_enter Tryz.func82, Tryz.ntmps82
    go_wp2_with fail
    go_ret
    exact ⟨by rw [HV.out]; rfl, by rw [HV.out]; exact HB.out, Fr.under _ (Below.refl _ _)⟩
end Go.Proofs.YtjkiidhnmljmbaaGreatDoor
namespace Go.Proofs.YtjkiidhnmljmbaaGreatDoor
open Go.RowKit Onair
/-- A count of alternatives read. -/
def rkC (l : List UInt8) (s : Int × Int) : Int × Int × Int :=
  if (rkN l s).2.2 = 0 then (if (rkN l s).1 < 0 ∨ 7 < (rkN l s).1 then (0, (rkN l s).2.1, 110) else rkN l s) else (0, (rkN l s).2)
set_option maxHeartbeats 8000000 in
set_option maxRecDepth 100000 in
theorem rkCount (s : ByteArray) (b : Nat) (a e : Int) (W : World) (hs : s.size ≤ maxLen) (h : InAt W b s (a, e)) :
    Calls Tryz.prog 100 #[.pointer (some ⟨b, 0, none⟩), .int .i64 7, .int .i64 110] W fun en w' => en = .returned (.int .i64 (rkC s.data.toList (a, e)).1) ∧ InAt w' b s (rkC s.data.toList (a, e)).2 ∧ Fr (fun c => c = b) W w' := by
  have HN := Lib.hid (rkNumber s b a e W hs h)
  obtain ⟨n, a1, e1, hq⟩ : ∃ n a1 e1, rkN s.data.toList (a, e) = (n, a1, e1) := ⟨_, _, _, rfl⟩
  rw [hq] at HN
  have HV0 : Hid (e1 = 0 → (n < 0 ∨ 7 < n) → rkC s.data.toList (a, e) = (0, a1, 110)) := fun h0 h1 => by unfold rkC; rw [hq, if_pos h0, if_pos h1]
  have HV1 : Hid (e1 = 0 → ¬ (n < 0 ∨ 7 < n) → rkC s.data.toList (a, e) = (n, a1, e1)) := fun h0 h1 => by unfold rkC; rw [hq, if_pos h0, if_neg h1]
  have HV2 : Hid (e1 ≠ 0 → rkC s.data.toList (a, e) = (0, a1, e1)) := fun h0 => by unfold rkC; rw [hq, if_neg h0]
  clear hq h
  go_enter Tryz.func100, Tryz.ntmps100
  go_wp2_with fail
  refine HN.out.mono ?_
  rintro e w1 ⟨rfl, hk, hf⟩
  have c2 : w1.cell? ⟨b, 2, none⟩ = some (.int .i64 e1) := hk.cell 2
  have HK := Lib.hid hk
  have HF := Lib.hid hf
  clear hk hf
  by_cases h0 : e1 = 0
  · subst h0
    by_cases h1 : n < 0
    · have HV := Lib.hid (HV0.out rfl (.inl h1))
      have f2 := HK.out.frozen 2
      have HK1 : Hid (Blk (w1.setCell ⟨b, 2, none⟩ (.int .i64 110)) b 103 [.string s, .int .i64 a1, .int .i64 110]) := HK.out.set 2 (.int .i64 110)
      have c3 : (w1.setCell ⟨b, 2, none⟩ (.int .i64 110)).cell? ⟨b, 2, none⟩ = some (.int .i64 110) := HK1.out.cell 2
      have HF1 : Hid (Fr (fun c => c = b) W (w1.setCell ⟨b, 2, none⟩ (.int .i64 110))) := HF.out.setCell ⟨b, 2, none⟩ _ (.inl rfl)
      clear HV0 HV1 HV2
      go_wp2_with fail
      go_ret
      exact ⟨by rw [HV.out]; rfl, by rw [HV.out]; exact HK1.out, HF1.out⟩
    · by_cases h2 : 7 < n
      · have HV := Lib.hid (HV0.out rfl (.inr h2))
        have h3 : n > 7 := h2
        have f2 := HK.out.frozen 2
        have HK1 : Hid (Blk (w1.setCell ⟨b, 2, none⟩ (.int .i64 110)) b 103 [.string s, .int .i64 a1, .int .i64 110]) := HK.out.set 2 (.int .i64 110)
        have c3 : (w1.setCell ⟨b, 2, none⟩ (.int .i64 110)).cell? ⟨b, 2, none⟩ = some (.int .i64 110) := HK1.out.cell 2
        have HF1 : Hid (Fr (fun c => c = b) W (w1.setCell ⟨b, 2, none⟩ (.int .i64 110))) := HF.out.setCell ⟨b, 2, none⟩ _ (.inl rfl)
        clear HV0 HV1 HV2
        go_wp2_with fail
        go_ret
        exact ⟨by rw [HV.out]; rfl, by rw [HV.out]; exact HK1.out, HF1.out⟩
      · have HV := Lib.hid (HV1.out rfl (by omega))
        have h3 : ¬ n > 7 := h2
        clear HV0 HV1 HV2
        go_wp2_with fail
        go_ret
        exact ⟨by rw [HV.out]; rfl, by rw [HV.out]; exact HK.out, HF.out⟩
  · have HV := Lib.hid (HV2.out h0)
    have q0 : (e1 == 0) = false := beq_eq_false_iff_ne.2 h0
    clear HV0 HV1 HV2
    go_wp2_with fail
    go_ret
    exact ⟨by rw [HV.out]; rfl, by rw [HV.out]; exact HK.out, HF.out⟩
/-- Integers in memory that are read. -/
def RdIn (W : World) (oa : Option Addr) (vs : List Int) : Prop := vs = [] ∨ ∃ b o, oa = some ⟨b, o, none⟩ ∧ b < W.heap.size ∧ ∀ (i : Nat) x, vs[i]? = some x → W.cell? ⟨b, o + i, none⟩ = some (.int .i64 x)
theorem RdIn.kept {W W' : World} {oa : Option Addr} {l : List Int} (h : RdIn W oa l) (hb : Below W.heap.size W W') : RdIn W' oa l := by
  rcases h with rfl | ⟨b, o, e, hlt, hc⟩
  · exact .inl rfl
  · exact .inr ⟨b, o, e, Nat.lt_of_lt_of_le hlt hb.size, fun j v hj => (hb.cell (p := ⟨b, o + j, none⟩) hlt).trans (hc j v hj)⟩
set_option maxHeartbeats 8000000 in
set_option maxRecDepth 100000 in
theorem rkNumbers (W : World) (oa : Option Addr) (n c : Nat) (vs : List Int) (hn : vs.length = n) (hn9 : n ≤ 1000) (hr : RdIn W oa vs) :
    Calls Tryz.prog 35 #[.slice oa n c] W fun e w' => e = .returned (.string ⟨(encI vs).toArray⟩) ∧ Below W.heap.size W w' := by
  have HR := Lib.hid hr
  have HN := Lib.hid hn
  clear hr hn
  go_enter Tryz.func35, Tryz.ntmps35
  go_wp2_with fail
  go_loopw [3, 4] (fun vo vi wr => ∃ (i : Nat) (S : ByteArray), i ≤ n ∧ vi = .int .i64 i ∧ vo = .string S ∧ Hid (S = ⟨(encI (vs.take i)).toArray⟩) ∧ Hid (Below W.heap.size W wr)) (fun _ v _ => n - (intOf v).toNat)
  case atStart => exact ⟨0, _, Nat.zero_le _, rfl, rfl, (show (⟨#[]⟩ : ByteArray) = ⟨(encI (vs.take 0)).toArray⟩ from rfl), Below.refl _ _⟩
  case round =>
    obtain ⟨i, S, hin, rfl, rfl, HS, HB⟩ := hrel
    have hz : S.size ≤ 9 * i := by
      have := encI_len (vs.take i)
      rw [List.length_take, HN.out] at this
      rw [HS.out]
      show (encI (vs.take i)).toArray.size ≤ _
      simp
      omega
    by_cases h : i < n
    · obtain ⟨x, hx⟩ : ∃ x, vs[i]? = some x := ⟨vs[i]'(by rw [HN.out]; exact h), List.getElem?_eq_getElem _⟩
      obtain ⟨b, o, rfl, hlt, hc⟩ : ∃ b o, oa = some ⟨b, o, none⟩ ∧ b < W.heap.size ∧ ∀ (i : Nat) x, vs[i]? = some x → W.cell? ⟨b, o + i, none⟩ = some (.int .i64 x) := by
        rcases HR.out with e | e
        · rw [e] at hx; simp at hx
        · exact e
      have q1 : (i : Int) < (n : Int) := by omega
      have q2 : (0 : Int) ≤ (i : Int) := by omega
      have ci : wr.cell? ⟨b, o + i, none⟩ = some (.int .i64 x) := (HB.out.cell (p := ⟨b, o + i, none⟩) hlt).trans (hc i x hx)
      have HX := Lib.hid (encI_snoc vs i x hx)
      have hp9 : (putL x).length ≤ 9 := putL_len x
      clear hx hlt hc h
      go_wp2_with fail
      refine (refPut_any x wr).mono ?_
      rintro e w1 ⟨rfl, hb⟩
      obtain ⟨T, hT⟩ : ∃ T : ByteArray, (⟨(putL x).toArray⟩ : ByteArray) = T := ⟨_, rfl⟩
      have hz2 : T.size ≤ 9 := by rw [← hT]; show (putL x).toArray.size ≤ 9; simpa using hp9
      rw [hT]
      have HT := Lib.hid hT
      have HB1 : Hid (Below W.heap.size W w1) := HB.out.trans (hb.mono HB.out.size)
      have q3 : ¬ (S.size + T.size > 9223372036854775807) := by omega
      have q4 : ¬ (9223372036854775807 < S.size + T.size) := by omega
      clear hT hb hz hz2 ci hp9
      go_wp2_with fail
      go_roundw
      case rel => exact ⟨i + 1, S ++ T, by omega, by go_num, rfl, (by rw [HS.out, ← HT.out, append_list, HX.out]; show _ = _; rfl : Hid (S ++ T = _)), HB1⟩
      case measure => simp [intOf]; omega
    · have q1 : ¬ (i : Int) < (n : Int) := by omega
      have e : i = n := by omega
      subst e
      have ht : vs.take i = vs := List.take_of_length_le (by rw [HN.out]; exact Nat.le_refl _)
      rw [ht] at HS
      clear h ht
      go_wp2_with fail
      go_ret
      exact ⟨by rw [HS.out]; rfl, HB.out⟩
end Go.Proofs.YtjkiidhnmljmbaaGreatDoor
namespace Go.Proofs.YtjkiidhnmljmbaaGreatDoor
open Go.RowKit Onair
def clauseOf (vs : List Int) : ClD := ⟨vs.getD 0 0, vs.getD 1 0, vs.getD 2 0, vs.getD 3 0, vs.getD 4 0, vs.getD 5 0, vs.getD 6 0, vs.getD 7 0⟩
/-- While something is read: the reader b, the result N, what is filled M. -/
structure RkS (W z : World) (b N M : Nat) (s : ByteArray) (q : Int × Int) (t : TypeId) (cN cM : List Value) : Prop where
  i : InAt z b s q
  kn : Blk z N t cN
  km : Blk z M t cM
  fr : Fr (fun c => c = b) W z
  n1 : b ≠ N
  n2 : b ≠ M
  n3 : N ≠ M
  g1 : W.heap.size ≤ N
  g2 : W.heap.size ≤ M
section
variable {W z z' : World} {b N M : Nat} {s : ByteArray} {q q' : Int × Int} {t : TypeId} {cN cM : List Value}
theorem RkS.num (h : RkS W z b N M s q t cN cM) (hk : InAt z' b s q') (hf : Fr (fun c => c = b) z z') : RkS W z' b N M s q' t cN cM :=
  ⟨hk, h.kn.kept (hf.block N h.kn.lt (fun e => h.n1 e.symm)), h.km.kept (hf.block M h.km.lt (fun e => h.n2 e.symm)), h.fr.trans hf (fun _ _ e => e), h.n1, h.n2, h.n3, h.g1, h.g2⟩
theorem RkS.put (h : RkS W z b N M s q t cN cM) (i : Nat) (v : Value) : RkS W (z.setCell ⟨M, i, none⟩ v) b N M s q t cN (cM.set i v) :=
  ⟨Blk.other h.i ⟨M, i, none⟩ h.n2.symm v, h.kn.other ⟨M, i, none⟩ h.n3.symm v, h.km.set i v, h.fr.setCell ⟨M, i, none⟩ v (.inr h.g2), h.n1, h.n2, h.n3, h.g1, h.g2⟩
theorem RkS.below (h : RkS W z b N M s q t cN cM) (hb : Below z.heap.size z z') : RkS W z' b N M s q t cN cM :=
  ⟨Blk.kept h.i (hb.block b h.i.lt), h.kn.kept (hb.block N h.kn.lt), h.km.kept (hb.block M h.km.lt), h.fr.trans (Fr.under (fun c => c = b) hb) (fun _ _ e => e), h.n1, h.n2, h.n3, h.g1, h.g2⟩
theorem RkS.turn (h : RkS W z b N M s q t cN cM) {S : Nat → Prop} (hf : Fr S z z') (hS : ∀ c, S c → c ≠ b ∧ c ≠ N ∧ c ≠ M ∧ W.heap.size ≤ c) : RkS W z' b N M s q t cN cM :=
  ⟨Blk.kept h.i (hf.block b h.i.lt (fun e => (hS _ e).1 rfl)), h.kn.kept (hf.block N h.kn.lt (fun e => (hS _ e).2.1 rfl)), h.km.kept (hf.block M h.km.lt (fun e => (hS _ e).2.2.1 rfl)), h.fr.trans hf (fun c hc e => absurd (hS c e).2.2.2 (by omega)), h.n1, h.n2, h.n3, h.g1, h.g2⟩
/-- The block that is filled is made. -/
theorem RkS.start {x : World} (hx : InAt x b s q) (hn : Blk x N t cN) (hf : Fr (fun c => c = b) W x) (n1 : b ≠ N) (g1 : W.heap.size ≤ N) (zs : List Value) :
    RkS W (x.alloc (.cells zs.toArray t)) b N x.heap.size s q t cN zs := by
  have hb : Below x.heap.size x (x.alloc (.cells zs.toArray t)) := (Below.refl _ x).alloc (Nat.le_refl _) _
  have h1 := hx.lt
  have h2 := hn.lt
  exact ⟨Blk.kept hx (hb.block b h1), hn.kept (hb.block N h2), Blk.new x t zs, hf.trans (Fr.under (fun c => c = b) hb) (fun _ _ e => e), n1, by omega, by omega, g1, hf.size⟩
end
set_option maxHeartbeats 8000000 in
set_option maxRecDepth 100000 in
theorem rkClause (s : ByteArray) (b : Nat) (a e : Int) (W : World) (hs : s.size ≤ maxLen) (h : InAt W b s (a, e)) :
    Calls Tryz.prog 81 #[.pointer (some ⟨b, 0, none⟩)] W fun en w' => ∃ vs q, rkL s.data.toList 8 (a, e) = (vs, q) ∧ en = .returned (.agg (clauseOf vs).l.toArray) ∧ InAt w' b s q ∧ Fr (fun c => c = b) W w' := by
  obtain ⟨n0, a1, e1, h0⟩ : ∃ n x y, rkN s.data.toList (a, e) = (n, x, y) := ⟨_, _, _, rfl⟩
  obtain ⟨n1, a2, e2, h1⟩ : ∃ n x y, rkN s.data.toList (a1, e1) = (n, x, y) := ⟨_, _, _, rfl⟩
  obtain ⟨n2, a3, e3, h2⟩ : ∃ n x y, rkN s.data.toList (a2, e2) = (n, x, y) := ⟨_, _, _, rfl⟩
  obtain ⟨n3, a4, e4, h3⟩ : ∃ n x y, rkN s.data.toList (a3, e3) = (n, x, y) := ⟨_, _, _, rfl⟩
  obtain ⟨n4, a5, e5, h4⟩ : ∃ n x y, rkN s.data.toList (a4, e4) = (n, x, y) := ⟨_, _, _, rfl⟩
  obtain ⟨n5, a6, e6, h5⟩ : ∃ n x y, rkN s.data.toList (a5, e5) = (n, x, y) := ⟨_, _, _, rfl⟩
  obtain ⟨n6, a7, e7, h6⟩ : ∃ n x y, rkN s.data.toList (a6, e6) = (n, x, y) := ⟨_, _, _, rfl⟩
  obtain ⟨n7, a8, e8, h7⟩ : ∃ n x y, rkN s.data.toList (a7, e7) = (n, x, y) := ⟨_, _, _, rfl⟩
  have HV : Hid (rkL s.data.toList 8 (a, e) = ([n0, n1, n2, n3, n4, n5, n6, n7], a8, e8)) := (by simp only [rkL, h0, h1, h2, h3, h4, h5, h6, h7] : rkL s.data.toList 8 (a, e) = ([n0, n1, n2, n3, n4, n5, n6, n7], a8, e8))
  have HS := Lib.hid hs
  obtain ⟨N, hN⟩ : ∃ N, W.heap.size = N := ⟨_, rfl⟩
  obtain ⟨w0, hw0⟩ : ∃ w0, W.alloc (.cells #[.int .i64 0, .int .i64 0, .int .i64 0, .int .i64 0, .int .i64 0, .int .i64 0, .int .i64 0, .int .i64 0] 26) = w0 := ⟨_, rfl⟩
  have hbN : b < N := by rw [← hN]; exact h.lt
  have hb0 : Below N W w0 := by rw [← hw0, ← hN]; exact (Below.refl _ W).alloc (Nat.le_refl _) _
  have HK0 : Hid (Blk w0 N 26 [.int .i64 0, .int .i64 0, .int .i64 0, .int .i64 0, .int .i64 0, .int .i64 0, .int .i64 0, .int .i64 0]) := (by rw [← hw0, ← hN]; exact Blk.new W _ _ : Blk w0 N 26 [.int .i64 0, .int .i64 0, .int .i64 0, .int .i64 0, .int .i64 0, .int .i64 0, .int .i64 0, .int .i64 0])
  have HI0 : Hid (InAt w0 b s (a, e)) := Blk.kept h (hb0.block b hbN)
  have HF0 : Hid (Fr (fun c => c = b) W w0) := Fr.under _ (by rw [hN]; exact hb0)
  have HG : Hid (b ≠ N ∧ W.heap.size ≤ N) := ⟨by omega, by omega⟩
  have HSZ := Lib.hid (show (Tryz.prog.info? 26).map (·.size) = some 8 from by kernel_rfl)
  have HH0 := Lib.hid h0
  have HH1 := Lib.hid h1
  have HH2 := Lib.hid h2
  have HH3 := Lib.hid h3
  have HH4 := Lib.hid h4
  have HH5 := Lib.hid h5
  have HH6 := Lib.hid h6
  have HH7 := Lib.hid h7
  clear h hs hb0 hbN h0 h1 h2 h3 h4 h5 h6 h7
  go_enter Tryz.func81, Tryz.ntmps81
  go_wp2_with fail
  clear hN hw0
  refine (rkNumber s b a e w0 HS.out HI0.out).mono ?_
  rw [HH0.out]
  rintro en x1 ⟨rfl, hk, hf⟩
  obtain ⟨M, hM⟩ : ∃ M, x1.heap.size = M := ⟨_, rfl⟩
  obtain ⟨x2, hx2⟩ : ∃ x2, x1.alloc (.cells #[.int .i64 0, .int .i64 0, .int .i64 0, .int .i64 0, .int .i64 0, .int .i64 0, .int .i64 0, .int .i64 0] 26) = x2 := ⟨_, rfl⟩
  have HR0 := Lib.hid (RkS.start hk (HK0.out.kept (hf.block N HK0.out.lt (fun e => HG.out.1 e.symm))) (HF0.out.trans hf (fun _ _ e => e)) HG.out.1 HG.out.2 [.int .i64 0, .int .i64 0, .int .i64 0, .int .i64 0, .int .i64 0, .int .i64 0, .int .i64 0, .int .i64 0])
  rw [hx2, hM] at HR0
  have g0 : x2.cell? ⟨M, 0, none⟩ = some (.int .i64 0) := HR0.out.km.cell 0
  have gf0 := HR0.out.km.frozen 0
  have g1 : x2.cell? ⟨M, 1, none⟩ = some (.int .i64 0) := HR0.out.km.cell 1
  have gf1 := HR0.out.km.frozen 1
  have g2 : x2.cell? ⟨M, 2, none⟩ = some (.int .i64 0) := HR0.out.km.cell 2
  have gf2 := HR0.out.km.frozen 2
  have g3 : x2.cell? ⟨M, 3, none⟩ = some (.int .i64 0) := HR0.out.km.cell 3
  have gf3 := HR0.out.km.frozen 3
  have g4 : x2.cell? ⟨M, 4, none⟩ = some (.int .i64 0) := HR0.out.km.cell 4
  have gf4 := HR0.out.km.frozen 4
  have g5 : x2.cell? ⟨M, 5, none⟩ = some (.int .i64 0) := HR0.out.km.cell 5
  have gf5 := HR0.out.km.frozen 5
  have g6 : x2.cell? ⟨M, 6, none⟩ = some (.int .i64 0) := HR0.out.km.cell 6
  have gf6 := HR0.out.km.frozen 6
  have g7 : x2.cell? ⟨M, 7, none⟩ = some (.int .i64 0) := HR0.out.km.cell 7
  have gf7 := HR0.out.km.frozen 7
  have HR : Hid (RkS W ((World.setCell (World.setCell (World.setCell (World.setCell (World.setCell (World.setCell (World.setCell (World.setCell x2 ⟨M, 0, none⟩ (.int .i64 n0)) ⟨M, 1, none⟩ (.int .i64 0)) ⟨M, 2, none⟩ (.int .i64 0)) ⟨M, 3, none⟩ (.int .i64 0)) ⟨M, 4, none⟩ (.int .i64 0)) ⟨M, 5, none⟩ (.int .i64 0)) ⟨M, 6, none⟩ (.int .i64 0)) ⟨M, 7, none⟩ (.int .i64 0))) b N M s (a1, e1) 26 [.int .i64 0, .int .i64 0, .int .i64 0, .int .i64 0, .int .i64 0, .int .i64 0, .int .i64 0, .int .i64 0] [.int .i64 n0, .int .i64 0, .int .i64 0, .int .i64 0, .int .i64 0, .int .i64 0, .int .i64 0, .int .i64 0]) := RkS.put (RkS.put (RkS.put (RkS.put (RkS.put (RkS.put (RkS.put (RkS.put (HR0.out) 0 (.int .i64 n0)) 1 (.int .i64 0)) 2 (.int .i64 0)) 3 (.int .i64 0)) 4 (.int .i64 0)) 5 (.int .i64 0)) 6 (.int .i64 0)) 7 (.int .i64 0)
  obtain ⟨y0, hy0⟩ : ∃ y0, (World.setCell (World.setCell (World.setCell (World.setCell (World.setCell (World.setCell (World.setCell (World.setCell x2 ⟨M, 0, none⟩ (.int .i64 n0)) ⟨M, 1, none⟩ (.int .i64 0)) ⟨M, 2, none⟩ (.int .i64 0)) ⟨M, 3, none⟩ (.int .i64 0)) ⟨M, 4, none⟩ (.int .i64 0)) ⟨M, 5, none⟩ (.int .i64 0)) ⟨M, 6, none⟩ (.int .i64 0)) ⟨M, 7, none⟩ (.int .i64 0)) = y0 := ⟨_, rfl⟩
  rw [hy0] at HR
  have HY0 := Lib.hid hy0
  clear hk hf hy0 HK0 HI0 HF0
  go_upto_region 2 with (fail)
  rw [HY0.out]
  clear HR0 HY0 hx2 hM g0 gf0 g1 gf1 g2 gf2 g3 gf3 g4 gf4 g5 gf5 g6 gf6 g7 gf7
  go_wp2_with fail
  refine (rkNumber s b a1 e1 y0 HS.out HR.out.i).mono ?_
  rw [HH1.out]
  rintro en x1 ⟨rfl, hk, hf⟩
  have HR := Lib.hid (HR.out.num hk hf)
  have ci : x1.cell? ⟨M, 1, none⟩ = some (.int .i64 0) := HR.out.km.cell 1
  have fi := HR.out.km.frozen 1
  have HR := Lib.hid (HR.out.put 1 (.int .i64 n1))
  clear hk hf
  go_upto_region 3 with (fail)
  clear ci fi
  generalize World.setCell _ _ _ = y1 at HR ⊢
  go_wp2_with fail
  refine (rkNumber s b a2 e2 y1 HS.out HR.out.i).mono ?_
  rw [HH2.out]
  rintro en x1 ⟨rfl, hk, hf⟩
  have HR := Lib.hid (HR.out.num hk hf)
  have ci : x1.cell? ⟨M, 2, none⟩ = some (.int .i64 0) := HR.out.km.cell 2
  have fi := HR.out.km.frozen 2
  have HR := Lib.hid (HR.out.put 2 (.int .i64 n2))
  clear hk hf
  go_upto_region 4 with (fail)
  clear ci fi
  generalize World.setCell _ _ _ = y2 at HR ⊢
  go_wp2_with fail
  refine (rkNumber s b a3 e3 y2 HS.out HR.out.i).mono ?_
  rw [HH3.out]
  rintro en x1 ⟨rfl, hk, hf⟩
  have HR := Lib.hid (HR.out.num hk hf)
  have ci : x1.cell? ⟨M, 3, none⟩ = some (.int .i64 0) := HR.out.km.cell 3
  have fi := HR.out.km.frozen 3
  have HR := Lib.hid (HR.out.put 3 (.int .i64 n3))
  clear hk hf
  go_upto_region 5 with (fail)
  clear ci fi
  generalize World.setCell _ _ _ = y3 at HR ⊢
  go_wp2_with fail
  refine (rkNumber s b a4 e4 y3 HS.out HR.out.i).mono ?_
  rw [HH4.out]
  rintro en x1 ⟨rfl, hk, hf⟩
  have HR := Lib.hid (HR.out.num hk hf)
  have ci : x1.cell? ⟨M, 4, none⟩ = some (.int .i64 0) := HR.out.km.cell 4
  have fi := HR.out.km.frozen 4
  have HR := Lib.hid (HR.out.put 4 (.int .i64 n4))
  clear hk hf
  go_upto_region 6 with (fail)
  clear ci fi
  generalize World.setCell _ _ _ = y4 at HR ⊢
  go_wp2_with fail
  refine (rkNumber s b a5 e5 y4 HS.out HR.out.i).mono ?_
  rw [HH5.out]
  rintro en x1 ⟨rfl, hk, hf⟩
  have HR := Lib.hid (HR.out.num hk hf)
  have ci : x1.cell? ⟨M, 5, none⟩ = some (.int .i64 0) := HR.out.km.cell 5
  have fi := HR.out.km.frozen 5
  have HR := Lib.hid (HR.out.put 5 (.int .i64 n5))
  clear hk hf
  go_upto_region 7 with (fail)
  clear ci fi
  generalize World.setCell _ _ _ = y5 at HR ⊢
  go_wp2_with fail
  refine (rkNumber s b a6 e6 y5 HS.out HR.out.i).mono ?_
  rw [HH6.out]
  rintro en x1 ⟨rfl, hk, hf⟩
  have HR := Lib.hid (HR.out.num hk hf)
  have ci : x1.cell? ⟨M, 6, none⟩ = some (.int .i64 0) := HR.out.km.cell 6
  have fi := HR.out.km.frozen 6
  have HR := Lib.hid (HR.out.put 6 (.int .i64 n6))
  clear hk hf
  go_upto_region 8 with (fail)
  clear ci fi
  generalize World.setCell _ _ _ = y6 at HR ⊢
  go_wp2_with fail
  refine (rkNumber s b a7 e7 y6 HS.out HR.out.i).mono ?_
  rw [HH7.out]
  rintro en x1 ⟨rfl, hk, hf⟩
  have HR := Lib.hid (HR.out.num hk hf)
  have ci : x1.cell? ⟨M, 7, none⟩ = some (.int .i64 0) := HR.out.km.cell 7
  have fi := HR.out.km.frozen 7
  have HR := Lib.hid (HR.out.put 7 (.int .i64 n7))
  clear hk hf
  go_upto_region 9 with (fail)
  clear ci fi
  generalize World.setCell _ _ _ = y7 at HR ⊢
  have HKM := Lib.hid HR.out.km
  have HKN := Lib.hid HR.out.kn
  have m0 : y7.cell? ⟨M, 0, none⟩ = some (.int .i64 n0) := HKM.out.cell 0
  have k0 : y7.cell? ⟨N, 0, none⟩ = some (.int .i64 0) := HKN.out.cell 0
  have kf0 := HKN.out.frozen 0
  have m1 : y7.cell? ⟨M, 1, none⟩ = some (.int .i64 n1) := HKM.out.cell 1
  have k1 : y7.cell? ⟨N, 1, none⟩ = some (.int .i64 0) := HKN.out.cell 1
  have kf1 := HKN.out.frozen 1
  have m2 : y7.cell? ⟨M, 2, none⟩ = some (.int .i64 n2) := HKM.out.cell 2
  have k2 : y7.cell? ⟨N, 2, none⟩ = some (.int .i64 0) := HKN.out.cell 2
  have kf2 := HKN.out.frozen 2
  have m3 : y7.cell? ⟨M, 3, none⟩ = some (.int .i64 n3) := HKM.out.cell 3
  have k3 : y7.cell? ⟨N, 3, none⟩ = some (.int .i64 0) := HKN.out.cell 3
  have kf3 := HKN.out.frozen 3
  have m4 : y7.cell? ⟨M, 4, none⟩ = some (.int .i64 n4) := HKM.out.cell 4
  have k4 : y7.cell? ⟨N, 4, none⟩ = some (.int .i64 0) := HKN.out.cell 4
  have kf4 := HKN.out.frozen 4
  have m5 : y7.cell? ⟨M, 5, none⟩ = some (.int .i64 n5) := HKM.out.cell 5
  have k5 : y7.cell? ⟨N, 5, none⟩ = some (.int .i64 0) := HKN.out.cell 5
  have kf5 := HKN.out.frozen 5
  have m6 : y7.cell? ⟨M, 6, none⟩ = some (.int .i64 n6) := HKM.out.cell 6
  have k6 : y7.cell? ⟨N, 6, none⟩ = some (.int .i64 0) := HKN.out.cell 6
  have kf6 := HKN.out.frozen 6
  have m7 : y7.cell? ⟨M, 7, none⟩ = some (.int .i64 n7) := HKM.out.cell 7
  have k7 : y7.cell? ⟨N, 7, none⟩ = some (.int .i64 0) := HKN.out.cell 7
  have kf7 := HKN.out.frozen 7
  have HKV : Hid (Blk (World.setCell (World.setCell (World.setCell (World.setCell (World.setCell (World.setCell (World.setCell (World.setCell y7 ⟨N, 0, none⟩ (.int .i64 n0)) ⟨N, 1, none⟩ (.int .i64 n1)) ⟨N, 2, none⟩ (.int .i64 n2)) ⟨N, 3, none⟩ (.int .i64 n3)) ⟨N, 4, none⟩ (.int .i64 n4)) ⟨N, 5, none⟩ (.int .i64 n5)) ⟨N, 6, none⟩ (.int .i64 n6)) ⟨N, 7, none⟩ (.int .i64 n7)) N 26 [.int .i64 n0, .int .i64 n1, .int .i64 n2, .int .i64 n3, .int .i64 n4, .int .i64 n5, .int .i64 n6, .int .i64 n7]) := Blk.set (Blk.set (Blk.set (Blk.set (Blk.set (Blk.set (Blk.set (Blk.set (HKN.out) 0 (.int .i64 n0)) 1 (.int .i64 n1)) 2 (.int .i64 n2)) 3 (.int .i64 n3)) 4 (.int .i64 n4)) 5 (.int .i64 n5)) 6 (.int .i64 n6)) 7 (.int .i64 n7)
  have HIV : Hid (InAt (World.setCell (World.setCell (World.setCell (World.setCell (World.setCell (World.setCell (World.setCell (World.setCell y7 ⟨N, 0, none⟩ (.int .i64 n0)) ⟨N, 1, none⟩ (.int .i64 n1)) ⟨N, 2, none⟩ (.int .i64 n2)) ⟨N, 3, none⟩ (.int .i64 n3)) ⟨N, 4, none⟩ (.int .i64 n4)) ⟨N, 5, none⟩ (.int .i64 n5)) ⟨N, 6, none⟩ (.int .i64 n6)) ⟨N, 7, none⟩ (.int .i64 n7)) b s (a8, e8)) := Blk.other (Blk.other (Blk.other (Blk.other (Blk.other (Blk.other (Blk.other (Blk.other (HR.out.i) ⟨N, 0, none⟩ HG.out.1.symm (.int .i64 n0)) ⟨N, 1, none⟩ HG.out.1.symm (.int .i64 n1)) ⟨N, 2, none⟩ HG.out.1.symm (.int .i64 n2)) ⟨N, 3, none⟩ HG.out.1.symm (.int .i64 n3)) ⟨N, 4, none⟩ HG.out.1.symm (.int .i64 n4)) ⟨N, 5, none⟩ HG.out.1.symm (.int .i64 n5)) ⟨N, 6, none⟩ HG.out.1.symm (.int .i64 n6)) ⟨N, 7, none⟩ HG.out.1.symm (.int .i64 n7)
  have HFV : Hid (Fr (fun c => c = b) W (World.setCell (World.setCell (World.setCell (World.setCell (World.setCell (World.setCell (World.setCell (World.setCell y7 ⟨N, 0, none⟩ (.int .i64 n0)) ⟨N, 1, none⟩ (.int .i64 n1)) ⟨N, 2, none⟩ (.int .i64 n2)) ⟨N, 3, none⟩ (.int .i64 n3)) ⟨N, 4, none⟩ (.int .i64 n4)) ⟨N, 5, none⟩ (.int .i64 n5)) ⟨N, 6, none⟩ (.int .i64 n6)) ⟨N, 7, none⟩ (.int .i64 n7))) := Fr.setCell (Fr.setCell (Fr.setCell (Fr.setCell (Fr.setCell (Fr.setCell (Fr.setCell (Fr.setCell (HR.out.fr) ⟨N, 0, none⟩ (.int .i64 n0) (.inr HG.out.2)) ⟨N, 1, none⟩ (.int .i64 n1) (.inr HG.out.2)) ⟨N, 2, none⟩ (.int .i64 n2) (.inr HG.out.2)) ⟨N, 3, none⟩ (.int .i64 n3) (.inr HG.out.2)) ⟨N, 4, none⟩ (.int .i64 n4) (.inr HG.out.2)) ⟨N, 5, none⟩ (.int .i64 n5) (.inr HG.out.2)) ⟨N, 6, none⟩ (.int .i64 n6) (.inr HG.out.2)) ⟨N, 7, none⟩ (.int .i64 n7) (.inr HG.out.2)
  go_wp2_with fail
  refine bodyPost_ret (results_cell_row Tryz.results81 _ _ N 26 #[.int .i64 n0, .int .i64 n1, .int .i64 n2, .int .i64 n3, .int .i64 n4, .int .i64 n5, .int .i64 n6, .int .i64 n7] (0, 0) _ rfl HKV.out Tryz.underlying26 rfl HSZ.out) rfl ?_
  exact ⟨[n0, n1, n2, n3, n4, n5, n6, n7], (a8, e8), HV.out, rfl, HIV.out, HFV.out⟩
theorem rkC_bd (l : List UInt8) (q : Int × Int) : 0 ≤ (rkC l q).1 ∧ (rkC l q).1 ≤ 7 := by
  unfold rkC
  split
  · split
    · exact ⟨by show (0 : Int) ≤ 0; decide, by show (0 : Int) ≤ 7; decide⟩
    · constructor <;> omega
  · exact ⟨by show (0 : Int) ≤ 0; decide, by show (0 : Int) ≤ 7; decide⟩
/-- What the reading of an entry leaves. -/
def EntryPost (W : World) (b : Nat) (s : ByteArray) (a e : Int) (en : Ending) (w' : World) : Prop := ∃ (vs : List Int) (q6 : Int × Int) (i : Nat) (ws : List Int) (q : Int × Int) (oa : Option Addr) (cap : Nat), rkL s.data.toList 6 (a, e) = (vs, q6) ∧ rkL s.data.toList (2 * i) (rkC s.data.toList q6).2 = (ws, q) ∧ (q.2 = 0 → (i : Int) = (rkC s.data.toList q6).1) ∧ (i : Int) ≤ (rkC s.data.toList q6).1 ∧ i ≤ 7 ∧ en = .returned (.agg #[.int .i64 (vs.getD 0 0), .int .i64 (vs.getD 1 0), .int .i64 (vs.getD 2 0), .int .i64 (vs.getD 3 0), .int .i64 (vs.getD 4 0), .int .i64 (vs.getD 5 0), .slice oa i cap]) ∧ RdA w' oa (pairsL ws) ∧ (∀ x, oa = some x → W.heap.size ≤ x.block) ∧ InAt w' b s q ∧ Fr (fun c => c = b) W w'
set_option maxHeartbeats 8000000 in
set_option maxRecDepth 100000 in
theorem rkEntry (s : ByteArray) (b : Nat) (a e : Int) (W : World) (hs : s.size ≤ maxLen) (h : InAt W b s (a, e)) :
    Calls Tryz.prog 80 #[.pointer (some ⟨b, 0, none⟩), .int .i64 110] W (EntryPost W b s a e) := by
  obtain ⟨n0, a1, e1, h0⟩ : ∃ n x y, rkN s.data.toList (a, e) = (n, x, y) := ⟨_, _, _, rfl⟩
  obtain ⟨n1, a2, e2, h1⟩ : ∃ n x y, rkN s.data.toList (a1, e1) = (n, x, y) := ⟨_, _, _, rfl⟩
  obtain ⟨n2, a3, e3, h2⟩ : ∃ n x y, rkN s.data.toList (a2, e2) = (n, x, y) := ⟨_, _, _, rfl⟩
  obtain ⟨n3, a4, e4, h3⟩ : ∃ n x y, rkN s.data.toList (a3, e3) = (n, x, y) := ⟨_, _, _, rfl⟩
  obtain ⟨n4, a5, e5, h4⟩ : ∃ n x y, rkN s.data.toList (a4, e4) = (n, x, y) := ⟨_, _, _, rfl⟩
  obtain ⟨n5, a6, e6, h5⟩ : ∃ n x y, rkN s.data.toList (a5, e5) = (n, x, y) := ⟨_, _, _, rfl⟩
  have HV : Hid (rkL s.data.toList 6 (a, e) = ([n0, n1, n2, n3, n4, n5], a6, e6)) := (by simp only [rkL, h0, h1, h2, h3, h4, h5] : rkL s.data.toList 6 (a, e) = ([n0, n1, n2, n3, n4, n5], a6, e6))
  have HS := Lib.hid hs
  obtain ⟨N, hN⟩ : ∃ N, W.heap.size = N := ⟨_, rfl⟩
  obtain ⟨w0, hw0⟩ : ∃ w0, W.alloc (.cells #[.int .i64 0, .int .i64 0, .int .i64 0, .int .i64 0, .int .i64 0, .int .i64 0, .slice none 0 0] 24) = w0 := ⟨_, rfl⟩
  have hbN : b < N := by rw [← hN]; exact h.lt
  have hb0 : Below N W w0 := by rw [← hw0, ← hN]; exact (Below.refl _ W).alloc (Nat.le_refl _) _
  have HK0 : Hid (Blk w0 N 24 [.int .i64 0, .int .i64 0, .int .i64 0, .int .i64 0, .int .i64 0, .int .i64 0, .slice none 0 0]) := (by rw [← hw0, ← hN]; exact Blk.new W _ _ : Blk w0 N 24 [.int .i64 0, .int .i64 0, .int .i64 0, .int .i64 0, .int .i64 0, .int .i64 0, .slice none 0 0])
  have HI0 : Hid (InAt w0 b s (a, e)) := Blk.kept h (hb0.block b hbN)
  have HF0 : Hid (Fr (fun c => c = b) W w0) := Fr.under _ (by rw [hN]; exact hb0)
  have HG : Hid (b ≠ N ∧ W.heap.size ≤ N) := ⟨by omega, by omega⟩
  have HSZ := Lib.hid (show (Tryz.prog.info? 24).map (·.size) = some 7 from by kernel_rfl)
  have HH0 := Lib.hid h0
  have HH1 := Lib.hid h1
  have HH2 := Lib.hid h2
  have HH3 := Lib.hid h3
  have HH4 := Lib.hid h4
  have HH5 := Lib.hid h5
  clear h hs hb0 hbN h0 h1 h2 h3 h4 h5
  go_enter Tryz.func80, Tryz.ntmps80
  go_wp2_with fail
  clear hN hw0
  refine (rkNumber s b a e w0 HS.out HI0.out).mono ?_
  rw [HH0.out]
  rintro en x1 ⟨rfl, hk, hf⟩
  obtain ⟨M, hM⟩ : ∃ M, x1.heap.size = M := ⟨_, rfl⟩
  obtain ⟨x2, hx2⟩ : ∃ x2, x1.alloc (.cells #[.int .i64 0, .int .i64 0, .int .i64 0, .int .i64 0, .int .i64 0, .int .i64 0, .slice none 0 0] 24) = x2 := ⟨_, rfl⟩
  have HR0 := Lib.hid (RkS.start hk (HK0.out.kept (hf.block N HK0.out.lt (fun e => HG.out.1 e.symm))) (HF0.out.trans hf (fun _ _ e => e)) HG.out.1 HG.out.2 [.int .i64 0, .int .i64 0, .int .i64 0, .int .i64 0, .int .i64 0, .int .i64 0, .slice none 0 0])
  rw [hx2, hM] at HR0
  have g0 : x2.cell? ⟨M, 0, none⟩ = some (.int .i64 0) := HR0.out.km.cell 0
  have gf0 := HR0.out.km.frozen 0
  have g1 : x2.cell? ⟨M, 1, none⟩ = some (.int .i64 0) := HR0.out.km.cell 1
  have gf1 := HR0.out.km.frozen 1
  have g2 : x2.cell? ⟨M, 2, none⟩ = some (.int .i64 0) := HR0.out.km.cell 2
  have gf2 := HR0.out.km.frozen 2
  have g3 : x2.cell? ⟨M, 3, none⟩ = some (.int .i64 0) := HR0.out.km.cell 3
  have gf3 := HR0.out.km.frozen 3
  have g4 : x2.cell? ⟨M, 4, none⟩ = some (.int .i64 0) := HR0.out.km.cell 4
  have gf4 := HR0.out.km.frozen 4
  have g5 : x2.cell? ⟨M, 5, none⟩ = some (.int .i64 0) := HR0.out.km.cell 5
  have gf5 := HR0.out.km.frozen 5
  have g6 : x2.cell? ⟨M, 6, none⟩ = some (.slice none 0 0) := HR0.out.km.cell 6
  have gf6 := HR0.out.km.frozen 6
  have HR : Hid (RkS W ((World.setCell (World.setCell (World.setCell (World.setCell (World.setCell (World.setCell (World.setCell x2 ⟨M, 0, none⟩ (.int .i64 n0)) ⟨M, 1, none⟩ (.int .i64 0)) ⟨M, 2, none⟩ (.int .i64 0)) ⟨M, 3, none⟩ (.int .i64 0)) ⟨M, 4, none⟩ (.int .i64 0)) ⟨M, 5, none⟩ (.int .i64 0)) ⟨M, 6, none⟩ (.slice none 0 0))) b N M s (a1, e1) 24 [.int .i64 0, .int .i64 0, .int .i64 0, .int .i64 0, .int .i64 0, .int .i64 0, .slice none 0 0] [.int .i64 n0, .int .i64 0, .int .i64 0, .int .i64 0, .int .i64 0, .int .i64 0, .slice none 0 0]) := RkS.put (RkS.put (RkS.put (RkS.put (RkS.put (RkS.put (RkS.put (HR0.out) 0 (.int .i64 n0)) 1 (.int .i64 0)) 2 (.int .i64 0)) 3 (.int .i64 0)) 4 (.int .i64 0)) 5 (.int .i64 0)) 6 (.slice none 0 0)
  obtain ⟨y0, hy0⟩ : ∃ y0, (World.setCell (World.setCell (World.setCell (World.setCell (World.setCell (World.setCell (World.setCell x2 ⟨M, 0, none⟩ (.int .i64 n0)) ⟨M, 1, none⟩ (.int .i64 0)) ⟨M, 2, none⟩ (.int .i64 0)) ⟨M, 3, none⟩ (.int .i64 0)) ⟨M, 4, none⟩ (.int .i64 0)) ⟨M, 5, none⟩ (.int .i64 0)) ⟨M, 6, none⟩ (.slice none 0 0)) = y0 := ⟨_, rfl⟩
  rw [hy0] at HR
  have HY0 := Lib.hid hy0
  clear hk hf hy0 HK0 HI0 HF0
  go_upto_region 2 with (fail)
  rw [HY0.out]
  clear HR0 HY0 hx2 hM g0 gf0 g1 gf1 g2 gf2 g3 gf3 g4 gf4 g5 gf5 g6 gf6
  go_wp2_with fail
  refine (rkNumber s b a1 e1 y0 HS.out HR.out.i).mono ?_
  rw [HH1.out]
  rintro en x1 ⟨rfl, hk, hf⟩
  have HR := Lib.hid (HR.out.num hk hf)
  have ci : x1.cell? ⟨M, 1, none⟩ = some (.int .i64 0) := HR.out.km.cell 1
  have fi := HR.out.km.frozen 1
  have HR := Lib.hid (HR.out.put 1 (.int .i64 n1))
  clear hk hf
  go_upto_region 3 with (fail)
  clear ci fi
  generalize World.setCell _ _ _ = y1 at HR ⊢
  go_wp2_with fail
  refine (rkNumber s b a2 e2 y1 HS.out HR.out.i).mono ?_
  rw [HH2.out]
  rintro en x1 ⟨rfl, hk, hf⟩
  have HR := Lib.hid (HR.out.num hk hf)
  have ci : x1.cell? ⟨M, 2, none⟩ = some (.int .i64 0) := HR.out.km.cell 2
  have fi := HR.out.km.frozen 2
  have HR := Lib.hid (HR.out.put 2 (.int .i64 n2))
  clear hk hf
  go_upto_region 4 with (fail)
  clear ci fi
  generalize World.setCell _ _ _ = y2 at HR ⊢
  go_wp2_with fail
  refine (rkNumber s b a3 e3 y2 HS.out HR.out.i).mono ?_
  rw [HH3.out]
  rintro en x1 ⟨rfl, hk, hf⟩
  have HR := Lib.hid (HR.out.num hk hf)
  have ci : x1.cell? ⟨M, 3, none⟩ = some (.int .i64 0) := HR.out.km.cell 3
  have fi := HR.out.km.frozen 3
  have HR := Lib.hid (HR.out.put 3 (.int .i64 n3))
  clear hk hf
  go_upto_region 5 with (fail)
  clear ci fi
  generalize World.setCell _ _ _ = y3 at HR ⊢
  go_wp2_with fail
  refine (rkNumber s b a4 e4 y3 HS.out HR.out.i).mono ?_
  rw [HH4.out]
  rintro en x1 ⟨rfl, hk, hf⟩
  have HR := Lib.hid (HR.out.num hk hf)
  have ci : x1.cell? ⟨M, 4, none⟩ = some (.int .i64 0) := HR.out.km.cell 4
  have fi := HR.out.km.frozen 4
  have HR := Lib.hid (HR.out.put 4 (.int .i64 n4))
  clear hk hf
  go_upto_region 6 with (fail)
  clear ci fi
  generalize World.setCell _ _ _ = y4 at HR ⊢
  go_wp2_with fail
  refine (rkNumber s b a5 e5 y4 HS.out HR.out.i).mono ?_
  rw [HH5.out]
  rintro en x1 ⟨rfl, hk, hf⟩
  have HR := Lib.hid (HR.out.num hk hf)
  have ci : x1.cell? ⟨M, 5, none⟩ = some (.int .i64 0) := HR.out.km.cell 5
  have fi := HR.out.km.frozen 5
  have HR := Lib.hid (HR.out.put 5 (.int .i64 n5))
  clear hk hf
  go_upto_region 7 with (fail)
  clear ci fi
  generalize World.setCell _ _ _ = y5 at HR ⊢
  obtain ⟨k, a7, e7, hc⟩ : ∃ k x y, rkC s.data.toList (a6, e6) = (k, x, y) := ⟨_, _, _, rfl⟩
  have hkb := rkC_bd s.data.toList (a6, e6)
  rw [hc] at hkb
  obtain ⟨kn, rfl⟩ : ∃ kn : Nat, k = (kn : Int) := ⟨k.toNat, by have := hkb.1; simp only at this; omega⟩
  have hk7 : kn ≤ 7 := by have := hkb.2; simp only at this; omega
  have HCT := Lib.hid (rkCount s b a6 e6 y5 HS.out HR.out.i)
  rw [hc] at HCT
  have HC := Lib.hid hc
  clear hc hkb
  go_wp2_with fail
  refine HCT.out.mono ?_
  rintro en x1 ⟨rfl, hk, hf⟩
  have HR := Lib.hid (HR.out.num hk hf)
  obtain ⟨B, hB⟩ : ∃ B, x1.heap.size = B := ⟨_, rfl⟩
  have hbB : b < B := by rw [← hB]; exact HR.out.i.lt
  have hNB : N < B := by rw [← hB]; exact HR.out.kn.lt
  have hMB : M < B := by rw [← hB]; exact HR.out.km.lt
  have HWB : Hid (W.heap.size ≤ B) := (by rw [← hB]; exact HR.out.fr.size : W.heap.size ≤ B)
  have HZ0 : Hid (B ≤ x1.heap.size) := (by rw [hB]; exact Nat.le_refl _ : B ≤ x1.heap.size)
  clear hk hf HCT hB
  go_wp2_with fail
  go_loopw [7] (fun vi wr => ∃ (i ca : Nat) (oa : Option Addr) (ws : List Int) (aq eq : Int), i ≤ kn ∧ vi = .int .i64 i ∧ Hid (rkL s.data.toList (2 * i) (a7, e7) = (ws, aq, eq)) ∧ Hid (RkS W wr b N M s (aq, eq) 24 [.int .i64 0, .int .i64 0, .int .i64 0, .int .i64 0, .int .i64 0, .int .i64 0, .slice none 0 0] [.int .i64 n0, .int .i64 n1, .int .i64 n2, .int .i64 n3, .int .i64 n4, .int .i64 n5, .slice oa i ca]) ∧ Hid (wr.ownsRow B 140 2 (.slice oa i ca) i (aCells (pairsL ws))) ∧ Hid (B ≤ wr.heap.size)) (fun v _ => kn - (intOf v).toNat)
  case atStart => exact ⟨0, 0, none, [], a7, e7, Nat.zero_le _, rfl, rfl, HR, World.ownsRow_nil _ _ _ _, HZ0⟩
  case round =>
    clear HR HZ0
    obtain ⟨i, ca, oa, ws, aq, eq, hik, rfl, HL, HR, HO, HZ⟩ := hrel
    have c2 : wr.cell? ⟨b, 2, none⟩ = some (.int .i64 eq) := HR.out.i.cell 2
    by_cases h : i < kn
    · have q1 : (i : Int) < (kn : Int) := by omega
      by_cases he : eq = 0
      · subst he
        obtain ⟨x, b1, f1, hx⟩ : ∃ n x y, rkN s.data.toList (aq, 0) = (n, x, y) := ⟨_, _, _, rfl⟩
        obtain ⟨y, b2, f2, hy⟩ : ∃ n x y, rkN s.data.toList (b1, f1) = (n, x, y) := ⟨_, _, _, rfl⟩
        have HC1 := Lib.hid (rkNumber s b aq 0 wr HS.out HR.out.i)
        rw [hx] at HC1
        have HL2 : Hid (rkL s.data.toList (2 * (i + 1)) (a7, e7) = (ws ++ [x] ++ [y], b2, f2)) := (by rw [show 2 * (i + 1) = 2 * i + 2 by omega, rkL_app, HL.out]; simp only [rkL, hx, hy]; simp : rkL s.data.toList (2 * (i + 1)) (a7, e7) = (ws ++ [x] ++ [y], b2, f2))
        have hwl : ws.length = 2 * i := by have := rkL_len s.data.toList (2 * i) (a7, e7); rw [HL.out] at this; exact this
        have HPS := Lib.hid (pairsL_snoc i ws x y hwl)
        have HY := Lib.hid hy
        clear hx hy hwl HL h
        go_wp2_with fail
        refine HC1.out.mono ?_
        rintro en v1 ⟨rfl, hk, hf⟩
        obtain ⟨G, hG⟩ : ∃ G, v1.heap.size = G := ⟨_, rfl⟩
        obtain ⟨v2, hv2⟩ : ∃ v2, v1.alloc (.cells #[.int .i64 0, .int .i64 0] 140) = v2 := ⟨_, rfl⟩
        obtain ⟨v3, hv3⟩ : ∃ v3, World.setCell (World.setCell v2 ⟨G, 0, none⟩ (.int .i64 x)) ⟨G, 1, none⟩ (.int .i64 0) = v3 := ⟨_, rfl⟩
        have hb3 : Below v1.heap.size v1 v3 := by rw [← hv3, ← hv2, ← hG]; exact (((Below.refl _ v1).alloc (Nat.le_refl _) _).setCell (p := ⟨v1.heap.size, 0, none⟩) (Nat.le_refl _) _).setCell (p := ⟨v1.heap.size, 1, none⟩) (Nat.le_refl _) _
        have hr1 := HR.out.num hk hf
        have HR3 := Lib.hid (hr1.below hb3)
        have hBG : B ≤ G := by have := HZ.out; have := hf.size; omega
        have ho1 := ownsRow_keptF HO.out (fun c hc => hf.block c (own_lt HO.out c hc) (by have := own_ge HO.out c hc; omega))
        have HOG : Hid (∀ c, (Value.slice oa i ca).ownBlock = some c → c < G) := fun c hc => by rw [← hG]; exact own_lt ho1 c hc
        have HO3 := Lib.hid (ownsRow_keptF ho1 (fun c hc => hb3.block c (own_lt ho1 c hc)))
        have HKG : Hid (Blk v2 G 140 [.int .i64 0, .int .i64 0]) := (by rw [← hv2, ← hG]; exact Blk.new v1 _ [.int .i64 0, .int .i64 0] : Blk v2 G 140 [.int .i64 0, .int .i64 0])
        have HKG3 : Hid (Blk v3 G 140 [.int .i64 x, .int .i64 0]) := (by rw [← hv3]; exact (HKG.out.set 0 (.int .i64 x)).set 1 (.int .i64 0) : Blk v3 G 140 [.int .i64 x, .int .i64 0])
        have HV3 := Lib.hid hv3
        have g0 : v2.cell? ⟨G, 0, none⟩ = some (.int .i64 0) := HKG.out.cell 0
        have g1 : v2.cell? ⟨G, 1, none⟩ = some (.int .i64 0) := HKG.out.cell 1
        have gf0 := HKG.out.frozen 0
        have gf1 := HKG.out.frozen 1
        have HC2 := Lib.hid (rkNumber s b b1 f1 v3 HS.out HR3.out.i)
        rw [HY.out] at HC2
        clear hk hf hb3 hr1 ho1 hv3 HR HO HZ HC1 c2 HY
        go_upto_region 12 with (fail)
        rw [HV3.out]
        clear hv2 hG HKG HV3 g0 g1 gf0 gf1
        go_wp2_with fail
        refine HC2.out.mono ?_
        rintro en v4 ⟨rfl, hk, hf⟩
        have hr4 := HR3.out.num hk hf
        have hkg4 := HKG3.out.kept (hf.block G HKG3.out.lt (by omega))
        have ho4 := ownsRow_keptF HO3.out (fun c hc => hf.block c (own_lt HO3.out c hc) (by have := own_ge HO3.out c hc; omega))
        have g1 : v4.cell? ⟨G, 1, none⟩ = some (.int .i64 0) := hkg4.cell 1
        have gf := hkg4.frozen 1
        obtain ⟨v5, hv5⟩ : ∃ v5, v4.setCell ⟨G, 1, none⟩ (.int .i64 y) = v5 := ⟨_, rfl⟩
        have hkg5 : Blk v5 G 140 [.int .i64 x, .int .i64 y] := by rw [← hv5]; exact hkg4.set 1 (.int .i64 y)
        have hr5 : RkS W v5 b N M s (b2, f2) 24 [.int .i64 0, .int .i64 0, .int .i64 0, .int .i64 0, .int .i64 0, .int .i64 0, .slice none 0 0] [.int .i64 n0, .int .i64 n1, .int .i64 n2, .int .i64 n3, .int .i64 n4, .int .i64 n5, .slice oa i ca] := by rw [← hv5]; exact hr4.turn ((Fr.refl (fun c => c = G) v4).setCell ⟨G, 1, none⟩ _ (.inl rfl)) (fun c hc => by have := HWB.out; omega)
        have ho5 : v5.ownsRow B 140 2 (.slice oa i ca) i (aCells (pairsL ws)) := ownsRow_keptF ho4 (fun c hc => by rw [← hv5]; exact Below.heap_setCell _ _ _ _ (by have := HOG.out c hc; show c ≠ G; omega))
        have hz5 : B ≤ v5.heap.size := by have := hkg5.lt; omega
        have d0 : v5.cell? ⟨G, 0, none⟩ = some (.int .i64 x) := hkg5.cell 0
        have d1 : v5.cell? ⟨G, 1, none⟩ = some (.int .i64 y) := hkg5.cell 1
        have d6 : v5.cell? ⟨M, 6, none⟩ = some (.slice oa i ca) := hr5.km.cell 6
        obtain ⟨oa2, ca2, v6, hrun, ho6, hf6, hk6⟩ := app_alt v5 B (.slice oa i ca) i (aCells (pairsL ws)) x y ho5 (by omega) hz5 22
        have hr6 := hr5.turn hf6 (fun c hc => by have := own_ge ho5 c hc; have := HWB.out; omega)
        have c6 : v6.cell? ⟨M, 6, none⟩ = some (.slice oa i ca) := hr6.km.cell 6
        have f6 := hr6.km.frozen 6
        have HR7 := Lib.hid (hr6.put 6 (.slice oa2 (i + 1) ca2))
        have HO7 : Hid ((v6.setCell ⟨M, 6, none⟩ (.slice oa2 (i + 1) ca2)).ownsRow B 140 2 (.slice oa2 (i + 1) ca2) (i + 1) (aCells (pairsL (ws ++ [x] ++ [y])))) := by
          rw [HPS.out, aCells_snoc]
          exact ownsRow_keptF ho6 (fun c hc => Below.heap_setCell _ _ _ _ (by have := own_ge ho6 c hc; show c ≠ M; omega))
        have HQ7 : Hid (B ≤ (v6.setCell ⟨M, 6, none⟩ (.slice oa2 (i + 1) ca2)).heap.size) := (by have := hf6.size; simp [World.setCell]; omega : B ≤ (v6.setCell ⟨M, 6, none⟩ (.slice oa2 (i + 1) ca2)).heap.size)
        clear hk hf hr4 hkg4 ho4 hkg5 hr5 ho5 hz5 ho6 hf6 hk6 hr6 HR3 HO3 HKG3 HOG HC2
        go_wp2_with (at_builtin; refine wpList_append_run _ rfl _ _ 22 rfl _ _ _ _ rfl rfl hrun ?_)
        go_roundw
        case rel => exact ⟨i + 1, ca2, oa2, _, _, _, by omega, by go_num, HL2, HR7, HO7, HQ7⟩
        case measure => simp [intOf]; omega
      · have q0 : (eq == 0) = false := beq_eq_false_iff_ne.2 he
        have HE : Hid (eq = 0 → (i : Int) = (kn : Int)) := fun h0 => absurd h0 he
        clear h he
        have HKM := Lib.hid HR.out.km
        have HKN := Lib.hid HR.out.kn
        have m0 : wr.cell? ⟨M, 0, none⟩ = some (.int .i64 n0) := HKM.out.cell 0
        have k0 : wr.cell? ⟨N, 0, none⟩ = some (.int .i64 0) := HKN.out.cell 0
        have kf0 := HKN.out.frozen 0
        have m1 : wr.cell? ⟨M, 1, none⟩ = some (.int .i64 n1) := HKM.out.cell 1
        have k1 : wr.cell? ⟨N, 1, none⟩ = some (.int .i64 0) := HKN.out.cell 1
        have kf1 := HKN.out.frozen 1
        have m2 : wr.cell? ⟨M, 2, none⟩ = some (.int .i64 n2) := HKM.out.cell 2
        have k2 : wr.cell? ⟨N, 2, none⟩ = some (.int .i64 0) := HKN.out.cell 2
        have kf2 := HKN.out.frozen 2
        have m3 : wr.cell? ⟨M, 3, none⟩ = some (.int .i64 n3) := HKM.out.cell 3
        have k3 : wr.cell? ⟨N, 3, none⟩ = some (.int .i64 0) := HKN.out.cell 3
        have kf3 := HKN.out.frozen 3
        have m4 : wr.cell? ⟨M, 4, none⟩ = some (.int .i64 n4) := HKM.out.cell 4
        have k4 : wr.cell? ⟨N, 4, none⟩ = some (.int .i64 0) := HKN.out.cell 4
        have kf4 := HKN.out.frozen 4
        have m5 : wr.cell? ⟨M, 5, none⟩ = some (.int .i64 n5) := HKM.out.cell 5
        have k5 : wr.cell? ⟨N, 5, none⟩ = some (.int .i64 0) := HKN.out.cell 5
        have kf5 := HKN.out.frozen 5
        have m6 : wr.cell? ⟨M, 6, none⟩ = some (.slice oa i ca) := HKM.out.cell 6
        have k6 : wr.cell? ⟨N, 6, none⟩ = some (.slice none 0 0) := HKN.out.cell 6
        have kf6 := HKN.out.frozen 6
        have HKV : Hid (Blk (World.setCell (World.setCell (World.setCell (World.setCell (World.setCell (World.setCell (World.setCell wr ⟨N, 0, none⟩ (.int .i64 n0)) ⟨N, 1, none⟩ (.int .i64 n1)) ⟨N, 2, none⟩ (.int .i64 n2)) ⟨N, 3, none⟩ (.int .i64 n3)) ⟨N, 4, none⟩ (.int .i64 n4)) ⟨N, 5, none⟩ (.int .i64 n5)) ⟨N, 6, none⟩ (.slice oa i ca)) N 24 [.int .i64 n0, .int .i64 n1, .int .i64 n2, .int .i64 n3, .int .i64 n4, .int .i64 n5, .slice oa i ca]) := Blk.set (Blk.set (Blk.set (Blk.set (Blk.set (Blk.set (Blk.set (HKN.out) 0 (.int .i64 n0)) 1 (.int .i64 n1)) 2 (.int .i64 n2)) 3 (.int .i64 n3)) 4 (.int .i64 n4)) 5 (.int .i64 n5)) 6 (.slice oa i ca)
        have HIV : Hid (InAt (World.setCell (World.setCell (World.setCell (World.setCell (World.setCell (World.setCell (World.setCell wr ⟨N, 0, none⟩ (.int .i64 n0)) ⟨N, 1, none⟩ (.int .i64 n1)) ⟨N, 2, none⟩ (.int .i64 n2)) ⟨N, 3, none⟩ (.int .i64 n3)) ⟨N, 4, none⟩ (.int .i64 n4)) ⟨N, 5, none⟩ (.int .i64 n5)) ⟨N, 6, none⟩ (.slice oa i ca)) b s (aq, eq)) := Blk.other (Blk.other (Blk.other (Blk.other (Blk.other (Blk.other (Blk.other (HR.out.i) ⟨N, 0, none⟩ HG.out.1.symm (.int .i64 n0)) ⟨N, 1, none⟩ HG.out.1.symm (.int .i64 n1)) ⟨N, 2, none⟩ HG.out.1.symm (.int .i64 n2)) ⟨N, 3, none⟩ HG.out.1.symm (.int .i64 n3)) ⟨N, 4, none⟩ HG.out.1.symm (.int .i64 n4)) ⟨N, 5, none⟩ HG.out.1.symm (.int .i64 n5)) ⟨N, 6, none⟩ HG.out.1.symm (.slice oa i ca)
        have HFV : Hid (Fr (fun c => c = b) W (World.setCell (World.setCell (World.setCell (World.setCell (World.setCell (World.setCell (World.setCell wr ⟨N, 0, none⟩ (.int .i64 n0)) ⟨N, 1, none⟩ (.int .i64 n1)) ⟨N, 2, none⟩ (.int .i64 n2)) ⟨N, 3, none⟩ (.int .i64 n3)) ⟨N, 4, none⟩ (.int .i64 n4)) ⟨N, 5, none⟩ (.int .i64 n5)) ⟨N, 6, none⟩ (.slice oa i ca))) := Fr.setCell (Fr.setCell (Fr.setCell (Fr.setCell (Fr.setCell (Fr.setCell (Fr.setCell (HR.out.fr) ⟨N, 0, none⟩ (.int .i64 n0) (.inr HG.out.2)) ⟨N, 1, none⟩ (.int .i64 n1) (.inr HG.out.2)) ⟨N, 2, none⟩ (.int .i64 n2) (.inr HG.out.2)) ⟨N, 3, none⟩ (.int .i64 n3) (.inr HG.out.2)) ⟨N, 4, none⟩ (.int .i64 n4) (.inr HG.out.2)) ⟨N, 5, none⟩ (.int .i64 n5) (.inr HG.out.2)) ⟨N, 6, none⟩ (.slice oa i ca) (.inr HG.out.2)
        have hfr : Fr (fun c => c = N) wr (World.setCell (World.setCell (World.setCell (World.setCell (World.setCell (World.setCell (World.setCell wr ⟨N, 0, none⟩ (.int .i64 n0)) ⟨N, 1, none⟩ (.int .i64 n1)) ⟨N, 2, none⟩ (.int .i64 n2)) ⟨N, 3, none⟩ (.int .i64 n3)) ⟨N, 4, none⟩ (.int .i64 n4)) ⟨N, 5, none⟩ (.int .i64 n5)) ⟨N, 6, none⟩ (.slice oa i ca)) := Fr.setCell (Fr.setCell (Fr.setCell (Fr.setCell (Fr.setCell (Fr.setCell (Fr.setCell (Fr.refl (fun c => c = N) wr) ⟨N, 0, none⟩ (.int .i64 n0) (.inl rfl)) ⟨N, 1, none⟩ (.int .i64 n1) (.inl rfl)) ⟨N, 2, none⟩ (.int .i64 n2) (.inl rfl)) ⟨N, 3, none⟩ (.int .i64 n3) (.inl rfl)) ⟨N, 4, none⟩ (.int .i64 n4) (.inl rfl)) ⟨N, 5, none⟩ (.int .i64 n5) (.inl rfl)) ⟨N, 6, none⟩ (.slice oa i ca) (.inl rfl)
        have hwl : ws.length = 2 * i := by have := rkL_len s.data.toList (2 * i) (a7, e7); rw [HL.out] at this; exact this
        have ho8 : ((World.setCell (World.setCell (World.setCell (World.setCell (World.setCell (World.setCell (World.setCell wr ⟨N, 0, none⟩ (.int .i64 n0)) ⟨N, 1, none⟩ (.int .i64 n1)) ⟨N, 2, none⟩ (.int .i64 n2)) ⟨N, 3, none⟩ (.int .i64 n3)) ⟨N, 4, none⟩ (.int .i64 n4)) ⟨N, 5, none⟩ (.int .i64 n5)) ⟨N, 6, none⟩ (.slice oa i ca))).ownsRow B 140 2 (.slice oa i ca) (pairsL ws).length (aCells (pairsL ws)) := by
          rw [pairsL_len i ws hwl]
          exact ownsRow_keptF HO.out (fun c hc => hfr.block c (own_lt HO.out c hc) (by have := own_ge HO.out c hc; omega))
        obtain ⟨-, hrd, hge⟩ := own_rda ho8
        have HRD := Lib.hid hrd
        have HGE : Hid (∀ x, oa = some x → W.heap.size ≤ x.block) := fun x e => by have := hge x e; have := HWB.out; omega
        clear hwl ho8 hrd hge hfr
        go_wp2_with fail
        refine bodyPost_ret (results_cell_row Tryz.results80 _ _ N 24 #[.int .i64 n0, .int .i64 n1, .int .i64 n2, .int .i64 n3, .int .i64 n4, .int .i64 n5, .slice oa i ca] (0, 0) _ rfl HKV.out Tryz.underlying24 rfl HSZ.out) rfl ?_
        exact ⟨[n0, n1, n2, n3, n4, n5], (a6, e6), i, ws, (aq, eq), oa, ca, HV.out, by rw [HC.out]; exact HL.out, by rw [HC.out]; exact HE.out, by rw [HC.out]; show (i : Int) ≤ (kn : Int); omega, by omega, rfl, HRD.out, HGE.out, HIV.out, HFV.out⟩
    · have q1 : ¬ (i : Int) < (kn : Int) := by omega
      have HE : Hid (eq = 0 → (i : Int) = (kn : Int)) := fun _ => by omega
      clear h
      have HKM := Lib.hid HR.out.km
      have HKN := Lib.hid HR.out.kn
      have m0 : wr.cell? ⟨M, 0, none⟩ = some (.int .i64 n0) := HKM.out.cell 0
      have k0 : wr.cell? ⟨N, 0, none⟩ = some (.int .i64 0) := HKN.out.cell 0
      have kf0 := HKN.out.frozen 0
      have m1 : wr.cell? ⟨M, 1, none⟩ = some (.int .i64 n1) := HKM.out.cell 1
      have k1 : wr.cell? ⟨N, 1, none⟩ = some (.int .i64 0) := HKN.out.cell 1
      have kf1 := HKN.out.frozen 1
      have m2 : wr.cell? ⟨M, 2, none⟩ = some (.int .i64 n2) := HKM.out.cell 2
      have k2 : wr.cell? ⟨N, 2, none⟩ = some (.int .i64 0) := HKN.out.cell 2
      have kf2 := HKN.out.frozen 2
      have m3 : wr.cell? ⟨M, 3, none⟩ = some (.int .i64 n3) := HKM.out.cell 3
      have k3 : wr.cell? ⟨N, 3, none⟩ = some (.int .i64 0) := HKN.out.cell 3
      have kf3 := HKN.out.frozen 3
      have m4 : wr.cell? ⟨M, 4, none⟩ = some (.int .i64 n4) := HKM.out.cell 4
      have k4 : wr.cell? ⟨N, 4, none⟩ = some (.int .i64 0) := HKN.out.cell 4
      have kf4 := HKN.out.frozen 4
      have m5 : wr.cell? ⟨M, 5, none⟩ = some (.int .i64 n5) := HKM.out.cell 5
      have k5 : wr.cell? ⟨N, 5, none⟩ = some (.int .i64 0) := HKN.out.cell 5
      have kf5 := HKN.out.frozen 5
      have m6 : wr.cell? ⟨M, 6, none⟩ = some (.slice oa i ca) := HKM.out.cell 6
      have k6 : wr.cell? ⟨N, 6, none⟩ = some (.slice none 0 0) := HKN.out.cell 6
      have kf6 := HKN.out.frozen 6
      have HKV : Hid (Blk (World.setCell (World.setCell (World.setCell (World.setCell (World.setCell (World.setCell (World.setCell wr ⟨N, 0, none⟩ (.int .i64 n0)) ⟨N, 1, none⟩ (.int .i64 n1)) ⟨N, 2, none⟩ (.int .i64 n2)) ⟨N, 3, none⟩ (.int .i64 n3)) ⟨N, 4, none⟩ (.int .i64 n4)) ⟨N, 5, none⟩ (.int .i64 n5)) ⟨N, 6, none⟩ (.slice oa i ca)) N 24 [.int .i64 n0, .int .i64 n1, .int .i64 n2, .int .i64 n3, .int .i64 n4, .int .i64 n5, .slice oa i ca]) := Blk.set (Blk.set (Blk.set (Blk.set (Blk.set (Blk.set (Blk.set (HKN.out) 0 (.int .i64 n0)) 1 (.int .i64 n1)) 2 (.int .i64 n2)) 3 (.int .i64 n3)) 4 (.int .i64 n4)) 5 (.int .i64 n5)) 6 (.slice oa i ca)
      have HIV : Hid (InAt (World.setCell (World.setCell (World.setCell (World.setCell (World.setCell (World.setCell (World.setCell wr ⟨N, 0, none⟩ (.int .i64 n0)) ⟨N, 1, none⟩ (.int .i64 n1)) ⟨N, 2, none⟩ (.int .i64 n2)) ⟨N, 3, none⟩ (.int .i64 n3)) ⟨N, 4, none⟩ (.int .i64 n4)) ⟨N, 5, none⟩ (.int .i64 n5)) ⟨N, 6, none⟩ (.slice oa i ca)) b s (aq, eq)) := Blk.other (Blk.other (Blk.other (Blk.other (Blk.other (Blk.other (Blk.other (HR.out.i) ⟨N, 0, none⟩ HG.out.1.symm (.int .i64 n0)) ⟨N, 1, none⟩ HG.out.1.symm (.int .i64 n1)) ⟨N, 2, none⟩ HG.out.1.symm (.int .i64 n2)) ⟨N, 3, none⟩ HG.out.1.symm (.int .i64 n3)) ⟨N, 4, none⟩ HG.out.1.symm (.int .i64 n4)) ⟨N, 5, none⟩ HG.out.1.symm (.int .i64 n5)) ⟨N, 6, none⟩ HG.out.1.symm (.slice oa i ca)
      have HFV : Hid (Fr (fun c => c = b) W (World.setCell (World.setCell (World.setCell (World.setCell (World.setCell (World.setCell (World.setCell wr ⟨N, 0, none⟩ (.int .i64 n0)) ⟨N, 1, none⟩ (.int .i64 n1)) ⟨N, 2, none⟩ (.int .i64 n2)) ⟨N, 3, none⟩ (.int .i64 n3)) ⟨N, 4, none⟩ (.int .i64 n4)) ⟨N, 5, none⟩ (.int .i64 n5)) ⟨N, 6, none⟩ (.slice oa i ca))) := Fr.setCell (Fr.setCell (Fr.setCell (Fr.setCell (Fr.setCell (Fr.setCell (Fr.setCell (HR.out.fr) ⟨N, 0, none⟩ (.int .i64 n0) (.inr HG.out.2)) ⟨N, 1, none⟩ (.int .i64 n1) (.inr HG.out.2)) ⟨N, 2, none⟩ (.int .i64 n2) (.inr HG.out.2)) ⟨N, 3, none⟩ (.int .i64 n3) (.inr HG.out.2)) ⟨N, 4, none⟩ (.int .i64 n4) (.inr HG.out.2)) ⟨N, 5, none⟩ (.int .i64 n5) (.inr HG.out.2)) ⟨N, 6, none⟩ (.slice oa i ca) (.inr HG.out.2)
      have hfr : Fr (fun c => c = N) wr (World.setCell (World.setCell (World.setCell (World.setCell (World.setCell (World.setCell (World.setCell wr ⟨N, 0, none⟩ (.int .i64 n0)) ⟨N, 1, none⟩ (.int .i64 n1)) ⟨N, 2, none⟩ (.int .i64 n2)) ⟨N, 3, none⟩ (.int .i64 n3)) ⟨N, 4, none⟩ (.int .i64 n4)) ⟨N, 5, none⟩ (.int .i64 n5)) ⟨N, 6, none⟩ (.slice oa i ca)) := Fr.setCell (Fr.setCell (Fr.setCell (Fr.setCell (Fr.setCell (Fr.setCell (Fr.setCell (Fr.refl (fun c => c = N) wr) ⟨N, 0, none⟩ (.int .i64 n0) (.inl rfl)) ⟨N, 1, none⟩ (.int .i64 n1) (.inl rfl)) ⟨N, 2, none⟩ (.int .i64 n2) (.inl rfl)) ⟨N, 3, none⟩ (.int .i64 n3) (.inl rfl)) ⟨N, 4, none⟩ (.int .i64 n4) (.inl rfl)) ⟨N, 5, none⟩ (.int .i64 n5) (.inl rfl)) ⟨N, 6, none⟩ (.slice oa i ca) (.inl rfl)
      have hwl : ws.length = 2 * i := by have := rkL_len s.data.toList (2 * i) (a7, e7); rw [HL.out] at this; exact this
      have ho8 : ((World.setCell (World.setCell (World.setCell (World.setCell (World.setCell (World.setCell (World.setCell wr ⟨N, 0, none⟩ (.int .i64 n0)) ⟨N, 1, none⟩ (.int .i64 n1)) ⟨N, 2, none⟩ (.int .i64 n2)) ⟨N, 3, none⟩ (.int .i64 n3)) ⟨N, 4, none⟩ (.int .i64 n4)) ⟨N, 5, none⟩ (.int .i64 n5)) ⟨N, 6, none⟩ (.slice oa i ca))).ownsRow B 140 2 (.slice oa i ca) (pairsL ws).length (aCells (pairsL ws)) := by
        rw [pairsL_len i ws hwl]
        exact ownsRow_keptF HO.out (fun c hc => hfr.block c (own_lt HO.out c hc) (by have := own_ge HO.out c hc; omega))
      obtain ⟨-, hrd, hge⟩ := own_rda ho8
      have HRD := Lib.hid hrd
      have HGE : Hid (∀ x, oa = some x → W.heap.size ≤ x.block) := fun x e => by have := hge x e; have := HWB.out; omega
      clear hwl ho8 hrd hge hfr
      go_wp2_with fail
      refine bodyPost_ret (results_cell_row Tryz.results80 _ _ N 24 #[.int .i64 n0, .int .i64 n1, .int .i64 n2, .int .i64 n3, .int .i64 n4, .int .i64 n5, .slice oa i ca] (0, 0) _ rfl HKV.out Tryz.underlying24 rfl HSZ.out) rfl ?_
      exact ⟨[n0, n1, n2, n3, n4, n5], (a6, e6), i, ws, (aq, eq), oa, ca, HV.out, by rw [HC.out]; exact HL.out, by rw [HC.out]; exact HE.out, by rw [HC.out]; show (i : Int) ≤ (kn : Int); omega, by omega, rfl, HRD.out, HGE.out, HIV.out, HFV.out⟩
end Go.Proofs.YtjkiidhnmljmbaaGreatDoor
