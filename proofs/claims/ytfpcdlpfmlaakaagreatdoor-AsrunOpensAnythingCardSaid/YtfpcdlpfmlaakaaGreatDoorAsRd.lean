/-
  A log and its disk in memory, as one thing, and what the calls of package asrun do to it.
-/
import Derived.WalkKit
import Derived.LoopTactic
import Derived.WalkSpells
import Derived.WalkLawsBesides
import Derived.RegionTactic
import Derived.BigRegion
import Derived.IntWalk
import Derived.Outline
import Derived.Deep.QuietTactic
import Derived.BigQuiet
import Derived.WalkMore
import Derived.Lib.Hide
import Derived.Test.YtfpcdlpfmlaakaaGreatDoorAsI
import Derived.Test.YtfpcdlpfmlaakaaGreatDoorAsO
import Derived.Test.YtfpcdlpfmlaakaaGreatDoorAsQ
import Derived.Test.YtfpcdlpfmlaakaaGreatDoorDkB
set_option linter.unusedVariables false
set_option linter.unusedSimpArgs false
namespace Go.Proofs.YtfpcdlpfmlaakaaGreatDoor
open Go.RowKit Onair
attribute [local go_sem] Oper.semAt_some
theorem open_nil (W : World) : Calls Tryz.prog 32 #[.pointer none] W fun e w' => e = .returned (.tuple #[.pointer none, .int .i64 1]) ∧ Below W.heap.size W w' := by
  obtain ⟨N, hN⟩ : ∃ N, W.heap.size = N := ⟨_, rfl⟩
  have hbx : Blk (W.alloc (.cells #[.pointer none] 24)) N 24 [.pointer none] := by rw [← hN]; exact Blk.new W _ _
  obtain ⟨w1, hw1⟩ : ∃ w1, W.alloc (.cells #[.pointer none] 24) = w1 := ⟨_, rfl⟩
  have hb : Below W.heap.size W w1 := by rw [← hw1]; exact (Below.refl _ W).alloc (Nat.le_refl _) _
  rw [hw1] at hbx
  have c0 := hbx.cell 0
  simp only [List.getElem?_cons_zero] at c0
  have HN := Lib.hid hN
  have HW1 := Lib.hid hw1
  have HB := Lib.hid hb
  clear hb hbx hw1 hN
  refine callsIn_wide.1 (callsIn_of_wp_marks (n := 5) Tryz.func32 rfl trivial ?_ rfl)
  refine wpIn_wide.2 ?_
  simp only [Tryz.ntmps32, List.size_toArray, List.length_cons, List.length_nil, Nat.reduceAdd, Nat.reduceSub, Array.replicate_succ, Array.replicate_zero, List.push_toArray, List.append_toArray, List.nil_append, List.cons_append]
  go_upto_region 1 with (fail)
  go_step3
  go_upto_region 1 with (fail)
  rw [HW1.out, HN.out]
  go_wp2_with fail
  exact postM_ret (v := .tuple #[.pointer none, .int .i64 1]) (by simp [results, Tryz.results32, go_sem]) ⟨rfl, HB.out⟩
theorem append_nil (W : World) (oa : Option Addr) (n c : Nat) : Calls Tryz.prog 10 #[.pointer none, .slice oa n c] W fun e w' => e = .returned (.int .i64 1) ∧ Below W.heap.size W w' := by
  have hb : Below W.heap.size W (W.alloc (.cells #[.pointer none] 33)) := (Below.refl _ W).alloc (Nat.le_refl _) _
  have HB := Lib.hid hb
  clear hb
  have HA : Hid (∀ W, Calls Tryz.prog 36 #[.pointer none] W fun e w' => e = .returned (.bool true) ∧ W = w') := fun W => absent_nil W
  go_enter Tryz.func10, Tryz.ntmps10
  go_wp2_with fail
  refine (HA.out _).mono ?_
  rintro e w' ⟨rfl, rfl⟩
  go_wp2_with fail
  go_ret
  exact ⟨rfl, HB.out⟩
theorem LgAt.base {W : World} {B B' bl b : Nat} {vr ve : Value} {R : List Rec} {br : Bool} (h : LgAt W B bl b vr ve R br) (hB : B' ≤ B) : LgAt W B' bl b vr ve R br :=
  ⟨h.blk, own_base h.recs hB, own_base h.ents hB, h.ok, Nat.le_trans hB h.hb, h.nr, h.ne⟩
theorem DkAt.base {W : World} {B B' b bd bv : Nat} {vp : Value} {D : DS} (h : DkAt W B b bd bv vp D) (hB : B' ≤ B) : DkAt W B' b bd bv vp D :=
  ⟨h.blk, h.dur, h.vis, own_base h.own hB, h.len, h.pos, h.max, Nat.le_trans hB h.hb, Nat.le_trans hB h.hbd, Nat.le_trans hB h.hbv, h.ne1, h.ne2, h.ne3, h.np⟩
/-- A disk in memory, whose blocks are F. -/
def DX (W : World) (N b : Nat) (F : Nat → Prop) (D : DS) : Prop := N ≤ W.heap.size ∧ ∃ bd bv vp, DkAt W N b bd bv vp D ∧ ∀ k, F k ↔ Foot b bd bv vp k
theorem DX.fr {W W' : World} {N b : Nat} {F : Nat → Prop} {D : DS} {S : Nat → Prop} (h : DX W N b F D) (hf : Fr S W W') (hs : ∀ k, F k → ¬ S k) : DX W' N b F D := by
  obtain ⟨h0, bd, bv, vp, h1, h2⟩ := h
  exact ⟨Nat.le_trans h0 hf.size, bd, bv, vp, h1.fr hf (fun k hk => hs k ((h2 k).2 hk)), h2⟩
theorem DX.below {W W' : World} {N b : Nat} {F : Nat → Prop} {D : DS} (h : DX W N b F D) (hb : Below W.heap.size W W') : DX W' N b F D := h.fr (Fr.under (fun _ => False) hb) (fun _ _ h => h)
theorem DX.lt {W : World} {N b : Nat} {F : Nat → Prop} {D : DS} (h : DX W N b F D) (k : Nat) (hk : F k) : k < W.heap.size := by
  obtain ⟨h0, bd, bv, vp, h1, h2⟩ := h
  exact h1.lt k ((h2 k).1 hk)
theorem DX.ge {W : World} {N b : Nat} {F : Nat → Prop} {D : DS} (h : DX W N b F D) (k : Nat) (hk : F k) : N ≤ k := by
  obtain ⟨h0, bd, bv, vp, h1, h2⟩ := h
  exact h1.ge k ((h2 k).1 hk)
/-- A log and its disk in memory; F: the blocks that the disk uses, G: the blocks that the log uses. -/
structure LX (W : World) (N b bl : Nat) (F G : Nat → Prop) (s : LS) : Prop where
  ex : ∃ bd bv vp vr ve, DkAt W N b bd bv vp s.D ∧ LgAt W N bl b vr ve s.R s.br ∧ (∀ k, F k ↔ Foot b bd bv vp k) ∧ ∀ k, G k ↔ LFoot bl vr ve k
  sep : ∀ k, G k → ¬ F k
  le : N ≤ W.heap.size
theorem LX.fr {W W' : World} {N b bl : Nat} {F G : Nat → Prop} {s : LS} {S : Nat → Prop} (h : LX W N b bl F G s) (hf : Fr S W W') (hs : ∀ k, F k → ¬ S k) (hs2 : ∀ k, G k → ¬ S k) : LX W' N b bl F G s := by
  obtain ⟨bd, bv, vp, vr, ve, h1, h2, h3, h4⟩ := h.ex
  exact ⟨⟨bd, bv, vp, vr, ve, h1.fr hf (fun k hk => hs k ((h3 k).2 hk)), h2.fr hf (fun k hk => hs2 k ((h4 k).2 hk)), h3, h4⟩, h.sep, Nat.le_trans h.le hf.size⟩
theorem LX.below {W W' : World} {N b bl : Nat} {F G : Nat → Prop} {s : LS} (h : LX W N b bl F G s) (hb : Below W.heap.size W W') : LX W' N b bl F G s := h.fr (Fr.under (fun _ => False) hb) (fun _ _ h => h) (fun _ _ h => h)
theorem LX.ltF {W : World} {N b bl : Nat} {F G : Nat → Prop} {s : LS} (h : LX W N b bl F G s) (k : Nat) (hk : F k) : k < W.heap.size := by
  obtain ⟨bd, bv, vp, vr, ve, h1, h2, h3, h4⟩ := h.ex
  exact h1.lt k ((h3 k).1 hk)
theorem LX.ltG {W : World} {N b bl : Nat} {F G : Nat → Prop} {s : LS} (h : LX W N b bl F G s) (k : Nat) (hk : G k) : k < W.heap.size := by
  obtain ⟨bd, bv, vp, vr, ve, h1, h2, h3, h4⟩ := h.ex
  exact h2.lt k ((h4 k).1 hk)
theorem LX.geF {W : World} {N b bl : Nat} {F G : Nat → Prop} {s : LS} (h : LX W N b bl F G s) (k : Nat) (hk : F k) : N ≤ k := by
  obtain ⟨bd, bv, vp, vr, ve, h1, h2, h3, h4⟩ := h.ex
  exact h1.ge k ((h3 k).1 hk)
theorem LX.geG {W : World} {N b bl : Nat} {F G : Nat → Prop} {s : LS} (h : LX W N b bl F G s) (k : Nat) (hk : G k) : N ≤ k := by
  obtain ⟨bd, bv, vp, vr, ve, h1, h2, h3, h4⟩ := h.ex
  exact h2.ge k ((h4 k).1 hk)
theorem LX.disk {W : World} {N b bl : Nat} {F G : Nat → Prop} {s : LS} (h : LX W N b bl F G s) : DX W N b F s.D := by
  obtain ⟨bd, bv, vp, vr, ve, h1, h2, h3, h4⟩ := h.ex
  exact ⟨h.le, bd, bv, vp, h1, h3⟩
theorem new_x (n : Nat) (W : World) (N : Nat) (hN : N ≤ W.heap.size) (h1 : 1 ≤ n) (h2 : n ≤ 4194304) :
    Calls Tryz.prog 6 #[.int .i64 n] W fun e w' => ∃ b F, e = .returned (.tuple #[.pointer (some ⟨b, 0, none⟩), .int .i64 0]) ∧ DX w' N b F (newD n) ∧ Below W.heap.size W w' ∧ ∀ k, F k → W.heap.size ≤ k := by
  refine (new_ok n W N hN h1 h2).mono ?_
  rintro e w' ⟨b, bd, bv, rfl, h1, h2, h3, h4, h5⟩
  refine ⟨b, Foot b bd bv (.slice none 0 0), rfl, ⟨Nat.le_trans hN h2.size, bd, bv, _, h1, fun k => Iff.rfl⟩, h2, ?_⟩
  rintro k (rfl | rfl | rfl | h)
  · exact h3
  · exact h4
  · exact h5
  · simp [Value.ownBlock] at h
/-- Open, of a disk that holds a clean log. -/
theorem open_x (W : World) (N b : Nat) (F : Nat → Prop) (D : DS) (ht : TabAt W) (hpl : D.pend.length ≤ 900000) (hcut : D.cut ≤ 9223372036854775807) (h : DX W N b F D) (he : openE D = 0) :
    Calls Tryz.prog 32 #[.pointer (some ⟨b, 0, none⟩)] W fun e w' => ∃ bl F' G, e = .returned (.tuple #[.pointer (some ⟨bl, 0, none⟩), .int .i64 0]) ∧ LX w' N b bl F' G ⟨openD D, openR D, false⟩ ∧ Fr F W w' ∧ (∀ k, G k → W.heap.size ≤ k) ∧ ∀ k, F' k → F k ∨ W.heap.size ≤ k := by
  obtain ⟨h0, bd, bv, vp, h1, h2⟩ := h
  refine (open_any W N b bd bv vp D h0 ht hpl hcut h1).mono ?_
  rintro e w' ⟨vp', q1, q2, q3, q4⟩
  rcases q4 with ⟨_, bl, vr, ve, rfl, q5, q6⟩ | ⟨q4, _⟩
  · refine ⟨bl, Foot b bd bv vp', LFoot bl vr ve, rfl, ⟨⟨bd, bv, vp', vr, ve, q1, q5.base h0, fun k => Iff.rfl, fun k => Iff.rfl⟩, q6, Nat.le_trans h0 q3.size⟩, q3.mono (fun k hk => (h2 k).2 hk), fun k hk => q5.ge k hk, ?_⟩
    rintro k (rfl | rfl | rfl | h)
    · exact .inl ((h2 _).2 (.inl rfl))
    · exact .inl ((h2 _).2 (.inr (.inl rfl)))
    · exact .inl ((h2 _).2 (.inr (.inr (.inl rfl))))
    · exact (q2 k h).imp_left (fun h => (h2 _).2 (.inr (.inr (.inr h))))
  · exact absurd he q4
theorem append_x (l : List Rec) (oa : Option Addr) (n c : Nat) (W : World) (N b bl : Nat) (F G : Nat → Prop) (D : DS) (R : List Rec) (br : Bool) (hn : l.length = n) (hn1 : n ≤ 1000) (hnc : n ≤ c) (hcm : c ≤ 9223372036854775807) (hI : ∀ r ∈ l, RecI r) (hR : R.length ≤ 100000) (hr : RdR W oa l) (ht : TabAt W) (hg : 0 < N) (hlost : br = false → D.lost = false) (hpl : D.pend.length ≤ 1000000) (hcut : D.cut ≤ 9223372036854775807) (h : LX W N b bl F G ⟨D, R, br⟩) :
    Calls Tryz.prog 10 #[.pointer (some ⟨bl, 0, none⟩), .slice oa n c] W fun e w' => e = .returned (.int .i64 (appC ⟨D, R, br⟩ l).1) ∧ ∃ F' G', LX w' N b bl F' G' (appC ⟨D, R, br⟩ l).2 ∧ Fr (fun k => F k ∨ G k) W w' ∧ (∀ k, F' k → F k ∨ W.heap.size ≤ k) ∧ ∀ k, G' k → G k ∨ W.heap.size ≤ k := by
  obtain ⟨bd, bv, vp, vr, ve, h1, h2, h3, h4⟩ := h.ex
  refine (append_any l oa n c W N N b bd bv bl vp vr ve D R br hn hn1 hnc hcm hI hR hr h1 h2 (fun k hk hf => h.sep k ((h4 k).2 hk) ((h3 k).2 hf)) h.le h.le ht hg hg hlost hpl hcut).mono ?_
  rintro e w' ⟨q1, vp', vr', ve', q2, q3, q4, q5, q6, q7⟩
  refine ⟨q1, Foot b bd bv vp', LFoot bl vr' ve', ⟨⟨bd, bv, vp', vr', ve', q2, q3, fun k => Iff.rfl, fun k => Iff.rfl⟩, q7, Nat.le_trans h.le q6.size⟩, q6.mono (fun k hk => hk.imp (h3 k).2 (h4 k).2), ?_, ?_⟩
  · rintro k (rfl | rfl | rfl | hk)
    · exact .inl ((h3 _).2 (.inl rfl))
    · exact .inl ((h3 _).2 (.inr (.inl rfl)))
    · exact .inl ((h3 _).2 (.inr (.inr (.inl rfl))))
    · exact (q4 k hk).imp_left (fun hk => (h3 _).2 (.inr (.inr (.inr hk))))
  · exact fun k hk => (q5 k hk).imp_left (h4 k).2
theorem records_x (W : World) (N b bl : Nat) (F G : Nat → Prop) (s : LS) (hn : s.R.length ≤ 900000) (h : LX W N b bl F G s) :
    Calls Tryz.prog 17 #[.pointer (some ⟨bl, 0, none⟩)] W (CloP W.heap.size W s.R) := by
  obtain ⟨bd, bv, vp, vr, ve, h1, h2, h3, h4⟩ := h.ex
  exact records_any W N b bl vr ve s.R s.br hn h2
theorem head_x (W : World) (N b bl : Nat) (F G : Nat → Prop) (s : LS) (h : LX W N b bl F G s) :
    Calls Tryz.prog 24 #[.pointer (some ⟨bl, 0, none⟩)] W fun e w' => e = .returned (.string (headR s.R)) ∧ W = w' := by
  obtain ⟨bd, bv, vp, vr, ve, h1, h2, h3, h4⟩ := h.ex
  exact head_any W N b bl vr ve s.R s.br h2
theorem root_x (W : World) (N b bl : Nat) (F G : Nat → Prop) (s : LS) (hn : s.R.length ≤ 900000) (ht : TabAt W) (h : LX W N b bl F G s) :
    Calls Tryz.prog 28 #[.pointer (some ⟨bl, 0, none⟩)] W fun e w' => e = .returned (.string (rootL (entR s.R))) ∧ Below W.heap.size W w' := by
  obtain ⟨bd, bv, vp, vr, ve, h1, h2, h3, h4⟩ := h.ex
  exact logRoot_any W N b bl vr ve s.R s.br hn ht h2
theorem room_x (W : World) (N b bl : Nat) (F G : Nat → Prop) (s : LS) (hE : endN s.R ≤ 4611686018427387903) (h : LX W N b bl F G s) :
    Calls Tryz.prog 18 #[.pointer (some ⟨bl, 0, none⟩)] W fun e w' => e = .returned (.int .i64 ((s.D.vis.length : Int) - (endN s.R : Nat))) ∧ Below W.heap.size W w' := by
  obtain ⟨bd, bv, vp, vr, ve, h1, h2, h3, h4⟩ := h.ex
  refine (room_any W N N b bd bv bl vp vr ve s.D s.R s.br hE h1 h2).mono ?_
  rintro e w' ⟨h, n, rfl⟩
  exact ⟨h, drewN_below (Below.refl _ _) n⟩
theorem prove_x (W : World) (N b bl : Nat) (F G : Nat → Prop) (s : LS) (i : Nat) (r : Rec) (x : ByteArray) (hn : s.R.length ≤ 900000) (ht : TabAt W) (h : LX W N b bl F G s) (hr : s.R[i]? = some r) (hx : (entR s.R)[i]? = some x) :
    Calls Tryz.prog 26 #[.pointer (some ⟨bl, 0, none⟩), .int .i64 (i : Int)] W (ProP W r i s.R.length (x.extract 0 32) (proofL (entR s.R) i)) := by
  obtain ⟨bd, bv, vp, vr, ve, h1, h2, h3, h4⟩ := h.ex
  exact prove_at W N b bl vr ve s.R s.br i r x hn ht h2 hr hx
end Go.Proofs.YtfpcdlpfmlaakaaGreatDoor
