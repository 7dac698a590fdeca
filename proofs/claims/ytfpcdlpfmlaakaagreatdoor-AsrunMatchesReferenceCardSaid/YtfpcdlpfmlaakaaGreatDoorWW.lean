/-
  A log with its disk, and the reference's, each as one thing that may be open or not.
  The laws' world: open.
-/
import Derived.WalkKit
import Derived.LoopTactic
import Derived.WalkSpells
import Derived.WalkLawsBesides
import Derived.RegionTactic
import Derived.BigRegion
import Derived.IntWalk
import Derived.Outline
import Derived.Deep.QuietTactic
import Derived.BigQuiet
import Derived.Lib.Hide
import Derived.Test.YtfpcdlpfmlaakaaGreatDoorAsTE
import Derived.Test.YtfpcdlpfmlaakaaGreatDoorAsTF
import Derived.Test.YtfpcdlpfmlaakaaGreatDoorReG
set_option linter.unusedVariables false
set_option linter.unusedSimpArgs false
namespace Go.Proofs.YtfpcdlpfmlaakaaGreatDoor
open Go.RowKit Onair
theorem grow2 {S S' : Nat → Prop} {n : Nat} (h : ∀ k, S' k → S k ∨ n ≤ k) {T : Nat → Prop} (hd : ∀ k, S k → ¬ T k) (hl : ∀ k, T k → k < n) : ∀ k, S' k → ¬ T k := fun k hk ht => by
  rcases h k hk with h1 | h1
  · exact hd k h1 ht
  · have := hl k ht
    omega
/-- What a call of the disk leaves. -/
def DXStep (W w' : World) (N b : Nat) (F : Nat → Prop) (D' : DS) : Prop := ∃ F', DX w' N b F' D' ∧ (∀ k, F' k → F k ∨ W.heap.size ≤ k) ∧ Fr F W w'
theorem LX.step {W w' : World} {N b bl : Nat} {F G : Nat → Prop} {D D' : DS} {R : List Rec} {br : Bool} (h : LX W N b bl F G ⟨D, R, br⟩) (hs : DXStep W w' N b F D') : ∃ F', LX w' N b bl F' G ⟨D', R, br⟩ ∧ ∀ k, F' k → F k ∨ W.heap.size ≤ k := by
  obtain ⟨F2, ⟨h0, bd, bv, vp, h1, h2⟩, h3, h4⟩ := hs
  obtain ⟨_, _, _, vr, ve, _, q2, _, q4⟩ := h.ex
  refine ⟨F2, ⟨⟨bd, bv, vp, vr, ve, h1, q2.fr h4 (fun k hk hf => h.sep k ((q4 k).2 hk) hf), h2, q4⟩, ?_, h0⟩, h3⟩
  intro k hk hf
  rcases h3 k hf with h5 | h5
  · exact h.sep k hk h5
  · have := h.ltG k hk
    omega
theorem RLX.step {W w' : World} {N b bl : Nat} {F G : Nat → Prop} {D D' : DS} {R : List Rec} {br : Bool} (h : RLX W N b bl F G ⟨D, R, br⟩) (hs : RDStep W w' N b F D') : ∃ F', RLX w' N b bl F' G ⟨D', R, br⟩ ∧ ∀ k, F' k → F k ∨ W.heap.size ≤ k := by
  obtain ⟨F2, h1, h3, h4⟩ := hs
  obtain ⟨vr, _, q2, q4⟩ := h.ex
  refine ⟨F2, ⟨⟨vr, h1, q2.fr h4 (fun k hk hf => h.sep k ((q4 k).2 hk) hf), q4⟩, ?_⟩, h3⟩
  intro k hk hf
  rcases h3 k hf with h5 | h5
  · exact h.sep k hk h5
  · have := h.ltG k hk
    omega
/-- Our side: the disk D at b and, where one is open, its log; x: the log's pointer; S: the blocks. -/
def SA (W : World) (N b : Nat) (x : Value) (S : Nat → Prop) (D : DS) (o : Option (List Rec × Bool)) : Prop :=
  (o = none ∧ x = .pointer none ∧ DX W N b S D) ∨ ∃ R br bl F G, o = some (R, br) ∧ x = .pointer (some ⟨bl, 0, none⟩) ∧ LX W N b bl F G ⟨D, R, br⟩ ∧ ∀ k, S k ↔ F k ∨ G k
/-- The reference's side. -/
def SC (W : World) (N b : Nat) (x : Value) (S : Nat → Prop) (D : DS) (o : Option (List Rec × Bool)) : Prop :=
  (o = none ∧ x = .pointer none ∧ RDX W N b S D) ∨ ∃ R br bl F G, o = some (R, br) ∧ x = .pointer (some ⟨bl, 0, none⟩) ∧ RLX W N b bl F G ⟨D, R, br⟩ ∧ ∀ k, S k ↔ F k ∨ G k
theorem SA.fr {W W' : World} {N b : Nat} {x : Value} {S T : Nat → Prop} {D : DS} {o : Option (List Rec × Bool)} (h : SA W N b x S D o) (hf : Fr T W W') (hs : ∀ k, S k → ¬ T k) : SA W' N b x S D o := by
  rcases h with ⟨h1, h2, h3⟩ | ⟨R, br, bl, F, G, h1, h2, h3, h4⟩
  · exact .inl ⟨h1, h2, h3.fr hf hs⟩
  · exact .inr ⟨R, br, bl, F, G, h1, h2, h3.fr hf (fun k hk => hs k ((h4 k).2 (.inl hk))) (fun k hk => hs k ((h4 k).2 (.inr hk))), h4⟩
theorem SC.fr {W W' : World} {N b : Nat} {x : Value} {S T : Nat → Prop} {D : DS} {o : Option (List Rec × Bool)} (h : SC W N b x S D o) (hf : Fr T W W') (hs : ∀ k, S k → ¬ T k) : SC W' N b x S D o := by
  rcases h with ⟨h1, h2, h3⟩ | ⟨R, br, bl, F, G, h1, h2, h3, h4⟩
  · exact .inl ⟨h1, h2, h3.fr hf hs⟩
  · exact .inr ⟨R, br, bl, F, G, h1, h2, h3.fr hf (fun k hk => hs k ((h4 k).2 (.inl hk))) (fun k hk => hs k ((h4 k).2 (.inr hk))), h4⟩
theorem SA.lt {W : World} {N b : Nat} {x : Value} {S : Nat → Prop} {D : DS} {o : Option (List Rec × Bool)} (h : SA W N b x S D o) (k : Nat) (hk : S k) : N ≤ k ∧ k < W.heap.size := by
  rcases h with ⟨h1, h2, h3⟩ | ⟨R, br, bl, F, G, h1, h2, h3, h4⟩
  · exact ⟨h3.ge k hk, h3.lt k hk⟩
  · rcases (h4 k).1 hk with h | h
    · exact ⟨h3.geF k h, h3.ltF k h⟩
    · exact ⟨h3.geG k h, h3.ltG k h⟩
theorem SC.lt {W : World} {N b : Nat} {x : Value} {S : Nat → Prop} {D : DS} {o : Option (List Rec × Bool)} (h : SC W N b x S D o) (k : Nat) (hk : S k) : N ≤ k ∧ k < W.heap.size := by
  rcases h with ⟨h1, h2, h3⟩ | ⟨R, br, bl, F, G, h1, h2, h3, h4⟩
  · exact ⟨h3.ge k hk, h3.lt k hk⟩
  · rcases (h4 k).1 hk with h | h
    · exact ⟨h3.disk.ge k h, h3.disk.lt k h⟩
    · exact ⟨h3.geG k h, h3.ltG k h⟩
theorem SA.ptr {W : World} {N b : Nat} {x : Value} {S : Nat → Prop} {D : DS} {R : List Rec} {br : Bool} (h : SA W N b x S D (some (R, br))) : ∃ bl F G, x = .pointer (some ⟨bl, 0, none⟩) ∧ LX W N b bl F G ⟨D, R, br⟩ ∧ ∀ k, S k ↔ F k ∨ G k := by
  rcases h with ⟨h1, h2, h3⟩ | ⟨R', br', bl, F, G, h1, h2, h3, h4⟩
  · cases h1
  · cases h1
    exact ⟨bl, F, G, h2, h3, h4⟩
theorem SC.ptr {W : World} {N b : Nat} {x : Value} {S : Nat → Prop} {D : DS} {R : List Rec} {br : Bool} (h : SC W N b x S D (some (R, br))) : ∃ bl F G, x = .pointer (some ⟨bl, 0, none⟩) ∧ RLX W N b bl F G ⟨D, R, br⟩ ∧ ∀ k, S k ↔ F k ∨ G k := by
  rcases h with ⟨h1, h2, h3⟩ | ⟨R', br', bl, F, G, h1, h2, h3, h4⟩
  · cases h1
  · cases h1
    exact ⟨bl, F, G, h2, h3, h4⟩
theorem SA.nil {W : World} {N b : Nat} {x : Value} {S : Nat → Prop} {D : DS} (h : SA W N b x S D none) : x = .pointer none ∧ DX W N b S D := by
  rcases h with ⟨h1, h2, h3⟩ | ⟨R', br', bl, F, G, h1, h2, h3, h4⟩
  · exact ⟨h2, h3⟩
  · cases h1
theorem SC.nil {W : World} {N b : Nat} {x : Value} {S : Nat → Prop} {D : DS} (h : SC W N b x S D none) : x = .pointer none ∧ RDX W N b S D := by
  rcases h with ⟨h1, h2, h3⟩ | ⟨R', br', bl, F, G, h1, h2, h3, h4⟩
  · exact ⟨h2, h3⟩
  · cases h1
theorem SA.step {W : World} {N b : Nat} {x : Value} {S : Nat → Prop} {D : DS} {o : Option (List Rec × Bool)} (h : SA W N b x S D o) :
    ∃ F, DX W N b F D ∧ (∀ k, F k → S k) ∧ ∀ w' D', DXStep W w' N b F D' → ∃ S', SA w' N b x S' D' o ∧ (∀ k, S' k → S k ∨ W.heap.size ≤ k) ∧ Fr S W w' := by
  rcases h with ⟨h1, h2, h3⟩ | ⟨R, br, bl, F, G, h1, h2, h3, h4⟩
  · exact ⟨S, h3, fun _ h => h, fun w' D' ⟨F', q1, q2, q3⟩ => ⟨F', .inl ⟨h1, h2, q1⟩, q2, q3⟩⟩
  · refine ⟨F, h3.disk, fun k hk => (h4 k).2 (.inl hk), fun w' D' hs => ?_⟩
    obtain ⟨F', q1, q2⟩ := h3.step hs
    obtain ⟨_, _, _, q3⟩ := hs
    exact ⟨fun k => F' k ∨ G k, .inr ⟨R, br, bl, F', G, h1, h2, q1, fun k => Iff.rfl⟩, fun k hk => hk.elim (fun h => (q2 k h).imp_left (fun h => (h4 k).2 (.inl h))) (fun h => .inl ((h4 k).2 (.inr h))), q3.mono (fun k hk => (h4 k).2 (.inl hk))⟩
theorem SC.step {W : World} {N b : Nat} {x : Value} {S : Nat → Prop} {D : DS} {o : Option (List Rec × Bool)} (h : SC W N b x S D o) :
    ∃ F, RDX W N b F D ∧ (∀ k, F k → S k) ∧ ∀ w' D', RDStep W w' N b F D' → ∃ S', SC w' N b x S' D' o ∧ (∀ k, S' k → S k ∨ W.heap.size ≤ k) ∧ Fr S W w' := by
  rcases h with ⟨h1, h2, h3⟩ | ⟨R, br, bl, F, G, h1, h2, h3, h4⟩
  · exact ⟨S, h3, fun _ h => h, fun w' D' ⟨F', q1, q2, q3⟩ => ⟨F', .inl ⟨h1, h2, q1⟩, q2, q3⟩⟩
  · refine ⟨F, h3.disk, fun k hk => (h4 k).2 (.inl hk), fun w' D' hs => ?_⟩
    obtain ⟨F', q1, q2⟩ := h3.step hs
    obtain ⟨_, _, _, q3⟩ := hs
    exact ⟨fun k => F' k ∨ G k, .inr ⟨R, br, bl, F', G, h1, h2, q1, fun k => Iff.rfl⟩, fun k hk => hk.elim (fun h => (q2 k h).imp_left (fun h => (h4 k).2 (.inl h))) (fun h => .inl ((h4 k).2 (.inr h))), q3.mono (fun k hk => (h4 k).2 (.inl hk))⟩
theorem DX.len' {W : World} {N b : Nat} {F : Nat → Prop} {D : DS} (h : DX W N b F D) : 1 ≤ D.vis.length ∧ D.vis.length ≤ 4194304 := by
  obtain ⟨h0, bd, bv, vp, h1, h2⟩ := h
  exact ⟨h1.pos, h1.max⟩
def SideP (Z : World → Value → (Nat → Prop) → Prop) (W : World) (S : Nat → Prop) (x : Value) (w' : World) : Prop := ∃ S', Z w' x S' ∧ (∀ k, S' k → S k ∨ W.heap.size ≤ k) ∧ Fr S W w'
theorem openA {W : World} {N b : Nat} {x : Value} {S : Nat → Prop} {D : DS} {o : Option (List Rec × Bool)} {n i : Nat} (h : SA W N b x S D o) (ht : TabAt W) (hi : Inv D n i) (hib : i ≤ 900000) :
    Calls Tryz.prog 32 #[.pointer (some ⟨b, 0, none⟩)] W fun e w' => ∃ x', e = .returned (.tuple #[x', .int .i64 (openE D)]) ∧ SideP (fun w x S => SA w N b x S (openD D) (openO D)) W S x' w' := by
  obtain ⟨F, hd, hFS, hst⟩ := h.step
  obtain ⟨h0, bd, bv, vp, h1, h2⟩ := hd
  refine (open_any W N b bd bv vp D h0 ht (Nat.le_trans hi.pl hib) hi.cut h1).mono ?_
  rintro e w' ⟨vp', q1, q2, q3, q4⟩
  have hsub : ∀ k, Foot b bd bv vp' k → S k ∨ W.heap.size ≤ k := by
    rintro k (rfl | rfl | rfl | h)
    · exact .inl (hFS _ ((h2 _).2 (.inl rfl)))
    · exact .inl (hFS _ ((h2 _).2 (.inr (.inl rfl))))
    · exact .inl (hFS _ ((h2 _).2 (.inr (.inr (.inl rfl)))))
    · exact (q2 k h).imp_left (fun h => hFS _ ((h2 _).2 (.inr (.inr (.inr h)))))
  have hfr : Fr S W w' := q3.mono (fun k hk => hFS k ((h2 k).2 hk))
  rcases q4 with ⟨he, bl, vr, ve, rfl, q5, q6⟩ | ⟨he, rfl⟩
  · refine ⟨_, by rw [he], fun k => Foot b bd bv vp' k ∨ LFoot bl vr ve k, .inr ⟨openR D, false, bl, Foot b bd bv vp', LFoot bl vr ve, ?_, rfl, ⟨⟨bd, bv, vp', vr, ve, q1, q5.base h0, fun k => Iff.rfl, fun k => Iff.rfl⟩, q6, Nat.le_trans h0 q3.size⟩, fun k => Iff.rfl⟩, ?_, hfr⟩
    · unfold openO
      rw [if_pos he]
    · rintro k (hk | hk)
      · exact hsub k hk
      · exact .inr (q5.ge k hk)
  · refine ⟨_, rfl, Foot b bd bv vp', .inl ⟨?_, rfl, Nat.le_trans h0 q3.size, bd, bv, vp', q1, fun k => Iff.rfl⟩, hsub, hfr⟩
    unfold openO
    rw [if_neg he]
theorem openC {W : World} {N b : Nat} {x : Value} {S : Nat → Prop} {D : DS} {o : Option (List Rec × Bool)} {n i : Nat} (h : SC W N b x S D o) (hi : Inv D n i) (hib : i ≤ 900000) (hn : n ≤ 4194304) :
    Calls Tryz.prog 35 #[.pointer (some ⟨b, 0, none⟩)] W fun e w' => ∃ x', e = .returned (.tuple #[x', .int .i64 (openE D)]) ∧ SideP (fun w x S => SC w N b x S (openD D) (openO D)) W S x' w' := by
  obtain ⟨F, hd, hFS, hst⟩ := h.step
  refine (refOpen_any W N b F D n i hi hib hn hd).mono ?_
  intro e w' hp
  rcases hp with ⟨he, rl, F', G, rfl, q1, q2, q3, q4⟩ | ⟨he, rfl, F', q1, q2, q4⟩
  · refine ⟨_, by rw [he], fun k => F' k ∨ G k, .inr ⟨openR D, false, rl, F', G, ?_, rfl, q1, fun k => Iff.rfl⟩, ?_, q2.mono hFS⟩
    · unfold openO
      rw [if_pos he]
    · rintro k (hk | hk)
      · exact (q4 k hk).imp_left (hFS k)
      · exact .inr (q3 k hk)
  · refine ⟨_, rfl, F', .inl ⟨?_, rfl, q1⟩, fun k hk => (q4 k hk).imp_left (hFS k), q2.mono hFS⟩
    unfold openO
    rw [if_neg he]
theorem appendA {W : World} {N b bl : Nat} {S : Nat → Prop} {D : DS} {R : List Rec} {br : Bool} {n i : Nat} (l : List Rec) (oa : Option Addr) (c : Nat) (hn1 : l.length ≤ 1000) (hnc : l.length ≤ c) (hcm : c ≤ 9223372036854775807) (hI : ∀ r ∈ l, RecI r) (hR : R.length ≤ 100000) (hr : RdR W oa l) (ht : TabAt W) (hg : 0 < N) (hlost : br = false → D.lost = false) (hi : Inv D n i) (hib : i ≤ 900000) (h : SA W N b (.pointer (some ⟨bl, 0, none⟩)) S D (some (R, br))) :
    Calls Tryz.prog 10 #[.pointer (some ⟨bl, 0, none⟩), .slice oa l.length c] W fun e w' => e = .returned (.int .i64 (appC ⟨D, R, br⟩ l).1) ∧ SideP (fun w x S => SA w N b x S (appC ⟨D, R, br⟩ l).2.D (some ((appC ⟨D, R, br⟩ l).2.R, (appC ⟨D, R, br⟩ l).2.br))) W S (.pointer (some ⟨bl, 0, none⟩)) w' := by
  obtain ⟨bl', F, G, e, h3, h4⟩ := h.ptr
  cases e
  refine (append_x l oa l.length c W N b bl F G D R br rfl hn1 hnc hcm hI hR hr ht hg hlost (Nat.le_trans hi.pl (by omega)) hi.cut h3).mono ?_
  rintro e w' ⟨he, F', G', q1, q2, q3, q4⟩
  refine ⟨he, fun k => F' k ∨ G' k, .inr ⟨_, _, bl, F', G', rfl, rfl, q1, fun k => Iff.rfl⟩, ?_, q2.mono (fun k hk => (h4 k).2 hk)⟩
  rintro k (hk | hk)
  · exact (q3 k hk).imp_left (fun h => (h4 k).2 (.inl h))
  · exact (q4 k hk).imp_left (fun h => (h4 k).2 (.inr h))
theorem appendC {W : World} {N b bl : Nat} {S : Nat → Prop} {D : DS} {R : List Rec} {br : Bool} {n i : Nat} (l : List Rec) (oa : Option Addr) (c : Nat) (hn1 : l.length ≤ 1000) (hI : ∀ r ∈ l, RecI r) (hR : R.length ≤ 100000) (hr : RdR W oa l) (hsp : l ≠ [] → ∀ b o, oa = some ⟨b, o, none⟩ → ¬ S b) (hlost : br = false → D.lost = false) (hi : Inv D n i) (hib : i ≤ 900000) (hn : n ≤ 4194304) (h : SC W N b (.pointer (some ⟨bl, 0, none⟩)) S D (some (R, br))) :
    Calls Tryz.prog 12 #[.pointer (some ⟨bl, 0, none⟩), .slice oa l.length c] W fun e w' => e = .returned (.int .i64 (appC ⟨D, R, br⟩ l).1) ∧ SideP (fun w x S => SC w N b x S (appC ⟨D, R, br⟩ l).2.D (some ((appC ⟨D, R, br⟩ l).2.R, (appC ⟨D, R, br⟩ l).2.br))) W S (.pointer (some ⟨bl, 0, none⟩)) w' := by
  obtain ⟨bl', F, G, e, h3, h4⟩ := h.ptr
  cases e
  refine (refAppend_x l oa l.length c W N b bl F G D R br n i rfl hn1 hI hR hr (fun h0 b o e hf => hsp h0 b o e ((h4 b).2 (.inl hf))) hi hib hn hlost h3).mono ?_
  rintro e w' ⟨he, F', G', q1, q2, q3, q4⟩
  refine ⟨he, fun k => F' k ∨ G' k, .inr ⟨_, _, bl, F', G', rfl, rfl, q1, fun k => Iff.rfl⟩, ?_, q2.mono (fun k hk => (h4 k).2 hk)⟩
  rintro k (hk | hk)
  · exact (q3 k hk).imp_left (fun h => (h4 k).2 (.inl h))
  · exact (q4 k hk).imp_left (fun h => (h4 k).2 (.inr h))
/-- A law's world at block q: both sides, of the same disk and the same log. -/
structure WX (W : World) (N q b r : Nat) (D : DS) (o : Option (List Rec × Bool)) (x y : Value) (S T : Nat → Prop) : Prop where
  blk : Blk W q 36 [.pointer (some ⟨b, 0, none⟩), x, .pointer (some ⟨r, 0, none⟩), y]
  a : SA W N b x S D o
  c : SC W N r y T D o
  sep : ∀ k, S k → ¬ T k
  q1 : ¬ S q
  q2 : ¬ T q
  le : N ≤ q
theorem WX.below {W W' : World} {N q b r : Nat} {D : DS} {o : Option (List Rec × Bool)} {x y : Value} {S T : Nat → Prop} (h : WX W N q b r D o x y S T) (hb : Below W.heap.size W W') : WX W' N q b r D o x y S T :=
  ⟨h.blk.kept (hb.block _ h.blk.lt), h.a.fr (Fr.under (fun _ => False) hb) (fun _ _ e => e), h.c.fr (Fr.under (fun _ => False) hb) (fun _ _ e => e), h.sep, h.q1, h.q2, h.le⟩
/-- A step of our side alone, then one of the reference's. -/
theorem WX.two {W w1 : World} {N q b r : Nat} {D D' : DS} {o o' : Option (List Rec × Bool)} {x y x' : Value} {S T : Nat → Prop} (h : WX W N q b r D o x y S T) (h1 : SideP (fun w x S => SA w N b x S D' o') W S x' w1) :
    SC w1 N r y T D o ∧ Blk w1 q 36 [.pointer (some ⟨b, 0, none⟩), x, .pointer (some ⟨r, 0, none⟩), y] ∧ Below N W w1 ∧ ∀ y' w2, SideP (fun w x S => SC w N r x S D' o') w1 T y' w2 → Below N w1 w2 ∧ Blk w2 q 36 [.pointer (some ⟨b, 0, none⟩), x, .pointer (some ⟨r, 0, none⟩), y] ∧ ∃ S' T', WX ((w2.setCell ⟨q, 1, none⟩ x').setCell ⟨q, 3, none⟩ y') N q b r D' o' x' y' S' T' ∧ (x' = x → y' = y → WX w2 N q b r D' o' x' y' S' T') := by
  obtain ⟨S', a1, a2, a3⟩ := h1
  have hNW : N ≤ W.heap.size := Nat.le_trans h.le (Nat.le_of_lt h.blk.lt)
  have hsepST : ∀ k, T k → ¬ S k := fun k ht hs => h.sep k hs ht
  have hbk1 := h.blk.kept (a3.block q h.blk.lt h.q1)
  refine ⟨h.c.fr a3 hsepST, hbk1, a3.below N hNW (fun k hk => (h.a.lt k hk).1), ?_⟩
  rintro y' w2 ⟨T', c1, c2, c3⟩
  have hsep1 : ∀ k, S' k → ¬ T k := grow2 a2 h.sep (fun k hk => (h.c.lt k hk).2)
  have ha2 : SA w2 N b x' S' D' o' := a1.fr c3 hsep1
  have hbk2 := hbk1.kept (c3.block q hbk1.lt h.q2)
  have hsep2 : ∀ k, S' k → ¬ T' k := fun k hs ht => grow2 c2 (fun k hk hs => hsep1 k hs hk) (fun k hk => (a1.lt k hk).2) k ht hs
  have hq1 : ¬ S' q := fun e => (a2 q e).elim h.q1 (fun h5 => by have := h.blk.lt; omega)
  have hq2 : ¬ T' q := fun e => (c2 q e).elim h.q2 (fun h5 => by have := hbk1.lt; omega)
  have hNw1 : N ≤ w1.heap.size := Nat.le_trans hNW a3.size
  refine ⟨c3.below N hNw1 (fun k hk => (h.c.lt k hk).1), hbk2, S', T', ?_, fun e1 e2 => ⟨by rw [e1, e2]; exact hbk2, ha2, c1, hsep2, hq1, hq2, h.le⟩⟩
  have hf : Fr (fun k => k = q) w2 ((w2.setCell ⟨q, 1, none⟩ x').setCell ⟨q, 3, none⟩ y') := Fr.setCell (S := fun k => k = q) (Fr.setCell (S := fun k => k = q) (Fr.refl _ w2) ⟨q, 1, none⟩ _ (.inl rfl)) ⟨q, 3, none⟩ _ (.inl rfl)
  refine ⟨(hbk2.set 1 x').set 3 y', ha2.fr hf (fun k hk e => ?_), c1.fr hf (fun k hk e => ?_), hsep2, hq1, hq2, h.le⟩
  · subst e; exact hq1 hk
  · subst e; exact hq2 hk
/-- Both disks at a step. -/
theorem WX.disk {W : World} {N q b r : Nat} {D D' : DS} {o : Option (List Rec × Bool)} {x y : Value} {S T : Nat → Prop} (h : WX W N q b r D o x y S T) :
    ∃ F, DX W N b F D ∧ ∀ w1, DXStep W w1 N b F D' → Below N W w1 ∧ ∃ H, RDX w1 N r H D ∧ ∀ w2, RDStep w1 w2 N r H D' → Below N w1 w2 ∧ ∃ S' T', WX w2 N q b r D' o x y S' T' := by
  obtain ⟨F, d1, d2, d3⟩ := h.a.step
  refine ⟨F, d1, fun w1 hs => ?_⟩
  obtain ⟨S', a1, a2, a3⟩ := d3 w1 D' hs
  obtain ⟨t1, t2, t3, t4⟩ := h.two ⟨S', a1, a2, a3⟩
  obtain ⟨H, e1, e2, e3⟩ := t1.step
  refine ⟨t3, H, e1, fun w2 hs2 => ?_⟩
  obtain ⟨T', c1, c2, c3⟩ := e3 w2 D' hs2
  obtain ⟨u1, u2, S2, T2, u3, u4⟩ := t4 y w2 ⟨T', c1, c2, c3⟩
  exact ⟨u1, S2, T2, u4 rfl rfl⟩
end Go.Proofs.YtfpcdlpfmlaakaaGreatDoor
namespace Go.Proofs.YtfpcdlpfmlaakaaGreatDoor
open Go.RowKit Onair
attribute [local go_sem ↓] Go.wp_at_zero Go.wp_at_succ
theorem openA_x {w W : World} {N b : Nat} {S : Nat → Prop} {D : DS} {x : Value} (h : SideP (fun w x S => SA w N b x S (openD D) (openO D)) W S x w) : (openE D = 0 → ∃ bl, x = .pointer (some ⟨bl, 0, none⟩)) ∧ (¬ openE D = 0 → x = .pointer none) := by
  obtain ⟨S', h1, _, _⟩ := h
  constructor
  · intro he
    unfold openO at h1
    rw [if_pos he] at h1
    obtain ⟨bl, _, _, e, _⟩ := h1.ptr
    exact ⟨bl, e⟩
  · intro he
    unfold openO at h1
    rw [if_neg he] at h1
    exact h1.nil.1
theorem openC_x {w W : World} {N b : Nat} {S : Nat → Prop} {D : DS} {x : Value} (h : SideP (fun w x S => SC w N b x S (openD D) (openO D)) W S x w) : (openE D = 0 → ∃ bl, x = .pointer (some ⟨bl, 0, none⟩)) ∧ (¬ openE D = 0 → x = .pointer none) := by
  obtain ⟨S', h1, _, _⟩ := h
  constructor
  · intro he
    unfold openO at h1
    rw [if_pos he] at h1
    obtain ⟨bl, _, _, e, _⟩ := h1.ptr
    exact ⟨bl, e⟩
  · intro he
    unfold openO at h1
    rw [if_neg he] at h1
    exact h1.nil.1
set_option maxHeartbeats 4000000 in
set_option maxRecDepth 100000 in
theorem openW (W : World) (N q b r : Nat) (D : DS) (o : Option (List Rec × Bool)) (x y : Value) (S T : Nat → Prop) (n i : Nat) (hW : WX W N q b r D o x y S T) (ht : TabAt W) (hi : Inv D n i) (hib : i ≤ 900000) (hn : n ≤ 4194304) :
    Calls Tryz.prog 9 #[.pointer (some ⟨q, 0, none⟩)] W fun e w' => e = .returned (.bool true) ∧ Below N W w' ∧ ∃ x' y' S' T', WX w' N q b r (openD D) (openO D) x' y' S' T' := by
  have c0 := hW.blk.cell 0
  simp only [List.getElem?_cons_zero, List.getElem?_cons_succ] at c0
  have HOA := Lib.hid (openA hW.a ht hi hib)
  have HTW : Hid (∀ x' w1, SideP (fun w x S => SA w N b x S (openD D) (openO D)) W S x' w1 → _) := fun x' w1 h => hW.two h
  have HOC : Hid (∀ w1, SC w1 N r y T D o → _) := fun w1 h => openC h hi hib hn
  have HPX : Hid (∀ x' w1, SideP (fun w x S => SA w N b x S (openD D) (openO D)) W S x' w1 → _) := fun x' w1 h => openA_x h
  have hq : q < W.heap.size := hW.blk.lt
  have HNQ : Hid (N ≤ q) := hW.le
  have HB0 : Hid (Below N W W) := Below.refl _ _
  clear hW ht hi
  obtain ⟨ee, hee⟩ : ∃ ee, openE D = ee := ⟨_, rfl⟩
  rw [hee] at HOA HPX
  simp only [hee] at HOC
  have HEE := Lib.hid hee
  clear hee
  go_enter Tryz.func9, Tryz.ntmps9
  go_wp2_with fail
  refine HOA.out.mono ?_
  rintro e w1 ⟨x', rfl, hs⟩
  obtain ⟨p1, p2⟩ := HPX.out x' w1 hs
  have HP1 := Lib.hid p1
  have HP2 := Lib.hid p2
  obtain ⟨hsc, hb1, hbl1, hstep⟩ := HTW.out x' w1 hs
  have HSC := Lib.hid (HOC.out w1 hsc)
  have HSTEP := Lib.hid hstep
  have HB1 := Lib.hid hbl1
  clear p1 p2 hs c0 HPX HTW HOC HOA HB0 hsc hbl1 hstep
  have c2 := hb1.cell 2
  simp only [List.getElem?_cons_zero, List.getElem?_cons_succ] at c2
  clear hb1
  go_wp2_with fail
  refine HSC.out.mono ?_
  rintro e w2 ⟨y', rfl, hs2⟩
  obtain ⟨hbl2, hb2, S', T', hw, hno⟩ := HSTEP.out y' w2 hs2
  obtain ⟨p3, p4⟩ := openC_x hs2
  have HP3 := Lib.hid p3
  have HP4 := Lib.hid p4
  clear p3 p4 hno
  have HW := Lib.hid hw
  have HB2 : Hid (Below N W w2) := HB1.out.trans hbl2
  have c0 := hb2.cell 0
  have c1 := hb2.cell 1
  have c3 := hb2.cell 3
  have g1 := hb2.frozen 1
  have g3 := hb2.frozen 3
  simp only [List.getElem?_cons_zero, List.getElem?_cons_succ] at c0 c1 c3
  clear hs2 hbl2 hb2 hw HSTEP HSC HB1 c2
  by_cases he : ee = 0
  · obtain ⟨bl, rfl⟩ := HP1.out he
    obtain ⟨bl2, rfl⟩ := HP3.out (HEE.out.trans he)
    subst he
    clear HP1 HP2 HP3 HP4 HEE
    go_wp2_with fail
    go_ret
    exact ⟨rfl, (HB2.out.setCell (p := ⟨q, 1, none⟩) HNQ.out _).setCell (p := ⟨q, 3, none⟩) HNQ.out _, _, _, _, _, HW.out⟩
  · have hx := HP2.out he
    subst hx
    have hx := HP4.out (fun h => he (HEE.out.symm.trans h))
    subst hx
    have qb : (ee != 0) = true := by rw [bne_iff_ne]; exact he
    clear HP1 HP2 HP3 HP4 HEE he
    go_wp2_with fail
    go_ret
    exact ⟨rfl, (HB2.out.setCell (p := ⟨q, 1, none⟩) HNQ.out _).setCell (p := ⟨q, 3, none⟩) HNQ.out _, _, _, _, _, HW.out⟩
end Go.Proofs.YtfpcdlpfmlaakaaGreatDoor
