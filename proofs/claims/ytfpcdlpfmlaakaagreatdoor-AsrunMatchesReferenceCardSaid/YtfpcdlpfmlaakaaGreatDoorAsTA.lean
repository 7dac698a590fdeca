/-
  The reference log in memory.
-/
import Derived.Test.YtfpcdlpfmlaakaaGreatDoorRfL
import Derived.Test.YtfpcdlpfmlaakaaGreatDoorRaD
set_option linter.unusedVariables false
set_option linter.unusedSimpArgs false
namespace Go.Proofs.YtfpcdlpfmlaakaaGreatDoor
open Go.RowKit Onair
theorem bnl {N : Nat} {w W : World} (hN : w.heap.size = N) (hb : Below N w W) : N ≤ W.heap.size := hN ▸ hb.size
/-- The reference log R lies at block bl, its disk at b, its records under vr; all from block B on. -/
structure LkAt (W : World) (B bl b : Nat) (vr : Value) (R : List Rec) (br : Bool) : Prop where
  blk : Blk W bl 46 [.pointer (some ⟨b, 0, none⟩), vr, .int .i64 ((endN R : Nat) : Int), .bool br]
  recs : W.ownsRow B 62 6 vr R.length (rcells R)
  hb : B ≤ bl
  nr : ∀ g, vr.ownBlock = some g → g ≠ bl
/-- The blocks of a reference log. -/
def CFoot (bl : Nat) (vr : Value) (k : Nat) : Prop := k = bl ∨ vr.ownBlock = some k
theorem LkAt.lt {W : World} {B bl b : Nat} {vr : Value} {R : List Rec} {br : Bool} (h : LkAt W B bl b vr R br) (k : Nat) (hk : CFoot bl vr k) : k < W.heap.size := by
  rcases hk with rfl | hk
  · exact h.blk.lt
  · exact own_lt h.recs k hk
theorem LkAt.ge {W : World} {B bl b : Nat} {vr : Value} {R : List Rec} {br : Bool} (h : LkAt W B bl b vr R br) (k : Nat) (hk : CFoot bl vr k) : B ≤ k := by
  rcases hk with rfl | hk
  · exact h.hb
  · exact own_ge h.recs k hk
theorem LkAt.kept {W W' : World} {B bl b : Nat} {vr : Value} {R : List Rec} {br : Bool} (h : LkAt W B bl b vr R br) (hk : ∀ k, CFoot bl vr k → W'.heap[k]? = W.heap[k]?) : LkAt W' B bl b vr R br :=
  ⟨h.blk.kept (hk _ (.inl rfl)), ownsRow_keptF h.recs (fun k e => hk k (.inr e)), h.hb, h.nr⟩
theorem LkAt.below {W W' : World} {B bl b : Nat} {vr : Value} {R : List Rec} {br : Bool} (h : LkAt W B bl b vr R br) (hb : Below W.heap.size W W') : LkAt W' B bl b vr R br := h.kept (fun k hk => hb.block k (h.lt k hk))
theorem LkAt.fr {W W' : World} {B bl b : Nat} {vr : Value} {R : List Rec} {br : Bool} {S : Nat → Prop} (h : LkAt W B bl b vr R br) (hf : Fr S W W') (hs : ∀ k, CFoot bl vr k → ¬ S k) : LkAt W' B bl b vr R br := h.kept (fun k hk => hf.block k (h.lt k hk) (hs k hk))
theorem LkAt.base {W : World} {B B' bl b : Nat} {vr : Value} {R : List Rec} {br : Bool} (h : LkAt W B bl b vr R br) (hB : B' ≤ B) : LkAt W B' bl b vr R br :=
  ⟨h.blk, own_base h.recs hB, Nat.le_trans hB h.hb, h.nr⟩
theorem LkAt.rd {W : World} {B bl b : Nat} {oa : Option Addr} {n c : Nat} {R : List Rec} {br : Bool} (h : LkAt W B bl b (.slice oa n c) R br) : n = R.length ∧ n ≤ c ∧ c ≤ 9223372036854775807 ∧ RdR W oa R := by
  have := own_rdr h.recs
  exact this
theorem LkAt.push {W w1 : World} {B bl b : Nat} {vr vr' : Value} {R : List Rec} {r : Rec} {br : Bool} {e : Nat} (h : LkAt W B bl b vr R br) (he : e = endN (R ++ [r])) (ho : w1.ownsRow B 62 6 vr' (R ++ [r]).length (rcells (R ++ [r]))) (hf : Fr (fun k => vr.ownBlock = some k) W w1) (hn : ∀ k, vr'.ownBlock = some k → vr.ownBlock = some k ∨ W.heap.size ≤ k) :
    LkAt ((w1.setCell ⟨bl, 1, none⟩ vr').setCell ⟨bl, 2, none⟩ (.int .i64 (e : Int))) B bl b vr' (R ++ [r]) br := by
  have hbl := h.blk.lt
  have hne : ∀ g, vr'.ownBlock = some g → g ≠ bl := fun g hg => by
    rcases hn g hg with h1 | h1
    · exact h.nr g h1
    · omega
  have h1 := h.blk.kept (hf.block bl hbl (fun e => h.nr bl e rfl))
  have h2 := (h1.set 1 vr').set 2 (.int .i64 (e : Int))
  refine ⟨?_, ?_, h.hb, hne⟩
  · rw [← he]
    exact h2
  · refine ownsRow_keptF ho (fun k hk => ?_)
    rw [Below.heap_setCell _ _ _ _ (hne k hk), Below.heap_setCell _ _ _ _ (hne k hk)]
theorem LkAt.broke {W : World} {B bl b : Nat} {vr : Value} {R : List Rec} {br : Bool} (h : LkAt W B bl b vr R br) (v : Bool) : LkAt (W.setCell ⟨bl, 3, none⟩ (.bool v)) B bl b vr R v := by
  refine ⟨h.blk.set 3 (.bool v), ownsRow_keptF h.recs (fun k hk => ?_), h.hb, h.nr⟩
  rw [Below.heap_setCell _ _ _ _ (h.nr k hk)]
/-- A new list of records and a new end. -/
theorem LkAt.put {W w1 : World} {B bl b : Nat} {vr vr' : Value} {R R' : List Rec} {br : Bool} {e : Nat} (h : Blk w1 bl 46 [.pointer (some ⟨b, 0, none⟩), vr, .int .i64 ((endN R : Nat) : Int), .bool br]) (hb : B ≤ bl) (he : e = endN R') (ho : w1.ownsRow B 62 6 vr' R'.length (rcells R')) (hne : ∀ g, vr'.ownBlock = some g → g ≠ bl) :
    LkAt ((w1.setCell ⟨bl, 1, none⟩ vr').setCell ⟨bl, 2, none⟩ (.int .i64 (e : Int))) B bl b vr' R' br := by
  have h2 := (h.set 1 vr').set 2 (.int .i64 (e : Int))
  refine ⟨?_, ?_, hb, hne⟩
  · rw [← he]
    exact h2
  · refine ownsRow_keptF ho (fun k hk => ?_)
    rw [Below.heap_setCell _ _ _ _ (hne k hk), Below.heap_setCell _ _ _ _ (hne k hk)]
/-- A reference disk in memory, whose blocks are F. -/
def RDX (W : World) (N b : Nat) (F : Nat → Prop) (D : DS) : Prop := N ≤ W.heap.size ∧ ∃ gs cs rest vl, RkAt W N b gs cs rest vl D ∧ ∀ k, F k ↔ RFoot b gs vl k
theorem RDX.fr {W W' : World} {N b : Nat} {F : Nat → Prop} {D : DS} {S : Nat → Prop} (h : RDX W N b F D) (hf : Fr S W W') (hs : ∀ k, F k → ¬ S k) : RDX W' N b F D := by
  obtain ⟨h0, gs, cs, rest, vl, h1, h2⟩ := h
  exact ⟨Nat.le_trans h0 hf.size, gs, cs, rest, vl, h1.fr hf (fun k hk => hs k ((h2 k).2 hk)), h2⟩
theorem RDX.below {W W' : World} {N b : Nat} {F : Nat → Prop} {D : DS} (h : RDX W N b F D) (hb : Below W.heap.size W W') : RDX W' N b F D := h.fr (Fr.under (fun _ => False) hb) (fun _ _ h => h)
theorem RDX.lt {W : World} {N b : Nat} {F : Nat → Prop} {D : DS} (h : RDX W N b F D) (k : Nat) (hk : F k) : k < W.heap.size := by
  obtain ⟨h0, gs, cs, rest, vl, h1, h2⟩ := h
  exact h1.lt k ((h2 k).1 hk)
theorem RDX.ge {W : World} {N b : Nat} {F : Nat → Prop} {D : DS} (h : RDX W N b F D) (k : Nat) (hk : F k) : N ≤ k := by
  obtain ⟨h0, gs, cs, rest, vl, h1, h2⟩ := h
  exact h1.ge k ((h2 k).1 hk)
theorem RDX.self {W : World} {N b : Nat} {F : Nat → Prop} {D : DS} (h : RDX W N b F D) : F b := by
  obtain ⟨h0, gs, cs, rest, vl, h1, h2⟩ := h
  exact (h2 b).2 (.inl rfl)
/-- What a call of the reference disk leaves. -/
def RDStep (W w' : World) (N b : Nat) (F : Nat → Prop) (D' : DS) : Prop := ∃ F', RDX w' N b F' D' ∧ (∀ k, F' k → F k ∨ W.heap.size ≤ k) ∧ Fr F W w'
theorem RDX.step {W w' : World} {N b gs : Nat} {vl : Value} {F : Nat → Prop} {D' : DS} (h0 : N ≤ W.heap.size) (h2 : ∀ k, F k ↔ RFoot b gs vl k) (hs : RkStep W w' N b gs vl D') : RDStep W w' N b F D' := by
  obtain ⟨gs', cs', rest', vl', q1, q2, q3⟩ := hs
  exact ⟨RFoot b gs' vl', ⟨Nat.le_trans h0 q3.size, gs', cs', rest', vl', q1, fun k => Iff.rfl⟩, fun k hk => (q2 k hk).imp_left (fun h => (h2 k).2 h), q3.mono (fun k hk => (h2 k).2 hk)⟩
theorem refNew_x (n : Nat) (W : World) (N : Nat) (hN : N ≤ W.heap.size) (h1 : 1 ≤ n) (h2 : n ≤ 4194304) :
    Calls Tryz.prog 8 #[.int .i64 n] W fun e w' => ∃ b F, e = .returned (.tuple #[.pointer (some ⟨b, 0, none⟩), .int .i64 0]) ∧ RDX w' N b F (newD n) ∧ Below W.heap.size W w' ∧ ∀ k, F k → W.heap.size ≤ k := by
  refine (refNew_ok n W N hN h1 h2).mono ?_
  rintro e w' ⟨b, gs, rfl, h1, h2, h3, h4⟩
  refine ⟨b, RFoot b gs (.slice none 0 0), rfl, ⟨Nat.le_trans hN h2.size, gs, n, [], _, h1, fun k => Iff.rfl⟩, h2, ?_⟩
  rintro k (rfl | rfl | h)
  · exact h3
  · exact h4
  · simp [Value.ownBlock] at h
theorem RDX.len {W : World} {N b : Nat} {F : Nat → Prop} {D : DS} (h : RDX W N b F D) : 1 ≤ D.dur.length ∧ D.dur.length ≤ 4194304 := by
  obtain ⟨h0, gs, cs, rest, vl, h1, h2⟩ := h
  exact ⟨h1.pos, h1.max⟩
theorem refWrite_x (W : World) (N b : Nat) (F : Nat → Prop) (D : DS) (n i : Nat) (off : Int) (s : ByteArray) (ho : -9223372036854775808 ≤ off) (ho1 : off ≤ 9223372036854775807) (hs : s.size ≤ maxLen) (hi : Inv D n i) (hib : i ≤ 1000000) (h : RDX W N b F D) :
    Calls Tryz.prog 15 #[.pointer (some ⟨b, 0, none⟩), .int .i64 off, .string s] W fun e w' => e = .returned (.int .i64 (writeE D off s)) ∧ RDStep W w' N b F (writeD D off s) := by
  obtain ⟨h0, gs, cs, rest, vl, h1, h2⟩ := h
  refine (refWrite_any W N b gs cs rest vl D off s ho ho1 hs h0 (by rw [hi.len, hi.lend]) (Nat.le_trans hi.pl hib) hi.cut h1).mono ?_
  rintro e w' ⟨he, vl', q1, q2, q3⟩
  refine ⟨he, RFoot b gs vl', ⟨Nat.le_trans h0 q3.size, gs, cs, rest, vl', q1, fun k => Iff.rfl⟩, ?_, q3.mono (fun k hk => (h2 k).2 hk)⟩
  rintro k (rfl | rfl | hk)
  · exact .inl ((h2 _).2 (.inl rfl))
  · exact .inl ((h2 _).2 (.inr (.inl rfl)))
  · exact (q2 k hk).imp_left (fun h => (h2 _).2 (.inr (.inr h)))
theorem refSync_x (W : World) (N b : Nat) (F : Nat → Prop) (D : DS) (n i : Nat) (hi : Inv D n i) (hib : i ≤ 1000000) (h : RDX W N b F D) :
    Calls Tryz.prog 54 #[.pointer (some ⟨b, 0, none⟩)] W fun e w' => e = .returned (.int .i64 (stE D)) ∧ RDStep W w' N b F (syncD D) := by
  obtain ⟨h0, gs, cs, rest, vl, h1, h2⟩ := h
  refine (refSync_any W N b gs cs rest vl D h0 hi.vis (by rw [hi.len, hi.lend]) (Nat.le_trans hi.pl hib) (by rw [hi.lend]; exact hi.fit) h1).mono ?_
  rintro e w' ⟨he, hs⟩
  exact ⟨he, RDX.step h0 h2 hs⟩
theorem refRead_x (W : World) (N b : Nat) (F : Nat → Prop) (D : DS) (n i : Nat) (hi : Inv D n i) (hib : i ≤ 1000000) (hn : n ≤ 4194304) (h : RDX W N b F D) :
    Calls Tryz.prog 80 #[.pointer (some ⟨b, 0, none⟩), .int .i64 0, .int .i64 (n : Int)] W fun e w' => e = .returned (.tuple #[.string ⟨(readL D 0 n).toArray⟩, .int .i64 (readE D 0 n)]) ∧ Below W.heap.size W w' := by
  obtain ⟨h0, gs, cs, rest, vl, h1, h2⟩ := h
  exact refRead_any W N b gs cs rest vl D 0 n (by omega) (by omega) (by omega) (by omega) h0 hi.vis (by rw [hi.len, hi.lend]) (Nat.le_trans hi.pl hib) (by rw [hi.lend]; exact hi.fit) h1
theorem refVis_x (W : World) (N b : Nat) (F : Nat → Prop) (D : DS) (n i : Nat) (hi : Inv D n i) (hib : i ≤ 1000000) (h : RDX W N b F D) :
    Calls Tryz.prog 21 #[.pointer (some ⟨b, 0, none⟩)] W fun e w' => ∃ gs' cs', e = .returned (.slice (some ⟨gs', 0, none⟩) n cs') ∧ (∃ rest', Blk w' gs' 5 (cellsB D.vis ++ rest')) ∧ n ≤ cs' ∧ W.heap.size ≤ gs' ∧ Below W.heap.size W w' := by
  obtain ⟨h0, gs, cs, rest, vl, h1, h2⟩ := h
  have := visible_any W N b gs cs rest vl D h0 (Nat.le_trans hi.pl hib) (by rw [hi.lend]; exact hi.fit) h1
  rw [← hi.vis, hi.lend] at this
  exact this
/-- A reference log and its disk in memory; F: the blocks that the disk uses, G: the blocks that the log uses. -/
structure RLX (W : World) (N b bl : Nat) (F G : Nat → Prop) (s : LS) : Prop where
  ex : ∃ vr, RDX W N b F s.D ∧ LkAt W N bl b vr s.R s.br ∧ ∀ k, G k ↔ CFoot bl vr k
  sep : ∀ k, G k → ¬ F k
theorem RLX.fr {W W' : World} {N b bl : Nat} {F G : Nat → Prop} {s : LS} {S : Nat → Prop} (h : RLX W N b bl F G s) (hf : Fr S W W') (hs : ∀ k, F k → ¬ S k) (hs2 : ∀ k, G k → ¬ S k) : RLX W' N b bl F G s := by
  obtain ⟨vr, h1, h2, h4⟩ := h.ex
  exact ⟨⟨vr, h1.fr hf hs, h2.fr hf (fun k hk => hs2 k ((h4 k).2 hk)), h4⟩, h.sep⟩
theorem RLX.below {W W' : World} {N b bl : Nat} {F G : Nat → Prop} {s : LS} (h : RLX W N b bl F G s) (hb : Below W.heap.size W W') : RLX W' N b bl F G s := h.fr (Fr.under (fun _ => False) hb) (fun _ _ h => h) (fun _ _ h => h)
theorem RLX.disk {W : World} {N b bl : Nat} {F G : Nat → Prop} {s : LS} (h : RLX W N b bl F G s) : RDX W N b F s.D := by
  obtain ⟨vr, h1, h2, h4⟩ := h.ex
  exact h1
theorem RLX.ltG {W : World} {N b bl : Nat} {F G : Nat → Prop} {s : LS} (h : RLX W N b bl F G s) (k : Nat) (hk : G k) : k < W.heap.size := by
  obtain ⟨vr, h1, h2, h4⟩ := h.ex
  exact h2.lt k ((h4 k).1 hk)
theorem RLX.geG {W : World} {N b bl : Nat} {F G : Nat → Prop} {s : LS} (h : RLX W N b bl F G s) (k : Nat) (hk : G k) : N ≤ k := by
  obtain ⟨vr, h1, h2, h4⟩ := h.ex
  exact h2.ge k ((h4 k).1 hk)
end Go.Proofs.YtfpcdlpfmlaakaaGreatDoor
