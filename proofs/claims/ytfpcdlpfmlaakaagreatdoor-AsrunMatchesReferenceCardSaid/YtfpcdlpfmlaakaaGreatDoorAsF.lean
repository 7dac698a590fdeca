/-
  The log of package asrun in memory; the walk of add.
-/
import Derived.WalkKit
import Derived.LoopTactic
import Derived.WalkSpells
import Derived.WalkLawsBesides
import Derived.RegionTactic
import Derived.BigRegion
import Derived.IntWalk
import Derived.Outline
import Derived.Deep.QuietTactic
import Derived.BigQuiet
import Derived.Deep.RegionLaw
import Derived.Deep.RegionHeld3
import Derived.Deep.DrawnRows
import Derived.Deep.AppendLies
import Derived.Deep.DeepCutAuto
import Derived.Laws.EntriesVeiled
import Derived.Lib.Hide
import Derived.Laws.OwnMore
import Derived.Test.YtfpcdlpfmlaakaaGreatDoorAsD
import Derived.Test.YtfpcdlpfmlaakaaGreatDoorDgN
set_option linter.unusedVariables false
set_option linter.unusedSimpArgs false
namespace Go.Proofs.YtfpcdlpfmlaakaaGreatDoor
open Go.RowKit Onair
attribute [local go_sem ↓] Go.wp_at_zero Go.wp_at_succ
theorem Fr.under (S : Nat → Prop) {A C : World} (h : Below A.heap.size A C) : Fr S A C := ⟨h.os, h.tape, h.output, h.size, fun k hk _ => h.block k hk⟩
def rcells (R : List Rec) : List Value := R.flatMap fun r => (recA r).toList
theorem rcells_snoc (R : List Rec) (r : Rec) : rcells R ++ (recA r).toList = rcells (R ++ [r]) := by simp [rcells]
theorem rcells_len (R : List Rec) : (rcells R).length = R.length * 6 := by
  induction R with
  | nil => rfl
  | cons r R ih =>
    show ((recA r).toList ++ rcells R).length = _
    rw [List.length_append, ih]
    show 6 + _ = _
    rw [List.length_cons]
    omega
theorem Tryz.infoRec : (Tryz.prog.info? 62).map (fun i => (i.zero, i.size, i.bytes)) = some (some (.agg #[.int .i64 0, .int .i64 0, .int .i64 0, .int .i64 0, .int .i64 0, .int .i64 0]), 6, 48) := by kernel_rfl
/-- append of one record to a row of the call's own. -/
theorem app_rec (W : World) (B : Nat) (v : Value) (R : List Rec) (r : Rec) (hown : W.ownsRow B 62 6 v R.length (rcells R)) (hn : R.length ≤ 1000000) (hB : B ≤ W.heap.size) (ty : TypeId) :
    ∃ oa cap w', (Builtin.append_ #[38, 38] ty #[v, .slice (some ⟨W.heap.size, 0, none⟩) 1 1]).run Tryz.prog (W.alloc (.cells (recA r) 62)) = .ok (.slice oa (R.length + 1) cap) w' ∧ w'.ownsRow B 62 6 (.slice oa (R.length + 1) cap) (R ++ [r]).length (rcells (R ++ [r])) ∧ Fr (fun k => v.ownBlock = some k) W w' ∧ (∀ k, (Value.slice oa (R.length + 1) cap).ownBlock = some k → v.ownBlock = some k ∨ W.heap.size ≤ k) := by
  obtain ⟨i0, hi, hz0, hz1, hz2⟩ := info_parts Tryz.infoRec
  have hnew : Blk (W.alloc (.cells (recA r) 62)) W.heap.size 62 (recA r).toList := Blk.new W _ _
  obtain ⟨v', w1, hrun, ho1, hf1, hk1⟩ := app_own (P := Tryz.prog) (W := W.alloc (.cells (recA r) 62)) B 38 ty 62 i0 (.agg #[.int .i64 0, .int .i64 0, .int .i64 0, .int .i64 0, .int .i64 0, .int .i64 0]) 6 48 Tryz.underlying38 hi hz0 hz1 hz2 rfl (by decide) v R.length (rcells R) (hown.alloc _) ⟨W.heap.size, 0, none⟩ 1 1 (recA r).toList rfl (fun j u hj => by
      rw [show ((⟨W.heap.size, 0, none⟩ : Addr).add j) = ⟨W.heap.size, j, none⟩ from by unfold Addr.add; split <;> simp_all, hnew.cell]
      exact hj) (by intro u hu; simp [recA] at hu; rcases hu with rfl | rfl | rfl | rfl | rfl | rfl <;> rfl) (by unfold maxLen; omega) (by omega) (by simp; omega)
  rw [rcells_snoc] at ho1
  obtain ⟨oa, nn, cap, rfl, hnn⟩ : ∃ oa nn cap, v' = .slice oa nn cap ∧ nn = R.length + 1 := by
    rcases ho1.2 with ⟨rfl, h0⟩ | ⟨g, cap, _, rfl, _⟩
    · omega
    · exact ⟨_, _, _, rfl, rfl⟩
  subst hnn
  exact ⟨oa, cap, w1, hrun, by rw [List.length_append]; exact ho1, ((Fr.refl _ W).alloc _).trans hf1 (fun k _ hk => hk), fun k hk => (hk1 k hk).imp_right (fun h => by simp at h; omega)⟩
/-- The log R lies at block bl, its disk at b, its records under vr, its entries under ve; all from block B on. -/
structure LgAt (W : World) (B bl b : Nat) (vr ve : Value) (R : List Rec) (br : Bool) : Prop where
  blk : Blk W bl 87 [.pointer (some ⟨b, 0, none⟩), vr, ve, .string (headR R), .int .i64 ((endN R : Nat) : Int), .bool br]
  recs : W.ownsRow B 62 6 vr R.length (rcells R)
  ents : W.ownsRow B 9 1 ve (entR R).length ((entR R).map Value.string)
  ok : ∀ r ∈ R, validR r = true
  hb : B ≤ bl
  nr : ∀ g, vr.ownBlock = some g → g ≠ bl ∧ ve.ownBlock ≠ some g
  ne : ∀ g, ve.ownBlock = some g → g ≠ bl
/-- The blocks of a log. -/
def LFoot (bl : Nat) (vr ve : Value) (k : Nat) : Prop := k = bl ∨ vr.ownBlock = some k ∨ ve.ownBlock = some k
theorem LgAt.lt {W : World} {B bl b : Nat} {vr ve : Value} {R : List Rec} {br : Bool} (h : LgAt W B bl b vr ve R br) (k : Nat) (hk : LFoot bl vr ve k) : k < W.heap.size := by
  rcases hk with rfl | hk | hk
  · exact h.blk.lt
  · exact own_lt h.recs k hk
  · exact own_lt h.ents k hk
theorem LgAt.ge {W : World} {B bl b : Nat} {vr ve : Value} {R : List Rec} {br : Bool} (h : LgAt W B bl b vr ve R br) (k : Nat) (hk : LFoot bl vr ve k) : B ≤ k := by
  rcases hk with rfl | hk | hk
  · exact h.hb
  · exact own_ge h.recs k hk
  · exact own_ge h.ents k hk
theorem LgAt.kept {W W' : World} {B bl b : Nat} {vr ve : Value} {R : List Rec} {br : Bool} (h : LgAt W B bl b vr ve R br) (hk : ∀ k, LFoot bl vr ve k → W'.heap[k]? = W.heap[k]?) : LgAt W' B bl b vr ve R br :=
  ⟨h.blk.kept (hk _ (.inl rfl)), ownsRow_keptF h.recs (fun k e => hk k (.inr (.inl e))), ownsRow_keptF h.ents (fun k e => hk k (.inr (.inr e))), h.ok, h.hb, h.nr, h.ne⟩
theorem LgAt.below {W W' : World} {B bl b : Nat} {vr ve : Value} {R : List Rec} {br : Bool} (h : LgAt W B bl b vr ve R br) (hb : Below W.heap.size W W') : LgAt W' B bl b vr ve R br := h.kept (fun k hk => hb.block k (h.lt k hk))
theorem LgAt.fr {W W' : World} {B bl b : Nat} {vr ve : Value} {R : List Rec} {br : Bool} {S : Nat → Prop} (h : LgAt W B bl b vr ve R br) (hf : Fr S W W') (hs : ∀ k, LFoot bl vr ve k → ¬ S k) : LgAt W' B bl b vr ve R br := h.kept (fun k hk => hf.block k (h.lt k hk) (hs k hk))
theorem step_run {ops : Array Oper} {o : Oper} {a : Act} {K : Act → World → Prop} {Q : Exit → Act → World → Prop} {E : Prop} {W w' : World} {v y v' : Value} {t : TypeId} (hgd : o.guard = none) (s x : Operand)
    (ho : o.op = .call { callee := .builtin .append, args := #[s, x], argTypes := #[t, t] }) (hs : a.eval s = v) (hx : a.eval x = y) (hrun : ∀ ty, (Builtin.append_ #[t, t] ty #[v, y]).run Tryz.prog W = .ok v' w')
    (hK : K (a.put o.dst v') w') :
    if Region.wanted o (yielded ops a.tmps) = true then Oper.wp Tryz.prog o a W K Q else E := by
  have hw : Region.wanted o (yielded ops a.tmps) = true := by simp [Region.wanted, hgd]
  rw [if_pos hw]
  unfold Oper.wp
  simp [execOp, ho, resolve, invoke, builtin, hs, hx, hrun, Result.andThen]
  exact hK
theorem entR_snoc (R : List Rec) (r : Rec) : entR (R ++ [r]) = entR R ++ [entB (headR (R ++ [r])) (encB r)] := entF_snoc zero32 R r
theorem entR_len (R : List Rec) : (entR R).length = R.length := entF_len zero32 R
/-- A log while a record is added to it. -/
structure AddM (W0 : World) (B bl S : Nat) (cells : List Value) (vr ve : Value) (R : List Rec) (E : List ByteArray) (vr0 ve0 : Value) (box : List Value) (W : World) : Prop where
  blk : Blk W bl 87 cells
  recs : W.ownsRow B 62 6 vr R.length (rcells R)
  ents : W.ownsRow B 9 1 ve E.length (E.map Value.string)
  box : Blk W S 103 box
  tab : TabAt W
  fr : Fr (LFoot bl vr0 ve0) W0 W
  hr : ∀ g, vr.ownBlock = some g → g ≠ bl ∧ g ≠ S ∧ ve.ownBlock ≠ some g ∧ (vr0.ownBlock = some g ∨ W0.heap.size ≤ g)
  he : ∀ g, ve.ownBlock = some g → g ≠ bl ∧ g ≠ S ∧ (ve0.ownBlock = some g ∨ W0.heap.size ≤ g)
  hB : B ≤ W0.heap.size
  hg : 0 < B
  hbl : B ≤ bl
  hS : W0.heap.size ≤ S
  hne : bl ≠ S
theorem AddM.below {W0 : World} {B bl S : Nat} {cells : List Value} {vr ve : Value} {R : List Rec} {E : List ByteArray} {vr0 ve0 : Value} {box : List Value} {W W' : World} (h : AddM W0 B bl S cells vr ve R E vr0 ve0 box W) (hb : Below W.heap.size W W') : AddM W0 B bl S cells vr ve R E vr0 ve0 box W' :=
  ⟨h.blk.kept (hb.block _ h.blk.lt), ownsRow_keptF h.recs (fun k e => hb.block k (own_lt h.recs k e)), ownsRow_keptF h.ents (fun k e => hb.block k (own_lt h.ents k e)), h.box.kept (hb.block _ h.box.lt), h.tab.below hb, h.fr.trans (Fr.under (fun _ => False) hb) (fun _ _ e => e.elim), h.hr, h.he, h.hB, h.hg, h.hbl, h.hS, h.hne⟩
theorem AddM.frr {W0 : World} {B bl S : Nat} {cells : List Value} {vr ve : Value} {R : List Rec} {E : List ByteArray} {vr0 ve0 : Value} {box : List Value} {W W' : World} (h : AddM W0 B bl S cells vr ve R E vr0 ve0 box W) (v : Value) (hv : v = vr ∨ v = ve) (hf : Fr (fun k => v.ownBlock = some k) W W') :
    Blk W' bl 87 cells ∧ Blk W' S 103 box ∧ TabAt W' ∧ Fr (LFoot bl vr0 ve0) W0 W' := by
  have hb := h.hB
  have hgB := h.hg
  have hs := h.hS
  have hbl := h.hbl
  have ge : ∀ k, v.ownBlock = some k → B ≤ k := fun k e => by
    rcases hv with rfl | rfl
    · exact own_ge h.recs k e
    · exact own_ge h.ents k e
  have nb : v.ownBlock ≠ some bl := fun e => by
    rcases hv with rfl | rfl
    · exact (h.hr _ e).1 rfl
    · exact (h.he _ e).1 rfl
  have nS : v.ownBlock ≠ some S := fun e => by
    rcases hv with rfl | rfl
    · exact (h.hr _ e).2.1 rfl
    · exact (h.he _ e).2.1 rfl
  refine ⟨h.blk.kept (hf.block _ h.blk.lt nb), h.box.kept (hf.block _ h.box.lt nS), ?_, h.fr.trans hf (fun i hi e => ?_)⟩
  · intro i hi
    have hlt : 0 < W.heap.size := by have := h.fr.size; omega
    refine Eq.trans ?_ (h.tab i hi)
    have e := hf.block 0 hlt (fun e => by have := ge _ e; omega)
    simp only [World.cell?, e]
  · rcases hv with rfl | rfl
    · rcases (h.hr i e).2.2.2 with h1 | h1
      · exact .inr (.inl h1)
      · omega
    · rcases (h.he i e).2.2 with h1 | h1
      · exact .inr (.inr h1)
      · omega
theorem AddM.rec' {W0 : World} {B bl S : Nat} {cells : List Value} {vr ve : Value} {R : List Rec} {E : List ByteArray} {vr0 ve0 : Value} {box : List Value} {W : World} (h : AddM W0 B bl S cells vr ve R E vr0 ve0 box W) (r : Rec) (hn : R.length ≤ 1000000) :
    ∃ oa cap w', (∀ ty, (Builtin.append_ #[38, 38] ty #[vr, .slice (some ⟨W.heap.size, 0, none⟩) 1 1]).run Tryz.prog (W.alloc (.cells (recA r) 62)) = .ok (.slice oa (R.length + 1) cap) w') ∧ AddM W0 B bl S cells (.slice oa (R.length + 1) cap) ve (R ++ [r]) E vr0 ve0 box w' := by
  obtain ⟨oa, cap, w', hrun, ho, hf, hk⟩ := app_rec W B vr R r h.recs hn (by have := h.fr.size; have := h.hB; omega) 0
  refine ⟨oa, cap, w', fun ty => hrun, ?_⟩
  obtain ⟨f1, f2, f3, f4⟩ := h.frr vr (.inl rfl) hf
  have hz := h.fr.size
  have q1 := h.blk.lt
  have q2 := h.box.lt
  refine ⟨f1, ho, ownsRow_keptF h.ents (fun k e => hf.block k (own_lt h.ents k e) (fun e' => (h.hr k e').2.2.1 e)), f2, f3, f4, fun g hg => ?_, h.he, h.hB, h.hg, h.hbl, h.hS, h.hne⟩
  rcases hk g hg with h1 | h1
  · exact h.hr g h1
  · exact ⟨by omega, by omega, fun e => by have := own_lt h.ents g e; omega, .inr (by omega)⟩
theorem AddM.ent {W0 : World} {B bl S : Nat} {cells : List Value} {vr ve : Value} {R : List Rec} {E : List ByteArray} {vr0 ve0 : Value} {box : List Value} {W : World} (h : AddM W0 B bl S cells vr ve R E vr0 ve0 box W) (x : ByteArray) (hn : E.length ≤ 1000000) :
    ∃ oa cap w', (∀ ty, (Builtin.append_ #[63, 63] ty #[ve, .slice (some ⟨W.heap.size, 0, none⟩) 1 1]).run Tryz.prog (W.alloc (.cells #[.string x] 9)) = .ok (.slice oa (E.length + 1) cap) w') ∧ AddM W0 B bl S cells vr (.slice oa (E.length + 1) cap) R (E ++ [x]) vr0 ve0 box w' := by
  obtain ⟨v', w', hrun, ho, hf, hk⟩ := app_str W B ve E.length (E.map Value.string) x h.ents hn (by have := h.fr.size; have := h.hB; omega) 0
  obtain ⟨oa, cap, rfl⟩ := own_slice ho
  refine ⟨oa, cap, w', fun ty => hrun, ?_⟩
  obtain ⟨f1, f2, f3, f4⟩ := h.frr ve (.inr rfl) hf
  have hz := h.fr.size
  have q1 := h.blk.lt
  have q2 := h.box.lt
  refine ⟨f1, ownsRow_keptF h.recs (fun k e => hf.block k (own_lt h.recs k e) (h.hr k e).2.2.1), by rw [List.length_append, List.map_append]; exact ho, f2, f3, f4, fun g hg => ?_, fun g hg => ?_, h.hB, h.hg, h.hbl, h.hS, h.hne⟩
  · obtain ⟨a1, a2, a3, a4⟩ := h.hr g hg
    refine ⟨a1, a2, fun e => ?_, a4⟩
    rcases hk g e with h1 | h1
    · exact a3 h1
    · have := own_lt h.recs g hg; omega
  · rcases hk g hg with h1 | h1
    · exact h.he g h1
    · exact ⟨by omega, by omega, .inr (by omega)⟩
theorem AddM.set {W0 : World} {B bl S : Nat} {cells : List Value} {vr ve : Value} {R : List Rec} {E : List ByteArray} {vr0 ve0 : Value} {box : List Value} {W : World} (h : AddM W0 B bl S cells vr ve R E vr0 ve0 box W) (j : Nat) (u : Value) :
    AddM W0 B bl S (cells.set j u) vr ve R E vr0 ve0 box (W.setCell ⟨bl, j, none⟩ u) := by
  have e : ∀ k, k ≠ bl → (W.setCell ⟨bl, j, none⟩ u).heap[k]? = W.heap[k]? := fun k hk => Below.heap_setCell _ _ _ _ hk
  have hgB := h.hg
  have hbl := h.hbl
  refine ⟨h.blk.set j u, ownsRow_keptF h.recs (fun k ek => e k (h.hr k ek).1), ownsRow_keptF h.ents (fun k ek => e k (h.he k ek).1), h.box.kept (e _ h.hne.symm), ?_, h.fr.setCell ⟨bl, j, none⟩ _ (.inl (.inl rfl)), h.hr, h.he, h.hB, h.hg, h.hbl, h.hS, h.hne⟩
  intro i hi
  refine Eq.trans ?_ (h.tab i hi)
  have e' := e 0 (by omega)
  simp only [World.cell?, e']
def AddP (W : World) (B bl b : Nat) (vr ve : Value) (R : List Rec) (br : Bool) (r : Rec) (e : Ending) (w' : World) : Prop :=
  (∃ v, e = .returned v) ∧ ∃ vr' ve', LgAt w' B bl b vr' ve' (R ++ [r]) br ∧ (∀ k, LFoot bl vr' ve' k → LFoot bl vr ve k ∨ W.heap.size ≤ k) ∧ Fr (LFoot bl vr ve) W w'
theorem step_ent {ops : Array Oper} {o : Oper} {a : Act} {K : Act → World → Prop} {Q : Exit → Act → World → Prop} {Ee : Prop} {W0 : World} {B bl S : Nat} {cells : List Value} {vr ve : Value} {R : List Rec} {E : List ByteArray} {vr0 ve0 : Value} {box : List Value} {W : World} {x : ByteArray} {n : Nat} (hgd : o.guard = none) (s y : Operand)
    (ho : o.op = .call { callee := .builtin .append, args := #[s, y], argTypes := #[63, 63] }) (hs : a.eval s = ve) (hx : a.eval y = .slice (some ⟨W.heap.size, 0, none⟩) 1 1)
    (h : Hid (AddM W0 B bl S cells vr ve R E vr0 ve0 box W)) (hn : E.length = n) (hl : n ≤ 1000000)
    (hK : ∀ oa cap w', Hid (AddM W0 B bl S cells vr (.slice oa (n + 1) cap) R (E ++ [x]) vr0 ve0 box w') → w'.cell? ⟨bl, 2, none⟩ = cells[2]? → w'.frozen? ⟨bl, 2, none⟩ = false → K (a.put o.dst (.slice oa (n + 1) cap)) w') :
    if Region.wanted o (yielded ops a.tmps) = true then Oper.wp Tryz.prog o a (W.alloc (.cells #[.string x] 9)) K Q else Ee := by
  subst hn
  obtain ⟨oa, cap, w', hrun, hm⟩ := h.out.ent x hl
  exact step_run hgd s y ho hs hx hrun (hK oa cap w' hm (hm.blk.cell 2) (hm.blk.frozen 2))
set_option maxHeartbeats 4000000 in
set_option maxRecDepth 100000 in
theorem add_any (W : World) (B bl b : Nat) (vr ve : Value) (R : List Rec) (br : Bool) (r : Rec) (hv : validR r = true) (hn : R.length ≤ 900000) (hB : B ≤ W.heap.size) (ht : TabAt W) (hg : 0 < B) (h : LgAt W B bl b vr ve R br) :
    Calls Tryz.prog 50 #[.pointer (some ⟨bl, 0, none⟩), .agg (stA r (encB r) (headR (R ++ [r])) ((endN (R ++ [r]) : Nat) : Int))] W (AddP W B bl b vr ve R br r) := by
  have hentry := entR_snoc R r
  have hhz : (headR (R ++ [r])).size = 32 := headF_size zero32 (R ++ [r]) zero32_size
  have hez := encB_size r
  have helen := entR_len R
  obtain ⟨hd0, hhd0⟩ : ∃ hd, headR R = hd := ⟨_, rfl⟩
  obtain ⟨en0, hen0⟩ : ∃ en, endN R = en := ⟨_, rfl⟩
  obtain ⟨hd, hhd⟩ : ∃ hd, headR (R ++ [r]) = hd := ⟨_, rfl⟩
  obtain ⟨en, hen⟩ : ∃ en, endN (R ++ [r]) = en := ⟨_, rfl⟩
  obtain ⟨ec, hec⟩ : ∃ ec, encB r = ec := ⟨_, rfl⟩
  obtain ⟨S, hS⟩ : ∃ S, W.heap.size = S := ⟨_, rfl⟩
  rw [hhd, hec] at hentry
  rw [hhd] at hhz
  rw [hec] at hez
  rw [hhd, hen, hec]
  dsimp only [stA]
  have hw1 : Below W.heap.size W (W.alloc (.cells #[.int .i64 r.ch, .int .i64 r.rg, .int .i64 r.fr, .int .i64 r.fs, .int .i64 r.it, .int .i64 r.ix, .string ec, .string hd, .int .i64 ((en : Nat) : Int)] 103)) := (Below.refl _ W).alloc (Nat.le_refl _) _
  have hbx : Blk (W.alloc (.cells #[.int .i64 r.ch, .int .i64 r.rg, .int .i64 r.fr, .int .i64 r.fs, .int .i64 r.it, .int .i64 r.ix, .string ec, .string hd, .int .i64 ((en : Nat) : Int)] 103)) S 103 [.int .i64 r.ch, .int .i64 r.rg, .int .i64 r.fr, .int .i64 r.fs, .int .i64 r.it, .int .i64 r.ix, .string ec, .string hd, .int .i64 ((en : Nat) : Int)] := by
    rw [← hS]
    exact Blk.new W _ _
  have hbl := h.blk
  rw [hhd0, hen0] at hbl
  have hm0 : AddM W B bl S [.pointer (some ⟨b, 0, none⟩), vr, ve, .string hd0, .int .i64 ((en0 : Nat) : Int), .bool br] vr ve R (entR R) vr ve [.int .i64 r.ch, .int .i64 r.rg, .int .i64 r.fr, .int .i64 r.fs, .int .i64 r.it, .int .i64 r.ix, .string ec, .string hd, .int .i64 ((en : Nat) : Int)] ((W.alloc (.cells #[.int .i64 r.ch, .int .i64 r.rg, .int .i64 r.fr, .int .i64 r.fs, .int .i64 r.it, .int .i64 r.ix, .string ec, .string hd, .int .i64 ((en : Nat) : Int)] 103)).drew) :=
    ⟨(hbl.alloc _).drew, ownsRow_keptF h.recs (fun k e => hw1.block k (own_lt h.recs k e)), ownsRow_keptF h.ents (fun k e => hw1.block k (own_lt h.ents k e)), hbx.drew, (ht.below hw1).below (Below.refl _ _).drew, (Fr.under _ hw1).drew, fun g hg' => ⟨(h.nr g hg').1, by have := own_lt h.recs g hg'; omega, (h.nr g hg').2, .inl hg'⟩, fun g hg' => ⟨h.ne g hg', by have := own_lt h.ents g hg'; omega, .inl hg'⟩, hB, hg, h.hb, by omega, by have := h.blk.lt; omega⟩
  obtain ⟨W1, hW1⟩ : ∃ W1, W.alloc (.cells #[.int .i64 r.ch, .int .i64 r.rg, .int .i64 r.fr, .int .i64 r.fs, .int .i64 r.it, .int .i64 r.ix, .string ec, .string hd, .int .i64 ((en : Nat) : Int)] 103) = W1 := ⟨_, rfl⟩
  rw [hW1] at hm0
  have HW1 := Lib.hid hW1
  clear hW1
  obtain ⟨oa, cap, w2, hrun, hm1⟩ := hm0.rec' r (by omega)
  have hm2 := hm1.set 1 (.slice oa (R.length + 1) cap)
  have c1 : W1.cell? ⟨bl, 1, none⟩ = _ := hm0.blk.cell 1
  have x0 : W1.cell? ⟨S, 0, none⟩ = _ := hm0.box.cell 0
  have x1 : W1.cell? ⟨S, 1, none⟩ = _ := hm0.box.cell 1
  have x2 : W1.cell? ⟨S, 2, none⟩ = _ := hm0.box.cell 2
  have x3 : W1.cell? ⟨S, 3, none⟩ = _ := hm0.box.cell 3
  have x4 : W1.cell? ⟨S, 4, none⟩ = _ := hm0.box.cell 4
  have x5 : W1.cell? ⟨S, 5, none⟩ = _ := hm0.box.cell 5
  have d1 := hm1.blk.cell 1
  have e1 := hm1.blk.frozen 1
  simp only [List.getElem?_cons_zero, List.getElem?_cons_succ] at c1 x0 x1 x2 x3 x4 x5 d1
  dsimp only [recA] at hrun
  have HM2 := Lib.hid hm2
  have HRUN := Lib.hid hrun
  have HR := Lib.hid h
  have HB := Lib.hid hB
  have hq1 : bl < W1.heap.size := hm0.blk.lt
  have hq2 : S < W1.heap.size := hm0.box.lt
  have hvi := validR_I hv
  have HVI := Lib.hid hvi
  clear hm0 hm1 hm2 hrun h hbl hbx hw1 ht hB
  go_enter Tryz.func50, Tryz.ntmps50
  go_upto_region 1 with (fail)
  rw [HW1.out]
  dsimp only [List.set_cons_zero, List.set_cons_succ] at HM2
  go_cut [3] (fun s3 wx => s3 = .pointer (some ⟨S, 0, none⟩) ∧ Hid (AddM W B bl S [.pointer (some ⟨b, 0, none⟩), .slice oa (R.length + 1) cap, ve, .string hd0, .int .i64 ((en0 : Nat) : Int), .bool br] (.slice oa (R.length + 1) cap) ve (R ++ [r]) (entR R) vr ve [.int .i64 r.ch, .int .i64 r.rg, .int .i64 r.fr, .int .i64 r.fs, .int .i64 r.it, .int .i64 r.ix, .string ec, .string hd, .int .i64 ((en : Nat) : Int)] wx))
  case first =>
    go_region_law ((refine step_run (by rfl) _ _ (by rfl) (by rfl) (by rfl) HRUN.out ?_))
    all_goals (go_wp2_with fail; go_meet; exact ⟨rfl, HM2⟩)
  case rest =>
    obtain ⟨rfl, HM3⟩ := hcut
    clear HM2 HRUN c1 x0 x1 x2 x3 x4 x5 d1 e1 hq1 hq2
    go_upto_region 2 with (fail)
    have c2 := HM3.out.blk.cell 2
    have x6 := HM3.out.box.cell 6
    have x7 := HM3.out.box.cell 7
    have hq1 := HM3.out.blk.lt
    have hq2 := HM3.out.box.lt
    simp only [List.getElem?_cons_zero, List.getElem?_cons_succ] at c2 x6 x7
    have IE : Hid (∀ W', TabAt W' → Calls Tryz.prog 88 #[.string hd, .string ec] W' fun e w' => e = .returned (.string (entB hd ec)) ∧ Below W'.heap.size W' w') := fun W' hW' => entry_any hd ec W' (by omega) (by omega) hW'
    obtain ⟨X, hX⟩ : ∃ X, entB hd ec = X := ⟨_, rfl⟩
    rw [hX] at IE hentry
    have HEN := Lib.hid hentry
    obtain ⟨n, hRn⟩ : ∃ n, R.length = n := ⟨_, rfl⟩
    have HEL : Hid ((entR R).length = n) := by show _ = _; rw [helen, hRn]
    have hnn : n ≤ 1000000 := by omega
    clear hX hentry hRn helen
    go_cut [3] (fun s3 wx => ∃ oa3 cap3, s3 = .pointer (some ⟨S, 0, none⟩) ∧ Hid (AddM W B bl S [.pointer (some ⟨b, 0, none⟩), .slice oa (R.length + 1) cap, .slice oa3 (n + 1) cap3, .string hd0, .int .i64 ((en0 : Nat) : Int), .bool br] (.slice oa (R.length + 1) cap) (.slice oa3 (n + 1) cap3) (R ++ [r]) (entR R ++ [X]) vr ve [.int .i64 r.ch, .int .i64 r.rg, .int .i64 r.fr, .int .i64 r.fs, .int .i64 r.it, .int .i64 r.ix, .string ec, .string hd, .int .i64 ((en : Nat) : Int)] wx))
    case first =>
      go_region_law (first
        | (go_simp; (with_reducible refine (IE.out _ (HM3.out.below (Below.refl _ _).drew).tab).mono ?_); rintro e w4 ⟨rfl, hb4⟩; have HM4 := Lib.hid ((HM3.out.below (Below.refl _ _).drew).below hb4); have e2 := HM4.out.blk.cell 2; simp only [List.getElem?_cons_zero, List.getElem?_cons_succ] at e2; have hz1 := HM4.out.blk.lt; clear hb4; go_simp)
        | (refine step_ent (by rfl) _ _ (by rfl) (by rfl) (by rfl) HM4 HEL.out hnn ?_; intro oa3 cap3 w5 HM5 g1 g2; simp only [List.getElem?_cons_zero, List.getElem?_cons_succ] at g1))
      all_goals
        have HM6 := HM5.out.set 2 (.slice oa3 (n + 1) cap3)
        dsimp only [List.set_cons_zero, List.set_cons_succ] at HM6
        have HM7 := Lib.hid HM6
        clear HM6
        go_wp2_with fail
        go_meet
        exact ⟨oa3, cap3, rfl, HM7⟩
    case rest =>
      obtain ⟨oa3, cap3, rfl, HM6⟩ := hcut
      clear HM3 c2 x6 x7 hq1 hq2 IE
      go_upto_region 3 with (fail)
      have c3 := HM6.out.blk.cell 3
      have c4 := HM6.out.blk.cell 4
      have f3 := HM6.out.blk.frozen 3
      have f4 := HM6.out.blk.frozen 4
      have x7 := HM6.out.box.cell 7
      have x8 := HM6.out.box.cell 8
      simp only [List.getElem?_cons_zero, List.getElem?_cons_succ] at c3 c4 x7 x8
      have HFIN : Hid (∀ W9, AddM W B bl S [.pointer (some ⟨b, 0, none⟩), .slice oa (R.length + 1) cap, .slice oa3 (n + 1) cap3, .string hd, .int .i64 ((en : Nat) : Int), .bool br] (.slice oa (R.length + 1) cap) (.slice oa3 (n + 1) cap3) (R ++ [r]) (entR R ++ [X]) vr ve [.int .i64 r.ch, .int .i64 r.rg, .int .i64 r.fr, .int .i64 r.fs, .int .i64 r.it, .int .i64 r.ix, .string ec, .string hd, .int .i64 ((en : Nat) : Int)] W9 → ∃ vr' ve', LgAt W9 B bl b vr' ve' (R ++ [r]) br ∧ (∀ k, LFoot bl vr' ve' k → LFoot bl vr ve k ∨ W.heap.size ≤ k) ∧ Fr (LFoot bl vr ve) W W9) := by
        intro W9 h9
        refine ⟨.slice oa (R.length + 1) cap, .slice oa3 (n + 1) cap3, ⟨?_, h9.recs, ?_, ?_, h9.hbl, fun g hg' => ⟨(h9.hr g hg').1, (h9.hr g hg').2.2.1⟩, fun g hg' => (h9.he g hg').1⟩, ?_, h9.fr⟩
        · rw [hhd, hen]
          exact h9.blk
        · rw [HEN.out]
          exact h9.ents
        · intro x hx
          rcases List.mem_append.1 hx with hx | hx
          · exact HR.out.ok x hx
          · simp only [List.mem_singleton] at hx
            subst hx
            exact hv
        · intro k hk
          rcases hk with rfl | hk | hk
          · exact .inl (.inl rfl)
          · exact (h9.hr k hk).2.2.2.imp_left (fun e => .inr (.inl e))
          · exact (h9.he k hk).2.2.imp_left (fun e => .inr (.inr e))
      go_region
      all_goals
        refine gen_world (fun W9 => AddM W B bl S [.pointer (some ⟨b, 0, none⟩), .slice oa (R.length + 1) cap, .slice oa3 (n + 1) cap3, .string hd, .int .i64 ((en : Nat) : Int), .bool br] (.slice oa (R.length + 1) cap) (.slice oa3 (n + 1) cap3) (R ++ [r]) (entR R ++ [X]) vr ve [.int .i64 r.ch, .int .i64 r.rg, .int .i64 r.fr, .int .i64 r.fs, .int .i64 r.it, .int .i64 r.ix, .string ec, .string hd, .int .i64 ((en : Nat) : Int)] W9) ?_ ?_
        · first
            | exact ((HM6.out.set 3 (.string hd)).set 4 (.int .i64 ((en : Nat) : Int))).below (Below.refl _ _).drew
            | exact ((HM6.out.set 4 (.int .i64 ((en : Nat) : Int))).set 3 (.string hd)).below (Below.refl _ _).drew
            | exact (HM6.out.set 3 (.string hd)).set 4 (.int .i64 ((en : Nat) : Int))
            | exact (HM6.out.set 4 (.int .i64 ((en : Nat) : Int))).set 3 (.string hd)
        · intro W9 h9
          have h10 := HFIN.out W9 h9
          have H10 := Lib.hid h10
          clear h10 h9
          go_end0
          exact ⟨⟨_, rfl⟩, H10.out⟩
end Go.Proofs.YtfpcdlpfmlaakaaGreatDoor
