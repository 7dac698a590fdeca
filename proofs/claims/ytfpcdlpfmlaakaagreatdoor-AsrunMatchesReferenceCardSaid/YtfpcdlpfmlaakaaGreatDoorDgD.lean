/-
  The walk of digest.Sum.
  The walks of digest.hash, Chain, Leaf, Node, split.
  A slice of strings that lies in memory; the walk of digest.Root.
-/
import Derived.RangeFuncNested
import Derived.RangeFuncBound
import Derived.RangeFuncCalls
import Derived.RangeFuncLeaves
import Derived.RangeFuncBox
import Derived.Shelf.Abstract
import Derived.Shelf.RegionOpen
import Derived.WalkKit
import Derived.OwnWalkIn
import Derived.TacticsInMore
import Derived.LoopNIn
import Derived.LoopIn
import Derived.RegionIn
import Derived.BigRegionIn
import Derived.Sort.CutIn
import Derived.Outline
import Derived.Lib.Hide
import Derived.LoopTactic
import Derived.WalkSpells
import Derived.WalkLawsBesides
import Derived.IntWalk
import Derived.Lib.Join
import Derived.Lib.ItoaNum
import Derived.Deep.QuietTactic
import Derived.BigQuiet
import Derived.Deep.RegionHeld3
import Derived.Deep.DrawnRows
import Derived.Test.YtfpcdlpfmlaakaaGreatDoorDigC
import Derived.Test.YtfpcdlpfmlaakaaGreatDoorPlD
import Derived.Test.YtfpcdlpfmlaakaaGreatDoorShelf
set_option linter.unusedVariables false
set_option linter.unusedSimpArgs false
namespace Go.Proofs.YtfpcdlpfmlaakaaGreatDoor
open Go.RowKit Go.Shelf Onair
attribute [local go_sem] Oper.semAt_some
theorem wpListIn_store_row {F : Fence} {n : Nat} {P : Program} {ops : Array Oper} {rest : List Oper} {o : Oper} {a : Act} {w : World} {Q : Exit → Act → World → Prop} (hgd : o.guard = none) (ty : TypeId) (x y : Operand) (ho : o.op = .store ty x y)
    (g : Nat) (cells : Array Value) (hx : a.eval x = .pointer (some ⟨g, 0, none⟩)) (hy : a.eval y = .agg cells)
    (t : TypeId) (old : Array Value) (hg : w.heap[g]? = some (.cells old t (0, 0))) (hi : (P.info? ty).map (·.size) = some cells.size)
    (hold : old.size = cells.size) (h1 : cells.all (·.oneCell') = true)
    (h : wpListIn F n P ops Q rest (a.put o.dst undef) (w.setRow g cells)) : wpListIn F n P ops Q (o :: rest) a w := by
  refine wpListIn_plain hgd fun K hK' => ?_
  unfold Oper.wpIn
  refine ⟨?_, ?_⟩
  · simp [Oper.about, ho]
  · rw [Oper.semAt_plain F _ _ (by rw [ho]; intro c hc'; cases hc')]
    simp only [execOp, ho, hx, hy, Instr.storeAt, Instr.sureAddr, Sem.run_bind, Sem.run_pure, Result.andThen_ok, run_storeVar_row w g t ty old cells hg hi hold h1]
    exact hK' _ _ h
theorem blocks_in (n : Nat) (s : ByteArray) (w : World) :
    CallsIn Fence.wide n Tryz.prog 114 #[.string s] w fun e w' => e = .returned (.func (.func 127) #[] #[.pointer (some ⟨w.heap.size, 0, none⟩)]) ∧ w' = w.alloc (.cells #[.string s] 9) := by
  refine callsIn_of_wp Tryz.func114 rfl trivial ?_ rfl
  simp only [Tryz.ntmps114, List.size_toArray, List.length_cons, List.length_nil, Nat.reduceAdd, Nat.reduceSub, Array.replicate_succ, Array.replicate_zero, List.push_toArray, List.append_toArray, List.nil_append, List.cons_append]
  gi_wp2
  go_ret
  exact ⟨rfl, rfl⟩
theorem KpC.of_fr {b : Nat} {A B : World} {S : Nat → Prop} (h : Fr S A B) (hS : ∀ k, k < A.heap.size → S k → k = b) : KpC b A B :=
  ⟨h.size, fun k o hk _ hb => (h.block k (Array.getElem?_eq_some_iff.1 hk).1 (fun hs => hb (hS k (Array.getElem?_eq_some_iff.1 hk).1 hs))).trans hk⟩
theorem Fr.others' {S : Nat → Prop} {W W' : World} (h : Fr S W W') (hS : ∀ k o, S k → W.heap[k]? = some o → o.isCells = true) : KeepsOthers W W' :=
  ⟨h.size, fun k o hk ho => by
    refine (h.block k (Array.getElem?_eq_some_iff.1 hk).1 (fun hs => ?_)).trans hk
    rw [hS k o hs hk] at ho
    cases ho⟩
theorem Blk.cells' {W : World} {g : Nat} {t : TypeId} {l : List Value} (h : Blk W g t l) {o : Obj} (ho : W.heap[g]? = some o) : o.isCells = true := by
  rw [show W.heap[g]? = _ from h] at ho
  cases ho
  rfl
/- XBODYX -/
theorem shaS_ok (l : List UInt8) (k : Nat) : (shaS l k).Ok := by
  cases k with
  | zero => show s8init.Ok; exact ⟨by decide, by decide, by decide, by decide, by decide, by decide, by decide, by decide⟩
  | succ k => exact S8.add_ok _ _
/-- The head of a round of Sum: the words, the table. -/
structure SI (w : World) (r : Nat) (L : List UInt8) (k : Nat) (W : World) : Prop where
  b : Blk W r 171 (w32 (shaS L k).list)
  tab : TabAt W
  gl : 0 < r
  hr : w.heap.size = r
  bel : Below w.heap.size w W
theorem SI.below {w : World} {r : Nat} {L : List UInt8} {k : Nat} {A A' : World} (h : SI w r L k A) (hb : Below (r + 1) A A') : SI w r L k A' :=
  ⟨h.b.kept (hb.block r (by omega)), fun i hi => (hb.cell (p := ⟨0, i, none⟩) (by have := h.gl; show 0 < r + 1; omega)).trans (h.tab i hi), h.gl, h.hr, h.bel.trans (hb.mono (by rw [h.hr]; omega))⟩
theorem SI.fr {w : World} {r : Nat} {L : List UInt8} {k : Nat} {A A' : World} {S : Nat → Prop} (h : SI w r L k A) (hf : Fr S A A') (hS : ∀ c, S c → r < c) : SI w r L k A' :=
  h.below (hf.below (r + 1) h.b.lt (fun c hc => hS c hc))
theorem SI.next {w : World} {r : Nat} {L : List UInt8} {k : Nat} {A A' : World} (h : SI w r L k A) (hb : Below A.heap.size A A') : SI w r L (k + 1) (A'.setRow r (w32 (shaS L (k + 1)).list).toArray) := by
  have hl := h.b.lt
  have h2 := h.below (hb.mono hl)
  have hgl := h.gl
  have hhr := h.hr
  refine ⟨h2.b.setRow _, fun i hi => ?_, h.gl, h.hr, ?_⟩
  · have := h2.tab i hi
    refine Eq.trans ?_ this
    have e := heap_setRow_other A' r 0 (w32 (shaS L (k + 1)).list).toArray (by omega)
    simp only [World.cell?, e]
  · exact h2.bel.trans (((Fr.refl (fun c => c = r) A').setRow r _ (.inl rfl)).below _ (by have := h2.b.lt; omega) (fun c hc => by subst hc; omega))
theorem list8 (s : S8) : s.list.length = 8 := rfl
theorem list8_lt (s : S8) (h : s.Ok) (i : Nat) : wAt s.list i < 4294967296 := by
  obtain ⟨o1, o2, o3, o4, o5, o6, o7, o8⟩ := h
  refine wAt_lt ?_ i
  intro x hx
  simp only [S8.list, List.mem_cons, List.not_mem_nil, or_false] at hx
  rcases hx with rfl | rfl | rfl | rfl | rfl | rfl | rfl | rfl <;> assumption
theorem outL_len (ws : List Nat) (n : Nat) : (outL ws n).length = n := by simp [outL]
theorem outL_succ (ws : List Nat) (n : Nat) : outL ws (n + 1) = outL ws n ++ [outB ws n] := by simp [outL, List.range_succ]
/-- The sum under way. -/
structure SO (w : World) (r : Nat) (L : List UInt8) (kb D : Nat) (i : Nat) (W : World) : Prop where
  si : SI w r L (nBlk L) W
  o : Blk W kb 177 (cellsB (outL (shaS L (nBlk L)).list i ++ List.replicate (32 - i) 0))
  d : W.heap[D]? = some (.deferred (some []))
  hrk : r < kb
theorem SO.next {w : World} {r : Nat} {L : List UInt8} {kb D i : Nat} {W : World} (h : SO w r L kb D i W) (hi : i < 32) (v : Int) (hv : ((outB (shaS L (nBlk L)).list i).toNat : Int) = v) : SO w r L kb D (i + 1) (W.setCell ⟨kb, i, none⟩ (.int .u8 v)) := by
  have hrk := h.hrk
  refine ⟨h.si.fr ((Fr.refl (fun c => c = kb) W).setCell ⟨kb, i, none⟩ _ (.inl rfl)) (fun c hc => by omega), ?_, ?_, h.hrk⟩
  · have := h.o.set i (.int .u8 v)
    rw [← hv, ← cellsB_set] at this
    obtain ⟨z, hz⟩ : ∃ z, 32 - i = z + 1 := ⟨31 - i, by omega⟩
    rw [hz] at this
    have e : (outL (shaS L (nBlk L)).list i ++ List.replicate (z + 1) 0).set i (outB (shaS L (nBlk L)).list i) = outL (shaS L (nBlk L)).list (i + 1) ++ List.replicate (32 - (i + 1)) 0 := by
      rw [List.set_append_right _ _ (by rw [outL_len]; exact Nat.le_refl _), outL_len, Nat.sub_self, List.replicate_succ, outL_succ, show 32 - (i + 1) = z by omega]
      simp
    rw [e] at this
    rw [← hv]
    exact this
  · rw [Below.heap_setCell _ _ _ _ (by
      show D ≠ kb
      intro e
      subst e
      have := h.o
      unfold Blk at this
      rw [h.d] at this
      cases this)]
    exact h.d
theorem conv_row {W : World} {g : Nat} {t : TypeId} {l : List UInt8} (h : Blk W g t (cellsB l)) (n cap : Nat) (hn : l.length = n) : (convert 42 9 (.slice (some ⟨g, 0, none⟩) n cap)).run Tryz.prog W = .ok (.string ⟨l.toArray⟩) W := by
  subst hn
  exact run_convert_bytes_back (P := Tryz.prog) W 42 9 5 ⟨g, 0, none⟩ cap l Tryz.underlying42 Tryz.underlying5 Tryz.underlying9 (fun j hj => by
    rw [show ((⟨g, 0, none⟩ : Addr).add j) = ⟨g, j, none⟩ from by unfold Addr.add; split <;> simp_all, h.cell, cellsB_get l j hj])
/-- Between the head of a round and its body. -/
def SM (w : World) (r : Nat) (L : List UInt8) (k : Nat) (x : List UInt8) (a : Act) (W : World) : Prop :=
  ∃ b s, a = { tmps := #[.string s, undef, .string ⟨#[]⟩, .pointer (some ⟨r, 0, none⟩), .pointer (some ⟨b, 0, none⟩), undef, undef, .agg #[.int .u32 1779033703, .int .u32 3144134277, .int .u32 1013904242, .int .u32 2773480762, .int .u32 1359893119, .int .u32 2600822924, .int .u32 528734635, .int .u32 1541459225], .string s, .func (.func 127) #[] #[.pointer (some ⟨r + 1, 0, none⟩)], .agg (cellsB x).toArray, undef, undef, undef, undef, undef, undef, undef, undef, undef, undef, undef, undef, undef, undef, undef, undef, undef, undef, undef, undef, undef], defers := [] } ∧ Blk W b 175 (cellsB x) ∧ r < b ∧ SI w r L k W
theorem fr_row {A B : World} (h : Below A.heap.size A B) (r : Nat) (cs : Array Value) : Fr (fun c => c = r) A (B.setRow r cs) :=
  (⟨h.os, h.tape, h.output, h.size, fun k hk _ => h.block k hk⟩ : Fr (fun c => c = r) A B).setRow r cs (.inl rfl)
theorem size64c : (Tryz.prog.info? 175).map (·.size) = some 64 := by kernel_rfl
theorem size8w : (Tryz.prog.info? 171).map (·.size) = some 8 := by kernel_rfl
theorem u8_one (l : List UInt8) : (cellsB l).toArray.all (·.oneCell') = true := by
  rw [Array.all_eq_true_iff_forall_mem]
  intro v hv
  simp [cellsB] at hv
  obtain ⟨x, _, rfl⟩ := hv
  rfl
theorem compress_in (n : Nat) (s : S8) (bs : List UInt8) (w : World) (hs : s.Ok) (hb : bs.length = 64) (ht : TabAt w) (a b : Array Value) (ha : (w32 s.list).toArray = a) (hbb : (cellsB bs).toArray = b) :
    CallsIn Fence.wide n Tryz.prog 115 #[.agg a, .agg b] w fun e w' => e = .returned (.agg (w32 (compr s bs).list).toArray) ∧ Below w.heap.size w w' := by
  subst ha
  subst hbb
  exact callsIn_wide.2 (compress_any s bs w hs hb ht)
set_option maxHeartbeats 4000000 in
set_option maxRecDepth 100000 in
theorem sum_in (s : ByteArray) (w : World) (hs : s.size ≤ 1000000000) (ht : TabAt w) :
    CallsIn Fence.wide 5 Tryz.prog 96 #[.string s] w fun e w' => e = .returned (.string ⟨(shaL s.data.toList).toArray⟩) ∧ Below w.heap.size w w' := by
  have HT := Lib.hid ht
  obtain ⟨r, hr⟩ : ∃ r, w.heap.size = r := ⟨_, rfl⟩
  have HR := Lib.hid hr
  clear ht hr
  refine callsIn_of_wp_marks Tryz.func96 rfl trivial ?_ rfl
  simp only [Tryz.ntmps96, List.size_toArray, List.length_cons, List.length_nil, Nat.reduceAdd, Nat.reduceSub, Array.replicate_succ, Array.replicate_zero, List.push_toArray, List.append_toArray, List.nil_append, List.cons_append]
  gi_wp2
  refine ⟨trivial, (blocks_in _ _ _).mono ?_⟩
  rintro e w' ⟨rfl, rfl⟩
  gi_wp2
  rw [HR.out]
  have hW0 : SI w r s.data.toList 0 ((w.alloc (.cells #[.int .u32 1779033703, .int .u32 3144134277, .int .u32 1013904242, .int .u32 2773480762, .int .u32 1359893119, .int .u32 2600822924, .int .u32 528734635, .int .u32 1541459225] 171)).alloc (.cells #[.string s] 9)) := by
    have hb : Below w.heap.size w ((w.alloc (.cells #[.int .u32 1779033703, .int .u32 3144134277, .int .u32 1013904242, .int .u32 2773480762, .int .u32 1359893119, .int .u32 2600822924, .int .u32 528734635, .int .u32 1541459225] 171)).alloc (.cells #[.string s] 9)) := ((Below.refl _ w).alloc (Nat.le_refl _) _).alloc (by simp) _
    exact ⟨by rw [← HR.out]; exact (Blk.new w 171 (w32 s8init.list)).alloc _, HT.out.below hb, by rw [← HR.out]; exact HT.out.lt, HR.out, hb⟩
  have hbs : Blk ((w.alloc (.cells #[.int .u32 1779033703, .int .u32 3144134277, .int .u32 1013904242, .int .u32 2773480762, .int .u32 1359893119, .int .u32 2600822924, .int .u32 528734635, .int .u32 1541459225] 171)).alloc (.cells #[.string s] 9)) (r + 1) 9 [.string s] := by
    have := Blk.new (w.alloc (.cells #[.int .u32 1779033703, .int .u32 3144134277, .int .u32 1013904242, .int .u32 2773480762, .int .u32 1359893119, .int .u32 2600822924, .int .u32 528734635, .int .u32 1541459225] 171)) 9 [.string s]
    rw [World.size_alloc, HR.out] at this
    exact this
  have hsz : ((w.alloc (.cells #[.int .u32 1779033703, .int .u32 3144134277, .int .u32 1013904242, .int .u32 2773480762, .int .u32 1359893119, .int .u32 2600822924, .int .u32 528734635, .int .u32 1541459225] 171)).alloc (.cells #[.string s] 9)).heap.size = r + 2 := by rw [World.size_alloc, World.size_alloc, HR.out]
  generalize (w.alloc (.cells #[.int .u32 1779033703, .int .u32 3144134277, .int .u32 1013904242, .int .u32 2773480762, .int .u32 1359893119, .int .u32 2600822924, .int .u32 528734635, .int .u32 1541459225] 171)).alloc (.cells #[.string s] 9) = W0 at hW0 hbs hsz ⊢
  refine range_free (b := r) (xs := (List.range (nBlk s.data.toList)).map (blkAt s.data.toList)) (encs := bEncs) (w0 := W0) rfl (by decide) (gf := 127) (lb := #[.pointer (some ⟨r + 1, 0, none⟩)]) rfl trivial (enters_of Tryz.func127 (by kernel_rfl) rfl)
    (blocks_seq 4 (r + 1) r s W0 hs hbs (by omega) (by omega)) (Below.refl _ _) (fun _ => rfl)
    (SI w r s.data.toList) (fun k A A' h hf => h.fr hf (fun c hc => by omega)) hW0 (SM w r s.data.toList) ?hMid ?hassign ?hbody ?hdone
  case hMid =>
    rintro k x a' A l o o' ⟨b, s', ha, hb, hbr, hsi⟩ hl ho hlt
    have hlr : r < l := by omega
    refine ⟨b, s', ha, hb.kept (World.putObj_heap_other (fun e => ?_)), hbr, hsi.fr (Fr.put (S := fun c => c = l) A l o' rfl) (fun c hc => by omega)⟩
    subst e
    rw [hb.cells' hl] at ho
    cases ho
  case hassign =>
    intro l k x W K hI hx hWs hK
    have hx64 : x.length = 64 := by
      have hk : k < ((List.range (nBlk s.data.toList)).map (blkAt s.data.toList)).length := (List.getElem?_eq_some_iff.1 hx).1
      rw [List.length_map, List.length_range] at hk
      rw [xs_at _ _ hk] at hx
      cases hx
      exact blkAt_len _ _ hk
    have hnew0 : Blk (W.alloc (.cells #[.int .u8 0, .int .u8 0, .int .u8 0, .int .u8 0, .int .u8 0, .int .u8 0, .int .u8 0, .int .u8 0, .int .u8 0, .int .u8 0, .int .u8 0, .int .u8 0, .int .u8 0, .int .u8 0, .int .u8 0, .int .u8 0, .int .u8 0, .int .u8 0, .int .u8 0, .int .u8 0, .int .u8 0, .int .u8 0, .int .u8 0, .int .u8 0, .int .u8 0, .int .u8 0, .int .u8 0, .int .u8 0, .int .u8 0, .int .u8 0, .int .u8 0, .int .u8 0, .int .u8 0, .int .u8 0, .int .u8 0, .int .u8 0, .int .u8 0, .int .u8 0, .int .u8 0, .int .u8 0, .int .u8 0, .int .u8 0, .int .u8 0, .int .u8 0, .int .u8 0, .int .u8 0, .int .u8 0, .int .u8 0, .int .u8 0, .int .u8 0, .int .u8 0, .int .u8 0, .int .u8 0, .int .u8 0, .int .u8 0, .int .u8 0, .int .u8 0, .int .u8 0, .int .u8 0, .int .u8 0, .int .u8 0, .int .u8 0, .int .u8 0, .int .u8 0] 175)) W.heap.size 175 [.int .u8 0, .int .u8 0, .int .u8 0, .int .u8 0, .int .u8 0, .int .u8 0, .int .u8 0, .int .u8 0, .int .u8 0, .int .u8 0, .int .u8 0, .int .u8 0, .int .u8 0, .int .u8 0, .int .u8 0, .int .u8 0, .int .u8 0, .int .u8 0, .int .u8 0, .int .u8 0, .int .u8 0, .int .u8 0, .int .u8 0, .int .u8 0, .int .u8 0, .int .u8 0, .int .u8 0, .int .u8 0, .int .u8 0, .int .u8 0, .int .u8 0, .int .u8 0, .int .u8 0, .int .u8 0, .int .u8 0, .int .u8 0, .int .u8 0, .int .u8 0, .int .u8 0, .int .u8 0, .int .u8 0, .int .u8 0, .int .u8 0, .int .u8 0, .int .u8 0, .int .u8 0, .int .u8 0, .int .u8 0, .int .u8 0, .int .u8 0, .int .u8 0, .int .u8 0, .int .u8 0, .int .u8 0, .int .u8 0, .int .u8 0, .int .u8 0, .int .u8 0, .int .u8 0, .int .u8 0, .int .u8 0, .int .u8 0, .int .u8 0, .int .u8 0] := Blk.new W 175 [.int .u8 0, .int .u8 0, .int .u8 0, .int .u8 0, .int .u8 0, .int .u8 0, .int .u8 0, .int .u8 0, .int .u8 0, .int .u8 0, .int .u8 0, .int .u8 0, .int .u8 0, .int .u8 0, .int .u8 0, .int .u8 0, .int .u8 0, .int .u8 0, .int .u8 0, .int .u8 0, .int .u8 0, .int .u8 0, .int .u8 0, .int .u8 0, .int .u8 0, .int .u8 0, .int .u8 0, .int .u8 0, .int .u8 0, .int .u8 0, .int .u8 0, .int .u8 0, .int .u8 0, .int .u8 0, .int .u8 0, .int .u8 0, .int .u8 0, .int .u8 0, .int .u8 0, .int .u8 0, .int .u8 0, .int .u8 0, .int .u8 0, .int .u8 0, .int .u8 0, .int .u8 0, .int .u8 0, .int .u8 0, .int .u8 0, .int .u8 0, .int .u8 0, .int .u8 0, .int .u8 0, .int .u8 0, .int .u8 0, .int .u8 0, .int .u8 0, .int .u8 0, .int .u8 0, .int .u8 0, .int .u8 0, .int .u8 0, .int .u8 0, .int .u8 0]
    have hnew := hnew0.setRow (cellsB x)
    have hfr : Fr (fun _ => False) W ((W.alloc (.cells #[.int .u8 0, .int .u8 0, .int .u8 0, .int .u8 0, .int .u8 0, .int .u8 0, .int .u8 0, .int .u8 0, .int .u8 0, .int .u8 0, .int .u8 0, .int .u8 0, .int .u8 0, .int .u8 0, .int .u8 0, .int .u8 0, .int .u8 0, .int .u8 0, .int .u8 0, .int .u8 0, .int .u8 0, .int .u8 0, .int .u8 0, .int .u8 0, .int .u8 0, .int .u8 0, .int .u8 0, .int .u8 0, .int .u8 0, .int .u8 0, .int .u8 0, .int .u8 0, .int .u8 0, .int .u8 0, .int .u8 0, .int .u8 0, .int .u8 0, .int .u8 0, .int .u8 0, .int .u8 0, .int .u8 0, .int .u8 0, .int .u8 0, .int .u8 0, .int .u8 0, .int .u8 0, .int .u8 0, .int .u8 0, .int .u8 0, .int .u8 0, .int .u8 0, .int .u8 0, .int .u8 0, .int .u8 0, .int .u8 0, .int .u8 0, .int .u8 0, .int .u8 0, .int .u8 0, .int .u8 0, .int .u8 0, .int .u8 0, .int .u8 0, .int .u8 0] 175)).setRow W.heap.size (cellsB x).toArray) := ((Fr.refl _ W).alloc _).setRow _ _ (.inr (Nat.le_refl _))
    have HQ : Hid (SM w r s.data.toList k x { tmps := #[.string s, undef, .string ⟨#[]⟩, .pointer (some ⟨r, 0, none⟩), .pointer (some ⟨W.heap.size, 0, none⟩), undef, undef, .agg #[.int .u32 1779033703, .int .u32 3144134277, .int .u32 1013904242, .int .u32 2773480762, .int .u32 1359893119, .int .u32 2600822924, .int .u32 528734635, .int .u32 1541459225], .string s, .func (.func 127) #[] #[.pointer (some ⟨r + 1, 0, none⟩)], .agg (cellsB x).toArray, undef, undef, undef, undef, undef, undef, undef, undef, undef, undef, undef, undef, undef, undef, undef, undef, undef, undef, undef, undef, undef], defers := [] } ((W.alloc (.cells #[.int .u8 0, .int .u8 0, .int .u8 0, .int .u8 0, .int .u8 0, .int .u8 0, .int .u8 0, .int .u8 0, .int .u8 0, .int .u8 0, .int .u8 0, .int .u8 0, .int .u8 0, .int .u8 0, .int .u8 0, .int .u8 0, .int .u8 0, .int .u8 0, .int .u8 0, .int .u8 0, .int .u8 0, .int .u8 0, .int .u8 0, .int .u8 0, .int .u8 0, .int .u8 0, .int .u8 0, .int .u8 0, .int .u8 0, .int .u8 0, .int .u8 0, .int .u8 0, .int .u8 0, .int .u8 0, .int .u8 0, .int .u8 0, .int .u8 0, .int .u8 0, .int .u8 0, .int .u8 0, .int .u8 0, .int .u8 0, .int .u8 0, .int .u8 0, .int .u8 0, .int .u8 0, .int .u8 0, .int .u8 0, .int .u8 0, .int .u8 0, .int .u8 0, .int .u8 0, .int .u8 0, .int .u8 0, .int .u8 0, .int .u8 0, .int .u8 0, .int .u8 0, .int .u8 0, .int .u8 0, .int .u8 0, .int .u8 0, .int .u8 0, .int .u8 0] 175)).setRow W.heap.size (cellsB x).toArray)) :=
      ⟨_, _, rfl, hnew, by omega, hI.fr hfr (fun c hc => hc.elim)⟩
    have HO := Lib.hid (hfr.others' (fun k o h => h.elim))
    have HC : Hid (KpC r W ((W.alloc (.cells #[.int .u8 0, .int .u8 0, .int .u8 0, .int .u8 0, .int .u8 0, .int .u8 0, .int .u8 0, .int .u8 0, .int .u8 0, .int .u8 0, .int .u8 0, .int .u8 0, .int .u8 0, .int .u8 0, .int .u8 0, .int .u8 0, .int .u8 0, .int .u8 0, .int .u8 0, .int .u8 0, .int .u8 0, .int .u8 0, .int .u8 0, .int .u8 0, .int .u8 0, .int .u8 0, .int .u8 0, .int .u8 0, .int .u8 0, .int .u8 0, .int .u8 0, .int .u8 0, .int .u8 0, .int .u8 0, .int .u8 0, .int .u8 0, .int .u8 0, .int .u8 0, .int .u8 0, .int .u8 0, .int .u8 0, .int .u8 0, .int .u8 0, .int .u8 0, .int .u8 0, .int .u8 0, .int .u8 0, .int .u8 0, .int .u8 0, .int .u8 0, .int .u8 0, .int .u8 0, .int .u8 0, .int .u8 0, .int .u8 0, .int .u8 0, .int .u8 0, .int .u8 0, .int .u8 0, .int .u8 0, .int .u8 0, .int .u8 0, .int .u8 0, .int .u8 0] 175)).setRow W.heap.size (cellsB x).toArray)) := KpC.of_fr hfr (fun k _ h => h.elim)
    obtain ⟨bc, hbc⟩ : ∃ bc, (cellsB x).toArray = bc := ⟨_, rfl⟩
    have hsz2 : (Tryz.prog.info? 175).map (·.size) = some bc.size := by rw [size64c, ← hbc, List.size_toArray, cellsB_len, hx64]
    have hone : bc.all (·.oneCell') = true := by rw [← hbc]; exact u8_one x
    have hbs64 : 64 = bc.size := by rw [← hbc, List.size_toArray, cellsB_len, hx64]
    dsimp only [bEncs]
    rw [hbc] at HQ HO HC ⊢
    have HSZ := Lib.hid hsz2
    have HONE := Lib.hid hone
    have H64 := Lib.hid hbs64
    have HB0 := Lib.hid hnew0
    clear hsz2 hone hbs64 hbc hnew0 hnew hfr hx hx64 hsz hI hWs
    gi_wp2_with (refine wpListIn_store_row (o := ⟨none, _, _, _, _, _⟩) rfl 175 _ _ rfl W.heap.size bc rfl rfl 175 _ HB0.out HSZ.out H64.out HONE.out ?_)
    exact hK _ _ HO.out HC.out HQ.out
  case hbody =>
    rintro l k x a' W ⟨b, s', rfl, hb, hbr, hsi⟩ hx
    have hx64 : x.length = 64 := by
      have hk : k < ((List.range (nBlk s.data.toList)).map (blkAt s.data.toList)).length := (List.getElem?_eq_some_iff.1 hx).1
      rw [List.length_map, List.length_range] at hk
      rw [xs_at _ _ hk] at hx
      cases hx
      exact blkAt_len _ _ hk
    have hxe : x = blkAt s.data.toList k := by
      have hk : k < ((List.range (nBlk s.data.toList)).map (blkAt s.data.toList)).length := (List.getElem?_eq_some_iff.1 hx).1
      rw [List.length_map, List.length_range] at hk
      rw [xs_at _ _ hk] at hx
      cases hx
      rfl
    have HXE := Lib.hid hxe
    have hwl : (w32 (shaS s.data.toList k).list).length = 8 := rfl
    obtain ⟨bc, hbc⟩ : ∃ bc, (cellsB x).toArray = bc := ⟨_, rfl⟩
    obtain ⟨wc, hwc⟩ : ∃ wc, (w32 (shaS s.data.toList k).list).toArray = wc := ⟨_, rfl⟩
    have hb1 : W.heap[b]? = some (.cells bc 175 (0, 0)) := by rw [← hbc]; exact hb
    have hb2 : W.heap[r]? = some (.cells wc 171 (0, 0)) := by rw [← hwc]; exact hsi.b
    have hs1 : (Tryz.prog.info? 175).map (·.size) = some bc.size := by rw [size64c, ← hbc, List.size_toArray, cellsB_len, hx64]
    have hs2 : (Tryz.prog.info? 171).map (·.size) = some wc.size := by rw [size8w, ← hwc]; rfl
    have HB1 := Lib.hid hb1
    have HB2 := Lib.hid hb2
    have HS1 := Lib.hid hs1
    have HS2 := Lib.hid hs2
    have HCI := Lib.hid (fun n => (compress_in n (shaS s.data.toList k) x W (shaS_ok _ _) hx64 hsi.tab wc bc hwc hbc).inRound l)
    have HSI := Lib.hid hsi
    have HRL := Lib.hid hsi.b.lt
    have hwz : wc.size = 8 := by rw [← hwc, List.size_toArray, hwl]
    have HWZ := Lib.hid hwz
    clear hb1 hb2 hs1 hs2 hb hsi hx hwc hbc hwz hxe hwl
    gi_wp2_with (first | (refine wpListIn_load_row (o := ⟨some 11, _, _, _, _, _⟩) rfl 171 _ rfl r rfl 171 wc (0, 0) _ HB2.out Tryz.underlying171 rfl HS2.out ?_; try simp only [Act.put, List.setIfInBounds_toArray, List.set_cons_zero, List.set_cons_succ]) | (refine wpListIn_load_row (o := ⟨some 12, _, _, _, _, _⟩) rfl 175 _ rfl b rfl 175 bc (0, 0) _ HB1.out Tryz.underlying175 rfl HS1.out ?_; try simp only [Act.put, List.setIfInBounds_toArray, List.set_cons_zero, List.set_cons_succ]))
    refine ⟨trivial, (HCI.out _).mono ?_⟩
    rintro e W2 ⟨rfl, hb2⟩
    have hn := HSI.out.next hb2
    have hsh : shaS s.data.toList (k + 1) = compr (shaS s.data.toList k) x := by rw [HXE.out]; rfl
    rw [hsh] at hn
    obtain ⟨nc, hnc⟩ : ∃ nc, (w32 (compr (shaS s.data.toList k) x).list).toArray = nc := ⟨_, rfl⟩
    rw [hnc] at hn ⊢
    have hr2 : W2.heap[r]? = some (.cells wc 171 (0, 0)) := (hb2.block r HRL.out).trans HB2.out
    have hnz : (Tryz.prog.info? 171).map (·.size) = some nc.size := by rw [size8w, ← hnc]; rfl
    have hno : wc.size = nc.size := by rw [HWZ.out, ← hnc]; rfl
    have hn1 : nc.all (·.oneCell') = true := by rw [← hnc]; exact w32_one _
    have hfr : Fr (fun c => c = r) W (W2.setRow r nc) := fr_row hb2 r nc
    have HFR := Lib.hid hfr
    have HN := Lib.hid hn
    have HR2 := Lib.hid hr2
    have HNZ := Lib.hid hnz
    have HNO := Lib.hid hno
    have HN1 := Lib.hid hn1
    clear hn hr2 hnz hno hn1 hfr hsh hnc hb2 HB1 HS1 HS2 HCI
    gi_wp2_with (refine wpListIn_store_row (o := ⟨none, _, _, _, _, _⟩) rfl 171 _ _ rfl r nc rfl rfl 171 wc HR2.out HNZ.out HNO.out HN1.out ?_)
    exact ⟨HFR.out.others' (fun k o hk ho => by subst hk; rw [HB2.out] at ho; cases ho; rfl), KpC.of_fr HFR.out (fun _ _ h => h), HN.out⟩
  case hdone =>
    intro D W hD hsi hK
    have hnb : ((List.range (nBlk s.data.toList)).map (blkAt s.data.toList)).length = nBlk s.data.toList := by simp
    rw [hnb] at hsi
    have HSI := Lib.hid hsi
    have HKD := Lib.hid hK
    obtain ⟨kb, hkb⟩ : ∃ kb, W.heap.size = kb := ⟨_, rfl⟩
    have hrk : r < kb := by have := hsi.b.lt; omega
    have h0 : SO w r s.data.toList kb D 0 (W.alloc (.cells #[.int .u8 0, .int .u8 0, .int .u8 0, .int .u8 0, .int .u8 0, .int .u8 0, .int .u8 0, .int .u8 0, .int .u8 0, .int .u8 0, .int .u8 0, .int .u8 0, .int .u8 0, .int .u8 0, .int .u8 0, .int .u8 0, .int .u8 0, .int .u8 0, .int .u8 0, .int .u8 0, .int .u8 0, .int .u8 0, .int .u8 0, .int .u8 0, .int .u8 0, .int .u8 0, .int .u8 0, .int .u8 0, .int .u8 0, .int .u8 0, .int .u8 0, .int .u8 0] 177)) := by
      refine ⟨hsi.fr ((Fr.refl (fun _ => False) W).alloc _) (fun c hc => hc.elim), ?_, ?_, hrk⟩
      · rw [← hkb]
        exact Blk.new W 177 (cellsB (List.replicate 32 0))
      · rw [Below.heap_alloc _ _ _ (Array.getElem?_eq_some_iff.1 hK).1]
        exact hK
    have H0 := Lib.hid h0
    have HKB := Lib.hid hkb
    clear hnb hsi hK hkb h0 HSI HKD
    gi_wp2
    rw [HKB.out]
    generalize W.alloc (.cells #[.int .u8 0, .int .u8 0, .int .u8 0, .int .u8 0, .int .u8 0, .int .u8 0, .int .u8 0, .int .u8 0, .int .u8 0, .int .u8 0, .int .u8 0, .int .u8 0, .int .u8 0, .int .u8 0, .int .u8 0, .int .u8 0, .int .u8 0, .int .u8 0, .int .u8 0, .int .u8 0, .int .u8 0, .int .u8 0, .int .u8 0, .int .u8 0, .int .u8 0, .int .u8 0, .int .u8 0, .int .u8 0, .int .u8 0, .int .u8 0, .int .u8 0, .int .u8 0] 177) = W1 at H0 ⊢
    gi_loopw [14] (fun x wr => ∃ i : Nat, i ≤ 32 ∧ x = .int .i64 i ∧ Hid (SO w r s.data.toList kb D i wr)) (fun x _ => 32 - (intOf x).toNat)
    case atStart => exact ⟨0, Nat.zero_le _, rfl, H0⟩
    case round =>
      clear H0
      obtain ⟨i, hi, rfl, HS⟩ := hrel
      by_cases hi32 : i = 32
      · obtain rfl := hi32
        rw [show ((32 : Nat) : Int) = 32 from rfl]
        have hob := HS.out.o
        rw [show 32 - 32 = 0 from rfl, List.replicate_zero, List.append_nil] at hob
        have hcv := conv_row hob 32 32 (outL_len _ _)
        have hdl := HS.out.d
        have htk := run_takeDeferred (P := Tryz.prog) hdl
        have hbe := HS.out.si.bel
        have HBE := Lib.hid (hbe.trans ((Fr.put (S := fun c => c = D) wr D (.deferred none) rfl).below w.heap.size hbe.size (fun c hc => by subst hc; rw [HR.out]; omega)))
        have HTK := Lib.hid htk
        have hsh : outL (shaS s.data.toList (nBlk s.data.toList)).list 32 = shaL s.data.toList := rfl
        rw [hsh] at hcv
        clear hob hdl htk hbe hsh HS
        gi_wp2
        refine ⟨by simp, .inl ⟨D, _, rfl, HTK.out, ?_⟩⟩
        exact ⟨.string ⟨(shaL s.data.toList).toArray⟩, by simp [results, Tryz.f96, go_sem], rfl, HBE.out⟩
      · have hi1 : i < 32 := by omega
        have q1 : (i : Int) < 32 := by omega
        obtain ⟨q, hq⟩ : ∃ q, i / 4 = q := ⟨_, rfl⟩
        obtain ⟨j, hj⟩ : ∃ j, i % 4 = j := ⟨_, rfl⟩
        obtain ⟨t, ht⟩ : ∃ t, 24 - 8 * j = t := ⟨_, rfl⟩
        have eq : (i : Int) / 4 = (q : Int) := by omega
        have ej : (i : Int) % 4 = (j : Int) := by omega
        have et : (24 : Int) - 8 * (j : Int) = (t : Int) := by omega
        have hq8 : q < 8 := by omega
        have hq9 : (q : Int) < 8 := by omega
        have hj4 : j < 4 := by omega
        have ht24 : t ≤ 24 := by omega
        have c0 := HS.out.si.b.cell q
        rw [w32_at _ _ (by rw [list8]; exact hq8)] at c0
        have hx := list8_lt (shaS s.data.toList (nBlk s.data.toList)) (shaS_ok _ _) q
        have hv : ((outB (shaS s.data.toList (nBlk s.data.toList)).list i).toNat : Int) = (wAt (shaS s.data.toList (nBlk s.data.toList)).list q : Int) / 2 ^ t % 256 := by
          unfold outB
          rw [UInt8.toNat_ofNat', hq, hj, ht]
          simp
        generalize wAt (shaS s.data.toList (nBlk s.data.toList)).list q = x at c0 hx hv
        have HN := Lib.hid (HS.out.next hi1 _ hv)
        obtain ⟨u0, cm⟩ : ∃ u, wr.cell? ⟨kb, i, none⟩ = some u := ⟨_, by rw [HS.out.o.cell, cellsB_get _ i (by rw [List.length_append, outL_len, List.length_replicate]; omega)]⟩
        have fm := HS.out.o.frozen i
        have hkl : kb < wr.heap.size := HS.out.o.lt
        have hrl : r < wr.heap.size := HS.out.si.b.lt
        clear hv hq hj ht hi32
        gi_wp2
        go_roundw
        case rel => exact ⟨i + 1, by omega, by go_num, HN⟩
        case measure => simp [intOf]; omega
theorem sum_any (s : ByteArray) (w : World) (hs : s.size ≤ 1000000000) (ht : TabAt w) :
    Calls Tryz.prog 96 #[.string s] w fun e w' => e = .returned (.string (shaB s)) ∧ Below w.heap.size w w' :=
  callsIn_wide.1 (sum_in s w hs ht)
end Go.Proofs.YtfpcdlpfmlaakaaGreatDoor
namespace Go.Proofs.YtfpcdlpfmlaakaaGreatDoor
open Go.RowKit Onair
theorem TabAt.after {w w' : World} {n : Nat} (h : TabAt w) (hb : Below n w w') (hn : w.heap.size ≤ n) : TabAt w' := h.below (hb.mono hn)
def catB : List ByteArray → ByteArray
  | [] => ⟨#[]⟩
  | x :: r => x ++ catB r
theorem join_empty (xs : List (List UInt8)) : Lib.join xs [] = xs.flatten := by
  induction xs with
  | nil => rfl
  | cons x r ih => rw [Lib.join_cons]; simp [Lib.joinTail]
set_option maxHeartbeats 1000000 in
theorem hash_any (bk c : Nat) (xs : List ByteArray) (w : World) (hcells : ∀ (j : Nat) x, xs[j]? = some x → w.cell? ⟨bk, 0 + j, none⟩ = some (.string x)) (hbk : bk < w.heap.size) (hN : xs.length ≤ 3) (hcap : xs.length ≤ c)
    (m : ByteArray) (hm : (xs.map (·.data.toList)).flatten = m.data.toList) (hlen : m.size ≤ 1000000000) (ht : TabAt w) :
    Calls Tryz.prog 85 #[.slice (some ⟨bk, 0, none⟩) xs.length c] w fun e w' => e = .returned (.string (shaB m)) ∧ Below w.heap.size w w' := by
  have hj : Lib.join (xs.map (·.data.toList)) (⟨#[]⟩ : ByteArray).data.toList = m.data.toList := (join_empty _).trans hm
  have HJ := (Tryz.strings_Join bk 0 c xs ⟨#[]⟩ w hcells hbk (by omega) hcap (by rw [hj, blen]; omega))
  rw [hj] at HJ
  have HJ := Lib.hid HJ
  have HT := Lib.hid ht
  have hml : (⟨m.data.toList.toArray⟩ : ByteArray) = m := by cases m; rfl
  rw [hml] at HJ
  clear hj hm ht hcells hml
  go_enter Tryz.func85, Tryz.ntmps85
  go_wp2_with fail
  refine HJ.out.mono ?_
  rintro e w1 ⟨rfl, hb1⟩
  have HB1 := Lib.hid hb1
  clear hb1
  go_wp2_with fail
  refine (sum_any m w1 hlen (HT.out.below HB1.out)).mono ?_
  rintro e w2 ⟨rfl, hb2⟩
  have HB2 := Lib.hid (HB1.out.trans (hb2.mono HB1.out.size))
  clear hb2
  go_wp2_with fail
  go_ret
  exact ⟨rfl, HB2.out⟩
theorem leafS_data (s : ByteArray) : ([⟨#[0]⟩, s].map (·.data.toList)).flatten = (leafS s).data.toList := by simp [leafS]
theorem nodeS_data (a b : ByteArray) : ([⟨#[1]⟩, a, b].map (·.data.toList)).flatten = (nodeS a b).data.toList := by simp [nodeS]
theorem chainS_data (a b : ByteArray) : ([⟨#[2]⟩, a, b].map (·.data.toList)).flatten = (chainS a b).data.toList := by simp [chainS]
theorem leafS_size (s : ByteArray) : (leafS s).size = s.size + 1 := by
  show (0 :: s.data.toList).toArray.size = _
  simp
theorem nodeS_size (a b : ByteArray) : (nodeS a b).size = a.size + b.size + 1 := by
  show (1 :: (a.data.toList ++ b.data.toList)).toArray.size = _
  simp
theorem chainS_size (a b : ByteArray) : (chainS a b).size = a.size + b.size + 1 := by
  show (2 :: (a.data.toList ++ b.data.toList)).toArray.size = _
  simp
theorem cells_new (w : World) (xs : List ByteArray) (t : TypeId) (j : Nat) (x : ByteArray) (h : xs[j]? = some x) : (w.alloc (.cells (xs.map Value.string).toArray t)).cell? ⟨w.heap.size, 0 + j, none⟩ = some (.string x) := by
  rw [(Blk.new w t (xs.map Value.string)).cell, Nat.zero_add, List.getElem?_map, h]
  rfl
set_option maxHeartbeats 1000000 in
theorem leaf_any (s : ByteArray) (w : World) (hs : s.size ≤ 900000000) (ht : TabAt w) :
    Calls Tryz.prog 97 #[.string s] w fun e w' => e = .returned (.string (leafB s)) ∧ Below w.heap.size w w' := by
  have hb0 : Below w.heap.size w (w.alloc (.cells #[.string ⟨#[0]⟩, .string s] 9)) := (Below.refl _ w).alloc (Nat.le_refl _) _
  have HH := Lib.hid (hash_any w.heap.size 2 [⟨#[0]⟩, s] _ (cells_new w [⟨#[0]⟩, s] 9) (by simp) (by simp) (by simp) (leafS s) (leafS_data s) (by rw [leafS_size]; omega) (ht.below hb0))
  have HB := Lib.hid hb0
  clear ht hb0
  go_enter Tryz.func97, Tryz.ntmps97
  go_wp2_with fail
  refine HH.out.mono ?_
  rintro e w2 ⟨rfl, hb2⟩
  have HB2 := Lib.hid (HB.out.trans (hb2.mono HB.out.size))
  clear hb2
  go_wp2_with fail
  go_ret
  exact ⟨rfl, HB2.out⟩
set_option maxHeartbeats 1000000 in
theorem node_any (a b : ByteArray) (w : World) (ha : a.size ≤ 400000000) (hb : b.size ≤ 400000000) (ht : TabAt w) :
    Calls Tryz.prog 98 #[.string a, .string b] w fun e w' => e = .returned (.string (nodeB a b)) ∧ Below w.heap.size w w' := by
  have hb0 : Below w.heap.size w (w.alloc (.cells #[.string ⟨#[1]⟩, .string a, .string b] 9)) := (Below.refl _ w).alloc (Nat.le_refl _) _
  have HH := Lib.hid (hash_any w.heap.size 3 [⟨#[1]⟩, a, b] _ (cells_new w [⟨#[1]⟩, a, b] 9) (by simp) (by simp) (by simp) (nodeS a b) (nodeS_data a b) (by rw [nodeS_size]; omega) (ht.below hb0))
  have HB := Lib.hid hb0
  clear ht hb0
  go_enter Tryz.func98, Tryz.ntmps98
  go_wp2_with fail
  refine HH.out.mono ?_
  rintro e w2 ⟨rfl, hb2⟩
  have HB2 := Lib.hid (HB.out.trans (hb2.mono HB.out.size))
  clear hb2
  go_wp2_with fail
  go_ret
  exact ⟨rfl, HB2.out⟩
set_option maxHeartbeats 1000000 in
theorem chain_any (a b : ByteArray) (w : World) (ha : a.size ≤ 400000000) (hb : b.size ≤ 400000000) (ht : TabAt w) :
    Calls Tryz.prog 41 #[.string a, .string b] w fun e w' => e = .returned (.string (chainB a b)) ∧ Below w.heap.size w w' := by
  have hb0 : Below w.heap.size w (w.alloc (.cells #[.string ⟨#[2]⟩, .string a, .string b] 9)) := (Below.refl _ w).alloc (Nat.le_refl _) _
  have HH := Lib.hid (hash_any w.heap.size 3 [⟨#[2]⟩, a, b] _ (cells_new w [⟨#[2]⟩, a, b] 9) (by simp) (by simp) (by simp) (chainS a b) (chainS_data a b) (by rw [chainS_size]; omega) (ht.below hb0))
  have HB := Lib.hid hb0
  clear ht hb0
  go_enter Tryz.func41, Tryz.ntmps41
  go_wp2_with fail
  refine HH.out.mono ?_
  rintro e w2 ⟨rfl, hb2⟩
  have HB2 := Lib.hid (HB.out.trans (hb2.mono HB.out.size))
  clear hb2
  go_wp2_with fail
  go_ret
  exact ⟨rfl, HB2.out⟩
theorem bitLen_log (x : Nat) (h : x ≠ 0) (h2 : x < 2 ^ 64) : Lib.bitLen x = x.log2 + 1 := by
  obtain ⟨h1, h3, h4⟩ := Lib.bitLenAux_bounds 64 x h2 h
  have : x.log2 = Lib.bitLen x - 1 := by
    rw [Nat.log2_eq_iff h]
    refine ⟨h3, ?_⟩
    have e : Lib.bitLen x - 1 + 1 = Lib.bitLen x := Nat.sub_add_cancel h1
    rw [e]
    exact h4
  have h1' : 1 ≤ Lib.bitLen x := h1
  omega
set_option maxHeartbeats 1000000 in
theorem split_any (n : Nat) (w : World) (h2 : 2 ≤ n) (hn : n ≤ 9223372036854775807) :
    Calls Tryz.prog 95 #[.int .i64 (n : Int)] w fun e w' => e = .returned (.int .i64 (splitN n : Nat)) ∧ w = w' := by
  have hb : Lib.bitLen (n - 1) = (n - 1).log2 + 1 := bitLen_log _ (by omega) (by omega)
  have hk : (n - 1).log2 < 63 := (Nat.log2_lt (by omega)).2 (by omega)
  have hs : splitN n = 2 ^ (n - 1).log2 := rfl
  have hl := splitN_lt n h2
  have HC := Tryz.bits_Len ((n : Int) - 1) w (by omega) (by omega)
  rw [show ((n : Int) - 1).toNat = n - 1 from by omega, hb] at HC
  have HC := Lib.hid HC
  obtain ⟨k, hkk⟩ : ∃ k, (n - 1).log2 = k := ⟨_, rfl⟩
  obtain ⟨S, hS⟩ : ∃ S, splitN n = S := ⟨_, rfl⟩
  rw [hkk] at HC hk hs
  rw [hS] at hs hl
  have HS := Lib.hid hs
  have HSS := Lib.hid hS
  have h1 : (0 : Int) ≤ (n : Int) - 1 := by omega
  have hk0 : ((k + 1 : Nat) : Int) - 1 = (k : Int) := by omega
  clear hb hs hkk hS
  go_enter Tryz.func95, Tryz.ntmps95
  go_wp2_with fail
  refine HC.out.mono ?_
  rintro e w1 ⟨rfl, hw⟩
  obtain rfl : w1 = w := hw
  go_wp2_with fail
  go_ret
  refine ⟨ret_int ?_, rfl⟩
  rw [HSS.out, show (2 : Int) ^ k = (S : Int) from by rw [HS.out]; simp]
  unfold wrap64
  omega
end Go.Proofs.YtfpcdlpfmlaakaaGreatDoor
namespace Go.Proofs.YtfpcdlpfmlaakaaGreatDoor
open Go.RowKit Onair
attribute [local go_sem ↓] Go.wp_at_zero Go.wp_at_succ
/-- Strings lie at the address. -/
structure RdB (W : World) (b o : Nat) (l : List ByteArray) : Prop where
  lt : b < W.heap.size
  cell : ∀ (j : Nat) (x : ByteArray), l[j]? = some x → W.cell? ⟨b, o + j, none⟩ = some (.string x)
def RdS (W : World) (oa : Option Addr) (l : List ByteArray) : Prop := l = [] ∨ ∃ b o, oa = some ⟨b, o, none⟩ ∧ RdB W b o l
theorem RdB.kept {W W' : World} {b o : Nat} {l : List ByteArray} (h : RdB W b o l) (hb : Below W.heap.size W W') : RdB W' b o l :=
  ⟨Nat.lt_of_lt_of_le h.lt hb.size, fun j x hj => (hb.cell (p := ⟨b, o + j, none⟩) h.lt).trans (h.cell j x hj)⟩
theorem RdS.kept {W W' : World} {oa : Option Addr} {l : List ByteArray} (h : RdS W oa l) (hb : Below W.heap.size W W') : RdS W' oa l := by
  rcases h with h | ⟨b, o, e, h⟩
  · exact .inl h
  · exact .inr ⟨b, o, e, h.kept hb⟩
theorem RdB.take {W : World} {b o : Nat} {l : List ByteArray} (h : RdB W b o l) (k : Nat) : RdB W b o (l.take k) :=
  ⟨h.lt, fun j x hj => h.cell j x (by
    rw [List.getElem?_take] at hj
    split at hj
    · exact hj
    · cases hj)⟩
theorem RdB.drop {W : World} {b o : Nat} {l : List ByteArray} (h : RdB W b o l) (k : Nat) : RdB W b (o + k) (l.drop k) :=
  ⟨h.lt, fun j x hj => by
    rw [List.getElem?_drop] at hj
    rw [Nat.add_assoc]
    exact h.cell (k + j) x hj⟩
theorem RdB.rds {W : World} {b o : Nat} {l : List ByteArray} (h : RdB W b o l) : RdS W (some ⟨b, o, none⟩) l := .inr ⟨b, o, rfl, h⟩
theorem RdS.some {W : World} {oa : Option Addr} {l : List ByteArray} (h : RdS W oa l) (h0 : 0 < l.length) : ∃ b o, oa = some ⟨b, o, none⟩ ∧ RdB W b o l := by
  rcases h with rfl | h
  · simp at h0
  · exact h
def SzB (m : Nat) (l : List ByteArray) : Prop := ∀ x ∈ l, x.size ≤ m
theorem SzB.take {m : Nat} {l : List ByteArray} (h : SzB m l) (k : Nat) : SzB m (l.take k) := fun x hx => h x (List.mem_of_mem_take hx)
theorem SzB.drop {m : Nat} {l : List ByteArray} (h : SzB m l) (k : Nat) : SzB m (l.drop k) := fun x hx => h x (List.mem_of_mem_drop hx)
/-- The world at hand lies above the first one. -/
def Up (w W : World) : Prop := Hid (Below w.heap.size w W)
theorem Up.refl (w : World) : Up w w := Lib.hid (Below.refl _ _)
theorem Up.next {w a b : World} (hb : Below a.heap.size a b) (h : Up w a) : Up w b := Lib.hid (h.out.trans (hb.mono h.out.size))
theorem Up.drew {w a : World} (h : Up w a) : Up w a.drew := Lib.hid h.out.drew
set_option maxHeartbeats 2000000 in
theorem root_any : ∀ (N : Nat) (l : List ByteArray) (oa : Option Addr) (n c : Nat) (w : World), l.length ≤ N → l.length = n → n ≤ c → c ≤ 9223372036854775807 → n ≤ 1000000 → SzB 300000000 l → RdS w oa l → TabAt w →
    Calls Tryz.prog 70 #[.slice oa n c] w fun e w' => e = .returned (.string (rootL l)) ∧ Below w.heap.size w w' := by
  intro N
  induction N with
  | zero =>
    intro l oa n c w hN hn hc hcm hnm hs hr ht
    obtain rfl : l = [] := List.eq_nil_of_length_eq_zero (by omega)
    obtain rfl : n = 0 := by simpa using hn.symm
    have HH := Lib.hid (sum_any emptyB w (by decide) ht)
    have HR : Hid (rootL [] = shaB emptyB) := rfl
    clear hr ht hs hN hn
    go_enter Tryz.func70, Tryz.ntmps70
    go_wp2_with fail
    refine HH.out.mono ?_
    rintro e w2 ⟨rfl, hb2⟩
    have HB2 := Lib.hid hb2
    clear hb2
    go_wp2_with fail
    go_ret
    exact ⟨rfl, HB2.out⟩
  | succ N ih =>
    intro l oa n c w hN hn hc hcm hnm hs hr ht
    by_cases h0 : n = 0
    · exact ih l oa n c w (by omega) hn hc hcm hnm hs hr ht
    · obtain ⟨b, o, rfl, hrb⟩ := hr.some (by omega)
      by_cases h1 : n = 1
      · obtain rfl := h1
        obtain ⟨x, rfl⟩ : ∃ x, l = [x] := List.length_eq_one_iff.1 hn
        have c0 := hrb.cell 0 x rfl
        have HH := Lib.hid (leaf_any x w (by have := hs x (by simp); omega) ht)
        have HR : Hid (rootL [x] = leafB x) := rfl
        rw [Nat.add_zero] at c0
        clear hr hrb ht hs hN hn ih h0
        go_enter Tryz.func70, Tryz.ntmps70
        go_wp2_with fail
        refine HH.out.mono ?_
        rintro e w2 ⟨rfl, hb2⟩
        have HB2 := Lib.hid hb2
        clear hb2
        go_wp2_with fail
        go_ret
        exact ⟨HR.out ▸ rfl, HB2.out⟩
      · have h2 : 2 ≤ l.length := by omega
        have hk1 := splitN_lt l.length h2
        have hk2 := splitN_pos l.length
        obtain ⟨hl1, hl2⟩ := split_lens l h2
        have HSP := Lib.hid (split_any l.length w h2 (by omega))
        have HRT := Lib.hid (rootL_two l h2)
        obtain ⟨k, hk⟩ : ∃ k, splitN l.length = k := ⟨_, rfl⟩
        rw [hk] at hk1 hk2 hl1 hl2 HSP HRT
        rw [hn] at HSP hk1 hl2
        have IL : Hid (∀ W, Up w W → Calls Tryz.prog 70 #[.slice (some ⟨b, o, none⟩) k c] W fun e w' => e = .returned (.string (rootL (l.take k))) ∧ Below W.heap.size W w') :=
          fun W hW => ih (l.take k) _ k c W (by omega) hl1 (by omega) hcm (by omega) (hs.take k) (hrb.kept hW.out |>.take k |>.rds) (ht.below hW.out)
        have IR : Hid (∀ W, Up w W → Calls Tryz.prog 70 #[.slice (some ⟨b, o + k, none⟩) (n - k) (c - k)] W fun e w' => e = .returned (.string (rootL (l.drop k))) ∧ Below W.heap.size W w') :=
          fun W hW => ih (l.drop k) _ (n - k) (c - k) W (by omega) hl2 (by omega) (by omega) (by omega) (hs.drop k) (hrb.kept hW.out |>.drop k |>.rds) (ht.below hW.out)
        have s1 := rootL_size (l.take k)
        have s2 := rootL_size (l.drop k)
        obtain ⟨R1, hR1⟩ : ∃ R1, rootL (l.take k) = R1 := ⟨_, rfl⟩
        obtain ⟨R2, hR2⟩ : ∃ R2, rootL (l.drop k) = R2 := ⟨_, rfl⟩
        rw [hR1] at IL s1 HRT
        rw [hR2] at IR s2 HRT
        have IN : Hid (∀ W, Up w W → Calls Tryz.prog 98 #[.string R1, .string R2] W fun e w' => e = .returned (.string (nodeB R1 R2)) ∧ Below W.heap.size W w') :=
          fun W hW => node_any R1 R2 W (by omega) (by omega) (ht.below hW.out)
        have HU := Up.refl w
        have n0 : ((n : Int) == 0) = false := by rw [beq_eq_false_iff_ne]; omega
        have n1 : ((n : Int) == 1) = false := by rw [beq_eq_false_iff_ne]; omega
        have k0 : (0 : Int) ≤ (k : Int) := by omega
        have kc : (k : Int) ≤ (c : Int) := by omega
        have kn : (k : Int) ≤ (n : Int) := by omega
        have kk : (k : Int) < (c : Int) := by omega
        have nc : (n : Int) ≤ (c : Int) := by omega
        have kne : ¬ k = c := by omega
        clear hr hrb ht hs hN hn ih h0 h1 s1 s2 hR1 hR2 hl1 hl2 hk h2 hk1 hk2
        go_enter Tryz.func70, Tryz.ntmps70
        go_wp2_with fail
        refine HSP.out.mono ?_
        rintro e w2 ⟨rfl, rfl⟩
        go_wp2_with fail
        go_region_held3 (fun W => Up w W) (first | assumption | exact Up.next (by assumption) (by assumption) | exact Up.drew (by assumption)) (first | ((with_reducible refine (IL.out _ (by assumption)).mono ?_); rintro e w' ⟨rfl, hb⟩) | ((with_reducible refine (IR.out _ (by assumption)).mono ?_); rintro e w' ⟨rfl, hb⟩) | ((with_reducible refine (IN.out _ (by assumption)).mono ?_); rintro e w' ⟨rfl, hb⟩))
        go_wp2_with fail
        go_ret
        refine ⟨HRT.out ▸ rfl, ?_⟩
        exact Hid.out (by assumption)
end Go.Proofs.YtfpcdlpfmlaakaaGreatDoor
