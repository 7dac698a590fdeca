/-
  The walk of digest.Sum.
-/
import Derived.RangeFuncNested
import Derived.RangeFuncBound
import Derived.RangeFuncCalls
import Derived.RangeFuncLeaves
import Derived.RangeFuncBox
import Derived.Shelf.Abstract
import Derived.Shelf.RegionOpen
import Derived.WalkKit
import Derived.OwnWalkIn
import Derived.TacticsInMore
import Derived.LoopNIn
import Derived.LoopIn
import Derived.RegionIn
import Derived.BigRegionIn
import Derived.Sort.CutIn
import Derived.Outline
import Derived.Lib.Hide
import Derived.Test.YtggnldljfjhhcaaDoorDigC
import Derived.Test.YtggnldljfjhhcaaDoorDigTree
set_option linter.unusedVariables false
set_option linter.unusedSimpArgs false
namespace Go.Proofs.YtggnldljfjhhcaaDoor
open Go.RowKit Go.Shelf Onair
attribute [local go_sem] Oper.semAt_some
theorem wpListIn_store_row {F : Fence} {n : Nat} {P : Program} {ops : Array Oper} {rest : List Oper} {o : Oper} {a : Act} {w : World} {Q : Exit → Act → World → Prop} (hgd : o.guard = none) (ty : TypeId) (x y : Operand) (ho : o.op = .store ty x y)
    (g : Nat) (cells : Array Value) (hx : a.eval x = .pointer (some ⟨g, 0, none⟩)) (hy : a.eval y = .agg cells)
    (t : TypeId) (old : Array Value) (hg : w.heap[g]? = some (.cells old t (0, 0))) (hi : (P.info? ty).map (·.size) = some cells.size)
    (hold : old.size = cells.size) (h1 : cells.all (·.oneCell') = true)
    (h : wpListIn F n P ops Q rest (a.put o.dst undef) (w.setRow g cells)) : wpListIn F n P ops Q (o :: rest) a w := by
  refine wpListIn_plain hgd fun K hK' => ?_
  unfold Oper.wpIn
  refine ⟨?_, ?_⟩
  · simp [Oper.about, ho]
  · rw [Oper.semAt_plain F _ _ (by rw [ho]; intro c hc'; cases hc')]
    simp only [execOp, ho, hx, hy, Instr.storeAt, Instr.sureAddr, Sem.run_bind, Sem.run_pure, Result.andThen_ok, run_storeVar_row w g t ty old cells hg hi hold h1]
    exact hK' _ _ h
theorem blocks_in (n : Nat) (s : ByteArray) (w : World) :
    CallsIn Fence.wide n Tryd.prog 43 #[.string s] w fun e w' => e = .returned (.func (.func 50) #[] #[.pointer (some ⟨w.heap.size, 0, none⟩)]) ∧ w' = w.alloc (.cells #[.string s] 9) := by
  refine callsIn_of_wp Tryd.func43 rfl trivial ?_ rfl
  simp only [Tryd.ntmps43, List.size_toArray, List.length_cons, List.length_nil, Nat.reduceAdd, Nat.reduceSub, Array.replicate_succ, Array.replicate_zero, List.push_toArray, List.append_toArray, List.nil_append, List.cons_append]
  gi_wp2
  go_ret
  exact ⟨rfl, rfl⟩
theorem KpC.of_fr {b : Nat} {A B : World} {S : Nat → Prop} (h : Fr S A B) (hS : ∀ k, k < A.heap.size → S k → k = b) : KpC b A B :=
  ⟨h.size, fun k o hk _ hb => (h.block k (Array.getElem?_eq_some_iff.1 hk).1 (fun hs => hb (hS k (Array.getElem?_eq_some_iff.1 hk).1 hs))).trans hk⟩
theorem Fr.others' {S : Nat → Prop} {W W' : World} (h : Fr S W W') (hS : ∀ k o, S k → W.heap[k]? = some o → o.isCells = true) : KeepsOthers W W' :=
  ⟨h.size, fun k o hk ho => by
    refine (h.block k (Array.getElem?_eq_some_iff.1 hk).1 (fun hs => ?_)).trans hk
    rw [hS k o hs hk] at ho
    cases ho⟩
theorem Blk.cells' {W : World} {g : Nat} {t : TypeId} {l : List Value} (h : Blk W g t l) {o : Obj} (ho : W.heap[g]? = some o) : o.isCells = true := by
  rw [show W.heap[g]? = _ from h] at ho
  cases ho
  rfl
/- XBODYX -/
theorem shaS_ok (l : List UInt8) (k : Nat) : (shaS l k).Ok := by
  cases k with
  | zero => show s8init.Ok; exact ⟨by decide, by decide, by decide, by decide, by decide, by decide, by decide, by decide⟩
  | succ k => exact S8.add_ok _ _
/-- The head of a round of Sum: the words, the table. -/
structure SI (w : World) (r : Nat) (L : List UInt8) (k : Nat) (W : World) : Prop where
  b : Blk W r 55 (w32 (shaS L k).list)
  tab : TabAt W
  gl : 0 < r
  hr : w.heap.size = r
  bel : Below w.heap.size w W
theorem SI.below {w : World} {r : Nat} {L : List UInt8} {k : Nat} {A A' : World} (h : SI w r L k A) (hb : Below (r + 1) A A') : SI w r L k A' :=
  ⟨h.b.kept (hb.block r (by omega)), fun i hi => (hb.cell (p := ⟨0, i, none⟩) (by have := h.gl; show 0 < r + 1; omega)).trans (h.tab i hi), h.gl, h.hr, h.bel.trans (hb.mono (by rw [h.hr]; omega))⟩
theorem SI.fr {w : World} {r : Nat} {L : List UInt8} {k : Nat} {A A' : World} {S : Nat → Prop} (h : SI w r L k A) (hf : Fr S A A') (hS : ∀ c, S c → r < c) : SI w r L k A' :=
  h.below (hf.below (r + 1) h.b.lt (fun c hc => hS c hc))
theorem SI.next {w : World} {r : Nat} {L : List UInt8} {k : Nat} {A A' : World} (h : SI w r L k A) (hb : Below A.heap.size A A') : SI w r L (k + 1) (A'.setRow r (w32 (shaS L (k + 1)).list).toArray) := by
  have hl := h.b.lt
  have h2 := h.below (hb.mono hl)
  have hgl := h.gl
  have hhr := h.hr
  refine ⟨h2.b.setRow _, fun i hi => ?_, h.gl, h.hr, ?_⟩
  · have := h2.tab i hi
    refine Eq.trans ?_ this
    have e := heap_setRow_other A' r 0 (w32 (shaS L (k + 1)).list).toArray (by omega)
    simp only [World.cell?, e]
  · exact h2.bel.trans (((Fr.refl (fun c => c = r) A').setRow r _ (.inl rfl)).below _ (by have := h2.b.lt; omega) (fun c hc => by subst hc; omega))
theorem list8 (s : S8) : s.list.length = 8 := rfl
theorem list8_lt (s : S8) (h : s.Ok) (i : Nat) : wAt s.list i < 4294967296 := by
  obtain ⟨o1, o2, o3, o4, o5, o6, o7, o8⟩ := h
  refine wAt_lt ?_ i
  intro x hx
  simp only [S8.list, List.mem_cons, List.not_mem_nil, or_false] at hx
  rcases hx with rfl | rfl | rfl | rfl | rfl | rfl | rfl | rfl <;> assumption
theorem outL_len (ws : List Nat) (n : Nat) : (outL ws n).length = n := by simp [outL]
theorem outL_succ (ws : List Nat) (n : Nat) : outL ws (n + 1) = outL ws n ++ [outB ws n] := by simp [outL, List.range_succ]
/-- The sum under way. -/
structure SO (w : World) (r : Nat) (L : List UInt8) (kb D : Nat) (i : Nat) (W : World) : Prop where
  si : SI w r L (nBlk L) W
  o : Blk W kb 61 (cellsB (outL (shaS L (nBlk L)).list i ++ List.replicate (32 - i) 0))
  d : W.heap[D]? = some (.deferred (some []))
  hrk : r < kb
theorem SO.next {w : World} {r : Nat} {L : List UInt8} {kb D i : Nat} {W : World} (h : SO w r L kb D i W) (hi : i < 32) (v : Int) (hv : ((outB (shaS L (nBlk L)).list i).toNat : Int) = v) : SO w r L kb D (i + 1) (W.setCell ⟨kb, i, none⟩ (.int .u8 v)) := by
  have hrk := h.hrk
  refine ⟨h.si.fr ((Fr.refl (fun c => c = kb) W).setCell ⟨kb, i, none⟩ _ (.inl rfl)) (fun c hc => by omega), ?_, ?_, h.hrk⟩
  · have := h.o.set i (.int .u8 v)
    rw [← hv, ← cellsB_set] at this
    obtain ⟨z, hz⟩ : ∃ z, 32 - i = z + 1 := ⟨31 - i, by omega⟩
    rw [hz] at this
    have e : (outL (shaS L (nBlk L)).list i ++ List.replicate (z + 1) 0).set i (outB (shaS L (nBlk L)).list i) = outL (shaS L (nBlk L)).list (i + 1) ++ List.replicate (32 - (i + 1)) 0 := by
      rw [List.set_append_right _ _ (by rw [outL_len]; exact Nat.le_refl _), outL_len, Nat.sub_self, List.replicate_succ, outL_succ, show 32 - (i + 1) = z by omega]
      simp
    rw [e] at this
    rw [← hv]
    exact this
  · rw [Below.heap_setCell _ _ _ _ (by
      show D ≠ kb
      intro e
      subst e
      have := h.o
      unfold Blk at this
      rw [h.d] at this
      cases this)]
    exact h.d
theorem conv_row {W : World} {g : Nat} {t : TypeId} {l : List UInt8} (h : Blk W g t (cellsB l)) (n cap : Nat) (hn : l.length = n) : (convert 44 9 (.slice (some ⟨g, 0, none⟩) n cap)).run Tryd.prog W = .ok (.string ⟨l.toArray⟩) W := by
  subst hn
  exact run_convert_bytes_back (P := Tryd.prog) W 44 9 5 ⟨g, 0, none⟩ cap l Tryd.underlying44 Tryd.underlying5 Tryd.underlying9 (fun j hj => by
    rw [show ((⟨g, 0, none⟩ : Addr).add j) = ⟨g, j, none⟩ from by unfold Addr.add; split <;> simp_all, h.cell, cellsB_get l j hj])
/-- Between the head of a round and its body. -/
def SM (w : World) (r : Nat) (L : List UInt8) (k : Nat) (x : List UInt8) (a : Act) (W : World) : Prop :=
  ∃ b s, a = { tmps := #[.string s, undef, .string ⟨#[]⟩, .pointer (some ⟨r, 0, none⟩), .pointer (some ⟨b, 0, none⟩), undef, undef, .agg #[.int .u32 1779033703, .int .u32 3144134277, .int .u32 1013904242, .int .u32 2773480762, .int .u32 1359893119, .int .u32 2600822924, .int .u32 528734635, .int .u32 1541459225], .string s, .func (.func 50) #[] #[.pointer (some ⟨r + 1, 0, none⟩)], .agg (cellsB x).toArray, undef, undef, undef, undef, undef, undef, undef, undef, undef, undef, undef, undef, undef, undef, undef, undef, undef, undef, undef, undef, undef], defers := [] } ∧ Blk W b 59 (cellsB x) ∧ r < b ∧ SI w r L k W
theorem fr_row {A B : World} (h : Below A.heap.size A B) (r : Nat) (cs : Array Value) : Fr (fun c => c = r) A (B.setRow r cs) :=
  (⟨h.os, h.tape, h.output, h.size, fun k hk _ => h.block k hk⟩ : Fr (fun c => c = r) A B).setRow r cs (.inl rfl)
theorem size64c : (Tryd.prog.info? 59).map (·.size) = some 64 := by kernel_rfl
theorem size32c : (Tryd.prog.info? 61).map (·.size) = some 32 := by kernel_rfl
theorem size8w : (Tryd.prog.info? 55).map (·.size) = some 8 := by kernel_rfl
theorem u8_one (l : List UInt8) : (cellsB l).toArray.all (·.oneCell') = true := by
  rw [Array.all_eq_true_iff_forall_mem]
  intro v hv
  simp [cellsB] at hv
  obtain ⟨x, _, rfl⟩ := hv
  rfl
theorem compress_in (n : Nat) (s : S8) (bs : List UInt8) (w : World) (hs : s.Ok) (hb : bs.length = 64) (ht : TabAt w) (a b : Array Value) (ha : (w32 s.list).toArray = a) (hbb : (cellsB bs).toArray = b) :
    CallsIn Fence.wide n Tryd.prog 44 #[.agg a, .agg b] w fun e w' => e = .returned (.agg (w32 (compr s bs).list).toArray) ∧ Below w.heap.size w w' := by
  subst ha
  subst hbb
  exact callsIn_wide.2 (compress_any s bs w hs hb ht)
set_option maxHeartbeats 4000000 in
set_option maxRecDepth 100000 in
theorem sum_in (s : ByteArray) (w : World) (hs : s.size ≤ 1000000000) (ht : TabAt w) :
    CallsIn Fence.wide 5 Tryd.prog 26 #[.string s] w fun e w' => e = .returned (.string ⟨(shaL s.data.toList).toArray⟩) ∧ Below w.heap.size w w' := by
  have HT := Lib.hid ht
  obtain ⟨r, hr⟩ : ∃ r, w.heap.size = r := ⟨_, rfl⟩
  have HR := Lib.hid hr
  clear ht hr
  refine callsIn_of_wp_marks Tryd.func26 rfl trivial ?_ rfl
  simp only [Tryd.ntmps26, List.size_toArray, List.length_cons, List.length_nil, Nat.reduceAdd, Nat.reduceSub, Array.replicate_succ, Array.replicate_zero, List.push_toArray, List.append_toArray, List.nil_append, List.cons_append]
  gi_wp2
  refine ⟨trivial, (blocks_in _ _ _).mono ?_⟩
  rintro e w' ⟨rfl, rfl⟩
  gi_wp2
  rw [HR.out]
  have hW0 : SI w r s.data.toList 0 ((w.alloc (.cells #[.int .u32 1779033703, .int .u32 3144134277, .int .u32 1013904242, .int .u32 2773480762, .int .u32 1359893119, .int .u32 2600822924, .int .u32 528734635, .int .u32 1541459225] 55)).alloc (.cells #[.string s] 9)) := by
    have hb : Below w.heap.size w ((w.alloc (.cells #[.int .u32 1779033703, .int .u32 3144134277, .int .u32 1013904242, .int .u32 2773480762, .int .u32 1359893119, .int .u32 2600822924, .int .u32 528734635, .int .u32 1541459225] 55)).alloc (.cells #[.string s] 9)) := ((Below.refl _ w).alloc (Nat.le_refl _) _).alloc (by simp) _
    exact ⟨by rw [← HR.out]; exact (Blk.new w 55 (w32 s8init.list)).alloc _, HT.out.below hb, by rw [← HR.out]; exact HT.out.lt, HR.out, hb⟩
  have hbs : Blk ((w.alloc (.cells #[.int .u32 1779033703, .int .u32 3144134277, .int .u32 1013904242, .int .u32 2773480762, .int .u32 1359893119, .int .u32 2600822924, .int .u32 528734635, .int .u32 1541459225] 55)).alloc (.cells #[.string s] 9)) (r + 1) 9 [.string s] := by
    have := Blk.new (w.alloc (.cells #[.int .u32 1779033703, .int .u32 3144134277, .int .u32 1013904242, .int .u32 2773480762, .int .u32 1359893119, .int .u32 2600822924, .int .u32 528734635, .int .u32 1541459225] 55)) 9 [.string s]
    rw [World.size_alloc, HR.out] at this
    exact this
  have hsz : ((w.alloc (.cells #[.int .u32 1779033703, .int .u32 3144134277, .int .u32 1013904242, .int .u32 2773480762, .int .u32 1359893119, .int .u32 2600822924, .int .u32 528734635, .int .u32 1541459225] 55)).alloc (.cells #[.string s] 9)).heap.size = r + 2 := by rw [World.size_alloc, World.size_alloc, HR.out]
  generalize (w.alloc (.cells #[.int .u32 1779033703, .int .u32 3144134277, .int .u32 1013904242, .int .u32 2773480762, .int .u32 1359893119, .int .u32 2600822924, .int .u32 528734635, .int .u32 1541459225] 55)).alloc (.cells #[.string s] 9) = W0 at hW0 hbs hsz ⊢
  refine range_free (b := r) (xs := (List.range (nBlk s.data.toList)).map (blkAt s.data.toList)) (encs := bEncs) (w0 := W0) rfl (by decide) (gf := 50) (lb := #[.pointer (some ⟨r + 1, 0, none⟩)]) rfl trivial (enters_of Tryd.func50 (by kernel_rfl) rfl)
    (blocks_seq 4 (r + 1) r s W0 hs hbs (by omega) (by omega)) (Below.refl _ _) (fun _ => rfl)
    (SI w r s.data.toList) (fun k A A' h hf => h.fr hf (fun c hc => by omega)) hW0 (SM w r s.data.toList) ?hMid ?hassign ?hbody ?hdone
  case hMid =>
    rintro k x a' A l o o' ⟨b, s', ha, hb, hbr, hsi⟩ hl ho hlt
    have hlr : r < l := by omega
    refine ⟨b, s', ha, hb.kept (World.putObj_heap_other (fun e => ?_)), hbr, hsi.fr (Fr.put (S := fun c => c = l) A l o' rfl) (fun c hc => by omega)⟩
    subst e
    rw [hb.cells' hl] at ho
    cases ho
  case hassign =>
    intro l k x W K hI hx hWs hK
    have hx64 : x.length = 64 := by
      have hk : k < ((List.range (nBlk s.data.toList)).map (blkAt s.data.toList)).length := (List.getElem?_eq_some_iff.1 hx).1
      rw [List.length_map, List.length_range] at hk
      rw [xs_at _ _ hk] at hx
      cases hx
      exact blkAt_len _ _ hk
    have hnew0 : Blk (W.alloc (.cells #[.int .u8 0, .int .u8 0, .int .u8 0, .int .u8 0, .int .u8 0, .int .u8 0, .int .u8 0, .int .u8 0, .int .u8 0, .int .u8 0, .int .u8 0, .int .u8 0, .int .u8 0, .int .u8 0, .int .u8 0, .int .u8 0, .int .u8 0, .int .u8 0, .int .u8 0, .int .u8 0, .int .u8 0, .int .u8 0, .int .u8 0, .int .u8 0, .int .u8 0, .int .u8 0, .int .u8 0, .int .u8 0, .int .u8 0, .int .u8 0, .int .u8 0, .int .u8 0, .int .u8 0, .int .u8 0, .int .u8 0, .int .u8 0, .int .u8 0, .int .u8 0, .int .u8 0, .int .u8 0, .int .u8 0, .int .u8 0, .int .u8 0, .int .u8 0, .int .u8 0, .int .u8 0, .int .u8 0, .int .u8 0, .int .u8 0, .int .u8 0, .int .u8 0, .int .u8 0, .int .u8 0, .int .u8 0, .int .u8 0, .int .u8 0, .int .u8 0, .int .u8 0, .int .u8 0, .int .u8 0, .int .u8 0, .int .u8 0, .int .u8 0, .int .u8 0] 59)) W.heap.size 59 [.int .u8 0, .int .u8 0, .int .u8 0, .int .u8 0, .int .u8 0, .int .u8 0, .int .u8 0, .int .u8 0, .int .u8 0, .int .u8 0, .int .u8 0, .int .u8 0, .int .u8 0, .int .u8 0, .int .u8 0, .int .u8 0, .int .u8 0, .int .u8 0, .int .u8 0, .int .u8 0, .int .u8 0, .int .u8 0, .int .u8 0, .int .u8 0, .int .u8 0, .int .u8 0, .int .u8 0, .int .u8 0, .int .u8 0, .int .u8 0, .int .u8 0, .int .u8 0, .int .u8 0, .int .u8 0, .int .u8 0, .int .u8 0, .int .u8 0, .int .u8 0, .int .u8 0, .int .u8 0, .int .u8 0, .int .u8 0, .int .u8 0, .int .u8 0, .int .u8 0, .int .u8 0, .int .u8 0, .int .u8 0, .int .u8 0, .int .u8 0, .int .u8 0, .int .u8 0, .int .u8 0, .int .u8 0, .int .u8 0, .int .u8 0, .int .u8 0, .int .u8 0, .int .u8 0, .int .u8 0, .int .u8 0, .int .u8 0, .int .u8 0, .int .u8 0] := Blk.new W 59 [.int .u8 0, .int .u8 0, .int .u8 0, .int .u8 0, .int .u8 0, .int .u8 0, .int .u8 0, .int .u8 0, .int .u8 0, .int .u8 0, .int .u8 0, .int .u8 0, .int .u8 0, .int .u8 0, .int .u8 0, .int .u8 0, .int .u8 0, .int .u8 0, .int .u8 0, .int .u8 0, .int .u8 0, .int .u8 0, .int .u8 0, .int .u8 0, .int .u8 0, .int .u8 0, .int .u8 0, .int .u8 0, .int .u8 0, .int .u8 0, .int .u8 0, .int .u8 0, .int .u8 0, .int .u8 0, .int .u8 0, .int .u8 0, .int .u8 0, .int .u8 0, .int .u8 0, .int .u8 0, .int .u8 0, .int .u8 0, .int .u8 0, .int .u8 0, .int .u8 0, .int .u8 0, .int .u8 0, .int .u8 0, .int .u8 0, .int .u8 0, .int .u8 0, .int .u8 0, .int .u8 0, .int .u8 0, .int .u8 0, .int .u8 0, .int .u8 0, .int .u8 0, .int .u8 0, .int .u8 0, .int .u8 0, .int .u8 0, .int .u8 0, .int .u8 0]
    have hnew := hnew0.setRow (cellsB x)
    have hfr : Fr (fun _ => False) W ((W.alloc (.cells #[.int .u8 0, .int .u8 0, .int .u8 0, .int .u8 0, .int .u8 0, .int .u8 0, .int .u8 0, .int .u8 0, .int .u8 0, .int .u8 0, .int .u8 0, .int .u8 0, .int .u8 0, .int .u8 0, .int .u8 0, .int .u8 0, .int .u8 0, .int .u8 0, .int .u8 0, .int .u8 0, .int .u8 0, .int .u8 0, .int .u8 0, .int .u8 0, .int .u8 0, .int .u8 0, .int .u8 0, .int .u8 0, .int .u8 0, .int .u8 0, .int .u8 0, .int .u8 0, .int .u8 0, .int .u8 0, .int .u8 0, .int .u8 0, .int .u8 0, .int .u8 0, .int .u8 0, .int .u8 0, .int .u8 0, .int .u8 0, .int .u8 0, .int .u8 0, .int .u8 0, .int .u8 0, .int .u8 0, .int .u8 0, .int .u8 0, .int .u8 0, .int .u8 0, .int .u8 0, .int .u8 0, .int .u8 0, .int .u8 0, .int .u8 0, .int .u8 0, .int .u8 0, .int .u8 0, .int .u8 0, .int .u8 0, .int .u8 0, .int .u8 0, .int .u8 0] 59)).setRow W.heap.size (cellsB x).toArray) := ((Fr.refl _ W).alloc _).setRow _ _ (.inr (Nat.le_refl _))
    have HQ : Hid (SM w r s.data.toList k x { tmps := #[.string s, undef, .string ⟨#[]⟩, .pointer (some ⟨r, 0, none⟩), .pointer (some ⟨W.heap.size, 0, none⟩), undef, undef, .agg #[.int .u32 1779033703, .int .u32 3144134277, .int .u32 1013904242, .int .u32 2773480762, .int .u32 1359893119, .int .u32 2600822924, .int .u32 528734635, .int .u32 1541459225], .string s, .func (.func 50) #[] #[.pointer (some ⟨r + 1, 0, none⟩)], .agg (cellsB x).toArray, undef, undef, undef, undef, undef, undef, undef, undef, undef, undef, undef, undef, undef, undef, undef, undef, undef, undef, undef, undef, undef], defers := [] } ((W.alloc (.cells #[.int .u8 0, .int .u8 0, .int .u8 0, .int .u8 0, .int .u8 0, .int .u8 0, .int .u8 0, .int .u8 0, .int .u8 0, .int .u8 0, .int .u8 0, .int .u8 0, .int .u8 0, .int .u8 0, .int .u8 0, .int .u8 0, .int .u8 0, .int .u8 0, .int .u8 0, .int .u8 0, .int .u8 0, .int .u8 0, .int .u8 0, .int .u8 0, .int .u8 0, .int .u8 0, .int .u8 0, .int .u8 0, .int .u8 0, .int .u8 0, .int .u8 0, .int .u8 0, .int .u8 0, .int .u8 0, .int .u8 0, .int .u8 0, .int .u8 0, .int .u8 0, .int .u8 0, .int .u8 0, .int .u8 0, .int .u8 0, .int .u8 0, .int .u8 0, .int .u8 0, .int .u8 0, .int .u8 0, .int .u8 0, .int .u8 0, .int .u8 0, .int .u8 0, .int .u8 0, .int .u8 0, .int .u8 0, .int .u8 0, .int .u8 0, .int .u8 0, .int .u8 0, .int .u8 0, .int .u8 0, .int .u8 0, .int .u8 0, .int .u8 0, .int .u8 0] 59)).setRow W.heap.size (cellsB x).toArray)) :=
      ⟨_, _, rfl, hnew, by omega, hI.fr hfr (fun c hc => hc.elim)⟩
    have HO := Lib.hid (hfr.others' (fun k o h => h.elim))
    have HC : Hid (KpC r W ((W.alloc (.cells #[.int .u8 0, .int .u8 0, .int .u8 0, .int .u8 0, .int .u8 0, .int .u8 0, .int .u8 0, .int .u8 0, .int .u8 0, .int .u8 0, .int .u8 0, .int .u8 0, .int .u8 0, .int .u8 0, .int .u8 0, .int .u8 0, .int .u8 0, .int .u8 0, .int .u8 0, .int .u8 0, .int .u8 0, .int .u8 0, .int .u8 0, .int .u8 0, .int .u8 0, .int .u8 0, .int .u8 0, .int .u8 0, .int .u8 0, .int .u8 0, .int .u8 0, .int .u8 0, .int .u8 0, .int .u8 0, .int .u8 0, .int .u8 0, .int .u8 0, .int .u8 0, .int .u8 0, .int .u8 0, .int .u8 0, .int .u8 0, .int .u8 0, .int .u8 0, .int .u8 0, .int .u8 0, .int .u8 0, .int .u8 0, .int .u8 0, .int .u8 0, .int .u8 0, .int .u8 0, .int .u8 0, .int .u8 0, .int .u8 0, .int .u8 0, .int .u8 0, .int .u8 0, .int .u8 0, .int .u8 0, .int .u8 0, .int .u8 0, .int .u8 0, .int .u8 0] 59)).setRow W.heap.size (cellsB x).toArray)) := KpC.of_fr hfr (fun k _ h => h.elim)
    obtain ⟨bc, hbc⟩ : ∃ bc, (cellsB x).toArray = bc := ⟨_, rfl⟩
    have hsz2 : (Tryd.prog.info? 59).map (·.size) = some bc.size := by rw [size64c, ← hbc, List.size_toArray, cellsB_len, hx64]
    have hone : bc.all (·.oneCell') = true := by rw [← hbc]; exact u8_one x
    have hbs64 : 64 = bc.size := by rw [← hbc, List.size_toArray, cellsB_len, hx64]
    dsimp only [bEncs]
    rw [hbc] at HQ HO HC ⊢
    have HSZ := Lib.hid hsz2
    have HONE := Lib.hid hone
    have H64 := Lib.hid hbs64
    have HB0 := Lib.hid hnew0
    clear hsz2 hone hbs64 hbc hnew0 hnew hfr hx hx64 hsz hI hWs
    gi_wp2_with (refine wpListIn_store_row (o := ⟨none, _, _, _, _, _⟩) rfl 59 _ _ rfl W.heap.size bc rfl rfl 59 _ HB0.out HSZ.out H64.out HONE.out ?_)
    exact hK _ _ HO.out HC.out HQ.out
  case hbody =>
    rintro l k x a' W ⟨b, s', rfl, hb, hbr, hsi⟩ hx
    have hx64 : x.length = 64 := by
      have hk : k < ((List.range (nBlk s.data.toList)).map (blkAt s.data.toList)).length := (List.getElem?_eq_some_iff.1 hx).1
      rw [List.length_map, List.length_range] at hk
      rw [xs_at _ _ hk] at hx
      cases hx
      exact blkAt_len _ _ hk
    have hxe : x = blkAt s.data.toList k := by
      have hk : k < ((List.range (nBlk s.data.toList)).map (blkAt s.data.toList)).length := (List.getElem?_eq_some_iff.1 hx).1
      rw [List.length_map, List.length_range] at hk
      rw [xs_at _ _ hk] at hx
      cases hx
      rfl
    have HXE := Lib.hid hxe
    have hwl : (w32 (shaS s.data.toList k).list).length = 8 := rfl
    obtain ⟨bc, hbc⟩ : ∃ bc, (cellsB x).toArray = bc := ⟨_, rfl⟩
    obtain ⟨wc, hwc⟩ : ∃ wc, (w32 (shaS s.data.toList k).list).toArray = wc := ⟨_, rfl⟩
    have hb1 : W.heap[b]? = some (.cells bc 59 (0, 0)) := by rw [← hbc]; exact hb
    have hb2 : W.heap[r]? = some (.cells wc 55 (0, 0)) := by rw [← hwc]; exact hsi.b
    have hs1 : (Tryd.prog.info? 59).map (·.size) = some bc.size := by rw [size64c, ← hbc, List.size_toArray, cellsB_len, hx64]
    have hs2 : (Tryd.prog.info? 55).map (·.size) = some wc.size := by rw [size8w, ← hwc]; rfl
    have HB1 := Lib.hid hb1
    have HB2 := Lib.hid hb2
    have HS1 := Lib.hid hs1
    have HS2 := Lib.hid hs2
    have HCI := Lib.hid (fun n => (compress_in n (shaS s.data.toList k) x W (shaS_ok _ _) hx64 hsi.tab wc bc hwc hbc).inRound l)
    have HSI := Lib.hid hsi
    have HRL := Lib.hid hsi.b.lt
    have hwz : wc.size = 8 := by rw [← hwc, List.size_toArray, hwl]
    have HWZ := Lib.hid hwz
    clear hb1 hb2 hs1 hs2 hb hsi hx hwc hbc hwz hxe hwl
    gi_wp2_with (first | (refine wpListIn_load_row (o := ⟨some 11, _, _, _, _, _⟩) rfl 55 _ rfl r rfl 55 wc (0, 0) _ HB2.out Tryd.underlying55 rfl HS2.out ?_; try simp only [Act.put, List.setIfInBounds_toArray, List.set_cons_zero, List.set_cons_succ]) | (refine wpListIn_load_row (o := ⟨some 12, _, _, _, _, _⟩) rfl 59 _ rfl b rfl 59 bc (0, 0) _ HB1.out Tryd.underlying59 rfl HS1.out ?_; try simp only [Act.put, List.setIfInBounds_toArray, List.set_cons_zero, List.set_cons_succ]))
    refine ⟨trivial, (HCI.out _).mono ?_⟩
    rintro e W2 ⟨rfl, hb2⟩
    have hn := HSI.out.next hb2
    have hsh : shaS s.data.toList (k + 1) = compr (shaS s.data.toList k) x := by rw [HXE.out]; rfl
    rw [hsh] at hn
    obtain ⟨nc, hnc⟩ : ∃ nc, (w32 (compr (shaS s.data.toList k) x).list).toArray = nc := ⟨_, rfl⟩
    rw [hnc] at hn ⊢
    have hr2 : W2.heap[r]? = some (.cells wc 55 (0, 0)) := (hb2.block r HRL.out).trans HB2.out
    have hnz : (Tryd.prog.info? 55).map (·.size) = some nc.size := by rw [size8w, ← hnc]; rfl
    have hno : wc.size = nc.size := by rw [HWZ.out, ← hnc]; rfl
    have hn1 : nc.all (·.oneCell') = true := by rw [← hnc]; exact w32_one _
    have hfr : Fr (fun c => c = r) W (W2.setRow r nc) := fr_row hb2 r nc
    have HFR := Lib.hid hfr
    have HN := Lib.hid hn
    have HR2 := Lib.hid hr2
    have HNZ := Lib.hid hnz
    have HNO := Lib.hid hno
    have HN1 := Lib.hid hn1
    clear hn hr2 hnz hno hn1 hfr hsh hnc hb2 HB1 HS1 HS2 HCI
    gi_wp2_with (refine wpListIn_store_row (o := ⟨none, _, _, _, _, _⟩) rfl 55 _ _ rfl r nc rfl rfl 55 wc HR2.out HNZ.out HNO.out HN1.out ?_)
    exact ⟨HFR.out.others' (fun k o hk ho => by subst hk; rw [HB2.out] at ho; cases ho; rfl), KpC.of_fr HFR.out (fun _ _ h => h), HN.out⟩
  case hdone =>
    intro D W hD hsi hK
    have hnb : ((List.range (nBlk s.data.toList)).map (blkAt s.data.toList)).length = nBlk s.data.toList := by simp
    rw [hnb] at hsi
    have HSI := Lib.hid hsi
    have HKD := Lib.hid hK
    obtain ⟨kb, hkb⟩ : ∃ kb, W.heap.size = kb := ⟨_, rfl⟩
    have hrk : r < kb := by have := hsi.b.lt; omega
    have h0 : SO w r s.data.toList kb D 0 (W.alloc (.cells #[.int .u8 0, .int .u8 0, .int .u8 0, .int .u8 0, .int .u8 0, .int .u8 0, .int .u8 0, .int .u8 0, .int .u8 0, .int .u8 0, .int .u8 0, .int .u8 0, .int .u8 0, .int .u8 0, .int .u8 0, .int .u8 0, .int .u8 0, .int .u8 0, .int .u8 0, .int .u8 0, .int .u8 0, .int .u8 0, .int .u8 0, .int .u8 0, .int .u8 0, .int .u8 0, .int .u8 0, .int .u8 0, .int .u8 0, .int .u8 0, .int .u8 0, .int .u8 0] 61)) := by
      refine ⟨hsi.fr ((Fr.refl (fun _ => False) W).alloc _) (fun c hc => hc.elim), ?_, ?_, hrk⟩
      · rw [← hkb]
        exact Blk.new W 61 (cellsB (List.replicate 32 0))
      · rw [Below.heap_alloc _ _ _ (Array.getElem?_eq_some_iff.1 hK).1]
        exact hK
    have H0 := Lib.hid h0
    have HKB := Lib.hid hkb
    clear hnb hsi hK hkb h0 HSI HKD
    gi_wp2
    rw [HKB.out]
    generalize W.alloc (.cells #[.int .u8 0, .int .u8 0, .int .u8 0, .int .u8 0, .int .u8 0, .int .u8 0, .int .u8 0, .int .u8 0, .int .u8 0, .int .u8 0, .int .u8 0, .int .u8 0, .int .u8 0, .int .u8 0, .int .u8 0, .int .u8 0, .int .u8 0, .int .u8 0, .int .u8 0, .int .u8 0, .int .u8 0, .int .u8 0, .int .u8 0, .int .u8 0, .int .u8 0, .int .u8 0, .int .u8 0, .int .u8 0, .int .u8 0, .int .u8 0, .int .u8 0, .int .u8 0] 61) = W1 at H0 ⊢
    gi_loopw [14] (fun x wr => ∃ i : Nat, i ≤ 32 ∧ x = .int .i64 i ∧ Hid (SO w r s.data.toList kb D i wr)) (fun x _ => 32 - (intOf x).toNat)
    case atStart => exact ⟨0, Nat.zero_le _, rfl, H0⟩
    case round =>
      clear H0
      obtain ⟨i, hi, rfl, HS⟩ := hrel
      by_cases hi32 : i = 32
      · obtain rfl := hi32
        rw [show ((32 : Nat) : Int) = 32 from rfl]
        have hob := HS.out.o
        rw [show 32 - 32 = 0 from rfl, List.replicate_zero, List.append_nil] at hob
        have hcv := conv_row hob 32 32 (outL_len _ _)
        have hdl := HS.out.d
        have htk := run_takeDeferred (P := Tryd.prog) hdl
        have hbe := HS.out.si.bel
        have HBE := Lib.hid (hbe.trans ((Fr.put (S := fun c => c = D) wr D (.deferred none) rfl).below w.heap.size hbe.size (fun c hc => by subst hc; rw [HR.out]; omega)))
        have HTK := Lib.hid htk
        have hsh : outL (shaS s.data.toList (nBlk s.data.toList)).list 32 = shaL s.data.toList := rfl
        rw [hsh] at hcv
        clear hob hdl htk hbe hsh HS
        gi_wp2
        refine ⟨by simp, .inl ⟨D, _, rfl, HTK.out, ?_⟩⟩
        exact ⟨.string ⟨(shaL s.data.toList).toArray⟩, by simp [results, Tryd.f26, go_sem], rfl, HBE.out⟩
      · have hi1 : i < 32 := by omega
        have q1 : (i : Int) < 32 := by omega
        obtain ⟨q, hq⟩ : ∃ q, i / 4 = q := ⟨_, rfl⟩
        obtain ⟨j, hj⟩ : ∃ j, i % 4 = j := ⟨_, rfl⟩
        obtain ⟨t, ht⟩ : ∃ t, 24 - 8 * j = t := ⟨_, rfl⟩
        have eq : (i : Int) / 4 = (q : Int) := by omega
        have ej : (i : Int) % 4 = (j : Int) := by omega
        have et : (24 : Int) - 8 * (j : Int) = (t : Int) := by omega
        have hq8 : q < 8 := by omega
        have hq9 : (q : Int) < 8 := by omega
        have hj4 : j < 4 := by omega
        have ht24 : t ≤ 24 := by omega
        have c0 := HS.out.si.b.cell q
        rw [w32_at _ _ (by rw [list8]; exact hq8)] at c0
        have hx := list8_lt (shaS s.data.toList (nBlk s.data.toList)) (shaS_ok _ _) q
        have hv : ((outB (shaS s.data.toList (nBlk s.data.toList)).list i).toNat : Int) = (wAt (shaS s.data.toList (nBlk s.data.toList)).list q : Int) / 2 ^ t % 256 := by
          unfold outB
          rw [UInt8.toNat_ofNat', hq, hj, ht]
          simp
        generalize wAt (shaS s.data.toList (nBlk s.data.toList)).list q = x at c0 hx hv
        have HN := Lib.hid (HS.out.next hi1 _ hv)
        obtain ⟨u0, cm⟩ : ∃ u, wr.cell? ⟨kb, i, none⟩ = some u := ⟨_, by rw [HS.out.o.cell, cellsB_get _ i (by rw [List.length_append, outL_len, List.length_replicate]; omega)]⟩
        have fm := HS.out.o.frozen i
        have hkl : kb < wr.heap.size := HS.out.o.lt
        have hrl : r < wr.heap.size := HS.out.si.b.lt
        clear hv hq hj ht hi32
        gi_wp2
        go_roundw
        case rel => exact ⟨i + 1, by omega, by go_num, HN⟩
        case measure => simp [intOf]; omega
theorem sum_any (s : ByteArray) (w : World) (hs : s.size ≤ 1000000000) (ht : TabAt w) :
    Calls Tryd.prog 26 #[.string s] w fun e w' => e = .returned (.string (shaB s)) ∧ Below w.heap.size w w' :=
  callsIn_wide.1 (sum_in s w hs ht)
end Go.Proofs.YtggnldljfjhhcaaDoor
