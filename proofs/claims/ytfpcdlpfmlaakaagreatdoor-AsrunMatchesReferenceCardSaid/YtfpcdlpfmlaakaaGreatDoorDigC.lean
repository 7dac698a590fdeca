/-
  The walk of digest.blocks: the iterator over the blocks of a string.
-/
import Derived.RangeFuncNested
import Derived.RangeFuncBound
import Derived.RangeFuncCalls
import Derived.RangeFuncLeaves
import Derived.RangeFuncBox
import Derived.Shelf.Abstract
import Derived.Shelf.RegionOpen
import Derived.WalkKit
import Derived.OwnWalkIn
import Derived.TacticsInMore
import Derived.LoopNIn
import Derived.LoopIn
import Derived.RegionIn
import Derived.BigRegionIn
import Derived.Sort.CutIn
import Derived.Outline
import Derived.Lib.Hide
import Derived.Test.YtfpcdlpfmlaakaaGreatDoorBas
import Derived.Test.YtfpcdlpfmlaakaaGreatDoorDigB
set_option linter.unusedVariables false
set_option linter.unusedSimpArgs false
namespace Go.Proofs.YtfpcdlpfmlaakaaGreatDoor
open Go.RowKit Go.Shelf Onair
attribute [local go_sem] Oper.semAt_some
abbrev bEncs (x : List UInt8) : Array Value := #[.agg (cellsB x).toArray]
theorem wpListIn_load_row {F : Fence} {n : Nat} {P : Program} {ops : Array Oper} {rest : List Oper} {o : Oper} {a : Act} {w : World} {Q : Exit → Act → World → Prop} (hgd : o.guard = none) (ty : TypeId) (x : Operand) (ho : o.op = .load ty x)
    (g : Nat) (hx : a.eval x = .pointer (some ⟨g, 0, none⟩)) (t : TypeId) (cs : Array Value) (fr : Nat × Nat) (d : TypeDesc) (hg : w.heap[g]? = some (.cells cs t fr))
    (hu : P.underlying ty = some d) (hd : (match d with | .struct _ | .array _ _ => true | _ => false) = true) (hi : (P.info? ty).map (·.size) = some cs.size)
    (h : wpListIn F n P ops Q rest (a.put o.dst (.agg cs)) w) : wpListIn F n P ops Q (o :: rest) a w := by
  refine wpListIn_plain hgd fun K hK' => ?_
  unfold Oper.wpIn
  refine ⟨?_, ?_⟩
  · simp [Oper.about, ho]
  · rw [Oper.semAt_plain F _ _ (by rw [ho]; intro c hc'; cases hc')]
    simp only [execOp, ho, hx, Instr.loadAt, Instr.sureAddr, Sem.run_bind, Sem.run_pure, Result.andThen_ok, run_loadVar_row w g t ty cs fr d hg hu hd hi]
    exact hK' _ _ h
theorem Tryz.sizeU8 : (Tryz.prog.info? 5).map (·.size) = some 1 := by kernel_rfl
/-- copy(dst, s) of as many bytes as there is room for. -/
theorem copy_str (w : World) (ty : TypeId) (g dLen dCap m : Nat) (s : ByteArray) (t : TypeId) (l : List Value) (hg : Blk w g t l) (hm : m = min s.size dLen) (hfit : m ≤ l.length) :
    (Builtin.copy_ #[42, 9] ty #[.slice (some ⟨g, 0, none⟩) dLen dCap, .string s]).run Tryz.prog w = .ok (.int .i64 (m : Int)) (w.setRow g (cellsB (s.data.toList.take m) ++ l.drop m).toArray) := by
  have hl : (s.data.toList.take m).length = m := by rw [List.length_take, blen]; omega
  have hc : (cellsB (s.data.toList.take m)).length = m := by rw [cellsB_len, hl]
  have hst := run_storeCells_at Tryz.prog g 0 t (cellsB (s.data.toList.take m)) 0 l.toArray w hg (by rw [hc]; simpa using hfit) (by intro v hv; rw [cellsB, List.mem_map] at hv; obtain ⟨x, _, rfl⟩ := hv; rfl)
  have hmin : Nat.min s.size dLen = m := hm.symm
  have htk : List.take m (List.map (fun b : UInt8 => Value.int IntKind.u8 (b.toNat : Int)) s.data.toList) = cellsB (s.data.toList.take m) := by simp [cellsB, List.map_take]
  rw [hc] at hst
  simp only [Nat.add_zero, Nat.zero_add, List.take_zero, List.nil_append] at hst
  cases hq : Tryz.prog.info? 5 with
  | none => exact absurd Tryz.sizeU8 (by rw [hq]; simp)
  | some i =>
    simp [Builtin.copy_, run_underlying Tryz.underlying42, Builtin.lenOf, Builtin.firstCells, sizeOf, typeInfo, hq, hmin]
    rw [htk, hst]
    simp [Result.andThen, goInt]
theorem KpC.blk {b : Nat} {A B : World} (h : KpC b A B) {g : Nat} {t : TypeId} {l : List Value} (hb : Blk A g t l) (hg : g ≠ b) : Blk B g t l := h.same g _ hb rfl hg
/-- The blocks of the iterator: the string, the block under way. -/
structure BI (W : World) (Bn kw kb : Nat) (s : ByteArray) (wr : World) : Prop where
  bs : Blk wr Bn 9 [.string s]
  bk : ∃ l, l.length = 64 ∧ Blk wr kb 175 l
  h0 : Bn ≠ kw
  h1 : kb ≠ kw
  h2 : Bn ≠ kb
theorem BI.kp {W : World} {Bn kw kb : Nat} {s : ByteArray} {A B : World} (h : BI W Bn kw kb s A) (k : KpC kw A B) : BI W Bn kw kb s B := by
  obtain ⟨l, hl, hb⟩ := h.bk
  exact ⟨k.blk h.bs h.h0, ⟨l, hl, k.blk hb h.h1⟩, h.h0, h.h1, h.h2⟩
/- XBODYX -/
theorem blkAt_full (l : List UInt8) (k : Nat) (h : (k + 1) * 64 ≤ l.length) : blkAt l k = (l.drop (k * 64)).take 64 := by
  unfold blkAt padL
  rw [List.drop_append_of_le_length (by omega), List.take_append_of_le_length (by rw [List.length_drop]; omega)]
theorem xs_at (l : List UInt8) (k : Nat) (h : k < nBlk l) : ((List.range (nBlk l)).map (blkAt l))[k]? = some (blkAt l k) := by
  rw [List.getElem?_map, List.getElem?_range h]
  rfl
/-- The tail under way: i bytes of the length are laid. -/
def tailI (l : List UInt8) (a m Z i : Nat) : List UInt8 := l.drop a ++ 128 :: (List.replicate (Z - 1 - m - i) 0 ++ ((be8 l.length).drop (8 - i) ++ List.replicate (128 - Z) 0))
theorem be8_len (n : Nat) : (be8 n).length = 8 := by simp [be8]
theorem be8_drop (n i : Nat) (h : i < 8) : (be8 n).drop (8 - (i + 1)) = UInt8.ofNat (n * 8 / 256 ^ i) :: (be8 n).drop (8 - i) := by
  have hl := be8_len n
  rw [show 8 - (i + 1) = 7 - i by omega, List.drop_eq_getElem_cons (by omega), show 7 - i + 1 = 8 - i by omega]
  congr 1
  simp only [be8, List.getElem_map, List.getElem_range]
  rw [show 7 - (7 - i) = i by omega]
theorem tailI_set (l : List UInt8) (a m Z i : Nat) (hd : (l.drop a).length = m) (hi : i < 8) (hZ : m + 9 ≤ Z) : (tailI l a m Z i).set (Z - 1 - i) (UInt8.ofNat (l.length * 8 / 256 ^ i)) = tailI l a m Z (i + 1) := by
  unfold tailI
  rw [be8_drop _ i hi]
  obtain ⟨q, hq⟩ : ∃ q, Z - 1 - m - i = q + 1 := ⟨Z - 2 - m - i, by omega⟩
  rw [hq, show Z - 1 - m - (i + 1) = q by omega, List.set_append_right _ _ (by omega), hd, show Z - 1 - i - m = (q + 1) + 0 by omega, List.set_cons_succ, List.set_append_left _ _ (by rw [List.length_replicate]; omega)]
  congr 2
  rw [Nat.add_zero, List.replicate_succ', List.set_append_right _ _ (by rw [List.length_replicate]; exact Nat.le_refl _), List.length_replicate, Nat.sub_self]
  simp
theorem tailI_len (l : List UInt8) (a m Z i : Nat) (hd : (l.drop a).length = m) (hi : i ≤ 8) (hZ : m + 9 ≤ Z) (h2 : Z ≤ 128) : (tailI l a m Z i).length = 128 := by
  unfold tailI
  have hl := be8_len l.length
  have h3 : ((be8 l.length).drop (8 - i)).length = i := by rw [List.length_drop, hl]; omega
  simp only [List.length_append, List.length_cons, List.length_replicate, hd, h3]
  omega
theorem tailI_zero (l : List UInt8) (a m Z : Nat) (hZ : m + 9 ≤ Z) (h2 : Z ≤ 128) : tailI l a m Z 0 = l.drop a ++ 128 :: List.replicate (127 - m) 0 := by
  unfold tailI
  have h3 : (be8 l.length).drop (8 - 0) = [] := List.drop_of_length_le (by rw [be8_len]; exact Nat.le_refl _)
  rw [h3, List.nil_append, List.replicate_append_replicate]
  congr 3
  omega
theorem tail_blk (l tf R : List UInt8) (a Z k j : Nat) (ha : k * 64 = a) (hlen : (padL l).length = a + Z) (hj : (j + 1) * 64 ≤ Z) (h : tf = (padL l).drop a ++ R) : blkAt l (k + j) = (tf.drop (j * 64)).take 64 := by
  have h1 : ((padL l).drop a).length = Z := by rw [List.length_drop]; omega
  rw [h, List.drop_append_of_le_length (by omega), List.take_append_of_le_length (by rw [List.length_drop]; omega), List.drop_drop]
  unfold blkAt
  rw [show (k + j) * 64 = a + j * 64 by omega]
theorem copy_sl (w : World) (ty : TypeId) (g g2 b c : Nat) (t t2 : TypeId) (l : List Value) (tf : List UInt8) (hg : Blk w g t l) (hl : l.length = 64) (hg2 : Blk w g2 t2 (cellsB tf)) (htf : tf.length = 128) (hb : b + c = 128) (hc : 64 ≤ c) :
    (Builtin.copy_ #[42, 42] ty #[.slice (some ⟨g, 0, none⟩) 64 64, .slice (some ⟨g2, b, none⟩) c c]).run Tryz.prog w = .ok (.int .i64 64) (w.setRow g (cellsB ((tf.drop b).take 64)).toArray) := by
  have hl1 : ((tf.drop b).take 64).length = 64 := by rw [List.length_take, List.length_drop]; omega
  have := run_copy_row (P := Tryz.prog) w 42 42 ty 5 g 0 64 64 ⟨g2, b, none⟩ c c l.toArray t (cellsB ((tf.drop b).take 64)) Tryz.underlying42 Tryz.sizeU8 hg (by rw [cellsB_len, hl1]; exact (Nat.min_eq_right hc).symm)
    (fun j v hj => by
      have hjl : j < 64 := by have := (List.getElem?_eq_some_iff.1 hj).1; rw [cellsB_len, hl1] at this; exact this
      rw [show ((⟨g2, b, none⟩ : Addr).add j) = ⟨g2, b + j, none⟩ from by unfold Addr.add; split <;> simp_all, hg2.cell]
      rw [cellsB_take, cellsB_drop, List.getElem?_take, if_pos hjl, List.getElem?_drop] at hj
      exact hj)
    (by rw [cellsB_len, hl1]; simp [hl]) (by intro v hv; rw [cellsB, List.mem_map] at hv; obtain ⟨x, _, rfl⟩ := hv; rfl)
  rw [cellsB_len, hl1] at this
  simp only [List.take_zero, List.nil_append, Nat.zero_add] at this
  have e : List.drop 64 l = [] := List.drop_of_length_le (by omega)
  rw [e, List.append_nil] at this
  exact this
theorem tailI_pad (l : List UInt8) (a m Z : Nat) (ha : a ≤ l.length) (hz : zerosN l.length = Z - 9 - m) : tailI l a m Z 8 = (padL l).drop a ++ List.replicate (128 - Z) 0 := by
  unfold tailI padL
  rw [List.drop_append_of_le_length ha, hz, show Z - 1 - m - 8 = Z - 9 - m by omega, show 8 - 8 = 0 from rfl, List.drop_zero]
  simp [List.append_assoc]
theorem byte_shr (n i : Nat) : ((UInt8.ofNat (n * 8 / 256 ^ i)).toNat : Int) = ((n : Int) * 8) / 2 ^ (8 * i) % 256 := by
  rw [UInt8.toNat_ofNat', show (256 : Nat) ^ i = 2 ^ (8 * i) from by rw [Nat.pow_mul]]
  have : ((n : Int) * 8) / 2 ^ (8 * i) = ((n * 8 / 2 ^ (8 * i) : Nat) : Int) := by simp
  rw [this]
  omega
theorem cellsB_set (l : List UInt8) (i : Nat) (x : UInt8) : cellsB (l.set i x) = (cellsB l).set i (.int .u8 (x.toNat : Int)) := by simp [cellsB, List.map_set]
theorem zero128 : Tryz.zeroCells189 = (cellsB (List.replicate 128 0)).toArray := by kernel_rfl
set_option maxHeartbeats 4000000 in
set_option maxRecDepth 100000 in
theorem blocks_seq (n : Nat) (Bn kw : Nat) (s : ByteArray) (w : World) (hs : s.size ≤ 1000000000) (hbn : Blk w Bn 9 [.string s]) (hkw : kw < w.heap.size) (hne : Bn ≠ kw) :
    SeqC Fence.wide n Tryz.prog 127 #[.pointer (some ⟨Bn, 0, none⟩)] bEncs kw ((List.range (nBlk s.data.toList)).map (blkAt s.data.toList)) w := fun l J W hW hJ hY h0 => by
  obtain ⟨kb, hkb⟩ : ∃ kb, W.heap.size = kb := ⟨_, rfl⟩
  have hlb := hbn.lt
  have hbW : Blk W Bn 9 [.string s] := hbn.kept (hW.block _ hlb)
  have hsW := hW.size
  have HI0 : Hid (BI W Bn kw kb s (W.alloc (.cells #[.int .u8 0, .int .u8 0, .int .u8 0, .int .u8 0, .int .u8 0, .int .u8 0, .int .u8 0, .int .u8 0, .int .u8 0, .int .u8 0, .int .u8 0, .int .u8 0, .int .u8 0, .int .u8 0, .int .u8 0, .int .u8 0, .int .u8 0, .int .u8 0, .int .u8 0, .int .u8 0, .int .u8 0, .int .u8 0, .int .u8 0, .int .u8 0, .int .u8 0, .int .u8 0, .int .u8 0, .int .u8 0, .int .u8 0, .int .u8 0, .int .u8 0, .int .u8 0, .int .u8 0, .int .u8 0, .int .u8 0, .int .u8 0, .int .u8 0, .int .u8 0, .int .u8 0, .int .u8 0, .int .u8 0, .int .u8 0, .int .u8 0, .int .u8 0, .int .u8 0, .int .u8 0, .int .u8 0, .int .u8 0, .int .u8 0, .int .u8 0, .int .u8 0, .int .u8 0, .int .u8 0, .int .u8 0, .int .u8 0, .int .u8 0, .int .u8 0, .int .u8 0, .int .u8 0, .int .u8 0, .int .u8 0, .int .u8 0, .int .u8 0, .int .u8 0] 175))) := ⟨hbW.alloc _, ⟨cellsB (List.replicate 64 0), by simp [cellsB], by rw [← hkb]; exact Blk.new W _ (cellsB (List.replicate 64 0))⟩, hne, by omega, by omega⟩
  have HJ0 : Hid (J 0 (W.alloc (.cells #[.int .u8 0, .int .u8 0, .int .u8 0, .int .u8 0, .int .u8 0, .int .u8 0, .int .u8 0, .int .u8 0, .int .u8 0, .int .u8 0, .int .u8 0, .int .u8 0, .int .u8 0, .int .u8 0, .int .u8 0, .int .u8 0, .int .u8 0, .int .u8 0, .int .u8 0, .int .u8 0, .int .u8 0, .int .u8 0, .int .u8 0, .int .u8 0, .int .u8 0, .int .u8 0, .int .u8 0, .int .u8 0, .int .u8 0, .int .u8 0, .int .u8 0, .int .u8 0, .int .u8 0, .int .u8 0, .int .u8 0, .int .u8 0, .int .u8 0, .int .u8 0, .int .u8 0, .int .u8 0, .int .u8 0, .int .u8 0, .int .u8 0, .int .u8 0, .int .u8 0, .int .u8 0, .int .u8 0, .int .u8 0, .int .u8 0, .int .u8 0, .int .u8 0, .int .u8 0, .int .u8 0, .int .u8 0, .int .u8 0, .int .u8 0, .int .u8 0, .int .u8 0, .int .u8 0, .int .u8 0, .int .u8 0, .int .u8 0, .int .u8 0, .int .u8 0] 175))) := hJ 0 _ _ h0 ((Fr.refl _ W).alloc _)
  rw [hkb] at hJ
  have HKB := Lib.hid hkb
  have HJJ := Lib.hid hJ
  have HYY := Lib.hid hY
  have HXL : Hid (((List.range (nBlk s.data.toList)).map (blkAt s.data.toList)).length = nBlk s.data.toList) := by show _ = _; simp
  have HXA := Lib.hid (xs_at s.data.toList)
  have HLS : Hid (s.data.toList.length = s.size) := blen s
  have c0 := HI0.out.bs.cell 0
  simp only [List.getElem?_cons_zero] at c0
  clear hW hbn hbW h0 hJ hY hkb
  generalize hxs : (List.range (nBlk s.data.toList)).map (blkAt s.data.toList) = xs at *
  have HXS := Lib.hid hxs
  clear hxs
  refine callsIn_of_wp Tryz.func127 rfl trivial ?_ rfl
  simp only [Tryz.ntmps127, List.size_toArray, List.length_cons, List.length_nil, Nat.reduceAdd, Nat.reduceSub, Array.replicate_succ, Array.replicate_zero, List.push_toArray, List.append_toArray, List.nil_append, List.cons_append]
  gi_wp2
  rw [HKB.out]
  clear c0
  generalize W.alloc (.cells #[.int .u8 0, .int .u8 0, .int .u8 0, .int .u8 0, .int .u8 0, .int .u8 0, .int .u8 0, .int .u8 0, .int .u8 0, .int .u8 0, .int .u8 0, .int .u8 0, .int .u8 0, .int .u8 0, .int .u8 0, .int .u8 0, .int .u8 0, .int .u8 0, .int .u8 0, .int .u8 0, .int .u8 0, .int .u8 0, .int .u8 0, .int .u8 0, .int .u8 0, .int .u8 0, .int .u8 0, .int .u8 0, .int .u8 0, .int .u8 0, .int .u8 0, .int .u8 0, .int .u8 0, .int .u8 0, .int .u8 0, .int .u8 0, .int .u8 0, .int .u8 0, .int .u8 0, .int .u8 0, .int .u8 0, .int .u8 0, .int .u8 0, .int .u8 0, .int .u8 0, .int .u8 0, .int .u8 0, .int .u8 0, .int .u8 0, .int .u8 0, .int .u8 0, .int .u8 0, .int .u8 0, .int .u8 0, .int .u8 0, .int .u8 0, .int .u8 0, .int .u8 0, .int .u8 0, .int .u8 0, .int .u8 0, .int .u8 0, .int .u8 0, .int .u8 0] 175) = w0 at HI0 HJ0 ⊢
  gi_loopw [4] (fun x wr => ∃ k : Nat, k * 64 ≤ s.size ∧ x = .int .i64 ((k * 64 : Nat) : Int) ∧ Hid (J k wr) ∧ Hid (BI W Bn kw kb s wr)) (fun x _ => s.size - (intOf x).toNat)
  case atStart => exact ⟨0, by omega, rfl, HJ0, HI0⟩
  case round =>
    clear HI0 HJ0
    obtain ⟨k, hk, rfl, HJk, HB⟩ := hrel
    obtain ⟨a, ha⟩ : ∃ a, k * 64 = a := ⟨_, rfl⟩
    rw [ha] at hk ⊢
    have HAK := Lib.hid ha
    have cs := HB.out.bs.cell 0
    simp only [List.getElem?_cons_zero] at cs
    have hak : a + 64 ≤ s.size → (k + 1) * 64 ≤ s.data.toList.length := fun h => by rw [blen]; omega
    have HAKL := Lib.hid hak
    clear ha hak
    by_cases hlt : a + 64 ≤ s.size
    · have q1 : (64 : Int) ≤ (s.size : Int) - a := by omega
      obtain ⟨T, hT⟩ : ∃ T, s.extract a s.size = T := ⟨_, rfl⟩
      have hTd : T.data.toList = s.data.toList.drop a := by
        rw [← hT, ByteArray.data_extract, Array.toList_extract, List.extract_eq_take_drop]
        rw [List.take_of_length_le (by rw [List.length_drop, blen]; omega)]
      have hTs : T.size = s.size - a := by rw [← blen, hTd, List.length_drop, blen]
      obtain ⟨bl, hbl, hbk⟩ := HB.out.bk
      have hcp := copy_str wr.drew 3 kb 64 64 64 T 175 bl hbk.drew (by omega) (by omega)
      have hbb : blkAt s.data.toList k = T.data.toList.take 64 := by
        rw [blkAt_full _ _ (HAKL.out hlt), HAK.out, hTd]
      rw [List.drop_of_length_le (by omega), List.append_nil, ← hbb] at hcp
      have HBB := Lib.hid hbb
      have HTS := Lib.hid hTs
      have h3 := HB.out.h2
      have hbk2 : Blk (wr.drew.setRow kb (cellsB (blkAt s.data.toList k)).toArray) kb 175 (cellsB (blkAt s.data.toList k)) := hbk.drew.setRow _
      have hfr2 : Fr (fun c => kb ≤ c) wr (wr.drew.setRow kb (cellsB (blkAt s.data.toList k)).toArray) := (Fr.refl _ wr).drew.setRow kb _ (.inl (Nat.le_refl _))
      have hJ2 := HJJ.out k _ _ HJk.out hfr2
      have hbs2 : Blk (wr.drew.setRow kb (cellsB (blkAt s.data.toList k)).toArray) Bn 9 [.string s] := HB.out.bs.drew.kept (heap_setRow_other _ _ _ _ h3)
      have hbl64 : (blkAt s.data.toList k).length = 64 := by rw [hbb, List.length_take, hTd, List.length_drop, blen]; omega
      have HI2 : Hid (BI W Bn kw kb s (wr.drew.setRow kb (cellsB (blkAt s.data.toList k)).toArray)) := ⟨hbs2, ⟨_, by rw [cellsB_len]; exact hbl64, hbk2⟩, HB.out.h0, HB.out.h1, HB.out.h2⟩
      have HJ2 := Lib.hid hJ2
      have HK2 := Lib.hid hbk2
      have HL2 := Lib.hid hbl64
      have hkl : k < nBlk s.data.toList := by
        have := HAKL.out hlt
        unfold nBlk
        omega
      have hx := HXA.out k hkl
      clear hTd hTs hbl hbk hbb hfr2 hJ2 hbs2 hbl64 hkl hbk2
      gi_wp2
      gi_region
      clear hcp cs q1
      gi_upto_region 5 with (fail)
      obtain ⟨fn, tmps, assign, body, hy, hR⟩ := HYY.out k _ _ HJ2.out hx
      dsimp only [bEncs] at hy
      obtain ⟨w2, hw2⟩ : ∃ w2, wr.drew.setRow kb (cellsB (blkAt s.data.toList k)).toArray = w2 := ⟨_, rfl⟩
      obtain ⟨bc, hbc⟩ : ∃ bc, (cellsB (blkAt s.data.toList k)).toArray = bc := ⟨_, rfl⟩
      have hsz : (Tryz.prog.info? 175).map (·.size) = some bc.size := by rw [Tryz.sizeB64, ← hbc, List.size_toArray, cellsB_len, HL2.out]
      have HSZ := Lib.hid hsz
      have HKR : Hid (w2.heap[kb]? = some (.cells bc 175 (0, 0))) := by show _ = _; rw [← hw2, ← hbc]; exact HK2.out
      rw [hw2] at hy hR HI2 ⊢
      rw [hbc] at hy
      have HIY := Lib.hid HI2.out
      clear hsz hw2 hbc HJ2 HK2 HL2 hx hT HBB HTS
      gi_wp2_with (refine wpListIn_load_row (o := ⟨some 24, _, _, _, _, _⟩) rfl 175 _ rfl kb rfl 175 bc (0, 0) _ HKR.out Tryz.underlying175 rfl HSZ.out ?_; try simp only [Act.put, List.setIfInBounds_toArray, List.set_cons_zero, List.set_cons_succ])
      refine ⟨fun h => absurd h (by decide), hR.mono ?_⟩
      rintro e W2 ⟨rfl, hJ3, hK3⟩
      have HJ3 := Lib.hid hJ3
      have HI3 := Lib.hid (HIY.out.kp hK3)
      have HA3 : Hid ((k + 1) * 64 = a + 64) := by show _ = _; have := HAK.out; omega
      clear hJ3 hK3 hy
      gi_wp2
      go_roundw
      case rel => exact ⟨k + 1, by have := HA3.out; omega, by rw [HA3.out]; go_num, HJ3, HI3⟩
      case measure => simp [intOf]; omega
    · have q1 : ¬ (64 : Int) ≤ (s.size : Int) - a := by omega
      obtain ⟨T, hT⟩ : ∃ T, s.extract a s.size = T := ⟨_, rfl⟩
      have hTd : T.data.toList = s.data.toList.drop a := by
        rw [← hT, ByteArray.data_extract, Array.toList_extract, List.extract_eq_take_drop]
        rw [List.take_of_length_le (by rw [List.length_drop, blen]; omega)]
      obtain ⟨m, hm⟩ : ∃ m, s.size - a = m := ⟨_, rfl⟩
      have hTs : T.size = m := by rw [← blen, hTd, List.length_drop, blen, hm]
      have hm64 : m < 64 := by omega
      obtain ⟨kt, hkt⟩ : ∃ kt, wr.heap.size = kt := ⟨_, rfl⟩
      have hkbt : kb < kt := by obtain ⟨bl, _, hbk⟩ := HB.out.bk; have := hbk.lt; omega
      have hbnt : Bn < kt := by have := HB.out.bs.lt; omega
      have h1 : BI W Bn kw kb s (wr.alloc (.cells Tryz.zeroCells189 189)) := by
        obtain ⟨bl, hbl, hbk⟩ := HB.out.bk
        exact ⟨HB.out.bs.alloc _, ⟨bl, hbl, hbk.alloc _⟩, HB.out.h0, HB.out.h1, HB.out.h2⟩
      have hJ1 : J k (wr.alloc (.cells Tryz.zeroCells189 189)) := HJJ.out k _ _ HJk.out ((Fr.refl _ wr).alloc _)
      have hkt1 : Blk (wr.alloc (.cells Tryz.zeroCells189 189)) kt 189 (cellsB (List.replicate 128 0)) := by rw [← hkt, zero128]; exact Blk.new wr _ (cellsB (List.replicate 128 0))
      have hktw : kt ≠ kw := by
        have := HKB.out
        omega
      have H1 := Lib.hid h1
      have HJ1 := Lib.hid hJ1
      have HT1 := Lib.hid hkt1
      have HKT := Lib.hid hkt
      have HTD := Lib.hid hTd
      have HTS := Lib.hid hTs
      have HM := Lib.hid hm
      clear h1 hJ1 hkt1 hkt hTd hTs hm HJk HB
      gi_upto_region 7 with (fail)
      rw [HKT.out]
      clear cs
      generalize wr.alloc (.cells Tryz.zeroCells189 189) = w1 at H1 HJ1 HT1 ⊢
      have cs := H1.out.bs.cell 0
      simp only [List.getElem?_cons_zero] at cs
      have hcp := copy_str w1.drew 3 kt 128 128 m T 189 _ HT1.out.drew (by rw [HTS.out]; omega) (by rw [cellsB_len, List.length_replicate]; omega)
      obtain ⟨tl, htl⟩ : ∃ tl : List UInt8, s.data.toList.drop a ++ List.replicate (128 - m) 0 = tl := ⟨_, rfl⟩
      have htc : cellsB (T.data.toList.take m) ++ (cellsB (List.replicate 128 0)).drop m = cellsB tl := by
        rw [← htl, cellsB_append, HTD.out, List.take_of_length_le (by rw [List.length_drop, blen, HM.out]; exact Nat.le_refl _), ← cellsB_drop, List.drop_replicate]
      rw [htc] at hcp
      have hJ2 := HJJ.out k _ _ HJ1.out ((Fr.refl (fun c => kb ≤ c) w1).drew.setRow kt (cellsB tl).toArray (.inl (Nat.le_of_lt hkbt)))
      have ht2 : Blk (w1.drew.setRow kt (cellsB tl).toArray) kt 189 (cellsB tl) := HT1.out.drew.setRow _
      have h2 : BI W Bn kw kb s (w1.drew.setRow kt (cellsB tl).toArray) := by
        obtain ⟨bl, hbl, hbk⟩ := H1.out.bk
        exact ⟨H1.out.bs.drew.kept (heap_setRow_other _ _ _ _ (by omega)), ⟨bl, hbl, hbk.drew.kept (heap_setRow_other _ _ _ _ (by omega))⟩, H1.out.h0, H1.out.h1, H1.out.h2⟩
      have HJ2 := Lib.hid hJ2
      have HT2 := Lib.hid ht2
      have H2 := Lib.hid h2
      have HTL := Lib.hid htl
      clear hJ2 ht2 h2 htc htl
      gi_region
      clear hcp cs hT
      generalize w1.drew.setRow kt (cellsB tl).toArray = w2 at HJ2 HT2 H2 ⊢
      have htll : tl.length = 128 := by rw [← HTL.out, List.length_append, List.length_drop, blen, HM.out, List.length_replicate]; omega
      obtain ⟨u0, cm⟩ : ∃ u, w2.cell? ⟨kt, m, none⟩ = some u := ⟨_, by rw [HT2.out.cell, cellsB_get tl m (by omega)]⟩
      have fm := HT2.out.frozen m
      have ht3 : Blk (w2.setCell ⟨kt, m, none⟩ (.int .u8 128)) kt 189 (cellsB (tl.set m 128)) := by
        rw [cellsB_set]
        exact HT2.out.set m _
      have h3 : BI W Bn kw kb s (w2.setCell ⟨kt, m, none⟩ (.int .u8 128)) := by
        obtain ⟨bl, hbl, hbk⟩ := H2.out.bk
        exact ⟨H2.out.bs.other _ (by show kt ≠ Bn; omega) _, ⟨bl, hbl, hbk.other _ (by show kt ≠ kb; omega) _⟩, H2.out.h0, H2.out.h1, H2.out.h2⟩
      have hJ3 := HJJ.out k _ _ HJ2.out ((Fr.refl (fun c => kb ≤ c) w2).setCell ⟨kt, m, none⟩ (.int .u8 128) (.inl (Nat.le_of_lt hkbt)))
      have hts : tl.set m 128 = s.data.toList.drop a ++ 128 :: List.replicate (127 - m) 0 := by
        have hml : (s.data.toList.drop a).length = m := by rw [List.length_drop, blen, HM.out]
        rw [← HTL.out, show 128 - m = (127 - m) + 1 by omega, List.replicate_succ, List.set_append_right _ _ (by omega), hml, Nat.sub_self]
        rfl
      rw [hts] at ht3
      have HT3 := Lib.hid ht3
      have H3 := Lib.hid h3
      have HJ3 := Lib.hid hJ3
      have cs := H3.out.bs.cell 0
      simp only [List.getElem?_cons_zero] at cs
      have hm0 : (m : Int) < 128 := by omega
      have hktl : kt < w2.heap.size := HT2.out.lt
      clear ht3 h3 hJ3 hts htll HTL
      have hk64 : s.data.toList.length / 64 = k := by rw [blen]; have := HAK.out; have := HM.out; omega
      have hmod : s.data.toList.length % 64 = m := by rw [blen]; have := HAK.out; have := HM.out; omega
      have HK64 := Lib.hid hk64
      have HMOD := Lib.hid hmod
      have HDL : Hid ((s.data.toList.drop a).length = m) := by show _ = _; rw [List.length_drop, blen, HM.out]
      clear hk64 hmod
      by_cases hz : m < 56
      · have qz : ¬ (56 : Int) < (m : Int) + 1 := by omega
        gi_upto_region 13 with (fail)
        clear cm fm cs qz
        generalize w2.setCell ⟨kt, m, none⟩ (.int .u8 128) = w3 at HT3 H3 HJ3 ⊢
        have hZ : m + 9 ≤ 64 := by omega
        have HT4 : Hid (Blk w3 kt 189 (cellsB (tailI s.data.toList a m 64 0))) := by
          show Blk _ _ _ _
          rw [tailI_zero _ _ _ _ hZ (by decide)]
          exact HT3.out
        clear hktl hm0 HT3
        gi_wp2
        gi_loopw [41] (fun x wr => ∃ i : Nat, i ≤ 8 ∧ x = .int .i64 i ∧ Hid (J k wr) ∧ Hid (BI W Bn kw kb s wr) ∧ Hid (Blk wr kt 189 (cellsB (tailI s.data.toList a m 64 i)))) (fun x _ => 8 - (intOf x).toNat)
        case atStart => exact ⟨0, Nat.zero_le _, rfl, HJ3, H3, HT4⟩
        case round =>
          clear HJ3 H3 HT4 HJ2 H2 HT2 HJ1 H1 HT1
          obtain ⟨i, hi, rfl, HJi, HBi, HTi⟩ := hrel
          by_cases hi8 : i = 8
          · obtain rfl := hi8
            rw [show ((8 : Nat) : Int) = 8 from rfl]
            obtain ⟨tf, htf⟩ : ∃ tf, tailI s.data.toList a m 64 8 = tf := ⟨_, rfl⟩
            have htfl : tf.length = 128 := by rw [← htf]; exact tailI_len s.data.toList a m 64 8 HDL.out (by decide) hZ (by decide)
            have hpad : tf = (padL s.data.toList).drop a ++ List.replicate (128 - 64) 0 := by
              rw [← htf]
              exact tailI_pad _ _ _ _ (by rw [blen]; omega) (by unfold zerosN; rw [HMOD.out]; omega)
            have hnb : nBlk s.data.toList = k + 1 := by unfold nBlk; rw [HK64.out, HMOD.out]; split <;> omega
            have hpl : (padL s.data.toList).length = a + 64 := by
              have : (padL s.data.toList).length = nBlk s.data.toList * 64 := padL_len _
              rw [this, hnb]
              have := HAK.out
              omega
            have HTB := Lib.hid (fun j hj => tail_blk s.data.toList tf _ a 64 k j HAK.out hpl hj hpad)
            rw [htf] at HTi
            have HTFL := Lib.hid htfl
            have HNB := Lib.hid hnb
            clear hi q1 hpl hpad htfl htf hnb
            gi_wp2
            gi_loopw [10] (fun x wr => ∃ j : Nat, j ≤ 1 ∧ x = .int .i64 ((j * 64 : Nat) : Int) ∧ Hid (J (k + j) wr) ∧ Hid (BI W Bn kw kb s wr) ∧ Hid (Blk wr kt 189 (cellsB tf))) (fun x _ => 64 - (intOf x).toNat)
            case atStart => exact ⟨0, Nat.zero_le _, rfl, HJi, HBi, HTi⟩
            case round =>
              clear HJi HBi HTi
              obtain ⟨j, hj, rfl, HJj, HBj, HTj⟩ := hrel
              by_cases hjn : j = 1
              · obtain rfl := hjn
                have HE : Hid (J xs.length wr) := by
                  show J _ _
                  rw [HXL.out, HNB.out]
                  exact HJj.out
                gi_wp2
                go_end0
                exact ⟨⟨_, rfl⟩, HE.out⟩
              · obtain rfl : j = 0 := by omega
                obtain ⟨bl, hbl, hbk⟩ := HBj.out.bk
                have hbb := HTB.out 0 (by decide)
                obtain ⟨kk, hkk⟩ : ∃ kk, k + 0 = kk := ⟨_, rfl⟩
                rw [hkk] at HJj hbb
                have HKK := Lib.hid hkk
                rw [show ((0 * 64 : Nat) : Int) = 0 from rfl]
                have hcp := copy_sl wr.drew 3 kb kt 0 128 175 189 bl tf hbk.drew hbl HTj.out.drew HTFL.out (by decide) (by decide)
                rw [show 0 * 64 = 0 from rfl] at hbb
                rw [← hbb] at hcp
                have h3 := HBj.out.h2
                have hfr2 : Fr (fun c => kb ≤ c) wr (wr.drew.setRow kb (cellsB (blkAt s.data.toList kk)).toArray) := (Fr.refl _ wr).drew.setRow kb _ (.inl (Nat.le_refl _))
                have hJ2 := HJJ.out kk _ _ HJj.out hfr2
                have hbs2 : Blk (wr.drew.setRow kb (cellsB (blkAt s.data.toList kk)).toArray) Bn 9 [.string s] := HBj.out.bs.drew.kept (heap_setRow_other _ _ _ _ h3)
                have hkt2 : Blk (wr.drew.setRow kb (cellsB (blkAt s.data.toList kk)).toArray) kt 189 (cellsB tf) := HTj.out.drew.kept (heap_setRow_other _ _ _ _ (by omega))
                have hbk2 : Blk (wr.drew.setRow kb (cellsB (blkAt s.data.toList kk)).toArray) kb 175 (cellsB (blkAt s.data.toList kk)) := hbk.drew.setRow _
                have hkl : kk < nBlk s.data.toList := by rw [HNB.out]; omega
                clear hkk
                have hbl64 := blkAt_len s.data.toList kk hkl
                have hx := HXA.out kk hkl
                have HI2 : Hid (BI W Bn kw kb s (wr.drew.setRow kb (cellsB (blkAt s.data.toList kk)).toArray)) := ⟨hbs2, ⟨_, by rw [cellsB_len]; exact hbl64, hbk2⟩, HBj.out.h0, HBj.out.h1, HBj.out.h2⟩
                have HJ2 := Lib.hid hJ2
                have HK2 := Lib.hid hbk2
                have HT2 := Lib.hid hkt2
                have HL2 := Lib.hid hbl64
                clear hbl hbk hbb hfr2 hJ2 hbs2 hkt2 hbk2 hkl hbl64
                gi_wp2
                gi_region
                clear hcp
                gi_upto_region 22 with (fail)
                obtain ⟨fn, tmps, assign, body, hy, hR⟩ := HYY.out kk _ _ HJ2.out hx
                dsimp only [bEncs] at hy
                obtain ⟨w5, hw5⟩ : ∃ w5, wr.drew.setRow kb (cellsB (blkAt s.data.toList kk)).toArray = w5 := ⟨_, rfl⟩
                obtain ⟨bc, hbc⟩ : ∃ bc, (cellsB (blkAt s.data.toList kk)).toArray = bc := ⟨_, rfl⟩
                have hsz : (Tryz.prog.info? 175).map (·.size) = some bc.size := by rw [Tryz.sizeB64, ← hbc, List.size_toArray, cellsB_len, HL2.out]
                have HSZ := Lib.hid hsz
                have HKR : Hid (w5.heap[kb]? = some (.cells bc 175 (0, 0))) := by show _ = _; rw [← hw5, ← hbc]; exact HK2.out
                rw [hw5] at hy hR HI2 HT2 ⊢
                rw [hbc] at hy
                clear hsz hw5 hbc HJ2 HK2 HL2 hx
                gi_wp2_with (refine wpListIn_load_row (o := ⟨some 65, _, _, _, _, _⟩) rfl 175 _ rfl kb rfl 175 bc (0, 0) _ HKR.out Tryz.underlying175 rfl HSZ.out ?_; try simp only [Act.put, List.setIfInBounds_toArray, List.set_cons_zero, List.set_cons_succ])
                refine ⟨fun h => absurd h (by decide), hR.mono ?_⟩
                rintro e W2 ⟨rfl, hJ3, hK3⟩
                have HJ3 := Lib.hid hJ3
                have HI3 := Lib.hid (HI2.out.kp hK3)
                have HT3 := Lib.hid (hK3.blk HT2.out hktw)
                clear hJ3 hK3 hy
                gi_wp2
                go_roundw
                case rel => exact ⟨0 + 1, by decide, by go_num, by rw [← HKK.out] at HJ3; exact HJ3, HI3, HT3⟩
                case measure => simp [intOf]
          · have q2 : (i : Int) < 8 := by omega
            have hi7 : i < 8 := by omega
            have htll := tailI_len s.data.toList a m 64 i HDL.out (by omega) hZ (by decide)
            obtain ⟨u1, cm⟩ : ∃ u, wr.cell? ⟨kt, (64 - 1 - i : Nat), none⟩ = some u := ⟨_, by rw [HTi.out.cell, cellsB_get _ _ (by rw [htll]; omega)]⟩
            have fm := HTi.out.frozen (64 - 1 - i)
            have hset := tailI_set s.data.toList a m 64 i HDL.out hi7 hZ
            have ht := HTi.out.set (64 - 1 - i) (.int .u8 ((UInt8.ofNat (s.data.toList.length * 8 / 256 ^ i)).toNat : Int))
            rw [← cellsB_set, hset, byte_shr, HLS.out] at ht
            obtain ⟨v, hv⟩ : ∃ v : Int, ((s.size : Int) * 8) / 2 ^ (8 * i) % 256 = v := ⟨_, rfl⟩
            rw [hv] at ht
            have HT5 := Lib.hid ht
            have h5 : BI W Bn kw kb s (wr.setCell ⟨kt, (64 - 1 - i : Nat), none⟩ (.int .u8 v)) := by
              obtain ⟨bl, hbl, hbk⟩ := HBi.out.bk
              exact ⟨HBi.out.bs.other _ (by show kt ≠ Bn; omega) _, ⟨bl, hbl, hbk.other _ (by show kt ≠ kb; omega) _⟩, HBi.out.h0, HBi.out.h1, HBi.out.h2⟩
            have hJ5 := HJJ.out k _ _ HJi.out ((Fr.refl (fun c => kb ≤ c) wr).setCell ⟨kt, (64 - 1 - i : Nat), none⟩ (.int .u8 v) (.inl (Nat.le_of_lt hkbt)))
            have H5 := Lib.hid h5
            have HJ5 := Lib.hid hJ5
            have hzi : ((63 : Int) - (i : Int)) = ((64 - 1 - i : Nat) : Int) := by omega
            have hzj : ((64 - 1 - i : Nat) : Int) < 128 := by omega
            have hktl : kt < wr.heap.size := HTi.out.lt
            clear htll hset ht h5 hJ5 hi8
            gi_wp2
            go_roundw
            case rel => exact ⟨i + 1, by omega, by go_num, HJ5, H5, HT5⟩
            case measure => simp [intOf]; omega
      · have qz : (56 : Int) < (m : Int) + 1 := by omega
        gi_upto_region 13 with (fail)
        clear cm fm cs qz
        generalize w2.setCell ⟨kt, m, none⟩ (.int .u8 128) = w3 at HT3 H3 HJ3 ⊢
        have hZ : m + 9 ≤ 128 := by omega
        have HT4 : Hid (Blk w3 kt 189 (cellsB (tailI s.data.toList a m 128 0))) := by
          show Blk _ _ _ _
          rw [tailI_zero _ _ _ _ hZ (by decide)]
          exact HT3.out
        clear hktl hm0 HT3
        gi_wp2
        gi_loopw [41] (fun x wr => ∃ i : Nat, i ≤ 8 ∧ x = .int .i64 i ∧ Hid (J k wr) ∧ Hid (BI W Bn kw kb s wr) ∧ Hid (Blk wr kt 189 (cellsB (tailI s.data.toList a m 128 i)))) (fun x _ => 8 - (intOf x).toNat)
        case atStart => exact ⟨0, Nat.zero_le _, rfl, HJ3, H3, HT4⟩
        case round =>
          clear HJ3 H3 HT4 HJ2 H2 HT2 HJ1 H1 HT1
          obtain ⟨i, hi, rfl, HJi, HBi, HTi⟩ := hrel
          by_cases hi8 : i = 8
          · obtain rfl := hi8
            rw [show ((8 : Nat) : Int) = 8 from rfl]
            obtain ⟨tf, htf⟩ : ∃ tf, tailI s.data.toList a m 128 8 = tf := ⟨_, rfl⟩
            have htfl : tf.length = 128 := by rw [← htf]; exact tailI_len s.data.toList a m 128 8 HDL.out (by decide) hZ (by decide)
            have hpad : tf = (padL s.data.toList).drop a ++ List.replicate (128 - 128) 0 := by
              rw [← htf]
              exact tailI_pad _ _ _ _ (by rw [blen]; omega) (by unfold zerosN; rw [HMOD.out]; omega)
            have hnb : nBlk s.data.toList = k + 2 := by unfold nBlk; rw [HK64.out, HMOD.out]; split <;> omega
            have hpl : (padL s.data.toList).length = a + 128 := by
              have : (padL s.data.toList).length = nBlk s.data.toList * 64 := padL_len _
              rw [this, hnb]
              have := HAK.out
              omega
            have HTB := Lib.hid (fun j hj => tail_blk s.data.toList tf _ a 128 k j HAK.out hpl hj hpad)
            rw [htf] at HTi
            have HTFL := Lib.hid htfl
            have HNB := Lib.hid hnb
            clear hi q1 hpl hpad htfl htf hnb
            gi_wp2
            gi_loopw [10] (fun x wr => ∃ j : Nat, j ≤ 2 ∧ x = .int .i64 ((j * 64 : Nat) : Int) ∧ Hid (J (k + j) wr) ∧ Hid (BI W Bn kw kb s wr) ∧ Hid (Blk wr kt 189 (cellsB tf))) (fun x _ => 128 - (intOf x).toNat)
            case atStart => exact ⟨0, Nat.zero_le _, rfl, HJi, HBi, HTi⟩
            case round =>
              clear HJi HBi HTi
              obtain ⟨j, hj, rfl, HJj, HBj, HTj⟩ := hrel
              by_cases hjn : j = 2
              · obtain rfl := hjn
                have HE : Hid (J xs.length wr) := by
                  show J _ _
                  rw [HXL.out, HNB.out]
                  exact HJj.out
                gi_wp2
                go_end0
                exact ⟨⟨_, rfl⟩, HE.out⟩
              · rcases (show j = 0 ∨ j = 1 from by omega) with rfl | rfl
                · obtain ⟨bl, hbl, hbk⟩ := HBj.out.bk
                  have hbb := HTB.out 0 (by decide)
                  obtain ⟨kk, hkk⟩ : ∃ kk, k + 0 = kk := ⟨_, rfl⟩
                  rw [hkk] at HJj hbb
                  have HKK := Lib.hid hkk
                  rw [show ((0 * 64 : Nat) : Int) = 0 from rfl]
                  have hcp := copy_sl wr.drew 3 kb kt 0 128 175 189 bl tf hbk.drew hbl HTj.out.drew HTFL.out (by decide) (by decide)
                  rw [show 0 * 64 = 0 from rfl] at hbb
                  rw [← hbb] at hcp
                  have h3 := HBj.out.h2
                  have hfr2 : Fr (fun c => kb ≤ c) wr (wr.drew.setRow kb (cellsB (blkAt s.data.toList kk)).toArray) := (Fr.refl _ wr).drew.setRow kb _ (.inl (Nat.le_refl _))
                  have hJ2 := HJJ.out kk _ _ HJj.out hfr2
                  have hbs2 : Blk (wr.drew.setRow kb (cellsB (blkAt s.data.toList kk)).toArray) Bn 9 [.string s] := HBj.out.bs.drew.kept (heap_setRow_other _ _ _ _ h3)
                  have hkt2 : Blk (wr.drew.setRow kb (cellsB (blkAt s.data.toList kk)).toArray) kt 189 (cellsB tf) := HTj.out.drew.kept (heap_setRow_other _ _ _ _ (by omega))
                  have hbk2 : Blk (wr.drew.setRow kb (cellsB (blkAt s.data.toList kk)).toArray) kb 175 (cellsB (blkAt s.data.toList kk)) := hbk.drew.setRow _
                  have hkl : kk < nBlk s.data.toList := by rw [HNB.out]; omega
                  clear hkk
                  have hbl64 := blkAt_len s.data.toList kk hkl
                  have hx := HXA.out kk hkl
                  have HI2 : Hid (BI W Bn kw kb s (wr.drew.setRow kb (cellsB (blkAt s.data.toList kk)).toArray)) := ⟨hbs2, ⟨_, by rw [cellsB_len]; exact hbl64, hbk2⟩, HBj.out.h0, HBj.out.h1, HBj.out.h2⟩
                  have HJ2 := Lib.hid hJ2
                  have HK2 := Lib.hid hbk2
                  have HT2 := Lib.hid hkt2
                  have HL2 := Lib.hid hbl64
                  clear hbl hbk hbb hfr2 hJ2 hbs2 hkt2 hbk2 hkl hbl64
                  gi_wp2
                  gi_region
                  clear hcp
                  gi_upto_region 22 with (fail)
                  obtain ⟨fn, tmps, assign, body, hy, hR⟩ := HYY.out kk _ _ HJ2.out hx
                  dsimp only [bEncs] at hy
                  obtain ⟨w5, hw5⟩ : ∃ w5, wr.drew.setRow kb (cellsB (blkAt s.data.toList kk)).toArray = w5 := ⟨_, rfl⟩
                  obtain ⟨bc, hbc⟩ : ∃ bc, (cellsB (blkAt s.data.toList kk)).toArray = bc := ⟨_, rfl⟩
                  have hsz : (Tryz.prog.info? 175).map (·.size) = some bc.size := by rw [Tryz.sizeB64, ← hbc, List.size_toArray, cellsB_len, HL2.out]
                  have HSZ := Lib.hid hsz
                  have HKR : Hid (w5.heap[kb]? = some (.cells bc 175 (0, 0))) := by show _ = _; rw [← hw5, ← hbc]; exact HK2.out
                  rw [hw5] at hy hR HI2 HT2 ⊢
                  rw [hbc] at hy
                  clear hsz hw5 hbc HJ2 HK2 HL2 hx
                  gi_wp2_with (refine wpListIn_load_row (o := ⟨some 65, _, _, _, _, _⟩) rfl 175 _ rfl kb rfl 175 bc (0, 0) _ HKR.out Tryz.underlying175 rfl HSZ.out ?_; try simp only [Act.put, List.setIfInBounds_toArray, List.set_cons_zero, List.set_cons_succ])
                  refine ⟨fun h => absurd h (by decide), hR.mono ?_⟩
                  rintro e W2 ⟨rfl, hJ3, hK3⟩
                  have HJ3 := Lib.hid hJ3
                  have HI3 := Lib.hid (HI2.out.kp hK3)
                  have HT3 := Lib.hid (hK3.blk HT2.out hktw)
                  clear hJ3 hK3 hy
                  gi_wp2
                  go_roundw
                  case rel => exact ⟨0 + 1, by decide, by go_num, by rw [← HKK.out] at HJ3; exact HJ3, HI3, HT3⟩
                  case measure => simp [intOf]
                · obtain ⟨bl, hbl, hbk⟩ := HBj.out.bk
                  have hbb := HTB.out 1 (by decide)
                  obtain ⟨kk, hkk⟩ : ∃ kk, k + 1 = kk := ⟨_, rfl⟩
                  rw [hkk] at HJj hbb
                  have HKK := Lib.hid hkk
                  rw [show ((1 * 64 : Nat) : Int) = 64 from rfl]
                  have hcp := copy_sl wr.drew 3 kb kt 64 64 175 189 bl tf hbk.drew hbl HTj.out.drew HTFL.out (by decide) (by decide)
                  rw [show 1 * 64 = 64 from rfl] at hbb
                  rw [← hbb] at hcp
                  have h3 := HBj.out.h2
                  have hfr2 : Fr (fun c => kb ≤ c) wr (wr.drew.setRow kb (cellsB (blkAt s.data.toList kk)).toArray) := (Fr.refl _ wr).drew.setRow kb _ (.inl (Nat.le_refl _))
                  have hJ2 := HJJ.out kk _ _ HJj.out hfr2
                  have hbs2 : Blk (wr.drew.setRow kb (cellsB (blkAt s.data.toList kk)).toArray) Bn 9 [.string s] := HBj.out.bs.drew.kept (heap_setRow_other _ _ _ _ h3)
                  have hkt2 : Blk (wr.drew.setRow kb (cellsB (blkAt s.data.toList kk)).toArray) kt 189 (cellsB tf) := HTj.out.drew.kept (heap_setRow_other _ _ _ _ (by omega))
                  have hbk2 : Blk (wr.drew.setRow kb (cellsB (blkAt s.data.toList kk)).toArray) kb 175 (cellsB (blkAt s.data.toList kk)) := hbk.drew.setRow _
                  have hkl : kk < nBlk s.data.toList := by rw [HNB.out]; omega
                  clear hkk
                  have hbl64 := blkAt_len s.data.toList kk hkl
                  have hx := HXA.out kk hkl
                  have HI2 : Hid (BI W Bn kw kb s (wr.drew.setRow kb (cellsB (blkAt s.data.toList kk)).toArray)) := ⟨hbs2, ⟨_, by rw [cellsB_len]; exact hbl64, hbk2⟩, HBj.out.h0, HBj.out.h1, HBj.out.h2⟩
                  have HJ2 := Lib.hid hJ2
                  have HK2 := Lib.hid hbk2
                  have HT2 := Lib.hid hkt2
                  have HL2 := Lib.hid hbl64
                  clear hbl hbk hbb hfr2 hJ2 hbs2 hkt2 hbk2 hkl hbl64
                  gi_wp2
                  gi_region
                  clear hcp
                  gi_upto_region 22 with (fail)
                  obtain ⟨fn, tmps, assign, body, hy, hR⟩ := HYY.out kk _ _ HJ2.out hx
                  dsimp only [bEncs] at hy
                  obtain ⟨w5, hw5⟩ : ∃ w5, wr.drew.setRow kb (cellsB (blkAt s.data.toList kk)).toArray = w5 := ⟨_, rfl⟩
                  obtain ⟨bc, hbc⟩ : ∃ bc, (cellsB (blkAt s.data.toList kk)).toArray = bc := ⟨_, rfl⟩
                  have hsz : (Tryz.prog.info? 175).map (·.size) = some bc.size := by rw [Tryz.sizeB64, ← hbc, List.size_toArray, cellsB_len, HL2.out]
                  have HSZ := Lib.hid hsz
                  have HKR : Hid (w5.heap[kb]? = some (.cells bc 175 (0, 0))) := by show _ = _; rw [← hw5, ← hbc]; exact HK2.out
                  rw [hw5] at hy hR HI2 HT2 ⊢
                  rw [hbc] at hy
                  clear hsz hw5 hbc HJ2 HK2 HL2 hx
                  gi_wp2_with (refine wpListIn_load_row (o := ⟨some 65, _, _, _, _, _⟩) rfl 175 _ rfl kb rfl 175 bc (0, 0) _ HKR.out Tryz.underlying175 rfl HSZ.out ?_; try simp only [Act.put, List.setIfInBounds_toArray, List.set_cons_zero, List.set_cons_succ])
                  refine ⟨fun h => absurd h (by decide), hR.mono ?_⟩
                  rintro e W2 ⟨rfl, hJ3, hK3⟩
                  have HJ3 := Lib.hid hJ3
                  have HI3 := Lib.hid (HI2.out.kp hK3)
                  have HT3 := Lib.hid (hK3.blk HT2.out hktw)
                  clear hJ3 hK3 hy
                  gi_wp2
                  go_roundw
                  case rel => exact ⟨1 + 1, by decide, by go_num, by rw [← HKK.out] at HJ3; exact HJ3, HI3, HT3⟩
                  case measure => simp [intOf]
          · have q2 : (i : Int) < 8 := by omega
            have hi7 : i < 8 := by omega
            have htll := tailI_len s.data.toList a m 128 i HDL.out (by omega) hZ (by decide)
            obtain ⟨u1, cm⟩ : ∃ u, wr.cell? ⟨kt, (128 - 1 - i : Nat), none⟩ = some u := ⟨_, by rw [HTi.out.cell, cellsB_get _ _ (by rw [htll]; omega)]⟩
            have fm := HTi.out.frozen (128 - 1 - i)
            have hset := tailI_set s.data.toList a m 128 i HDL.out hi7 hZ
            have ht := HTi.out.set (128 - 1 - i) (.int .u8 ((UInt8.ofNat (s.data.toList.length * 8 / 256 ^ i)).toNat : Int))
            rw [← cellsB_set, hset, byte_shr, HLS.out] at ht
            obtain ⟨v, hv⟩ : ∃ v : Int, ((s.size : Int) * 8) / 2 ^ (8 * i) % 256 = v := ⟨_, rfl⟩
            rw [hv] at ht
            have HT5 := Lib.hid ht
            have h5 : BI W Bn kw kb s (wr.setCell ⟨kt, (128 - 1 - i : Nat), none⟩ (.int .u8 v)) := by
              obtain ⟨bl, hbl, hbk⟩ := HBi.out.bk
              exact ⟨HBi.out.bs.other _ (by show kt ≠ Bn; omega) _, ⟨bl, hbl, hbk.other _ (by show kt ≠ kb; omega) _⟩, HBi.out.h0, HBi.out.h1, HBi.out.h2⟩
            have hJ5 := HJJ.out k _ _ HJi.out ((Fr.refl (fun c => kb ≤ c) wr).setCell ⟨kt, (128 - 1 - i : Nat), none⟩ (.int .u8 v) (.inl (Nat.le_of_lt hkbt)))
            have H5 := Lib.hid h5
            have HJ5 := Lib.hid hJ5
            have hzi : ((127 : Int) - (i : Int)) = ((128 - 1 - i : Nat) : Int) := by omega
            have hzj : ((128 - 1 - i : Nat) : Int) < 128 := by omega
            have hktl : kt < wr.heap.size := HTi.out.lt
            clear htll hset ht h5 hJ5 hi8
            gi_wp2
            go_roundw
            case rel => exact ⟨i + 1, by omega, by go_num, HJ5, H5, HT5⟩
            case measure => simp [intOf]; omega
end Go.Proofs.YtfpcdlpfmlaakaaGreatDoor
