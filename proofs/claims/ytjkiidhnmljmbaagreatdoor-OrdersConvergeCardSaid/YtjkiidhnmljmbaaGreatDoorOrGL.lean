/- Orders: a list of orders in memory; Count. -/
import Derived.LoopTactic
import Derived.MapKept
import Derived.ChangeMaps4
import Derived.Maps.Own
import Derived.Maps.OwnSet
import Derived.Maps.OwnOps
import Derived.Deep.CutBlock
import Derived.WalkMore
import Derived.Test.YtjkiidhnmljmbaaGreatDoorOrJK
set_option linter.unusedVariables false
set_option linter.unusedSimpArgs false
set_option maxRecDepth 100000
set_option maxHeartbeats 8000000
namespace Go.Proofs.YtjkiidhnmljmbaaGreatDoor
open Go.RowKit
structure Od where
 s : Int
 ch : Int
 f : Int
 k : Int
 e : Int
def Od.A (o : Od) : Array Value := ordA o.s o.ch o.f o.k o.e
def oCells (l : List Od) : List Value := l.flatMap fun o => o.A.toList
theorem oCells_len (l : List Od) : (oCells l).length = l.length * 26 := by
 induction l with
 | nil => rfl
 | cons o l ih => simp only [oCells, List.flatMap_cons, List.length_append, List.length_cons] at *; rw [ih]; show 26 + _ = _; omega
theorem oCells_at : ∀ (l : List Od) (i : Nat) (o : Od) (t : Nat), l[i]? = some o → t < 26 → (oCells l)[i * 26 + t]? = o.A.toList[t]?
 | [], _, _, _, h, _ => by simp at h
 | q :: l, 0, o, t, h, ht => by
  simp at h
  subst h
  simp only [oCells, List.flatMap_cons, Nat.zero_mul, Nat.zero_add]
  rw [List.getElem?_append_left (by show t < 26; exact ht)]
 | q :: l, i + 1, o, t, h, ht => by
  have := oCells_at l i o t (by simpa using h) ht
  simp only [oCells, List.flatMap_cons]
  rw [List.getElem?_append_right (by show 26 ≤ _; omega), show (i + 1) * 26 + t - q.A.toList.length = i * 26 + t by show _ - 26 = _; omega];exact this
def RdO (W : World) (oa : Option Addr) (l : List Od) : Prop := l = [] ∨ ∃ b o, oa = some ⟨b, o, none⟩ ∧ b < W.heap.size ∧ ∀ (j : Nat) v, (oCells l)[j]? = some v → W.cell? ⟨b, o + j, none⟩ = some v
theorem RdO.kept {W W' : World} {oa : Option Addr} {l : List Od} (h : RdO W oa l) (hb : Below W.heap.size W W') : RdO W' oa l := by
 rcases h with rfl | ⟨b, o, e, hlt, hc⟩
 ·exact .inl rfl
 ·exact .inr ⟨b, o, e, Nat.lt_of_lt_of_le hlt hb.size, fun j v hj => (hb.cell (p := ⟨b, o + j, none⟩) hlt).trans (hc j v hj)⟩
theorem RdO.at {W : World} {oa : Option Addr} {l : List Od} (h : RdO W oa l) (i : Nat) (q : Od) (hq : l[i]? = some q) : ∃ b o, oa = some ⟨b, o, none⟩ ∧ b < W.heap.size ∧ W.rangeAt b (o + i * 26) q.A.toList := by
 rcases h with rfl | ⟨b, o, e, hlt, hc⟩
 ·simp at hq
 ·refine ⟨b, o, e, hlt, fun j v hj => ?_⟩
  have hjl : j < 26 := (List.getElem?_eq_some_iff.1 hj).1
  rw [Nat.add_assoc]
  exact hc (i * 26 + j) v ((oCells_at l i q j hq hjl).trans hj)
def cntO (l : List Od) (fr : Int) : Nat := (l.filter fun o => decide (o.f ≤ fr)).length
theorem cntO_snoc (l : List Od) (i : Nat) (q : Od) (fr : Int) (hq : l[i]? = some q) : cntO (l.take (i + 1)) fr = cntO (l.take i) fr + if q.f ≤ fr then 1 else 0 := by
 have : l.take (i + 1) = l.take i ++ [q] := by rw [List.take_add_one, hq]; rfl
 rw [this]
 unfold cntO
 rw [List.filter_append, List.length_append]
 by_cases h : q.f ≤ fr <;> simp [h]
theorem cntO_le (l : List Od) (fr : Int) : cntO l fr ≤ l.length := List.length_filter_le _ _
theorem count_any (l : List Od) (oa : Option Addr) (n c : Nat) (fr : Int) (W : World) (hn : l.length = n) (hlm : n ≤ 1000000) (hr : RdO W oa l) : Calls Tryz.prog 27 #[.slice oa n c, .int .i64 fr] W fun e w' => e = .returned (.int .i64 (cntO l fr : Nat)) ∧ Below W.heap.size W w' := by
 have HR := Lib.hid hr;have HN := Lib.hid hn
 have HSZ := szO
 clear hr hn
 go_enter Tryz.func27, Tryz.ntmps27
 go_wp2_with fail
 go_loopw [5, 10] (fun vc vi wr => ∃ (i cn : Nat), i ≤ n ∧ vi = .int .i64 i ∧ vc = .int .i64 cn ∧ Hid (cn = cntO (l.take i) fr) ∧ Hid (Below W.heap.size W wr)) (fun _ v _ => n - (intOf v).toNat)
 case atStart => exact ⟨0, 0, Nat.zero_le _, rfl, rfl, rfl, Below.refl _ _⟩
 case round =>
  obtain ⟨i, cn, hin, rfl, rfl, HC, HB⟩ := hrel
  by_cases h : i < n
  ·have q1 : (i : Int) < (n : Int) := by omega
   have q2 : (0 : Int) ≤ (i : Int) := by omega
   obtain ⟨q, hq⟩ : ∃ q, l[i]? = some q := ⟨l[i]'(by rw [HN.out]; exact h), List.getElem?_eq_getElem _⟩
   obtain ⟨b, o, rfl, hlt, hrg⟩ := (HR.out.kept HB.out).at i q hq
   obtain ⟨M, hM⟩ : ∃ M, wr.heap.size = M := ⟨_, rfl⟩
   obtain ⟨w1, hw1⟩ : ∃ w1, wr.alloc (.cells (ordA 0 0 0 0 0) 30) = w1 := ⟨_, rfl⟩
   have hk1 : Blk w1 M 30 (ordA 0 0 0 0 0).toList := by rw [← hw1, ← hM]; exact Blk.new wr _ _
   obtain ⟨w2, hw2⟩ : ∃ w2, w1.setRow M q.A = w2 := ⟨_, rfl⟩
   have hk2 : Blk w2 M 30 q.A.toList := by rw [← hw2]; exact hk1.setRow _
   have hb2 : Below W.heap.size W w2 := by
    rw [← hw2, ← hw1]
    exact below_setRow (HB.out.alloc HB.out.size _) (by rw [← hM]; exact HB.out.size) _
   have c2 : w2.cell? ⟨M, 2, none⟩ = some (.int .i64 q.f) := hk2.cell 2
   have HO1 : Hid (q.A.all (·.oneCell') = true) := (by first | rfl | (unfold Od.A ordA; simp [Value.oneCell']) : q.A.all (·.oneCell') = true)
   have HO2 : Hid ((ordA 0 0 0 0 0).toList.toArray.size = q.A.size) := rfl
   have HRG := Lib.hid hrg;have HK1 := Lib.hid hk1;have HW2 := Lib.hid hw2;have HB2 := Lib.hid hb2
   have hcn := cntO_snoc l i q fr hq
   rw [← HC.out] at hcn
   have hcl : cn ≤ 1000000 := by
    have := cntO_le (l.take i) fr
    rw [← HC.out, List.length_take] at this
    omega
   dsimp only [ordA] at hw1
   obtain ⟨qf, hqf⟩ : ∃ qf, q.f = qf := ⟨_, rfl⟩
   rw [hqf] at c2 hcn;clear hq hlt hrg hk1 hk2 hw2 hb2 hqf HC HB
   by_cases hf : qf ≤ fr
   all_goals
    first | rw [if_pos hf] at hcn | rw [if_neg hf] at hcn
    have HCN := Lib.hid hcn;clear hcn
    go_wp2_with (first | (refine wpList_load_mid rfl 30 (.tmp 12) rfl b (o + i * 26) rfl q.A.toList _ HRG.out Tryz.underlying30 rfl HSZ.out ?_) | (refine wpList_store_row rfl 30 (.tmp 7) (.tmp 13) rfl M q.A rfl rfl 30 _ HK1.out HSZ.out HO2.out HO1.out ?_; rw [HW2.out]))
    go_roundw
    case rel => exact ⟨i + 1, _, by omega, by go_num, by go_num, by rw [HCN.out]; exact rfl, HB2⟩
    case measure => simp [intOf]; omega
  ·have q1 : ¬ (i : Int) < (n : Int) := by omega
   have e : cn = cntO l fr := by rw [HC.out, List.take_of_length_le (by rw [HN.out]; omega)]
   have HE := Lib.hid e;clear e h
   go_wp2_with fail
   go_ret
   exact ⟨by rw [HE.out]; rfl, HB.out⟩
open Go.RowKit Go.ChangeMaps
def idxE : List (Int × Od) → Int → Option (Nat × Od)
 | [], _ => none
 | p :: E, k => if k == p.1 then some (0, p.2) else (idxE E k).map fun q => (q.1 + 1, q.2)
def entsE (E : List (Int × Od)) : List (Value × Value) := E.map fun p => (.int .i64 p.1, .agg p.2.A)
def MapE (W : World) (m : Nat) (E : List (Int × Od)) : Prop := ∃ es clk, W.heap[m]? = some (.map es clk) ∧ es.toList.map (fun e => (e.key, e.val)) = entsE E
theorem MapE.lt {W : World} {m : Nat} {E : List (Int × Od)} (h : MapE W m E) : m < W.heap.size := by
 obtain ⟨es, clk, h1, _⟩ := h
 exact (Array.getElem?_eq_some_iff.1 h1).1
theorem MapE.kept {W W' : World} {m : Nat} {E : List (Int × Od)} (h : MapE W m E) (e : W'.heap[m]? = W.heap[m]?) : MapE W' m E := by
 obtain ⟨es, clk, h1, h2⟩ := h
 exact ⟨es, clk, e.trans h1, h2⟩
theorem MapE.isMap {W : World} {m : Nat} {E : List (Int × Od)} (h : MapE W m E) {o : Obj} (ho : W.heap[m]? = some o) : o.isCells = false := by
 obtain ⟨es, clk, h1, h2⟩ := h
 rw [h1] at ho
 cases ho
 rfl
theorem find_int (k : Int) : ∀ (E : List (Int × Od)) (es : List MapEntry) (i : Nat), es.map (fun e => (e.key, e.val)) = entsE E →
  Instr.findNow (.int .i64) (.int .i64 k) es i = some ((idxE E k).map fun q => (i + q.1, .agg q.2.A))
 | [], [], i, _ => rfl
 | [], _ :: _, _, h => by simp [entsE] at h
 | _ :: _, [], _, h => by simp [entsE] at h
 | p :: E, e :: es, i, h => by
  simp only [entsE, List.map_cons, List.cons.injEq, Prod.mk.injEq] at h
  obtain ⟨⟨h1, h2⟩, h3⟩ := h
  unfold Instr.findNow
  rw [h1, h2]
  simp only [Instr.sameNow, if_pos]
  by_cases hk : k = p.1
  ·subst hk
   simp [idxE]
  ·have hb : (k == p.1) = false := beq_eq_false_iff_ne.2 hk
   rw [hb]
   simp only [idxE, hb]
   rw [find_int k E es (i + 1) h3]
   cases idxE E k with
   | none => rfl
   | some q => simp; omega
theorem idxE_lt {k : Int} : ∀ {E : List (Int × Od)} {j : Nat} {o : Od}, idxE E k = some (j, o) → E[j]? = some (k, o)
 | [], _, _, h => by simp [idxE] at h
 | p :: E, j, o, h => by
  unfold idxE at h
  by_cases hk : k = p.1
  ·subst hk
   simp at h
   obtain ⟨rfl, rfl⟩ := h
   rfl
  ·rw [if_neg (by rw [beq_iff_eq]; exact hk)] at h
   cases hq : idxE E k with
   | none => rw [hq] at h; simp at h
   | some q =>
    rw [hq] at h
    simp at h
    obtain ⟨rfl, rfl⟩ := h
    exact idxE_lt (j := q.1) (o := q.2) hq
section
variable {W : World} {m : Nat} {E : List (Int × Od)} (h : MapE W m E) (k : Int)
include h
theorem look_hit {j : Nat} {o : Od} (hi : idxE E k = some (j, o)) : (Instr.lookup 113 (.map (some m)) (.int .i64 k) true).run Tryz.prog W = .ok (.tuple #[.agg o.A, .bool true]) W := by
 obtain ⟨es, clk, h1, h2⟩ := h
 have hf := find_int k E es.toList 0 h2
 rw [hi] at hf
 simp only [Option.map_some] at hf
 simp [Instr.lookup, run_underlying Tryz.underlying113, MapKept.run_getObj_map h1, MapKept.run_checkKey (w := W) Tryz.underlying3 (show MapKept.IsKey (.int .i64) (.int .i64 k) from rfl), MapKept.run_findKey Tryz.underlying3 hf, Result.andThen]
theorem look_miss (hi : idxE E k = none) : (Instr.lookup 113 (.map (some m)) (.int .i64 k) true).run Tryz.prog W = .ok (.tuple #[.agg (ordA 0 0 0 0 0), .bool false]) W := by
 obtain ⟨es, clk, h1, h2⟩ := h
 have hf := find_int k E es.toList 0 h2
 rw [hi] at hf
 simp only [Option.map_none] at hf
 have hz : (zeroValue 30).run Tryz.prog W = .ok (.agg (ordA 0 0 0 0 0)) W := by kernel_rfl
 simp [Instr.lookup, run_underlying Tryz.underlying113, MapKept.run_getObj_map h1, MapKept.run_checkKey (w := W) Tryz.underlying3 (show MapKept.IsKey (.int .i64) (.int .i64 k) from rfl), MapKept.run_findKey Tryz.underlying3 hf, hz, Result.andThen]
theorem set_map (o : Obj) : Fr (fun c => c = m) W (setBlock W m o) ∧ (setBlock W m o).heap[m]? = some o := by
 obtain ⟨es, clk, h1, h2⟩ := h
 refine ⟨⟨rfl, rfl, rfl, by simp [setBlock], fun c hc hn => ?_⟩, (MapKept.heap_set (o' := o) h1).1⟩
 exact (MapKept.heap_set (o' := o) h1).2 c hn
theorem put_miss (o : Od) (hi : idxE E k = none) : ∃ w', (Instr.mapUpdate 113 (.map (some m)) (.int .i64 k) (.agg o.A)).run Tryz.prog W = .ok () w' ∧ MapE w' m (E ++ [(k, o)]) ∧ Fr (fun c => c = m) W w' := by
 have hs := fun o => set_map h o
 obtain ⟨es, clk, h1, h2⟩ := h
 have hf := find_int k E es.toList 0 h2
 rw [hi] at hf
 simp only [Option.map_none] at hf
 refine ⟨setBlock W m (.map (es.push { key := .int .i64 k, val := .agg o.A, born := clk }) (clk + 1)), ?_, ⟨_, _, (hs _).2, ?_⟩, (hs _).1⟩
 ·simp [Instr.mapUpdate, run_underlying Tryz.underlying113, MapKept.run_getObj_map h1, MapKept.run_checkKey (w := W) Tryz.underlying3 (show MapKept.IsKey (.int .i64) (.int .i64 k) from rfl), MapKept.run_findKey Tryz.underlying3 hf, MapKept.run_setObj_map _ h1, Result.andThen, setBlock]
 ·simp only [Array.toList_push, List.map_append, h2, entsE, List.map_cons, List.map_nil]
theorem del_hit {j : Nat} {o : Od} (hi : idxE E k = some (j, o)) : ∃ w', (∀ ty, (Builtin.delete_ #[113, 3] ty #[.map (some m), .int .i64 k]).run Tryz.prog W = .ok (.tuple #[]) w') ∧ MapE w' m (E.eraseIdx j) ∧ Fr (fun c => c = m) W w' := by
 have hs := fun o => set_map h o
 obtain ⟨es, clk, h1, h2⟩ := h
 have hf := find_int k E es.toList 0 h2
 rw [hi] at hf
 simp only [Option.map_some, Nat.zero_add] at hf
 have hjl : j < es.size := by
  have hl := congrArg List.length h2
  simp only [List.length_map, entsE, Array.length_toList] at hl
  rw [hl]
  exact (List.getElem?_eq_some_iff.1 (idxE_lt hi)).1
 have hsub : (es.eraseIdxIfInBounds j).toList = es.toList.eraseIdx j := by
  unfold Array.eraseIdxIfInBounds
  rw [dif_pos hjl]
  simp
 refine ⟨setBlock W m (.map (es.eraseIdxIfInBounds j) clk), fun ty => ?_, ⟨_, _, (hs _).2, ?_⟩, (hs _).1⟩
 ·simp [Builtin.delete_, run_underlying Tryz.underlying113, MapKept.run_getObj_map h1, MapKept.run_checkKey (w := W) Tryz.underlying3 (show MapKept.IsKey (.int .i64) (.int .i64 k) from rfl), MapKept.run_findKey Tryz.underlying3 hf, MapKept.run_setObj_map _ h1, Result.andThen, setBlock]
 ·rw [hsub, map_eraseIdx, h2]
  unfold entsE
  rw [map_eraseIdx]
end
theorem wpList_delete_run {P : Program} (w : World) {ops : Array Oper} {rest : List Oper} {o : Oper} {a : Act} {Q : Exit → Act → World → Prop}
  (hg : o.guard = none) (s x : Operand) (t k : TypeId) (hop : o.op = Op.call { callee := Callee.builtin Builtin.delete, args := #[s, x], argTypes := #[t, k] })
  (v y : Value) (w' : World) (hs : a.eval s = v) (hx : a.eval x = y) (hrun : ∀ ty, (Builtin.delete_ #[t, k] ty #[v, y]).run P w = .ok (.tuple #[]) w') (hK : wpList P ops Q rest (a.put o.dst (.tuple #[])) w') : wpList P ops Q (o :: rest) a w := by
 refine wpList_plain hg fun K hK' => ?_
 unfold Oper.wp
 simp [execOp, hop, resolve, invoke, builtin, hs, hx, hrun, Result.andThen]
 exact hK' _ _ hK
theorem step_mapUpdate {ops : Array Oper} {o : Oper} {a : Act} {K : Act → World → Prop} {Q : Exit → Act → World → Prop} {E : Prop} {W w' : World} {mv kv v : Value} {t : TypeId} (hgd : o.guard = none) (m x y : Operand)
  (ho : o.op = .mapUpdate t m x y) (hm : a.eval m = mv) (hx : a.eval x = kv) (hy : a.eval y = v) (hrun : (Instr.mapUpdate t mv kv v).run Tryz.prog W = .ok () w') (hK : K (a.put o.dst undef) w') :
  if Region.wanted o (yielded ops a.tmps) = true then Oper.wp Tryz.prog o a W K Q else E := by
 have hw : Region.wanted o (yielded ops a.tmps) = true := by simp [Region.wanted, hgd]
 rw [if_pos hw]
 unfold Oper.wp
 simp [execOp, ho, hm, hx, hy, hrun, Result.andThen]
 exact hK
theorem yieldsIf_lookup {ops : Array Oper} {S : World → Prop} {op : Oper} {a : Act} (hw : Region.wanted op (yielded ops a.tmps) = true) (t : TypeId) (x y : Operand) (ho : op.op = .lookup t x y true) (mv kv v : Value) (hx : a.eval x = mv) (hy : a.eval y = kv)
  (hS : ∀ w, S w → (Instr.lookup t mv kv true).run Tryz.prog w = .ok v w) : YieldsIf Tryz.prog ops S op v a :=
 .inl ⟨hw, fun w hw' => by
  unfold execOp
  simp [ho, hx, hy, hS w hw', Result.andThen]⟩
attribute [local go_sem] Oper.semAt_some
structure RcAt (W : World) (B br : Nat) (tn : Int) (vo : Value) (l : List Od) (m : Nat) (E : List (Int × Od)) : Prop where
 blk : Blk W br 115 [.int .i64 tn, .bool true, vo, .map (some m)]
 own : W.ownsRow B 30 26 vo l.length (oCells l)
 mp : MapE W m E
 ge : B ≤ br
 gem : B ≤ m
 ne : ∀ g, vo.ownBlock = some g → g ≠ br
section
variable {W W' : World} {B br m : Nat} {tn : Int} {vo : Value} {l : List Od} {E E' : List (Int × Od)}
theorem RcAt.brm (h : RcAt W B br tn vo l m E) : br ≠ m := fun e => by
 subst e
 have h1 := h.mp.isMap h.blk
 cases h1
theorem RcAt.rowm (h : RcAt W B br tn vo l m E) (g : Nat) (hg : vo.ownBlock = some g) : g ≠ m := fun e => by
 subst e
 rcases h.own.2 with ⟨h2, _⟩ | ⟨g', cap, cur, h2, _, h3, _⟩
 ·rw [h2] at hg
  simp [Value.ownBlock] at hg
 ·rw [h2] at hg
  simp [Value.ownBlock] at hg
  subst hg
  have h1 := h.mp.isMap h3
  cases h1
theorem RcAt.turn (h : RcAt W B br tn vo l m E) {S : Nat → Prop} (hf : Fr S W W') (hS : ∀ c, S c → c ≠ br ∧ c ≠ m ∧ vo.ownBlock ≠ some c) : RcAt W' B br tn vo l m E :=
 ⟨h.blk.kept (hf.block _ h.blk.lt (fun hs => (hS _ hs).1 rfl)), ownsRow_keptF h.own (fun g e => hf.block g (own_lt h.own g e) (fun hs => (hS g hs).2.2 e)), h.mp.kept (hf.block _ h.mp.lt (fun hs => (hS _ hs).2.1 rfl)), h.ge, h.gem, h.ne⟩
theorem RcAt.below (h : RcAt W B br tn vo l m E) (hb : Below W.heap.size W W') : RcAt W' B br tn vo l m E := h.turn (Fr.under (fun _ => False) hb) (fun _ e => e.elim)
theorem RcAt.put (h : RcAt W B br tn vo l m E) (hm : MapE W' m E') (hf : Fr (fun c => c = m) W W') : RcAt W' B br tn vo l m E' :=
 ⟨h.blk.kept (hf.block _ h.blk.lt h.brm), ownsRow_keptF h.own (fun g e => hf.block g (own_lt h.own g e) (h.rowm g e)), hm, h.ge, h.gem, h.ne⟩
theorem RcAt.app {ob : Option Addr} {cb n : Nat} {q : Od} (h : RcAt W B br tn vo l m E) (hn : l.length = n) (ho : W'.ownsRow B 30 26 (.slice ob (n + 1) cb) (n + 1) (oCells l ++ q.A.toList)) (hf : Fr (fun c => vo.ownBlock = some c) W W') (hnew : ∀ c, (Value.slice ob (n + 1) cb).ownBlock = some c → vo.ownBlock = some c ∨ W.heap.size ≤ c) :
  RcAt (W'.setCell ⟨br, 2, none⟩ (.slice ob (n + 1) cb)) B br tn (.slice ob (n + 1) cb) (l ++ [q]) m E := by
 subst hn
 have hne : ∀ c, (Value.slice ob (l.length + 1) cb).ownBlock = some c → c ≠ br := fun c e => (hnew c e).elim (fun e => h.ne c e) (fun e => by have := h.blk.lt; omega)
 refine ⟨(h.blk.kept (hf.block _ h.blk.lt (fun e => h.ne _ e rfl))).set 2 _, ?_, (h.mp.kept (hf.block _ h.mp.lt (fun e => h.rowm _ e rfl))).kept (Below.heap_setCell _ _ _ _ (fun e => h.brm e.symm)), h.ge, h.gem, hne⟩
 have e : oCells l ++ q.A.toList = oCells (l ++ [q]) := by simp [oCells]
 rw [List.length_append, ← e]
 exact ownsRow_keptF ho (fun c e => Below.heap_setCell _ _ _ _ (hne c e))
end
def putE (l : List Od) (E : List (Int × Od)) (sq : Int) (o : Od) : List (Int × Od) :=
 match idxE E sq with
 | some _ => E
 | none => if (l.length : Int) < sq then E ++ [(sq, o)] else E
def advE : Nat → List Od → List (Int × Od) → List Od × List (Int × Od)
 | 0, l, E => (l, E)
 | n + 1, l, E => match idxE E ((l.length : Int) + 1) with
  | none => (l, E)
  | some q => advE n (l ++ [q.2]) (E.eraseIdx q.1)
theorem advE_none (l : List Od) (E : List (Int × Od)) (n : Nat) (h : idxE E ((l.length : Int) + 1) = none) : advE n l E = (l, E) := by
 cases n with
 | zero => rfl
 | succ n => simp only [advE, h]
theorem advE_some (l : List Od) (E : List (Int × Od)) (j : Nat) (o : Od) (h : idxE E ((l.length : Int) + 1) = some (j, o)) : advE E.length l E = advE (E.eraseIdx j).length (l ++ [o]) (E.eraseIdx j) := by
 have hj := (List.getElem?_eq_some_iff.1 (idxE_lt h)).1
 obtain ⟨n, hn⟩ : ∃ n, E.length = n + 1 := ⟨E.length - 1, by omega⟩
 rw [List.length_eraseIdx, if_pos hj, hn]
 simp only [advE, h, Nat.add_sub_cancel]
def BoolV (v : Value) : Prop := ∃ b, v = .bool b
def mapSz (W : World) (m : Nat) : Nat := match W.heap[m]? with | some (.map es _) => es.size | _ => 0
theorem MapE.sz {W : World} {m : Nat} {E : List (Int × Od)} (h : MapE W m E) : mapSz W m = E.length := by
 obtain ⟨es, clk, h1, h2⟩ := h
 have hl := congrArg List.length h2
 simp only [List.length_map, entsE, Array.length_toList] at hl
 unfold mapSz
 rw [h1];exact hl
theorem look_any (E : List (Int × Od)) (k : Int) : ∃ (oo : Array Value) (ok : Bool), ok = (idxE E k).isSome ∧ oo.size = 26 ∧ oo.all (·.oneCell') = true ∧ (∀ q, idxE E k = some q → oo = q.2.A) ∧ ∀ (W : World) (m : Nat), MapE W m E → (Instr.lookup 113 (.map (some m)) (.int .i64 k) true).run Tryz.prog W = .ok (.tuple #[.agg oo, .bool ok]) W := by
 cases h : idxE E k with
 | none => exact ⟨ordA 0 0 0 0 0, false, rfl, rfl, by unfold ordA; simp [Value.oneCell'], (fun q e => by cases e), fun W m hm => look_miss hm k h⟩
 | some q =>
  obtain ⟨j, o⟩ := q
  exact ⟨o.A, true, rfl, rfl, by unfold Od.A ordA; simp [Value.oneCell'], (fun q e => by cases e; rfl), fun W m hm => look_hit hm k h⟩
def RecvP (W : World) (B br : Nat) (tn : Int) (vo : Value) (l : List Od) (m : Nat) (E : List (Int × Od)) (sq : Int) (o : Od) (e : Ending) (w' : World) : Prop :=
 ∃ vo' ob l' E', (l', E') = advE (putE l E sq o).length l (putE l E sq o) ∧ e = .returned (.slice (some ⟨ob, 0, none⟩) 1 1) ∧ Blk w' ob 32 (msgA 2 tn (l'.length : Int) 0 0 0 0 0 0 0).toList ∧ W.heap.size ≤ ob ∧ RcAt w' B br tn vo' l' m E' ∧ Fr (fun c => c = br ∨ c = m ∨ vo.ownBlock = some c) W w' ∧ ∀ c, vo'.ownBlock = some c → vo.ownBlock = some c ∨ W.heap.size ≤ c
theorem recv_ord (W : World) (B br : Nat) (tn : Int) (vo : Value) (l : List Od) (m : Nat) (E : List (Int × Od)) (sq f : Int) (h : RcAt W B br tn vo l m E) (t0 : 0 ≤ tn) (t1 : tn < 3) (s0 : 1 ≤ sq) (s1 : sq ≤ 200) (f0 : 0 ≤ f) (f1 : f ≤ 100000000) (hlE : l.length + E.length ≤ 1000) :
  Calls Tryz.prog 21 #[.pointer (some ⟨br, 0, none⟩), .agg (msgA 1 tn sq 0 0 sq (-1) f 2 1)] W (RecvP W B br tn vo l m E sq ⟨sq, -1, f, 2, 1⟩) := by
 obtain ⟨N, w1, hN, hw1, hb1, hk1⟩ := bx W (msgA 1 tn sq 0 0 sq (-1) f 2 1) (msgA 1 tn sq 0 0 sq (-1) f 2 1).toList 32 rfl
 have hs1 : RcAt w1 B br tn vo l m E := h.below (by rw [hN]; exact hb1)
 obtain ⟨n, hn⟩ : ∃ n, l.length = n := ⟨_, rfl⟩
 obtain ⟨ov, cv, rfl⟩ := own_slice h.own
 obtain ⟨P, hP⟩ : ∃ P, w1.heap.size = P := ⟨_, rfl⟩
 have hNP : N < P := by rw [← hP]; exact hk1.lt
 have up : ∀ W', Below P w1 W' → RcAt W' B br tn (.slice ov l.length cv) l m E := fun W' hW => hs1.below (by rw [hP]; exact hW)
 have upm : ∀ W', Below P w1 W' → Blk W' N 32 (msgA 1 tn sq 0 0 sq (-1) f 2 1).toList := fun W' hW => hk1.kept (hW.block N hNP)
 obtain ⟨oo, ok, hok, hoz, ho1, _, hlk⟩ := look_any E sq
 have HRU := Lib.hid up
 have HK1 : Hid (∀ W, Below P w1 W → W.rangeAt N 0 (msgA 1 tn sq 0 0 sq (-1) f 2 1).toList ∧ W.cell? ⟨br, 0, none⟩ = some (.int .i64 tn)) := fun W' hW => ⟨(upm W' hW).range, (up W' hW).blk.cell 0⟩
 have HK3 : Hid (∀ W, Below P w1 W → W.cell? ⟨br, 3, none⟩ = some (.map (some m)) ∧ W.cell? ⟨N, 2, none⟩ = some (.int .i64 sq) ∧ (Instr.lookup 113 (.map (some m)) (.int .i64 sq) true).run Tryz.prog W = .ok (.tuple #[.agg oo, .bool ok]) W) := fun W' hW => ⟨(up W' hW).blk.cell 3, (upm W' hW).cell 2, hlk W' m (up W' hW).mp⟩
 have HK4 : Hid (∀ W, Below P w1 W → W.cell? ⟨N, 2, none⟩ = some (.int .i64 sq) ∧ W.cell? ⟨br, 2, none⟩ = some (.slice ov n cv)) := fun W' hW => ⟨(upm W' hW).cell 2, by rw [← hn]; exact (up W' hW).blk.cell 2⟩
 have HK5 : Hid (∀ W, Below P w1 W → W.cell? ⟨br, 3, none⟩ = some (.map (some m)) ∧ W.cell? ⟨N, 2, none⟩ = some (.int .i64 sq) ∧ W.rangeAt N 5 (ordA sq (-1) f 2 1).toList) := fun W' hW => ⟨(up W' hW).blk.cell 3, (upm W' hW).cell 2, (upm W' hW).rangeO 5 rfl⟩
 have HKM : Hid (∀ zp, RcAt zp B br tn (.slice ov l.length cv) l m (E ++ [(sq, ⟨sq, -1, f, 2, 1⟩)]) → ∀ {z : World}, Fr (fun c => c = m) z zp → Below P w1 z → zp.cell? ⟨br, 3, none⟩ = some (.map (some m)) ∧ zp.cell? ⟨N, 2, none⟩ = some (.int .i64 sq) ∧ zp.rangeAt N 5 (ordA sq (-1) f 2 1).toList) := fun zp hr z hf hb => by
  have hN9 : N ≠ m := fun e => by
   have := hs1.mp.isMap (e ▸ hk1)
   cases this
  have hk := (upm z hb).kept (hf.block N (upm z hb).lt hN9)
  exact ⟨hr.blk.cell 3, hk.cell 2, hk.rangeO 5 rfl⟩
 have HLV : Hid (∀ W', Below P w1 W' → _) := fun W' hW => rlives_any br _ _ _ W' (up W' hW).blk
 have HTK := Lib.hid (fun W' => takes_ord tn sq f W' t0 t1 s0 s1 f0 f1)
 have HSM := szM
 have HSZ := szO
 have HOK := Lib.hid hok;have HOZ := Lib.hid hoz;have HO1 := Lib.hid ho1;have HN := Lib.hid hN;have HP := Lib.hid hP;have HB1 := Lib.hid hb1;have HNP := Lib.hid hNP;have HLN := Lib.hid hn;have HRW := Lib.hid h
 have HQ : Hid (Below P w1 w1) := Below.refl _ _
 have HLE := Lib.hid hlE
 dsimp only [msgA] at hw1
 dsimp only [msgA]
 clear hb1 hk1 hs1 h up upm hn hP hok hoz ho1 hlk hNP hlE
 go_enter Tryz.func21, Tryz.ntmps21
 go_upto_region 1 with (fail)
 go_step3
 go_upto_region 1 with (fail)
 refine wp_region_held_drew (S := fun W => W.rangeAt N 0 (msgA 1 tn sq 0 0 sq (-1) f 2 1).toList ∧ W.cell? ⟨br, 0, none⟩ = some (.int .i64 tn)) (by kernel_rfl) ?_ (fun hHeld => ?_)
 ·exact HK1.out _ HQ.out.drew
 have hQ1 := HQ.out.drew
 generalize World.drew _ = z at hQ1 hHeld ⊢
 have HQ := Lib.hid hQ1;clear hQ1;refine tk 0 (some 10) ?_
 refine rd1 1 (some 11) (fun K hK => ?_)
 go_simp
 refine (HLV.out _ HQ.out).mono ?_
 rintro e w' ⟨rfl, rfl⟩;go_simp
 refine hK.out _ _ ?_ (fun hHeld2 => ?_)
 ·exact HK1.out _ HQ.out
 clear hK K hHeld;rename _ => hHeld;refine tk 2 (some 12) ?_;refine tk 3 (some 13) ?_;refine tk 4 (some 14) ?_;refine tk 5 (some 15) ?_;refine tk 6 (some 16) ?_;refine tk 7 (some 17) ?_
 refine wpAnyH_take (i := 8) (oi := ⟨some 18, _, _, _, _, _⟩) (v := .agg (msgA 1 tn sq 0 0 sq (-1) f 2 1)) rfl (by kernel_rfl) (by kernel_rfl) (by kernel_rfl) (fun _ _ _ h => h) (yieldsIf_load_mid (by rfl) 32 (.tmp 3) rfl N 0 rfl (msgA 1 tn sq 0 0 sq (-1) f 2 1).toList _ (fun _ h => h.1) Tryz.underlying32 rfl HSM.out) (by assumption) ?_
 try simp only [Act.put, sa, sz, ss]
 refine rd1 9 (some 19) (fun K hK => ?_)
 go_simp
 refine (HTK.out _).mono ?_
 rintro e z ⟨rfl, hbz⟩
 have HQ : Hid (Below P w1 z) := HQ.out.trans (hbz.mono (bnl9 HP.out HQ.out))
 clear hbz;go_simp
 refine hK.out _ _ ?_ (fun hHeld2 => ?_)
 ·exact HK1.out _ HQ.out
 clear hK K hHeld;rename _ => hHeld;refine tk 10 (some 20) ?_;refine tk 11 (some 21) ?_;refine wpAnyH_done (by kernel_rfl) ?_ _;clear hHeld
 go_upto_region 3 with (fail)
 have HQD : Hid (Below P w1 _) := HQ.out.drew
 refine wp_region_held_drew (S := fun W => W.cell? ⟨br, 3, none⟩ = some (.map (some m)) ∧ W.cell? ⟨N, 2, none⟩ = some (.int .i64 sq) ∧ (Instr.lookup 113 (.map (some m)) (.int .i64 sq) true).run Tryz.prog W = .ok (.tuple #[.agg oo, .bool ok]) W) (by kernel_rfl) ?_ (fun hHeld => ?_)
 ·exact HK3.out _ HQD.out
 have hQ3 := HQD.out
 generalize World.drew _ = z at hQ3 hHeld ⊢
 have HQ := Lib.hid hQ3;clear hQ3;refine tk 0 (some 23) ?_;refine tk 1 (some 24) ?_;refine tk 2 (some 25) ?_;refine tk 3 (some 26) ?_;refine tk 4 (some 27) ?_;refine tk 5 (some 28) ?_
 refine wpAnyH_take (i := 6) (oi := ⟨some 29, _, _, _, _, _⟩) (v := .tuple #[.agg oo, .bool ok]) rfl (by kernel_rfl) (by kernel_rfl) (by kernel_rfl) (fun _ _ _ h => h) (yieldsIf_lookup (by rfl) 113 (.tmp 26) (.tmp 28) rfl (.map (some m)) (.int .i64 sq) _ rfl rfl (fun _ h => h.2.2)) (by assumption) ?_
 refine tk 7 (some 22) ?_;refine tk 8 (some 30) ?_;refine tk 9 (some 31) ?_
 refine rd1 10 (some 5) (fun K hK => ?_)
 go_simp
 obtain ⟨ob, hob⟩ : ∃ ob, z.heap.size = ob := ⟨_, rfl⟩
 have HOB : Hid (P ≤ ob) := (by rw [← hob]; exact bnl9 HP.out HQ.out : P ≤ ob)
 have HM : Hid (Blk _ ob 30 lZo) := (by rw [← hob]; exact Blk.new z _ _ : Blk (z.alloc (.cells aZo 30)) ob 30 lZo)
 have hbz : Below P w1 (z.alloc (.cells aZo 30)) := HQ.out.alloc (bnl9 HP.out HQ.out) _
 obtain ⟨z2, hz2⟩ : ∃ z2, z.alloc (.cells aZo 30) = z2 := ⟨_, rfl⟩
 rw [hz2] at HM hbz ⊢
 rw [hob];have HQ := Lib.hid hbz;clear hz2 hbz hob
 obtain ⟨z, rfl⟩ : ∃ z, z = z2 := ⟨_, rfl⟩
 refine hK.out _ _ ?_ (fun hHeld2 => ?_)
 ·exact HK3.out _ HQ.out
 clear hK K hHeld;rename _ => hHeld
 try simp only [Act.put, sa, sz, ss]
 refine rd1 11 none (fun K hK => ?_)
 refine step_storeRow (by rfl) 30 (.tmp 5) (.tmp 30) (by rfl) ob 30 _ oo (by rfl) (by rfl) HM.out (show oo.size ≤ 26 by rw [HOZ.out]; exact Nat.le_refl _) (by rw [HOZ.out]; exact HSZ.out) HO1.out ?_
 have HQ : Hid (Below P w1 _) := ((Fr.setCells ob oo.toList 0 (Fr.of_below HQ.out) (.inl HOB.out)).below P (Nat.le_of_eq HP.out.symm) (fun _ h => h))
 generalize World.setCells _ _ _ _ = z at HQ ⊢
 refine hK.out _ _ ?_ (fun hHeld2 => ?_)
 ·exact HK3.out _ HQ.out
 clear hK K hHeld;rename _ => hHeld;refine tk 12 (some 6) ?_;refine wpAnyH_done (by kernel_rfl) ?_ _;clear hHeld
 simp only [Exit.then]
 apply_assumption
 clear HLV HTK HK1 HK3 HO1 HM HOB HSM
 go_cut [43] from 32 to 52 (fun v wx => BoolV v ∧ Hid (RcAt wx B br tn (.slice ov l.length cv) l m (putE l E sq ⟨sq, -1, f, 2, 1⟩)) ∧ Hid (Fr (fun c => c = m) w1 wx))
 case first =>
  cases ok with
  | true =>
   go_upto_region 4 with (fail)
   have HPE : Hid (putE l E sq ⟨sq, -1, f, 2, 1⟩ = E) := by
    have := HOK.out
    unfold putE
    cases hx : idxE E sq with
    | none => rw [hx] at this; cases this
    | some q => rfl
   refine wp_region_held_drew (S := fun W => W.cell? ⟨N, 2, none⟩ = some (.int .i64 sq) ∧ W.cell? ⟨br, 2, none⟩ = some (.slice ov n cv)) (by kernel_rfl) ?_ (fun hHeld => ?_)
   ·exact HK4.out _ HQ.out.drew
   have hQ4 := HQ.out.drew
   generalize World.drew _ = z at hQ4 hHeld ⊢
   have HQ := Lib.hid hQ4;clear hQ4;refine tk 0 (some 32) ?_;refine tk 1 (some 33) ?_;refine tk 2 (some 34) ?_;refine tkU 3 (some 35) ?_;refine tkU 4 (some 36) ?_;refine tkU 5 (some 37) ?_;refine tkU 6 (some 38) ?_;refine tkU 7 (some 39) ?_;refine tkU 8 (some 40) ?_;refine tkU 9 (some 41) ?_
   refine tkU 10 (some 42) ?_;refine tk 11 (some 43) ?_;refine wpAnyH_done (by kernel_rfl) ?_ _;clear hHeld
   go_wp2_with fail
   go_meet
   exact ⟨⟨_, rfl⟩, by rw [HPE.out]; exact HRU.out _ HQ.out, Fr.under _ (by rw [HP.out]; exact HQ.out)⟩
  | false =>
   have HIX : Hid (idxE E sq = none) := by
    have := HOK.out
    cases hx : idxE E sq with
    | none => rfl
    | some q => rw [hx] at this; cases this
   go_upto_region 4 with (fail)
   by_cases hgt : sq > (n : Int)
   ·have HPE : Hid (putE l E sq ⟨sq, -1, f, 2, 1⟩ = E ++ [(sq, ⟨sq, -1, f, 2, 1⟩)]) := by
     unfold putE
     rw [HIX.out]
     dsimp only
     rw [HLN.out, if_pos (by omega)];exact rfl
    refine wp_region_held_drew (S := fun W => W.cell? ⟨N, 2, none⟩ = some (.int .i64 sq) ∧ W.cell? ⟨br, 2, none⟩ = some (.slice ov n cv)) (by kernel_rfl) ?_ (fun hHeld => ?_)
    ·exact HK4.out _ HQ.out.drew
    have hQ4 := HQ.out.drew
    generalize World.drew _ = z at hQ4 hHeld ⊢
    have HQ := Lib.hid hQ4;clear hQ4;refine tk 0 (some 32) ?_;refine tk 1 (some 33) ?_;refine tk 2 (some 34) ?_;refine tk 3 (some 35) ?_;refine tk 4 (some 36) ?_;refine tk 5 (some 37) ?_;refine tk 6 (some 38) ?_;refine tk 7 (some 39) ?_;refine tk 8 (some 40) ?_;refine tk 9 (some 41) ?_
    refine tk 10 (some 42) (v := .bool true) ?_ (hy := by (intro w hSw; (try dsimp only at hSw); go_simp; (first | done | (with_reducible rfl) | exact (decide_eq_true hgt) | simpa using (decide_eq_true hgt))))
    refine tk 11 (some 43) ?_;refine wpAnyH_done (by kernel_rfl) ?_ _;clear hHeld
    go_upto_region 5 with (fail)
    refine wp_region_held_drew (S := fun W => W.cell? ⟨br, 3, none⟩ = some (.map (some m)) ∧ W.cell? ⟨N, 2, none⟩ = some (.int .i64 sq) ∧ W.rangeAt N 5 (ordA sq (-1) f 2 1).toList) (by kernel_rfl) ?_ (fun hHeld => ?_)
    ·exact HK5.out _ HQ.out.drew
    have hQ5 := HQ.out.drew
    generalize World.drew _ = z at hQ5 hHeld ⊢
    have HQ := Lib.hid hQ5;clear hQ5;refine tk 0 (some 44) ?_;refine tk 1 (some 45) ?_;refine tk 2 (some 46) ?_;refine tk 3 (some 47) ?_;refine tk 4 (some 48) ?_;refine tk 5 (some 49) ?_;refine tk 6 (some 50) ?_
    refine wpAnyH_take (i := 7) (oi := ⟨some 51, _, _, _, _, _⟩) (v := .agg (ordA sq (-1) f 2 1)) rfl (by kernel_rfl) (by kernel_rfl) (by kernel_rfl) (fun _ _ _ h => h) (yieldsIf_load_mid (by rfl) 30 (.tmp 50) rfl N 5 rfl (ordA sq (-1) f 2 1).toList _ (fun _ h => h.2.2) Tryz.underlying30 rfl HSZ.out) (by assumption) ?_
    try simp only [Act.put, sa, sz, ss]
    refine rd1 8 (some 52) (fun K hK => ?_)
    go_simp
    refine (own_any sq (-1) f 2 1 _).mono ?_
    rintro e z ⟨rfl, hbz⟩
    have HQ : Hid (Below P w1 z) := HQ.out.trans (hbz.mono (bnl9 HP.out HQ.out))
    clear hbz;go_simp
    refine hK.out _ _ ?_ (fun hHeld2 => ?_)
    ·exact HK5.out _ HQ.out
    clear hK K hHeld;rename _ => hHeld
    try simp only [Act.put, sa, sz, ss]
    refine rd1 9 none (fun K hK => ?_)
    obtain ⟨zp, hrun, hmp, hfp⟩ := put_miss (HRU.out _ HQ.out).mp sq ⟨sq, -1, f, 2, 1⟩ HIX.out
    refine step_mapUpdate (by rfl) _ _ _ (by rfl) (by rfl) (by rfl) (by rfl) hrun ?_
    have HR5 := Lib.hid ((HRU.out _ HQ.out).put hmp hfp)
    have HF5 : Hid (Fr (fun c => c = m) w1 zp) := (Fr.under (fun c => c = m) (by rw [HP.out]; exact HQ.out)).trans hfp (fun _ _ h => h)
    clear hrun hmp
    refine hK.out _ _ ?_ (fun hHeld2 => ?_)
    ·exact HKM.out _ HR5.out hfp HQ.out
    clear hK K hHeld;rename _ => hHeld
    try simp only [Act.put, sa, sz, ss]
    refine wpAnyH_done (by kernel_rfl) ?_ _;clear hHeld
    go_wp2_with fail
    go_meet
    exact ⟨⟨_, rfl⟩, by rw [HPE.out]; exact HR5.out, HF5.out⟩
   ·have HPE : Hid (putE l E sq ⟨sq, -1, f, 2, 1⟩ = E) := by
     unfold putE
     rw [HIX.out]
     dsimp only
     rw [HLN.out, if_neg (by omega)];exact rfl
    refine wp_region_held_drew (S := fun W => W.cell? ⟨N, 2, none⟩ = some (.int .i64 sq) ∧ W.cell? ⟨br, 2, none⟩ = some (.slice ov n cv)) (by kernel_rfl) ?_ (fun hHeld => ?_)
    ·exact HK4.out _ HQ.out.drew
    have hQ4 := HQ.out.drew
    generalize World.drew _ = z at hQ4 hHeld ⊢
    have HQ := Lib.hid hQ4;clear hQ4;refine tk 0 (some 32) ?_;refine tk 1 (some 33) ?_;refine tk 2 (some 34) ?_;refine tk 3 (some 35) ?_;refine tk 4 (some 36) ?_;refine tk 5 (some 37) ?_;refine tk 6 (some 38) ?_;refine tk 7 (some 39) ?_;refine tk 8 (some 40) ?_;refine tk 9 (some 41) ?_
    refine tk 10 (some 42) (v := .bool false) ?_ (hy := by (intro w hSw; (try dsimp only at hSw); go_simp; (first | done | (with_reducible rfl) | exact (decide_eq_false hgt) | simpa using (decide_eq_false hgt))))
    refine tk 11 (some 43) ?_;refine wpAnyH_done (by kernel_rfl) ?_ _;clear hHeld
    go_wp2_with fail
    go_meet
    exact ⟨⟨_, rfl⟩, by rw [HPE.out]; exact HRU.out _ HQ.out, Fr.under _ (by rw [HP.out]; exact HQ.out)⟩
 case rest =>
  obtain ⟨hbv, HR, HF⟩ := hcut
  clear hbv HQ HK4 HK5 HKM HRU
  obtain ⟨E0, hE0⟩ : ∃ E0, putE l E sq ⟨sq, -1, f, 2, 1⟩ = E0 := ⟨_, rfl⟩
  have hE0l : l.length + E0.length ≤ 1001 := by
   have := HLE.out
   rw [← hE0]
   unfold putE
   split
   ·omega
   ·split
    ·rw [List.length_append, List.length_singleton]; omega
    ·omega
  rw [hE0] at HR;have HE0 := Lib.hid hE0;have HEL := Lib.hid hE0l;clear hE0 hE0l
  have HF0 : Hid (Fr (fun c => c = br ∨ c = m ∨ (Value.slice ov l.length cv).ownBlock = some c) w1 wc) := HF.out.mono (fun c h => .inr (.inl h))
  clear HF
  go_wp2_with fail
  go_step3
  go_wp2_with fail
  go_loopw [7] (fun _ wr => ∃ (vi : Value) (li : List Od) (Ei : List (Int × Od)), Hid (RcAt wr B br tn vi li m Ei) ∧ Hid (advE Ei.length li Ei = advE E0.length l E0) ∧ Hid (li.length + Ei.length ≤ 1001) ∧ Hid (Fr (fun c => c = br ∨ c = m ∨ (Value.slice ov l.length cv).ownBlock = some c) w1 wr) ∧ Hid (∀ c, vi.ownBlock = some c → (Value.slice ov l.length cv).ownBlock = some c ∨ P ≤ c)) (fun _ wr => mapSz wr m)
  case atStart => exact ⟨_, l, E0, HR, rfl, HEL, HF0, fun c e => .inl e⟩
  case round =>
   clear HR HEL HF0
   obtain ⟨vi, li, Ei, HR, HA, HL, HF, HO⟩ := hrel
   obtain ⟨oi, ci, rfl⟩ := own_slice HR.out.own
   obtain ⟨k, hk⟩ : ∃ k, li.length = k := ⟨_, rfl⟩
   obtain ⟨ol, ok, hok, hoz, ho1, hoo, hlk⟩ := look_any Ei ((k : Int) + 1)
   have hlk2 := hlk wr m HR.out.mp
   have c2 := HR.out.blk.cell 2
   have c3 := HR.out.blk.cell 3
   simp only [gz, gs] at c2 c3
   rw [hk] at c2
   have hk9 : k ≤ 1001 := by have := HL.out; omega
   have q1 : (0 : Int) ≤ (k : Int) := by omega
   obtain ⟨b9, hb9⟩ : ∃ b9, wr.heap.size = b9 := ⟨_, rfl⟩
   obtain ⟨x1, hx1⟩ : ∃ x1, wr.alloc (.cells aZo 30) = x1 := ⟨_, rfl⟩
   have hk1 : Blk x1 b9 30 lZo := by rw [← hx1, ← hb9]; exact Blk.new wr _ _
   obtain ⟨x3, hx3⟩ : ∃ x3, x1.setRow b9 ol = x3 := ⟨_, rfl⟩
   have hk3 : Blk x3 b9 30 ol.toList := by rw [← hx3]; exact hk1.setRow ol.toList
   have hb3 : Below b9 wr x3 := by
    rw [← hx3, ← hx1, ← hb9]
    exact below_setRow ((Below.refl _ wr).alloc (Nat.le_refl _) _) (Nat.le_refl _) _
   have HSZ2 : Hid ((Tryz.prog.info? 30).map (·.size) = some ol.size) := (by rw [hoz]; exact HSZ.out : (Tryz.prog.info? 30).map (·.size) = some ol.size)
   have HOZ2 : Hid (aZo.size = ol.size) := (by rw [hoz]; rfl : aZo.size = ol.size)
   have HO12 := Lib.hid ho1
   have HNO : Hid (∀ c, (Value.slice oi k ci).ownBlock = some c → c < b9) := fun c e => by rw [← hb9]; exact own_lt HR.out.own c (by rw [hk]; exact e)
   have HBO : Hid (br ≠ b9) := (by have := HR.out.blk.lt; omega : br ≠ b9)
   have HR0 := HR
   have hr3 := HR.out.below (by rw [hb9]; exact hb3)
   rw [hk] at hr3;have HR := Lib.hid hr3
   have HF := Lib.hid (HF.out.trans (Fr.under (fun _ => False) (by rw [hb9]; exact hb3)) (fun _ _ e => e.elim))
   have HO : Hid (∀ c, (Value.slice oi k ci).ownBlock = some c → (Value.slice ov l.length cv).ownBlock = some c ∨ P ≤ c) := fun c e => HO.out c (by rw [hk]; exact e)
   have HK1 := Lib.hid hk1;have HX3 := Lib.hid hx3;have HKK := Lib.hid hk;have HKB0 := Lib.hid hk3;have HOO := Lib.hid hoo;have HOK := Lib.hid hok;clear hk1 hk3 hx3 hb3 hr3 hlk hoo hoz ho1 hok hk
   cases hix : idxE Ei ((k : Int) + 1) with
   | none =>
    have HIX := Lib.hid hix
    obtain rfl : ok = false := by rw [HOK.out, HIX.out]; rfl
    have HAE : Hid (advE E0.length l E0 = (li, Ei)) := (by rw [← HA.out]; exact advE_none li Ei _ (by rw [HKK.out]; exact HIX.out) : advE E0.length l E0 = (li, Ei))
    have HK11 : Hid (∀ z, RcAt z B br tn (.slice oi k ci) li m Ei → z.cell? ⟨br, 0, none⟩ = some (.int .i64 tn) ∧ z.cell? ⟨br, 2, none⟩ = some (.slice oi k ci)) := fun z h => ⟨h.blk.cell 0, h.blk.cell 2⟩
    clear hix HOO HOK
    go_wp2_with (refine wpList_store_row rfl 30 (.tmp 8) (.tmp 66) rfl b9 ol rfl rfl 30 _ HK1.out HSZ2.out HOZ2.out HO12.out ?_; rw [HX3.out])
    clear hlk2 c2 c3
    try go_upto_region 11 with (fail)
    have HRD := Lib.hid (HR.out.below (Below.refl _ _).drew)
    refine wp_region_held_drew (S := fun W => W.cell? ⟨br, 0, none⟩ = some (.int .i64 tn) ∧ W.cell? ⟨br, 2, none⟩ = some (.slice oi k ci)) (by kernel_rfl) ?_ (fun hHeld => ?_)
    ·exact HK11.out _ HRD.out
    have hR11 := HRD.out
    have hF11 := HF.out.drew
    generalize World.drew _ = z at hR11 hF11 hHeld ⊢
    have HR := Lib.hid hR11;have HF := Lib.hid hF11;clear hR11 hF11;refine tk 0 (some 85) ?_;refine tk 1 (some 86) ?_;refine tk 2 (some 87) ?_;refine tk 3 (some 88) ?_;refine tk 4 (some 89) ?_;refine tk 5 (some 90) ?_;refine tk 6 (some 91) ?_;refine tk 7 (some 92) ?_;refine tk 8 (some 93) ?_
    refine rd1 9 (some 94) (fun K hK => ?_)
    go_simp
    refine (message_any tn 2 (k : Int) _).mono ?_
    rintro e z ⟨rfl, hbz⟩
    have HR := Lib.hid (HR.out.below hbz)
    have HF := Lib.hid (HF.out.trans (Fr.under (fun _ => False) hbz) (fun _ _ e => e.elim))
    clear hbz
    dsimp only [msgA]
    go_simp
    refine hK.out _ _ ?_ (fun hHeld2 => ?_)
    ·exact HK11.out _ HR.out
    clear hK K hHeld;rename _ => hHeld
    try simp only [Act.put, sa, sz, ss]
    refine rd1 10 (some 95) (fun K hK => ?_)
    go_simp
    obtain ⟨rb, hrb⟩ : ∃ rb, z.heap.size = rb := ⟨_, rfl⟩
    have HM : Hid (Blk _ rb 32 (lA tn (k : Int))) := (by rw [← hrb]; exact Blk.new z _ _ : Blk (z.alloc (.cells (aA tn (k : Int)) 32)) rb 32 (lA tn (k : Int)))
    have hbz : Below z.heap.size z (z.alloc (.cells (aA tn (k : Int)) 32)) := (Below.refl _ z).alloc (Nat.le_refl _) _
    have HRB : Hid (P ≤ rb) := (by rw [← hrb, ← HP.out]; exact HF.out.size : P ≤ rb)
    obtain ⟨z2, hz2⟩ : ∃ z2, z.alloc (.cells (aA tn (k : Int)) 32) = z2 := ⟨_, rfl⟩
    rw [hz2] at HM hbz ⊢
    rw [hrb]
    have HR := Lib.hid (HR.out.below hbz)
    have HF := Lib.hid (HF.out.trans (Fr.under (fun _ => False) hbz) (fun _ _ e => e.elim))
    clear hz2 hbz hrb
    obtain ⟨z, rfl⟩ : ∃ z, z = z2 := ⟨_, rfl⟩
    refine hK.out _ _ ?_ (fun hHeld2 => ?_)
    ·exact HK11.out _ HR.out
    clear hK K hHeld;rename _ => hHeld;refine tk 11 (some 4) ?_;refine wpAnyH_done (by kernel_rfl) ?_ _;clear hHeld
    go_wp2_with fail
    go_ret
    refine ⟨_, rb, li, Ei, by rw [HE0.out]; exact HAE.out.symm, rfl, by rw [HKK.out]; exact HM.out, by have := HRB.out; have := HNP.out; have := HN.out; omega, HR.out, (Fr.under _ (by rw [HN.out]; exact HB1.out)).trans HF.out (fun _ _ h => h), fun c e => (HO.out c e).imp_right (fun h => by have := HNP.out; have := HN.out; omega)⟩
   | some jq =>
    obtain ⟨j, q⟩ := jq
    have HIX := Lib.hid hix
    obtain rfl : ok = true := by rw [HOK.out, HIX.out]; rfl
    obtain ⟨qs, qc, qf, qk, qe⟩ := q
    have hol := HOO.out _ HIX.out
    subst hol
    have HKB : Hid (Blk x3 b9 30 (lD qs qc qf qk qe)) := HKB0.out
    clear hix HOO HOK
    go_wp2_with (refine wpList_store_row rfl 30 (.tmp 8) (.tmp 66) rfl b9 (Od.A ⟨qs, qc, qf, qk, qe⟩) rfl rfl 30 _ HK1.out HSZ2.out HOZ2.out HO12.out ?_; rw [HX3.out])
    clear hlk2 c2 c3
    try go_upto_region 9 with (fail)
    refine wp_region_held_drew (S := fun W => W.rangeAt b9 0 (lD qs qc qf qk qe)) (by kernel_rfl) ?_ (fun hHeld => ?_)
    ·exact HKB.out.range
    have hR9 := HR.out.below (Below.refl _ _).drew
    have hF9 := HF.out.drew
    have hK9 := HKB.out.drew
    generalize World.drew _ = z at hR9 hF9 hK9 hHeld ⊢
    have HR := Lib.hid hR9;have HF := Lib.hid hF9;have HKB := Lib.hid hK9;clear hR9 hF9 hK9;refine tk 0 (some 70) ?_;refine tk 1 (some 71) ?_;refine tk 2 (some 72) ?_;refine tk 3 (some 73) ?_
    refine wpAnyH_take (i := 5) (oi := ⟨some 75, _, _, _, _, _⟩) (v := .agg (aD qs qc qf qk qe)) rfl (by kernel_rfl) (by kernel_rfl) (by kernel_rfl) (fun _ _ _ h => h) (yieldsIf_load_mid (by rfl) 30 (.tmp 8) rfl b9 0 rfl (lD qs qc qf qk qe) _ (fun _ h => h) Tryz.underlying30 rfl HSZ.out) (by assumption) ?_
    try simp only [Act.put, sa, sz, ss]
    refine wpAnyH_ready (rs := [4, 6]) (by kernel_rfl) (by simp) (AllReadyH.cons (o := ⟨some 74, _, _, _, _, _⟩) rfl (fun K hK => ?_) (AllReadyH.cons (o := ⟨some 76, _, _, _, _, _⟩) rfl (fun K hK => ?_) AllReadyH.nil))
    ·have c2 := HR.out.blk.cell 2
     simp only [gz, gs] at c2
     go_simp;clear c2
     refine hK.out _ _ ?_ (fun hHeld2 => ?_)
     ·exact HKB.out.range
     clear hK K hHeld;rename _ => hHeld
     try simp only [Act.put, sa, sz, ss]
     refine rd1 6 (some 76) (fun K hK => ?_)
     go_simp
     have hbz : Below z.heap.size z (z.alloc (.cells (aD qs qc qf qk qe) 30)) := (Below.refl _ z).alloc (Nat.le_refl _) _
     have HZ := HR
     have HKZ := HKB
     have HR := Lib.hid (HZ.out.below hbz)
     have HKB := Lib.hid (HKZ.out.kept (hbz.block _ HKZ.out.lt))
     clear hbz
     refine hK.out _ _ ?_ (fun hHeld2 => ?_)
     ·exact HKB.out.range
     clear hK K hHeld;rename _ => hHeld
     try simp only [Act.put, sa, sz, ss]
     refine rd1 7 (some 77) (fun K hK => ?_)
     obtain ⟨oa, cap, w5, hrun, ho5, hf5, hk5⟩ := app_ord z B (.slice oi k ci) k (oCells li) (lD qs qc qf qk qe) (by have := HZ.out.own; rw [HKK.out] at this; exact this) (by omega) (Nat.le_trans HZ.out.ge (Nat.le_of_lt HZ.out.blk.lt)) 50 rfl (by simp [Value.oneCell'])
     refine step_run (by rfl) _ _ (by rfl) (by rfl) (by rfl) (fun _ => hrun) ?_
     have HKB := Lib.hid (HKZ.out.kept (hf5.block b9 HKZ.out.lt (fun e => by have := HNO.out b9 e; omega)))
     have HB5 := Lib.hid (HZ.out.blk.kept (hf5.block br HZ.out.blk.lt (fun e => HZ.out.ne br e rfl)))
     have HR6 := Lib.hid (RcAt.app (q := ⟨qs, qc, qf, qk, qe⟩) HZ.out HKK.out ho5 hf5 hk5)
     have HF6 : Hid (Fr (fun c => c = br ∨ c = m ∨ (Value.slice ov l.length cv).ownBlock = some c) w1 (w5.setCell ⟨br, 2, none⟩ (.slice oa (k + 1) cap))) := (HF.out.trans hf5 (fun i hi e => (HO.out i e).elim (fun h => .inr (.inr h)) (fun h => by have := HP.out; omega))).setCell ⟨br, 2, none⟩ _ (.inl (.inl rfl))
     have HO6 : Hid (∀ c, (Value.slice oa (k + 1) cap).ownBlock = some c → (Value.slice ov l.length cv).ownBlock = some c ∨ P ≤ c) := fun c e => (hk5 c e).elim (fun h => HO.out c h) (fun h => .inr (by have := HF.out.size; have := HP.out; omega))
     clear hrun ho5 hf5 hk5
     refine hK.out _ _ ?_ (fun hHeld2 => ?_)
     ·exact HKB.out.range
     clear hK K hHeld;rename _ => hHeld;refine tk 8 (some 78) ?_;refine tk 9 (some 79) ?_
     refine rd1 10 none (fun K hK => ?_)
     have c2 := HB5.out.cell 2
     have z2 := HB5.out.frozen 2
     simp only [gz, gs] at c2
     go_simp;clear c2 z2
     have HKB := Lib.hid (HKB.out.other ⟨br, 2, none⟩ (fun e => HBO.out e) (.slice oa (k + 1) cap))
     refine hK.out _ _ ?_ (fun hHeld2 => ?_)
     ·exact HKB.out.range
     clear hK K hHeld;rename _ => hHeld
     try simp only [Act.put, sa, sz, ss]
     refine wpAnyH_done (by kernel_rfl) ?_ _;clear hHeld
     go_upto_region 10 with (fail)
     generalize World.setCell _ _ _ = y at HR6 HF6 HKB ⊢
     obtain ⟨y2, hdel, hm2, hf2⟩ := del_hit HR6.out.mp ((k : Int) + 1) HIX.out
     have c3 := HR6.out.blk.cell 3
     simp only [gz, gs] at c3
     have HR7 := Lib.hid (HR6.out.put hm2 hf2)
     have HF7 : Hid (Fr (fun c => c = br ∨ c = m ∨ (Value.slice ov l.length cv).ownBlock = some c) w1 y2) := HF6.out.trans hf2 (fun _ _ h => .inr (.inl h))
     clear hm2 hf2
     go_wp2_with (at_delete; refine wpList_delete_run _ rfl _ _ 113 3 rfl _ _ _ rfl rfl hdel ?_)
     clear hdel
     go_wp2_with fail
     go_roundw
     case rel => exact ⟨_, _, _, _, _, _, _, _, _, _, _, _, _, _, _, _, _, _, _, _, _, _, _, _, _, _, _, _, _, _, _, _, _, _, _, ⟨_, li ++ [⟨qs, qc, qf, qk, qe⟩], Ei.eraseIdx j, HR7, by rw [← HA.out]; exact (advE_some li Ei j _ (by rw [HKK.out]; exact HIX.out)).symm, by have := HL.out; have := (List.getElem?_eq_some_iff.1 (idxE_lt HIX.out)).1; show _ ≤ 1001; rw [List.length_append, List.length_eraseIdx, if_pos this, List.length_singleton]; omega, HF7, HO6⟩, rfl⟩
     case measure => rw [HR7.out.mp.sz, HR0.out.mp.sz, List.length_eraseIdx, if_pos (List.getElem?_eq_some_iff.1 (idxE_lt HIX.out)).1]; have := (List.getElem?_eq_some_iff.1 (idxE_lt HIX.out)).1; omega
    ·go_simp
     have hbz : Below z.heap.size z (z.alloc (.cells (aD qs qc qf qk qe) 30)) := (Below.refl _ z).alloc (Nat.le_refl _) _
     have HZ := HR
     have HKZ := HKB
     have HR := Lib.hid (HZ.out.below hbz)
     have HKB := Lib.hid (HKZ.out.kept (hbz.block _ HKZ.out.lt))
     clear hbz
     refine hK.out _ _ ?_ (fun hHeld2 => ?_)
     ·exact HKB.out.range
     clear hK K hHeld;rename _ => hHeld
     try simp only [Act.put, sa, sz, ss]
     refine rd1 4 (some 74) (fun K hK => ?_)
     have c2 := HR.out.blk.cell 2
     simp only [gz, gs] at c2
     go_simp;clear c2
     refine hK.out _ _ ?_ (fun hHeld2 => ?_)
     ·exact HKB.out.range
     clear hK K hHeld;rename _ => hHeld
     try simp only [Act.put, sa, sz, ss]
     refine rd1 7 (some 77) (fun K hK => ?_)
     obtain ⟨oa, cap, w5, hrun, ho5, hf5, hk5⟩ := app_ord z B (.slice oi k ci) k (oCells li) (lD qs qc qf qk qe) (by have := HZ.out.own; rw [HKK.out] at this; exact this) (by omega) (Nat.le_trans HZ.out.ge (Nat.le_of_lt HZ.out.blk.lt)) 50 rfl (by simp [Value.oneCell'])
     refine step_run (by rfl) _ _ (by rfl) (by rfl) (by rfl) (fun _ => hrun) ?_
     have HKB := Lib.hid (HKZ.out.kept (hf5.block b9 HKZ.out.lt (fun e => by have := HNO.out b9 e; omega)))
     have HB5 := Lib.hid (HZ.out.blk.kept (hf5.block br HZ.out.blk.lt (fun e => HZ.out.ne br e rfl)))
     have HR6 := Lib.hid (RcAt.app (q := ⟨qs, qc, qf, qk, qe⟩) HZ.out HKK.out ho5 hf5 hk5)
     have HF6 : Hid (Fr (fun c => c = br ∨ c = m ∨ (Value.slice ov l.length cv).ownBlock = some c) w1 (w5.setCell ⟨br, 2, none⟩ (.slice oa (k + 1) cap))) := (HF.out.trans hf5 (fun i hi e => (HO.out i e).elim (fun h => .inr (.inr h)) (fun h => by have := HP.out; omega))).setCell ⟨br, 2, none⟩ _ (.inl (.inl rfl))
     have HO6 : Hid (∀ c, (Value.slice oa (k + 1) cap).ownBlock = some c → (Value.slice ov l.length cv).ownBlock = some c ∨ P ≤ c) := fun c e => (hk5 c e).elim (fun h => HO.out c h) (fun h => .inr (by have := HF.out.size; have := HP.out; omega))
     clear hrun ho5 hf5 hk5
     refine hK.out _ _ ?_ (fun hHeld2 => ?_)
     ·exact HKB.out.range
     clear hK K hHeld;rename _ => hHeld;refine tk 8 (some 78) ?_;refine tk 9 (some 79) ?_
     refine rd1 10 none (fun K hK => ?_)
     have c2 := HB5.out.cell 2
     have z2 := HB5.out.frozen 2
     simp only [gz, gs] at c2
     go_simp;clear c2 z2
     have HKB := Lib.hid (HKB.out.other ⟨br, 2, none⟩ (fun e => HBO.out e) (.slice oa (k + 1) cap))
     refine hK.out _ _ ?_ (fun hHeld2 => ?_)
     ·exact HKB.out.range
     clear hK K hHeld;rename _ => hHeld
     try simp only [Act.put, sa, sz, ss]
     refine wpAnyH_done (by kernel_rfl) ?_ _;clear hHeld
     go_upto_region 10 with (fail)
     generalize World.setCell _ _ _ = y at HR6 HF6 HKB ⊢
     obtain ⟨y2, hdel, hm2, hf2⟩ := del_hit HR6.out.mp ((k : Int) + 1) HIX.out
     have c3 := HR6.out.blk.cell 3
     simp only [gz, gs] at c3
     have HR7 := Lib.hid (HR6.out.put hm2 hf2)
     have HF7 : Hid (Fr (fun c => c = br ∨ c = m ∨ (Value.slice ov l.length cv).ownBlock = some c) w1 y2) := HF6.out.trans hf2 (fun _ _ h => .inr (.inl h))
     clear hm2 hf2
     go_wp2_with (at_delete; refine wpList_delete_run _ rfl _ _ 113 3 rfl _ _ _ rfl rfl hdel ?_)
     clear hdel
     go_wp2_with fail
     go_roundw
     case rel => exact ⟨_, _, _, _, _, _, _, _, _, _, _, _, _, _, _, _, _, _, _, _, _, _, _, _, _, _, _, _, _, _, _, _, _, _, _, ⟨_, li ++ [⟨qs, qc, qf, qk, qe⟩], Ei.eraseIdx j, HR7, by rw [← HA.out]; exact (advE_some li Ei j _ (by rw [HKK.out]; exact HIX.out)).symm, by have := HL.out; have := (List.getElem?_eq_some_iff.1 (idxE_lt HIX.out)).1; show _ ≤ 1001; rw [List.length_append, List.length_eraseIdx, if_pos this, List.length_singleton]; omega, HF7, HO6⟩, rfl⟩
     case measure => rw [HR7.out.mp.sz, HR0.out.mp.sz, List.length_eraseIdx, if_pos (List.getElem?_eq_some_iff.1 (idxE_lt HIX.out)).1]; have := (List.getElem?_eq_some_iff.1 (idxE_lt HIX.out)).1; omega
end Go.Proofs.YtjkiidhnmljmbaaGreatDoor
