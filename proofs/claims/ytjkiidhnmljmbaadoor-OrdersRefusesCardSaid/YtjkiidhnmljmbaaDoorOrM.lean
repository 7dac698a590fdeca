/-
  Orders: the map of early orders.
-/
import Derived.MapKept
import Derived.ChangeMaps4
import Derived.Maps.Own
import Derived.Maps.OwnSet
import Derived.Maps.OwnOps
import Derived.Test.YtjkiidhnmljmbaaDoorOrG
import Derived.Test.YtjkiidhnmljmbaaDoorOrF
set_option linter.unusedVariables false
set_option linter.unusedSimpArgs false
namespace Go.Proofs.YtjkiidhnmljmbaaDoor
open Go.RowKit Go.ChangeMaps
/-- The place of a number among early orders, with its order. -/
def idxE : List (Int × Od) → Int → Option (Nat × Od)
  | [], _ => none
  | p :: E, k => if k == p.1 then some (0, p.2) else (idxE E k).map fun q => (q.1 + 1, q.2)
def entsE (E : List (Int × Od)) : List (Value × Value) := E.map fun p => (.int .i64 p.1, .agg p.2.A)
/-- Block m is the map of the early orders E. -/
def MapE (W : World) (m : Nat) (E : List (Int × Od)) : Prop := ∃ es clk, W.heap[m]? = some (.map es clk) ∧ es.toList.map (fun e => (e.key, e.val)) = entsE E
theorem MapE.lt {W : World} {m : Nat} {E : List (Int × Od)} (h : MapE W m E) : m < W.heap.size := by
  obtain ⟨es, clk, h1, _⟩ := h
  exact (Array.getElem?_eq_some_iff.1 h1).1
theorem MapE.kept {W W' : World} {m : Nat} {E : List (Int × Od)} (h : MapE W m E) (e : W'.heap[m]? = W.heap[m]?) : MapE W' m E := by
  obtain ⟨es, clk, h1, h2⟩ := h
  exact ⟨es, clk, e.trans h1, h2⟩
theorem MapE.isMap {W : World} {m : Nat} {E : List (Int × Od)} (h : MapE W m E) {o : Obj} (ho : W.heap[m]? = some o) : o.isCells = false := by
  obtain ⟨es, clk, h1, h2⟩ := h
  rw [h1] at ho
  cases ho
  rfl
theorem find_int (k : Int) : ∀ (E : List (Int × Od)) (es : List MapEntry) (i : Nat), es.map (fun e => (e.key, e.val)) = entsE E →
    Instr.findNow (.int .i64) (.int .i64 k) es i = some ((idxE E k).map fun q => (i + q.1, .agg q.2.A))
  | [], [], i, _ => rfl
  | [], _ :: _, _, h => by simp [entsE] at h
  | _ :: _, [], _, h => by simp [entsE] at h
  | p :: E, e :: es, i, h => by
    simp only [entsE, List.map_cons, List.cons.injEq, Prod.mk.injEq] at h
    obtain ⟨⟨h1, h2⟩, h3⟩ := h
    unfold Instr.findNow
    rw [h1, h2]
    simp only [Instr.sameNow, if_pos]
    by_cases hk : k = p.1
    · subst hk
      simp [idxE]
    · have hb : (k == p.1) = false := beq_eq_false_iff_ne.2 hk
      rw [hb]
      simp only [idxE, hb]
      rw [find_int k E es (i + 1) h3]
      cases idxE E k with
      | none => rfl
      | some q => simp; omega
theorem idxE_lt {k : Int} : ∀ {E : List (Int × Od)} {j : Nat} {o : Od}, idxE E k = some (j, o) → E[j]? = some (k, o)
  | [], _, _, h => by simp [idxE] at h
  | p :: E, j, o, h => by
    unfold idxE at h
    by_cases hk : k = p.1
    · subst hk
      simp at h
      obtain ⟨rfl, rfl⟩ := h
      rfl
    · rw [if_neg (by rw [beq_iff_eq]; exact hk)] at h
      cases hq : idxE E k with
      | none => rw [hq] at h; simp at h
      | some q =>
        rw [hq] at h
        simp at h
        obtain ⟨rfl, rfl⟩ := h
        exact idxE_lt (j := q.1) (o := q.2) hq
section
variable {W : World} {m : Nat} {E : List (Int × Od)} (h : MapE W m E) (k : Int)
include h
theorem look_hit {j : Nat} {o : Od} (hi : idxE E k = some (j, o)) : (Instr.lookup 98 (.map (some m)) (.int .i64 k) true).run Tryd.prog W = .ok (.tuple #[.agg o.A, .bool true]) W := by
  obtain ⟨es, clk, h1, h2⟩ := h
  have hf := find_int k E es.toList 0 h2
  rw [hi] at hf
  simp only [Option.map_some] at hf
  simp [Instr.lookup, run_underlying Tryd.underlying98, MapKept.run_getObj_map h1, MapKept.run_checkKey (w := W) Tryd.underlying3 (show MapKept.IsKey (.int .i64) (.int .i64 k) from rfl), MapKept.run_findKey Tryd.underlying3 hf, Result.andThen]
theorem look_miss (hi : idxE E k = none) : (Instr.lookup 98 (.map (some m)) (.int .i64 k) true).run Tryd.prog W = .ok (.tuple #[.agg (ordA 0 0 0 0 0), .bool false]) W := by
  obtain ⟨es, clk, h1, h2⟩ := h
  have hf := find_int k E es.toList 0 h2
  rw [hi] at hf
  simp only [Option.map_none] at hf
  have hz : (zeroValue 30).run Tryd.prog W = .ok (.agg (ordA 0 0 0 0 0)) W := by kernel_rfl
  simp [Instr.lookup, run_underlying Tryd.underlying98, MapKept.run_getObj_map h1, MapKept.run_checkKey (w := W) Tryd.underlying3 (show MapKept.IsKey (.int .i64) (.int .i64 k) from rfl), MapKept.run_findKey Tryd.underlying3 hf, hz, Result.andThen]
theorem set_map (o : Obj) : Fr (fun c => c = m) W (setBlock W m o) ∧ (setBlock W m o).heap[m]? = some o := by
  obtain ⟨es, clk, h1, h2⟩ := h
  refine ⟨⟨rfl, rfl, rfl, by simp [setBlock], fun c hc hn => ?_⟩, (MapKept.heap_set (o' := o) h1).1⟩
  exact (MapKept.heap_set (o' := o) h1).2 c hn
theorem put_miss (o : Od) (hi : idxE E k = none) : ∃ w', (Instr.mapUpdate 98 (.map (some m)) (.int .i64 k) (.agg o.A)).run Tryd.prog W = .ok () w' ∧ MapE w' m (E ++ [(k, o)]) ∧ Fr (fun c => c = m) W w' := by
  have hs := fun o => set_map h o
  obtain ⟨es, clk, h1, h2⟩ := h
  have hf := find_int k E es.toList 0 h2
  rw [hi] at hf
  simp only [Option.map_none] at hf
  refine ⟨setBlock W m (.map (es.push { key := .int .i64 k, val := .agg o.A, born := clk }) (clk + 1)), ?_, ⟨_, _, (hs _).2, ?_⟩, (hs _).1⟩
  · simp [Instr.mapUpdate, run_underlying Tryd.underlying98, MapKept.run_getObj_map h1, MapKept.run_checkKey (w := W) Tryd.underlying3 (show MapKept.IsKey (.int .i64) (.int .i64 k) from rfl), MapKept.run_findKey Tryd.underlying3 hf, MapKept.run_setObj_map _ h1, Result.andThen, setBlock]
  · simp only [Array.toList_push, List.map_append, h2, entsE, List.map_cons, List.map_nil]
theorem del_hit {j : Nat} {o : Od} (hi : idxE E k = some (j, o)) : ∃ w', (∀ ty, (Builtin.delete_ #[98, 3] ty #[.map (some m), .int .i64 k]).run Tryd.prog W = .ok (.tuple #[]) w') ∧ MapE w' m (E.eraseIdx j) ∧ Fr (fun c => c = m) W w' := by
  have hs := fun o => set_map h o
  obtain ⟨es, clk, h1, h2⟩ := h
  have hf := find_int k E es.toList 0 h2
  rw [hi] at hf
  simp only [Option.map_some, Nat.zero_add] at hf
  have hjl : j < es.size := by
    have hl := congrArg List.length h2
    simp only [List.length_map, entsE, Array.length_toList] at hl
    rw [hl]
    exact (List.getElem?_eq_some_iff.1 (idxE_lt hi)).1
  have hsub : (es.eraseIdxIfInBounds j).toList = es.toList.eraseIdx j := by
    unfold Array.eraseIdxIfInBounds
    rw [dif_pos hjl]
    simp
  refine ⟨setBlock W m (.map (es.eraseIdxIfInBounds j) clk), fun ty => ?_, ⟨_, _, (hs _).2, ?_⟩, (hs _).1⟩
  · simp [Builtin.delete_, run_underlying Tryd.underlying98, MapKept.run_getObj_map h1, MapKept.run_checkKey (w := W) Tryd.underlying3 (show MapKept.IsKey (.int .i64) (.int .i64 k) from rfl), MapKept.run_findKey Tryd.underlying3 hf, MapKept.run_setObj_map _ h1, Result.andThen, setBlock]
  · rw [hsub, map_eraseIdx, h2]
    unfold entsE
    rw [map_eraseIdx]
end
/-- 'delete' whose run is known. -/
theorem wpList_delete_run {P : Program} (w : World) {ops : Array Oper} {rest : List Oper} {o : Oper} {a : Act} {Q : Exit → Act → World → Prop}
    (hg : o.guard = none) (s x : Operand) (t k : TypeId) (hop : o.op = Op.call { callee := Callee.builtin Builtin.delete, args := #[s, x], argTypes := #[t, k] })
    (v y : Value) (w' : World) (hs : a.eval s = v) (hx : a.eval x = y) (hrun : ∀ ty, (Builtin.delete_ #[t, k] ty #[v, y]).run P w = .ok (.tuple #[]) w') (hK : wpList P ops Q rest (a.put o.dst (.tuple #[])) w') : wpList P ops Q (o :: rest) a w := by
  refine wpList_plain hg fun K hK' => ?_
  unfold Oper.wp
  simp [execOp, hop, resolve, invoke, builtin, hs, hx, hrun, Result.andThen]
  exact hK' _ _ hK
/-- A store into a map whose run is known, in a drawn region. -/
theorem step_mapUpdate {ops : Array Oper} {o : Oper} {a : Act} {K : Act → World → Prop} {Q : Exit → Act → World → Prop} {E : Prop} {W w' : World} {mv kv v : Value} {t : TypeId} (hgd : o.guard = none) (m x y : Operand)
    (ho : o.op = .mapUpdate t m x y) (hm : a.eval m = mv) (hx : a.eval x = kv) (hy : a.eval y = v) (hrun : (Instr.mapUpdate t mv kv v).run Tryd.prog W = .ok () w') (hK : K (a.put o.dst undef) w') :
    if Region.wanted o (yielded ops a.tmps) = true then Oper.wp Tryd.prog o a W K Q else E := by
  have hw : Region.wanted o (yielded ops a.tmps) = true := by simp [Region.wanted, hgd]
  rw [if_pos hw]
  unfold Oper.wp
  simp [execOp, ho, hm, hx, hy, hrun, Result.andThen]
  exact hK
/-- A look-up whose run is known, in a drawn region. -/
theorem yieldsIf_lookup {ops : Array Oper} {S : World → Prop} {op : Oper} {a : Act} (hw : Region.wanted op (yielded ops a.tmps) = true) (t : TypeId) (x y : Operand) (ho : op.op = .lookup t x y true) (mv kv v : Value) (hx : a.eval x = mv) (hy : a.eval y = kv)
    (hS : ∀ w, S w → (Instr.lookup t mv kv true).run Tryd.prog w = .ok v w) : YieldsIf Tryd.prog ops S op v a :=
  .inl ⟨hw, fun w hw' => by
    unfold execOp
    simp [ho, hx, hy, hS w hw', Result.andThen]⟩
end Go.Proofs.YtjkiidhnmljmbaaDoor
