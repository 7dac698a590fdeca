/-
  The walk of caption.Rows.
-/
import Derived.RangeFuncNested
import Derived.RangeFuncBound
import Derived.RangeFuncCalls
import Derived.RangeFuncLeaves
import Derived.RangeFuncBox
import Derived.Shelf.Abstract
import Derived.Shelf.RegionOpen
import Derived.WalkKit
import Derived.OwnWalkIn
import Derived.TacticsInMore
import Derived.LoopNIn
import Derived.LoopIn
import Derived.Lib.Hide
import Derived.Outline
import Derived.Test.YtjmfhdnckgelaaaCapWords
import Derived.Test.YtjmfhdnckgelaaaBlk
set_option linter.unusedVariables false
set_option linter.unusedSimpArgs false
namespace Go.Proofs.Ytjmfhdnckgelaaa
open Go.RowKit Go.Shelf
attribute [local go_sem] Oper.semAt_some
def scells (l : List (List UInt8)) : List Value := l.map fun r => Value.string ⟨r.toArray⟩
/-- 'append' whose run is known, inside a fence. -/
theorem wpListIn_append_run {F : Fence} {n : Nat} {P : Program} (w : World) {ops : Array Oper} {rest : List Oper} {o : Oper} {a : Act} {Q : Exit → Act → World → Prop}
    (hg : o.guard = none) (s x : Operand) (t : TypeId) (hop : o.op = Op.call { callee := Callee.builtin Builtin.append, args := #[s, x], argTypes := #[t, t] })
    (v y v' : Value) (w' : World) (hs : a.eval s = v) (hx : a.eval x = y) (hrun : (Builtin.append_ #[t, t] o.type #[v, y]).run P w = .ok v' w') (hK : wpListIn F n P ops Q rest (a.put o.dst v') w') : wpListIn F n P ops Q (o :: rest) a w := by
  refine wpListIn_plain hg fun K hK' => ?_
  unfold Oper.wpIn
  refine ⟨?_, ?_⟩
  · simp [Oper.about, hop, resolve, Target.leads, Sem.run_pure]
  · rw [Oper.semAt_plain F _ _ (by rw [hop]; intro c hc'; cases hc')]
    simp [execOp, hop, resolve, invoke, builtin, hs, hx, hrun, Result.andThen]
    exact hK' _ _ hK
theorem rowsOf_len (ws : List (List UInt8)) : (rowsOf ws).length ≤ ws.length := by
  induction ws using snocRec with
  | h0 => exact Nat.le_refl _
  | hs ws w ih =>
    rw [rowsOf_snoc]
    unfold rstep
    rcases List.eq_nil_or_concat (rowsOf ws) with e | ⟨rs, r, e⟩
    · rw [e]
      simp
    · rw [List.concat_eq_append] at e
      rw [e] at ih ⊢
      simp at ih ⊢
      split
      · simp; omega
      · simp; omega
theorem rowsOf_wide (ws : List (List UInt8)) (h : narrowB ws = true) : ∀ r ∈ rowsOf ws, r.length ≤ 32 := by
  induction ws using snocRec with
  | h0 => intro r hr; simp [rowsOf] at hr
  | hs ws w ih =>
    have hn : narrowB ws = true ∧ w.length ≤ 32 := by simpa [narrowB] using h
    have ih := ih hn.1
    rw [rowsOf_snoc]
    unfold rstep
    rcases List.eq_nil_or_concat (rowsOf ws) with e | ⟨rs, r, e⟩
    · rw [e]
      intro x hx
      simp at hx
      subst hx
      exact hn.2
    · rw [List.concat_eq_append] at e
      rw [e] at ih ⊢
      simp
      intro x hx
      split at hx
      · rename_i hf
        simp at hx
        rcases hx with hx | hx
        · exact ih x (by simp [hx])
        · subst hx
          simp
          omega
      · simp at hx
        rcases hx with hx | hx | hx
        · exact ih x (by simp [hx])
        · subst hx
          exact ih x (by simp)
        · subst hx
          exact hn.2
theorem rstep_nil (w : List UInt8) : rstep [] w = [w] := rfl
theorem rstep_fit (rs : List (List UInt8)) (r w : List UInt8) (h : r.length + 1 + w.length ≤ 32) : rstep (rs ++ [r]) w = rs ++ [r ++ 32 :: w] := by
  unfold rstep
  simp [h]
theorem rstep_new (rs : List (List UInt8)) (r w : List UInt8) (h : ¬ r.length + 1 + w.length ≤ 32) : rstep (rs ++ [r]) w = rs ++ [r] ++ [w] := by
  unfold rstep
  simp [h]
theorem narrow_snoc (ws : List (List UInt8)) (w : List UInt8) : narrowB (ws ++ [w]) = (narrowB ws && decide (w.length ≤ 32)) := by simp [narrowB]
/-- What holds at the head of a round: the rows so far in their box, the results still zero. -/
def RowC (B : Nat) (pre : List (List UInt8)) (W : World) : Prop :=
  (∃ v, Blk W (B + 1 + 1) 27 [v] ∧ W.ownsRow (B + 4) 9 1 v (rowsOf pre).length (scells (rowsOf pre))) ∧ Blk W B 27 [.slice none 0 0] ∧ Blk W (B + 1) 4 [.bool false] ∧ narrowB pre = true ∧ B + 4 ≤ W.heap.size
theorem blk_own {W W' : World} {row : Option Nat} {g : Nat} {t : TypeId} {l : List Value} (h : Blk W g t l) (hg : W.grownBy W' row) (hr : ∀ r, row = some r → ∃ o : Obj, W.heap[r]? = some o ∧ o.isCells = false) : Blk W' g t l :=
  h.kept (hg.block g h.lt (fun e => by
    obtain ⟨o, ho, hc⟩ := hr g e.symm
    rw [show W.heap[g]? = _ from h] at ho
    cases ho
    cases hc))
theorem own_own {W W' : World} {row : Option Nat} {B : Nat} {t : TypeId} {size : Nat} {v : Value} {n : Nat} {xs : List Value} (h : W.ownsRow B t size v n xs) (hg : W.grownBy W' row) (hr : ∀ r, row = some r → ∃ o : Obj, W.heap[r]? = some o ∧ o.isCells = false) : W'.ownsRow B t size v n xs := by
  refine h.kept hg ?_
  rcases h.2 with ⟨rfl, _⟩ | ⟨g, cap, cur, rfl, _, hgb, _⟩
  · exact .inl rfl
  · refine .inr fun e' => ?_
    obtain ⟨o, ho, hc⟩ := hr g (by simpa [Value.ownBlock] using e'.symm)
    rw [hgb] at ho
    cases ho
    cases hc
theorem rowC_own (B : Nat) : Own (RowC B) := by
  rintro pre W W' row ⟨⟨v, hb, ho⟩, h0, h1, hn, hz⟩ hg hr
  exact ⟨⟨v, blk_own hb hg hr, own_own ho hg hr⟩, blk_own h0 hg hr, blk_own h1 hg hr, hn, Nat.le_trans hz hg.size⟩
/-- What holds where a round has left the function. -/
def RowX (B : Nat) (c : Code) (pre : List (List UInt8)) (W : World) : Prop :=
  c = .ret ∧ Blk W B 27 [.slice none 0 0] ∧ Blk W (B + 1) 4 [.bool false] ∧ narrowB pre = false ∧ B + 4 ≤ W.heap.size
theorem rowX_own (B : Nat) (c : Code) : Own (RowX B c) := by
  rintro pre W W' row ⟨hc, h0, h1, hn, hz⟩ hg hr
  exact ⟨hc, blk_own h0 hg hr, blk_own h1 hg hr, hn, Nat.le_trans hz hg.size⟩
theorem Fr.others {S : Nat → Prop} {W W' : World} (h : Fr S W W') (hS : ∀ k o, S k → W.heap[k]? = some o → o.isCells = true) : KeepsOthers W W' :=
  ⟨h.size, fun k o hk ho => by
    refine (h.block k (Array.getElem?_eq_some_iff.1 hk).1 (fun hs => ?_)).trans hk
    rw [hS k o hs hk] at ho
    cases ho⟩
theorem Blk.cells {W : World} {g : Nat} {t : TypeId} {l : List Value} (h : Blk W g t l) {o : Obj} (ho : W.heap[g]? = some o) : o.isCells = true := by
  rw [show W.heap[g]? = _ from h] at ho
  cases ho
  rfl
theorem own_cells {W : World} {B : Nat} {t : TypeId} {size : Nat} {v : Value} {n : Nat} {xs : List Value} (h : W.ownsRow B t size v n xs) {k : Nat} (hk : v.ownBlock = some k) {o : Obj} (ho : W.heap[k]? = some o) : o.isCells = true := by
  rcases h.2 with ⟨rfl, _⟩ | ⟨g, cap, cur, rfl, _, hgb, _⟩
  · simp [Value.ownBlock] at hk
  · simp [Value.ownBlock] at hk
    subst hk
    rw [hgb] at ho
    cases ho
    rfl
theorem own_ge {wr : World} {B : Nat} {t : TypeId} {size : Nat} {v : Value} {n : Nat} {xs : List Value} (h : wr.ownsRow B t size v n xs) : ∀ k, v.ownBlock = some k → B ≤ k := fun k hk => by
  rcases h.2 with ⟨rfl, rfl⟩ | ⟨g, cap, cur, rfl, q2, q3⟩
  · simp [Value.ownBlock] at hk
  · simp [Value.ownBlock] at hk
    omega
theorem own_lt {wr : World} {B : Nat} {t : TypeId} {size : Nat} {v : Value} {n : Nat} {xs : List Value} (h : wr.ownsRow B t size v n xs) : ∀ k, v.ownBlock = some k → k < wr.heap.size := fun k hk => by
  rcases h.2 with ⟨rfl, rfl⟩ | ⟨g, cap, cur, rfl, q2, q3⟩
  · simp [Value.ownBlock] at hk
  · simp [Value.ownBlock] at hk
    subst hk
    exact (Array.getElem?_eq_some_iff.1 q3.1).1
theorem own_slice {wr : World} {B : Nat} {t : TypeId} {size : Nat} {v : Value} {n : Nat} {xs : List Value} (h : wr.ownsRow B t size v n xs) : ∃ oa cap, v = .slice oa n cap := by
  rcases h.2 with ⟨rfl, rfl⟩ | ⟨g, cap, _, rfl, _⟩
  · exact ⟨_, _, rfl⟩
  · exact ⟨_, _, rfl⟩
theorem own_base {wr : World} {B B' : Nat} {t : TypeId} {size : Nat} {v : Value} {n : Nat} {xs : List Value} (h : wr.ownsRow B t size v n xs) (hb : B' ≤ B) : wr.ownsRow B' t size v n xs := by
  refine ⟨h.1, ?_⟩
  rcases h.2 with h2 | ⟨g, cap, cur, q1, q2, q3⟩
  · exact .inl h2
  · exact .inr ⟨g, cap, cur, q1, Nat.le_trans hb q2, q3⟩
theorem ownsRow_keptF {W W' : World} {B : Nat} {t : TypeId} {size : Nat} {v : Value} {n : Nat} {xs : List Value} (h : W.ownsRow B t size v n xs) (hk : ∀ k, v.ownBlock = some k → W'.heap[k]? = W.heap[k]?) : W'.ownsRow B t size v n xs := by
  refine ⟨h.1, ?_⟩
  rcases h.2 with h2 | ⟨g, cap, cur, rfl, q2, q3, q4⟩
  · exact .inl h2
  · exact .inr ⟨g, cap, cur, rfl, q2, (hk g rfl).trans q3, q4⟩
theorem Try.infoStr : (Try.prog.info? 9).map (fun i => (i.zero, i.size, i.bytes)) = some (some (.string ⟨#[]⟩), 1, 16) := by kernel_rfl
/-- append of one string to a slice of the call's own. -/
theorem app_str (wr : World) (B : Nat) (v : Value) (n : Nat) (xs : List Value) (x : ByteArray) (hown : wr.ownsRow B 9 1 v n xs) (hn : n ≤ 1000000) (hB : B ≤ wr.heap.size) (ty : TypeId) :
    ∃ v' w', (Builtin.append_ #[27, 27] ty #[v, .slice (some ⟨wr.heap.size, 0, none⟩) 1 1]).run Try.prog (wr.alloc (.cells #[.string x] 9)) = .ok v' w' ∧ w'.ownsRow B 9 1 v' (n + 1) (xs ++ [.string x]) ∧ Fr (fun k => v.ownBlock = some k) wr w' ∧ (∀ k, v'.ownBlock = some k → v.ownBlock = some k ∨ wr.heap.size ≤ k) := by
  obtain ⟨i0, hi, hz0, hz1, hz2⟩ := info_parts Try.infoStr
  have hnew : Blk (wr.alloc (.cells #[.string x] 9)) wr.heap.size 9 [.string x] := Blk.new wr _ _
  obtain ⟨v', w', hrun, h1, h2, h3⟩ := app_own (P := Try.prog) (W := wr.alloc (.cells #[.string x] 9)) B 27 ty 9 i0 (.string ⟨#[]⟩) 1 16 Try.underlying27 hi hz0 hz1 hz2 rfl (by decide) v n xs (hown.alloc _) ⟨wr.heap.size, 0, none⟩ 1 1 [.string x] rfl (fun j u hj => by
      rw [show ((⟨wr.heap.size, 0, none⟩ : Addr).add j) = ⟨wr.heap.size, j, none⟩ from by unfold Addr.add; split <;> simp_all, hnew.cell]
      exact hj) (by intro u hu; simp at hu; subst hu; rfl) (by unfold maxLen; omega) (by omega) (by simp; omega)
  exact ⟨v', w', hrun, h1, ((Fr.refl _ wr).alloc _).trans h2 (fun _ _ h => h), fun k hk => (h3 k hk).imp_right (fun h => by simp at h; omega)⟩
theorem rowC_app {w W w9 : World} {v v' : Value} {pre : List (List UInt8)} {x : List UInt8} (hbv : Blk W (w.heap.size + 1 + 1) 27 [v]) (how : W.ownsRow (w.heap.size + 4) 9 1 v (rowsOf pre).length (scells (rowsOf pre))) (hb0 : Blk W w.heap.size 27 [.slice none 0 0]) (hb1 : Blk W (w.heap.size + 1) 4 [.bool false]) (hna : narrowB pre = true) (hsz : w.heap.size + 4 ≤ W.heap.size) (hB : Below w.heap.size w W) (hx : x.length ≤ 32)
    (ho9 : w9.ownsRow (w.heap.size + 4) 9 1 v' ((rowsOf pre).length + 1) (scells (rowsOf pre) ++ [.string ⟨x.toArray⟩])) (hf9 : Fr (fun k => v.ownBlock = some k) W w9) (hk9 : ∀ k, v'.ownBlock = some k → v.ownBlock = some k ∨ W.heap.size ≤ k) (hr : rowsOf (pre ++ [x]) = rowsOf pre ++ [x]) :
    KeepsOthers W (w9.setCell ⟨w.heap.size + 1 + 1, 0, none⟩ v') ∧ KpB (w.heap.size + 1 + 1 + 1) W (w9.setCell ⟨w.heap.size + 1 + 1, 0, none⟩ v') ∧ RowC w.heap.size (pre ++ [x]) (w9.setCell ⟨w.heap.size + 1 + 1, 0, none⟩ v') ∧ Below w.heap.size w (w9.setCell ⟨w.heap.size + 1 + 1, 0, none⟩ v') := by
  have hge := own_ge how
  have hs9 := hf9.size
  have hfr : Fr (fun k => v.ownBlock = some k ∨ k = w.heap.size + 1 + 1) W (w9.setCell ⟨w.heap.size + 1 + 1, 0, none⟩ v') := (hf9.mono (fun k hk => .inl hk)).setCell _ _ (.inl (.inr rfl))
  have no : ∀ k, k < w.heap.size + 4 → k ≠ w.heap.size + 1 + 1 → ¬ (v.ownBlock = some k ∨ k = w.heap.size + 1 + 1) := fun k h1 h2 h => by
    rcases h with h | h
    · have := hge k h; omega
    · exact h2 h
  refine ⟨hfr.others (fun k o hk ho => ?_), hfr.block _ (by omega) (no _ (by omega) (by omega)), ⟨⟨v', ?_, ?_⟩, hb0.kept (hfr.block _ (by omega) (no _ (by omega) (by omega))), hb1.kept (hfr.block _ (by omega) (no _ (by omega) (by omega))), ?_, ?_⟩, hB.trans (hfr.below _ (by omega) (fun k hk => ?_))⟩
  · rcases hk with hk | rfl
    · exact own_cells how hk ho
    · exact hbv.cells ho
  · have h1 : Blk w9 (w.heap.size + 1 + 1) 27 [v] := hbv.kept (hf9.block _ (by omega) (fun e => by have := hge _ e; omega))
    exact h1.set 0 v'
  · rw [hr, List.length_append, show scells (rowsOf pre ++ [x]) = scells (rowsOf pre) ++ [.string ⟨x.toArray⟩] from by simp [scells]]
    refine ownsRow_keptF ho9 (fun k hk => Below.heap_setCell _ _ _ _ ?_)
    rcases hk9 k hk with h | h
    · have := hge k h; show k ≠ w.heap.size + 1 + 1; omega
    · show k ≠ w.heap.size + 1 + 1; omega
  · rw [narrow_snoc, hna, decide_eq_true hx]; rfl
  · have := hfr.size; omega
  · rcases hk with hk | rfl
    · have := hge k hk; omega
    · omega
theorem rowC_set {w W : World} {g cap : Nat} {pre rs : List (List UInt8)} {r x : List UInt8} (hbv : Blk W (w.heap.size + 1 + 1) 27 [.slice (some ⟨g, 0, none⟩) (rowsOf pre).length cap]) (how : W.ownsRow (w.heap.size + 4) 9 1 (.slice (some ⟨g, 0, none⟩) (rowsOf pre).length cap) (rowsOf pre).length (scells (rowsOf pre))) (hb0 : Blk W w.heap.size 27 [.slice none 0 0]) (hb1 : Blk W (w.heap.size + 1) 4 [.bool false]) (hna : narrowB pre = true) (hsz : w.heap.size + 4 ≤ W.heap.size) (hB : Below w.heap.size w W) (hx : x.length ≤ 32)
    (he : rowsOf pre = rs ++ [r]) (hr : rowsOf (pre ++ [x]) = rs ++ [r ++ 32 :: x]) :
    KeepsOthers W (W.setCell ⟨g, rs.length, none⟩ (.string ⟨(r ++ 32 :: x).toArray⟩)) ∧ KpB (w.heap.size + 1 + 1 + 1) W (W.setCell ⟨g, rs.length, none⟩ (.string ⟨(r ++ 32 :: x).toArray⟩)) ∧ RowC w.heap.size (pre ++ [x]) (W.setCell ⟨g, rs.length, none⟩ (.string ⟨(r ++ 32 :: x).toArray⟩)) ∧ Below w.heap.size w (W.setCell ⟨g, rs.length, none⟩ (.string ⟨(r ++ 32 :: x).toArray⟩)) := by
  have hge : w.heap.size + 4 ≤ g := own_ge how g rfl
  have hfr : Fr (fun k => k = g) W (W.setCell ⟨g, rs.length, none⟩ (.string ⟨(r ++ 32 :: x).toArray⟩)) := (Fr.refl _ W).setCell _ _ (.inl rfl)
  have hlen : (rowsOf (pre ++ [x])).length = (rowsOf pre).length := by rw [hr, he]; simp
  refine ⟨hfr.others (fun k o hk ho => ?_), hfr.block _ (by omega) (by omega), ⟨⟨_, hbv.kept (hfr.block _ (by omega) (by omega)), ?_⟩, hb0.kept (hfr.block _ (by omega) (by omega)), hb1.kept (hfr.block _ (by omega) (by omega)), ?_, ?_⟩, hB.trans (hfr.below _ (by omega) (fun k hk => by omega))⟩
  · subst hk
    exact own_cells how rfl ho
  · rw [hlen]
    have := (how.stored rs.length (.string ⟨(r ++ 32 :: x).toArray⟩)).1
    rw [show (scells (rowsOf pre)).set rs.length (.string ⟨(r ++ 32 :: x).toArray⟩) = scells (rowsOf (pre ++ [x])) from by
      rw [he, hr]
      simp [scells, List.set_append]] at this
    exact this
  · rw [narrow_snoc, hna, decide_eq_true hx]; rfl
  · have := hfr.size; omega
theorem after_take {w W' : World} {D : Nat} {v : Value} {b : Bool} {n : Nat} {xs : List Value} (hK : W'.heap[D]? = some (.deferred (some []))) (h0 : Blk W' w.heap.size 27 [v]) (h1 : Blk W' (w.heap.size + 1) 4 [.bool b]) (hB : Below w.heap.size w W') (hD : w.heap.size ≤ D) (ho : W'.ownsRow w.heap.size 9 1 v n xs) :
    (Instr.takeDeferred D).run Try.prog W' = .ok [] (W'.putObj D (.deferred none)) ∧ (W'.putObj D (.deferred none)).cell? ⟨w.heap.size, 0, none⟩ = some v ∧ (W'.putObj D (.deferred none)).cell? ⟨w.heap.size + 1, 0, none⟩ = some (.bool b) ∧ Below w.heap.size w (W'.putObj D (.deferred none)) ∧ (W'.putObj D (.deferred none)).ownsRow w.heap.size 9 1 v n xs := by
  have hg := grownBy_putObj' W' D (.deferred none)
  have hr : ∀ r, some D = some r → ∃ o : Obj, W'.heap[r]? = some o ∧ o.isCells = false := fun r e => by cases e; exact ⟨_, hK, rfl⟩
  exact ⟨run_takeDeferred hK, (blk_own h0 hg hr).cell 0, (blk_own h1 hg hr).cell 0, hB.grown hg hB.size (fun k e => by cases e; exact hD), own_own ho hg hr⟩
theorem kpB_put {b n : Nat} (hb : b < n) (W : World) (l : Nat) (o o' : Obj) (hl : n ≤ l) (h : W.heap[l]? = some o) (_ : o.isCells = false) (_ : o.isWalk = false) : KpB b W (W.putObj l o') :=
  (grownBy_putObj' W l o').block b (by have := (Array.getElem?_eq_some_iff.1 h).1; omega) (by intro e; cases e; omega)
set_option maxRecDepth 100000 in
set_option maxHeartbeats 1000000 in
theorem rows_fit (F : Fence) (n : Nat) (h13 : F.fn 13) (h27 : F.fn 27) (h28 : F.fn 28) (h32 : F.fn 32) (hro : F.round = none) (hn : 3 ≤ n) (s : ByteArray) (w : World) (hz : s.size ≤ 200) (hp : printB s.data.toList = true) :
    CallsIn F n Try.prog 13 #[.string s] w fun e w' => ∃ v, e = .returned (.tuple #[v, .bool (fitsB s.data.toList)]) ∧ w'.ownsRow w.heap.size 9 1 v (rowsR s.data.toList).length (scells (rowsR s.data.toList)) ∧ Below w.heap.size w w' := by
  have h1 : 1 ≤ n := by omega
  have hz' : (s.size : Int) ≤ 200 := by omega
  have HP := Lib.hid hp
  clear hp
  refine callsIn_of_wp_marks Try.func13 rfl h13 ?_ hro
  simp only [Try.ntmps13, List.size_toArray, List.length_cons, List.length_nil, Nat.reduceAdd, Nat.reduceSub, Array.replicate_succ, Array.replicate_zero, List.push_toArray, List.append_toArray, List.nil_append, List.cons_append]
  gi_wp2_with (gi_at_call 27; refine (printable_in F (n - 1) h27 hro s _ hz).mono ?_; rw [HP.out]; rintro e w' ⟨rfl, rfl⟩)
  refine (words_in F (n - 1) h28 hro s _).mono ?_
  rintro e w' ⟨rfl, rfl⟩
  gi_wp2_with fail
  generalize Value.bool (decide (200 < (s.size : Int))) = b0
  have hB0 : Below w.heap.size w ((((w.alloc (.cells #[.slice none 0 0] 27)).alloc (.cells #[.bool false] 4)).alloc (.cells #[.slice none 0 0] 27)).alloc (.cells #[.string s] 9)) :=
    ((((Below.refl _ w).alloc (Nat.le_refl _) _).alloc (by simp) _).alloc (by simp; omega) _).alloc (by simp; omega) _
  have q0 : Blk ((((w.alloc (.cells #[.slice none 0 0] 27)).alloc (.cells #[.bool false] 4)).alloc (.cells #[.slice none 0 0] 27)).alloc (.cells #[.string s] 9)) w.heap.size 27 [.slice none 0 0] := (((Blk.new w _ _).alloc _).alloc _).alloc _
  have q1 : Blk ((((w.alloc (.cells #[.slice none 0 0] 27)).alloc (.cells #[.bool false] 4)).alloc (.cells #[.slice none 0 0] 27)).alloc (.cells #[.string s] 9)) (w.heap.size + 1) 4 [.bool false] := by
    have := (Blk.new (w.alloc (.cells #[.slice none 0 0] 27)) 4 [.bool false]).alloc (.cells #[.slice none 0 0] 27) |>.alloc (.cells #[.string s] 9)
    simpa using this
  have q2 : Blk ((((w.alloc (.cells #[.slice none 0 0] 27)).alloc (.cells #[.bool false] 4)).alloc (.cells #[.slice none 0 0] 27)).alloc (.cells #[.string s] 9)) (w.heap.size + 1 + 1) 27 [.slice none 0 0] := by
    have := (Blk.new ((w.alloc (.cells #[.slice none 0 0] 27)).alloc (.cells #[.bool false] 4)) 27 [.slice none 0 0]).alloc (.cells #[.string s] 9)
    simpa using this
  have q3 : Blk ((((w.alloc (.cells #[.slice none 0 0] 27)).alloc (.cells #[.bool false] 4)).alloc (.cells #[.slice none 0 0] 27)).alloc (.cells #[.string s] 9)) (w.heap.size + 1 + 1 + 1) 9 [.string s] := by
    have := (Blk.new (((w.alloc (.cells #[.slice none 0 0] 27)).alloc (.cells #[.bool false] 4)).alloc (.cells #[.slice none 0 0] 27)) 9 [.string s])
    simpa using this
  have hsz : ((((w.alloc (.cells #[.slice none 0 0] 27)).alloc (.cells #[.bool false] 4)).alloc (.cells #[.slice none 0 0] 27)).alloc (.cells #[.string s] 9)).heap.size = w.heap.size + 4 := by simp
  generalize ((((w.alloc (.cells #[.slice none 0 0] 27)).alloc (.cells #[.bool false] 4)).alloc (.cells #[.slice none 0 0] 27)).alloc (.cells #[.string s] 9)) = W0 at hB0 q0 q1 q2 q3 hsz ⊢
  have hI0 : RowC w.heap.size [] W0 := ⟨⟨_, q2, World.ownsRow_nil _ _ _ _⟩, q0, q1, rfl, by omega⟩
  have hsz' : w.heap.size + 4 ≤ W0.heap.size := by omega
  have HI0 := Lib.hid hI0
  have HB0 := Lib.hid hB0
  have HQ3 := Lib.hid (q3.cell 0)
  clear q0 q1 q2 q3 hI0 hB0 hsz
  refine wpIn_rangeFunc_ownF hro h1 (gf := 32) (lb := #[.pointer (some ⟨w.heap.size + 1 + 1 + 1, 0, none⟩)]) rfl h32 (enters_of Try.func32 (by kernel_rfl) rfl)
    (words_stops F (n - 1) h32 hro (by omega) (w.heap.size + 1 + 1 + 1) s W0 (by omega) hz HQ3.out) (fun h k => Eq.trans k h) (kpB_put (by omega)) (Below.refl _ _) (fun _ => rfl)
    (fun pre W => RowC w.heap.size pre W ∧ Below w.heap.size w W)
    (fun c pre W => RowX w.heap.size c pre W ∧ Below w.heap.size w W)
    (OwnFrom.and (Own.from (rowC_own _) _) (ownFrom_below (Nat.le_refl _) (by omega)))
    (fun c => OwnFrom.and (Own.from (rowX_own _ c) _) (ownFrom_below (Nat.le_refl _) (by omega)))
    ⟨HI0.out, HB0.out⟩
    (fun g => { tmps := #[.string s, undef, .pointer (some ⟨w.heap.size, 0, none⟩), .pointer (some ⟨w.heap.size + 1, 0, none⟩), .pointer (some ⟨w.heap.size + 1 + 1, 0, none⟩), .string ⟨g.toArray⟩, undef, .string s, .int .i64 s.size, b0, b0, .string s, .bool true, .bool false, b0, .string s, .func (.func 32) #[] #[.pointer (some ⟨w.heap.size + 1 + 1 + 1, 0, none⟩)], .string ⟨g.toArray⟩, undef, undef, undef, undef, undef, undef, undef, undef, undef, undef, undef, undef, undef, undef, undef, undef, undef, undef, undef, undef, undef, undef, undef, undef, undef, undef, undef, undef, undef, undef, undef, undef, undef, undef, undef, undef, undef, undef, undef, undef, undef], defers := [] }) ?assign ?body ?done ?stop
  case assign =>
    intro l x W K hK
    gi_wp2
    exact hK
  case body =>
    rintro l pre x W ⟨⟨⟨v, hbv, how⟩, hb0, hb1, hna, hsz⟩, hB⟩ hlen
    have hrl := rowsOf_len pre
    have HE := Lib.hid (show (⟨x.toArray⟩ : ByteArray).data.toList = x from rfl)
    have hxs : (⟨x.toArray⟩ : ByteArray).size = x.length := rfl
    obtain ⟨X, hX⟩ : ∃ X : ByteArray, (⟨x.toArray⟩ : ByteArray) = X := ⟨_, rfl⟩
    dsimp only
    rw [hX] at hxs ⊢
    have HX := Lib.hid hX
    clear hX HE
    by_cases hx : x.length ≤ 32
    · have hx' : (X.size : Int) ≤ 32 := by omega
      obtain ⟨oa, cap, rfl⟩ := own_slice how
      have c4 := hbv.cell 0
      have f4 := hbv.frozen 0
      simp only [List.getElem?_cons_zero] at c4
      rcases List.eq_nil_or_concat (rowsOf pre) with e | ⟨rs, r, e⟩
      · obtain ⟨v', w9, hrun, ho9, hf9, hk9⟩ := app_str W (w.heap.size + 4) _ (rowsOf pre).length _ X how (by omega) hsz 27
        have HF := rowC_app hbv how hb0 hb1 hna hsz hB hx (by rw [HX.out]; exact ho9) hf9 hk9 (by rw [rowsOf_snoc, e]; rfl)
        obtain ⟨oa', cap', rfl⟩ := own_slice ho9
        have hl0 : (rowsOf pre).length = 0 := by rw [e]; rfl
        rw [hl0] at HF
        have HF' := Lib.hid HF
        have hge := own_ge how
        have hb9 : Blk w9 (w.heap.size + 1 + 1) _ _ := hbv.kept (hf9.block _ (by omega) (fun e => by have := hge _ e; omega))
        have d4 := hb9.cell 0
        have g4 := hb9.frozen 0
        simp only [List.getElem?_cons_zero] at d4
        clear hge hb9 HF hbv how hb0 hb1 hna hsz hB hf9 hk9 ho9 e hrl hlen hxs
        rw [hl0] at c4 hrun d4
        have hneg : ¬ (0 : Int) ≤ -1 := by decide
        gi_wp2_with (gi_at_builtin; refine wpListIn_append_run _ rfl _ _ 27 rfl _ _ _ _ rfl rfl hrun ?_)
        exact HF'.out
      · rw [List.concat_eq_append] at e
        have hln : (rowsOf pre).length = rs.length + 1 := by rw [e]; simp
        obtain ⟨g, rfl⟩ : ∃ g, oa = some ⟨g, 0, none⟩ := by
          rcases how.2 with ⟨he, h0⟩ | ⟨g, cap', cur, he, _⟩
          · omega
          · simp at he
            exact ⟨g, he.1⟩
        have cr : W.cell? ⟨g, rs.length, none⟩ = some (.string ⟨r.toArray⟩) := by
          rw [how.cellAt rs.length (by omega), e]
          simp [scells]
        have fr := how.frozenAt rs.length
        have hrs : (⟨r.toArray⟩ : ByteArray).size = r.length := rfl
        have hrw := rowsOf_wide pre hna r (by rw [e]; simp)
        obtain ⟨R, hR⟩ : ∃ R : ByteArray, (⟨r.toArray⟩ : ByteArray) = R := ⟨_, rfl⟩
        rw [hR] at hrs cr
        have HR := Lib.hid hR
        clear hR
        have hm1 : ((rowsOf pre).length : Int) - 1 = (rs.length : Int) := by omega
        have hpos : (0 : Int) ≤ rs.length := by omega
        have hbd : rs.length ≤ 201 := by omega
        have hin : (rs.length : Int) < (rowsOf pre).length := by omega
        by_cases hf : r.length + 1 + x.length ≤ 32
        · have HF := rowC_set hbv how hb0 hb1 hna hsz hB hx e (by rw [rowsOf_snoc, e, rstep_fit _ _ _ hf])
          rw [show (⟨(r ++ 32 :: x).toArray⟩ : ByteArray) = R ++ (⟨#[32]⟩ ++ X) from by
            rw [← HR.out, ← HX.out]
            apply ByteArray.ext
            simp] at HF
          have HF' := Lib.hid HF
          have hf' : (R.size : Int) + 1 + X.size ≤ 32 := by omega
          rw [hln] at c4
          have h1 : ((rs.length + 1 : Nat) : Int) - 1 = (rs.length : Int) := by omega
          have h2 : (rs.length : Int) < ((rs.length + 1 : Nat) : Int) := by omega
          clear HF hbv how hb0 hb1 hna hsz hB e hln hm1 hf hrs hrw hxs hin
          gi_wp2
          exact HF'.out
        · obtain ⟨v', w9, hrun, ho9, hf9, hk9⟩ := app_str W (w.heap.size + 4) _ (rowsOf pre).length _ X how (by omega) hsz 27
          have HF := rowC_app hbv how hb0 hb1 hna hsz hB hx (by rw [HX.out]; exact ho9) hf9 hk9 (by rw [rowsOf_snoc, e, rstep_new _ _ _ hf])
          obtain ⟨oa', cap', rfl⟩ := own_slice ho9
          rw [hln] at HF
          have HF' := Lib.hid HF
          have hge := own_ge how
          have hb9 : Blk w9 (w.heap.size + 1 + 1) _ _ := hbv.kept (hf9.block _ (by omega) (fun e => by have := hge _ e; omega))
          have d4 := hb9.cell 0
          have g4 := hb9.frozen 0
          simp only [List.getElem?_cons_zero] at d4
          rw [hln] at c4 hrun d4
          have hf' : ¬ (R.size : Int) + 1 + X.size ≤ 32 := by omega
          have h1 : ((rs.length + 1 : Nat) : Int) - 1 = (rs.length : Int) := by omega
          have h2 : (rs.length : Int) < ((rs.length + 1 : Nat) : Int) := by omega
          have hRs : R.size ≤ 32 := by omega
          clear hge hb9 HF hbv how hb0 hb1 hna hsz hB hf9 hk9 ho9 e hln hm1 hf hrs hrw hxs hin
          gi_wp2_with (gi_at_builtin; refine wpListIn_append_run _ rfl _ _ 27 rfl _ _ _ _ rfl rfl hrun ?_)
          exact HF'.out
    · have hx' : (32 : Int) < X.size := by omega
      have c0 := hb0.cell 0
      have f0 := hb0.frozen 0
      have c1 := hb1.cell 0
      have f1 := hb1.frozen 0
      simp only [List.getElem?_cons_zero] at c0 c1
      have HF : Hid (KeepsOthers W ((W.setCell ⟨w.heap.size, 0, none⟩ (.slice none 0 0)).setCell ⟨w.heap.size + 1, 0, none⟩ (.bool false)) ∧ RowX w.heap.size .ret (pre ++ [x]) ((W.setCell ⟨w.heap.size, 0, none⟩ (.slice none 0 0)).setCell ⟨w.heap.size + 1, 0, none⟩ (.bool false)) ∧ Below w.heap.size w ((W.setCell ⟨w.heap.size, 0, none⟩ (.slice none 0 0)).setCell ⟨w.heap.size + 1, 0, none⟩ (.bool false))) := by
        refine ⟨(KeepsOthers.setCell _ _ _).trans (KeepsOthers.setCell _ _ _), ⟨rfl, (hb0.set 0 _).other _ (by simp) _, (hb1.other _ (by simp) _).set 0 _, ?_, ?_⟩, (hB.setCell (by simp) _).setCell (by simp) _⟩
        · rw [narrow_snoc, decide_eq_false hx, Bool.and_false]
        · simpa [World.setCell] using hsz
      clear hbv how hb0 hb1 hna hsz hB hxs
      gi_wp2
      exact HF.out
  case done =>
    rintro D ys W hD rfl ⟨⟨⟨v, hbv, how⟩, hb0, hb1, hna, hsz⟩, hB⟩ hK
    obtain ⟨oa, cap, rfl⟩ := own_slice how
    have hrl := rowsOf_len (wordsL s.data.toList)
    have hwl : (wordsL s.data.toList).length ≤ 200 := by
      have h1 := wscan_count s.data.toList
      rw [dlen] at h1
      unfold wordsL wfin
      split
      · omega
      · rename_i h2
        rw [if_neg h2] at h1
        rw [List.length_append]
        simp
        omega
    have c4 := hbv.cell 0
    have c0 := hb0.cell 0
    have f0 := hb0.frozen 0
    have c1 := hb1.cell 0
    have f1 := hb1.frozen 0
    simp only [List.getElem?_cons_zero] at c0 c1 c4
    have hfit : fitsB s.data.toList = decide (1 ≤ (rowsOf (wordsL s.data.toList)).length ∧ (rowsOf (wordsL s.data.toList)).length ≤ 4) := by
      unfold fitsB
      rw [HP.out, hna, dlen, decide_eq_true hz]
      rfl
    have hge := own_ge how
    by_cases h : 1 ≤ (rowsOf (wordsL s.data.toList)).length ∧ (rowsOf (wordsL s.data.toList)).length ≤ 4
    · rw [decide_eq_true h] at hfit
      have hrr : rowsR s.data.toList = rowsOf (wordsL s.data.toList) := by unfold rowsR; rw [if_pos hfit]
      have HFI := Lib.hid hfit
      have HRR := Lib.hid hrr
      clear hfit hrr
      obtain ⟨h1, h2⟩ := h
      have h1' : ((((rowsOf (wordsL s.data.toList)).length : Nat) : Int) == 0) = false := by rw [beq_eq_false_iff_ne]; omega
      have h2' : (((rowsOf (wordsL s.data.toList)).length : Nat) : Int) ≤ 4 := by omega
      have HA := Lib.hid (after_take (w := w) (v := .slice oa (rowsOf (wordsL s.data.toList)).length cap) (b := true) (n := (rowsOf (wordsL s.data.toList)).length) (xs := scells (rowsOf (wordsL s.data.toList)))
        (W' := (W.setCell ⟨w.heap.size, 0, none⟩ (.slice oa (rowsOf (wordsL s.data.toList)).length cap)).setCell ⟨w.heap.size + 1, 0, none⟩ (.bool true)) (D := D) (by
          rw [Below.heap_setCell _ _ _ _ (by show D ≠ w.heap.size + 1; omega), Below.heap_setCell _ _ _ _ (by show D ≠ w.heap.size; omega)]
          exact hK) ((hb0.set 0 _).other _ (by simp) _) ((hb1.other _ (by simp) _).set 0 _) ((hB.setCell (by simp) _).setCell (by simp) _) (by omega)
        (ownsRow_keptF (own_base how (by omega)) (fun k hk => by
          have := hge k hk
          rw [Below.heap_setCell _ _ _ _ (by show k ≠ w.heap.size + 1; omega), Below.heap_setCell _ _ _ _ (by show k ≠ w.heap.size; omega)])))
      clear hbv how hb0 hb1 hna hsz hB hge hrl hwl
      gi_wp2
      obtain ⟨a0, a1, a2, a3, a4⟩ := HA.out
      refine ⟨by simp, .inl ⟨D, _, rfl, a0, ?_⟩⟩
      refine ⟨.tuple #[.slice oa (rowsOf (wordsL s.data.toList)).length cap, .bool true], by simp [results, Try.f13, go_sem, a1, a2], _, by rw [HFI.out], ?_, a3⟩
      rw [HRR.out]
      exact a4
    · rw [decide_eq_false h] at hfit
      have hrr : rowsR s.data.toList = [] := by unfold rowsR; rw [if_neg (by rw [hfit]; decide)]
      have HFI := Lib.hid hfit
      have HRR := Lib.hid hrr
      clear hfit hrr
      have HA := Lib.hid (after_take (w := w) (v := .slice none 0 0) (b := false) (n := 0) (xs := [])
        (W' := (W.setCell ⟨w.heap.size, 0, none⟩ (.slice none 0 0)).setCell ⟨w.heap.size + 1, 0, none⟩ (.bool false)) (D := D) (by
          rw [Below.heap_setCell _ _ _ _ (by show D ≠ w.heap.size + 1; omega), Below.heap_setCell _ _ _ _ (by show D ≠ w.heap.size; omega)]
          exact hK) ((hb0.set 0 _).other _ (by simp) _) ((hb1.other _ (by simp) _).set 0 _) ((hB.setCell (by simp) _).setCell (by simp) _) (by omega) (World.ownsRow_nil _ _ _ _))
      clear hbv how hb0 hb1 hna hsz hB hge
      rcases (show (((((rowsOf (wordsL s.data.toList)).length : Nat) : Int) == 0) = true ∧ True) ∨ (((((rowsOf (wordsL s.data.toList)).length : Nat) : Int) == 0) = false ∧ ¬ (((rowsOf (wordsL s.data.toList)).length : Nat) : Int) ≤ 4) from by
        by_cases h0 : (rowsOf (wordsL s.data.toList)).length = 0
        · exact .inl ⟨by rw [h0]; rfl, trivial⟩
        · exact .inr ⟨by rw [beq_eq_false_iff_ne]; omega, by omega⟩) with ⟨h1, h2⟩ | ⟨h1, h2⟩
      all_goals
        gi_wp2
        obtain ⟨a0, a1, a2, a3, a4⟩ := HA.out
        refine ⟨by simp, .inl ⟨D, _, rfl, a0, ?_⟩⟩
        refine ⟨.tuple #[.slice none 0 0, .bool false], by simp [results, Try.f13, go_sem, a1, a2], _, by rw [HFI.out], ?_, a3⟩
        rw [HRR.out]
        exact a4
  case stop =>
    rintro D c pre W hD ⟨rest, hpre⟩ ⟨⟨rfl, hb0, hb1, hna, hsz⟩, hB⟩ hK
    have hfit : fitsB s.data.toList = false := by
      unfold fitsB
      rw [hpre, show narrowB (pre ++ rest) = false from by unfold narrowB at *; rw [List.all_append, hna, Bool.false_and], Bool.and_false, Bool.false_and]
    have hrr : rowsR s.data.toList = [] := by unfold rowsR; rw [if_neg (by rw [hfit]; decide)]
    have HFI := Lib.hid hfit
    have HRR := Lib.hid hrr
    clear hfit hrr
    have c0 := hb0.cell 0
    have c1 := hb1.cell 0
    simp only [List.getElem?_cons_zero] at c0 c1
    have HA := Lib.hid (after_take (w := w) (v := .slice none 0 0) (b := false) (n := 0) (xs := []) (D := D) hK hb0 hb1 hB (by omega) (World.ownsRow_nil _ _ _ _))
    clear hb0 hb1 hna hsz hB
    gi_wp2
    obtain ⟨a0, a1, a2, a3, a4⟩ := HA.out
    refine ⟨by simp, .inl ⟨D, _, rfl, a0, ?_⟩⟩
    refine ⟨.tuple #[.slice none 0 0, .bool false], by simp [results, Try.f13, go_sem, a1, a2], _, by rw [HFI.out], ?_, a3⟩
    rw [HRR.out]
    exact a4
set_option maxRecDepth 100000 in
theorem rows_no (F : Fence) (n : Nat) (h13 : F.fn 13) (h27 : F.fn 27) (hro : F.round = none) (h1 : 1 ≤ n) (s : ByteArray) (w : World) (hsz : s.size ≤ maxLen) (h : 200 < s.size ∨ (s.size ≤ 200 ∧ printB s.data.toList = false)) :
    CallsIn F n Try.prog 13 #[.string s] w fun e w' => e = .returned (.tuple #[.slice none 0 0, .bool false]) ∧ Below w.heap.size w w' := by
  rcases h with h | ⟨hz, hp⟩
  · have h' : (200 : Int) < s.size := by omega
    unfold maxLen at hsz
    refine callsIn_of_wp Try.func13 rfl h13 ?_ hro
    simp only [Try.ntmps13, List.size_toArray, List.length_cons, List.length_nil, Nat.reduceAdd, Nat.reduceSub, Array.replicate_succ, Array.replicate_zero, List.push_toArray, List.append_toArray, List.nil_append, List.cons_append]
    gi_wp2
    exact bodyPost_ret (v := .tuple #[.slice none 0 0, .bool false]) (by simp [results, Try.results13, go_sem]) rfl ⟨rfl, ((Below.refl _ w).alloc (Nat.le_refl _) _).alloc (by simp) _⟩
  · have h' : (s.size : Int) ≤ 200 := by omega
    have HP := Lib.hid hp
    clear hp
    refine callsIn_of_wp Try.func13 rfl h13 ?_ hro
    simp only [Try.ntmps13, List.size_toArray, List.length_cons, List.length_nil, Nat.reduceAdd, Nat.reduceSub, Array.replicate_succ, Array.replicate_zero, List.push_toArray, List.append_toArray, List.nil_append, List.cons_append]
    gi_wp2_with (gi_at_call 27; refine (printable_in F (n - 1) h27 hro s _ hz).mono ?_; rw [HP.out]; rintro e w' ⟨rfl, rfl⟩)
    exact bodyPost_ret (v := .tuple #[.slice none 0 0, .bool false]) (by simp [results, Try.results13, go_sem]) rfl ⟨rfl, ((Below.refl _ w).alloc (Nat.le_refl _) _).alloc (by simp) _⟩
/-- Rows, whatever the text. -/
theorem rows_any (s : ByteArray) (w : World) (hsz : s.size ≤ maxLen) :
    Calls Try.prog 13 #[.string s] w fun e w' => ∃ v, e = .returned (.tuple #[v, .bool (fitsB s.data.toList)]) ∧ w'.ownsRow w.heap.size 9 1 v (rowsR s.data.toList).length (scells (rowsR s.data.toList)) ∧ Below w.heap.size w w' := by
  refine (callsIn_wide (n := 3)).1 ?_
  by_cases hz : s.size ≤ 200
  · cases hp : printB s.data.toList
    · have hf : fitsB s.data.toList = false := by unfold fitsB; rw [hp, Bool.and_false, Bool.false_and, Bool.false_and]
      have hr : rowsR s.data.toList = [] := by unfold rowsR; rw [if_neg (by rw [hf]; decide)]
      rw [hf, hr]
      exact (rows_no Fence.wide 3 trivial trivial rfl (by decide) s w hsz (.inr ⟨hz, hp⟩)).mono fun e w' ⟨he, hb⟩ => ⟨_, he, World.ownsRow_nil _ _ _ _, hb⟩
    · exact rows_fit Fence.wide 3 trivial trivial trivial trivial rfl (Nat.le_refl _) s w hz hp
  · have hf : fitsB s.data.toList = false := by
      unfold fitsB
      rw [dlen, decide_eq_false hz, Bool.false_and, Bool.false_and, Bool.false_and]
    have hr : rowsR s.data.toList = [] := by unfold rowsR; rw [if_neg (by rw [hf]; decide)]
    rw [hf, hr]
    exact (rows_no Fence.wide 3 trivial trivial rfl (by decide) s w hsz (.inl (by omega))).mono fun e w' ⟨he, hb⟩ => ⟨_, he, World.ownsRow_nil _ _ _ _, hb⟩
end Go.Proofs.Ytjmfhdnckgelaaa
