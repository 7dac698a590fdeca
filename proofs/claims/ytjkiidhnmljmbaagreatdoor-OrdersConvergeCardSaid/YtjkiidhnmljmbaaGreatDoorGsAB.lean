/- Orders of every kind: the map of early orders. -/
import Derived.Test.YtjkiidhnmljmbaaGreatDoorGoL
import Derived.Test.YtjkiidhnmljmbaaGreatDoorOrGL
set_option linter.unusedVariables false
set_option linter.unusedSimpArgs false
namespace Go.Proofs.YtjkiidhnmljmbaaGreatDoor
open Go.RowKit Go.ChangeMaps
structure GP where
 o : GOd
 al : List (Int × Int)
def GP.A (p : GP) : Array Value := p.o.l.toArray
def idxG : List (Int × GP) → Int → Option (Nat × GP)
 | [], _ => none
 | p :: E, k => if k == p.1 then some (0, p.2) else (idxG E k).map fun q => (q.1 + 1, q.2)
def entsG (E : List (Int × GP)) : List (Value × Value) := E.map fun p => (.int .i64 p.1, .agg p.2.A)
def MapG (W : World) (m : Nat) (E : List (Int × GP)) : Prop := ∃ es clk, W.heap[m]? = some (.map es clk) ∧ es.toList.map (fun e => (e.key, e.val)) = entsG E
theorem MapG.lt {W : World} {m : Nat} {E : List (Int × GP)} (h : MapG W m E) : m < W.heap.size := by
 obtain ⟨es, clk, h1, _⟩ := h
 exact (Array.getElem?_eq_some_iff.1 h1).1
theorem MapG.kept {W W' : World} {m : Nat} {E : List (Int × GP)} (h : MapG W m E) (e : W'.heap[m]? = W.heap[m]?) : MapG W' m E := by
 obtain ⟨es, clk, h1, h2⟩ := h
 exact ⟨es, clk, e.trans h1, h2⟩
theorem MapG.isMap {W : World} {m : Nat} {E : List (Int × GP)} (h : MapG W m E) {o : Obj} (ho : W.heap[m]? = some o) : o.isCells = false := by
 obtain ⟨es, clk, h1, h2⟩ := h
 rw [h1] at ho
 cases ho
 rfl
theorem findG_int (k : Int) : ∀ (E : List (Int × GP)) (es : List MapEntry) (i : Nat), es.map (fun e => (e.key, e.val)) = entsG E →
  Instr.findNow (.int .i64) (.int .i64 k) es i = some ((idxG E k).map fun q => (i + q.1, .agg q.2.A))
 | [], [], i, _ => rfl
 | [], _ :: _, _, h => by simp [entsG] at h
 | _ :: _, [], _, h => by simp [entsG] at h
 | p :: E, e :: es, i, h => by
  simp only [entsG, List.map_cons, List.cons.injEq, Prod.mk.injEq] at h
  obtain ⟨⟨h1, h2⟩, h3⟩ := h
  unfold Instr.findNow
  rw [h1, h2]
  simp only [Instr.sameNow, if_pos]
  by_cases hk : k = p.1
  ·subst hk
   simp [idxG]
  ·have hb : (k == p.1) = false := beq_eq_false_iff_ne.2 hk
   rw [hb]
   simp only [idxG, hb]
   rw [findG_int k E es (i + 1) h3]
   cases idxG E k with
   | none => rfl
   | some q => simp; omega
theorem idxG_lt {k : Int} : ∀ {E : List (Int × GP)} {j : Nat} {o : GP}, idxG E k = some (j, o) → E[j]? = some (k, o)
 | [], _, _, h => by simp [idxG] at h
 | p :: E, j, o, h => by
  unfold idxG at h
  by_cases hk : k = p.1
  ·subst hk
   simp at h
   obtain ⟨rfl, rfl⟩ := h
   rfl
  ·rw [if_neg (by rw [beq_iff_eq]; exact hk)] at h
   cases hq : idxG E k with
   | none => rw [hq] at h; simp at h
   | some q =>
    rw [hq] at h
    simp at h
    obtain ⟨rfl, rfl⟩ := h
    exact idxG_lt (j := q.1) (o := q.2) hq
section
variable {W : World} {m : Nat} {E : List (Int × GP)} (h : MapG W m E) (k : Int)
include h
theorem lookG_hit {j : Nat} {o : GP} (hi : idxG E k = some (j, o)) : (Instr.lookup 113 (.map (some m)) (.int .i64 k) true).run Tryz.prog W = .ok (.tuple #[.agg o.A, .bool true]) W := by
 obtain ⟨es, clk, h1, h2⟩ := h
 have hf := findG_int k E es.toList 0 h2
 rw [hi] at hf
 simp only [Option.map_some] at hf
 simp [Instr.lookup, run_underlying Tryz.underlying113, MapKept.run_getObj_map h1, MapKept.run_checkKey (w := W) Tryz.underlying3 (show MapKept.IsKey (.int .i64) (.int .i64 k) from rfl), MapKept.run_findKey Tryz.underlying3 hf, Result.andThen]
theorem lookG_miss (hi : idxG E k = none) : (Instr.lookup 113 (.map (some m)) (.int .i64 k) true).run Tryz.prog W = .ok (.tuple #[.agg (ordA 0 0 0 0 0), .bool false]) W := by
 obtain ⟨es, clk, h1, h2⟩ := h
 have hf := findG_int k E es.toList 0 h2
 rw [hi] at hf
 simp only [Option.map_none] at hf
 have hz : (zeroValue 30).run Tryz.prog W = .ok (.agg (ordA 0 0 0 0 0)) W := by kernel_rfl
 simp [Instr.lookup, run_underlying Tryz.underlying113, MapKept.run_getObj_map h1, MapKept.run_checkKey (w := W) Tryz.underlying3 (show MapKept.IsKey (.int .i64) (.int .i64 k) from rfl), MapKept.run_findKey Tryz.underlying3 hf, hz, Result.andThen]
theorem setG_map (o : Obj) : Fr (fun c => c = m) W (setBlock W m o) ∧ (setBlock W m o).heap[m]? = some o := by
 obtain ⟨es, clk, h1, h2⟩ := h
 refine ⟨⟨rfl, rfl, rfl, by simp [setBlock], fun c hc hn => ?_⟩, (MapKept.heap_set (o' := o) h1).1⟩
 exact (MapKept.heap_set (o' := o) h1).2 c hn
theorem putG_miss (o : GP) (hi : idxG E k = none) : ∃ w', (Instr.mapUpdate 113 (.map (some m)) (.int .i64 k) (.agg o.A)).run Tryz.prog W = .ok () w' ∧ MapG w' m (E ++ [(k, o)]) ∧ Fr (fun c => c = m) W w' := by
 have hs := fun o => setG_map h o
 obtain ⟨es, clk, h1, h2⟩ := h
 have hf := findG_int k E es.toList 0 h2
 rw [hi] at hf
 simp only [Option.map_none] at hf
 refine ⟨setBlock W m (.map (es.push { key := .int .i64 k, val := .agg o.A, born := clk }) (clk + 1)), ?_, ⟨_, _, (hs _).2, ?_⟩, (hs _).1⟩
 ·simp [Instr.mapUpdate, run_underlying Tryz.underlying113, MapKept.run_getObj_map h1, MapKept.run_checkKey (w := W) Tryz.underlying3 (show MapKept.IsKey (.int .i64) (.int .i64 k) from rfl), MapKept.run_findKey Tryz.underlying3 hf, MapKept.run_setObj_map _ h1, Result.andThen, setBlock]
 ·simp only [Array.toList_push, List.map_append, h2, entsG, List.map_cons, List.map_nil]
theorem delG_hit {j : Nat} {o : GP} (hi : idxG E k = some (j, o)) : ∃ w', (∀ ty, (Builtin.delete_ #[113, 3] ty #[.map (some m), .int .i64 k]).run Tryz.prog W = .ok (.tuple #[]) w') ∧ MapG w' m (E.eraseIdx j) ∧ Fr (fun c => c = m) W w' := by
 have hs := fun o => setG_map h o
 obtain ⟨es, clk, h1, h2⟩ := h
 have hf := findG_int k E es.toList 0 h2
 rw [hi] at hf
 simp only [Option.map_some, Nat.zero_add] at hf
 have hjl : j < es.size := by
  have hl := congrArg List.length h2
  simp only [List.length_map, entsG, Array.length_toList] at hl
  rw [hl]
  exact (List.getElem?_eq_some_iff.1 (idxG_lt hi)).1
 have hsub : (es.eraseIdxIfInBounds j).toList = es.toList.eraseIdx j := by
  unfold Array.eraseIdxIfInBounds
  rw [dif_pos hjl]
  simp
 refine ⟨setBlock W m (.map (es.eraseIdxIfInBounds j) clk), fun ty => ?_, ⟨_, _, (hs _).2, ?_⟩, (hs _).1⟩
 ·simp [Builtin.delete_, run_underlying Tryz.underlying113, MapKept.run_getObj_map h1, MapKept.run_checkKey (w := W) Tryz.underlying3 (show MapKept.IsKey (.int .i64) (.int .i64 k) from rfl), MapKept.run_findKey Tryz.underlying3 hf, MapKept.run_setObj_map _ h1, Result.andThen, setBlock]
 ·rw [hsub, map_eraseIdx, h2]
  unfold entsG
  rw [map_eraseIdx]
end
attribute [local go_sem] Oper.semAt_some
def gCells (l : List GP) : List Value := l.flatMap fun p => p.o.l
structure GAt (W : World) (B br m : Nat) (vo : Value) (p : GP) : Prop where
 len : p.al.length = p.o.an
 few : p.o.an ≤ 1000000
 rd : RdA W p.o.ao p.al
 own : p.al ≠ [] → ∀ a, p.o.ao = some a → B ≤ a.block ∧ a.block < W.heap.size ∧ a.block ≠ br ∧ a.block ≠ m ∧ vo.ownBlock ≠ some a.block
theorem GAt.turn {W W' : World} {B br m : Nat} {vo vo' : Value} {p : GP} (h : GAt W B br m vo p) {S : Nat → Prop} (hf : Fr S W W') (hS : p.al ≠ [] → ∀ a, p.o.ao = some a → ¬ S a.block) (hv : ∀ c, vo'.ownBlock = some c → vo.ownBlock = some c ∨ W.heap.size ≤ c) : GAt W' B br m vo' p := by
 refine ⟨h.len, h.few, ?_, fun hn a e => ?_⟩
 ·by_cases hn : p.al = []
  ·exact .inl hn
  ·exact h.rd.keptB hf.size (fun b o e hlt => hf.block b hlt (hS hn _ e))
 ·obtain ⟨h1, h2, h3, h4, h5⟩ := h.own hn a e
  exact ⟨h1, Nat.lt_of_lt_of_le h2 hf.size, h3, h4, fun e => (hv _ e).elim (fun e => h5 e) (fun e => by omega)⟩
structure RcG (W : World) (B br : Nat) (tn : Int) (vo : Value) (l : List GP) (m : Nat) (E : List (Int × GP)) : Prop where
 blk : Blk W br 115 [.int .i64 tn, .bool true, vo, .map (some m)]
 own : W.ownsRow B 30 26 vo l.length (gCells l)
 mp : MapG W m E
 ge : B ≤ br
 gem : B ≤ m
 ne : ∀ g, vo.ownBlock = some g → g ≠ br
 alts : ∀ p, p ∈ l ∨ p ∈ E.map (fun x => x.2) → GAt W B br m vo p
section
variable {W W' : World} {B br m : Nat} {tn : Int} {vo : Value} {l : List GP} {E E' : List (Int × GP)}
theorem RcG.brm (h : RcG W B br tn vo l m E) : br ≠ m := fun e => by
 subst e
 have h1 := h.mp.isMap h.blk
 cases h1
theorem RcG.rowm (h : RcG W B br tn vo l m E) (g : Nat) (hg : vo.ownBlock = some g) : g ≠ m := fun e => by
 subst e
 rcases h.own.2 with ⟨h2, _⟩ | ⟨g', cap, cur, h2, _, h3, _⟩
 ·rw [h2] at hg
  simp [Value.ownBlock] at hg
 ·rw [h2] at hg
  simp [Value.ownBlock] at hg
  subst hg
  have h1 := h.mp.isMap h3
  cases h1
theorem RcG.turn (h : RcG W B br tn vo l m E) {S : Nat → Prop} (hf : Fr S W W') (hS : ∀ c, S c → c ≠ br ∧ c ≠ m ∧ vo.ownBlock ≠ some c) (hA : ∀ p, p ∈ l ∨ p ∈ E.map (fun x => x.2) → p.al ≠ [] → ∀ a, p.o.ao = some a → ¬ S a.block) : RcG W' B br tn vo l m E :=
 ⟨h.blk.kept (hf.block _ h.blk.lt (fun hs => (hS _ hs).1 rfl)), ownsRow_keptF h.own (fun g e => hf.block g (own_lt h.own g e) (fun hs => (hS g hs).2.2 e)), h.mp.kept (hf.block _ h.mp.lt (fun hs => (hS _ hs).2.1 rfl)), h.ge, h.gem, h.ne, fun p hp => (h.alts p hp).turn hf (hA p hp) (fun c e => .inl e)⟩
theorem RcG.below (h : RcG W B br tn vo l m E) (hb : Below W.heap.size W W') : RcG W' B br tn vo l m E := h.turn (Fr.under (fun _ => False) hb) (fun _ e => e.elim) (fun _ _ _ _ _ e => e)
theorem RcG.put (h : RcG W B br tn vo l m E) (hm : MapG W' m E') (hf : Fr (fun c => c = m) W W') (hE : ∀ p, p ∈ E'.map (fun x => x.2) → p ∈ E.map (fun x => x.2) ∨ GAt W B br m vo p) : RcG W' B br tn vo l m E' :=
 ⟨h.blk.kept (hf.block _ h.blk.lt h.brm), ownsRow_keptF h.own (fun g e => hf.block g (own_lt h.own g e) (h.rowm g e)), hm, h.ge, h.gem, h.ne, fun p hp =>
  have ha : GAt W B br m vo p := hp.elim (fun hp => h.alts p (.inl hp)) (fun hp => (hE p hp).elim (fun hp => h.alts p (.inr hp)) id)
  ha.turn hf (fun hn a e => (ha.own hn a e).2.2.2.1) (fun c e => .inl e)⟩
theorem RcG.app {ob : Option Addr} {cb n : Nat} {q : GP} (h : RcG W B br tn vo l m E) (hn : l.length = n) (ho : W'.ownsRow B 30 26 (.slice ob (n + 1) cb) (n + 1) (gCells l ++ q.A.toList)) (hf : Fr (fun c => vo.ownBlock = some c) W W') (hnew : ∀ c, (Value.slice ob (n + 1) cb).ownBlock = some c → vo.ownBlock = some c ∨ W.heap.size ≤ c) (hq : q ∈ E.map (fun x => x.2)) :
  RcG (W'.setCell ⟨br, 2, none⟩ (.slice ob (n + 1) cb)) B br tn (.slice ob (n + 1) cb) (l ++ [q]) m E := by
 subst hn
 have hne : ∀ c, (Value.slice ob (l.length + 1) cb).ownBlock = some c → c ≠ br := fun c e => (hnew c e).elim (fun e => h.ne c e) (fun e => by have := h.blk.lt; omega)
 refine ⟨(h.blk.kept (hf.block _ h.blk.lt (fun e => h.ne _ e rfl))).set 2 _, ?_, (h.mp.kept (hf.block _ h.mp.lt (fun e => h.rowm _ e rfl))).kept (Below.heap_setCell _ _ _ _ (fun e => h.brm e.symm)), h.ge, h.gem, hne, fun p hp => ?_⟩
 ·have e : gCells l ++ q.A.toList = gCells (l ++ [q]) := by simp [gCells, GP.A]
  rw [List.length_append, ← e]
  exact ownsRow_keptF ho (fun c e => Below.heap_setCell _ _ _ _ (hne c e))
 ·have ha : GAt W B br m vo p := by
   rcases hp with hp | hp
   ·rcases List.mem_append.1 hp with hp | hp
    ·exact h.alts p (.inl hp)
    ·rw [List.mem_singleton.1 hp]
     exact h.alts q (.inr hq)
   ·exact h.alts p (.inr hp)
  exact ha.turn (S := fun c => vo.ownBlock = some c ∨ c = br) ((hf.mono (fun c h => Or.inl h)).setCell ⟨br, 2, none⟩ _ (.inl (.inr rfl))) (fun hn a e => (fun hs => hs.elim (ha.own hn a e).2.2.2.2 (ha.own hn a e).2.2.1)) (fun c e => hnew c e)
end
def putG (l : List GP) (E : List (Int × GP)) (sq : Int) (o : GP) : List (Int × GP) :=
 match idxG E sq with
 | some _ => E
 | none => if (l.length : Int) < sq then E ++ [(sq, o)] else E
def advG : Nat → List GP → List (Int × GP) → List GP × List (Int × GP)
 | 0, l, E => (l, E)
 | n + 1, l, E => match idxG E ((l.length : Int) + 1) with
  | none => (l, E)
  | some q => advG n (l ++ [q.2]) (E.eraseIdx q.1)
theorem advG_none (l : List GP) (E : List (Int × GP)) (n : Nat) (h : idxG E ((l.length : Int) + 1) = none) : advG n l E = (l, E) := by
 cases n with
 | zero => rfl
 | succ n => simp only [advG, h]
theorem advG_some (l : List GP) (E : List (Int × GP)) (j : Nat) (o : GP) (h : idxG E ((l.length : Int) + 1) = some (j, o)) : advG E.length l E = advG (E.eraseIdx j).length (l ++ [o]) (E.eraseIdx j) := by
 have hj := (List.getElem?_eq_some_iff.1 (idxG_lt h)).1
 obtain ⟨n, hn⟩ : ∃ n, E.length = n + 1 := ⟨E.length - 1, by omega⟩
 rw [List.length_eraseIdx, if_pos hj, hn]
 simp only [advG, h, Nat.add_sub_cancel]
theorem MapG.sz {W : World} {m : Nat} {E : List (Int × GP)} (h : MapG W m E) : mapSz W m = E.length := by
 obtain ⟨es, clk, h1, h2⟩ := h
 have hl := congrArg List.length h2
 simp only [List.length_map, entsG, Array.length_toList] at hl
 unfold mapSz
 rw [h1];exact hl
theorem lookG_any (E : List (Int × GP)) (k : Int) : ∃ (oo : Array Value) (ok : Bool), ok = (idxG E k).isSome ∧ oo.size = 26 ∧ oo.all (·.oneCell') = true ∧ (∀ q, idxG E k = some q → oo = q.2.A) ∧ ∀ (W : World) (m : Nat), MapG W m E → (Instr.lookup 113 (.map (some m)) (.int .i64 k) true).run Tryz.prog W = .ok (.tuple #[.agg oo, .bool ok]) W := by
 cases h : idxG E k with
 | none => exact ⟨ordA 0 0 0 0 0, false, rfl, rfl, by unfold ordA; simp [Value.oneCell'], (fun q e => by cases e), fun W m hm => lookG_miss hm k h⟩
 | some q =>
  obtain ⟨j, o⟩ := q
  exact ⟨o.A, true, rfl, rfl, o.o.oneC, (fun q e => by cases e; rfl), fun W m hm => lookG_hit hm k h⟩
def TakenG (mo : MOd) (al : List (Int × Int)) (q : GP) : Prop := q.al = al ∧ ∃ oa ac, q.o = mo.o.withA oa ac
def RecvG (W : World) (B br : Nat) (tn : Int) (vo : Value) (l : List GP) (m : Nat) (E : List (Int × GP)) (mo : MOd) (al : List (Int × Int)) (e : Ending) (w' : World) : Prop :=
 ∃ q vo' ob l' E', TakenG mo al q ∧ (l', E') = advG (putG l E mo.sq q).length l (putG l E mo.sq q) ∧ e = .returned (.slice (some ⟨ob, 0, none⟩) 1 1) ∧ Blk w' ob 32 (msgA 2 tn (l'.length : Int) 0 0 0 0 0 0 0).toList ∧ W.heap.size ≤ ob ∧ RcG w' B br tn vo' l' m E' ∧ Fr (fun c => c = br ∨ c = m ∨ vo.ownBlock = some c) W w' ∧ (∀ c, vo'.ownBlock = some c → vo.ownBlock = some c ∨ W.heap.size ≤ c) ∧ (putG l E mo.sq q = E ∨ ∀ a, q.o.ao = some a → W.heap.size ≤ a.block)
set_option maxHeartbeats 8000000 in
set_option maxRecDepth 100000 in
theorem gRecv (W : World) (B br : Nat) (tn : Int) (vo : Value) (l : List GP) (m : Nat) (E : List (Int × GP)) (mo : MOd) (al : List (Int × Int)) (h : RcG W B br tn vo l m E) (hna : al.length = mo.o.an) (hlm : mo.o.an ≤ 1000000) (hr : RdA W mo.o.ao al) (hts : mo.o.txt.size ≤ maxLen) (htk : ((mo.kd == 1) && ((mo.tn == tn) && okM mo al)) = true) (hlE : l.length + E.length ≤ 1000) :
  Calls Tryz.prog 21 #[.pointer (some ⟨br, 0, none⟩), .agg mo.l.toArray] W (RecvG W B br tn vo l m E mo al) := by
 obtain ⟨N, w1, hN, hw1, hb1, hk1⟩ := bx W (aM mo) mo.l 32 rfl
 have hrd : RdA w1 mo.o.ao al := hr.kept (by rw [hN]; exact hb1)
 have hs1 : RcG w1 B br tn vo l m E := h.below (by rw [hN]; exact hb1)
 obtain ⟨n, hn⟩ : ∃ n, l.length = n := ⟨_, rfl⟩
 obtain ⟨ov, cv, rfl⟩ := own_slice h.own
 obtain ⟨P, hP⟩ : ∃ P, w1.heap.size = P := ⟨_, rfl⟩
 have hNP : N < P := by rw [← hP]; exact hk1.lt
 have up : ∀ W', Below P w1 W' → RcG W' B br tn (.slice ov l.length cv) l m E := fun W' hW => hs1.below (by rw [hP]; exact hW)
 have upm : ∀ W', Below P w1 W' → Blk W' N 32 mo.l := fun W' hW => hk1.kept (hW.block N hNP)
 obtain ⟨oo, ok, hok, hoz, ho1, _, hlk⟩ := lookG_any E mo.sq
 have HNW : Hid (∀ z, Below P w1 z → ∀ q : GP, q.al.length = q.o.an → q.o.an ≤ 1000000 → RdA z q.o.ao q.al → (∀ a, q.o.ao = some a → P ≤ a.block) → ∀ p, p ∈ (E ++ [(mo.sq, q)]).map (fun x => x.2) → p ∈ E.map (fun x => x.2) ∨ GAt z B br m (.slice ov l.length cv) p) := fun z hz q h1 h2 h3 h4 p hp => by
  rw [List.map_append, List.mem_append] at hp
  rcases hp with hp | hp
  ·exact .inl hp
  ·have e : p = q := by simpa using hp
   subst e
   refine .inr ⟨h1, h2, h3, fun hn a e => ?_⟩
   have h5 := h4 a e
   have b1 := hs1.blk.lt
   have b2 := hs1.mp.lt
   have b3 := hs1.ge
   refine ⟨by omega, ?_, by omega, by omega, fun e => ?_⟩
   ·rcases h3 with h3 | ⟨b, o, h6, h7, _⟩
    ·exact absurd h3 hn
    ·rw [h6] at e
     cases e
     exact h7
   ·have := own_lt hs1.own _ e
    omega
 have HRU := Lib.hid up
 have HK1 : Hid (∀ W, Below P w1 W → W.rangeAt N 0 mo.l ∧ W.cell? ⟨br, 0, none⟩ = some (.int .i64 tn)) := fun W' hW => ⟨(upm W' hW).range, (up W' hW).blk.cell 0⟩
 have HK3 : Hid (∀ W, Below P w1 W → W.cell? ⟨br, 3, none⟩ = some (.map (some m)) ∧ W.cell? ⟨N, 2, none⟩ = some (.int .i64 mo.sq) ∧ (Instr.lookup 113 (.map (some m)) (.int .i64 mo.sq) true).run Tryz.prog W = .ok (.tuple #[.agg oo, .bool ok]) W) := fun W' hW => ⟨(up W' hW).blk.cell 3, (upm W' hW).cell 2, hlk W' m (up W' hW).mp⟩
 have HK4 : Hid (∀ W, Below P w1 W → W.cell? ⟨N, 2, none⟩ = some (.int .i64 mo.sq) ∧ W.cell? ⟨br, 2, none⟩ = some (.slice ov n cv)) := fun W' hW => ⟨(upm W' hW).cell 2, by rw [← hn]; exact (up W' hW).blk.cell 2⟩
 have HK5 : Hid (∀ W, Below P w1 W → W.cell? ⟨br, 3, none⟩ = some (.map (some m)) ∧ W.cell? ⟨N, 2, none⟩ = some (.int .i64 mo.sq) ∧ W.rangeAt N 5 mo.o.l) := fun W' hW => ⟨(up W' hW).blk.cell 3, (upm W' hW).cell 2, (upm W' hW).rangeO 5 rfl⟩
 have HKM : Hid (∀ q zp, RcG zp B br tn (.slice ov l.length cv) l m (E ++ [(mo.sq, q)]) → ∀ {z : World}, Fr (fun c => c = m) z zp → Below P w1 z → zp.cell? ⟨br, 3, none⟩ = some (.map (some m)) ∧ zp.cell? ⟨N, 2, none⟩ = some (.int .i64 mo.sq) ∧ zp.rangeAt N 5 mo.o.l) := fun q zp hr z hf hb => by
  have hN9 : N ≠ m := fun e => by
   have := hs1.mp.isMap (e ▸ hk1)
   cases this
  have hk := (upm z hb).kept (hf.block N (upm z hb).lt hN9)
  exact ⟨hr.blk.cell 3, hk.cell 2, hk.rangeO 5 rfl⟩
 have HLV : Hid (∀ W', Below P w1 W' → _) := fun W' hW => rlives_any br _ _ _ W' (up W' hW).blk
 have HTK := Lib.hid (fun W' (hW : Below P w1 W') => by
  have := gTakes mo al tn 1 W' hna hlm (hrd.kept (by rw [hP]; exact hW)) hts
  rw [htk] at this
  exact this : ∀ W', Below P w1 W' → _)
 have HRD : Hid (RdA w1 mo.o.ao al) := hrd
 have HSM := szM
 have HSZ := szO
 have HOK := Lib.hid hok;have HOZ := Lib.hid hoz;have HO1 := Lib.hid ho1;have HN := Lib.hid hN;have HP := Lib.hid hP;have HB1 := Lib.hid hb1;have HNP := Lib.hid hNP;have HLN := Lib.hid hn;have HRW := Lib.hid h
 have HQ : Hid (Below P w1 w1) := Below.refl _ _
 have HLE := Lib.hid hlE
 show Calls Tryz.prog 21 #[.pointer (some ⟨br, 0, none⟩), .agg (aM mo)] W _
 clear hrd hr htk hb1 hk1 hs1 h up upm hn hP hok hoz ho1 hlk hNP hlE
 go_enter Tryz.func21, Tryz.ntmps21
 go_upto_region 1 with (fail)
 go_step3
 go_upto_region 1 with (fail)
 refine wp_region_held_drew (S := fun W => W.rangeAt N 0 mo.l ∧ W.cell? ⟨br, 0, none⟩ = some (.int .i64 tn)) (by kernel_rfl) ?_ (fun hHeld => ?_)
 ·exact HK1.out _ HQ.out.drew
 have hQ1 := HQ.out.drew
 generalize World.drew _ = z at hQ1 hHeld ⊢
 have HQ := Lib.hid hQ1;clear hQ1;refine tk 0 (some 10) ?_
 refine rd1 1 (some 11) (fun K hK => ?_)
 go_simp
 refine (HLV.out _ HQ.out).mono ?_
 rintro e w' ⟨rfl, rfl⟩;go_simp
 refine hK.out _ _ ?_ (fun hHeld2 => ?_)
 ·exact HK1.out _ HQ.out
 clear hK K hHeld;rename _ => hHeld;refine tk 2 (some 12) ?_;refine tk 3 (some 13) ?_;refine tk 4 (some 14) ?_;refine tk 5 (some 15) ?_;refine tk 6 (some 16) ?_;refine tk 7 (some 17) ?_
 refine tkL 8 (some 18) 32 (.tmp 3) N 0 mo.l (fun _ h => h.1) Tryz.underlying32 HSM.out ?_
 refine rd1 9 (some 19) (fun K hK => ?_)
 go_simp
 refine (HTK.out _ HQ.out).mono ?_
 rintro e z ⟨rfl, hbz⟩
 have HQ : Hid (Below P w1 z) := HQ.out.trans (hbz.mono (bnl9 HP.out HQ.out))
 clear hbz;go_simp
 refine hK.out _ _ ?_ (fun hHeld2 => ?_)
 ·exact HK1.out _ HQ.out
 clear hK K hHeld;rename _ => hHeld;refine tk 10 (some 20) ?_;refine tk 11 (some 21) ?_;refine wpAnyH_done (by kernel_rfl) ?_ _;clear hHeld
 go_upto_region 3 with (fail)
 have HQD : Hid (Below P w1 _) := HQ.out.drew
 refine wp_region_held_drew (S := fun W => W.cell? ⟨br, 3, none⟩ = some (.map (some m)) ∧ W.cell? ⟨N, 2, none⟩ = some (.int .i64 mo.sq) ∧ (Instr.lookup 113 (.map (some m)) (.int .i64 mo.sq) true).run Tryz.prog W = .ok (.tuple #[.agg oo, .bool ok]) W) (by kernel_rfl) ?_ (fun hHeld => ?_)
 ·exact HK3.out _ HQD.out
 have hQ3 := HQD.out
 generalize World.drew _ = z at hQ3 hHeld ⊢
 have HQ := Lib.hid hQ3;clear hQ3;refine tk 0 (some 23) ?_;refine tk 1 (some 24) ?_;refine tk 2 (some 25) ?_;refine tk 3 (some 26) ?_;refine tk 4 (some 27) ?_;refine tk 5 (some 28) ?_
 refine wpAnyH_take (i := 6) (oi := ⟨some 29, _, _, _, _, _⟩) (v := .tuple #[.agg oo, .bool ok]) rfl (by kernel_rfl) (by kernel_rfl) (by kernel_rfl) (fun _ _ _ h => h) (yieldsIf_lookup (by rfl) 113 (.tmp 26) (.tmp 28) rfl (.map (some m)) (.int .i64 mo.sq) _ rfl rfl (fun _ h => h.2.2)) (by assumption) ?_
 refine tk 7 (some 22) ?_;refine tk 8 (some 30) ?_;refine tk 9 (some 31) ?_
 refine rd1 10 (some 5) (fun K hK => ?_)
 go_simp
 obtain ⟨ob, hob⟩ : ∃ ob, z.heap.size = ob := ⟨_, rfl⟩
 have HOB : Hid (P ≤ ob) := (by rw [← hob]; exact bnl9 HP.out HQ.out : P ≤ ob)
 have HM : Hid (Blk _ ob 30 lZo) := (by rw [← hob]; exact Blk.new z _ _ : Blk (z.alloc (.cells aZo 30)) ob 30 lZo)
 have hbz : Below P w1 (z.alloc (.cells aZo 30)) := HQ.out.alloc (bnl9 HP.out HQ.out) _
 obtain ⟨z2, hz2⟩ : ∃ z2, z.alloc (.cells aZo 30) = z2 := ⟨_, rfl⟩
 rw [hz2] at HM hbz ⊢
 rw [hob];have HQ := Lib.hid hbz;clear hz2 hbz hob
 obtain ⟨z, rfl⟩ : ∃ z, z = z2 := ⟨_, rfl⟩
 refine hK.out _ _ ?_ (fun hHeld2 => ?_)
 ·exact HK3.out _ HQ.out
 clear hK K hHeld;rename _ => hHeld
 try simp only [Act.put, sa, sz, ss]
 refine rd1 11 none (fun K hK => ?_)
 refine step_storeRow (by rfl) 30 (.tmp 5) (.tmp 30) (by rfl) ob 30 _ oo (by rfl) (by rfl) HM.out (show oo.size ≤ 26 by rw [HOZ.out]; exact Nat.le_refl _) (by rw [HOZ.out]; exact HSZ.out) HO1.out ?_
 have HQ : Hid (Below P w1 _) := ((Fr.setCells ob oo.toList 0 (Fr.of_below HQ.out) (.inl HOB.out)).below P (Nat.le_of_eq HP.out.symm) (fun _ h => h))
 generalize World.setCells _ _ _ _ = z at HQ ⊢
 refine hK.out _ _ ?_ (fun hHeld2 => ?_)
 ·exact HK3.out _ HQ.out
 clear hK K hHeld;rename _ => hHeld;refine tk 12 (some 6) ?_;refine wpAnyH_done (by kernel_rfl) ?_ _;clear hHeld
 simp only [Exit.then]
 apply_assumption
 clear HLV HTK HK1 HK3 HO1 HM HOB HSM
 go_cut [43] from 32 to 52 (fun v wx => BoolV v ∧ ∃ q : GP, Hid (TakenG mo al q) ∧ Hid (RcG wx B br tn (.slice ov l.length cv) l m (putG l E mo.sq q)) ∧ Hid (Fr (fun c => c = m) w1 wx) ∧ Hid (putG l E mo.sq q = E ∨ ∀ a, q.o.ao = some a → P ≤ a.block))
 case first =>
  cases ok with
  | true =>
   go_upto_region 4 with (fail)
   have HPE : Hid (∀ q, putG l E mo.sq q = E) := by
    intro q
    have := HOK.out
    unfold putG
    cases hx : idxG E mo.sq with
    | none => rw [hx] at this; cases this
    | some q => rfl
   refine wp_region_held_drew (S := fun W => W.cell? ⟨N, 2, none⟩ = some (.int .i64 mo.sq) ∧ W.cell? ⟨br, 2, none⟩ = some (.slice ov n cv)) (by kernel_rfl) ?_ (fun hHeld => ?_)
   ·exact HK4.out _ HQ.out.drew
   have hQ4 := HQ.out.drew
   generalize World.drew _ = z at hQ4 hHeld ⊢
   have HQ := Lib.hid hQ4;clear hQ4;refine tk 0 (some 32) ?_;refine tk 1 (some 33) ?_;refine tk 2 (some 34) ?_;refine tkU 3 (some 35) ?_;refine tkU 4 (some 36) ?_;refine tkU 5 (some 37) ?_;refine tkU 6 (some 38) ?_;refine tkU 7 (some 39) ?_;refine tkU 8 (some 40) ?_;refine tkU 9 (some 41) ?_
   refine tkU 10 (some 42) ?_;refine tk 11 (some 43) ?_;refine wpAnyH_done (by kernel_rfl) ?_ _;clear hHeld
   go_wp2_with fail
   go_meet
   exact ⟨⟨_, rfl⟩, ⟨mo.o, al⟩, ⟨rfl, mo.o.ao, mo.o.ac, rfl⟩, by rw [HPE.out]; exact HRU.out _ HQ.out, Fr.under _ (by rw [HP.out]; exact HQ.out), .inl (HPE.out _)⟩
  | false =>
   have HIX : Hid (idxG E mo.sq = none) := by
    have := HOK.out
    cases hx : idxG E mo.sq with
    | none => rfl
    | some q => rw [hx] at this; cases this
   go_upto_region 4 with (fail)
   by_cases hgt : mo.sq > (n : Int)
   ·have HPE : Hid (∀ q, putG l E mo.sq q = E ++ [(mo.sq, q)]) := by
     intro q
     unfold putG
     rw [HIX.out]
     dsimp only
     rw [HLN.out, if_pos (by omega)]
    refine wp_region_held_drew (S := fun W => W.cell? ⟨N, 2, none⟩ = some (.int .i64 mo.sq) ∧ W.cell? ⟨br, 2, none⟩ = some (.slice ov n cv)) (by kernel_rfl) ?_ (fun hHeld => ?_)
    ·exact HK4.out _ HQ.out.drew
    have hQ4 := HQ.out.drew
    generalize World.drew _ = z at hQ4 hHeld ⊢
    have HQ := Lib.hid hQ4;clear hQ4;refine tk 0 (some 32) ?_;refine tk 1 (some 33) ?_;refine tk 2 (some 34) ?_;refine tk 3 (some 35) ?_;refine tk 4 (some 36) ?_;refine tk 5 (some 37) ?_;refine tk 6 (some 38) ?_;refine tk 7 (some 39) ?_;refine tk 8 (some 40) ?_;refine tk 9 (some 41) ?_
    refine tk 10 (some 42) (v := .bool true) ?_ (hy := by (intro w hSw; (try dsimp only at hSw); go_simp; (first | done | (with_reducible rfl) | exact (decide_eq_true hgt) | simpa using (decide_eq_true hgt))))
    refine tk 11 (some 43) ?_;refine wpAnyH_done (by kernel_rfl) ?_ _;clear hHeld
    go_upto_region 5 with (fail)
    refine wp_region_held_drew (S := fun W => W.cell? ⟨br, 3, none⟩ = some (.map (some m)) ∧ W.cell? ⟨N, 2, none⟩ = some (.int .i64 mo.sq) ∧ W.rangeAt N 5 mo.o.l) (by kernel_rfl) ?_ (fun hHeld => ?_)
    ·exact HK5.out _ HQ.out.drew
    have hQ5 := HQ.out.drew
    generalize World.drew _ = z at hQ5 hHeld ⊢
    have HQ := Lib.hid hQ5;clear hQ5;refine tk 0 (some 44) ?_;refine tk 1 (some 45) ?_;refine tk 2 (some 46) ?_;refine tk 3 (some 47) ?_;refine tk 4 (some 48) ?_;refine tk 5 (some 49) ?_;refine tk 6 (some 50) ?_
    refine tkL 7 (some 51) 30 (.tmp 50) N 5 mo.o.l (fun _ h => h.2.2) Tryz.underlying30 HSZ.out ?_
    refine rd1 8 (some 52) (fun K hK => ?_)
    go_simp
    refine (gOwn mo.o al _ hna hlm (HRD.out.kept (by rw [HP.out]; exact HQ.out))).mono ?_
    rintro e z ⟨oa9, ac9, rfl, hra9, hba9, hbz⟩
    have HBA : Hid (∀ a, oa9 = some a → P ≤ a.block) := fun a e => Nat.le_trans (bnl9 HP.out HQ.out) (hba9 a e)
    have HRA := Lib.hid hra9;clear hra9 hba9
    have HQ : Hid (Below P w1 z) := HQ.out.trans (hbz.mono (bnl9 HP.out HQ.out))
    clear hbz;go_simp
    refine hK.out _ _ ?_ (fun hHeld2 => ?_)
    ·exact HK5.out _ HQ.out
    clear hK K hHeld;rename _ => hHeld
    try simp only [Act.put, sa, sz, ss]
    refine rd1 9 none (fun K hK => ?_)
    obtain ⟨zp, hrun, hmp, hfp⟩ := putG_miss (HRU.out _ HQ.out).mp mo.sq ⟨mo.o.withA oa9 ac9, al⟩ HIX.out
    refine step_mapUpdate (by rfl) _ _ _ (by rfl) (by rfl) (by rfl) (by rfl) hrun ?_
    have HR5 := Lib.hid ((HRU.out _ HQ.out).put hmp hfp (HNW.out _ HQ.out ⟨mo.o.withA oa9 ac9, al⟩ hna hlm HRA.out HBA.out))
    have HF5 : Hid (Fr (fun c => c = m) w1 zp) := (Fr.under (fun c => c = m) (by rw [HP.out]; exact HQ.out)).trans hfp (fun _ _ h => h)
    clear hrun hmp
    refine hK.out _ _ ?_ (fun hHeld2 => ?_)
    ·exact HKM.out _ _ HR5.out hfp HQ.out
    clear hK K hHeld;rename _ => hHeld
    try simp only [Act.put, sa, sz, ss]
    refine wpAnyH_done (by kernel_rfl) ?_ _;clear hHeld
    go_wp2_with fail
    go_meet
    exact ⟨⟨_, rfl⟩, ⟨mo.o.withA oa9 ac9, al⟩, ⟨rfl, oa9, ac9, rfl⟩, by rw [HPE.out]; exact HR5.out, HF5.out, .inr HBA.out⟩
   ·have HPE : Hid (∀ q, putG l E mo.sq q = E) := by
     intro q
     unfold putG
     rw [HIX.out]
     dsimp only
     rw [HLN.out, if_neg (by omega)]
    refine wp_region_held_drew (S := fun W => W.cell? ⟨N, 2, none⟩ = some (.int .i64 mo.sq) ∧ W.cell? ⟨br, 2, none⟩ = some (.slice ov n cv)) (by kernel_rfl) ?_ (fun hHeld => ?_)
    ·exact HK4.out _ HQ.out.drew
    have hQ4 := HQ.out.drew
    generalize World.drew _ = z at hQ4 hHeld ⊢
    have HQ := Lib.hid hQ4;clear hQ4;refine tk 0 (some 32) ?_;refine tk 1 (some 33) ?_;refine tk 2 (some 34) ?_;refine tk 3 (some 35) ?_;refine tk 4 (some 36) ?_;refine tk 5 (some 37) ?_;refine tk 6 (some 38) ?_;refine tk 7 (some 39) ?_;refine tk 8 (some 40) ?_;refine tk 9 (some 41) ?_
    refine tk 10 (some 42) (v := .bool false) ?_ (hy := by (intro w hSw; (try dsimp only at hSw); go_simp; (first | done | (with_reducible rfl) | exact (decide_eq_false hgt) | simpa using (decide_eq_false hgt))))
    refine tk 11 (some 43) ?_;refine wpAnyH_done (by kernel_rfl) ?_ _;clear hHeld
    go_wp2_with fail
    go_meet
    exact ⟨⟨_, rfl⟩, ⟨mo.o, al⟩, ⟨rfl, mo.o.ao, mo.o.ac, rfl⟩, by rw [HPE.out]; exact HRU.out _ HQ.out, Fr.under _ (by rw [HP.out]; exact HQ.out), .inl (HPE.out _)⟩
 case rest =>
  obtain ⟨hbv, q9, HQ9, HR, HF, HNA⟩ := hcut
  clear hbv HQ HK4 HK5 HKM HRU
  obtain ⟨E0, hE0⟩ : ∃ E0, putG l E mo.sq q9 = E0 := ⟨_, rfl⟩
  have hE0l : l.length + E0.length ≤ 1001 := by
   have := HLE.out
   rw [← hE0]
   unfold putG
   split
   ·omega
   ·split
    ·rw [List.length_append, List.length_singleton]; omega
    ·omega
  rw [hE0] at HR;have HE0 := Lib.hid hE0;have HEL := Lib.hid hE0l;clear hE0 hE0l
  have HF0 : Hid (Fr (fun c => c = br ∨ c = m ∨ (Value.slice ov l.length cv).ownBlock = some c) w1 wc) := HF.out.mono (fun c h => .inr (.inl h))
  clear HF
  go_wp2_with fail
  go_step3
  go_wp2_with fail
  go_loopw [7] (fun _ wr => ∃ (vi : Value) (li : List GP) (Ei : List (Int × GP)), Hid (RcG wr B br tn vi li m Ei) ∧ Hid (advG Ei.length li Ei = advG E0.length l E0) ∧ Hid (li.length + Ei.length ≤ 1001) ∧ Hid (Fr (fun c => c = br ∨ c = m ∨ (Value.slice ov l.length cv).ownBlock = some c) w1 wr) ∧ Hid (∀ c, vi.ownBlock = some c → (Value.slice ov l.length cv).ownBlock = some c ∨ P ≤ c)) (fun _ wr => mapSz wr m)
  case atStart => exact ⟨_, l, E0, HR, rfl, HEL, HF0, fun c e => .inl e⟩
  case round =>
   clear HR HEL HF0
   obtain ⟨vi, li, Ei, HR, HA, HL, HF, HO⟩ := hrel
   obtain ⟨oi, ci, rfl⟩ := own_slice HR.out.own
   obtain ⟨k, hk⟩ : ∃ k, li.length = k := ⟨_, rfl⟩
   obtain ⟨ol, ok, hok, hoz, ho1, hoo, hlk⟩ := lookG_any Ei ((k : Int) + 1)
   have hlk2 := hlk wr m HR.out.mp
   have c2 := HR.out.blk.cell 2
   have c3 := HR.out.blk.cell 3
   simp only [gz, gs] at c2 c3
   rw [hk] at c2
   have hk9 : k ≤ 1001 := by have := HL.out; omega
   have q1 : (0 : Int) ≤ (k : Int) := by omega
   obtain ⟨b9, hb9⟩ : ∃ b9, wr.heap.size = b9 := ⟨_, rfl⟩
   obtain ⟨x1, hx1⟩ : ∃ x1, wr.alloc (.cells aZo 30) = x1 := ⟨_, rfl⟩
   have hk1 : Blk x1 b9 30 lZo := by rw [← hx1, ← hb9]; exact Blk.new wr _ _
   obtain ⟨x3, hx3⟩ : ∃ x3, x1.setRow b9 ol = x3 := ⟨_, rfl⟩
   have hk3 : Blk x3 b9 30 ol.toList := by rw [← hx3]; exact hk1.setRow ol.toList
   have hb3 : Below b9 wr x3 := by
    rw [← hx3, ← hx1, ← hb9]
    exact below_setRow ((Below.refl _ wr).alloc (Nat.le_refl _) _) (Nat.le_refl _) _
   have HSZ2 : Hid ((Tryz.prog.info? 30).map (·.size) = some ol.size) := (by rw [hoz]; exact HSZ.out : (Tryz.prog.info? 30).map (·.size) = some ol.size)
   have HOZ2 : Hid (aZo.size = ol.size) := (by rw [hoz]; rfl : aZo.size = ol.size)
   have HO12 := Lib.hid ho1
   have HNO : Hid (∀ c, (Value.slice oi k ci).ownBlock = some c → c < b9) := fun c e => by rw [← hb9]; exact own_lt HR.out.own c (by rw [hk]; exact e)
   have HBO : Hid (br ≠ b9) := (by have := HR.out.blk.lt; omega : br ≠ b9)
   have HR0 := HR
   have hr3 := HR.out.below (by rw [hb9]; exact hb3)
   rw [hk] at hr3;have HR := Lib.hid hr3
   have HF := Lib.hid (HF.out.trans (Fr.under (fun _ => False) (by rw [hb9]; exact hb3)) (fun _ _ e => e.elim))
   have HO : Hid (∀ c, (Value.slice oi k ci).ownBlock = some c → (Value.slice ov l.length cv).ownBlock = some c ∨ P ≤ c) := fun c e => HO.out c (by rw [hk]; exact e)
   have HK1 := Lib.hid hk1;have HX3 := Lib.hid hx3;have HKK := Lib.hid hk;have HKB0 := Lib.hid hk3;have HOO := Lib.hid hoo;have HOK := Lib.hid hok;clear hk1 hk3 hx3 hb3 hr3 hlk hoo hoz ho1 hok hk
   cases hix : idxG Ei ((k : Int) + 1) with
   | none =>
    have HIX := Lib.hid hix
    obtain rfl : ok = false := by rw [HOK.out, HIX.out]; rfl
    have HAE : Hid (advG E0.length l E0 = (li, Ei)) := (by rw [← HA.out]; exact advG_none li Ei _ (by rw [HKK.out]; exact HIX.out) : advG E0.length l E0 = (li, Ei))
    have HK11 : Hid (∀ z, RcG z B br tn (.slice oi k ci) li m Ei → z.cell? ⟨br, 0, none⟩ = some (.int .i64 tn) ∧ z.cell? ⟨br, 2, none⟩ = some (.slice oi k ci)) := fun z h => ⟨h.blk.cell 0, h.blk.cell 2⟩
    clear hix HOO HOK
    go_wp2_with (refine wpList_store_row rfl 30 (.tmp 8) (.tmp 66) rfl b9 ol rfl rfl 30 _ HK1.out HSZ2.out HOZ2.out HO12.out ?_; rw [HX3.out])
    clear hlk2 c2 c3
    try go_upto_region 11 with (fail)
    have HRD := Lib.hid (HR.out.below (Below.refl _ _).drew)
    refine wp_region_held_drew (S := fun W => W.cell? ⟨br, 0, none⟩ = some (.int .i64 tn) ∧ W.cell? ⟨br, 2, none⟩ = some (.slice oi k ci)) (by kernel_rfl) ?_ (fun hHeld => ?_)
    ·exact HK11.out _ HRD.out
    have hR11 := HRD.out
    have hF11 := HF.out.drew
    generalize World.drew _ = z at hR11 hF11 hHeld ⊢
    have HR := Lib.hid hR11;have HF := Lib.hid hF11;clear hR11 hF11;refine tk 0 (some 85) ?_;refine tk 1 (some 86) ?_;refine tk 2 (some 87) ?_;refine tk 3 (some 88) ?_;refine tk 4 (some 89) ?_;refine tk 5 (some 90) ?_;refine tk 6 (some 91) ?_;refine tk 7 (some 92) ?_;refine tk 8 (some 93) ?_
    refine rd1 9 (some 94) (fun K hK => ?_)
    go_simp
    refine (message_any tn 2 (k : Int) _).mono ?_
    rintro e z ⟨rfl, hbz⟩
    have HR := Lib.hid (HR.out.below hbz)
    have HF := Lib.hid (HF.out.trans (Fr.under (fun _ => False) hbz) (fun _ _ e => e.elim))
    clear hbz
    dsimp only [msgA]
    go_simp
    refine hK.out _ _ ?_ (fun hHeld2 => ?_)
    ·exact HK11.out _ HR.out
    clear hK K hHeld;rename _ => hHeld
    try simp only [Act.put, sa, sz, ss]
    refine rd1 10 (some 95) (fun K hK => ?_)
    go_simp
    obtain ⟨rb, hrb⟩ : ∃ rb, z.heap.size = rb := ⟨_, rfl⟩
    have HM : Hid (Blk _ rb 32 (lA tn (k : Int))) := (by rw [← hrb]; exact Blk.new z _ _ : Blk (z.alloc (.cells (aA tn (k : Int)) 32)) rb 32 (lA tn (k : Int)))
    have hbz : Below z.heap.size z (z.alloc (.cells (aA tn (k : Int)) 32)) := (Below.refl _ z).alloc (Nat.le_refl _) _
    have HRB : Hid (P ≤ rb) := (by rw [← hrb, ← HP.out]; exact HF.out.size : P ≤ rb)
    obtain ⟨z2, hz2⟩ : ∃ z2, z.alloc (.cells (aA tn (k : Int)) 32) = z2 := ⟨_, rfl⟩
    rw [hz2] at HM hbz ⊢
    rw [hrb]
    have HR := Lib.hid (HR.out.below hbz)
    have HF := Lib.hid (HF.out.trans (Fr.under (fun _ => False) hbz) (fun _ _ e => e.elim))
    clear hz2 hbz hrb
    obtain ⟨z, rfl⟩ : ∃ z, z = z2 := ⟨_, rfl⟩
    refine hK.out _ _ ?_ (fun hHeld2 => ?_)
    ·exact HK11.out _ HR.out
    clear hK K hHeld;rename _ => hHeld;refine tk 11 (some 4) ?_;refine wpAnyH_done (by kernel_rfl) ?_ _;clear hHeld
    go_wp2_with fail
    go_ret
    refine ⟨q9, _, rb, li, Ei, HQ9.out, by rw [HE0.out]; exact HAE.out.symm, rfl, by rw [HKK.out]; exact HM.out, by have := HRB.out; have := HNP.out; have := HN.out; omega, HR.out, (Fr.under _ (by rw [HN.out]; exact HB1.out)).trans HF.out (fun _ _ h => h), fun c e => (HO.out c e).imp_right (fun h => by have := HNP.out; have := HN.out; omega), HNA.out.imp (fun h => h) (fun h a e => by have := h a e; have := HNP.out; have := HN.out; omega)⟩
   | some jq =>
    obtain ⟨j, q⟩ := jq
    have HIX := Lib.hid hix
    obtain rfl : ok = true := by rw [HOK.out, HIX.out]; rfl
    obtain ⟨o, qal⟩ := q
    have HMM : Hid ((⟨o, qal⟩ : GP) ∈ Ei.map (fun x => x.2)) := List.mem_map.2 ⟨_, List.mem_of_getElem? (idxG_lt HIX.out), rfl⟩
    have hol := HOO.out _ HIX.out
    subst hol
    have HKB : Hid (Blk x3 b9 30 (lO o)) := HKB0.out
    clear hix HOO HOK
    go_wp2_with (refine wpList_store_row rfl 30 (.tmp 8) (.tmp 66) rfl b9 (GP.A ⟨o, qal⟩) rfl rfl 30 _ HK1.out HSZ2.out HOZ2.out HO12.out ?_; rw [HX3.out])
    clear hlk2 c2 c3
    try go_upto_region 9 with (fail)
    refine wp_region_held_drew (S := fun W => W.rangeAt b9 0 (lO o)) (by kernel_rfl) ?_ (fun hHeld => ?_)
    ·exact HKB.out.range
    have hR9 := HR.out.below (Below.refl _ _).drew
    have hF9 := HF.out.drew
    have hK9 := HKB.out.drew
    generalize World.drew _ = z at hR9 hF9 hK9 hHeld ⊢
    have HR := Lib.hid hR9;have HF := Lib.hid hF9;have HKB := Lib.hid hK9;clear hR9 hF9 hK9;refine tk 0 (some 70) ?_;refine tk 1 (some 71) ?_;refine tk 2 (some 72) ?_;refine tk 3 (some 73) ?_
    refine wpAnyH_take (i := 5) (oi := ⟨some 75, _, _, _, _, _⟩) (v := .agg (aO o)) rfl (by kernel_rfl) (by kernel_rfl) (by kernel_rfl) (fun _ _ _ h => h) (yieldsIf_load_mid (by rfl) 30 (.tmp 8) rfl b9 0 rfl (lO o) _ (fun _ h => h) Tryz.underlying30 rfl HSZ.out) (by assumption) ?_
    try simp only [Act.put, sa, sz, ss]
    refine wpAnyH_ready (rs := [4, 6]) (by kernel_rfl) (by simp) (AllReadyH.cons (o := ⟨some 74, _, _, _, _, _⟩) rfl (fun K hK => ?_) (AllReadyH.cons (o := ⟨some 76, _, _, _, _, _⟩) rfl (fun K hK => ?_) AllReadyH.nil))
    ·have c2 := HR.out.blk.cell 2
     simp only [gz, gs] at c2
     go_simp;clear c2
     refine hK.out _ _ ?_ (fun hHeld2 => ?_)
     ·exact HKB.out.range
     clear hK K hHeld;rename _ => hHeld
     try simp only [Act.put, sa, sz, ss]
     refine rd1 6 (some 76) (fun K hK => ?_)
     go_simp
     have hbz : Below z.heap.size z (z.alloc (.cells (aO o) 30)) := (Below.refl _ z).alloc (Nat.le_refl _) _
     have HZ := HR
     have HKZ := HKB
     have HR := Lib.hid (HZ.out.below hbz)
     have HKB := Lib.hid (HKZ.out.kept (hbz.block _ HKZ.out.lt))
     clear hbz
     refine hK.out _ _ ?_ (fun hHeld2 => ?_)
     ·exact HKB.out.range
     clear hK K hHeld;rename _ => hHeld
     try simp only [Act.put, sa, sz, ss]
     refine rd1 7 (some 77) (fun K hK => ?_)
     obtain ⟨oa, cap, w5, hrun, ho5, hf5, hk5⟩ := app_ord z B (.slice oi k ci) k (gCells li) (lO o) (by have := HZ.out.own; rw [HKK.out] at this; exact this) (by omega) (Nat.le_trans HZ.out.ge (Nat.le_of_lt HZ.out.blk.lt)) 50 rfl (by simp [Value.oneCell'])
     refine step_run (by rfl) _ _ (by rfl) (by rfl) (by rfl) (fun _ => hrun) ?_
     have HKB := Lib.hid (HKZ.out.kept (hf5.block b9 HKZ.out.lt (fun e => by have := HNO.out b9 e; omega)))
     have HB5 := Lib.hid (HZ.out.blk.kept (hf5.block br HZ.out.blk.lt (fun e => HZ.out.ne br e rfl)))
     have HR6 := Lib.hid (RcG.app (q := ⟨o, qal⟩) HZ.out HKK.out ho5 hf5 hk5 HMM.out)
     have HF6 : Hid (Fr (fun c => c = br ∨ c = m ∨ (Value.slice ov l.length cv).ownBlock = some c) w1 (w5.setCell ⟨br, 2, none⟩ (.slice oa (k + 1) cap))) := (HF.out.trans hf5 (fun i hi e => (HO.out i e).elim (fun h => .inr (.inr h)) (fun h => by have := HP.out; omega))).setCell ⟨br, 2, none⟩ _ (.inl (.inl rfl))
     have HO6 : Hid (∀ c, (Value.slice oa (k + 1) cap).ownBlock = some c → (Value.slice ov l.length cv).ownBlock = some c ∨ P ≤ c) := fun c e => (hk5 c e).elim (fun h => HO.out c h) (fun h => .inr (by have := HF.out.size; have := HP.out; omega))
     clear hrun ho5 hf5 hk5
     refine hK.out _ _ ?_ (fun hHeld2 => ?_)
     ·exact HKB.out.range
     clear hK K hHeld;rename _ => hHeld;refine tk 8 (some 78) ?_;refine tk 9 (some 79) ?_
     refine rd1 10 none (fun K hK => ?_)
     have c2 := HB5.out.cell 2
     have z2 := HB5.out.frozen 2
     simp only [gz, gs] at c2
     go_simp;clear c2 z2
     have HKB := Lib.hid (HKB.out.other ⟨br, 2, none⟩ (fun e => HBO.out e) (.slice oa (k + 1) cap))
     refine hK.out _ _ ?_ (fun hHeld2 => ?_)
     ·exact HKB.out.range
     clear hK K hHeld;rename _ => hHeld
     try simp only [Act.put, sa, sz, ss]
     refine wpAnyH_done (by kernel_rfl) ?_ _;clear hHeld
     go_upto_region 10 with (fail)
     generalize World.setCell _ _ _ = y at HR6 HF6 HKB ⊢
     obtain ⟨y2, hdel, hm2, hf2⟩ := delG_hit HR6.out.mp ((k : Int) + 1) HIX.out
     have c3 := HR6.out.blk.cell 3
     simp only [gz, gs] at c3
     have HME : Hid (∀ p, p ∈ (Ei.eraseIdx j).map (fun x => x.2) → p ∈ Ei.map (fun x => x.2)) := fun p hp => by
      obtain ⟨y, hy, e⟩ := List.mem_map.1 hp
      exact List.mem_map.2 ⟨y, List.mem_of_mem_eraseIdx hy, e⟩
     have HR7 := Lib.hid (HR6.out.put hm2 hf2 (fun p hp => .inl (HME.out p hp)))
     have HF7 : Hid (Fr (fun c => c = br ∨ c = m ∨ (Value.slice ov l.length cv).ownBlock = some c) w1 y2) := HF6.out.trans hf2 (fun _ _ h => .inr (.inl h))
     clear hm2 hf2
     go_wp2_with (at_delete; refine wpList_delete_run _ rfl _ _ 113 3 rfl _ _ _ rfl rfl hdel ?_)
     clear hdel
     go_wp2_with fail
     go_roundw
     case rel => exact ⟨_, _, _, _, _, _, _, _, _, _, _, _, _, _, _, _, _, _, _, _, _, _, _, _, _, _, _, _, _, _, _, _, _, _, _, ⟨_, li ++ [⟨o, qal⟩], Ei.eraseIdx j, HR7, by rw [← HA.out]; exact (advG_some li Ei j _ (by rw [HKK.out]; exact HIX.out)).symm, by have := HL.out; have := (List.getElem?_eq_some_iff.1 (idxG_lt HIX.out)).1; show _ ≤ 1001; rw [List.length_append, List.length_eraseIdx, if_pos this, List.length_singleton]; omega, HF7, HO6⟩, rfl⟩
     case measure => rw [HR7.out.mp.sz, HR0.out.mp.sz, List.length_eraseIdx, if_pos (List.getElem?_eq_some_iff.1 (idxG_lt HIX.out)).1]; have := (List.getElem?_eq_some_iff.1 (idxG_lt HIX.out)).1; omega
    ·go_simp
     have hbz : Below z.heap.size z (z.alloc (.cells (aO o) 30)) := (Below.refl _ z).alloc (Nat.le_refl _) _
     have HZ := HR
     have HKZ := HKB
     have HR := Lib.hid (HZ.out.below hbz)
     have HKB := Lib.hid (HKZ.out.kept (hbz.block _ HKZ.out.lt))
     clear hbz
     refine hK.out _ _ ?_ (fun hHeld2 => ?_)
     ·exact HKB.out.range
     clear hK K hHeld;rename _ => hHeld
     try simp only [Act.put, sa, sz, ss]
     refine rd1 4 (some 74) (fun K hK => ?_)
     have c2 := HR.out.blk.cell 2
     simp only [gz, gs] at c2
     go_simp;clear c2
     refine hK.out _ _ ?_ (fun hHeld2 => ?_)
     ·exact HKB.out.range
     clear hK K hHeld;rename _ => hHeld
     try simp only [Act.put, sa, sz, ss]
     refine rd1 7 (some 77) (fun K hK => ?_)
     obtain ⟨oa, cap, w5, hrun, ho5, hf5, hk5⟩ := app_ord z B (.slice oi k ci) k (gCells li) (lO o) (by have := HZ.out.own; rw [HKK.out] at this; exact this) (by omega) (Nat.le_trans HZ.out.ge (Nat.le_of_lt HZ.out.blk.lt)) 50 rfl (by simp [Value.oneCell'])
     refine step_run (by rfl) _ _ (by rfl) (by rfl) (by rfl) (fun _ => hrun) ?_
     have HKB := Lib.hid (HKZ.out.kept (hf5.block b9 HKZ.out.lt (fun e => by have := HNO.out b9 e; omega)))
     have HB5 := Lib.hid (HZ.out.blk.kept (hf5.block br HZ.out.blk.lt (fun e => HZ.out.ne br e rfl)))
     have HR6 := Lib.hid (RcG.app (q := ⟨o, qal⟩) HZ.out HKK.out ho5 hf5 hk5 HMM.out)
     have HF6 : Hid (Fr (fun c => c = br ∨ c = m ∨ (Value.slice ov l.length cv).ownBlock = some c) w1 (w5.setCell ⟨br, 2, none⟩ (.slice oa (k + 1) cap))) := (HF.out.trans hf5 (fun i hi e => (HO.out i e).elim (fun h => .inr (.inr h)) (fun h => by have := HP.out; omega))).setCell ⟨br, 2, none⟩ _ (.inl (.inl rfl))
     have HO6 : Hid (∀ c, (Value.slice oa (k + 1) cap).ownBlock = some c → (Value.slice ov l.length cv).ownBlock = some c ∨ P ≤ c) := fun c e => (hk5 c e).elim (fun h => HO.out c h) (fun h => .inr (by have := HF.out.size; have := HP.out; omega))
     clear hrun ho5 hf5 hk5
     refine hK.out _ _ ?_ (fun hHeld2 => ?_)
     ·exact HKB.out.range
     clear hK K hHeld;rename _ => hHeld;refine tk 8 (some 78) ?_;refine tk 9 (some 79) ?_
     refine rd1 10 none (fun K hK => ?_)
     have c2 := HB5.out.cell 2
     have z2 := HB5.out.frozen 2
     simp only [gz, gs] at c2
     go_simp;clear c2 z2
     have HKB := Lib.hid (HKB.out.other ⟨br, 2, none⟩ (fun e => HBO.out e) (.slice oa (k + 1) cap))
     refine hK.out _ _ ?_ (fun hHeld2 => ?_)
     ·exact HKB.out.range
     clear hK K hHeld;rename _ => hHeld
     try simp only [Act.put, sa, sz, ss]
     refine wpAnyH_done (by kernel_rfl) ?_ _;clear hHeld
     go_upto_region 10 with (fail)
     generalize World.setCell _ _ _ = y at HR6 HF6 HKB ⊢
     obtain ⟨y2, hdel, hm2, hf2⟩ := delG_hit HR6.out.mp ((k : Int) + 1) HIX.out
     have c3 := HR6.out.blk.cell 3
     simp only [gz, gs] at c3
     have HME : Hid (∀ p, p ∈ (Ei.eraseIdx j).map (fun x => x.2) → p ∈ Ei.map (fun x => x.2)) := fun p hp => by
      obtain ⟨y, hy, e⟩ := List.mem_map.1 hp
      exact List.mem_map.2 ⟨y, List.mem_of_mem_eraseIdx hy, e⟩
     have HR7 := Lib.hid (HR6.out.put hm2 hf2 (fun p hp => .inl (HME.out p hp)))
     have HF7 : Hid (Fr (fun c => c = br ∨ c = m ∨ (Value.slice ov l.length cv).ownBlock = some c) w1 y2) := HF6.out.trans hf2 (fun _ _ h => .inr (.inl h))
     clear hm2 hf2
     go_wp2_with (at_delete; refine wpList_delete_run _ rfl _ _ 113 3 rfl _ _ _ rfl rfl hdel ?_)
     clear hdel
     go_wp2_with fail
     go_roundw
     case rel => exact ⟨_, _, _, _, _, _, _, _, _, _, _, _, _, _, _, _, _, _, _, _, _, _, _, _, _, _, _, _, _, _, _, _, _, _, _, ⟨_, li ++ [⟨o, qal⟩], Ei.eraseIdx j, HR7, by rw [← HA.out]; exact (advG_some li Ei j _ (by rw [HKK.out]; exact HIX.out)).symm, by have := HL.out; have := (List.getElem?_eq_some_iff.1 (idxG_lt HIX.out)).1; show _ ≤ 1001; rw [List.length_append, List.length_eraseIdx, if_pos this, List.length_singleton]; omega, HF7, HO6⟩, rfl⟩
     case measure => rw [HR7.out.mp.sz, HR0.out.mp.sz, List.length_eraseIdx, if_pos (List.getElem?_eq_some_iff.1 (idxG_lt HIX.out)).1]; have := (List.getElem?_eq_some_iff.1 (idxG_lt HIX.out)).1; omega
end Go.Proofs.YtjkiidhnmljmbaaGreatDoor
