/- Orders of every kind: a sender's Tick. -/
import Derived.Test.YtjkiidhnmljmbaaGreatDoorGtC
set_option linter.unusedVariables false
set_option linter.unusedSimpArgs false
namespace Go.Proofs.YtjkiidhnmljmbaaGreatDoor
open Go.RowKit
attribute [local go_sem] Oper.semAt_some
def PG.due (p : PG) (now : Int) : Bool := dueB p.sent p.at_ now
def PG.upd (p : PG) (now : Int) : PG := if p.due now then ⟨p.p, true, now⟩ else p
def updG (L : List PG) (first j : Nat) (now : Int) : List PG := L.mapIdx fun i p => if first ≤ i ∧ i < j then p.upd now else p
def sentG (L : List PG) (first : Nat) (now : Int) : Nat → List GP
 | 0 => []
 | j + 1 => sentG L first now j ++ (match L[j]? with | some p => if first ≤ j ∧ p.due now = true then [p.p] else [] | none => [])
theorem updG_len (L : List PG) (first j : Nat) (now : Int) : (updG L first j now).length = L.length := by simp [updG]
theorem updG_get (L : List PG) (first j : Nat) (now : Int) (i : Nat) : (updG L first j now)[i]? = (L[i]?).map fun p => if first ≤ i ∧ i < j then p.upd now else p := by simp [updG]
theorem updG_first (L : List PG) (first : Nat) (now : Int) : updG L first first now = L := by
 refine List.ext_getElem? fun i => ?_
 rw [updG_get]
 cases L[i]? with
 | none => rfl
 | some p => simp only [Option.map_some]; rw [if_neg (by omega)]
theorem updG_at (L : List PG) (first j : Nat) (now : Int) : (updG L first j now)[j]? = L[j]? := by
 rw [updG_get]
 cases L[j]? with
 | none => rfl
 | some p => simp only [Option.map_some]; rw [if_neg (by omega)]
theorem updG_succ (L : List PG) (first j : Nat) (now : Int) (p : PG) (hf : first ≤ j) (hp : L[j]? = some p) : updG L first (j + 1) now = (updG L first j now).set j (p.upd now) := by
 have hl := (List.getElem?_eq_some_iff.1 hp).1
 refine List.ext_getElem? fun i => ?_
 rw [updG_get, List.getElem?_set, updG_len]
 by_cases e : j = i
 ·subst e
  rw [if_pos rfl, if_pos hl, hp]
  simp only [Option.map_some]
  rw [if_pos ⟨hf, by omega⟩]
 ·rw [if_neg e, updG_get]
  cases L[i]? with
  | none => rfl
  | some q =>
   simp only [Option.map_some]
   by_cases h : first ≤ i ∧ i < j
   ·rw [if_pos h, if_pos ⟨h.1, by omega⟩]
   ·rw [if_neg h, if_neg (by omega)]
theorem updG_skip (L : List PG) (first j : Nat) (now : Int) (p : PG) (hf : first ≤ j) (hp : L[j]? = some p) (hd : p.due now = false) : updG L first (j + 1) now = updG L first j now := by
 rw [updG_succ L first j now p hf hp, show p.upd now = p by unfold PG.upd; rw [hd]; rfl]
 exact set_same (by rw [updG_at]; exact hp)
theorem sentG_yes (L : List PG) (first j : Nat) (now : Int) (p : PG) (hf : first ≤ j) (hp : L[j]? = some p) (hd : p.due now = true) : sentG L first now (j + 1) = sentG L first now j ++ [p.p] := by
 simp only [sentG, hp]
 rw [if_pos ⟨hf, hd⟩]
theorem sentG_no (L : List PG) (first j : Nat) (now : Int) (p : PG) (hp : L[j]? = some p) (hd : p.due now = false) : sentG L first now (j + 1) = sentG L first now j := by
 simp only [sentG, hp]
 rw [if_neg (by rw [hd]; simp)]
 simp
theorem sentG_start (L : List PG) (first : Nat) (now : Int) : ∀ j, j ≤ first → sentG L first now j = []
 | 0, _ => rfl
 | j + 1, h => by
  simp only [sentG, sentG_start L first now j (by omega)]
  cases L[j]? with
  | none => rfl
  | some p => simp only [List.nil_append]; rw [if_neg (by omega)]
theorem sentG_len (L : List PG) (first : Nat) (now : Int) : ∀ j, (sentG L first now j).length ≤ j
 | 0 => Nat.le_refl _
 | j + 1 => by
  have := sentG_len L first now j
  simp only [sentG, List.length_append]
  split
  ·split <;> simp <;> omega
  ·simp; omega
def gmCells (tn : Int) (l : List GP) : List Value := l.flatMap fun q => (MOd.mk 1 tn q.o.s 0 0 q.o).l
theorem gmCells_snoc (tn : Int) (l : List GP) (q : GP) : gmCells tn l ++ (MOd.mk 1 tn q.o.s 0 0 q.o).l = gmCells tn (l ++ [q]) := by simp [gmCells]
structure CopyS (Ms So : List GP) : Prop where
 len : Ms.length = So.length
 at_ : ∀ (j : Nat) q p, Ms[j]? = some q → So[j]? = some p → q.al = p.al ∧ ∃ oa ac, q.o = p.o.withA oa ac
theorem CopyS.nil : CopyS [] [] := ⟨rfl, fun j q p h => by simp at h⟩
theorem CopyS.snoc {Ms So : List GP} {q p : GP} (h : CopyS Ms So) (h1 : q.al = p.al) (h2 : ∃ oa ac, q.o = p.o.withA oa ac) : CopyS (Ms ++ [q]) (So ++ [p]) := by
 refine ⟨by simp [h.len], fun j q' p' e1 e2 => ?_⟩
 by_cases hj : j < Ms.length
 ·rw [List.getElem?_append_left hj] at e1
  rw [List.getElem?_append_left (by rw [← h.len]; exact hj)] at e2
  exact h.at_ j q' p' e1 e2
 ·have h0 : j = Ms.length := by
   have := (List.getElem?_eq_some_iff.1 e1).1
   simp at this
   omega
  subst h0;rw [List.getElem?_append_right (Nat.le_refl _), Nat.sub_self] at e1
  rw [List.getElem?_append_right (by rw [h.len]; exact Nat.le_refl _), h.len, Nat.sub_self] at e2
  simp at e1 e2
  subst e1;subst e2;exact ⟨h1, h2⟩
theorem gmsg_sets (tn : Int) (q : Int) (o : GOd) : setsL (setsL lZm 0 (msgA 1 tn q 0 0 0 0 0 0 0).toList) 5 o.l = (MOd.mk 1 tn q 0 0 o).l := by kernel_rfl
theorem RdA.cells {W : World} {ao : Option Addr} {al : List (Int × Int)} (h : RdA W ao al) (hn : al ≠ []) (a : Addr) (e : ao = some a) (o : Obj) (ho : W.heap[a.block]? = some o) : o.isCells = true := by
 rcases h with h | ⟨b, f, h1, h2, h3⟩
 ·exact absurd h hn
 ·rw [h1] at e
  cases e
  obtain ⟨x, l, rfl⟩ := List.exists_cons_of_ne_nil hn
  have h4 := h3 0 _ rfl
  dsimp only at ho
  cases o with
  | cells _ _ => rfl
  | _ => simp [World.cell?, ho] at h4
structure TkG (W : World) (N B bs : Nat) (tn : Int) (vp : Value) (k : Nat) (now : Int) (Lc : List PG) (Ms : List GP) (vl : Value) (A : World) : Prop where
 sn : SnG A B bs tn vp Lc k
 b1 : Blk A N 51 [.pointer (some ⟨bs, 0, none⟩)]
 b2 : Blk A (N + 1) 3 [.int .i64 now]
 lb : Blk A (N + 2) 55 [vl]
 own : A.ownsRow (N + 4) 32 31 vl Ms.length (gmCells tn Ms)
 fr : Fr (fun c => vp.ownBlock = some c) W A
 nz : W.heap.size = N
 sz : N + 4 ≤ A.heap.size
 far : ∀ c, vp.ownBlock = some c → c < N
 bsN : bs < N
 altN : ∀ q ∈ Lc, q.p.al ≠ [] → ∀ a, q.p.o.ao = some a → a.block < N
 ams : ∀ q ∈ Ms, GAt A (N + 4) (N + 2) (N + 2) vl q
section
variable {W : World} {N B bs : Nat} {tn : Int} {vp : Value} {k : Nat} {now : Int} {Lc : List PG} {Ms : List GP} {vl : Value} {A A' : World}
theorem TkG.turn (h : TkG W N B bs tn vp k now Lc Ms vl A) {S : Nat → Prop} (hf : Fr S A A') (hS : ∀ c, S c → N + 4 ≤ c ∧ vl.ownBlock ≠ some c) (hM : ∀ q ∈ Ms, q.al ≠ [] → ∀ a, q.o.ao = some a → ¬ S a.block) : TkG W N B bs tn vp k now Lc Ms vl A' := by
 have hz := h.sz
 have hb := h.bsN
 have no : ∀ c, c < N + 4 → ¬ S c := fun c hc hs => by have := (hS c hs).1; omega
 refine ⟨h.sn.turn hf (fun c hs => ⟨fun e => no c (by omega) hs, fun e => no c (by have := h.far c e; omega) hs⟩) (fun q hq hn a e => no _ (by have := h.altN q hq hn a e; omega)), h.b1.kept (hf.block _ h.b1.lt (no _ (by omega))), h.b2.kept (hf.block _ h.b2.lt (no _ (by omega))), h.lb.kept (hf.block _ h.lb.lt (no _ (by omega))), ownsRow_keptF h.own (fun g e => hf.block g (own_lt h.own g e) (fun hs => (hS g hs).2 e)), h.fr.trans hf (fun i hi hs => ?_), h.nz, Nat.le_trans hz hf.size, h.far, hb, h.altN, fun q hq => (h.ams q hq).turn hf (hM q hq) (fun c e => .inl e)⟩
 have := (hS i hs).1
 have := h.nz
 omega
theorem TkG.below (h : TkG W N B bs tn vp k now Lc Ms vl A) (hb : Below A.heap.size A A') : TkG W N B bs tn vp k now Lc Ms vl A' := h.turn (Fr.under (fun _ => False) hb) (fun _ e => e.elim) (fun _ _ _ _ _ e => e)
theorem TkG.put (h : TkG W N B bs tn vp k now Lc Ms vl A) {l : Nat} {o : Obj} (hl : A.heap[l]? = some o) (ho : o.isCells = false) (hn : N + 4 ≤ l) (o' : Obj) : TkG W N B bs tn vp k now Lc Ms vl (A.putObj l o') := by
 refine h.turn (Fr.put (S := fun c => c = l) A l o' rfl) (fun c hc => ?_) (fun q hq hn a e hs => ?_)
 ·subst hc
  refine ⟨hn, fun e => ?_⟩
  rcases h.own.2 with ⟨h2, _⟩ | ⟨g, cap, cur, h2, _, h3, _⟩
  ·rw [h2] at e
   simp [Value.ownBlock] at e
  ·rw [h2] at e
   simp [Value.ownBlock] at e
   subst e;rw [hl] at h3
   cases h3
   cases ho
 ·have h1 := (h.ams q hq).rd.cells hn a e o (by rw [hs]; exact hl)
  rw [h1] at ho
  cases ho
theorem TkG.fresh (h : TkG W N B bs tn vp k now Lc Ms vl A) (hb : Below A.heap.size A A') {p : GP} (hp : GAt A B bs bs vp p) {oa : Option Addr} {ac : Nat} (hr : RdA A' oa p.al) (hba : ∀ a, oa = some a → A.heap.size ≤ a.block) : GAt A' (N + 4) (N + 2) (N + 2) vl ⟨p.o.withA oa ac, p.al⟩ := by
 refine ⟨hp.len, hp.few, hr, fun hn a e => ?_⟩
 have h1 : A.heap.size ≤ a.block := hba a e
 have h2 := h.sz
 refine ⟨by omega, ?_, by omega, by omega, fun e => by have := own_lt h.own _ e; omega⟩
 rcases hr with h3 | ⟨b9, o9, h6, h7, _⟩
 ·exact absurd h3 hn
 ·have e9 : oa = some a := e
  rw [h6] at e9
  cases e9
  exact h7
theorem TkG.safe (h : TkG W N B bs tn vp k now Lc Ms vl A) (b : Nat) (hb : TkF N vp vl b) : b < A.heap.size ∧ ¬ (b = N + 3 ∨ b = bs) := by
 have hz := h.sz
 have hn := h.bsN
 rcases hb with h1 | h1 | h1
 ·have := h.far b h1
  exact ⟨by omega, fun e => e.elim (fun e => by omega) (fun e => h.sn.ne b h1 e)⟩
 ·exact ⟨by omega, by omega⟩
 ·have := own_ge h.own b h1
  exact ⟨own_lt h.own b h1, by omega⟩
theorem TkG.cells (h : TkG W N B bs tn vp k now Lc Ms vl A) (b : Nat) (hb : TkF N vp vl b) (o : Obj) (ho : A.heap[b]? = some o) : o.isCells = true := by
 have row : ∀ {v : Value} {B : Nat} {t : TypeId} {size n : Nat} {xs : List Value}, A.ownsRow B t size v n xs → v.ownBlock = some b → o.isCells = true := fun {v B t size n xs} h1 h2 => by
  rcases h1.2 with ⟨h3, _⟩ | ⟨g, cap, cur, h3, _, h4, _⟩
  ·rw [h3] at h2
   simp [Value.ownBlock] at h2
  ·rw [h3] at h2
   simp [Value.ownBlock] at h2
   subst h2;rw [ho] at h4
   cases h4
   rfl
 rcases hb with h1 | h1 | h1
 ·exact row h.sn.own h1
 ·subst h1
  have := h.lb
  unfold Blk at this
  rw [ho] at this
  cases this
  rfl
 ·exact row h.own h1
theorem TkG.cellAt {g n cap j : Nat} {p : PG} (h : TkG W N B bs tn (.slice (some ⟨g, 0, none⟩) n cap) k now Lc Ms vl A) (hp : Lc[j]? = some p) :
  A.cell? ⟨g, j * 28, none⟩ = some (.int .i64 p.p.o.s) ∧ A.rangeAt g (j * 28) p.p.o.l := by
 obtain ⟨g', cap', hv, hgl, _, hc⟩ := h.sn.cells hp
 simp only [Value.slice.injEq, Option.some.injEq, Addr.mk.injEq] at hv
 obtain rfl := hv.1.1
 refine ⟨hc 0 (by omega), fun t v ht => ?_⟩
 have htl : t < 26 := (List.getElem?_eq_some_iff.1 ht).1
 rw [hc t (by omega)]
 unfold pgC
 rw [List.getElem?_append_left (show t < 26 from htl)];exact ht
theorem TkG.mark {g n cap j : Nat} {p : PG} (h : TkG W N B bs tn (.slice (some ⟨g, 0, none⟩) n cap) k now Lc Ms vl A) (hp : Lc[j]? = some p) :
  TkG W N B bs tn (.slice (some ⟨g, 0, none⟩) n cap) k now (Lc.set j ⟨p.p, true, now⟩) Ms vl ((A.setCell ⟨g, j * 28 + 26, none⟩ (.bool true)).setCell ⟨g, j * 28 + 27, none⟩ (.int .i64 now)) := by
 have hg : g < N := h.far g rfl
 have hz := h.sz
 have hg2 : ∀ c, vl.ownBlock = some c → c ≠ g := fun c e => by have := own_ge h.own c e; omega
 have hfr : Fr (fun c => c = g) A ((A.setCell ⟨g, j * 28 + 26, none⟩ (.bool true)).setCell ⟨g, j * 28 + 27, none⟩ (.int .i64 now)) := ((Fr.refl (fun c => c = g) A).setCell ⟨g, j * 28 + 26, none⟩ _ (.inl rfl)).setCell ⟨g, j * 28 + 27, none⟩ _ (.inl rfl)
 refine ⟨h.sn.put hp true now, (h.b1.other _ (show g ≠ N by omega) _).other _ (show g ≠ N by omega) _, (h.b2.other _ (show g ≠ N + 1 by omega) _).other _ (show g ≠ N + 1 by omega) _, (h.lb.other _ (show g ≠ N + 2 by omega) _).other _ (show g ≠ N + 2 by omega) _, ownsRow_keptF h.own (fun c e => (Below.heap_setCell _ _ _ _ (hg2 c e)).trans (Below.heap_setCell _ _ _ _ (hg2 c e))), (h.fr.setCell ⟨g, j * 28 + 26, none⟩ _ (.inl rfl)).setCell ⟨g, j * 28 + 27, none⟩ _ (.inl rfl), h.nz, by simpa [World.setCell] using h.sz, h.far, h.bsN, fun q hq => ?_, fun q hq => (h.ams q hq).turn hfr (fun hn a e hs => by have := ((h.ams q hq).own hn a e).1; omega) (fun c e => .inl e)⟩
 rcases List.mem_or_eq_of_mem_set hq with h1 | h1
 ·exact h.altN q h1
 ·rw [h1]
  exact h.altN p (List.mem_of_getElem? hp)
theorem TkG.app {n' cap' : Nat} {q : GP} {oa : Option Addr} (h : TkG W N B bs tn vp k now Lc Ms vl A) (ho : A'.ownsRow (N + 4) 32 31 (.slice oa n' cap') (Ms.length + 1) (gmCells tn Ms ++ (MOd.mk 1 tn q.o.s 0 0 q.o).l)) (hf : Fr (fun c => vl.ownBlock = some c) A A') (hnew : ∀ c, (Value.slice oa n' cap').ownBlock = some c → vl.ownBlock = some c ∨ A.heap.size ≤ c) (hq : GAt A (N + 4) (N + 2) (N + 2) vl q) :
  TkG W N B bs tn vp k now Lc (Ms ++ [q]) (.slice oa n' cap') (A'.setCell ⟨N + 2, 0, none⟩ (.slice oa n' cap')) := by
 have hz := h.sz
 have hb := h.bsN
 have hsz := hf.size
 have no : ∀ c, c < N + 4 → ¬ vl.ownBlock = some c := fun c hc hs => by have := own_ge h.own c hs; omega
 rw [gmCells_snoc] at ho
 have hN2 : ∀ c, (Value.slice oa n' cap').ownBlock = some c → c ≠ N + 2 := fun c e => (hnew c e).elim (fun e => by have := own_ge h.own c e; omega) (fun e => by omega)
 have hfr : Fr (fun c => vl.ownBlock = some c ∨ c = N + 2) A (A'.setCell ⟨N + 2, 0, none⟩ (.slice oa n' cap')) := (hf.mono (fun c h => Or.inl h)).setCell ⟨N + 2, 0, none⟩ _ (.inl (.inr rfl))
 refine ⟨h.sn.turn hfr (fun c hs => hs.elim (fun e => ⟨fun e' => no c (by omega) e, fun e' => no c (by have := h.far c e'; omega) e⟩) (fun e => ⟨by omega, fun e' => by have := h.far c e'; omega⟩)) (fun p hp hn a e hs => by
  have h1 := h.altN p hp hn a e
  rcases hs with h2 | h2
  ·exact no _ (by omega) h2
  ·omega), (h.b1.kept (hf.block _ h.b1.lt (no _ (by omega)))).other _ (show N + 2 ≠ N by omega) _, (h.b2.kept (hf.block _ h.b2.lt (no _ (by omega)))).other _ (show N + 2 ≠ N + 1 by omega) _, (h.lb.kept (hf.block _ h.lb.lt (no _ (by omega)))).set 0 _, ?_, ?_, h.nz, by simp [World.setCell]; omega, h.far, hb, h.altN, fun p hp => ?_⟩
 ·rw [List.length_append]
  exact ownsRow_keptF ho (fun c e => Below.heap_setCell _ _ _ _ (hN2 c e))
 ·exact (h.fr.trans hf (fun i hi e => by have := own_ge h.own i e; have := h.nz; omega)).setCell ⟨N + 2, 0, none⟩ _ (.inr (by have := h.nz; show _ ≤ N + 2; omega))
 ·have ha : GAt A (N + 4) (N + 2) (N + 2) vl p := by
   rcases List.mem_append.1 hp with hp | hp
   ·exact h.ams p hp
   ·rw [List.mem_singleton.1 hp]
    exact hq
  exact ha.turn hfr (fun hn a e hs => hs.elim (ha.own hn a e).2.2.2.2 (ha.own hn a e).2.2.1) hnew
end
def TkR (W : World) (N B bs : Nat) (tn : Int) (vp : Value) (k : Nat) (now : Int) (L : List PG) (f j : Nat) (vl : Value) (A : World) : Prop := ∃ Ms, TkG W N B bs tn vp k now (updG L f j now) Ms vl A ∧ CopyS Ms (sentG L f now j)
theorem TkR.mk {W : World} {N B bs : Nat} {tn : Int} {vp : Value} {k : Nat} {now : Int} {L : List PG} {f j : Nat} {vl : Value} {A : World} {Ms : List GP} (h : TkG W N B bs tn vp k now (updG L f j now) Ms vl A) (hc : CopyS Ms (sentG L f now j)) : TkR W N B bs tn vp k now L f j vl A := Exists.intro Ms ⟨h, hc⟩
def TickG (W : World) (B bs : Nat) (tn : Int) (vp : Value) (L : List PG) (k : Nat) (now : Int) (e : Ending) (w' : World) : Prop :=
 ∃ vl Ms, e = .returned vl ∧ w'.ownsRow W.heap.size 32 31 vl Ms.length (gmCells tn Ms) ∧ CopyS Ms (sentG L (firstW k L.length) now L.length) ∧ (∀ q ∈ Ms, GAt w' W.heap.size bs bs vl q) ∧ SnG w' B bs tn vp (updG L (firstW k L.length) L.length now) k ∧ Fr (fun c => vp.ownBlock = some c) W w'
theorem tickG_start {W w1 w2 w3 w4 : World} {N B bs k : Nat} {tn now : Int} {vp : Value} {L : List PG} (h : SnG W B bs tn vp L k) (hN : W.heap.size = N) (hw1 : W.alloc (.cells #[.pointer (some ⟨bs, 0, none⟩)] 51) = w1) (hw2 : w1.alloc (.cells #[.int .i64 now] 3) = w2) (hw3 : w2.alloc (.cells #[.slice none 0 0] 55) = w3) (hw4 : w3.alloc (.cells #[.pointer (some ⟨bs, 0, none⟩)] 51) = w4) :
  (TkG W N B bs tn vp k now L [] (.slice none 0 0) w4 ∧ Blk w4 (N + 3) 51 [.pointer (some ⟨bs, 0, none⟩)]) ∧ (Blk w2 N 51 [.pointer (some ⟨bs, 0, none⟩)] ∧ Blk w2 (N + 1) 3 [.int .i64 now] ∧ Blk w3 N 51 [.pointer (some ⟨bs, 0, none⟩)]) ∧ (w1.heap.size = N + 1 ∧ w2.heap.size = N + 2 ∧ w3.heap.size = N + 3 ∧ w4.heap.size = N + 4) ∧ Below W.heap.size W w2 := by
 have n1 : Blk (W.alloc (.cells #[.pointer (some ⟨bs, 0, none⟩)] 51)) N 51 [.pointer (some ⟨bs, 0, none⟩)] := by rw [← hN]; exact Blk.new W _ _
 have z1 : w1.heap.size = N + 1 := by rw [← hw1, World.size_alloc, hN]
 rw [hw1] at n1
 have n2 : Blk (w1.alloc (.cells #[.int .i64 now] 3)) (N + 1) 3 [.int .i64 now] := by rw [← z1]; exact Blk.new w1 _ _
 have z2 : w2.heap.size = N + 2 := by rw [← hw2, World.size_alloc, z1]
 have m1 := n1.alloc (.cells #[.int .i64 now] 3)
 rw [hw2] at n2 m1
 have n3 : Blk (w2.alloc (.cells #[.slice none 0 0] 55)) (N + 2) 55 [.slice none 0 0] := by rw [← z2]; exact Blk.new w2 _ _
 have z3 : w3.heap.size = N + 3 := by rw [← hw3, World.size_alloc, z2]
 have m2 := m1.alloc (.cells #[.slice none 0 0] 55)
 have l2 := n2.alloc (.cells #[.slice none 0 0] 55)
 rw [hw3] at n3 m2 l2
 have n4 : Blk (w3.alloc (.cells #[.pointer (some ⟨bs, 0, none⟩)] 51)) (N + 3) 51 [.pointer (some ⟨bs, 0, none⟩)] := by rw [← z3]; exact Blk.new w3 _ _
 have z4 : w4.heap.size = N + 4 := by rw [← hw4, World.size_alloc, z3]
 have m3 := m2.alloc (.cells #[.pointer (some ⟨bs, 0, none⟩)] 51)
 have l3 := l2.alloc (.cells #[.pointer (some ⟨bs, 0, none⟩)] 51)
 have k3 := n3.alloc (.cells #[.pointer (some ⟨bs, 0, none⟩)] 51)
 rw [hw4] at n4 m3 l3 k3
 have hb2 : Below W.heap.size W w2 := by
  rw [← hw2, ← hw1]
  exact (((Below.refl _ W).alloc (Nat.le_refl _) _).alloc (by simp) _)
 have hb : Below W.heap.size W w4 := by
  rw [← hw4, ← hw3]
  exact (hb2.alloc (by omega) _).alloc (by simp; omega) _
 exact ⟨⟨⟨h.below hb, m3, l3, k3, World.ownsRow_nil _ _ _ _, Fr.under _ hb, hN, by omega, fun c hc => by rw [← hN]; exact own_lt h.own c hc, by rw [← hN]; exact h.blk.lt, fun q hq hn a e => by rw [← hN]; exact ((h.alts q hq).own hn a e).2.1, fun q hq => absurd hq (by simp)⟩, n4⟩, ⟨m1, n2, m2⟩, ⟨z1, z2, z3, z4⟩, hb2⟩
set_option maxHeartbeats 8000000 in
set_option maxRecDepth 100000 in
theorem gTick (W : World) (B bs : Nat) (tn : Int) (vp : Value) (L : List PG) (k : Nat) (now : Int) (h : SnG W B bs tn vp L k) (hk : k ≤ L.length) (hL : L.length ≤ 200) (n0 : 0 ≤ now) (n1 : now ≤ 1000000000) (hat : ∀ p ∈ L, 0 ≤ p.at_ ∧ p.at_ ≤ 1000000000) :
  Calls Tryz.prog 20 #[.pointer (some ⟨bs, 0, none⟩), .int .i64 now] W (TickG W B bs tn vp L k now) := by
 obtain ⟨N, hN⟩ : ∃ N, W.heap.size = N := ⟨_, rfl⟩
 obtain ⟨ov, cv, rfl⟩ := own_slice h.own
 obtain ⟨n, hn⟩ : ∃ n, L.length = n := ⟨_, rfl⟩
 obtain ⟨g, hg⟩ : ∃ g, 0 < n → ov = some ⟨g, 0, none⟩ := by
  rcases h.own.2 with ⟨h2, h3⟩ | ⟨g, cap, cur, h2, _⟩
  ·exact ⟨0, fun h => by omega⟩
  ·simp only [Value.slice.injEq] at h2
   exact ⟨g, fun _ => h2.1⟩
 obtain ⟨w1, hw1⟩ : ∃ w1, W.alloc (.cells #[.pointer (some ⟨bs, 0, none⟩)] 51) = w1 := ⟨_, rfl⟩
 obtain ⟨w2, hw2⟩ : ∃ w2, w1.alloc (.cells #[.int .i64 now] 3) = w2 := ⟨_, rfl⟩
 obtain ⟨w3, hw3⟩ : ∃ w3, w2.alloc (.cells #[.slice none 0 0] 55) = w3 := ⟨_, rfl⟩
 obtain ⟨w4, hw4⟩ : ∃ w4, w3.alloc (.cells #[.pointer (some ⟨bs, 0, none⟩)] 51) = w4 := ⟨_, rfl⟩
 obtain ⟨⟨hs1, hs2⟩, ⟨hs3, hs4, hs5⟩, ⟨hz1, hz2, hz3, hz4⟩, hb2⟩ := tickG_start h hN hw1 hw2 hw3 hw4
 have HBN := Lib.hid hs2;have HB2 := Lib.hid hb2
 have HLV := Lib.hid (slives_any bs _ _ _ w2 (h.blk.kept (hb2.block _ h.blk.lt)))
 have c0 := hs3.cell 0
 have c1 := hs4.cell 0
 have e0 := hs5.cell 0
 simp only [List.getElem?_cons_zero] at c0 c1 e0
 have hsq := wanted_seq 4 (by decide) (N + 3) bs g n cv k ov (.int .i64 tn) (.bool true) w4 (by omega) (by omega) hg hs2 (by have := hs1.sn.blk; rw [hn] at this; exact this)
 have HSQ := Lib.hid hsq;have HZ4 := Lib.hid hz4;have HW4 := Lib.hid hw4;have HAT := Lib.hid hat;rw [hn] at hk hL hs1;have HT0 := Lib.hid hs1;have HNN := Lib.hid hn;have HG := Lib.hid hg
 have q1 : ¬ now < 0 := by omega
 obtain ⟨f, hf⟩ : ∃ f, firstW k n = f := ⟨_, rfl⟩
 have hfN : f ≤ n := by rw [← hf]; unfold firstW; split <;> omega
 have HF := Lib.hid hf;rw [hf] at HSQ;rw [hn];clear hw4 h hat hn hs1 hs2 hs3 hs4 hs5 hz4 hb2 hsq hg hf
 refine callsIn_wide.1 (callsIn_of_wp_marks (n := 5) Tryz.func20 rfl trivial ?_ rfl)
 refine wpIn_wide.2 ?_
 simp only [Tryz.ntmps20, List.size_toArray, List.length_cons, List.length_nil, Nat.reduceAdd, Nat.reduceSub, Array.replicate_succ, Array.replicate_zero, List.push_toArray, List.append_toArray, List.nil_append, List.cons_append]
 go_upto_region 1 with (fail)
 go_step3
 go_upto_region 1 with (fail)
 go_wp2_with fail
 refine HLV.out.mono ?_
 rintro e w' ⟨rfl, rfl⟩
 go_wp2_with fail
 go_step3
 go_wp2_with fail
 refine (wanted_any bs _).mono ?_
 rintro e w' ⟨rfl, hww⟩;rw [HW4.out] at hww
 obtain rfl : w4 = w' := hww.symm
 rw [hz3]
 go_wp2_with fail
 clear c0 c1 e0 hz1 hz2 hz3 hw1 hw2 hw3 HLV HB2 HW4
 refine (wpIn_wide (n := 5)).1 ?_
 refine range_own (Safe := fun b => b = N + 3 ∨ b = bs) (xs := List.range' f (n - f)) (Bad := fun _ => False) (stops := false) (encs := pEncs g) (w0 := w4) rfl (by decide) (gf := 85) (lb := #[.pointer (some ⟨N + 3, 0, none⟩)]) rfl trivial (enters_of Tryz.func85 (by kernel_rfl) rfl)
  HSQ.out 0 (Below.refl _ _) (fun _ => rfl)
  (fun a S A => ∃ vl, S = TkF N (.slice ov n cv) vl ∧ TkR W N B bs tn (.slice ov n cv) k now L f (f + a) vl A) ?hI ?hIp ?hIs
  (fun _ => False) (fun _ _ h _ => h.elim) (fun _ _ _ _ h _ _ _ => h.elim) ⟨_, _, rfl, TkR.mk (Ms := []) (by rw [Nat.add_zero, updG_first]; exact HT0.out) (by rw [Nat.add_zero, sentG_start L f now f (Nat.le_refl _)]; exact CopyS.nil)⟩
  (fun a S x a' A => ∃ vl, a' = { tmps := #[.pointer (some ⟨bs, 0, none⟩), .int .i64 now, .pointer (some ⟨N, 0, none⟩), .pointer (some ⟨N + 1, 0, none⟩), .slice none 0 0, .pointer (some ⟨N + 2, 0, none⟩), .pointer (some ⟨g, x * 28, none⟩), undef, .pointer (some ⟨bs, 0, none⟩), .bool true, .bool false, .bool false, .int .i64 now, .bool (decide (now < 0)), .bool (decide (now < 0)), .pointer (some ⟨bs, 0, none⟩), .func (.func 85) #[] #[.pointer (some ⟨N + 3, 0, none⟩)], .pointer (some ⟨g, x * 28, none⟩), undef, undef, undef, undef, undef, undef, undef, undef, undef, undef, undef, undef, undef, undef, undef, undef, undef, undef, undef, undef, undef, undef, undef, undef, undef, undef, undef, undef, undef, undef, undef, undef], defers := [] } ∧ S = TkF N (.slice ov n cv) vl ∧ TkR W N B bs tn (.slice ov n cv) k now L f (f + a) vl A) ?hMid ?hassign ?hbody (fun _ _ _ _ _ _ h => h.elim) (fun _ _ h => by cases h) ?hdone
 case hI =>
  rintro a S A A' ⟨vl, hs, Ms, h, hc⟩ hb
  exact ⟨vl, hs, TkR.mk (h.below hb) hc⟩
 case hIp =>
  rintro a S A l o o' ⟨vl, hs, Ms, h, hc⟩ hl ho hlt
  exact ⟨vl, hs, TkR.mk (h.put hl ho (by rw [← HZ4.out]; exact hlt) o') hc⟩
 case hIs =>
  rintro a S A ⟨vl, rfl, Ms, h, hc⟩ b hb;exact h.safe b hb
 case hMid =>
  rintro a S x a' A l o o' ⟨vl, ha, hs, Ms, h, hc⟩ hl ho hlt
  exact ⟨vl, ha, hs, TkR.mk (h.put hl ho (by rw [← HZ4.out]; exact hlt) o') hc⟩
 case hassign =>
  rintro l a S x A K ⟨vl, hs, Ms, h, hcc⟩ hx hn hK
  have HKK := Lib.hid (hK _ _ (KeepsOthers.refl _) (KpS.below (Below.refl _ _)) ⟨vl, rfl, hs, TkR.mk h hcc⟩)
  clear hK h hs hx hn hcc
  dsimp only [pEncs] at HKK ⊢
  gi_wp2
  exact HKK.out
 case hbody =>
  rintro l a S x a' A ⟨vl, rfl, rfl, Ms, h, hcc⟩ hx
  obtain ⟨j, hj⟩ : ∃ j, f + a = j := ⟨_, rfl⟩
  have hal : a < n - f := by have := (List.getElem?_eq_some_iff.1 hx).1; rwa [List.length_range'] at this
  have hxj : x = j := by rw [List.getElem?_range' hal] at hx; simp at hx; omega
  subst hxj;rw [hj] at h hcc;have HC := Lib.hid hcc;clear hcc;rw [show f + (a + 1) = x + 1 by omega]
  obtain rfl := HG.out (by omega)
  obtain ⟨p, hp⟩ : ∃ p, L[x]? = some p := ⟨L[x]'(by rw [HNN.out]; omega), List.getElem?_eq_getElem _⟩
  have hpc : (updG L f x now)[x]? = some p := by rw [updG_at]; exact hp
  obtain ⟨g', cap', hv, hgl, _, hc⟩ := h.sn.cells hpc
  simp only [Value.slice.injEq, Option.some.injEq, Addr.mk.injEq] at hv
  obtain rfl := hv.1.1
  have d0 : A.cell? ⟨g, x * 28, none⟩ = some (.int .i64 p.p.o.s) := hc 0 (by omega)
  have d26 : A.cell? ⟨g, x * 28 + 26, none⟩ = some (.bool p.sent) := hc 26 (by omega)
  have d27 : A.cell? ⟨g, x * 28 + 27, none⟩ = some (.int .i64 p.at_) := hc 27 (by omega)
  have hatp := HAT.out p (List.mem_of_getElem? hp)
  have hdue := due_any g (x * 28) p.sent p.at_ now A d26 d27 hatp.1 hatp.2 n0 n1
  have x0 := h.b1.cell 0
  have x1 := h.b2.cell 0
  simp only [List.getElem?_cons_zero] at x0 x1
  have hdd : dueB p.sent p.at_ now = p.due now := rfl
  rw [hdd] at hdue;have HT := Lib.hid h;have HP := Lib.hid hp;have HPC := Lib.hid hpc
  have hfx : f ≤ x := by omega
  have hxn : x < n := by omega
  have hgN : g < N := h.far g rfl
  cases hd : p.due now with
  | false =>
   rw [hd] at hdue;have HDUE := Lib.hid hdue
   have e1 := Lib.hid (updG_skip L f x now p hfx hp hd)
   have e2 := Lib.hid (sentG_no L f x now p hp hd)
   clear hx hal hj h hp hpc hv hc hatp hdue hdd hd d0 d26 d27
   gi_wp2
   refine ⟨trivial, ((callsIn_wide.2 HDUE.out).inRound l).mono ?_⟩
   rintro e w' ⟨rfl, rfl⟩
   gi_wp2
   exact ⟨KeepsOthers.refl _, KpS.below (Below.refl _ _), _, vl, rfl, TkR.mk (by rw [e1.out]; exact HT.out) (by rw [e2.out]; exact HC.out)⟩
  | true =>
   rw [hd] at hdue;have HDUE := Lib.hid hdue
   have e1 := Lib.hid (updG_succ L f x now p hfx hp)
   have e2 := Lib.hid (sentG_yes L f x now p hfx hp hd)
   have e3 : Hid (p.upd now = ⟨p.p, true, now⟩) := by unfold PG.upd; rw [hd]; rfl
   have z26 : A.frozen? ⟨g, x * 28 + 26, none⟩ = false := own_frozen h.sn.own _
   have z27 : A.frozen? ⟨g, x * 28 + 27, none⟩ = false := own_frozen h.sn.own _
   have HPS : Hid (((updG L f x now).set x ⟨p.p, true, now⟩)[x]? = some ⟨p.p, true, now⟩) := (by rw [List.getElem?_set_self (by rw [updG_len, HNN.out]; omega)] : ((updG L f x now).set x ⟨p.p, true, now⟩)[x]? = some ⟨p.p, true, now⟩)
   have HME := Lib.hid (fun z => message_any tn 1 p.p.o.s z)
   have HSZ := szO
   have HSM := szM
   have HO1 : Hid ((msgA 1 tn p.p.o.s 0 0 0 0 0 0 0).all (·.oneCell') = true) := (by first | rfl | (unfold msgA; simp [Value.oneCell']) : (msgA 1 tn p.p.o.s 0 0 0 0 0 0 0).all (·.oneCell') = true)
   clear hx hal hj h hp hpc hv hc hatp hdue hdd hd
   gi_wp2
   refine ⟨trivial, ((callsIn_wide.2 HDUE.out).inRound l).mono ?_⟩
   rintro e w' ⟨rfl, rfl⟩
   gi_wp2
   refine round_drawn (S := fun W => W.cell? ⟨N + 1, 0, none⟩ = some (.int .i64 now)) (by kernel_rfl) (by kernel_rfl) (by rintro ⟨a, w, h⟩; revert h; simp [Exit.then, Exit.inBlock]; try (intro h; exact absurd h.1 (by simp))) ?_ (fun hHeld => ?_)
   ·exact x1
   refine tk 0 (some 22) ?_;refine tk 1 (some 23) ?_;refine tk 2 (some 24) ?_;refine tk 3 (some 25) ?_;refine tk 4 (some 26) ?_
   refine rd1 5 none (fun K hK => ?_)
   go_simp
   refine hK.out _ _ ?_ (fun hHeld2 => ?_)
   ·exact (World.cell?_setCell_far _ _ _ _ (show g ≠ N + 1 by omega)).trans x1
   clear hK K hHeld;rename _ => hHeld;refine tk 6 (some 27) ?_;refine tk 7 (some 28) ?_
   refine rd1 8 none (fun K hK => ?_)
   go_simp
   refine hK.out _ _ ?_ (fun hHeld2 => ?_)
   ·exact (World.cell?_setCell_far _ _ _ _ (show g ≠ N + 1 by omega)).trans ((World.cell?_setCell_far _ _ _ _ (show g ≠ N + 1 by omega)).trans x1)
   clear hK K hHeld;rename _ => hHeld
   try simp only [Act.put, sa, sz, ss]
   refine wpAnyH_done (by kernel_rfl) ?_ _;clear hHeld
   have HTA := HT
   have hT7 := (HT.out.mark HPC.out).below (Below.refl _ _).drew
   have hF7 := (((Fr.refl (TkF N (.slice (some ⟨g, 0, none⟩) n cv) vl) A).setCell ⟨g, x * 28 + 26, none⟩ (.bool true) (.inl (.inl rfl))).setCell ⟨g, x * 28 + 27, none⟩ (.int .i64 now) (.inl (.inl rfl))).drew
   generalize World.drew _ = z at hT7 hF7 ⊢
   have HFR := Lib.hid hF7;clear hF7
   have HKP : Hid (∀ z, TkG W N B bs tn (.slice (some ⟨g, 0, none⟩) n cv) k now ((updG L f x now).set x ⟨p.p, true, now⟩) Ms vl z → z.cell? ⟨N, 0, none⟩ = some (.pointer (some ⟨bs, 0, none⟩)) ∧ z.cell? ⟨bs, 0, none⟩ = some (.int .i64 tn) ∧ z.cell? ⟨g, x * 28, none⟩ = some (.int .i64 p.p.o.s)) := fun z h => ⟨h.b1.cell 0, h.sn.blk.cell 0, (h.cellAt HPS.out).1⟩
   have HRG : Hid (∀ z, TkG W N B bs tn (.slice (some ⟨g, 0, none⟩) n cv) k now ((updG L f x now).set x ⟨p.p, true, now⟩) Ms vl z → z.rangeAt g (x * 28) p.p.o.l) := fun z h => (h.cellAt HPS.out).2
   have HT := Lib.hid hT7;clear hT7 x0 x1 d0 d26 d27 z26 z27
   gi_wp2
   have HTD := Lib.hid (HT.out.below (Below.refl _ _).drew)
   refine round_drawn (S := fun W => W.cell? ⟨N, 0, none⟩ = some (.pointer (some ⟨bs, 0, none⟩)) ∧ W.cell? ⟨bs, 0, none⟩ = some (.int .i64 tn) ∧ W.cell? ⟨g, x * 28, none⟩ = some (.int .i64 p.p.o.s)) (by kernel_rfl) (by kernel_rfl) (by rintro ⟨a, w, h⟩; revert h; simp [Exit.then, Exit.inBlock]; try (intro h; exact absurd h.1 (by simp))) ?_ (fun hHeld => ?_)
   ·exact HKP.out _ HTD.out
   have hT8 := HTD.out
   have hF8 := HFR.out.drew
   generalize World.drew _ = z at hT8 hF8 hHeld ⊢
   have HT := Lib.hid hT8;have HFR := Lib.hid hF8;clear hT8 hF8;refine tk 0 (some 29) ?_;refine tk 1 (some 30) ?_;refine tk 2 (some 31) ?_;refine tk 3 (some 32) ?_;refine tk 4 (some 33) ?_;refine tk 5 (some 34) ?_;refine tk 6 (some 35) ?_;refine tk 7 (some 36) ?_;refine tk 8 (some 37) ?_
   refine wpAnyH_ready (rs := [9, 10]) (by kernel_rfl) (by simp) (AllReadyH.cons (o := ⟨some 38, _, _, _, _, _⟩) rfl (fun K hK => ?_) (AllReadyH.cons (o := ⟨some 7, _, _, _, _, _⟩) rfl (fun K hK => ?_) AllReadyH.nil))
   ·go_simp
    refine (HME.out _).mono ?_
    rintro e z ⟨rfl, hbz⟩
    have HT := Lib.hid (HT.out.below hbz)
    have HFR := Lib.hid (HFR.out.trans (Fr.under (fun _ => False) hbz) (fun _ _ e => e.elim))
    try have HM := Lib.hid (HM.out.kept (hbz.block _ HM.out.lt))
    clear hbz;go_simp
    refine hK.out _ _ ?_ (fun hHeld2 => ?_)
    ·exact HKP.out _ HT.out
    clear hK K hHeld;rename _ => hHeld
    try simp only [Act.put, sa, sz, ss]
    refine rd1 10 (some 7) (fun K hK => ?_)
    go_simp
    obtain ⟨mb, hmb⟩ : ∃ mb, z.heap.size = mb := ⟨_, rfl⟩
    have HMA : Hid (A.heap.size ≤ mb) := (by rw [← hmb]; exact HFR.out.size : A.heap.size ≤ mb)
    have HMB : Hid (N + 4 ≤ mb ∧ vl.ownBlock ≠ some mb ∧ ∀ q ∈ Ms, q.al ≠ [] → ∀ a, q.o.ao = some a → a.block ≠ mb) := ⟨by rw [← hmb]; exact HT.out.sz, fun e => by have := own_lt HT.out.own mb e; omega, fun q hq hn a e => by have := ((HT.out.ams q hq).own hn a e).2.1; omega⟩
    have HM : Hid (Blk _ mb 32 lZm) := (by rw [← hmb]; exact Blk.new z _ _ : Blk (z.alloc (.cells aZm 32)) mb 32 lZm)
    have hbz : Below z.heap.size z (z.alloc (.cells aZm 32)) := (Below.refl _ z).alloc (Nat.le_refl _) _
    obtain ⟨z2, hz2⟩ : ∃ z2, z.alloc (.cells aZm 32) = z2 := ⟨_, rfl⟩
    rw [hz2] at HM hbz ⊢
    rw [hmb]
    have HT := Lib.hid (HT.out.below hbz)
    have HFR := Lib.hid (HFR.out.trans (Fr.under (fun _ => False) hbz) (fun _ _ e => e.elim))
    clear hz2 hbz hmb
    obtain ⟨z, rfl⟩ : ∃ z, z = z2 := ⟨_, rfl⟩
    refine hK.out _ _ ?_ (fun hHeld2 => ?_)
    ·exact HKP.out _ HT.out
    clear hK K hHeld;rename _ => hHeld
    try simp only [Act.put, sa, sz, ss]
    refine rd1 11 none (fun K hK => ?_)
    refine step_storeRow (by rfl) 32 (.tmp 7) (.tmp 38) (by rfl) mb 32 _ (msgA 1 tn p.p.o.s 0 0 0 0 0 0 0) (by rfl) (by rfl) HM.out (show 31 ≤ 31 by decide) HSM.out HO1.out ?_
    have HM := Lib.hid (Blk.sets (msgA 1 tn p.p.o.s 0 0 0 0 0 0 0).toList 0 HM.out)
    have HT := Lib.hid (HT.out.turn (Fr.setCells (S := fun c => c = mb) mb (msgA 1 tn p.p.o.s 0 0 0 0 0 0 0).toList 0 (Fr.refl _ _) (.inl rfl)) (fun c e => by subst e; exact ⟨HMB.out.1, HMB.out.2.1⟩) (fun q hq hn a e => HMB.out.2.2 q hq hn a e))
    have HFR := Lib.hid (Fr.setCells mb (msgA 1 tn p.p.o.s 0 0 0 0 0 0 0).toList 0 HFR.out (.inr HMA.out))
    generalize World.setCells _ _ _ _ = z at HM HT HFR ⊢
    refine hK.out _ _ ?_ (fun hHeld2 => ?_)
    ·exact HKP.out _ HT.out
    clear hK K hHeld;rename _ => hHeld
    try simp only [Act.put, sa, sz, ss]
    refine wpAnyH_done (by kernel_rfl) ?_ _;clear hHeld
    gi_upto_region 9 with (fail)
    refine round_region (by kernel_rfl) (by rintro ⟨a, w, h⟩; revert h; simp [Exit.then, Exit.inBlock]; try (intro h; exact absurd h.1 (by simp))) ?_
    have HR : Hid (z.rangeAt g (x * 28) p.p.o.l) := HRG.out _ HT.out
    go_wp2_with (refine wpList_load_mid rfl 30 (.tmp 41) rfl g (x * 28) rfl p.p.o.l _ HR.out Tryz.underlying30 rfl HSZ.out ?_)
    have ha9 := HT.out.sn.alts ⟨p.p, true, now⟩ (List.mem_of_getElem? HPS.out)
    refine (gOwn p.p.o p.p.al _ ha9.len ha9.few ha9.rd).mono ?_
    rintro e z9 ⟨oa9, ac9, rfl, hra9, hba9, hbz⟩
    have HA9 : Hid (GAt z9 (N + 4) (N + 2) (N + 2) vl ⟨p.p.o.withA oa9 ac9, p.p.al⟩) := TkG.fresh HT.out hbz ha9 hra9 hba9
    have hba0 := hba9
    clear ha9 hra9 hba9
    have HT9 := Lib.hid (HT.out.below hbz)
    have HF9 := Lib.hid (HFR.out.trans (Fr.under (fun _ => False) hbz) (fun _ _ e => e.elim))
    have HM9 := Lib.hid (HM.out.kept (hbz.block _ HM.out.lt))
    have HTH := Lib.hid (HM9.out.there 5 26 (by rw [setsL_len]; exact Nat.le_refl 31))
    have HMN : Hid (∀ a, oa9 = some a → a.block ≠ mb) := fun a e => by have h1 := hba0 a e; have h2 := HM.out.lt; omega
    clear hbz hba0
    go_wp2_with (refine wpList_store_mid rfl 30 (.tmp 44) (.tmp 43) rfl mb 5 (p.p.o.withA oa9 ac9).l.toArray rfl rfl HTH.out HSZ.out (p.p.o.withA oa9 ac9).oneC ?_)
    have hM10 := Blk.sets (p.p.o.withA oa9 ac9).l 5 HM9.out
    rw [gmsg_sets] at hM10;have HM10 := Lib.hid hM10;clear hM10
    have HT10 := Lib.hid (HT9.out.turn (Fr.setCells (S := fun c => c = mb) mb (p.p.o.withA oa9 ac9).l 5 (Fr.refl _ _) (.inl rfl)) (fun c e => by subst e; exact ⟨HMB.out.1, HMB.out.2.1⟩) (fun q hq hn a e => HMB.out.2.2 q hq hn a e))
    have HF10 := Lib.hid (Fr.setCells mb (p.p.o.withA oa9 ac9).l 5 HF9.out (.inr HMA.out))
    have HA10 : Hid (GAt _ (N + 4) (N + 2) (N + 2) vl ⟨p.p.o.withA oa9 ac9, p.p.al⟩) := HA9.out.turn (Fr.setCells (S := fun c => c = mb) mb (p.p.o.withA oa9 ac9).l 5 (Fr.refl _ _) (.inl rfl)) (fun hn a e => HMN.out a e) (fun c e => .inl e)
    generalize World.setCells _ _ _ _ = z10 at HM10 HT10 HF10 HA10 ⊢
    gi_upto_region 10 with (fail)
    refine round_region (by kernel_rfl) (by rintro ⟨a, w, h⟩; revert h; simp [Exit.then, Exit.inBlock]; try (intro h; exact absurd h.1 (by simp))) ?_
    have l0 := HT10.out.lb.cell 0
    simp only [List.getElem?_cons_zero] at l0
    obtain ⟨oa, cap, w5, hrun, ho5, hf5, hk5⟩ := app_msg z10 (N + 4) vl Ms.length (gmCells tn Ms) [.int .i64 1, .int .i64 tn, .int .i64 p.p.o.s, .int .i64 0, .int .i64 0, .int .i64 p.p.o.s, .int .i64 p.p.o.ch, .int .i64 p.p.o.f, .int .i64 p.p.o.k, .int .i64 p.p.o.e, .int .i64 p.p.o.n, .int .i64 p.p.o.nid, .int .i64 p.p.o.item, .int .i64 p.p.o.frs, .int .i64 p.p.o.ear, .int .i64 p.p.o.lat, .int .i64 p.p.o.book, .slice oa9 p.p.o.an ac9, .int .i64 p.p.o.cl.kind, .int .i64 p.p.o.cl.item, .int .i64 p.p.o.cl.frm, .int .i64 p.p.o.cl.til, .int .i64 p.p.o.cl.regs, .int .i64 p.p.o.cl.n, .int .i64 p.p.o.cl.a, .int .i64 p.p.o.cl.b, .int .i64 p.p.o.qid, .int .i64 p.p.o.qf, .int .i64 p.p.o.qt, .int .i64 p.p.o.qp, .string p.p.o.txt] HT10.out.own (by have := sentG_len L f now x; have := HC.out.len; omega) HT10.out.sz 55 rfl (by simp [Value.oneCell'])
    have hb5 := HT10.out.lb.kept (hf5.block _ HT10.out.lb.lt (fun e => by have := own_ge HT10.out.own _ e; omega))
    have l5 := hb5.cell 0
    have z5 := hb5.frozen 0
    simp only [List.getElem?_cons_zero] at l5
    have HT11 := Lib.hid (TkG.app (q := ⟨p.p.o.withA oa9 ac9, p.p.al⟩) HT10.out ho5 hf5 hk5 (HA10.out))
    have HF11 := Lib.hid ((HF10.out.trans hf5 (fun i _ e => .inr (.inr e))).setCell ⟨N + 2, 0, none⟩ (.slice oa (Ms.length + 1) cap) (.inl (.inr (.inl rfl))))
    have HC11 := Lib.hid (HC.out.snoc (q := ⟨p.p.o.withA oa9 ac9, p.p.al⟩) (p := p.p) rfl ⟨oa9, ac9, rfl⟩)
    clear ho5 hf5 hk5 hb5
    go_wp2_with (first | (refine wpList_load_mid rfl 32 (.tmp 7) rfl mb 0 rfl [.int .i64 1, .int .i64 tn, .int .i64 p.p.o.s, .int .i64 0, .int .i64 0, .int .i64 p.p.o.s, .int .i64 p.p.o.ch, .int .i64 p.p.o.f, .int .i64 p.p.o.k, .int .i64 p.p.o.e, .int .i64 p.p.o.n, .int .i64 p.p.o.nid, .int .i64 p.p.o.item, .int .i64 p.p.o.frs, .int .i64 p.p.o.ear, .int .i64 p.p.o.lat, .int .i64 p.p.o.book, .slice oa9 p.p.o.an ac9, .int .i64 p.p.o.cl.kind, .int .i64 p.p.o.cl.item, .int .i64 p.p.o.cl.frm, .int .i64 p.p.o.cl.til, .int .i64 p.p.o.cl.regs, .int .i64 p.p.o.cl.n, .int .i64 p.p.o.cl.a, .int .i64 p.p.o.cl.b, .int .i64 p.p.o.qid, .int .i64 p.p.o.qf, .int .i64 p.p.o.qt, .int .i64 p.p.o.qp, .string p.p.o.txt] _ HM10.out.range Tryz.underlying32 rfl HSM.out ?_) | (at_builtin; refine wpList_append_run _ rfl _ _ 55 rfl _ _ _ _ rfl rfl hrun ?_; clear hrun))
    exact ⟨HF11.out.othersC (fun c o hs ho => HTA.out.cells c hs o ho), KpS.fr HF11.out, _, _, rfl, TkR.mk (by rw [e1.out, e3.out]; exact HT11.out) (by rw [e2.out]; exact HC11.out)⟩
   ·go_simp
    obtain ⟨mb, hmb⟩ : ∃ mb, z.heap.size = mb := ⟨_, rfl⟩
    have HMA : Hid (A.heap.size ≤ mb) := (by rw [← hmb]; exact HFR.out.size : A.heap.size ≤ mb)
    have HMB : Hid (N + 4 ≤ mb ∧ vl.ownBlock ≠ some mb ∧ ∀ q ∈ Ms, q.al ≠ [] → ∀ a, q.o.ao = some a → a.block ≠ mb) := ⟨by rw [← hmb]; exact HT.out.sz, fun e => by have := own_lt HT.out.own mb e; omega, fun q hq hn a e => by have := ((HT.out.ams q hq).own hn a e).2.1; omega⟩
    have HM : Hid (Blk _ mb 32 lZm) := (by rw [← hmb]; exact Blk.new z _ _ : Blk (z.alloc (.cells aZm 32)) mb 32 lZm)
    have hbz : Below z.heap.size z (z.alloc (.cells aZm 32)) := (Below.refl _ z).alloc (Nat.le_refl _) _
    obtain ⟨z2, hz2⟩ : ∃ z2, z.alloc (.cells aZm 32) = z2 := ⟨_, rfl⟩
    rw [hz2] at HM hbz ⊢
    rw [hmb]
    have HT := Lib.hid (HT.out.below hbz)
    have HFR := Lib.hid (HFR.out.trans (Fr.under (fun _ => False) hbz) (fun _ _ e => e.elim))
    clear hz2 hbz hmb
    obtain ⟨z, rfl⟩ : ∃ z, z = z2 := ⟨_, rfl⟩
    refine hK.out _ _ ?_ (fun hHeld2 => ?_)
    ·exact HKP.out _ HT.out
    clear hK K hHeld;rename _ => hHeld
    try simp only [Act.put, sa, sz, ss]
    refine rd1 9 (some 38) (fun K hK => ?_)
    go_simp
    refine (HME.out _).mono ?_
    rintro e z ⟨rfl, hbz⟩
    have HT := Lib.hid (HT.out.below hbz)
    have HFR := Lib.hid (HFR.out.trans (Fr.under (fun _ => False) hbz) (fun _ _ e => e.elim))
    try have HM := Lib.hid (HM.out.kept (hbz.block _ HM.out.lt))
    clear hbz;go_simp
    refine hK.out _ _ ?_ (fun hHeld2 => ?_)
    ·exact HKP.out _ HT.out
    clear hK K hHeld;rename _ => hHeld
    try simp only [Act.put, sa, sz, ss]
    refine rd1 11 none (fun K hK => ?_)
    refine step_storeRow (by rfl) 32 (.tmp 7) (.tmp 38) (by rfl) mb 32 _ (msgA 1 tn p.p.o.s 0 0 0 0 0 0 0) (by rfl) (by rfl) HM.out (show 31 ≤ 31 by decide) HSM.out HO1.out ?_
    have HM := Lib.hid (Blk.sets (msgA 1 tn p.p.o.s 0 0 0 0 0 0 0).toList 0 HM.out)
    have HT := Lib.hid (HT.out.turn (Fr.setCells (S := fun c => c = mb) mb (msgA 1 tn p.p.o.s 0 0 0 0 0 0 0).toList 0 (Fr.refl _ _) (.inl rfl)) (fun c e => by subst e; exact ⟨HMB.out.1, HMB.out.2.1⟩) (fun q hq hn a e => HMB.out.2.2 q hq hn a e))
    have HFR := Lib.hid (Fr.setCells mb (msgA 1 tn p.p.o.s 0 0 0 0 0 0 0).toList 0 HFR.out (.inr HMA.out))
    generalize World.setCells _ _ _ _ = z at HM HT HFR ⊢
    refine hK.out _ _ ?_ (fun hHeld2 => ?_)
    ·exact HKP.out _ HT.out
    clear hK K hHeld;rename _ => hHeld
    try simp only [Act.put, sa, sz, ss]
    refine wpAnyH_done (by kernel_rfl) ?_ _;clear hHeld
    gi_upto_region 9 with (fail)
    refine round_region (by kernel_rfl) (by rintro ⟨a, w, h⟩; revert h; simp [Exit.then, Exit.inBlock]; try (intro h; exact absurd h.1 (by simp))) ?_
    have HR : Hid (z.rangeAt g (x * 28) p.p.o.l) := HRG.out _ HT.out
    go_wp2_with (refine wpList_load_mid rfl 30 (.tmp 41) rfl g (x * 28) rfl p.p.o.l _ HR.out Tryz.underlying30 rfl HSZ.out ?_)
    have ha9 := HT.out.sn.alts ⟨p.p, true, now⟩ (List.mem_of_getElem? HPS.out)
    refine (gOwn p.p.o p.p.al _ ha9.len ha9.few ha9.rd).mono ?_
    rintro e z9 ⟨oa9, ac9, rfl, hra9, hba9, hbz⟩
    have HA9 : Hid (GAt z9 (N + 4) (N + 2) (N + 2) vl ⟨p.p.o.withA oa9 ac9, p.p.al⟩) := TkG.fresh HT.out hbz ha9 hra9 hba9
    have hba0 := hba9
    clear ha9 hra9 hba9
    have HT9 := Lib.hid (HT.out.below hbz)
    have HF9 := Lib.hid (HFR.out.trans (Fr.under (fun _ => False) hbz) (fun _ _ e => e.elim))
    have HM9 := Lib.hid (HM.out.kept (hbz.block _ HM.out.lt))
    have HTH := Lib.hid (HM9.out.there 5 26 (by rw [setsL_len]; exact Nat.le_refl 31))
    have HMN : Hid (∀ a, oa9 = some a → a.block ≠ mb) := fun a e => by have h1 := hba0 a e; have h2 := HM.out.lt; omega
    clear hbz hba0
    go_wp2_with (refine wpList_store_mid rfl 30 (.tmp 44) (.tmp 43) rfl mb 5 (p.p.o.withA oa9 ac9).l.toArray rfl rfl HTH.out HSZ.out (p.p.o.withA oa9 ac9).oneC ?_)
    have hM10 := Blk.sets (p.p.o.withA oa9 ac9).l 5 HM9.out
    rw [gmsg_sets] at hM10;have HM10 := Lib.hid hM10;clear hM10
    have HT10 := Lib.hid (HT9.out.turn (Fr.setCells (S := fun c => c = mb) mb (p.p.o.withA oa9 ac9).l 5 (Fr.refl _ _) (.inl rfl)) (fun c e => by subst e; exact ⟨HMB.out.1, HMB.out.2.1⟩) (fun q hq hn a e => HMB.out.2.2 q hq hn a e))
    have HF10 := Lib.hid (Fr.setCells mb (p.p.o.withA oa9 ac9).l 5 HF9.out (.inr HMA.out))
    have HA10 : Hid (GAt _ (N + 4) (N + 2) (N + 2) vl ⟨p.p.o.withA oa9 ac9, p.p.al⟩) := HA9.out.turn (Fr.setCells (S := fun c => c = mb) mb (p.p.o.withA oa9 ac9).l 5 (Fr.refl _ _) (.inl rfl)) (fun hn a e => HMN.out a e) (fun c e => .inl e)
    generalize World.setCells _ _ _ _ = z10 at HM10 HT10 HF10 HA10 ⊢
    gi_upto_region 10 with (fail)
    refine round_region (by kernel_rfl) (by rintro ⟨a, w, h⟩; revert h; simp [Exit.then, Exit.inBlock]; try (intro h; exact absurd h.1 (by simp))) ?_
    have l0 := HT10.out.lb.cell 0
    simp only [List.getElem?_cons_zero] at l0
    obtain ⟨oa, cap, w5, hrun, ho5, hf5, hk5⟩ := app_msg z10 (N + 4) vl Ms.length (gmCells tn Ms) [.int .i64 1, .int .i64 tn, .int .i64 p.p.o.s, .int .i64 0, .int .i64 0, .int .i64 p.p.o.s, .int .i64 p.p.o.ch, .int .i64 p.p.o.f, .int .i64 p.p.o.k, .int .i64 p.p.o.e, .int .i64 p.p.o.n, .int .i64 p.p.o.nid, .int .i64 p.p.o.item, .int .i64 p.p.o.frs, .int .i64 p.p.o.ear, .int .i64 p.p.o.lat, .int .i64 p.p.o.book, .slice oa9 p.p.o.an ac9, .int .i64 p.p.o.cl.kind, .int .i64 p.p.o.cl.item, .int .i64 p.p.o.cl.frm, .int .i64 p.p.o.cl.til, .int .i64 p.p.o.cl.regs, .int .i64 p.p.o.cl.n, .int .i64 p.p.o.cl.a, .int .i64 p.p.o.cl.b, .int .i64 p.p.o.qid, .int .i64 p.p.o.qf, .int .i64 p.p.o.qt, .int .i64 p.p.o.qp, .string p.p.o.txt] HT10.out.own (by have := sentG_len L f now x; have := HC.out.len; omega) HT10.out.sz 55 rfl (by simp [Value.oneCell'])
    have hb5 := HT10.out.lb.kept (hf5.block _ HT10.out.lb.lt (fun e => by have := own_ge HT10.out.own _ e; omega))
    have l5 := hb5.cell 0
    have z5 := hb5.frozen 0
    simp only [List.getElem?_cons_zero] at l5
    have HT11 := Lib.hid (TkG.app (q := ⟨p.p.o.withA oa9 ac9, p.p.al⟩) HT10.out ho5 hf5 hk5 (HA10.out))
    have HF11 := Lib.hid ((HF10.out.trans hf5 (fun i _ e => .inr (.inr e))).setCell ⟨N + 2, 0, none⟩ (.slice oa (Ms.length + 1) cap) (.inl (.inr (.inl rfl))))
    have HC11 := Lib.hid (HC.out.snoc (q := ⟨p.p.o.withA oa9 ac9, p.p.al⟩) (p := p.p) rfl ⟨oa9, ac9, rfl⟩)
    clear ho5 hf5 hk5 hb5
    go_wp2_with (first | (refine wpList_load_mid rfl 32 (.tmp 7) rfl mb 0 rfl [.int .i64 1, .int .i64 tn, .int .i64 p.p.o.s, .int .i64 0, .int .i64 0, .int .i64 p.p.o.s, .int .i64 p.p.o.ch, .int .i64 p.p.o.f, .int .i64 p.p.o.k, .int .i64 p.p.o.e, .int .i64 p.p.o.n, .int .i64 p.p.o.nid, .int .i64 p.p.o.item, .int .i64 p.p.o.frs, .int .i64 p.p.o.ear, .int .i64 p.p.o.lat, .int .i64 p.p.o.book, .slice oa9 p.p.o.an ac9, .int .i64 p.p.o.cl.kind, .int .i64 p.p.o.cl.item, .int .i64 p.p.o.cl.frm, .int .i64 p.p.o.cl.til, .int .i64 p.p.o.cl.regs, .int .i64 p.p.o.cl.n, .int .i64 p.p.o.cl.a, .int .i64 p.p.o.cl.b, .int .i64 p.p.o.qid, .int .i64 p.p.o.qf, .int .i64 p.p.o.qt, .int .i64 p.p.o.qp, .string p.p.o.txt] _ HM10.out.range Tryz.underlying32 rfl HSM.out ?_) | (at_builtin; refine wpList_append_run _ rfl _ _ 55 rfl _ _ _ _ rfl rfl hrun ?_; clear hrun))
    exact ⟨HF11.out.othersC (fun c o hs ho => HTA.out.cells c hs o ho), KpS.fr HF11.out, _, _, rfl, TkR.mk (by rw [e1.out, e3.out]; exact HT11.out) (by rw [e2.out]; exact HC11.out)⟩
 case hdone =>
  rintro D A hst hD ⟨S, vl, _, Ms, h, hcc⟩ hdef
  have e1 : f + (List.range' f (n - f)).length = n := by rw [List.length_range']; omega
  rw [e1] at h hcc;have HC := Lib.hid hcc;clear hcc;have HDF := Lib.hid hdef
  have HD : Hid (N + 4 ≤ D) := (by rw [← HZ4.out]; exact hD : N + 4 ≤ D)
  have HT := Lib.hid (h.put hdef rfl HD.out (.deferred none))
  have l0 := h.lb.cell 0
  simp only [List.getElem?_cons_zero] at l0
  clear hst hdef h e1 hD
  go_wp2_with fail
  try rw [Exit.noGoto_ret]
  refine postM_mark' (v := vl) HDF.out (by simp [results, Tryz.results20, go_sem]) ?_
  have hbs := HT.out.bsN
  refine ⟨vl, Ms, rfl, ?_, ?_, fun q hq => ⟨(HT.out.ams q hq).len, (HT.out.ams q hq).few, (HT.out.ams q hq).rd, fun hn a e => ?_⟩, ?_, HT.out.fr⟩
  ·rw [HT.out.nz]
   exact own_weakF HT.out.own (by omega)
  ·rw [HNN.out, HF.out]
   exact HC.out
  ·obtain ⟨h1, h2, h3, h4, h5⟩ := (HT.out.ams q hq).own hn a e
   rw [HT.out.nz];exact ⟨by omega, h2, by omega, by omega, h5⟩
  ·rw [HNN.out, HF.out]
   exact HT.out.sn
end Go.Proofs.YtjkiidhnmljmbaaGreatDoor
