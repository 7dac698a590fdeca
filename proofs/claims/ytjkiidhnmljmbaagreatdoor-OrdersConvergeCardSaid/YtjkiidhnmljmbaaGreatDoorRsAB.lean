/- The reference's sender and receiver in memory, with orders of every kind. -/
import Derived.Deep.CutBlock
import Derived.Test.YtjkiidhnmljmbaaGreatDoorGsCD
import Derived.Test.YtjkiidhnmljmbaaGreatDoorRkFG
set_option linter.unusedVariables false
set_option linter.unusedSimpArgs false
set_option maxRecDepth 100000
set_option maxHeartbeats 8000000
namespace Go.Proofs.YtjkiidhnmljmbaaGreatDoor
open Go.RowKit
structure AtA (W : World) (S : Nat → Prop) (p : GP) : Prop where
 len : p.al.length = p.o.an
 few : p.o.an ≤ 1000000
 rd : RdA W p.o.ao p.al
 far : p.al ≠ [] → ∀ a, p.o.ao = some a → ¬ S a.block
theorem RdA.lt {W : World} {ao : Option Addr} {al : List (Int × Int)} (h : RdA W ao al) (hn : al ≠ []) (a : Addr) (e : ao = some a) : a.block < W.heap.size := by
 rcases h with h | ⟨b, f, h1, h2, h3⟩
 ·exact absurd h hn
 ·rw [h1] at e
  cases e
  exact h2
theorem AtA.turn {W W' : World} {S S' T : Nat → Prop} {p : GP} (h : AtA W S p) (hf : Fr T W W') (hT : p.al ≠ [] → ∀ a, p.o.ao = some a → ¬ T a.block) (hS : ∀ c, S' c → S c ∨ W.heap.size ≤ c) : AtA W' S' p := by
 refine ⟨h.len, h.few, ?_, fun hn a e hs => ?_⟩
 ·by_cases hn : p.al = []
  ·exact .inl hn
  ·exact h.rd.keptB hf.size (fun b o e hlt => hf.block b hlt (hT hn _ e))
 ·rcases hS _ hs with h1 | h1
  ·exact h.far hn a e h1
  ·have := h.rd.lt hn a e
   omega
def SaS (ba : Nat) (vL vS : Value) (c : Nat) : Prop := c = ba ∨ vL.ownBlock = some c ∨ vS.ownBlock = some c
structure SaG (W : World) (ba : Nat) (tn : Int) (vL vS : Value) (L : List GP) (k : Nat) (T : List Int) : Prop where
 blk : Blk W ba 67 [.int .i64 tn, vL, .int .i64 k, vS]
 ownL : W.ownsRow 0 30 26 vL L.length (gCells L)
 ownS : W.ownsRow 0 3 1 vS T.length (iC T)
 len : T.length = L.length
 neL : ∀ g, vL.ownBlock = some g → g ≠ ba
 neS : ∀ g, vS.ownBlock = some g → g ≠ ba
 neLS : ∀ g, vL.ownBlock = some g → vS.ownBlock ≠ some g
 alts : ∀ q ∈ L, AtA W (SaS ba vL vS) q
section
variable {W W' : World} {ba : Nat} {tn : Int} {vL vS : Value} {L : List GP} {k : Nat} {T : List Int}
theorem SaG.turn (h : SaG W ba tn vL vS L k T) {S : Nat → Prop} (hf : Fr S W W') (hS : ∀ c, S c → ¬ SaS ba vL vS c) (hA : ∀ q ∈ L, q.al ≠ [] → ∀ a, q.o.ao = some a → ¬ S a.block) : SaG W' ba tn vL vS L k T :=
 ⟨h.blk.kept (hf.block _ h.blk.lt (fun e => hS _ e (.inl rfl))), ownsRow_keptF h.ownL (fun g e => hf.block g (own_lt h.ownL g e) (fun hs => hS g hs (.inr (.inl e)))), ownsRow_keptF h.ownS (fun g e => hf.block g (own_lt h.ownS g e) (fun hs => hS g hs (.inr (.inr e)))), h.len, h.neL, h.neS, h.neLS, fun q hq => (h.alts q hq).turn hf (hA q hq) (fun c e => .inl e)⟩
theorem SaG.below (h : SaG W ba tn vL vS L k T) (hb : Below W.heap.size W W') : SaG W' ba tn vL vS L k T := h.turn (Fr.under (fun _ => False) hb) (fun _ e => e.elim) (fun _ _ _ _ _ e => e)
theorem SaG.lt (h : SaG W ba tn vL vS L k T) (c : Nat) (hc : SaS ba vL vS c) : c < W.heap.size := by
 rcases hc with e | e | e
 ·rw [e]
  exact h.blk.lt
 ·exact own_lt h.ownL c e
 ·exact own_lt h.ownS c e
theorem SaG.rd {oa : Option Addr} {n cap : Nat} (h : SaG W ba tn (.slice oa n cap) vS L k T) : RdG W oa L := rdg_of h.ownL (fun p hp => ⟨(h.alts p hp).len, (h.alts p hp).few, (h.alts p hp).rd⟩)
theorem SaG.add {W1 W2 : World} {oL oS : Option Addr} {nL cL nS cS : Nat} {q : GP} (h : SaG W ba tn vL vS L k T) (hq : AtA W (SaS ba vL vS) q)
  (ho1 : W1.ownsRow 0 30 26 (.slice oL nL cL) (L ++ [q]).length (gCells (L ++ [q]))) (hf1 : Fr (fun c => vL.ownBlock = some c) W W1) (hn1 : ∀ c, (Value.slice oL nL cL).ownBlock = some c → vL.ownBlock = some c ∨ W.heap.size ≤ c)
  (ho2 : W2.ownsRow 0 3 1 (.slice oS nS cS) (T ++ [-1]).length (iC (T ++ [-1]))) (hf2 : Fr (fun c => vS.ownBlock = some c) (W1.setCell ⟨ba, 1, none⟩ (.slice oL nL cL)) W2) (hn2 : ∀ c, (Value.slice oS nS cS).ownBlock = some c → vS.ownBlock = some c ∨ W1.heap.size ≤ c) :
  SaG (W2.setCell ⟨ba, 3, none⟩ (.slice oS nS cS)) ba tn (.slice oL nL cL) (.slice oS nS cS) (L ++ [q]) k (T ++ [-1]) ∧ Fr (SaS ba vL vS) W (W2.setCell ⟨ba, 3, none⟩ (.slice oS nS cS)) ∧ ∀ c, SaS ba (.slice oL nL cL) (.slice oS nS cS) c → SaS ba vL vS c ∨ W.heap.size ≤ c := by
 have hl := h.blk.lt
 have hz1 := hf1.size
 have hz : (W1.setCell ⟨ba, 1, none⟩ (.slice oL nL cL)).heap.size = W1.heap.size := by simp [World.setCell]
 have hL1 : ∀ c, (Value.slice oL nL cL).ownBlock = some c → c ≠ ba := fun c e => (hn1 c e).elim (fun e => h.neL c e) (fun e => by omega)
 have hS1 : ∀ c, (Value.slice oS nS cS).ownBlock = some c → c ≠ ba := fun c e => (hn2 c e).elim (fun e => h.neS c e) (fun e => by omega)
 have hlt1 : ∀ c, (Value.slice oL nL cL).ownBlock = some c → c < W1.heap.size := fun c e => own_lt ho1 c e
 have hLS : ∀ c, (Value.slice oL nL cL).ownBlock = some c → (Value.slice oS nS cS).ownBlock ≠ some c := fun c e e' => by
  rcases hn2 c e' with h2 | h2
  ·rcases hn1 c e with h3 | h3
   ·exact h.neLS c h3 h2
   ·have := own_lt h.ownS c h2
    omega
  ·have := hlt1 c e
   omega
 have hLS2 : ∀ c, (Value.slice oL nL cL).ownBlock = some c → vS.ownBlock ≠ some c := fun c e e' => by
  rcases hn1 c e with h3 | h3
  ·exact h.neLS c h3 e'
  ·have := own_lt h.ownS c e'
   omega
 have hsub : ∀ c, SaS ba (.slice oL nL cL) (.slice oS nS cS) c → SaS ba vL vS c ∨ W.heap.size ≤ c := by
  rintro c (e | e | e)
  ·exact .inl (.inl e)
  ·exact (hn1 c e).imp (fun h => .inr (.inl h)) id
  ·exact (hn2 c e).imp (fun h => .inr (.inr h)) (fun h => by omega)
 have hf : Fr (SaS ba vL vS) W (W2.setCell ⟨ba, 3, none⟩ (.slice oS nS cS)) :=
  (((Fr.mono (S' := SaS ba vL vS) hf1 (fun c h => Or.inr (Or.inl h))).setCell ⟨ba, 1, none⟩ _ (.inl (.inl rfl))).trans hf2 (fun c _ h => .inr (.inr h))).setCell ⟨ba, 3, none⟩ _ (.inl (.inl rfl))
 have hb1 : Blk W1 ba 67 [.int .i64 tn, vL, .int .i64 k, vS] := h.blk.kept (hf1.block _ hl (fun e => h.neL _ e rfl))
 have hb2 := (hb1.set 1 (.slice oL nL cL))
 have hb3 := hb2.kept (hf2.block _ hb2.lt (fun e => h.neS _ e rfl))
 refine ⟨⟨hb3.set 3 _, ?_, ?_, by simp [h.len], hL1, hS1, hLS, fun p hp => ?_⟩, hf, hsub⟩
 ·refine ownsRow_keptF ho1 (fun c e => ?_)
  refine (Below.heap_setCell _ _ _ _ (hL1 c e)).trans ((hf2.block c (by rw [hz]; exact hlt1 c e) (hLS2 c e)).trans (Below.heap_setCell _ _ _ _ (hL1 c e)))
 ·exact ownsRow_keptF ho2 (fun c e => Below.heap_setCell _ _ _ _ (hS1 c e))
 ·have ha : AtA W (SaS ba vL vS) p := by
   rcases List.mem_append.1 hp with hp | hp
   ·exact h.alts p hp
   ·rw [List.mem_singleton.1 hp]
    exact hq
  exact ha.turn hf ha.far hsub
theorem SaG.setT {g cap : Nat} {n : Nat} (h : SaG W ba tn vL (.slice (some ⟨g, 0, none⟩) n cap) L k T) (j : Nat) (v : Int) : SaG (W.setCell ⟨g, j, none⟩ (.int .i64 v)) ba tn vL (.slice (some ⟨g, 0, none⟩) n cap) L k (T.set j v) := by
 have hg : g ≠ ba := h.neS g rfl
 have hfr : Fr (fun c => c = g) W (W.setCell ⟨g, j, none⟩ (.int .i64 v)) := (Fr.refl (fun c => c = g) W).setCell ⟨g, j, none⟩ _ (.inl rfl)
 refine ⟨h.blk.other _ hg _, ownsRow_keptF h.ownL (fun c e => Below.heap_setCell _ _ _ _ (fun e' => h.neLS c e (by rw [e']; rfl))), ?_, by rw [List.length_set]; exact h.len, h.neL, h.neS, h.neLS, fun q hq => (h.alts q hq).turn hfr (fun hn a e hs => (h.alts q hq).far hn a e (.inr (.inr (by rw [hs]; rfl)))) (fun c e => .inl e)⟩
 have ho := h.ownS
 obtain ⟨oa, cap', he⟩ := own_slice ho
 simp only [Value.slice.injEq] at he
 obtain ⟨_, hn, _⟩ := he
 subst hn
 have h1 := ownsRow_set ho j (.int .i64 v)
 have e : iC (T.set j v) = (iC T).set j (.int .i64 v) := by unfold iC; rw [List.map_set]
 rw [e, List.length_set];exact h1
theorem SaG.ack (h : SaG W ba tn vL vS L k T) (sq : Nat) : SaG (W.setCell ⟨ba, 2, none⟩ (.int .i64 sq)) ba tn vL vS L sq T := by
 have hfr : Fr (fun c => c = ba) W (W.setCell ⟨ba, 2, none⟩ (.int .i64 sq)) := (Fr.refl (fun c => c = ba) W).setCell ⟨ba, 2, none⟩ _ (.inl rfl)
 exact ⟨h.blk.set 2 _, ownsRow_keptF h.ownL (fun c e => Below.heap_setCell _ _ _ _ (h.neL c e)), ownsRow_keptF h.ownS (fun c e => Below.heap_setCell _ _ _ _ (h.neS c e)), h.len, h.neL, h.neS, h.neLS, fun q hq => (h.alts q hq).turn hfr (fun hn a e hs => (h.alts q hq).far hn a e (.inl hs)) (fun c e => .inl e)⟩
theorem SaG.tAt {oS : Option Addr} {n cap j : Nat} (h : SaG W ba tn vL (.slice oS n cap) L k T) (t : Int) (hj : T[j]? = some t) : ∃ g, oS = some ⟨g, 0, none⟩ ∧ n = T.length ∧ W.cell? ⟨g, j, none⟩ = some (.int .i64 t) ∧ W.frozen? ⟨g, j, none⟩ = false := by
 have hl := (List.getElem?_eq_some_iff.1 hj).1
 have h' := h.ownS
 rcases h'.2 with ⟨he, h0⟩ | ⟨g, cap', cur, he, q1, q2, q3⟩
 ·omega
 ·simp only [Value.slice.injEq] at he
  obtain ⟨rfl, rfl, rfl⟩ := he
  refine ⟨g, rfl, rfl, ?_, own_frozen h' j⟩
  rw [h'.cellAt j (by omega)]
  unfold iC
  rw [List.getElem?_map, hj]
  rfl
end
structure RbG (W : World) (bb : Nat) (tn : Int) (vl vE : Value) (l E : List GP) : Prop where
 blk : Blk W bb 60 [.int .i64 tn, vl, vE]
 ownl : W.ownsRow 0 30 26 vl l.length (gCells l)
 ownE : W.ownsRow 0 30 26 vE E.length (gCells E)
 nel : ∀ g, vl.ownBlock = some g → g ≠ bb
 neE : ∀ g, vE.ownBlock = some g → g ≠ bb
 nelE : ∀ g, vl.ownBlock = some g → vE.ownBlock ≠ some g
 alts : ∀ q, q ∈ l ∨ q ∈ E → AtA W (SaS bb vl vE) q
section
variable {W W' : World} {bb : Nat} {tn : Int} {vl vE : Value} {l E : List GP}
theorem RbG.turn (h : RbG W bb tn vl vE l E) {S : Nat → Prop} (hf : Fr S W W') (hS : ∀ c, S c → ¬ SaS bb vl vE c) (hA : ∀ q, q ∈ l ∨ q ∈ E → q.al ≠ [] → ∀ a, q.o.ao = some a → ¬ S a.block) : RbG W' bb tn vl vE l E :=
 ⟨h.blk.kept (hf.block _ h.blk.lt (fun e => hS _ e (.inl rfl))), ownsRow_keptF h.ownl (fun g e => hf.block g (own_lt h.ownl g e) (fun hs => hS g hs (.inr (.inl e)))), ownsRow_keptF h.ownE (fun g e => hf.block g (own_lt h.ownE g e) (fun hs => hS g hs (.inr (.inr e)))), h.nel, h.neE, h.nelE, fun q hq => (h.alts q hq).turn hf (hA q hq) (fun c e => .inl e)⟩
theorem RbG.below (h : RbG W bb tn vl vE l E) (hb : Below W.heap.size W W') : RbG W' bb tn vl vE l E := h.turn (Fr.under (fun _ => False) hb) (fun _ e => e.elim) (fun _ _ _ _ _ e => e)
theorem RbG.lt (h : RbG W bb tn vl vE l E) (c : Nat) (hc : SaS bb vl vE c) : c < W.heap.size := by
 rcases hc with e | e | e
 ·rw [e]
  exact h.blk.lt
 ·exact own_lt h.ownl c e
 ·exact own_lt h.ownE c e
theorem RbG.rdE {oa : Option Addr} {n cap : Nat} (h : RbG W bb tn vl (.slice oa n cap) l E) : RdG W oa E := rdg_of h.ownE (fun p hp => ⟨(h.alts p (.inr hp)).len, (h.alts p (.inr hp)).few, (h.alts p (.inr hp)).rd⟩)
theorem RbG.rdl {oa : Option Addr} {n cap : Nat} (h : RbG W bb tn (.slice oa n cap) vE l E) : RdG W oa l := rdg_of h.ownl (fun p hp => ⟨(h.alts p (.inl hp)).len, (h.alts p (.inl hp)).few, (h.alts p (.inl hp)).rd⟩)
theorem RbG.appl {W1 : World} {oL : Option Addr} {nL cL : Nat} {q : GP} (h : RbG W bb tn vl vE l E) (hq : AtA W (SaS bb vl vE) q)
  (ho1 : W1.ownsRow 0 30 26 (.slice oL nL cL) (l ++ [q]).length (gCells (l ++ [q]))) (hf1 : Fr (fun c => vl.ownBlock = some c) W W1) (hn1 : ∀ c, (Value.slice oL nL cL).ownBlock = some c → vl.ownBlock = some c ∨ W.heap.size ≤ c) :
  RbG (W1.setCell ⟨bb, 1, none⟩ (.slice oL nL cL)) bb tn (.slice oL nL cL) vE (l ++ [q]) E ∧ Fr (SaS bb vl vE) W (W1.setCell ⟨bb, 1, none⟩ (.slice oL nL cL)) ∧ ∀ c, SaS bb (.slice oL nL cL) vE c → SaS bb vl vE c ∨ W.heap.size ≤ c := by
 have hl := h.blk.lt
 have hL1 : ∀ c, (Value.slice oL nL cL).ownBlock = some c → c ≠ bb := fun c e => (hn1 c e).elim (fun e => h.nel c e) (fun e => by omega)
 have hLS : ∀ c, (Value.slice oL nL cL).ownBlock = some c → vE.ownBlock ≠ some c := fun c e e' => by
  rcases hn1 c e with h3 | h3
  ·exact h.nelE c h3 e'
  ·have := own_lt h.ownE c e'
   omega
 have hsub : ∀ c, SaS bb (.slice oL nL cL) vE c → SaS bb vl vE c ∨ W.heap.size ≤ c := by
  rintro c (e | e | e)
  ·exact .inl (.inl e)
  ·exact (hn1 c e).imp (fun h => .inr (.inl h)) id
  ·exact .inl (.inr (.inr e))
 have hf : Fr (SaS bb vl vE) W (W1.setCell ⟨bb, 1, none⟩ (.slice oL nL cL)) := (hf1.mono (fun c h => Or.inr (Or.inl h))).setCell ⟨bb, 1, none⟩ _ (.inl (.inl rfl))
 refine ⟨⟨(h.blk.kept (hf1.block _ hl (fun e => h.nel _ e rfl))).set 1 _, ownsRow_keptF ho1 (fun c e => Below.heap_setCell _ _ _ _ (hL1 c e)), ?_, hL1, h.neE, hLS, fun p hp => ?_⟩, hf, hsub⟩
 ·exact ownsRow_keptF h.ownE (fun c e => (Below.heap_setCell _ _ _ _ (h.neE c e)).trans (hf1.block c (own_lt h.ownE c e) (fun e' => h.nelE c e' e)))
 ·have ha : AtA W (SaS bb vl vE) p := by
   rcases hp with hp | hp
   ·rcases List.mem_append.1 hp with hp | hp
    ·exact h.alts p (.inl hp)
    ·rw [List.mem_singleton.1 hp]
     exact hq
   ·exact h.alts p (.inr hp)
  exact ha.turn hf ha.far hsub
theorem RbG.putE {W1 : World} {oL : Option Addr} {nL cL : Nat} {E' : List GP} (h : RbG W bb tn vl vE l E) (hq : ∀ q ∈ E', AtA W (SaS bb vl vE) q)
  (ho1 : W1.ownsRow 0 30 26 (.slice oL nL cL) E'.length (gCells E')) (hf1 : Fr (fun c => vE.ownBlock = some c) W W1) (hn1 : ∀ c, (Value.slice oL nL cL).ownBlock = some c → vE.ownBlock = some c ∨ W.heap.size ≤ c) :
  RbG (W1.setCell ⟨bb, 2, none⟩ (.slice oL nL cL)) bb tn vl (.slice oL nL cL) l E' ∧ Fr (SaS bb vl vE) W (W1.setCell ⟨bb, 2, none⟩ (.slice oL nL cL)) ∧ ∀ c, SaS bb vl (.slice oL nL cL) c → SaS bb vl vE c ∨ W.heap.size ≤ c := by
 have hl := h.blk.lt
 have hL1 : ∀ c, (Value.slice oL nL cL).ownBlock = some c → c ≠ bb := fun c e => (hn1 c e).elim (fun e => h.neE c e) (fun e => by omega)
 have hLS : ∀ c, vl.ownBlock = some c → (Value.slice oL nL cL).ownBlock ≠ some c := fun c e e' => by
  rcases hn1 c e' with h3 | h3
  ·exact h.nelE c e h3
  ·have := own_lt h.ownl c e
   omega
 have hsub : ∀ c, SaS bb vl (.slice oL nL cL) c → SaS bb vl vE c ∨ W.heap.size ≤ c := by
  rintro c (e | e | e)
  ·exact .inl (.inl e)
  ·exact .inl (.inr (.inl e))
  ·exact (hn1 c e).imp (fun h => .inr (.inr h)) id
 have hf : Fr (SaS bb vl vE) W (W1.setCell ⟨bb, 2, none⟩ (.slice oL nL cL)) := (hf1.mono (fun c h => Or.inr (Or.inr h))).setCell ⟨bb, 2, none⟩ _ (.inl (.inl rfl))
 refine ⟨⟨(h.blk.kept (hf1.block _ hl (fun e => h.neE _ e rfl))).set 2 _, ?_, ownsRow_keptF ho1 (fun c e => Below.heap_setCell _ _ _ _ (hL1 c e)), h.nel, hL1, hLS, fun p hp => ?_⟩, hf, hsub⟩
 ·exact ownsRow_keptF h.ownl (fun c e => (Below.heap_setCell _ _ _ _ (h.nel c e)).trans (hf1.block c (own_lt h.ownl c e) (fun e' => h.nelE c e e')))
 ·have ha : AtA W (SaS bb vl vE) p := by
   rcases hp with hp | hp
   ·exact h.alts p (.inl hp)
   ·exact hq p hp
  exact ha.turn hf ha.far hsub
end
attribute [local go_sem] Oper.semAt_some
theorem refNewS (tn : Int) (W : World) : Calls Tryz.prog 48 #[.int .i64 tn] W fun e w' => e = .returned (.pointer (some ⟨W.heap.size, 0, none⟩)) ∧ w' = W.alloc (.cells #[.int .i64 tn, .slice none 0 0, .int .i64 0, .slice none 0 0] 67) := by
 go_enter Tryz.func48, Tryz.ntmps48
 go_wp2
 go_ret;exact ⟨rfl, rfl⟩
theorem refNewR (tn : Int) (W : World) : Calls Tryz.prog 49 #[.int .i64 tn] W fun e w' => e = .returned (.pointer (some ⟨W.heap.size, 0, none⟩)) ∧ w' = W.alloc (.cells #[.int .i64 tn, .slice none 0 0, .slice none 0 0] 60) := by
 go_enter Tryz.func49, Tryz.ntmps49
 go_wp2
 go_ret;exact ⟨rfl, rfl⟩
theorem refAdd_no (W : World) (ba : Nat) (tn : Int) (vL vS : Value) (L : List GP) (k : Nat) (T : List Int) (o : GOd) (al : List (Int × Int)) (h : SaG W ba tn vL vS L k T) (hL : L.length ≤ 900) (hna : al.length = o.an) (hlm : o.an ≤ 1000000) (hr : RdA W o.ao al) (hts : o.txt.size ≤ maxLen) (hbad : okB o al = false ∨ (okB o al = true ∧ o.s ≠ (L.length : Int) + 1)) :
  Calls Tryz.prog 50 #[.pointer (some ⟨ba, 0, none⟩), .agg o.l.toArray] W fun e w' => e = .returned (.int .i64 200) ∧ Below W.heap.size W w' := by
 obtain ⟨N, w1, hN, hw1, hb1, hk1⟩ := bx W (aO o) o.l 30 rfl
 have hs1 : SaG w1 ba tn vL vS L k T := h.below (by rw [hN]; exact hb1)
 obtain ⟨n, hn⟩ : ∃ n, L.length = n := ⟨_, rfl⟩
 obtain ⟨oL, cL, rfl⟩ := own_slice h.ownL
 obtain ⟨oS, cS, rfl⟩ := own_slice h.ownS
 have HSZ := szO
 have HR1 := Lib.hid hk1.range;have HK1 := Lib.hid hk1;have HS1 := Lib.hid hs1;have HN := Lib.hid hN;have HB1 := Lib.hid hb1
 have HVL := Lib.hid (gRef15 o al w1 hna hlm (hr.kept (hN ▸ hb1)) hts)
 have HLN := Lib.hid hn
 have HTN : Hid (T.length = n) := (h.len.trans hn : T.length = n)
 have HNB : Hid (ba < N) := (by rw [← hN]; exact h.blk.lt : ba < N)
 have HNO : Hid (∀ c, SaS ba (.slice oL n cL) (.slice oS n cS) c → c < N) := fun c e => by rw [← hN]; exact h.lt c (by rw [hn, h.len, hn]; exact e)
 rw [hn] at hbad hL
 rcases hbad with hv | ⟨hv, hne⟩
 ·show Calls Tryz.prog 50 #[.pointer (some ⟨ba, 0, none⟩), .agg (aO o)] W _
  rw [hv] at HVL;clear hb1 hk1 hs1 h hr hn hv
  go_enter Tryz.func50, Tryz.ntmps50
  go_wp2_with (refine wpList_load_mid rfl 30 (.tmp 3) rfl N 0 rfl o.l _ HR1.out Tryz.underlying30 rfl HSZ.out ?_)
  refine HVL.out.mono ?_
  rintro e w2 ⟨rfl, hb2⟩
  have HS2 := Lib.hid (HS1.out.below hb2)
  have HK2 := Lib.hid (HK1.out.kept (hb2.block N HK1.out.lt))
  have HB2 : Hid (Below N W w2) := HB1.out.trans (hb2.mono (bnl9 HN.out HB1.out))
  have d0 : w2.cell? ⟨N, 0, none⟩ = some (.int .i64 o.s) := HK2.out.cell 0
  have hw0 : IntKind.i64.wrap ((n : Int) + 1) = (n : Int) + 1 := IntWalk.i64_in _ (by omega)
  have d2 : w2.cell? ⟨N, 2, none⟩ = some (.int .i64 o.f) := HK2.out.cell 2
  have c1 := HS2.out.blk.cell 1
  simp only [gz, gs] at c1
  rw [HLN.out] at c1;clear hb2 HVL HS1 HK1 HR1 HB1 hN hw1
  go_upto_region 3 with (fail)
  refine wp_region_held_drew (S := fun W => W.cell? ⟨N, 0, none⟩ = some (.int .i64 o.s) ∧ W.cell? ⟨N, 2, none⟩ = some (.int .i64 o.f) ∧ W.cell? ⟨ba, 1, none⟩ = some (.slice oL n cL)) (by kernel_rfl) ?_ (fun hHeld => ?_)
  ·exact ⟨d0, d2, c1⟩
  refine tk 0 (some 14) ?_;refine tk 1 (some 15) ?_;refine tk 2 (some 16) ?_;refine tkU 3 (some 17) ?_;refine tkU 4 (some 18) ?_;refine tkU 5 (some 19) ?_;refine tkU 6 (some 20) ?_;refine tkU 7 (some 21) ?_;refine tk 8 (some 22) ?_;refine tk 9 (some 23) ?_;refine tkU 10 (some 24) ?_
  refine tkU 11 (some 25) ?_;refine tkU 12 (some 26) ?_;refine tkU 13 (some 27) ?_;refine tkU 14 (some 28) ?_;refine tkU 15 (some 29) ?_;refine tkU 16 (some 30) ?_;refine tkU 17 (some 31) ?_;refine tkU 18 (some 32) ?_;refine tkU 19 (some 33) ?_;refine tkU 20 (some 34) ?_;refine tkU 21 (some 35) ?_
  refine tkU 22 (some 36) ?_;refine tkU 23 (some 37) ?_;refine tkU 24 (some 38) ?_;refine tkU 25 (some 39) ?_;refine tk 26 (some 40) ?_;refine wpAnyH_done (by kernel_rfl) ?_ _;clear hHeld
  go_wp2_with fail
  go_ret
  exact ⟨rfl, by rw [HN.out]; exact HB2.out.drew⟩
 ·have g1 : (o.s != (n : Int) + 1) = true := by simpa using hne
  have q1 : (n : Int) ≤ 900 := by omega
  clear hne
  show Calls Tryz.prog 50 #[.pointer (some ⟨ba, 0, none⟩), .agg (aO o)] W _
  rw [hv] at HVL;clear hb1 hk1 hs1 h hr hn hv
  go_enter Tryz.func50, Tryz.ntmps50
  go_wp2_with (refine wpList_load_mid rfl 30 (.tmp 3) rfl N 0 rfl o.l _ HR1.out Tryz.underlying30 rfl HSZ.out ?_)
  refine HVL.out.mono ?_
  rintro e w2 ⟨rfl, hb2⟩
  have HS2 := Lib.hid (HS1.out.below hb2)
  have HK2 := Lib.hid (HK1.out.kept (hb2.block N HK1.out.lt))
  have HB2 : Hid (Below N W w2) := HB1.out.trans (hb2.mono (bnl9 HN.out HB1.out))
  have d0 : w2.cell? ⟨N, 0, none⟩ = some (.int .i64 o.s) := HK2.out.cell 0
  have hw0 : IntKind.i64.wrap ((n : Int) + 1) = (n : Int) + 1 := IntWalk.i64_in _ (by omega)
  have d2 : w2.cell? ⟨N, 2, none⟩ = some (.int .i64 o.f) := HK2.out.cell 2
  have c1 := HS2.out.blk.cell 1
  simp only [gz, gs] at c1
  rw [HLN.out] at c1;clear hb2 HVL HS1 HK1 HR1 HB1 hN hw1
  go_upto_region 3 with (fail)
  refine wp_region_held_drew (S := fun W => W.cell? ⟨N, 0, none⟩ = some (.int .i64 o.s) ∧ W.cell? ⟨N, 2, none⟩ = some (.int .i64 o.f) ∧ W.cell? ⟨ba, 1, none⟩ = some (.slice oL n cL)) (by kernel_rfl) ?_ (fun hHeld => ?_)
  ·exact ⟨d0, d2, c1⟩
  refine tk 0 (some 14) ?_;refine tk 1 (some 15) ?_;refine tk 2 (some 16) ?_;refine tk 3 (some 17) ?_;refine tk 4 (some 18) ?_;refine tk 5 (some 19) ?_;refine tk 6 (some 20) ?_
  refine tk 7 (some 21) (v := .bool true) ?_ (hy := by (intro w hSw; (try dsimp only at hSw); go_simp; (first | done | (with_reducible rfl) | exact g1 | simpa using g1)))
  refine tk 8 (some 22) ?_;refine tk 9 (some 23) ?_;refine tkU 10 (some 24) ?_;refine tkU 11 (some 25) ?_;refine tkU 12 (some 26) ?_;refine tkU 13 (some 27) ?_;refine tkU 14 (some 28) ?_;refine tkU 15 (some 29) ?_;refine tkU 16 (some 30) ?_;refine tkU 17 (some 31) ?_;refine tkU 18 (some 32) ?_
  refine tkU 19 (some 33) ?_;refine tkU 20 (some 34) ?_;refine tkU 21 (some 35) ?_;refine tkU 22 (some 36) ?_;refine tkU 23 (some 37) ?_;refine tkU 24 (some 38) ?_;refine tkU 25 (some 39) ?_;refine tk 26 (some 40) ?_;refine wpAnyH_done (by kernel_rfl) ?_ _;clear hHeld
  go_wp2_with fail
  go_ret
  exact ⟨rfl, by rw [HN.out]; exact HB2.out.drew⟩
theorem refAdd_early (W : World) (ba : Nat) (tn : Int) (vL vS : Value) (L : List GP) (k : Nat) (T : List Int) (o : GOd) (al : List (Int × Int)) (h : SaG W ba tn vL vS L k T) (hL : L.length ≤ 900) (hna : al.length = o.an) (hlm : o.an ≤ 1000000) (hr : RdA W o.ao al) (hts : o.txt.size ≤ maxLen) (hv : okB o al = true) (hsq : o.s = (L.length : Int) + 1) (j : Nat) (p : GP) (hp : L[j]? = some p) (hj : j + 1 = L.length) (hlt : o.f < p.o.f) :
  Calls Tryz.prog 50 #[.pointer (some ⟨ba, 0, none⟩), .agg o.l.toArray] W fun e w' => e = .returned (.int .i64 200) ∧ Below W.heap.size W w' := by
 obtain ⟨N, w1, hN, hw1, hb1, hk1⟩ := bx W (aO o) o.l 30 rfl
 have hs1 : SaG w1 ba tn vL vS L k T := h.below (by rw [hN]; exact hb1)
 obtain ⟨n, hn⟩ : ∃ n, L.length = n := ⟨_, rfl⟩
 obtain ⟨oL, cL, rfl⟩ := own_slice h.ownL
 obtain ⟨oS, cS, rfl⟩ := own_slice h.ownS
 have HSZ := szO
 have HR1 := Lib.hid hk1.range;have HK1 := Lib.hid hk1;have HS1 := Lib.hid hs1;have HN := Lib.hid hN;have HB1 := Lib.hid hb1
 have HVL := Lib.hid (gRef15 o al w1 hna hlm (hr.kept (hN ▸ hb1)) hts)
 have HLN := Lib.hid hn
 have HTN : Hid (T.length = n) := (h.len.trans hn : T.length = n)
 have HNB : Hid (ba < N) := (by rw [← hN]; exact h.blk.lt : ba < N)
 have HNO : Hid (∀ c, SaS ba (.slice oL n cL) (.slice oS n cS) c → c < N) := fun c e => by rw [← hN]; exact h.lt c (by rw [hn, h.len, hn]; exact e)
 rw [hn] at hsq hL hj
 have g1 : (o.s != (n : Int) + 1) = false := by simpa using hsq
 clear hsq
 show Calls Tryz.prog 50 #[.pointer (some ⟨ba, 0, none⟩), .agg (aO o)] W _
 rw [hv] at HVL;clear hb1 hk1 hs1 h hr hn hv
 go_enter Tryz.func50, Tryz.ntmps50
 go_wp2_with (refine wpList_load_mid rfl 30 (.tmp 3) rfl N 0 rfl o.l _ HR1.out Tryz.underlying30 rfl HSZ.out ?_)
 refine HVL.out.mono ?_
 rintro e w2 ⟨rfl, hb2⟩
 have HS2 := Lib.hid (HS1.out.below hb2)
 have HK2 := Lib.hid (HK1.out.kept (hb2.block N HK1.out.lt))
 have HB2 : Hid (Below N W w2) := HB1.out.trans (hb2.mono (bnl9 HN.out HB1.out))
 have d0 : w2.cell? ⟨N, 0, none⟩ = some (.int .i64 o.s) := HK2.out.cell 0
 have hw0 : IntKind.i64.wrap ((n : Int) + 1) = (n : Int) + 1 := IntWalk.i64_in _ (by omega)
 have d2 : w2.cell? ⟨N, 2, none⟩ = some (.int .i64 o.f) := HK2.out.cell 2
 have c1 := HS2.out.blk.cell 1
 simp only [gz, gs] at c1
 rw [HLN.out] at c1;clear hb2 HVL HS1 HK1 HR1 HB1 hN hw1
 go_upto_region 3 with (fail)
 obtain ⟨g, go, hgo, hgl, hrg⟩ := HS2.out.rd.at j p hp
 have hcl : w2.cell? ⟨g, go + j * 26 + 2, none⟩ = some (.int .i64 p.o.f) := hrg 2 _ rfl
 subst hgo
 obtain ⟨pf, hpf⟩ : ∃ pf, p.o.f = pf := ⟨_, rfl⟩
 rw [hpf] at hcl hlt
 have hwr : IntKind.i64.wrap ((n : Int) - 1) = (j : Int) := by rw [IntWalk.i64_in _ (by omega)]; omega
 have q1 : (0 : Int) ≤ (j : Int) := by omega
 have q2 : (j : Int) < (n : Int) := by omega
 have q3 : (n : Int) > 0 := by omega
 clear hp hpf hj hrg
 refine wp_region_held_drew (S := fun W => W.cell? ⟨N, 0, none⟩ = some (.int .i64 o.s) ∧ W.cell? ⟨N, 2, none⟩ = some (.int .i64 o.f) ∧ W.cell? ⟨ba, 1, none⟩ = some (.slice (some ⟨g, go, none⟩) n cL) ∧ W.cell? ⟨g, go + j * 26 + 2, none⟩ = some (.int .i64 pf)) (by kernel_rfl) ?_ (fun hHeld => ?_)
 ·exact ⟨d0, d2, c1, hcl⟩
 refine tk 0 (some 14) ?_;refine tk 1 (some 15) ?_;refine tk 2 (some 16) ?_;refine tk 3 (some 17) ?_;refine tk 4 (some 18) ?_;refine tk 5 (some 19) ?_;refine tk 6 (some 20) ?_
 refine tk 7 (some 21) (v := .bool false) ?_ (hy := by (intro w hSw; (try dsimp only at hSw); go_simp; (first | done | (with_reducible rfl) | exact g1 | simpa using g1)))
 refine tk 8 (some 22) ?_;refine tk 9 (some 23) ?_;refine tk 10 (some 24) ?_
 refine tk 11 (some 25) (v := .bool true) ?_ (hy := by (intro w hSw; (try dsimp only at hSw); go_simp; (first | done | (with_reducible rfl) | exact (decide_eq_true q3) | simpa using (decide_eq_true q3))))
 refine tk 12 (some 26) ?_;refine tk 13 (some 27) ?_;refine tk 14 (some 28) ?_;refine tk 15 (some 29) ?_;refine tk 16 (some 30) ?_;refine tk 17 (some 31) ?_;refine tk 18 (some 32) ?_;refine tk 19 (some 33) ?_;refine tk 20 (some 34) ?_;refine tk 21 (some 35) ?_;refine tk 22 (some 36) ?_
 refine tk 23 (some 37) ?_
 refine tk 24 (some 38) (v := .bool true) ?_ (hy := by (intro w hSw; (try dsimp only at hSw); go_simp; (first | done | (with_reducible rfl) | exact (decide_eq_true hlt) | simpa using (decide_eq_true hlt))))
 refine tk 25 (some 39) ?_;refine tk 26 (some 40) ?_;refine wpAnyH_done (by kernel_rfl) ?_ _;clear hHeld
 go_wp2_with fail
 go_ret
 exact ⟨rfl, by rw [HN.out]; exact HB2.out.drew⟩
theorem refAdd_ok (W : World) (ba : Nat) (tn : Int) (vL vS : Value) (L : List GP) (k : Nat) (T : List Int) (o : GOd) (al : List (Int × Int)) (h : SaG W ba tn vL vS L k T) (hL : L.length ≤ 900) (hna : al.length = o.an) (hlm : o.an ≤ 1000000) (hr : RdA W o.ao al) (hts : o.txt.size ≤ maxLen) (hv : okB o al = true) (hsq : o.s = (L.length : Int) + 1) (hlast : ∀ j p, L[j]? = some p → j + 1 = L.length → ¬ o.f < p.o.f) (hfa : al ≠ [] → ∀ a, o.ao = some a → ¬ SaS ba vL vS a.block) :
  Calls Tryz.prog 50 #[.pointer (some ⟨ba, 0, none⟩), .agg o.l.toArray] W fun e w' => e = .returned (.int .i64 0) ∧ ∃ vL' vS', SaG w' ba tn vL' vS' (L ++ [⟨o, al⟩]) k (T ++ [-1]) ∧ Fr (SaS ba vL vS) W w' ∧ ∀ c, SaS ba vL' vS' c → SaS ba vL vS c ∨ W.heap.size ≤ c := by
 have hat : AtA W (SaS ba vL vS) ⟨o, al⟩ := ⟨hna, hlm, hr, hfa⟩
 obtain ⟨N, w1, hN, hw1, hb1, hk1⟩ := bx W (aO o) o.l 30 rfl
 have hs1 : SaG w1 ba tn vL vS L k T := h.below (by rw [hN]; exact hb1)
 obtain ⟨n, hn⟩ : ∃ n, L.length = n := ⟨_, rfl⟩
 obtain ⟨oL, cL, rfl⟩ := own_slice h.ownL
 obtain ⟨oS, cS, rfl⟩ := own_slice h.ownS
 have HSZ := szO
 have HR1 := Lib.hid hk1.range;have HK1 := Lib.hid hk1;have HS1 := Lib.hid hs1;have HN := Lib.hid hN;have HB1 := Lib.hid hb1
 have HVL := Lib.hid (gRef15 o al w1 hna hlm (hr.kept (hN ▸ hb1)) hts)
 have HLN := Lib.hid hn
 have HTN : Hid (T.length = n) := (h.len.trans hn : T.length = n)
 have HNB : Hid (ba < N) := (by rw [← hN]; exact h.blk.lt : ba < N)
 have HNO : Hid (∀ c, SaS ba (.slice oL n cL) (.slice oS n cS) c → c < N) := fun c e => by rw [← hN]; exact h.lt c (by rw [hn, h.len, hn]; exact e)
 rw [hn] at hsq hL hlast;have HAT := Lib.hid hat;clear hat hfa
 have g1 : (o.s != (n : Int) + 1) = false := by simpa using hsq
 clear hsq
 show Calls Tryz.prog 50 #[.pointer (some ⟨ba, 0, none⟩), .agg (aO o)] W _
 rw [hv] at HVL;clear hb1 hk1 hs1 h hr hn hv
 go_enter Tryz.func50, Tryz.ntmps50
 go_wp2_with (refine wpList_load_mid rfl 30 (.tmp 3) rfl N 0 rfl o.l _ HR1.out Tryz.underlying30 rfl HSZ.out ?_)
 refine HVL.out.mono ?_
 rintro e w2 ⟨rfl, hb2⟩
 have HS2 := Lib.hid (HS1.out.below hb2)
 have HK2 := Lib.hid (HK1.out.kept (hb2.block N HK1.out.lt))
 have HB2 : Hid (Below N W w2) := HB1.out.trans (hb2.mono (bnl9 HN.out HB1.out))
 have d0 : w2.cell? ⟨N, 0, none⟩ = some (.int .i64 o.s) := HK2.out.cell 0
 have hw0 : IntKind.i64.wrap ((n : Int) + 1) = (n : Int) + 1 := IntWalk.i64_in _ (by omega)
 have d2 : w2.cell? ⟨N, 2, none⟩ = some (.int .i64 o.f) := HK2.out.cell 2
 have c1 := HS2.out.blk.cell 1
 simp only [gz, gs] at c1
 rw [HLN.out] at c1;clear hb2 HVL HS1 HK1 HR1 HB1 hN hw1
 go_upto_region 3 with (fail)
 go_cut [40] from 14 to 41 (fun v wx => v = .bool false ∧ wx = w2.drew)
 case first =>
  rcases Nat.eq_zero_or_pos n with h0 | h0
  ·subst h0
   have hw1 : IntKind.i64.wrap 1 = 1 := IntWalk.i64_in _ (by omega)
   refine wp_region_held_drew (S := fun W => W.cell? ⟨N, 0, none⟩ = some (.int .i64 o.s) ∧ W.cell? ⟨N, 2, none⟩ = some (.int .i64 o.f) ∧ W.cell? ⟨ba, 1, none⟩ = some (.slice oL 0 cL)) (by kernel_rfl) ?_ (fun hHeld => ?_)
   ·exact ⟨d0, d2, c1⟩
   refine tk 0 (some 14) ?_;refine tk 1 (some 15) ?_;refine tk 2 (some 16) ?_;refine tk 3 (some 17) ?_;refine tk 4 (some 18) ?_;refine tk 5 (some 19) ?_;refine tk 6 (some 20) ?_
   refine tk 7 (some 21) (v := .bool false) ?_ (hy := by (intro w hSw; (try dsimp only at hSw); go_simp; (first | done | (with_reducible rfl) | exact g1 | simpa using g1)))
   refine tk 8 (some 22) ?_;refine tk 9 (some 23) ?_;refine tk 10 (some 24) ?_;refine tk 11 (some 25) ?_;refine tk 12 (some 26) ?_;refine tkU 13 (some 27) ?_;refine tkU 14 (some 28) ?_;refine tkU 15 (some 29) ?_;refine tkU 16 (some 30) ?_;refine tkU 17 (some 31) ?_;refine tkU 18 (some 32) ?_
   refine tkU 19 (some 33) ?_;refine tkU 20 (some 34) ?_;refine tkU 21 (some 35) ?_;refine tkU 22 (some 36) ?_;refine tkU 23 (some 37) ?_;refine tkU 24 (some 38) ?_;refine tk 25 (some 39) ?_;refine tk 26 (some 40) ?_;refine wpAnyH_done (by kernel_rfl) ?_ _;clear hHeld
   go_wp2_with fail
   go_meet
   exact ⟨rfl, rfl⟩
  ·obtain ⟨j, hj⟩ : ∃ j, n = j + 1 := ⟨n - 1, by omega⟩
   obtain ⟨p, hp⟩ : ∃ p, L[j]? = some p := ⟨L[j]'(by rw [HLN.out]; omega), List.getElem?_eq_getElem _⟩
   have hlt := hlast j p hp hj.symm
   rename n = j + 1 => hj9
   have hj : j + 1 = n := hj9.symm
   clear hj9
   obtain ⟨g, go, hgo, hgl, hrg⟩ := HS2.out.rd.at j p hp
   have hcl : w2.cell? ⟨g, go + j * 26 + 2, none⟩ = some (.int .i64 p.o.f) := hrg 2 _ rfl
   subst hgo
   obtain ⟨pf, hpf⟩ : ∃ pf, p.o.f = pf := ⟨_, rfl⟩
   rw [hpf] at hcl hlt
   have hwr : IntKind.i64.wrap ((n : Int) - 1) = (j : Int) := by rw [IntWalk.i64_in _ (by omega)]; omega
   have q1 : (0 : Int) ≤ (j : Int) := by omega
   have q2 : (j : Int) < (n : Int) := by omega
   have q3 : (n : Int) > 0 := by omega
   clear hp hpf hj hrg
   refine wp_region_held_drew (S := fun W => W.cell? ⟨N, 0, none⟩ = some (.int .i64 o.s) ∧ W.cell? ⟨N, 2, none⟩ = some (.int .i64 o.f) ∧ W.cell? ⟨ba, 1, none⟩ = some (.slice (some ⟨g, go, none⟩) n cL) ∧ W.cell? ⟨g, go + j * 26 + 2, none⟩ = some (.int .i64 pf)) (by kernel_rfl) ?_ (fun hHeld => ?_)
   ·exact ⟨d0, d2, c1, hcl⟩
   refine tk 0 (some 14) ?_;refine tk 1 (some 15) ?_;refine tk 2 (some 16) ?_;refine tk 3 (some 17) ?_;refine tk 4 (some 18) ?_;refine tk 5 (some 19) ?_;refine tk 6 (some 20) ?_
   refine tk 7 (some 21) (v := .bool false) ?_ (hy := by (intro w hSw; (try dsimp only at hSw); go_simp; (first | done | (with_reducible rfl) | exact g1 | simpa using g1)))
   refine tk 8 (some 22) ?_;refine tk 9 (some 23) ?_;refine tk 10 (some 24) ?_
   refine tk 11 (some 25) (v := .bool true) ?_ (hy := by (intro w hSw; (try dsimp only at hSw); go_simp; (first | done | (with_reducible rfl) | exact (decide_eq_true q3) | simpa using (decide_eq_true q3))))
   refine tk 12 (some 26) ?_;refine tk 13 (some 27) ?_;refine tk 14 (some 28) ?_;refine tk 15 (some 29) ?_;refine tk 16 (some 30) ?_;refine tk 17 (some 31) ?_;refine tk 18 (some 32) ?_;refine tk 19 (some 33) ?_;refine tk 20 (some 34) ?_;refine tk 21 (some 35) ?_;refine tk 22 (some 36) ?_
   refine tk 23 (some 37) ?_
   refine tk 24 (some 38) (v := .bool false) ?_ (hy := by (intro w hSw; (try dsimp only at hSw); go_simp; (first | done | (with_reducible rfl) | exact (decide_eq_false hlt) | simpa using (decide_eq_false hlt))))
   refine tk 25 (some 39) ?_;refine tk 26 (some 40) ?_;refine wpAnyH_done (by kernel_rfl) ?_ _;clear hHeld
   go_wp2_with fail
   go_meet
   exact ⟨rfl, rfl⟩
 case rest =>
  obtain ⟨rfl, hwc⟩ := hcut
  subst hwc
  go_upto_region 5 with (fail)
  have hbd : Below w2.heap.size w2 w2.drew.drew := (Below.refl _ _).drew.drew
  have HS := Lib.hid (HS2.out.below hbd)
  have HK := Lib.hid (HK2.out.drew.drew)
  have HQ : Hid (Below N W w2.drew.drew) := HB2.out.drew.drew
  clear hbd HS2 HK2 HB2 d0 d2 c1
  refine wp_region_held_drew (S := fun W => W.rangeAt N 0 o.l) (by kernel_rfl) ?_ (fun hHeld => ?_)
  ·exact HK.out.range
  generalize w2.drew.drew = z at HS HK HQ hHeld ⊢;refine tk 0 (some 41) ?_;refine tk 1 (some 42) ?_;refine tk 2 (some 43) ?_;refine tk 3 (some 44) ?_
  refine tkL 5 (some 46) 30 (.tmp 3) N 0 o.l (fun _ h => h) Tryz.underlying30 HSZ.out ?_
  refine wpAnyH_ready (rs := [4, 6]) (by kernel_rfl) (by simp) (AllReadyH.cons (o := ⟨some 45, _, _, _, _, _⟩) rfl (fun K hK => ?_) (AllReadyH.cons (o := ⟨some 47, _, _, _, _, _⟩) rfl (fun K hK => ?_) AllReadyH.nil))
  ·have c1 := HS.out.blk.cell 1
   simp only [gz, gs] at c1
   rw [HLN.out] at c1;go_simp;clear c1
   refine hK.out _ _ ?_ (fun hHeld2 => ?_)
   ·exact HK.out.range
   clear hK K hHeld;rename _ => hHeld
   try simp only [Act.put, sa, sz, ss]
   refine rd1 6 (some 47) (fun K hK => ?_)
   try simp only [GOd.l, ClD.l, List.cons_append, List.nil_append]
   go_simp
   have HS4 := HS
   have HK4 := HK
   have HQ4 := HQ
   have hb := (Below.refl z.heap.size z).alloc (Nat.le_refl _) (.cells (aO o) 30)
   have HS := Lib.hid (HS.out.below hb)
   have HK := Lib.hid (HK.out.kept (hb.block N HK.out.lt))
   clear hb
   refine hK.out _ _ ?_ (fun hHeld2 => ?_)
   ·exact HK.out.range
   clear hK K hHeld;rename _ => hHeld
   try simp only [Act.put, sa, sz, ss]
   refine rd1 7 (some 48) (fun K hK => ?_)
   obtain ⟨oa, cap, w5, hrun, ho5, hf5, hk5⟩ := app_ord z 0 (.slice oL n cL) n (gCells L) (lO o) (by have := HS4.out.ownL; rw [HLN.out] at this; exact this) (by omega) (Nat.zero_le _) 50 rfl (by simp [Value.oneCell'])
   refine step_run (by rfl) _ _ (by rfl) (by rfl) (by rfl) (fun _ => hrun) ?_
   have HK := Lib.hid (HK4.out.kept (hf5.block N HK4.out.lt (fun e => by have := HNO.out N (.inr (.inl e)); omega)))
   have HB5 := Lib.hid (HS4.out.blk.kept (hf5.block ba HS4.out.blk.lt (fun e => HS4.out.neL ba (by rw [HLN.out]; exact e) rfl)))
   have HO5 := Lib.hid ho5;have HF5 := Lib.hid hf5;have HG5 := Lib.hid hk5;clear hrun ho5 hf5 hk5
   refine hK.out _ _ ?_ (fun hHeld2 => ?_)
   ·exact HK.out.range
   clear hK K hHeld;rename _ => hHeld;refine tk 8 (some 49) ?_;refine tk 9 (some 50) ?_
   refine rd1 10 none (fun K hK => ?_)
   have c1 := HB5.out.cell 1
   have z1 := HB5.out.frozen 1
   simp only [gz, gs] at c1
   go_simp;clear c1 z1
   have HK := Lib.hid (HK.out.other ⟨ba, 1, none⟩ (show ba ≠ N by have := HNB.out; omega) (.slice oa (n + 1) cap))
   refine hK.out _ _ ?_ (fun hHeld2 => ?_)
   ·exact HK.out.range
   clear hK K hHeld;rename _ => hHeld
   try simp only [Act.put, sa, sz, ss]
   refine wpAnyH_done (by kernel_rfl) ?_ _;clear hHeld
   have HB6 := Lib.hid (HB5.out.set 1 (.slice oa (n + 1) cap))
   have HO6 : Hid ((w5.setCell ⟨ba, 1, none⟩ (.slice oa (n + 1) cap)).ownsRow 0 3 1 (.slice oS n cS) n (iC T)) := by
    have h1 := HS4.out.ownS
    rw [HTN.out] at h1
    refine ownsRow_keptF h1 (fun c e => (Below.heap_setCell _ _ _ _ (fun e' => HS4.out.neS c (by rw [HTN.out]; exact e) e')).trans (HF5.out.block c (own_lt h1 c e) (fun e' => HS4.out.neLS c (by rw [HLN.out]; exact e') (by rw [HTN.out]; exact e))))
   have HZ6 : Hid ((w5.setCell ⟨ba, 1, none⟩ (.slice oa (n + 1) cap)).heap.size = w5.heap.size) := (by simp [World.setCell] : (w5.setCell ⟨ba, 1, none⟩ (.slice oa (n + 1) cap)).heap.size = w5.heap.size)
   obtain ⟨w6, hw6⟩ : ∃ w6, w5.setCell ⟨ba, 1, none⟩ (.slice oa (n + 1) cap) = w6 := ⟨_, rfl⟩
   rw [hw6] at HB6 HO6 HZ6 ⊢
   have HW6 := Lib.hid hw6;clear hw6 HB5 HK
   have c3 : w6.cell? ⟨ba, 3, none⟩ = some (.slice oS T.length cS) := HB6.out.cell 3
   rw [HTN.out] at c3
   obtain ⟨ob, cap2, w7, hrun, ho7, hf7, hk7⟩ := app_intsN w6 0 (.slice oS n cS) n 1 T [-1] HO6.out (by omega) rfl (by omega) (Nat.zero_le _) 65
   have HB7 := HB6.out.kept (hf7.block ba HB6.out.lt (fun e => HS4.out.neS ba (by rw [HTN.out]; exact e) rfl))
   have t3 : w7.cell? ⟨ba, 3, none⟩ = some (.slice oS T.length cS) := HB7.cell 3
   have z3 := HB7.frozen 3
   have HO7 := Lib.hid ho7;have HF7 := Lib.hid hf7;have HG7 := Lib.hid hk7;clear ho7 hf7 hk7 HB7
   go_wp2_with (at_builtin; refine wpList_append_run _ rfl _ _ 65 rfl _ _ _ _ rfl rfl hrun ?_; clear hrun)
   go_ret
   have h5 := HO5.out
   have e5 : gCells L ++ (lO o) = gCells (L ++ [⟨o, al⟩]) := by simp [gCells, GOd.l, ClD.l]
   rw [e5] at h5
   have hl5 : (L ++ [(⟨o, al⟩ : GP)]).length = n + 1 := by rw [List.length_append, HLN.out]; rfl
   have hl7 : (T ++ [(-1 : Int)]).length = n + 1 := by rw [List.length_append, HTN.out]; rfl
   have hbz : Below W.heap.size W z := by rw [HN.out]; exact HQ4.out
   have hmain := SaG.add (q := ⟨o, al⟩) HS4.out (HAT.out.turn (Fr.under (fun _ => False) hbz) (fun _ _ _ e => e) (fun c e => .inl (by rw [HLN.out, HTN.out]; rw [HLN.out, HTN.out] at e; exact e))) (W1 := w5) (W2 := w7) (by rw [hl5]; exact h5) (by rw [HLN.out]; exact HF5.out) (by rw [HLN.out]; exact HG5.out) (by rw [hl7]; exact HO7.out) (by rw [HTN.out, HW6.out]; exact HF7.out) (by rw [HTN.out]; intro c e; exact (HG7.out c e).imp_right (fun h => by have := HZ6.out; omega))
   refine ⟨rfl, .slice oa (n + 1) cap, .slice ob (n + 1) cap2, hmain.1, ?_, ?_⟩
   ·exact (Fr.under _ hbz).trans hmain.2.1 (fun c _ e => e)
   ·intro c e
    have hz4 := hbz.size
    exact (hmain.2.2 c e).imp_right (fun h => Nat.le_trans hz4 h)
  ·try simp only [GOd.l, ClD.l, List.cons_append, List.nil_append]
   go_simp
   have HS4 := HS
   have HK4 := HK
   have HQ4 := HQ
   have hb := (Below.refl z.heap.size z).alloc (Nat.le_refl _) (.cells (aO o) 30)
   have HS := Lib.hid (HS.out.below hb)
   have HK := Lib.hid (HK.out.kept (hb.block N HK.out.lt))
   clear hb
   refine hK.out _ _ ?_ (fun hHeld2 => ?_)
   ·exact HK.out.range
   clear hK K hHeld;rename _ => hHeld
   try simp only [Act.put, sa, sz, ss]
   refine rd1 4 (some 45) (fun K hK => ?_)
   have c1 := HS.out.blk.cell 1
   simp only [gz, gs] at c1
   rw [HLN.out] at c1;go_simp;clear c1
   refine hK.out _ _ ?_ (fun hHeld2 => ?_)
   ·exact HK.out.range
   clear hK K hHeld;rename _ => hHeld
   try simp only [Act.put, sa, sz, ss]
   refine rd1 7 (some 48) (fun K hK => ?_)
   obtain ⟨oa, cap, w5, hrun, ho5, hf5, hk5⟩ := app_ord z 0 (.slice oL n cL) n (gCells L) (lO o) (by have := HS4.out.ownL; rw [HLN.out] at this; exact this) (by omega) (Nat.zero_le _) 50 rfl (by simp [Value.oneCell'])
   refine step_run (by rfl) _ _ (by rfl) (by rfl) (by rfl) (fun _ => hrun) ?_
   have HK := Lib.hid (HK4.out.kept (hf5.block N HK4.out.lt (fun e => by have := HNO.out N (.inr (.inl e)); omega)))
   have HB5 := Lib.hid (HS4.out.blk.kept (hf5.block ba HS4.out.blk.lt (fun e => HS4.out.neL ba (by rw [HLN.out]; exact e) rfl)))
   have HO5 := Lib.hid ho5;have HF5 := Lib.hid hf5;have HG5 := Lib.hid hk5;clear hrun ho5 hf5 hk5
   refine hK.out _ _ ?_ (fun hHeld2 => ?_)
   ·exact HK.out.range
   clear hK K hHeld;rename _ => hHeld;refine tk 8 (some 49) ?_;refine tk 9 (some 50) ?_
   refine rd1 10 none (fun K hK => ?_)
   have c1 := HB5.out.cell 1
   have z1 := HB5.out.frozen 1
   simp only [gz, gs] at c1
   go_simp;clear c1 z1
   have HK := Lib.hid (HK.out.other ⟨ba, 1, none⟩ (show ba ≠ N by have := HNB.out; omega) (.slice oa (n + 1) cap))
   refine hK.out _ _ ?_ (fun hHeld2 => ?_)
   ·exact HK.out.range
   clear hK K hHeld;rename _ => hHeld
   try simp only [Act.put, sa, sz, ss]
   refine wpAnyH_done (by kernel_rfl) ?_ _;clear hHeld
   have HB6 := Lib.hid (HB5.out.set 1 (.slice oa (n + 1) cap))
   have HO6 : Hid ((w5.setCell ⟨ba, 1, none⟩ (.slice oa (n + 1) cap)).ownsRow 0 3 1 (.slice oS n cS) n (iC T)) := by
    have h1 := HS4.out.ownS
    rw [HTN.out] at h1
    refine ownsRow_keptF h1 (fun c e => (Below.heap_setCell _ _ _ _ (fun e' => HS4.out.neS c (by rw [HTN.out]; exact e) e')).trans (HF5.out.block c (own_lt h1 c e) (fun e' => HS4.out.neLS c (by rw [HLN.out]; exact e') (by rw [HTN.out]; exact e))))
   have HZ6 : Hid ((w5.setCell ⟨ba, 1, none⟩ (.slice oa (n + 1) cap)).heap.size = w5.heap.size) := (by simp [World.setCell] : (w5.setCell ⟨ba, 1, none⟩ (.slice oa (n + 1) cap)).heap.size = w5.heap.size)
   obtain ⟨w6, hw6⟩ : ∃ w6, w5.setCell ⟨ba, 1, none⟩ (.slice oa (n + 1) cap) = w6 := ⟨_, rfl⟩
   rw [hw6] at HB6 HO6 HZ6 ⊢
   have HW6 := Lib.hid hw6;clear hw6 HB5 HK
   have c3 : w6.cell? ⟨ba, 3, none⟩ = some (.slice oS T.length cS) := HB6.out.cell 3
   rw [HTN.out] at c3
   obtain ⟨ob, cap2, w7, hrun, ho7, hf7, hk7⟩ := app_intsN w6 0 (.slice oS n cS) n 1 T [-1] HO6.out (by omega) rfl (by omega) (Nat.zero_le _) 65
   have HB7 := HB6.out.kept (hf7.block ba HB6.out.lt (fun e => HS4.out.neS ba (by rw [HTN.out]; exact e) rfl))
   have t3 : w7.cell? ⟨ba, 3, none⟩ = some (.slice oS T.length cS) := HB7.cell 3
   have z3 := HB7.frozen 3
   have HO7 := Lib.hid ho7;have HF7 := Lib.hid hf7;have HG7 := Lib.hid hk7;clear ho7 hf7 hk7 HB7
   go_wp2_with (at_builtin; refine wpList_append_run _ rfl _ _ 65 rfl _ _ _ _ rfl rfl hrun ?_; clear hrun)
   go_ret
   have h5 := HO5.out
   have e5 : gCells L ++ (lO o) = gCells (L ++ [⟨o, al⟩]) := by simp [gCells, GOd.l, ClD.l]
   rw [e5] at h5
   have hl5 : (L ++ [(⟨o, al⟩ : GP)]).length = n + 1 := by rw [List.length_append, HLN.out]; rfl
   have hl7 : (T ++ [(-1 : Int)]).length = n + 1 := by rw [List.length_append, HTN.out]; rfl
   have hbz : Below W.heap.size W z := by rw [HN.out]; exact HQ4.out
   have hmain := SaG.add (q := ⟨o, al⟩) HS4.out (HAT.out.turn (Fr.under (fun _ => False) hbz) (fun _ _ _ e => e) (fun c e => .inl (by rw [HLN.out, HTN.out]; rw [HLN.out, HTN.out] at e; exact e))) (W1 := w5) (W2 := w7) (by rw [hl5]; exact h5) (by rw [HLN.out]; exact HF5.out) (by rw [HLN.out]; exact HG5.out) (by rw [hl7]; exact HO7.out) (by rw [HTN.out, HW6.out]; exact HF7.out) (by rw [HTN.out]; intro c e; exact (HG7.out c e).imp_right (fun h => by have := HZ6.out; omega))
   refine ⟨rfl, .slice oa (n + 1) cap, .slice ob (n + 1) cap2, hmain.1, ?_, ?_⟩
   ·exact (Fr.under _ hbz).trans hmain.2.1 (fun c _ e => e)
   ·intro c e
    have hz4 := hbz.size
    exact (hmain.2.2 c e).imp_right (fun h => Nat.le_trans hz4 h)
end Go.Proofs.YtjkiidhnmljmbaaGreatDoor
