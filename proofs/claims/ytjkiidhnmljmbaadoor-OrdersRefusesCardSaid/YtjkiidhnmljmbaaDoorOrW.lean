/-
  Orders: a sender and a receiver side by side in memory, and blocks that stay.
-/
import Derived.Test.YtjkiidhnmljmbaaDoorOrL
import Derived.Test.YtjkiidhnmljmbaaDoorOrH
import Derived.Test.YtjkiidhnmljmbaaDoorOrI
set_option linter.unusedVariables false
set_option linter.unusedSimpArgs false
namespace Go.Proofs.YtjkiidhnmljmbaaDoor
open Go.RowKit
def FtS (bs : Nat) (vp : Value) (c : Nat) : Prop := c = bs ∨ vp.ownBlock = some c
def FtR (br m : Nat) (vo : Value) (c : Nat) : Prop := c = br ∨ c = m ∨ vo.ownBlock = some c
theorem SnAt.turn {W W' : World} {B bs : Nat} {tn : Int} {vp : Value} {L : List Pst} {k : Nat} (h : SnAt W B bs tn vp L k) {S : Nat → Prop} (hf : Fr S W W') (hS : ∀ c, S c → ¬ FtS bs vp c) : SnAt W' B bs tn vp L k :=
  ⟨h.blk.kept (hf.block _ h.blk.lt (fun hs => hS _ hs (.inl rfl))), ownsRow_keptF h.own (fun g e => hf.block g (own_lt h.own g e) (fun hs => hS g hs (.inr e))), h.ge, h.ne⟩
theorem SnAt.lt {W : World} {B bs : Nat} {tn : Int} {vp : Value} {L : List Pst} {k : Nat} (h : SnAt W B bs tn vp L k) (c : Nat) (hc : FtS bs vp c) : c < W.heap.size := by
  rcases hc with rfl | hc
  · exact h.blk.lt
  · exact own_lt h.own c hc
theorem SnAt.bge {W : World} {B bs : Nat} {tn : Int} {vp : Value} {L : List Pst} {k : Nat} (h : SnAt W B bs tn vp L k) (c : Nat) (hc : FtS bs vp c) : B ≤ c := by
  rcases hc with rfl | hc
  · exact h.ge
  · exact own_ge h.own c hc
theorem RcAt.lt {W : World} {B br m : Nat} {tn : Int} {vo : Value} {l : List Od} {E : List (Int × Od)} (h : RcAt W B br tn vo l m E) (c : Nat) (hc : FtR br m vo c) : c < W.heap.size := by
  rcases hc with rfl | rfl | hc
  · exact h.blk.lt
  · exact h.mp.lt
  · exact own_lt h.own c hc
theorem RcAt.bge {W : World} {B br m : Nat} {tn : Int} {vo : Value} {l : List Od} {E : List (Int × Od)} (h : RcAt W B br tn vo l m E) (c : Nat) (hc : FtR br m vo c) : B ≤ c := by
  rcases hc with rfl | rfl | hc
  · exact h.ge
  · exact h.gem
  · exact own_ge h.own c hc
/-- Sender and receiver apart from each other and from the blocks of K. -/
structure LnS (W0 W : World) (bs br : Nat) (tn : Int) (vp : Value) (L : List Pst) (k : Nat) (vo : Value) (l : List Od) (m : Nat) (E : List (Int × Od)) (K : List (Nat × Obj)) : Prop where
  sn : SnAt W W0.heap.size bs tn vp L k
  rc : RcAt W W0.heap.size br tn vo l m E
  ap : ∀ c, FtS bs vp c → ¬ FtR br m vo c
  bel : Below W0.heap.size W0 W
  kp : ∀ p ∈ K, W.heap[p.1]? = some p.2 ∧ ¬ FtS bs vp p.1 ∧ ¬ FtR br m vo p.1
section
variable {W0 W W' : World} {bs br m : Nat} {tn : Int} {vp vo : Value} {L L' : List Pst} {k k' : Nat} {l l' : List Od} {E E' : List (Int × Od)} {K : List (Nat × Obj)}
theorem LnS.send (h : LnS W0 W bs br tn vp L k vo l m E K) {vp' : Value} {S : Nat → Prop} (hs : SnAt W' W0.heap.size bs tn vp' L' k') (hf : Fr S W W') (hS : ∀ c, S c → FtS bs vp c) (hn : ∀ g, vp'.ownBlock = some g → vp.ownBlock = some g ∨ W.heap.size ≤ g) : LnS W0 W' bs br tn vp' L' k' vo l m E K := by
  have hF : ∀ c, FtS bs vp' c → FtS bs vp c ∨ W.heap.size ≤ c := fun c hc => by
    rcases hc with rfl | hc
    · exact .inl (.inl rfl)
    · exact (hn c hc).imp_left .inr
  refine ⟨hs, h.rc.turn hf (fun c hc => ?_), fun c hc hr => ?_, h.bel.trans (hf.below _ h.bel.size (fun c hc => h.sn.bge c (hS c hc))), fun p hp => ?_⟩
  · have := h.ap c (hS c hc)
    exact ⟨fun e => this (.inl e), fun e => this (.inr (.inl e)), fun e => this (.inr (.inr e))⟩
  · rcases hF c hc with h1 | h1
    · exact h.ap c h1 hr
    · have := h.rc.lt c hr
      omega
  · obtain ⟨k1, k2, k3⟩ := h.kp p hp
    have hlt : p.1 < W.heap.size := (Array.getElem?_eq_some_iff.1 k1).1
    refine ⟨(hf.block _ hlt (fun hs => k2 (hS _ hs))).trans k1, fun hc => ?_, k3⟩
    rcases hF _ hc with h1 | h1
    · exact k2 h1
    · omega
theorem LnS.recv (h : LnS W0 W bs br tn vp L k vo l m E K) {vo' : Value} {S : Nat → Prop} (hs : RcAt W' W0.heap.size br tn vo' l' m E') (hf : Fr S W W') (hS : ∀ c, S c → FtR br m vo c) (hn : ∀ g, vo'.ownBlock = some g → vo.ownBlock = some g ∨ W.heap.size ≤ g) : LnS W0 W' bs br tn vp L k vo' l' m E' K := by
  have hF : ∀ c, FtR br m vo' c → FtR br m vo c ∨ W.heap.size ≤ c := fun c hc => by
    rcases hc with rfl | rfl | hc
    · exact .inl (.inl rfl)
    · exact .inl (.inr (.inl rfl))
    · exact (hn c hc).imp_left (fun e => .inr (.inr e))
  refine ⟨h.sn.turn hf (fun c hc hs => h.ap c hs (hS c hc)), hs, fun c hc hr => ?_, h.bel.trans (hf.below _ h.bel.size (fun c hc => h.rc.bge c (hS c hc))), fun p hp => ?_⟩
  · rcases hF c hr with h1 | h1
    · exact h.ap c hc h1
    · have := h.sn.lt c hc
      omega
  · obtain ⟨k1, k2, k3⟩ := h.kp p hp
    have hlt : p.1 < W.heap.size := (Array.getElem?_eq_some_iff.1 k1).1
    refine ⟨(hf.block _ hlt (fun hs => k3 (hS _ hs))).trans k1, k2, fun hc => ?_⟩
    rcases hF _ hc with h1 | h1
    · exact k3 h1
    · omega
theorem LnS.below (h : LnS W0 W bs br tn vp L k vo l m E K) (hb : Below W.heap.size W W') : LnS W0 W' bs br tn vp L k vo l m E K :=
  h.send (S := fun _ => False) (h.sn.below hb) (Fr.under _ hb) (fun _ e => e.elim) (fun _ e => .inl e)
/-- One more block that stays. -/
theorem LnS.pin (h : LnS W0 W bs br tn vp L k vo l m E K) {g : Nat} {o : Obj} (hg : W.heap[g]? = some o) (h1 : ¬ FtS bs vp g) (h2 : ¬ FtR br m vo g) : LnS W0 W bs br tn vp L k vo l m E ((g, o) :: K) :=
  ⟨h.sn, h.rc, h.ap, h.bel, fun p hp => by
    rcases List.mem_cons.1 hp with rfl | hp
    · exact ⟨hg, h1, h2⟩
    · exact h.kp p hp⟩
end
/-- The messages of a tick, in a block. -/
theorem msgs_at {W : World} {B n : Nat} {vl : Value} {tn : Int} {ms : List (Nat × Int)} (h : W.ownsRow B 32 31 vl n (mCells tn ms)) (h0 : 0 < n) : ∃ g cap cur, vl = .slice (some ⟨g, 0, none⟩) n cap ∧ B ≤ g ∧ W.heap[g]? = some (.cells cur 32) ∧ cur.toList.take (n * 31) = mCells tn ms := by
  rcases h.2 with ⟨_, hz⟩ | ⟨g, cap, cur, h1, h2, h3, _, _, _, h4⟩
  · omega
  · exact ⟨g, cap, cur, h1, h2, h3, h4⟩
theorem range_of {W : World} {g n : Nat} {cur : Array Value} {t : TypeId} {xs : List Value} (h : W.heap[g]? = some (.cells cur t)) (hx : cur.toList.take n = xs) (o : Nat) (cs : List Value) (hc : (xs.drop o).take cs.length = cs) : W.rangeAt g o cs := fun j v hj => by
  have hl := (List.getElem?_eq_some_iff.1 hj).1
  have e : (xs.drop o)[j]? = some v := by rw [← hj, ← hc, List.getElem?_take, if_pos hl]
  rw [List.getElem?_drop] at e
  have hn : (cur.toList.take n)[o + j]? = some v := by rw [hx]; exact e
  rw [List.getElem?_take] at hn
  split at hn
  · simp only [World.cell?, h]
    rw [← Array.getElem?_toList]
    exact hn
  · cases hn
end Go.Proofs.YtjkiidhnmljmbaaDoor
