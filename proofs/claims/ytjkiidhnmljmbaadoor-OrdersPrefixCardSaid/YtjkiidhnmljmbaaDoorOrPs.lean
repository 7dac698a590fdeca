/-
  Orders, the law Prefix: a sender, a receiver, and the law's two lists side by side in memory; append of a tick's messages.
-/
import Derived.Test.YtjkiidhnmljmbaaDoorOrPp
import Derived.Test.YtjkiidhnmljmbaaDoorOrRq
set_option linter.unusedVariables false
set_option linter.unusedSimpArgs false
namespace Go.Proofs.YtjkiidhnmljmbaaDoor
open Go.RowKit
structure PxS (W0 W : World) (bs br : Nat) (vp : Value) (L : List Pst) (vo : Value) (l : List Od) (m : Nat) (E : List (Int × Od)) (va : Value) (A : List Od) (vs : Value) (S : List (Nat × Int)) : Prop where
  ln : LnS W0 W bs br 0 vp L 0 vo l m E []
  la : W.ownsRow W0.heap.size 30 26 va A.length (oCells A)
  ls : W.ownsRow W0.heap.size 32 31 vs S.length (mCells 0 S)
  fa : ∀ c, va.ownBlock = some c → ¬ FtS bs vp c ∧ ¬ FtR br m vo c ∧ vs.ownBlock ≠ some c
  fs : ∀ c, vs.ownBlock = some c → ¬ FtS bs vp c ∧ ¬ FtR br m vo c
section
variable {W0 W W' : World} {bs br m : Nat} {vp vp' vo vo' va va' vs vs' : Value} {L L' : List Pst} {l l' A A' : List Od} {E E' : List (Int × Od)} {S S' : List (Nat × Int)}
theorem FtS.next {c : Nat} (hn : ∀ g, vp'.ownBlock = some g → vp.ownBlock = some g ∨ W.heap.size ≤ g) (hc : FtS bs vp' c) : FtS bs vp c ∨ W.heap.size ≤ c := by
  rcases hc with rfl | hc
  · exact .inl (.inl rfl)
  · exact (hn c hc).imp_left .inr
theorem FtR.next {c : Nat} (hn : ∀ g, vo'.ownBlock = some g → vo.ownBlock = some g ∨ W.heap.size ≤ g) (hc : FtR br m vo' c) : FtR br m vo c ∨ W.heap.size ≤ c := by
  rcases hc with rfl | rfl | hc
  · exact .inl (.inl rfl)
  · exact .inl (.inr (.inl rfl))
  · exact (hn c hc).imp_left (fun e => .inr (.inr e))
theorem PxS.send (h : PxS W0 W bs br vp L vo l m E va A vs S) {T : Nat → Prop} (hs : SnAt W' W0.heap.size bs 0 vp' L' 0) (hf : Fr T W W') (hT : ∀ c, T c → FtS bs vp c) (hn : ∀ g, vp'.ownBlock = some g → vp.ownBlock = some g ∨ W.heap.size ≤ g) : PxS W0 W' bs br vp' L' vo l m E va A vs S :=
  ⟨h.ln.send hs hf hT hn, ownsRow_keptF h.la (fun c e => hf.block c (own_lt h.la c e) (fun hc => (h.fa c e).1 (hT c hc))), ownsRow_keptF h.ls (fun c e => hf.block c (own_lt h.ls c e) (fun hc => (h.fs c e).1 (hT c hc))),
    fun c e => ⟨fun hc => (FtS.next hn hc).elim (h.fa c e).1 (fun h1 => by have := own_lt h.la c e; omega), (h.fa c e).2⟩,
    fun c e => ⟨fun hc => (FtS.next hn hc).elim (h.fs c e).1 (fun h1 => by have := own_lt h.ls c e; omega), (h.fs c e).2⟩⟩
theorem PxS.recv (h : PxS W0 W bs br vp L vo l m E va A vs S) {T : Nat → Prop} (hs : RcAt W' W0.heap.size br 0 vo' l' m E') (hf : Fr T W W') (hT : ∀ c, T c → FtR br m vo c) (hn : ∀ g, vo'.ownBlock = some g → vo.ownBlock = some g ∨ W.heap.size ≤ g) : PxS W0 W' bs br vp L vo' l' m E' va A vs S :=
  ⟨h.ln.recv hs hf hT hn, ownsRow_keptF h.la (fun c e => hf.block c (own_lt h.la c e) (fun hc => (h.fa c e).2.1 (hT c hc))), ownsRow_keptF h.ls (fun c e => hf.block c (own_lt h.ls c e) (fun hc => (h.fs c e).2 (hT c hc))),
    fun c e => ⟨(h.fa c e).1, fun hc => (FtR.next hn hc).elim (h.fa c e).2.1 (fun h1 => by have := own_lt h.la c e; omega), (h.fa c e).2.2⟩,
    fun c e => ⟨(h.fs c e).1, fun hc => (FtR.next hn hc).elim (h.fs c e).2 (fun h1 => by have := own_lt h.ls c e; omega)⟩⟩
theorem PxS.below (h : PxS W0 W bs br vp L vo l m E va A vs S) (hb : Below W.heap.size W W') : PxS W0 W' bs br vp L vo l m E va A vs S :=
  h.send (T := fun _ => False) (h.ln.sn.below hb) (Fr.under _ hb) (fun _ e => e.elim) (fun _ e => .inl e)
theorem PxS.appA (h : PxS W0 W bs br vp L vo l m E va A vs S) (ho : W'.ownsRow W0.heap.size 30 26 va' A'.length (oCells A')) (hf : Fr (fun c => va.ownBlock = some c) W W') (hn : ∀ g, va'.ownBlock = some g → va.ownBlock = some g ∨ W.heap.size ≤ g) : PxS W0 W' bs br vp L vo l m E va' A' vs S := by
  refine ⟨⟨h.ln.sn.turn hf (fun c hc => (h.fa c hc).1), h.ln.rc.turn hf (fun c hc => ?_), h.ln.ap, h.ln.bel.trans (hf.below _ h.ln.bel.size (fun c hc => own_ge h.la c hc)), fun p hp => by cases hp⟩, ho, ownsRow_keptF h.ls (fun c e => hf.block c (own_lt h.ls c e) (fun hc => (h.fa c hc).2.2 e)), fun c e => ?_, h.fs⟩
  · have := (h.fa c hc).2.1
    exact ⟨fun e => this (.inl e), fun e => this (.inr (.inl e)), fun e => this (.inr (.inr e))⟩
  · rcases hn c e with h1 | h1
    · exact h.fa c h1
    · exact ⟨fun hc => by have := h.ln.sn.lt c hc; omega, fun hc => by have := h.ln.rc.lt c hc; omega, fun hc => by have := own_lt h.ls c hc; omega⟩
theorem PxS.appS (h : PxS W0 W bs br vp L vo l m E va A vs S) (ho : W'.ownsRow W0.heap.size 32 31 vs' S'.length (mCells 0 S')) (hf : Fr (fun c => vs.ownBlock = some c) W W') (hn : ∀ g, vs'.ownBlock = some g → vs.ownBlock = some g ∨ W.heap.size ≤ g) : PxS W0 W' bs br vp L vo l m E va A vs' S' := by
  refine ⟨⟨h.ln.sn.turn hf (fun c hc => (h.fs c hc).1), h.ln.rc.turn hf (fun c hc => ?_), h.ln.ap, h.ln.bel.trans (hf.below _ h.ln.bel.size (fun c hc => own_ge h.ls c hc)), fun p hp => by cases hp⟩, ownsRow_keptF h.la (fun c e => hf.block c (own_lt h.la c e) (fun hc => (h.fa c e).2.2 hc)), ho, fun c e => ⟨(h.fa c e).1, (h.fa c e).2.1, fun hc => ?_⟩, fun c e => ?_⟩
  · have := (h.fs c hc).2
    exact ⟨fun e => this (.inl e), fun e => this (.inr (.inl e)), fun e => this (.inr (.inr e))⟩
  · rcases hn c hc with h1 | h1
    · exact (h.fa c e).2.2 h1
    · have := own_lt h.la c e
      omega
  · rcases hn c e with h1 | h1
    · exact h.fs c h1
    · exact ⟨fun hc => by have := h.ln.sn.lt c hc; omega, fun hc => by have := h.ln.rc.lt c hc; omega⟩
end
theorem mCells_one (tn : Int) (S : List (Nat × Int)) : ∀ u ∈ mCells tn S, u.oneCell' = true := fun u hu => by
  simp only [mCells, List.mem_flatMap] at hu
  obtain ⟨x, _, hu⟩ := hu
  have : (msgA 1 tn ((x.1 : Int) + 1) 0 0 ((x.1 : Int) + 1) (-1) x.2 2 1).toList.all (·.oneCell') = true := by simp [msgA, Value.oneCell']
  exact List.all_eq_true.1 this u hu
theorem mCells_app (tn : Int) (S T : List (Nat × Int)) : mCells tn S ++ mCells tn T = mCells tn (S ++ T) := by simp [mCells]
/-- append of the messages of a tick. -/
theorem app_msgs (wr : World) (B B2 : Nat) (v vl : Value) (S T : List (Nat × Int)) (hown : wr.ownsRow B 32 31 v S.length (mCells 0 S)) (hl : wr.ownsRow B2 32 31 vl T.length (mCells 0 T)) (hT : T ≠ []) (hn : S.length + T.length ≤ 1000000) (hB : B ≤ wr.heap.size) (ty : TypeId) :
    ∃ oa cap w', (Builtin.append_ #[52, 52] ty #[v, vl]).run Tryd.prog wr = .ok (.slice oa (S ++ T).length cap) w' ∧ w'.ownsRow B 32 31 (.slice oa (S ++ T).length cap) (S ++ T).length (mCells 0 (S ++ T)) ∧ Fr (fun k => v.ownBlock = some k) wr w' ∧ (∀ k, (Value.slice oa (S ++ T).length cap).ownBlock = some k → v.ownBlock = some k ∨ wr.heap.size ≤ k) := by
  obtain ⟨i0, hi, hz0, hz1, hz2⟩ := info_parts Tryd.infoMsg
  rcases hl.2 with ⟨_, hz⟩ | ⟨g, cap, cur, rfl, h2⟩
  · exact absurd (List.eq_nil_of_length_eq_zero hz) hT
  have hmz : (mCells 0 T).length = T.length * 31 := hl.1
  obtain ⟨v', w', hrun, h1, h2, h3⟩ := app_own (P := Tryd.prog) (W := wr) B 52 ty 32 i0 (.agg #[.int .i64 0, .int .i64 0, .int .i64 0, .int .i64 0, .int .i64 0, .int .i64 0, .int .i64 0, .int .i64 0, .int .i64 0, .int .i64 0, .int .i64 0, .int .i64 0, .int .i64 0, .int .i64 0, .int .i64 0, .int .i64 0, .int .i64 0, .slice none 0 0, .int .i64 0, .int .i64 0, .int .i64 0, .int .i64 0, .int .i64 0, .int .i64 0, .int .i64 0, .int .i64 0, .int .i64 0, .int .i64 0, .int .i64 0, .int .i64 0, .string ⟨#[]⟩]) 31 272 Tryd.underlying52 hi hz0 hz1 hz2 rfl (by decide) v S.length (mCells 0 S) hown ⟨g, 0, none⟩ T.length cap (mCells 0 T) hmz (fun j u hj => by
      have hj2 := (List.getElem?_eq_some_iff.1 hj).1
      rw [show ((⟨g, 0, none⟩ : Addr).add j) = ⟨g, j, none⟩ from by unfold Addr.add; split <;> simp_all, hl.cellAt j (by omega)]
      exact hj) (mCells_one 0 T) (by unfold maxLen; omega) (by omega) hB
  rw [mCells_app, show S.length + T.length = (S ++ T).length by simp] at h1
  obtain ⟨oa, cap', rfl⟩ := own_slice h1
  exact ⟨oa, cap', w', hrun, h1, h2, h3⟩
end Go.Proofs.YtjkiidhnmljmbaaDoor
