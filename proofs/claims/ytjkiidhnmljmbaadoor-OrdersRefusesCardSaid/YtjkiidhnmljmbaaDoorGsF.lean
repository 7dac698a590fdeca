/-
  Orders of every kind: what a new receiver does with any message.
-/
import Derived.Test.YtjkiidhnmljmbaaDoorGsCD
set_option linter.unusedVariables false
set_option linter.unusedSimpArgs false
namespace Go.Proofs.YtjkiidhnmljmbaaDoor
open Go.RowKit
theorem okM_seq {m : MOd} {al : List (Int × Int)} (h : okM m al = true) (hk : m.kd = 1) : 1 ≤ m.sq ∧ m.sq ≤ 200 := by
  unfold okM at h
  rw [if_pos hk] at h
  simp only [Bool.and_eq_true, decide_eq_true_eq] at h
  exact ⟨h.2.1, h.2.2.1⟩
theorem adv_new (sq : Int) (q : GP) (h : 1 ≤ sq) {l' : List GP} {E' : List (Int × GP)} (e : (l', E') = advG (putG [] [] sq q).length [] (putG [] [] sq q)) : l'.length ≤ 1 ∧ (l'.length = 1 → sq = 1) := by
  have hp : putG [] [] sq q = [(sq, q)] := by
    unfold putG idxG
    simp only [List.length_nil]
    rw [if_pos (by omega)]
    rfl
  rw [hp] at e
  simp only [List.length_cons, List.length_nil, advG] at e
  by_cases hs : sq = 1
  · subst hs
    simp [idxG, advG] at e
    rw [e.1]
    simp
  · rw [show idxG [(sq, q)] ((0 : Nat) + 1 : Int) = none from by unfold idxG; rw [if_neg (by simp; omega)]; rfl] at e
    simp at e
    rw [e.1]
    simp
theorem gRecvF (W : World) (B br mm : Nat) (mo : MOd) (al : List (Int × Int)) (h : RcG W B br 1 (.slice none 0 0) [] mm []) (hna : al.length = mo.o.an) (hlm : mo.o.an ≤ 1000000) (hr : RdA W mo.o.ao al) (hts : mo.o.txt.size ≤ maxLen) :
    Calls Tryd.prog 22 #[.pointer (some ⟨br, 0, none⟩), .agg mo.l.toArray] W fun e w' => ∃ (ob : Option Addr) (n c : Nat) (oa : Option Addr) (c' : Nat) (l' : List GP) (E' : List (Int × GP)), e = .returned (.slice ob n c) ∧ n = (if ((mo.kd == 1) && ((mo.tn == 1) && okM mo al)) = true then 1 else 0) ∧ RcG w' B br 1 (.slice oa l'.length c') l' mm E' ∧ l'.length ≤ 1 ∧ (l'.length = 1 → mo.sq = 1) ∧ Fr (fun c => c = br ∨ c = mm) W w' := by
  cases htk : ((mo.kd == 1) && ((mo.tn == 1) && okM mo al)) with
  | false =>
    refine (gRecv_no W br 1 _ _ mo al h.blk hna hlm hr hts htk).mono ?_
    rintro e w' ⟨rfl, hb⟩
    exact ⟨none, 0, 0, none, 0, [], [], rfl, rfl, h.below hb, Nat.zero_le _, fun e => (by cases e), Fr.under _ hb⟩
  | true =>
    refine (gRecv W B br 1 _ [] mm [] mo al h hna hlm hr hts htk (Nat.zero_le _)).mono ?_
    rintro e w' ⟨q, vo', ob, l', E', hq, hadv, rfl, hk, hge, hrc, hf, hv⟩
    simp only [Bool.and_eq_true, beq_iff_eq] at htk
    obtain ⟨h1, h2⟩ := adv_new mo.sq q (okM_seq htk.2.2 htk.1).1 hadv
    obtain ⟨oa, c', rfl⟩ := own_slice hrc.own
    exact ⟨some ⟨ob, 0, none⟩, 1, 1, oa, c', l', E', rfl, rfl, hrc, h1, h2, hf.mono (fun c hc => by
      rcases hc with h | h | h
      · exact .inl h
      · exact .inr h
      · simp [Value.ownBlock] at h)⟩
end Go.Proofs.YtjkiidhnmljmbaaDoor
