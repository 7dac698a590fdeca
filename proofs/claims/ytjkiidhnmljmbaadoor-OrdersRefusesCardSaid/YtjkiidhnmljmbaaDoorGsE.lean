/-
  Orders of every kind: what a sender of drop orders answers to any order.
-/
import Derived.Test.YtjkiidhnmljmbaaDoorGrAB
set_option linter.unusedVariables false
set_option linter.unusedSimpArgs false
namespace Go.Proofs.YtjkiidhnmljmbaaDoor
open Go.RowKit
/-- n drop orders of frame 50. -/
def PF (n : Nat) : List Pst := List.replicate n ⟨50, false, 0⟩
theorem PF_len (n : Nat) : (PF n).length = n := List.length_replicate
theorem PF_succ (n : Nat) : PF n ++ [⟨50, false, 0⟩] = PF (n + 1) := List.replicate_succ'.symm
theorem PF_at {n j : Nat} {p : Pst} (h : (PF n)[j]? = some p) : p = ⟨50, false, 0⟩ := List.eq_of_mem_replicate (List.mem_of_getElem? h)
/-- Whether an order fits behind n orders of frame 50. -/
def fitsB (n : Nat) (o : GOd) (al : List (Int × Int)) : Bool := okB o al && ((o.s == (n : Int) + 1) && decide (50 ≤ o.f))
theorem gAdd_fit (W : World) (B bs : Nat) (tn : Int) (vp : Value) (n : Nat) (k : Nat) (o : GOd) (al : List (Int × Int)) (hna : al.length = o.an) (hlm : o.an ≤ 1000000) (hr : RdA W o.ao al) (hts : o.txt.size ≤ maxLen) (h : SnAt W B bs tn vp (PF n) k) (h1 : 1 ≤ n) (hn : n ≤ 199) :
    Calls Tryd.prog 20 #[.pointer (some ⟨bs, 0, none⟩), .agg o.l.toArray] W fun e w' => e = .returned (.int .i64 (if fitsB n o al = true then 0 else 200)) ∧ ∃ vp', Blk w' bs 97 [.int .i64 tn, .bool true, vp', .int .i64 k] ∧ Fr (fun c => c = bs ∨ vp.ownBlock = some c) W w' := by
  have hno : ∀ (e : Ending) (w' : World), (e = .returned (.int .i64 200) ∧ Below W.heap.size W w') → fitsB n o al = false → e = .returned (.int .i64 (if fitsB n o al = true then 0 else 200)) ∧ ∃ vp', Blk w' bs 97 [.int .i64 tn, .bool true, vp', .int .i64 k] ∧ Fr (fun c => c = bs ∨ vp.ownBlock = some c) W w' := fun e w' he hf => by
    rw [hf]
    exact ⟨he.1, vp, h.blk.kept (he.2.block _ h.blk.lt), Fr.under _ he.2⟩
  cases hok : okB o al with
  | false => exact (gAdd_no W B bs tn vp (PF n) k o al hna hlm hr hts h (by rw [PF_len]; exact hn) (.inl hok)).mono fun e w' he => hno e w' he (by unfold fitsB; rw [hok]; rfl)
  | true =>
    by_cases hs : o.s = (n : Int) + 1
    · by_cases hf : 50 ≤ o.f
      · refine (gAdd_ok W B bs tn vp (PF n) k o al hna hlm hr hts hok h (by rw [PF_len]; exact hs) (by rw [PF_len]; exact hn) (fun j p hp _ => by rw [PF_at hp]; exact hf)).mono fun e w' he => ?_
        rw [show fitsB n o al = true from by unfold fitsB; rw [hok, decide_eq_true hf, beq_iff_eq.2 hs]; rfl]
        exact he
      · exact (gAdd_early W B bs tn vp (PF n) k o al hna hlm hr hts hok h (by rw [PF_len]; exact hs) (by rw [PF_len]; exact hn) (n - 1) ⟨50, false, 0⟩ (by unfold PF; rw [List.getElem?_replicate, if_pos (by omega)]) (by rw [PF_len]; omega) (by show o.f < 50; omega)).mono fun e w' he => hno e w' he (by unfold fitsB; rw [decide_eq_false hf]; simp)
    · exact (gAdd_no W B bs tn vp (PF n) k o al hna hlm hr hts h (by rw [PF_len]; exact hn) (.inr ⟨hok, by rw [PF_len]; exact hs⟩)).mono fun e w' he => hno e w' he (by unfold fitsB; rw [beq_eq_false_iff_ne.2 hs]; simp)
end Go.Proofs.YtjkiidhnmljmbaaDoor
