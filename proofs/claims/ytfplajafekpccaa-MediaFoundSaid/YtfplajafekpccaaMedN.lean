/-
  The asset that a law holds; pick.
-/
import Derived.WalkKit
import Derived.LoopTactic
import Derived.WalkSpells
import Derived.WalkLawsBesides
import Derived.RegionTactic
import Derived.BigRegion
import Derived.Deep.QuietTactic
import Derived.BigQuiet
import Derived.IntWalk
import Derived.Outline
import Derived.Test.YtfplajafekpccaaMedL
import Derived.Test.YtfplajafekpccaaMedM
set_option linter.unusedVariables false
set_option linter.unusedSimpArgs false
namespace Go.Proofs.Ytfplajafekpccaa
open Go.RowKit Onair
/-- The asset that a law holds at block r. -/
structure AM (W : World) (r : Nat) (i : Int) (oa : Option Addr) (cap : Nat) (l : List Pic) (w : World) : Prop where
  blk : Blk w r 24 [.int .i64 i, .slice oa l.length cap]
  rd : RdP w oa l
  bel : Below W.heap.size W w
theorem AM.below {W : World} {r : Nat} {i : Int} {oa : Option Addr} {cap : Nat} {l : List Pic} {w w' : World} (h : AM W r i oa cap l w) (hb : Below w.heap.size w w') : AM W r i oa cap l w' :=
  ⟨h.blk.kept (hb.block _ h.blk.lt), h.rd.kept hb, bstep h.bel hb⟩
theorem AM.alloc {W : World} {r : Nat} {i : Int} {oa : Option Addr} {cap : Nat} {l : List Pic} {w : World} (h : AM W r i oa cap l w) (o : Obj) : AM W r i oa cap l (w.alloc o) := h.below ((Below.refl _ w).alloc (Nat.le_refl _) o)
theorem AM.new (W : World) (r : Nat) (i : Int) (oa : Option Addr) (cap : Nat) (l : List Pic) (hr : W.heap.size = r) (hrd : RdP W oa l) : AM W r i oa cap l (W.alloc (.cells #[.int .i64 i, .slice oa l.length cap] 24)) := by
  have hb : Below W.heap.size W (W.alloc (.cells #[.int .i64 i, .slice oa l.length cap] 24)) := (Below.refl _ W).alloc (Nat.le_refl _) _
  exact ⟨blk_at (l := [.int .i64 i, .slice oa l.length cap]) hr, hrd.kept hb, hb⟩
theorem AM.put {W : World} {r : Nat} {i : Int} {oa oL : Option Addr} {cap cL : Nat} {l L : List Pic} {w1 w2 : World} (h : AM W r i oa cap l w1) (hr : W.heap.size = r) (ho : w2.ownsRow w1.heap.size 42 3 (.slice oL L.length cL) L.length (pcells L)) (hb : Below w1.heap.size w1 w2) :
    AM W r i oL cL L ((w2.setCell ⟨r, 0, none⟩ (.int .i64 i)).setCell ⟨r, 1, none⟩ (.slice oL L.length cL)) := by
  have hlt := h.blk.lt
  have h2 := h.below hb
  refine ⟨(h2.blk.set 0 _).set 1 _, ?_, ?_⟩
  · refine (own_rdp (B := w1.heap.size) (n := L.length) (cap := cL) (ownsRow_kept' ho (fun g hg => ?_))).2
    have := own_ge ho g hg
    rw [Below.heap_setCell _ _ _ _ (by show g ≠ r; omega), Below.heap_setCell _ _ _ _ (by show g ≠ r; omega)]
  · exact (h2.bel.setCell (p := ⟨r, 0, none⟩) (Nat.le_of_eq hr) _).setCell (p := ⟨r, 1, none⟩) (Nat.le_of_eq hr) _
/-- pick: an arbitrary integer to 0..n-1. -/
def pickM (c n : Int) : Int := (if c < 0 then -(c + 1) else c) % n
theorem pickM_bd (c n : Int) (h : 0 < n) : 0 ≤ pickM c n ∧ pickM c n < n := ⟨Int.emod_nonneg _ (by omega), Int.emod_lt_of_pos _ h⟩
theorem pick_any (c n : Int) (w : World) (h0 : -9223372036854775808 ≤ c) (h1 : c ≤ 9223372036854775807) (hn : 1 ≤ n) (hn2 : n ≤ 9223372036854775807) :
    Calls Try.prog 29 #[.int .i64 c, .int .i64 n] w fun e w' => e = .returned (.int .i64 (pickM c n)) ∧ w = w' := by
  by_cases hc : c < 0
  · have e : pickM c n = (-(c + 1)) % n := by unfold pickM; rw [if_pos hc]
    rw [e]
    clear e
    go_enter Try.func29, Try.ntmps29
    go_wp2
    go_ret
    exact ⟨ret_int (by rw [← Int.neg_tmod, Int.tmod_eq_emod_of_nonneg (by omega)]), rfl⟩
  · have e : pickM c n = c % n := by unfold pickM; rw [if_neg hc]
    rw [e]
    clear e
    have hc' : 0 ≤ c := by omega
    go_enter Try.func29, Try.ntmps29
    go_wp2
    go_ret
    exact ⟨rfl, rfl⟩
theorem encR_ok {i : Int} {l : List Pic} (h : validA i l = true) : encR i l = encA i l := by unfold encR; rw [if_pos h]
theorem encE_ok {i : Int} {l : List Pic} (h : validA i l = true) : encE i l = 0 := by unfold encE; rw [if_pos h]
theorem encR_no {i : Int} {l : List Pic} (h : validA i l = false) : encR i l = [] := by unfold encR; rw [h]; rfl
theorem encE_no {i : Int} {l : List Pic} (h : validA i l = false) : encE i l = 120 := by unfold encE; rw [h]; rfl
theorem encPs_len (l : List Pic) : l.all okPic = true → (encPs l).length ≤ l.length * 450 := by
  induction l with
  | nil => intro _; simp [encPs]
  | cons p l ih =>
    intro h
    rw [List.all_cons, Bool.and_eq_true] at h
    have h1 := encP_len p ((okPic_iff p).1 h.1).1
    have h2 := ih h.2
    simp only [encPs, List.length_append, List.length_cons]
    omega
theorem encA_len {i : Int} {l : List Pic} (h : validA i l = true) : (encA i l).length ≤ 1000000 := by
  obtain ⟨_, _, _, h4, h5⟩ := validA_parts h
  have h1 := encPs_len l h5
  have h2 := putL_len i
  have h3 := putL_len l.length
  unfold encA
  rw [List.length_append, List.length_append]
  omega
theorem valid_pok {i : Int} {l : List Pic} (h : validA i l = true) : ∀ p ∈ l, POk p := fun p hp => by
  have := (okPic_iff p).1 (List.all_eq_true.1 (validA_parts h).2.2.2.2 p hp)
  exact ⟨by omega, by omega, by unfold maxLen; omega⟩
theorem err_ne {x : ByteArray} (h : 0 < x.size) : x ≠ ⟨#[]⟩ := fun e => by
  rw [e] at h
  exact absurd h (by decide)
end Go.Proofs.Ytfplajafekpccaa
