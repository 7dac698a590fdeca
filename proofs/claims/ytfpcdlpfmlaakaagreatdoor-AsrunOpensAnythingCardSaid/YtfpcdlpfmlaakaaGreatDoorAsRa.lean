/-
  The helpers of the laws of package asrun: pick, the quads that determine records, size.
-/
import Derived.WalkKit
import Derived.LoopTactic
import Derived.WalkSpells
import Derived.WalkLawsBesides
import Derived.RegionTactic
import Derived.BigRegion
import Derived.IntWalk
import Derived.Outline
import Derived.Deep.QuietTactic
import Derived.BigQuiet
import Derived.Deep.RegionLaw
import Derived.Deep.RegionHeld3
import Derived.Deep.DrawnRows
import Derived.Deep.AppendLies
import Derived.Deep.DeepCutAuto
import Derived.Laws.EntriesVeiled
import Derived.Lib.Hide
import Derived.Laws.OwnMore
import Derived.Test.YtfpcdlpfmlaakaaGreatDoorAsMN
import Derived.Test.YtfpcdlpfmlaakaaGreatDoorAsHq
set_option linter.unusedVariables false
set_option linter.unusedSimpArgs false
namespace Go.Proofs.YtfpcdlpfmlaakaaGreatDoor
open Go.RowKit Onair
attribute [local go_sem ↓] Go.wp_at_zero Go.wp_at_succ
theorem pick_any (c n : Int) (w : World) (h0 : -9223372036854775808 ≤ c) (h1 : c ≤ 9223372036854775807) (hn : 1 ≤ n) (hn2 : n ≤ 9223372036854775807) :
    Calls Tryz.prog 14 #[.int .i64 c, .int .i64 n] w fun e w' => e = .returned (.int .i64 (pickI c n)) ∧ w = w' := by
  by_cases hc : c < 0
  · have e : pickI c n = (-(c + 1)) % n := by unfold pickI; rw [if_pos hc]
    rw [e]
    clear e
    go_enter Tryz.func14, Tryz.ntmps14
    go_wp2
    go_ret
    exact ⟨ret_int (by rw [← Int.neg_tmod, Int.tmod_eq_emod_of_nonneg (by omega)]), rfl⟩
  · have e : pickI c n = c % n := by unfold pickI; rw [if_neg hc]
    rw [e]
    clear e
    have hc' : 0 ≤ c := by omega
    go_enter Tryz.func14, Tryz.ntmps14
    go_wp2
    go_ret
    exact ⟨rfl, rfl⟩
/-- Four integers that determine a record. -/
structure Qd where
  a : Int
  b : Int
  c : Int
  d : Int
def Qd.arr (q : Qd) : Array Value := #[.int .i64 q.a, .int .i64 q.b, .int .i64 q.c, .int .i64 q.d]
structure QdI (q : Qd) : Prop where
  a0 : -9223372036854775808 ≤ q.a
  a1 : q.a ≤ 9223372036854775807
  b0 : -9223372036854775808 ≤ q.b
  b1 : q.b ≤ 9223372036854775807
  c0 : -9223372036854775808 ≤ q.c
  c1 : q.c ≤ 9223372036854775807
  d0 : -9223372036854775808 ≤ q.d
  d1 : q.d ≤ 9223372036854775807
/-- A list of quads in memory. -/
def RdQ (W : World) (oa : Option Addr) (l : List Qd) : Prop := l = [] ∨ ∃ b o, oa = some ⟨b, o, none⟩ ∧ b < W.heap.size ∧ ∀ i q, l[i]? = some q →
  W.cell? ⟨b, o + i * 4, none⟩ = some (.int .i64 q.a) ∧ W.cell? ⟨b, o + (i * 4 + 1), none⟩ = some (.int .i64 q.b) ∧ W.cell? ⟨b, o + (i * 4 + 2), none⟩ = some (.int .i64 q.c) ∧ W.cell? ⟨b, o + (i * 4 + 3), none⟩ = some (.int .i64 q.d)
theorem RdQ.kept {W W' : World} {oa : Option Addr} {l : List Qd} (h : RdQ W oa l) (hs : W.heap.size ≤ W'.heap.size) (hc : ∀ b o, oa = some ⟨b, o, none⟩ → b < W.heap.size → ∀ j, W'.cell? ⟨b, j, none⟩ = W.cell? ⟨b, j, none⟩) : RdQ W' oa l := by
  rcases h with h | ⟨b, o, e, hlt, hq⟩
  · exact .inl h
  · refine .inr ⟨b, o, e, Nat.lt_of_lt_of_le hlt hs, fun i q hi => ?_⟩
    have k := hc b o e hlt
    rw [k, k, k, k]
    exact hq i q hi
theorem RdQ.below {W W' : World} {oa : Option Addr} {l : List Qd} (h : RdQ W oa l) (hb : Below W.heap.size W W') : RdQ W' oa l :=
  h.kept hb.size (fun b _ _ hlt j => hb.cell (p := ⟨b, j, none⟩) hlt)
theorem RdQ.take {W : World} {oa : Option Addr} {l : List Qd} (h : RdQ W oa l) (k : Nat) : RdQ W oa (l.take k) := by
  rcases h with h | ⟨b, o, e, hlt, hq⟩
  · exact .inl (by rw [h]; simp)
  · refine .inr ⟨b, o, e, hlt, fun i q hi => hq i q ?_⟩
    rw [List.getElem?_take] at hi
    split at hi
    · exact hi
    · cases hi
/-- The record that four integers determine. -/
def mkR (q : Qd) : Rec := ⟨pickI q.a 3, pickI (q.a.tdiv 3) 8, pickI q.b 200000, 1 + pickI q.c 3000, pickI q.d 60, if pickI q.d 60 = 0 then 0 else pickI (q.c.tdiv 7) 90⟩
theorem mkR_valid (q : Qd) : validR (mkR q) = true := by
  have h1 := pickI_bd q.a 3 (by decide)
  have h2 := pickI_bd (q.a.tdiv 3) 8 (by decide)
  have h3 := pickI_bd q.b 200000 (by decide)
  have h4 := pickI_bd q.c 3000 (by decide)
  have h5 := pickI_bd q.d 60 (by decide)
  have h6 := pickI_bd (q.c.tdiv 7) 90 (by decide)
  unfold validR mkR
  refine decide_eq_true ?_
  dsimp only
  split <;> omega
def fewL (l : List Qd) : List Rec := (l.take 6).map mkR
def manyL (l : List Qd) : List Rec := (l.take 14).map mkR
theorem fewL_valid (l : List Qd) : ∀ r ∈ fewL l, validR r = true := by
  intro r hr
  obtain ⟨q, _, rfl⟩ := List.mem_map.1 hr
  exact mkR_valid q
theorem manyL_valid (l : List Qd) : ∀ r ∈ manyL l, validR r = true := by
  intro r hr
  obtain ⟨q, _, rfl⟩ := List.mem_map.1 hr
  exact mkR_valid q
theorem fewL_len (l : List Qd) : (fewL l).length ≤ 6 := by unfold fewL; rw [List.length_map, List.length_take]; omega
theorem manyL_len (l : List Qd) : (manyL l).length ≤ 14 := by unfold manyL; rw [List.length_map, List.length_take]; omega
def sizeN (n : Int) : Nat := (1 + pickI n 1500).toNat
theorem sizeN_eq (n : Int) : ((sizeN n : Nat) : Int) = 1 + pickI n 1500 ∧ 1 ≤ sizeN n ∧ sizeN n ≤ 1500 := by
  have := pickI_bd n 1500 (by decide)
  unfold sizeN
  omega
theorem lawSize_any (n : Int) (w : World) (h0 : -9223372036854775808 ≤ n) (h1 : n ≤ 9223372036854775807) :
    Calls Tryz.prog 7 #[.int .i64 n] w fun e w' => e = .returned (.int .i64 ((sizeN n : Nat) : Int)) ∧ w = w' := by
  have HE := Lib.hid (sizeN_eq n).1
  have hb := pickI_bd n 1500 (by decide)
  have HP := Lib.hid (pick_any n 1500 w h0 h1 (by decide) (by decide))
  obtain ⟨p, hp⟩ : ∃ p, pickI n 1500 = p := ⟨_, rfl⟩
  rw [hp] at HE hb HP
  obtain ⟨hb1, hb2⟩ := hb
  clear hp
  go_enter Tryz.func7, Tryz.ntmps7
  go_wp2_with fail
  refine HP.out.mono ?_
  rintro e w' ⟨rfl, rfl⟩
  go_wp2_with fail
  go_ret
  exact ⟨by rw [HE.out]; rfl, rfl⟩
end Go.Proofs.YtfpcdlpfmlaakaaGreatDoor
