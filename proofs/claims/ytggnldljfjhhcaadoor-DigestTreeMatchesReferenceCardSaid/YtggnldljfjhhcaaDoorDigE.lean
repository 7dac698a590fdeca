/-
  The walks of digest.hash, Chain, Leaf, Node, split.
-/
import Derived.WalkKit
import Derived.LoopTactic
import Derived.WalkSpells
import Derived.WalkLawsBesides
import Derived.IntWalk
import Derived.Outline
import Derived.Lib.Hide
import Derived.Lib.Join
import Derived.Lib.ItoaNum
import Derived.Test.YtggnldljfjhhcaaDoorShelf
import Derived.Test.YtggnldljfjhhcaaDoorDigD
import Derived.Test.YtggnldljfjhhcaaDoorDigTree
set_option linter.unusedVariables false
set_option linter.unusedSimpArgs false
namespace Go.Proofs.YtggnldljfjhhcaaDoor
open Go.RowKit Onair
theorem TabAt.after {w w' : World} {n : Nat} (h : TabAt w) (hb : Below n w w') (hn : w.heap.size ≤ n) : TabAt w' := h.below (hb.mono hn)
def catB : List ByteArray → ByteArray
  | [] => ⟨#[]⟩
  | x :: r => x ++ catB r
theorem join_empty (xs : List (List UInt8)) : Lib.join xs [] = xs.flatten := by
  induction xs with
  | nil => rfl
  | cons x r ih => rw [Lib.join_cons]; simp [Lib.joinTail]
set_option maxHeartbeats 1000000 in
theorem hash_any (bk c : Nat) (xs : List ByteArray) (w : World) (hcells : ∀ (j : Nat) x, xs[j]? = some x → w.cell? ⟨bk, 0 + j, none⟩ = some (.string x)) (hbk : bk < w.heap.size) (hN : xs.length ≤ 3) (hcap : xs.length ≤ c)
    (m : ByteArray) (hm : (xs.map (·.data.toList)).flatten = m.data.toList) (hlen : m.size ≤ 1000000000) (ht : TabAt w) :
    Calls Tryd.prog 42 #[.slice (some ⟨bk, 0, none⟩) xs.length c] w fun e w' => e = .returned (.string (shaB m)) ∧ Below w.heap.size w w' := by
  have hj : Lib.join (xs.map (·.data.toList)) (⟨#[]⟩ : ByteArray).data.toList = m.data.toList := (join_empty _).trans hm
  have HJ := (Tryd.strings_Join bk 0 c xs ⟨#[]⟩ w hcells hbk (by omega) hcap (by rw [hj, blen]; omega))
  rw [hj] at HJ
  have HJ := Lib.hid HJ
  have HT := Lib.hid ht
  have hml : (⟨m.data.toList.toArray⟩ : ByteArray) = m := by cases m; rfl
  rw [hml] at HJ
  clear hj hm ht hcells hml
  go_enter Tryd.func42, Tryd.ntmps42
  go_wp2_with fail
  refine HJ.out.mono ?_
  rintro e w1 ⟨rfl, hb1⟩
  have HB1 := Lib.hid hb1
  clear hb1
  go_wp2_with fail
  refine (sum_any m w1 hlen (HT.out.below HB1.out)).mono ?_
  rintro e w2 ⟨rfl, hb2⟩
  have HB2 := Lib.hid (HB1.out.trans (hb2.mono HB1.out.size))
  clear hb2
  go_wp2_with fail
  go_ret
  exact ⟨rfl, HB2.out⟩
theorem leafS_data (s : ByteArray) : ([⟨#[0]⟩, s].map (·.data.toList)).flatten = (leafS s).data.toList := by simp [leafS]
theorem nodeS_data (a b : ByteArray) : ([⟨#[1]⟩, a, b].map (·.data.toList)).flatten = (nodeS a b).data.toList := by simp [nodeS]
theorem chainS_data (a b : ByteArray) : ([⟨#[2]⟩, a, b].map (·.data.toList)).flatten = (chainS a b).data.toList := by simp [chainS]
theorem leafS_size (s : ByteArray) : (leafS s).size = s.size + 1 := by
  show (0 :: s.data.toList).toArray.size = _
  simp
theorem nodeS_size (a b : ByteArray) : (nodeS a b).size = a.size + b.size + 1 := by
  show (1 :: (a.data.toList ++ b.data.toList)).toArray.size = _
  simp
theorem chainS_size (a b : ByteArray) : (chainS a b).size = a.size + b.size + 1 := by
  show (2 :: (a.data.toList ++ b.data.toList)).toArray.size = _
  simp
theorem cells_new (w : World) (xs : List ByteArray) (t : TypeId) (j : Nat) (x : ByteArray) (h : xs[j]? = some x) : (w.alloc (.cells (xs.map Value.string).toArray t)).cell? ⟨w.heap.size, 0 + j, none⟩ = some (.string x) := by
  rw [(Blk.new w t (xs.map Value.string)).cell, Nat.zero_add, List.getElem?_map, h]
  rfl
set_option maxHeartbeats 1000000 in
theorem leaf_any (s : ByteArray) (w : World) (hs : s.size ≤ 900000000) (ht : TabAt w) :
    Calls Tryd.prog 25 #[.string s] w fun e w' => e = .returned (.string (leafB s)) ∧ Below w.heap.size w w' := by
  have hb0 : Below w.heap.size w (w.alloc (.cells #[.string ⟨#[0]⟩, .string s] 9)) := (Below.refl _ w).alloc (Nat.le_refl _) _
  have HH := Lib.hid (hash_any w.heap.size 2 [⟨#[0]⟩, s] _ (cells_new w [⟨#[0]⟩, s] 9) (by simp) (by simp) (by simp) (leafS s) (leafS_data s) (by rw [leafS_size]; omega) (ht.below hb0))
  have HB := Lib.hid hb0
  clear ht hb0
  go_enter Tryd.func25, Tryd.ntmps25
  go_wp2_with fail
  refine HH.out.mono ?_
  rintro e w2 ⟨rfl, hb2⟩
  have HB2 := Lib.hid (HB.out.trans (hb2.mono HB.out.size))
  clear hb2
  go_wp2_with fail
  go_ret
  exact ⟨rfl, HB2.out⟩
set_option maxHeartbeats 1000000 in
theorem node_any (a b : ByteArray) (w : World) (ha : a.size ≤ 400000000) (hb : b.size ≤ 400000000) (ht : TabAt w) :
    Calls Tryd.prog 28 #[.string a, .string b] w fun e w' => e = .returned (.string (nodeB a b)) ∧ Below w.heap.size w w' := by
  have hb0 : Below w.heap.size w (w.alloc (.cells #[.string ⟨#[1]⟩, .string a, .string b] 9)) := (Below.refl _ w).alloc (Nat.le_refl _) _
  have HH := Lib.hid (hash_any w.heap.size 3 [⟨#[1]⟩, a, b] _ (cells_new w [⟨#[1]⟩, a, b] 9) (by simp) (by simp) (by simp) (nodeS a b) (nodeS_data a b) (by rw [nodeS_size]; omega) (ht.below hb0))
  have HB := Lib.hid hb0
  clear ht hb0
  go_enter Tryd.func28, Tryd.ntmps28
  go_wp2_with fail
  refine HH.out.mono ?_
  rintro e w2 ⟨rfl, hb2⟩
  have HB2 := Lib.hid (HB.out.trans (hb2.mono HB.out.size))
  clear hb2
  go_wp2_with fail
  go_ret
  exact ⟨rfl, HB2.out⟩
set_option maxHeartbeats 1000000 in
theorem chain_any (a b : ByteArray) (w : World) (ha : a.size ≤ 400000000) (hb : b.size ≤ 400000000) (ht : TabAt w) :
    Calls Tryd.prog 45 #[.string a, .string b] w fun e w' => e = .returned (.string (chainB a b)) ∧ Below w.heap.size w w' := by
  have hb0 : Below w.heap.size w (w.alloc (.cells #[.string ⟨#[2]⟩, .string a, .string b] 9)) := (Below.refl _ w).alloc (Nat.le_refl _) _
  have HH := Lib.hid (hash_any w.heap.size 3 [⟨#[2]⟩, a, b] _ (cells_new w [⟨#[2]⟩, a, b] 9) (by simp) (by simp) (by simp) (chainS a b) (chainS_data a b) (by rw [chainS_size]; omega) (ht.below hb0))
  have HB := Lib.hid hb0
  clear ht hb0
  go_enter Tryd.func45, Tryd.ntmps45
  go_wp2_with fail
  refine HH.out.mono ?_
  rintro e w2 ⟨rfl, hb2⟩
  have HB2 := Lib.hid (HB.out.trans (hb2.mono HB.out.size))
  clear hb2
  go_wp2_with fail
  go_ret
  exact ⟨rfl, HB2.out⟩
theorem bitLen_log (x : Nat) (h : x ≠ 0) (h2 : x < 2 ^ 64) : Lib.bitLen x = x.log2 + 1 := by
  obtain ⟨h1, h3, h4⟩ := Lib.bitLenAux_bounds 64 x h2 h
  have : x.log2 = Lib.bitLen x - 1 := by
    rw [Nat.log2_eq_iff h]
    refine ⟨h3, ?_⟩
    have e : Lib.bitLen x - 1 + 1 = Lib.bitLen x := Nat.sub_add_cancel h1
    rw [e]
    exact h4
  have h1' : 1 ≤ Lib.bitLen x := h1
  omega
set_option maxHeartbeats 1000000 in
theorem split_any (n : Nat) (w : World) (h2 : 2 ≤ n) (hn : n ≤ 9223372036854775807) :
    Calls Tryd.prog 32 #[.int .i64 (n : Int)] w fun e w' => e = .returned (.int .i64 (splitN n : Nat)) ∧ w = w' := by
  have hb : Lib.bitLen (n - 1) = (n - 1).log2 + 1 := bitLen_log _ (by omega) (by omega)
  have hk : (n - 1).log2 < 63 := (Nat.log2_lt (by omega)).2 (by omega)
  have hs : splitN n = 2 ^ (n - 1).log2 := rfl
  have hl := splitN_lt n h2
  have HC := Tryd.bits_Len ((n : Int) - 1) w (by omega) (by omega)
  rw [show ((n : Int) - 1).toNat = n - 1 from by omega, hb] at HC
  have HC := Lib.hid HC
  obtain ⟨k, hkk⟩ : ∃ k, (n - 1).log2 = k := ⟨_, rfl⟩
  obtain ⟨S, hS⟩ : ∃ S, splitN n = S := ⟨_, rfl⟩
  rw [hkk] at HC hk hs
  rw [hS] at hs hl
  have HS := Lib.hid hs
  have HSS := Lib.hid hS
  have h1 : (0 : Int) ≤ (n : Int) - 1 := by omega
  have hk0 : ((k + 1 : Nat) : Int) - 1 = (k : Int) := by omega
  clear hb hs hkk hS
  go_enter Tryd.func32, Tryd.ntmps32
  go_wp2_with fail
  refine HC.out.mono ?_
  rintro e w1 ⟨rfl, hw⟩
  obtain rfl : w1 = w := hw
  go_wp2_with fail
  go_ret
  refine ⟨ret_int ?_, rfl⟩
  rw [HSS.out, show (2 : Int) ^ k = (S : Int) from by rw [HS.out]; simp]
  unfold wrap64
  omega
end Go.Proofs.YtggnldljfjhhcaaDoor
