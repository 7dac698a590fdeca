/-
  A slice of strings that lies in memory; the walk of digest.Root.
-/
import Derived.WalkKit
import Derived.LoopTactic
import Derived.WalkSpells
import Derived.WalkLawsBesides
import Derived.IntWalk
import Derived.Outline
import Derived.Deep.QuietTactic
import Derived.BigQuiet
import Derived.Deep.RegionHeld3
import Derived.Deep.DrawnRows
import Derived.Lib.Hide
import Derived.Test.YtggnldljfjhhcaaDoorDigE
set_option linter.unusedVariables false
set_option linter.unusedSimpArgs false
namespace Go.Proofs.YtggnldljfjhhcaaDoor
open Go.RowKit Onair
attribute [local go_sem ↓] Go.wp_at_zero Go.wp_at_succ
/-- Strings lie at the address. -/
structure RdB (W : World) (b o : Nat) (l : List ByteArray) : Prop where
  lt : b < W.heap.size
  cell : ∀ (j : Nat) (x : ByteArray), l[j]? = some x → W.cell? ⟨b, o + j, none⟩ = some (.string x)
def RdS (W : World) (oa : Option Addr) (l : List ByteArray) : Prop := l = [] ∨ ∃ b o, oa = some ⟨b, o, none⟩ ∧ RdB W b o l
theorem RdB.kept {W W' : World} {b o : Nat} {l : List ByteArray} (h : RdB W b o l) (hb : Below W.heap.size W W') : RdB W' b o l :=
  ⟨Nat.lt_of_lt_of_le h.lt hb.size, fun j x hj => (hb.cell (p := ⟨b, o + j, none⟩) h.lt).trans (h.cell j x hj)⟩
theorem RdS.kept {W W' : World} {oa : Option Addr} {l : List ByteArray} (h : RdS W oa l) (hb : Below W.heap.size W W') : RdS W' oa l := by
  rcases h with h | ⟨b, o, e, h⟩
  · exact .inl h
  · exact .inr ⟨b, o, e, h.kept hb⟩
theorem RdB.take {W : World} {b o : Nat} {l : List ByteArray} (h : RdB W b o l) (k : Nat) : RdB W b o (l.take k) :=
  ⟨h.lt, fun j x hj => h.cell j x (by
    rw [List.getElem?_take] at hj
    split at hj
    · exact hj
    · cases hj)⟩
theorem RdB.drop {W : World} {b o : Nat} {l : List ByteArray} (h : RdB W b o l) (k : Nat) : RdB W b (o + k) (l.drop k) :=
  ⟨h.lt, fun j x hj => by
    rw [List.getElem?_drop] at hj
    rw [Nat.add_assoc]
    exact h.cell (k + j) x hj⟩
theorem RdB.rds {W : World} {b o : Nat} {l : List ByteArray} (h : RdB W b o l) : RdS W (some ⟨b, o, none⟩) l := .inr ⟨b, o, rfl, h⟩
theorem RdS.some {W : World} {oa : Option Addr} {l : List ByteArray} (h : RdS W oa l) (h0 : 0 < l.length) : ∃ b o, oa = some ⟨b, o, none⟩ ∧ RdB W b o l := by
  rcases h with rfl | h
  · simp at h0
  · exact h
def SzB (m : Nat) (l : List ByteArray) : Prop := ∀ x ∈ l, x.size ≤ m
theorem SzB.take {m : Nat} {l : List ByteArray} (h : SzB m l) (k : Nat) : SzB m (l.take k) := fun x hx => h x (List.mem_of_mem_take hx)
theorem SzB.drop {m : Nat} {l : List ByteArray} (h : SzB m l) (k : Nat) : SzB m (l.drop k) := fun x hx => h x (List.mem_of_mem_drop hx)
/-- The world at hand lies above the first one. -/
def Up (w W : World) : Prop := Hid (Below w.heap.size w W)
theorem Up.refl (w : World) : Up w w := Lib.hid (Below.refl _ _)
theorem Up.next {w a b : World} (hb : Below a.heap.size a b) (h : Up w a) : Up w b := Lib.hid (h.out.trans (hb.mono h.out.size))
theorem Up.drew {w a : World} (h : Up w a) : Up w a.drew := Lib.hid h.out.drew
set_option maxHeartbeats 2000000 in
theorem root_any : ∀ (N : Nat) (l : List ByteArray) (oa : Option Addr) (n c : Nat) (w : World), l.length ≤ N → l.length = n → n ≤ c → c ≤ 9223372036854775807 → n ≤ 1000000 → SzB 300000000 l → RdS w oa l → TabAt w →
    Calls Tryd.prog 17 #[.slice oa n c] w fun e w' => e = .returned (.string (rootL l)) ∧ Below w.heap.size w w' := by
  intro N
  induction N with
  | zero =>
    intro l oa n c w hN hn hc hcm hnm hs hr ht
    obtain rfl : l = [] := List.eq_nil_of_length_eq_zero (by omega)
    obtain rfl : n = 0 := by simpa using hn.symm
    have HH := Lib.hid (sum_any emptyB w (by decide) ht)
    have HR : Hid (rootL [] = shaB emptyB) := rfl
    clear hr ht hs hN hn
    go_enter Tryd.func17, Tryd.ntmps17
    go_wp2_with fail
    refine HH.out.mono ?_
    rintro e w2 ⟨rfl, hb2⟩
    have HB2 := Lib.hid hb2
    clear hb2
    go_wp2_with fail
    go_ret
    exact ⟨rfl, HB2.out⟩
  | succ N ih =>
    intro l oa n c w hN hn hc hcm hnm hs hr ht
    by_cases h0 : n = 0
    · exact ih l oa n c w (by omega) hn hc hcm hnm hs hr ht
    · obtain ⟨b, o, rfl, hrb⟩ := hr.some (by omega)
      by_cases h1 : n = 1
      · obtain rfl := h1
        obtain ⟨x, rfl⟩ : ∃ x, l = [x] := List.length_eq_one_iff.1 hn
        have c0 := hrb.cell 0 x rfl
        have HH := Lib.hid (leaf_any x w (by have := hs x (by simp); omega) ht)
        have HR : Hid (rootL [x] = leafB x) := rfl
        rw [Nat.add_zero] at c0
        clear hr hrb ht hs hN hn ih h0
        go_enter Tryd.func17, Tryd.ntmps17
        go_wp2_with fail
        refine HH.out.mono ?_
        rintro e w2 ⟨rfl, hb2⟩
        have HB2 := Lib.hid hb2
        clear hb2
        go_wp2_with fail
        go_ret
        exact ⟨HR.out ▸ rfl, HB2.out⟩
      · have h2 : 2 ≤ l.length := by omega
        have hk1 := splitN_lt l.length h2
        have hk2 := splitN_pos l.length
        obtain ⟨hl1, hl2⟩ := split_lens l h2
        have HSP := Lib.hid (split_any l.length w h2 (by omega))
        have HRT := Lib.hid (rootL_two l h2)
        obtain ⟨k, hk⟩ : ∃ k, splitN l.length = k := ⟨_, rfl⟩
        rw [hk] at hk1 hk2 hl1 hl2 HSP HRT
        rw [hn] at HSP hk1 hl2
        have IL : Hid (∀ W, Up w W → Calls Tryd.prog 17 #[.slice (some ⟨b, o, none⟩) k c] W fun e w' => e = .returned (.string (rootL (l.take k))) ∧ Below W.heap.size W w') :=
          fun W hW => ih (l.take k) _ k c W (by omega) hl1 (by omega) hcm (by omega) (hs.take k) (hrb.kept hW.out |>.take k |>.rds) (ht.below hW.out)
        have IR : Hid (∀ W, Up w W → Calls Tryd.prog 17 #[.slice (some ⟨b, o + k, none⟩) (n - k) (c - k)] W fun e w' => e = .returned (.string (rootL (l.drop k))) ∧ Below W.heap.size W w') :=
          fun W hW => ih (l.drop k) _ (n - k) (c - k) W (by omega) hl2 (by omega) (by omega) (by omega) (hs.drop k) (hrb.kept hW.out |>.drop k |>.rds) (ht.below hW.out)
        have s1 := rootL_size (l.take k)
        have s2 := rootL_size (l.drop k)
        obtain ⟨R1, hR1⟩ : ∃ R1, rootL (l.take k) = R1 := ⟨_, rfl⟩
        obtain ⟨R2, hR2⟩ : ∃ R2, rootL (l.drop k) = R2 := ⟨_, rfl⟩
        rw [hR1] at IL s1 HRT
        rw [hR2] at IR s2 HRT
        have IN : Hid (∀ W, Up w W → Calls Tryd.prog 28 #[.string R1, .string R2] W fun e w' => e = .returned (.string (nodeB R1 R2)) ∧ Below W.heap.size W w') :=
          fun W hW => node_any R1 R2 W (by omega) (by omega) (ht.below hW.out)
        have HU := Up.refl w
        have n0 : ((n : Int) == 0) = false := by rw [beq_eq_false_iff_ne]; omega
        have n1 : ((n : Int) == 1) = false := by rw [beq_eq_false_iff_ne]; omega
        have k0 : (0 : Int) ≤ (k : Int) := by omega
        have kc : (k : Int) ≤ (c : Int) := by omega
        have kn : (k : Int) ≤ (n : Int) := by omega
        have kk : (k : Int) < (c : Int) := by omega
        have nc : (n : Int) ≤ (c : Int) := by omega
        have kne : ¬ k = c := by omega
        clear hr hrb ht hs hN hn ih h0 h1 s1 s2 hR1 hR2 hl1 hl2 hk h2 hk1 hk2
        go_enter Tryd.func17, Tryd.ntmps17
        go_wp2_with fail
        refine HSP.out.mono ?_
        rintro e w2 ⟨rfl, rfl⟩
        go_wp2_with fail
        go_region_held3 (fun W => Up w W) (first | assumption | exact Up.next (by assumption) (by assumption) | exact Up.drew (by assumption)) (first | ((with_reducible refine (IL.out _ (by assumption)).mono ?_); rintro e w' ⟨rfl, hb⟩) | ((with_reducible refine (IR.out _ (by assumption)).mono ?_); rintro e w' ⟨rfl, hb⟩) | ((with_reducible refine (IN.out _ (by assumption)).mono ?_); rintro e w' ⟨rfl, hb⟩))
        go_wp2_with fail
        go_ret
        refine ⟨HRT.out ▸ rfl, ?_⟩
        exact Hid.out (by assumption)
end Go.Proofs.YtggnldljfjhhcaaDoor
