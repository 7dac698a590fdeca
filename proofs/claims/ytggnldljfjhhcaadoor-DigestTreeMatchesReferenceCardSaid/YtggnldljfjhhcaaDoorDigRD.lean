/-
  The reference implementation of package digest: Leaf, Node, Left, Root.
-/
import Derived.WalkKit
import Derived.LoopTactic
import Derived.WalkSpells
import Derived.WalkLawsBesides
import Derived.IntWalk
import Derived.Outline
import Derived.Deep.QuietTactic
import Derived.BigQuiet
import Derived.Deep.RegionLaw
import Derived.Deep.RegionHeld3
import Derived.Deep.DrawnRows
import Derived.Deep.AppendLies
import Derived.Laws.EntriesVeiled
import Derived.Lib.Hide
import Derived.Laws.OwnMore
import Derived.Test.YtggnldljfjhhcaaDoorDigSha
import Derived.Test.YtggnldljfjhhcaaDoorDigH
import Derived.Test.YtggnldljfjhhcaaDoorDigJ
import Derived.Test.YtggnldljfjhhcaaDoorDigM
import Derived.Test.YtggnldljfjhhcaaDoorDigN
import Derived.Test.YtggnldljfjhhcaaDoorDigO
import Derived.Test.YtggnldljfjhhcaaDoorDigP
import Derived.Test.YtggnldljfjhhcaaDoorDigQ
import Derived.Test.YtggnldljfjhhcaaDoorDigRC
import Derived.Test.YtggnldljfjhhcaaDoorDigF
set_option linter.unusedVariables false
set_option linter.unusedSimpArgs false
namespace Go.Proofs.YtggnldljfjhhcaaDoor
open Go.RowKit Onair
attribute [local go_sem ↓] Go.wp_at_zero Go.wp_at_succ
set_option maxHeartbeats 1000000 in
theorem refLeaf_any (s : ByteArray) (w : World) (hs : s.size ≤ 90000) :
    Calls Tryd.prog 37 #[.string s] w fun e w' => e = .returned (.string (leafB s)) ∧ Below w.heap.size w w' := by
  have hls := leafS_cat s
  have hlz := leafS_size s
  have HH := Lib.hid (refSum_any (leafS s) w (by omega))
  have HV : Hid (leafB s = shaB (leafS s)) := rfl
  generalize leafS s = T at hls hlz HH HV
  go_enter Tryd.func37, Tryd.ntmps37
  go_wp2_with fail
  refine HH.out.mono ?_
  rintro e w2 ⟨rfl, hb2⟩
  have HB2 := Lib.hid hb2
  clear hb2
  go_wp2_with fail
  go_ret
  exact ⟨by rw [HV.out]; rfl, HB2.out⟩
set_option maxHeartbeats 1000000 in
theorem refNode_any (a b : ByteArray) (w : World) (ha : a.size ≤ 40000) (hb : b.size ≤ 40000) :
    Calls Tryd.prog 38 #[.string a, .string b] w fun e w' => e = .returned (.string (nodeB a b)) ∧ Below w.heap.size w w' := by
  have hls := nodeS_cat a b
  have hlz := nodeS_size a b
  have HH := Lib.hid (refSum_any (nodeS a b) w (by omega))
  have HV : Hid (nodeB a b = shaB (nodeS a b)) := rfl
  generalize nodeS a b = T at hls hlz HH HV
  go_enter Tryd.func38, Tryd.ntmps38
  go_wp2_with fail
  refine HH.out.mono ?_
  rintro e w2 ⟨rfl, hb2⟩
  have HB2 := Lib.hid hb2
  clear hb2
  go_wp2_with fail
  go_ret
  exact ⟨by rw [HV.out]; rfl, HB2.out⟩
theorem refLeft_any (n : Nat) (w : World) (h2 : 2 ≤ n) (hn : n ≤ 9223372036854775807) : Calls Tryd.prog 33 #[.int .i64 (n : Int)] w fun e w' => e = .returned (.int .i64 (splitN n : Nat)) ∧ w = w' := by
  go_enter Tryd.func33, Tryd.ntmps33
  go_wp2_with fail
  go_loop [3] (fun x => ∃ (j k : Nat), x = .int .i64 k ∧ 1 ≤ k ∧ k < n ∧ Hid (k = 2 ^ j)) (fun x => n - (intOf x).toNat)
  case atStart => exact ⟨0, 1, rfl, by decide, by omega, rfl⟩
  case round =>
    obtain ⟨j, k, rfl, hk1, hkn, HK⟩ := hrel
    by_cases h : 2 * k < n
    · have q1 : (k : Int) < (n : Int) - (k : Int) := by omega
      have HE : Hid (2 * k = 2 ^ (j + 1)) := by have := HK.out; show _ = _; rw [Nat.pow_succ]; omega
      clear HK
      go_wp2_with fail
      go_round
      case rel => exact ⟨j + 1, 2 * k, by go_num, by omega, h, HE⟩
      case measure => simp [intOf]; omega
    · have q1 : ¬ (k : Int) < (n : Int) - (k : Int) := by omega
      have HE : Hid (k = splitN n) := by
        have h1 := HK.out
        show k = 2 ^ (n - 1).log2
        rw [h1]
        congr 1
        refine ((Nat.log2_eq_iff (by omega)).2 ⟨by omega, by rw [Nat.pow_succ]; omega⟩).symm
      clear HK
      go_wp2_with fail
      go_ret
      exact ⟨by rw [HE.out]; rfl, rfl⟩
set_option maxHeartbeats 4000000 in
set_option maxRecDepth 100000 in
theorem refRoot_any : ∀ (N : Nat) (l : List ByteArray) (oa : Option Addr) (n c : Nat) (w : World), l.length ≤ N → l.length = n → n ≤ c → c ≤ 9223372036854775807 → n ≤ 1000000 → SzB 1000 l → RdS w oa l →
    Calls Tryd.prog 18 #[.slice oa n c] w fun e w' => e = .returned (.string (rootL l)) ∧ Below w.heap.size w w' := by
  intro N
  induction N with
  | zero =>
    intro l oa n c w hN hn hc hcm hnm hs hr
    obtain rfl : l = [] := List.eq_nil_of_length_eq_zero (by omega)
    obtain rfl : n = 0 := by simpa using hn.symm
    have HH := Lib.hid (refSum_any emptyB w (by decide))
    have HR : Hid (rootL [] = shaB emptyB) := rfl
    clear hr hs hN hn
    go_enter Tryd.func18, Tryd.ntmps18
    go_wp2_with fail
    refine HH.out.mono ?_
    rintro e w2 ⟨rfl, hb2⟩
    have HB2 := Lib.hid hb2
    clear hb2
    go_wp2_with fail
    go_ret
    exact ⟨rfl, HB2.out⟩
  | succ N ih =>
    intro l oa n c w hN hn hc hcm hnm hs hr
    by_cases h0 : n = 0
    · exact ih l oa n c w (by omega) hn hc hcm hnm hs hr
    · obtain ⟨b, o, rfl, hrb⟩ := hr.some (by omega)
      by_cases h1 : n = 1
      · obtain rfl := h1
        obtain ⟨x, rfl⟩ : ∃ x, l = [x] := List.length_eq_one_iff.1 hn
        have c0 := hrb.cell 0 x rfl
        have HH := Lib.hid (refLeaf_any x w (by have := hs x (by simp); omega))
        have HR : Hid (rootL [x] = leafB x) := rfl
        rw [Nat.add_zero] at c0
        clear hr hrb hs hN hn ih h0
        go_enter Tryd.func18, Tryd.ntmps18
        go_wp2_with fail
        refine HH.out.mono ?_
        rintro e w2 ⟨rfl, hb2⟩
        have HB2 := Lib.hid hb2
        clear hb2
        go_wp2_with fail
        go_ret
        exact ⟨HR.out ▸ rfl, HB2.out⟩
      · have h2 : 2 ≤ l.length := by omega
        have hk1 := splitN_lt l.length h2
        have hk2 := splitN_pos l.length
        obtain ⟨hl1, hl2⟩ := split_lens l h2
        have HSP := Lib.hid (refLeft_any l.length w h2 (by omega))
        have HRT := Lib.hid (rootL_two l h2)
        obtain ⟨k, hk⟩ : ∃ k, splitN l.length = k := ⟨_, rfl⟩
        rw [hk] at hk1 hk2 hl1 hl2 HSP HRT
        rw [hn] at HSP hk1 hl2
        have IL : Hid (∀ W, Up w W → Calls Tryd.prog 18 #[.slice (some ⟨b, o, none⟩) k c] W fun e w' => e = .returned (.string (rootL (l.take k))) ∧ Below W.heap.size W w') :=
          fun W hW => ih (l.take k) _ k c W (by omega) hl1 (by omega) hcm (by omega) (hs.take k) (hrb.kept hW.out |>.take k |>.rds)
        have IR : Hid (∀ W, Up w W → Calls Tryd.prog 18 #[.slice (some ⟨b, o + k, none⟩) (n - k) (c - k)] W fun e w' => e = .returned (.string (rootL (l.drop k))) ∧ Below W.heap.size W w') :=
          fun W hW => ih (l.drop k) _ (n - k) (c - k) W (by omega) hl2 (by omega) (by omega) (by omega) (hs.drop k) (hrb.kept hW.out |>.drop k |>.rds)
        have s1 := rootL_size (l.take k)
        have s2 := rootL_size (l.drop k)
        obtain ⟨R1, hR1⟩ : ∃ R1, rootL (l.take k) = R1 := ⟨_, rfl⟩
        obtain ⟨R2, hR2⟩ : ∃ R2, rootL (l.drop k) = R2 := ⟨_, rfl⟩
        rw [hR1] at IL s1 HRT
        rw [hR2] at IR s2 HRT
        have IN : Hid (∀ W, Up w W → Calls Tryd.prog 38 #[.string R1, .string R2] W fun e w' => e = .returned (.string (nodeB R1 R2)) ∧ Below W.heap.size W w') :=
          fun W hW => refNode_any R1 R2 W (by omega) (by omega)
        have HU := Up.refl w
        have n0 : ((n : Int) == 0) = false := by rw [beq_eq_false_iff_ne]; omega
        have n1 : ((n : Int) == 1) = false := by rw [beq_eq_false_iff_ne]; omega
        have k0 : (0 : Int) ≤ (k : Int) := by omega
        have kc : (k : Int) ≤ (c : Int) := by omega
        have kn : (k : Int) ≤ (n : Int) := by omega
        have kk : (k : Int) < (c : Int) := by omega
        have nc : (n : Int) ≤ (c : Int) := by omega
        have kne : ¬ k = c := by omega
        clear hr hrb hs hN hn ih h0 h1 s1 s2 hR1 hR2 hl1 hl2 hk h2 hk1 hk2
        go_enter Tryd.func18, Tryd.ntmps18
        go_wp2_with fail
        refine HSP.out.mono ?_
        rintro e w2 ⟨rfl, rfl⟩
        go_wp2_with fail
        go_region_held3 (fun W => Up w W) (first | assumption | exact Up.next (by assumption) (by assumption) | exact Up.drew (by assumption)) (first | ((with_reducible refine (IL.out _ (by assumption)).mono ?_); rintro e w' ⟨rfl, hb⟩) | ((with_reducible refine (IR.out _ (by assumption)).mono ?_); rintro e w' ⟨rfl, hb⟩) | ((with_reducible refine (IN.out _ (by assumption)).mono ?_); rintro e w' ⟨rfl, hb⟩))
        go_wp2_with fail
        go_ret
        refine ⟨HRT.out ▸ rfl, ?_⟩
        exact Hid.out (by assumption)
end Go.Proofs.YtggnldljfjhhcaaDoor
