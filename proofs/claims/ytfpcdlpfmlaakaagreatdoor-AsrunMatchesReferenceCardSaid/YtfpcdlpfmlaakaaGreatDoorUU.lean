/-
  The reference implementation of package digest: Leaf, Node, Left, Root.
  The reference implementation of package digest: Root.
  The reference implementation of package digest: Proof, Same.
  The reference's Entries.
  The reference's Prove; ours at an index beyond the end.
-/
import Derived.WalkKit
import Derived.Test.YtfpcdlpfmlaakaaGreatDoorTk
import Derived.LoopTactic
import Derived.WalkSpells
import Derived.WalkLawsBesides
import Derived.IntWalk
import Derived.Outline
import Derived.Deep.QuietTactic
import Derived.BigQuiet
import Derived.Deep.RegionLaw
import Derived.Deep.RegionHeld3
import Derived.Deep.DrawnRows
import Derived.Deep.AppendLies
import Derived.Laws.EntriesVeiled
import Derived.Lib.Hide
import Derived.Laws.OwnMore
import Derived.RegionTactic
import Derived.BigRegion
import Derived.Test.YtfpcdlpfmlaakaaGreatDoorAsShb
import Derived.Test.YtfpcdlpfmlaakaaGreatDoorDgG
import Derived.Test.YtfpcdlpfmlaakaaGreatDoorDgI
import Derived.Test.YtfpcdlpfmlaakaaGreatDoorDgK
import Derived.Test.YtfpcdlpfmlaakaaGreatDoorDgN
import Derived.Test.YtfpcdlpfmlaakaaGreatDoorSBC
import Derived.Test.YtfpcdlpfmlaakaaGreatDoorDgD
import Derived.Test.YtfpcdlpfmlaakaaGreatDoorAsTC
set_option linter.unusedVariables false
set_option linter.unusedSimpArgs false
namespace Go.Proofs.YtfpcdlpfmlaakaaGreatDoor
open Go.RowKit Onair
attribute [local go_sem ↓] Go.wp_at_zero Go.wp_at_succ
set_option maxHeartbeats 1000000 in
theorem refLeaf_any (s : ByteArray) (w : World) (hs : s.size ≤ 90000) :
    Calls Tryz.prog 72 #[.string s] w fun e w' => e = .returned (.string (leafB s)) ∧ Below w.heap.size w w' := by
  have hls := leafS_cat s
  have hlz := leafS_size s
  have HH := Lib.hid (refSum_any (leafS s) w (by omega))
  have HV : Hid (leafB s = shaB (leafS s)) := rfl
  generalize leafS s = T at hls hlz HH HV
  go_enter Tryz.func72, Tryz.ntmps72
  go_wp2_with fail
  refine HH.out.mono ?_
  rintro e w2 ⟨rfl, hb2⟩
  have HB2 := Lib.hid hb2
  clear hb2
  go_wp2_with fail
  go_ret
  exact ⟨by rw [HV.out]; rfl, HB2.out⟩
set_option maxHeartbeats 1000000 in
theorem refNode_any (a b : ByteArray) (w : World) (ha : a.size ≤ 40000) (hb : b.size ≤ 40000) :
    Calls Tryz.prog 74 #[.string a, .string b] w fun e w' => e = .returned (.string (nodeB a b)) ∧ Below w.heap.size w w' := by
  have hls := nodeS_cat a b
  have hlz := nodeS_size a b
  have HH := Lib.hid (refSum_any (nodeS a b) w (by omega))
  have HV : Hid (nodeB a b = shaB (nodeS a b)) := rfl
  generalize nodeS a b = T at hls hlz HH HV
  go_enter Tryz.func74, Tryz.ntmps74
  go_wp2_with fail
  refine HH.out.mono ?_
  rintro e w2 ⟨rfl, hb2⟩
  have HB2 := Lib.hid hb2
  clear hb2
  go_wp2_with fail
  go_ret
  exact ⟨by rw [HV.out]; rfl, HB2.out⟩
theorem refLeft_any (n : Nat) (w : World) (h2 : 2 ≤ n) (hn : n ≤ 9223372036854775807) : Calls Tryz.prog 73 #[.int .i64 (n : Int)] w fun e w' => e = .returned (.int .i64 (splitN n : Nat)) ∧ w = w' := by
  go_enter Tryz.func73, Tryz.ntmps73
  go_wp2_with fail
  go_loop [3] (fun x => ∃ (j k : Nat), x = .int .i64 k ∧ 1 ≤ k ∧ k < n ∧ Hid (k = 2 ^ j)) (fun x => n - (intOf x).toNat)
  case atStart => exact ⟨0, 1, rfl, by decide, by omega, rfl⟩
  case round =>
    obtain ⟨j, k, rfl, hk1, hkn, HK⟩ := hrel
    by_cases h : 2 * k < n
    · have q1 : (k : Int) < (n : Int) - (k : Int) := by omega
      have HE : Hid (2 * k = 2 ^ (j + 1)) := by have := HK.out; show _ = _; rw [Nat.pow_succ]; omega
      clear HK
      go_wp2_with fail
      go_round
      case rel => exact ⟨j + 1, 2 * k, by go_num, by omega, h, HE⟩
      case measure => simp [intOf]; omega
    · have q1 : ¬ (k : Int) < (n : Int) - (k : Int) := by omega
      have HE : Hid (k = splitN n) := by
        have h1 := HK.out
        show k = 2 ^ (n - 1).log2
        rw [h1]
        congr 1
        refine ((Nat.log2_eq_iff (by omega)).2 ⟨by omega, by rw [Nat.pow_succ]; omega⟩).symm
      clear HK
      go_wp2_with fail
      go_ret
      exact ⟨by rw [HE.out]; rfl, rfl⟩
end Go.Proofs.YtfpcdlpfmlaakaaGreatDoor
namespace Go.Proofs.YtfpcdlpfmlaakaaGreatDoor
open Go.RowKit Onair
attribute [local go_sem ↓] Go.wp_at_zero Go.wp_at_succ
set_option maxHeartbeats 4000000 in
set_option maxRecDepth 100000 in
theorem refRoot_any : ∀ (N : Nat) (l : List ByteArray) (oa : Option Addr) (n c : Nat) (w : World), l.length ≤ N → l.length = n → n ≤ c → c ≤ 9223372036854775807 → n ≤ 1000000 → SzB 1000 l → RdS w oa l →
    Calls Tryz.prog 29 #[.slice oa n c] w fun e w' => e = .returned (.string (rootL l)) ∧ Below w.heap.size w w' := by
  intro N
  induction N with
  | zero =>
    intro l oa n c w hN hn hc hcm hnm hs hr
    obtain rfl : l = [] := List.eq_nil_of_length_eq_zero (by omega)
    obtain rfl : n = 0 := by simpa using hn.symm
    have HH := Lib.hid (refSum_any emptyB w (by decide))
    have HR : Hid (rootL [] = shaB emptyB) := rfl
    clear hr hs hN hn
    go_enter Tryz.func29, Tryz.ntmps29
    go_wp2_with fail
    refine HH.out.mono ?_
    rintro e w2 ⟨rfl, hb2⟩
    have HB2 := Lib.hid hb2
    clear hb2
    go_wp2_with fail
    go_ret
    exact ⟨rfl, HB2.out⟩
  | succ N ih =>
    intro l oa n c w hN hn hc hcm hnm hs hr
    by_cases h0 : n = 0
    · exact ih l oa n c w (by omega) hn hc hcm hnm hs hr
    · obtain ⟨b, o, rfl, hrb⟩ := hr.some (by omega)
      by_cases h1 : n = 1
      · obtain rfl := h1
        obtain ⟨x, rfl⟩ : ∃ x, l = [x] := List.length_eq_one_iff.1 hn
        have c0 := hrb.cell 0 x rfl
        have HH := Lib.hid (refLeaf_any x w (by have := hs x (by simp); omega))
        have HR : Hid (rootL [x] = leafB x) := rfl
        rw [Nat.add_zero] at c0
        clear hr hrb hs hN hn ih h0
        go_enter Tryz.func29, Tryz.ntmps29
        go_wp2_with fail
        refine HH.out.mono ?_
        rintro e w2 ⟨rfl, hb2⟩
        have HB2 := Lib.hid hb2
        clear hb2
        go_wp2_with fail
        go_ret
        exact ⟨HR.out ▸ rfl, HB2.out⟩
      · have h2 : 2 ≤ l.length := by omega
        have hk1 := splitN_lt l.length h2
        have hk2 := splitN_pos l.length
        obtain ⟨hl1, hl2⟩ := split_lens l h2
        have HSP := Lib.hid (refLeft_any l.length w h2 (by omega))
        have HRT := Lib.hid (rootL_two l h2)
        obtain ⟨k, hk⟩ : ∃ k, splitN l.length = k := ⟨_, rfl⟩
        rw [hk] at hk1 hk2 hl1 hl2 HSP HRT
        rw [hn] at HSP hk1 hl2
        have IL : Hid (∀ W, Up w W → Calls Tryz.prog 29 #[.slice (some ⟨b, o, none⟩) k c] W fun e w' => e = .returned (.string (rootL (l.take k))) ∧ Below W.heap.size W w') :=
          fun W hW => ih (l.take k) _ k c W (by omega) hl1 (by omega) hcm (by omega) (hs.take k) (hrb.kept hW.out |>.take k |>.rds)
        have IR : Hid (∀ W, Up w W → Calls Tryz.prog 29 #[.slice (some ⟨b, o + k, none⟩) (n - k) (c - k)] W fun e w' => e = .returned (.string (rootL (l.drop k))) ∧ Below W.heap.size W w') :=
          fun W hW => ih (l.drop k) _ (n - k) (c - k) W (by omega) hl2 (by omega) (by omega) (by omega) (hs.drop k) (hrb.kept hW.out |>.drop k |>.rds)
        have s1 := rootL_size (l.take k)
        have s2 := rootL_size (l.drop k)
        obtain ⟨R1, hR1⟩ : ∃ R1, rootL (l.take k) = R1 := ⟨_, rfl⟩
        obtain ⟨R2, hR2⟩ : ∃ R2, rootL (l.drop k) = R2 := ⟨_, rfl⟩
        rw [hR1] at IL s1 HRT
        rw [hR2] at IR s2 HRT
        have IN : Hid (∀ W, Up w W → Calls Tryz.prog 74 #[.string R1, .string R2] W fun e w' => e = .returned (.string (nodeB R1 R2)) ∧ Below W.heap.size W w') :=
          fun W hW => refNode_any R1 R2 W (by omega) (by omega)
        have HU := Up.refl w
        have n0 : ((n : Int) == 0) = false := by rw [beq_eq_false_iff_ne]; omega
        have n1 : ((n : Int) == 1) = false := by rw [beq_eq_false_iff_ne]; omega
        have k0 : (0 : Int) ≤ (k : Int) := by omega
        have kc : (k : Int) ≤ (c : Int) := by omega
        have kn : (k : Int) ≤ (n : Int) := by omega
        have kk : (k : Int) < (c : Int) := by omega
        have nc : (n : Int) ≤ (c : Int) := by omega
        have kne : ¬ k = c := by omega
        clear hr hrb hs hN hn ih h0 h1 s1 s2 hR1 hR2 hl1 hl2 hk h2 hk1 hk2
        go_enter Tryz.func29, Tryz.ntmps29
        go_wp2_with fail
        refine HSP.out.mono ?_
        rintro e w2 ⟨rfl, rfl⟩
        go_wp2_with fail
        go_region_held3 (fun W => Up w W) (first | assumption | exact Up.next (by assumption) (by assumption) | exact Up.drew (by assumption)) (first | ((with_reducible refine (IL.out _ (by assumption)).mono ?_); rintro e w' ⟨rfl, hb⟩) | ((with_reducible refine (IR.out _ (by assumption)).mono ?_); rintro e w' ⟨rfl, hb⟩) | ((with_reducible refine (IN.out _ (by assumption)).mono ?_); rintro e w' ⟨rfl, hb⟩))
        go_wp2_with fail
        go_ret
        refine ⟨HRT.out ▸ rfl, ?_⟩
        exact Hid.out (by assumption)
end Go.Proofs.YtfpcdlpfmlaakaaGreatDoor
namespace Go.Proofs.YtfpcdlpfmlaakaaGreatDoor
open Go.RowKit Onair
attribute [local go_sem ↓] Go.wp_at_zero Go.wp_at_succ
def PrfP (w : World) (L : List ByteArray) (e : Ending) (w' : World) : Prop := ∃ oa cap, e = .returned (.tuple #[.slice oa L.length cap, .int .i64 0]) ∧ OwnV 9 w.heap.size (.slice oa L.length cap) (L.map Value.string) w' ∧ Below w.heap.size w w'
set_option maxHeartbeats 4000000 in
set_option maxRecDepth 100000 in
theorem refProof_any : ∀ (N : Nat) (l : List ByteArray) (b o n c i : Nat) (w : World), l.length ≤ N → l.length = n → n ≤ c → c ≤ 9223372036854775807 → n ≤ 1000 → i < n → SzB 1000 l → RdB w b o l →
    Calls Tryz.prog 69 #[.slice (some ⟨b, o, none⟩) n c, .int .i64 (i : Int)] w (PrfP w (proofL l i)) := by
  intro N
  induction N with
  | zero => intro l b o n c i w hN hn hc hcm hnm hi; omega
  | succ N ih =>
    intro l b o n c i w hN hn hc hcm hnm hi hs hr
    have g0 : ¬ (i : Int) < 0 := by omega
    have g1 : ¬ (n : Int) ≤ (i : Int) := by omega
    by_cases h1 : n = 1
    · obtain rfl := h1
      have HP : Hid (proofL l i = []) := proofL_one l i (by omega)
      have HO : Hid (OwnV 9 w.heap.size (.slice none 0 0) [] w) := ⟨World.ownsRow_nil _ _ _ _, Nat.le_refl _⟩
      obtain rfl : i = 0 := by omega
      clear ih hr hs hN hn g0 g1
      go_enter Tryz.func69, Tryz.ntmps69
      go_wp2_with fail
      go_ret2
      exact ⟨none, 0, by rw [HP.out]; rfl, by rw [HP.out]; exact HO.out, Below.refl _ _⟩
    · have h2 : 2 ≤ l.length := by omega
      have hk1 := splitN_lt l.length h2
      have hk2 := splitN_pos l.length
      obtain ⟨hl1, hl2⟩ := split_lens l h2
      have HSP := Lib.hid (refLeft_any l.length w h2 (by omega))
      have HPT := Lib.hid (proofL_two l i h2)
      obtain ⟨k, hk⟩ : ∃ k, splitN l.length = k := ⟨_, rfl⟩
      rw [hk] at hk1 hk2 hl1 hl2 HSP HPT
      rw [hn] at HSP hk1 hl2
      have hpl1 := proofL_len (l.take k) i
      have hpl2 := proofL_len (l.drop k) (i - k)
      rw [hl1] at hpl1
      rw [hl2] at hpl2
      have IL : Hid (∀ W, Below w.heap.size w W → Calls Tryz.prog 29 #[.slice (some ⟨b, o, none⟩) k c] W fun e w' => e = .returned (.string (rootL (l.take k))) ∧ Below W.heap.size W w') :=
        fun W hW => refRoot_any N (l.take k) _ k c W (by omega) hl1 (by omega) hcm (by omega) (hs.take k) (hr.kept hW |>.take k |>.rds)
      have IR : Hid (∀ W, Below w.heap.size w W → Calls Tryz.prog 29 #[.slice (some ⟨b, o + k, none⟩) (n - k) (c - k)] W fun e w' => e = .returned (.string (rootL (l.drop k))) ∧ Below W.heap.size W w') :=
        fun W hW => refRoot_any N (l.drop k) _ (n - k) (c - k) W (by omega) hl2 (by omega) (by omega) (by omega) (hs.drop k) (hr.kept hW |>.drop k |>.rds)
      have IP : Hid (i < k → Calls Tryz.prog 69 #[.slice (some ⟨b, o, none⟩) k c, .int .i64 (i : Int)] w (PrfP w (proofL (l.take k) i))) :=
        fun hik => ih (l.take k) b o k c i w (by omega) hl1 (by omega) hcm (by omega) hik (hs.take k) (hr.take k)
      have IQ : Hid (k ≤ i → Calls Tryz.prog 69 #[.slice (some ⟨b, o + k, none⟩) (n - k) (c - k), .int .i64 ((i : Int) - (k : Int))] w (PrfP w (proofL (l.drop k) (i - k)))) :=
        fun hik => by
          have := ih (l.drop k) b (o + k) (n - k) (c - k) (i - k) w (by omega) hl2 (by omega) (by omega) (by omega) (by omega) (hs.drop k) (hr.drop k)
          rw [show ((i - k : Nat) : Int) = (i : Int) - (k : Int) by omega] at this
          exact this
      have n1 : ((n : Int) == 1) = false := by rw [beq_eq_false_iff_ne]; omega
      have k0 : (0 : Int) ≤ (k : Int) := by omega
      have kc : (k : Int) ≤ (c : Int) := by omega
      have kn : (k : Int) ≤ (n : Int) := by omega
      have kk : (k : Int) < (c : Int) := by omega
      have nc : (n : Int) ≤ (c : Int) := by omega
      have kne : ¬ k = c := by omega
      have kne2 : ¬ c = k := by omega
      clear ih hr hs hN hk hk2 hl1 hl2 h2 h1
      by_cases hik : i < k
      · have q1 : (i : Int) < (k : Int) := by omega
        obtain ⟨ys, hys⟩ : ∃ ys, proofL (l.take k) i = ys := ⟨_, rfl⟩
        obtain ⟨R, hR⟩ : ∃ R, rootL (l.drop k) = R := ⟨_, rfl⟩
        have HE : Hid (proofL l i = ys ++ [R]) := by show _ = _; rw [HPT.out, if_pos hik, hys, hR]
        have hyl : ys.length ≤ 100000 := by rw [← hys]; omega
        rw [hys] at IP
        rw [hR] at IR
        clear hys hR HPT hpl1 hpl2
        go_enter Tryz.func69, Tryz.ntmps69
        go_wp2_with fail
        refine HSP.out.mono ?_
        rintro e w2 ⟨rfl, rfl⟩
        go_wp2_with fail
        refine (IP.out hik).mono ?_
        rintro e w3 ⟨oa, cap, rfl, hown, hb3⟩
        have HO := Lib.hid hown
        have HB3 := Lib.hid hb3
        clear hown hb3
        go_wp2_with fail
        refine (IR.out _ HB3.out).mono ?_
        rintro e w4 ⟨rfl, hb4⟩
        have ho4 := HO.out.kept hb4
        have HB4 := Lib.hid (HB3.out.trans (hb4.mono HB3.out.size))
        have hyl2 : (ys.map Value.string).length = ys.length := by simp
        obtain ⟨oa2, cap2, w5, hrun, hown5, hfr⟩ := app_one (st := 63) Tryz.underlying63 Tryz.infoStr rfl (by decide) w4 w.heap.size (.slice oa ys.length cap) _ (.string R) ho4 (by rw [hyl2]; omega) rfl 63
        rw [hyl2] at hrun hown5
        have HO5 := Lib.hid hown5
        have HB5 := Lib.hid (HB4.out.trans (hfr.below w.heap.size HB4.out.size (fun k hk => hk)))
        clear hown5 hfr ho4 hb4 hyl2
        go_wp2_with (at_builtin; refine wpList_append_run _ rfl _ _ 63 rfl _ _ _ _ rfl rfl hrun ?_)
        clear hrun
        go_ret2
        refine ⟨oa2, cap2, by rw [HE.out, List.length_append]; rfl, ?_, HB5.out⟩
        rw [HE.out, List.length_append, List.map_append]
        exact HO5.out
      · have q1 : (k : Int) ≤ (i : Int) := by omega
        have q2 : ¬ (i : Int) < (k : Int) := by omega
        have hki : k ≤ i := by omega
        have q3 : IntKind.i64.wrap ((i : Int) - (k : Int)) = (i : Int) - (k : Int) := IntWalk.i64_in _ (by omega)
        obtain ⟨ys, hys⟩ : ∃ ys, proofL (l.drop k) (i - k) = ys := ⟨_, rfl⟩
        obtain ⟨R, hR⟩ : ∃ R, rootL (l.take k) = R := ⟨_, rfl⟩
        have HE : Hid (proofL l i = ys ++ [R]) := by show _ = _; rw [HPT.out, if_neg hik, hys, hR]
        have hyl : ys.length ≤ 100000 := by rw [← hys]; omega
        rw [hys] at IQ
        rw [hR] at IL
        clear hys hR HPT hpl1 hpl2
        go_enter Tryz.func69, Tryz.ntmps69
        go_wp2_with fail
        refine HSP.out.mono ?_
        rintro e w2 ⟨rfl, rfl⟩
        go_wp2_with fail
        refine (IQ.out hki).mono ?_
        rintro e w3 ⟨oa, cap, rfl, hown, hb3⟩
        have HO := Lib.hid hown
        have HB3 := Lib.hid hb3
        clear hown hb3
        go_wp2_with fail
        refine (IL.out _ HB3.out).mono ?_
        rintro e w4 ⟨rfl, hb4⟩
        have ho4 := HO.out.kept hb4
        have HB4 := Lib.hid (HB3.out.trans (hb4.mono HB3.out.size))
        have hyl2 : (ys.map Value.string).length = ys.length := by simp
        obtain ⟨oa2, cap2, w5, hrun, hown5, hfr⟩ := app_one (st := 63) Tryz.underlying63 Tryz.infoStr rfl (by decide) w4 w.heap.size (.slice oa ys.length cap) _ (.string R) ho4 (by rw [hyl2]; omega) rfl 63
        rw [hyl2] at hrun hown5
        have HO5 := Lib.hid hown5
        have HB5 := Lib.hid (HB4.out.trans (hfr.below w.heap.size HB4.out.size (fun k hk => hk)))
        clear hown5 hfr ho4 hb4 hyl2
        go_wp2_with (at_builtin; refine wpList_append_run _ rfl _ _ 63 rfl _ _ _ _ rfl rfl hrun ?_)
        clear hrun
        go_ret2
        refine ⟨oa2, cap2, by rw [HE.out, List.length_append]; rfl, ?_, HB5.out⟩
        rw [HE.out, List.length_append, List.map_append]
        exact HO5.out
set_option maxHeartbeats 1000000 in
theorem refProof_bad (oa : Option Addr) (n c : Nat) (m : Int) (w : World) (h : m < 0 ∨ (n : Int) ≤ m) : Calls Tryz.prog 69 #[.slice oa n c, .int .i64 m] w fun e w' => e = .returned (.tuple #[.slice none 0 0, .int .i64 2]) ∧ w = w' := by
  by_cases q0 : m < 0
  · clear h
    go_enter Tryz.func69, Tryz.ntmps69
    go_wp2_with fail
    go_ret2
    exact ⟨rfl, rfl⟩
  · have q1 : (n : Int) ≤ m := h.resolve_left q0
    clear h
    go_enter Tryz.func69, Tryz.ntmps69
    go_wp2_with fail
    go_ret2
    exact ⟨rfl, rfl⟩
set_option maxHeartbeats 4000000 in
theorem same_any (w : World) (oa ob : Option Addr) (ca cb : Nat) (A B : List ByteArray) (hA : A.length ≤ 10000) (hB : B.length ≤ 10000) (hra : RdS w oa A) (hrb : RdS w ob B) :
    Calls Tryz.prog 31 #[.slice oa A.length ca, .slice ob B.length cb] w fun e w' => e = .returned (.bool (decide (A = B))) ∧ Below w.heap.size w w' := by
  have HA := Lib.hid hra
  have HB := Lib.hid hrb
  clear hra hrb
  by_cases hl : A.length = B.length
  · obtain ⟨n, hn⟩ : ∃ n, A.length = n := ⟨_, rfl⟩
    rw [← hl, hn]
    rw [hn] at hA
    have HN := Lib.hid hn
    have HM : Hid (B.length = n) := hl.symm.trans hn
    clear hl hn hB
    go_enter Tryz.func31, Tryz.ntmps31
    go_wp2_with fail
    go_loopw [5] (fun i wr => ∃ k : Nat, k ≤ n ∧ i = .int .i64 k ∧ Hid (A.take k = B.take k) ∧ Hid (Below w.heap.size w wr)) (fun i _ => n - (intOf i).toNat)
    case atStart => exact ⟨0, Nat.zero_le _, rfl, rfl, Below.refl _ _⟩
    case round =>
      obtain ⟨k, hk, rfl, HT, HW⟩ := hrel
      by_cases h : k = n
      · have HE : Hid (A = B) := by
          have := HT.out
          rw [List.take_of_length_le (by rw [HN.out]; omega), List.take_of_length_le (by rw [HM.out]; omega)] at this
          exact this
        have q1 : ¬ (k : Int) < (n : Int) := by omega
        clear h HT
        go_wp2_with fail
        go_ret
        exact ⟨by rw [decide_eq_true HE.out]; rfl, HW.out⟩
      · have h1 : k < A.length := by rw [HN.out]; omega
        have h2 : k < B.length := by rw [HM.out]; omega
        have q1 : (k : Int) < (n : Int) := by omega
        obtain ⟨x, hx⟩ : ∃ x, A[k]? = some x := ⟨_, List.getElem?_eq_getElem h1⟩
        obtain ⟨y, hy⟩ : ∃ y, B[k]? = some y := ⟨_, List.getElem?_eq_getElem h2⟩
        obtain ⟨b1, o1, rfl, hb1⟩ := HA.out.some (by omega)
        obtain ⟨b2, o2, rfl, hb2⟩ := HB.out.some (by omega)
        have c1 := (HW.out.cell (p := ⟨b1, o1 + k, none⟩) hb1.lt).trans (hb1.cell k x hx)
        have c2 := (HW.out.cell (p := ⟨b2, o2 + k, none⟩) hb2.lt).trans (hb2.cell k y hy)
        have HX := Lib.hid hx
        have HY := Lib.hid hy
        clear hb1 hb2 hx hy
        by_cases hxy : x = y
        · obtain rfl := hxy
          have HE : Hid (A.take (k + 1) = B.take (k + 1)) := by
            show _ = _
            rw [List.take_succ_eq_append_getElem h1, List.take_succ_eq_append_getElem h2, HT.out, (List.getElem?_eq_some_iff.1 HX.out).2, (List.getElem?_eq_some_iff.1 HY.out).2]
          clear h h1 h2 HT
          go_wp2_with fail
          go_quiet (fail)
          have HW2 : Hid (Below w.heap.size w (wr.drewN nq)) := drewN_below HW.out nq
          clear c1 c2
          go_wp2_with fail
          go_roundw
          case rel => exact ⟨k + 1, by omega, by go_num, HE, HW2⟩
          case measure => simp [intOf]; omega
        · have HE : Hid (¬ A = B) := fun e => hxy (by
            have a1 := HX.out
            have a2 := HY.out
            rw [e, a2] at a1
            exact (Option.some.inj a1).symm)
          have e1 : (x.toList == y.toList) = false := by rw [beq_dec]; exact decide_eq_false hxy
          have e2 : (x.toList != y.toList) = true := by rw [neq_dec]; exact decide_eq_true hxy
          clear h h1 h2 HT hxy
          go_wp2_with fail
          go_quiet (fail)
          have HW2 : Hid (Below w.heap.size w (wr.drewN nq)) := drewN_below HW.out nq
          clear c1 c2
          go_wp2_with fail
          go_ret
          exact ⟨by rw [decide_eq_false HE.out]; rfl, HW2.out⟩
  · have q1 : ((A.length : Int) != (B.length : Int)) = true := by rw [bne_iff_ne]; omega
    have HE : Hid (¬ A = B) := fun e => hl (by rw [e])
    clear hl
    go_enter Tryz.func31, Tryz.ntmps31
    go_wp2_with fail
    go_ret
    exact ⟨by rw [decide_eq_false HE.out]; rfl, Below.refl _ _⟩
end Go.Proofs.YtfpcdlpfmlaakaaGreatDoor
namespace Go.Proofs.YtfpcdlpfmlaakaaGreatDoor
open Go.RowKit Onair
attribute [local go_sem ↓] Go.wp_at_zero Go.wp_at_succ
attribute [local go_sem] Oper.semAt_some
theorem one_rds (W : World) (x : ByteArray) : RdS (W.alloc (.cells #[.string x] 9)) (some ⟨W.heap.size, 0, none⟩) [x] := by
  refine .inr ⟨W.heap.size, 0, rfl, ⟨by simp, fun j y hj => ?_⟩⟩
  have := (Blk.new W 9 [.string x]).cell j
  cases j with
  | zero =>
    simp at hj
    subst hj
    exact this
  | succ j => simp at hj
theorem salt_catE (h : ByteArray) : (⟨#[115, 97, 108, 116]⟩ : ByteArray) ++ h = ⟨([115, 97, 108, 116] ++ h.data.toList).toArray⟩ := by
  apply ByteArray.ext
  simp
theorem entR_take (l : List Rec) (k : Nat) (r : Rec) (X E C : ByteArray) (h : l[k]? = some r) (hC : headR (l.take (k + 1)) = C) (hE : encB r = E) (hX : shaB ((⟨#[115, 97, 108, 116]⟩ : ByteArray) ++ C) = X) : entR (l.take (k + 1)) = entR (l.take k) ++ [X ++ E] := by
  have ht : l.take (k + 1) = l.take k ++ [r] := by rw [List.take_add_one, h]; rfl
  have h1 : headF zero32 (l.take k ++ [r]) = C := by rw [← ht]; exact hC
  unfold entR
  rw [ht, entF_snoc, h1]
  unfold entB
  rw [← salt_catE, hX, hE]
set_option maxHeartbeats 8000000 in
set_option maxRecDepth 100000 in
theorem refEntries_any (l : List Rec) (oa : Option Addr) (n c : Nat) (w : World) (hn : l.length = n) (hb : n ≤ 900) (hr : RdR w oa l) :
    Calls Tryz.prog 30 #[.slice oa n c] w fun e w' => ∃ ob cb, e = .returned (.slice ob (entR l).length cb) ∧ OwnS w.heap.size (.slice ob (entR l).length cb) (entR l) w' ∧ Below w.heap.size w w' := by
  obtain ⟨N, hN⟩ : ∃ N, w.heap.size = N := ⟨_, rfl⟩
  have HN := Lib.hid hN
  have HR : Hid (∀ W, Below N w W → RdR W oa l) := fun W hW => hr.kept (by rw [hN]; exact hW)
  have HL := Lib.hid hn
  have HHD : Hid (∀ W, Calls Tryz.prog 25 #[.slice none 0 0] W fun e w' => e = .returned (.string zero32) ∧ Below W.heap.size W w') := fun W => refHead_any [] none 0 0 W rfl (by omega) (.inl rfl)
  have hz32 := zero32_size
  have HH0 : Hid (headR (l.take 0) = zero32) := (show _ = _ from by rw [List.take_zero]; rfl)
  generalize zero32 = Z at HHD hz32 HH0
  have HB0 : Hid (Below N w w) := Below.refl _ _
  clear hr hn
  go_enter Tryz.func30, Tryz.ntmps30
  go_wp2_with fail
  refine (HHD.out _).mono ?_
  rintro e w1 ⟨rfl, hb1⟩
  have HB1 : Hid (Below N w w1) := HB0.out.trans (hb1.mono (bnl HN.out HB0.out))
  have HO1 : Hid (OwnS N (.slice none 0 0) (entR (l.take 0)) w1) := (show OwnS _ _ _ _ from by rw [List.take_zero]; exact ⟨World.ownsRow_nil _ _ _ _, bnl HN.out HB1.out⟩)
  clear hb1 HHD HB0 hN
  go_wp2_with fail
  go_loopw [3, 4, 5] (fun ov hv iv wr => ∃ (k : Nat) (hd : ByteArray) (ob : Option Addr) (cb : Nat), k ≤ n ∧ iv = .int .i64 k ∧ ov = .slice ob k cb ∧ hv = .string hd ∧ hd.size = 32 ∧ Hid (headR (l.take k) = hd) ∧ Hid (OwnS N (.slice ob k cb) (entR (l.take k)) wr) ∧ Hid (Below N w wr)) (fun _ _ i _ => n - (intOf i).toNat)
  case atStart => exact ⟨0, Z, none, 0, Nat.zero_le _, rfl, rfl, rfl, hz32, HH0, HO1, HB1⟩
  case round =>
    clear HB1 HH0 HO1 hz32
    obtain ⟨k, hd, ob, cb, hk, rfl, rfl, rfl, hz, HH, HO, HB⟩ := hrel
    by_cases h : k < n
    · have q1 : (k : Int) < (n : Int) := by omega
      have q2 : (0 : Int) ≤ (k : Int) := by omega
      obtain ⟨r, hr⟩ : ∃ r, l[k]? = some r := ⟨l[k]'(by rw [HL.out]; exact h), List.getElem?_eq_getElem _⟩
      obtain ⟨ba, xa, rfl, hba, a0, a1, a2, a3, a4, a5⟩ := (HR.out wr HB.out).at k r hr
      have HEN := Lib.hid (fun W => refEncoded_any r W)
      have hes := encB_size r
      have HT := Lib.hid (headR_take l k r hr)
      obtain ⟨E, hE⟩ : ∃ E, encB r = E := ⟨_, rfl⟩
      rw [hE] at HEN hes HT
      have HCC := Lib.hid (fun W => refChain_any hd E W (by omega) (by omega))
      rw [HH.out] at HT
      obtain ⟨C, hC⟩ : ∃ C, chainB hd E = C := ⟨_, rfl⟩
      have hcs := chainB_size hd E
      rw [hC] at HCC hcs HT
      have hsz : ((⟨#[115, 97, 108, 116]⟩ : ByteArray) ++ C).size = 36 := by rw [ByteArray.size_append, hcs]; rfl
      have HSU := Lib.hid (fun W => refSum_any ((⟨#[115, 97, 108, 116]⟩ : ByteArray) ++ C) W (by omega))
      obtain ⟨X, hX⟩ : ∃ X, shaB ((⟨#[115, 97, 108, 116]⟩ : ByteArray) ++ C) = X := ⟨_, rfl⟩
      have hxs : X.size = 32 := by rw [← hX]; exact shaB_size _
      have HT2 := Lib.hid (entR_take l k r X E C hr HT.out hE hX)
      rw [hX] at HSU
      have HEL : Hid ((entR (l.take k)).length = k) := (show _ = _ from by rw [entR_len, List.length_take, HL.out]; omega)
      have HLE : Hid ((entR (l.take k) ++ [X ++ E]).length = k + 1) := (show _ = _ from by rw [List.length_append, HEL.out]; rfl)
      have HRK : Hid (∀ W', Below N w W' → RecAt W' ba (xa + k * 6) r) := fun W' hW => by
        obtain ⟨ba2, xa2, e2, _, h2⟩ := (HR.out W' hW).at k r hr
        cases e2
        exact h2
      clear hE hC hr h HH hX hsz
      obtain ⟨r0, r1, r2, r3, r4, r5⟩ := r
      dsimp only [recA] at HEN a0 a1 a2 a3 a4 a5
      have HKP : Hid (∀ W, Below N w W → W.cell? ⟨ba, xa + k * 6, none⟩ = some (.int .i64 r0) ∧ W.cell? ⟨ba, xa + k * 6 + 1, none⟩ = some (.int .i64 r1) ∧ W.cell? ⟨ba, xa + k * 6 + 2, none⟩ = some (.int .i64 r2) ∧ W.cell? ⟨ba, xa + k * 6 + 3, none⟩ = some (.int .i64 r3) ∧ W.cell? ⟨ba, xa + k * 6 + 4, none⟩ = some (.int .i64 r4) ∧ W.cell? ⟨ba, xa + k * 6 + 5, none⟩ = some (.int .i64 r5)) := fun W hW => by
        obtain ⟨b0, b1, b2, b3, b4, b5⟩ := HRK.out W hW
        exact ⟨b0, b1, b2, b3, b4, b5⟩
      go_wp2_with fail
      refine (HEN.out _).mono ?_
      rintro e w2 ⟨rfl, hb2⟩
      have HB2 : Hid (Below N w w2) := HB.out.trans (hb2.mono (bnl HN.out HB.out))
      have HO2 : Hid (OwnS N (.slice ob k cb) (entR (l.take k)) w2) := HO.out.kept hb2
      clear hb2 HB HO a0 a1 a2 a3 a4 a5
      go_wp2_with fail
      refine (HCC.out _).mono ?_
      rintro e w3 ⟨rfl, hb3⟩
      have HQ : Hid (Below N w w3.drew) := (HB2.out.trans (hb3.mono (bnl HN.out HB2.out))).drew
      have HO : Hid (OwnS N (.slice ob k cb) (entR (l.take k)) w3.drew) := HO2.out.kept hb3.drew
      have q4 : ¬ ((4 : Nat) + C.size > 9223372036854775807) := by omega
      have q5 : ¬ (9223372036854775807 < (4 : Nat) + C.size) := by omega
      have q6 : ¬ (X.size + E.size > 9223372036854775807) := by omega
      have q7 : ¬ (9223372036854775807 < X.size + E.size) := by omega
      have q8 : ¬ (9223372036854775807 < 32 + E.size) := by omega
      clear hb3 HB2 HCC HO2 HRK
      go_upto_region 7 with (fail)
      refine wp_region_held_drew (S := fun W => W.cell? ⟨ba, xa + k * 6, none⟩ = some (.int .i64 r0) ∧ W.cell? ⟨ba, xa + k * 6 + 1, none⟩ = some (.int .i64 r1) ∧ W.cell? ⟨ba, xa + k * 6 + 2, none⟩ = some (.int .i64 r2) ∧ W.cell? ⟨ba, xa + k * 6 + 3, none⟩ = some (.int .i64 r3) ∧ W.cell? ⟨ba, xa + k * 6 + 4, none⟩ = some (.int .i64 r4) ∧ W.cell? ⟨ba, xa + k * 6 + 5, none⟩ = some (.int .i64 r5)) (by kernel_rfl) ?_ (fun hHeld => ?_)
      · exact HKP.out _ HQ.out
      generalize w3.drew = z0 at HQ HO hHeld ⊢
      refine tk 0 (some 20) ?_
      refine tk 1 (some 21) ?_
      refine tk 2 (some 22) ?_
      refine tk 4 (some 24) ?_
      refine tk 5 (some 25) ?_
      refine tk 6 (some 26) ?_
      refine tk 7 (some 27) ?_
      refine rd1 3 (some 23) (fun K hK => ?_)
      go_simp
      refine (HSU.out _).mono ?_
      rintro e z1 ⟨rfl, hbz⟩
      have HQ : Hid (Below N w z1) := HQ.out.trans (hbz.mono (bnl HN.out HQ.out))
      have HO : Hid (OwnS N (.slice ob k cb) (entR (l.take k)) z1) := HO.out.kept hbz
      clear hbz
      go_simp
      refine hK.out _ _ ?_ (fun hHeld2 => ?_)
      · exact HKP.out _ HQ.out
      clear hK K hHeld
      rename _ => hHeld
      try simp only [Act.put, List.setIfInBounds_toArray, List.set_cons_zero, List.set_cons_succ]
      refine rd1 8 (some 28) (fun K hK => ?_)
      go_simp
      refine (HEN.out _).mono ?_
      rintro e z2 ⟨rfl, hbz⟩
      have HQ : Hid (Below N w z2) := HQ.out.trans (hbz.mono (bnl HN.out HQ.out))
      have HO : Hid (OwnS N (.slice ob k cb) (entR (l.take k)) z2) := HO.out.kept hbz
      clear hbz
      go_simp
      refine hK.out _ _ ?_ (fun hHeld2 => ?_)
      · exact HKP.out _ HQ.out
      clear hK K hHeld
      rename _ => hHeld
      try simp only [Act.put, List.setIfInBounds_toArray, List.set_cons_zero, List.set_cons_succ]
      refine tk 9 (some 29) ?_
      refine rd1 10 (some 30) (fun K hK => ?_)
      go_simp
      have HQ : Hid (Below N w (z2.alloc (.cells #[.string (X ++ E)] 9))) := HQ.out.alloc (bnl HN.out HQ.out) _
      have HO : Hid (OwnS N (.slice ob k cb) (entR (l.take k)) (z2.alloc (.cells #[.string (X ++ E)] 9))) := HO.out.kept ((Below.refl _ z2).alloc (Nat.le_refl _) (.cells #[.string (X ++ E)] 9))
      have HE1 := Lib.hid (one_rds z2 (X ++ E))
      refine hK.out _ _ ?_ (fun hHeld2 => ?_)
      · exact HKP.out _ HQ.out
      clear hK K hHeld
      rename _ => hHeld
      try simp only [Act.put, List.setIfInBounds_toArray, List.set_cons_zero, List.set_cons_succ]
      refine rd1 11 (some 31) (fun K hK => ?_)
      obtain ⟨ob2, cb2, z3, hrun, ho3, hf3⟩ := app_list (z2.alloc (.cells #[.string (X ++ E)] 9)) N (.slice ob k cb) (entR (l.take k)) [X ++ E] (some ⟨z2.heap.size, 0, none⟩) 1 HO.out HE1.out (fun _ _ => trivial) (by rw [HEL.out]; omega) (by simp) 63
      have HQ : Hid (Below N w z3) := HQ.out.trans (hf3.below N (bnl HN.out HQ.out) (fun _ h => h))
      have HO3 := Lib.hid ho3
      refine step_run (by rfl) _ _ (by rfl) (by rfl) (by rfl) (fun _ => hrun) ?_
      clear hrun ho3 hf3
      refine hK.out _ _ ?_ (fun hHeld2 => ?_)
      · exact HKP.out _ HQ.out
      clear hK K hHeld
      rename _ => hHeld
      try simp only [Act.put, List.setIfInBounds_toArray, List.set_cons_zero, List.set_cons_succ]
      refine tk 12 (some 3) ?_
      refine wpAnyH_done (by kernel_rfl) ?_ _
      clear hHeld
      go_wp2_with fail
      go_roundw
      case rel => exact ⟨k + 1, C, ob2, cb2, by omega, by go_num, by rw [HEL.out], rfl, hcs, HT, (by rw [HT2.out]; have h9 := HO3.out; rw [HLE.out] at h9; exact h9), HQ⟩
      case measure => simp [intOf]; omega
    · have hkn : k = n := by omega
      have HE : Hid (entR (l.take k) = entR l) := (show _ = _ from by rw [hkn, List.take_of_length_le (by rw [HL.out]; exact Nat.le_refl _)])
      have HLE : Hid ((entR l).length = k) := (show _ = _ from by rw [entR_len, HL.out]; exact hkn.symm)
      have q1 : ¬ (k : Int) < (n : Int) := by omega
      clear h hkn HH
      go_wp2_with fail
      go_ret
      refine ⟨ob, cb, by rw [HLE.out]; rfl, ?_, by rw [HN.out]; exact HB.out⟩
      rw [HLE.out, HN.out, ← HE.out]
      exact HO.out
end Go.Proofs.YtfpcdlpfmlaakaaGreatDoor
namespace Go.Proofs.YtfpcdlpfmlaakaaGreatDoor
open Go.RowKit Onair
attribute [local go_sem ↓] Go.wp_at_zero Go.wp_at_succ
/-- Prove at an index beyond the end. -/
def ProN (W : World) (e : Ending) (w' : World) : Prop := e = .returned (.tuple #[.agg zeroPro, .int .i64 2]) ∧ Below W.heap.size W w'
theorem ents_own_rd {B : Nat} {w : World} {oa : Option Addr} {c : Nat} {L : List ByteArray} (h : OwnS B (.slice oa L.length c) L w) : RdS w oa L ∧ L.length ≤ c ∧ c ≤ 9223372036854775807 := by
  obtain ⟨_, h1, h2, h3⟩ := own_rds h.1
  exact ⟨h3, h1, h2⟩
set_option maxHeartbeats 4000000 in
set_option maxRecDepth 100000 in
theorem refProve_bad (W : World) (R : List Rec) (oR : Option Addr) (cR i n : Nat) (hn : R.length = n) (hb : n ≤ 900) (hrd : RdR W oR R) (hi : n ≤ i) (hi2 : i ≤ 1000) :
    Calls Tryz.prog 27 #[.slice oR n cR, .int .i64 (i : Int)] W (ProN W) := by
  obtain ⟨N, hN⟩ : ∃ N, W.heap.size = N := ⟨_, rfl⟩
  obtain ⟨w1, hw1⟩ : ∃ w1, W.alloc (.cells zeroPro 65) = w1 := ⟨_, rfl⟩
  have hb1 : Below N W w1 := by rw [← hw1, ← hN]; exact (Below.refl _ W).alloc (Nat.le_refl _) _
  have k1 : Blk w1 N 65 zeroPro.toList := by rw [← hw1, ← hN]; exact Blk.new W _ _
  have HEN := Lib.hid (refEntries_any R oR n cR w1 hn hb (hrd.kept (by rw [hN]; exact hb1)))
  have HLE : Hid ((entR R).length = n) := (entR_len R).trans hn
  have HPB := Lib.hid (fun (w : World) (oa : Option Addr) (c : Nat) => refProof_bad oa n c (i : Int) w (.inr (by omega)))
  have HN := Lib.hid hN
  have HB1 := Lib.hid hb1
  have HK := Lib.hid k1
  dsimp only [zeroPro, proA] at hw1 HK
  clear hb1 k1 hn hrd
  go_enter Tryz.func27, Tryz.ntmps27
  go_wp2_with fail
  refine HEN.out.mono ?_
  rintro e w2 ⟨ob, cb, rfl, _, hb2⟩
  have HB2 : Hid (Below N W w2) := HB1.out.trans (hb2.mono (bnl HN.out HB1.out))
  have hk2 := HK.out.kept (hb2.block N HK.out.lt)
  rw [HLE.out]
  clear hb2 HEN HB1 HK hw1 hN
  have f0 := hk2.cell 0
  have z0 := hk2.frozen 0
  have f1 := hk2.cell 1
  have z1 := hk2.frozen 1
  have f2 := hk2.cell 2
  have z2 := hk2.frozen 2
  have f3 := hk2.cell 3
  have z3 := hk2.frozen 3
  have f4 := hk2.cell 4
  have z4 := hk2.frozen 4
  have f5 := hk2.cell 5
  have z5 := hk2.frozen 5
  have f6 := hk2.cell 6
  have z6 := hk2.frozen 6
  have f7 := hk2.cell 7
  have z7 := hk2.frozen 7
  have f8 := hk2.cell 8
  have z8 := hk2.frozen 8
  have f9 := hk2.cell 9
  have z9 := hk2.frozen 9
  dsimp only [Array.toList, List.getElem?_cons_zero, List.getElem?_cons_succ] at f0 f1 f2 f3 f4 f5 f6 f7 f8 f9
  have HK2 := Lib.hid hk2
  clear hk2
  go_wp2_with fail
  refine (HPB.out _ _ _).mono ?_
  rintro e w' ⟨rfl, rfl⟩
  clear HPB
  go_wp2_with fail
  refine gen_world (fun W9 => Blk W9 N 65 [.int .i64 0, .int .i64 0, .int .i64 0, .int .i64 0, .int .i64 0, .int .i64 0, .int .i64 0, .int .i64 0, .string ⟨#[]⟩, .slice none 0 0] ∧ Below N w2 W9) ⟨?_, ?_⟩ ?_
  · repeat (first | (with_reducible exact HK2.out) | (with_reducible refine Blk.drew ?_) | (with_reducible refine blk10 ?_ _ _ _ _ _ _ _ _ _ _))
  · repeat (first | (with_reducible exact Below.refl _ _) | (with_reducible refine drew_up ?_) | (with_reducible refine below10 ?_ (Nat.le_refl _) _ _ _ _ _ _ _ _ _ _))
  · rintro W9 ⟨hb9, he9⟩
    have g0 := hb9.cell 0
    have g1 := hb9.cell 1
    have g2 := hb9.cell 2
    have g3 := hb9.cell 3
    have g4 := hb9.cell 4
    have g5 := hb9.cell 5
    have g6 := hb9.cell 6
    have g7 := hb9.cell 7
    have g8 := hb9.cell 8
    have g9 := hb9.cell 9
    dsimp only [Array.toList, List.getElem?_cons_zero, List.getElem?_cons_succ] at g0 g1 g2 g3 g4 g5 g6 g7 g8 g9
    refine bodyPost_ret (v := .tuple #[.agg #[.int .i64 0, .int .i64 0, .int .i64 0, .int .i64 0, .int .i64 0, .int .i64 0, .int .i64 0, .int .i64 0, .string ⟨#[]⟩, .slice none 0 0], .int .i64 2]) (by simp [results, Tryz.results27, go_sem, g0, g1, g2, g3, g4, g5, g6, g7, g8, g9]) rfl ⟨rfl, by rw [HN.out]; exact HB2.out.trans he9⟩
set_option maxHeartbeats 4000000 in
set_option maxRecDepth 100000 in
theorem prove_bad (W : World) (B2 b bl : Nat) (vr ve : Value) (R : List Rec) (br : Bool) (i : Nat) (hn : R.length ≤ 900000) (hl : LgAt W B2 bl b vr ve R br) (hi : R.length ≤ i) (hi2 : i ≤ 1000) :
    Calls Tryz.prog 26 #[.pointer (some ⟨bl, 0, none⟩), .int .i64 (i : Int)] W (ProN W) := by
  obtain ⟨N, hN⟩ : ∃ N, W.heap.size = N := ⟨_, rfl⟩
  obtain ⟨w1, hw1⟩ : ∃ w1, W.alloc (.cells zeroPro 65) = w1 := ⟨_, rfl⟩
  have hb1 : Below N W w1 := by rw [← hw1, ← hN]; exact (Below.refl _ W).alloc (Nat.le_refl _) _
  have hl1 : LgAt w1 B2 bl b vr ve R br := hl.below (hN ▸ hb1)
  have k1 : Blk w1 N 65 zeroPro.toList := by rw [← hw1, ← hN]; exact Blk.new W _ _
  obtain ⟨oR, cR, rfl⟩ := own_slice hl.recs
  have c1 := hl1.blk.cell 1
  simp only [List.getElem?_cons_zero, List.getElem?_cons_succ] at c1
  have hk2 := k1
  have HAB := Lib.hid (absent_no w1 B2 bl b _ _ R br hl1)
  have HN := Lib.hid hN
  have HB1 := Lib.hid hb1
  have HK := Lib.hid k1
  have hbl : bl < N := hN ▸ hl.blk.lt
  have n1 : bl ≠ N := by omega
  have n3 : N ≠ bl := by omega
  obtain ⟨m, hm⟩ : ∃ m, R.length = m := ⟨_, rfl⟩
  rw [hm] at c1 hi hn
  have q1 : ¬ (i : Int) < 0 := by omega
  have q2 : (i : Int) ≥ (m : Int) := by omega
  have q3 : (m : Int) ≤ (i : Int) := by omega
  have f0 := hk2.cell 0
  have z0 := hk2.frozen 0
  have f1 := hk2.cell 1
  have z1 := hk2.frozen 1
  have f2 := hk2.cell 2
  have z2 := hk2.frozen 2
  have f3 := hk2.cell 3
  have z3 := hk2.frozen 3
  have f4 := hk2.cell 4
  have z4 := hk2.frozen 4
  have f5 := hk2.cell 5
  have z5 := hk2.frozen 5
  have f6 := hk2.cell 6
  have z6 := hk2.frozen 6
  have f7 := hk2.cell 7
  have z7 := hk2.frozen 7
  have f8 := hk2.cell 8
  have z8 := hk2.frozen 8
  have f9 := hk2.cell 9
  have z9 := hk2.frozen 9
  dsimp only [zeroPro, proA, Array.toList, List.getElem?_cons_zero, List.getElem?_cons_succ] at f0 f1 f2 f3 f4 f5 f6 f7 f8 f9 hw1 HK
  clear hb1 hl1 k1 hk2 hl hm
  go_enter Tryz.func26, Tryz.ntmps26
  go_wp2_with fail
  refine HAB.out.mono ?_
  rintro e w' ⟨rfl, rfl⟩
  go_wp2_with fail
  refine gen_world (fun W9 => Blk W9 N 65 [.int .i64 0, .int .i64 0, .int .i64 0, .int .i64 0, .int .i64 0, .int .i64 0, .int .i64 0, .int .i64 0, .string ⟨#[]⟩, .slice none 0 0] ∧ Below N w1 W9) ⟨?_, ?_⟩ ?_
  · repeat (first | (with_reducible exact HK.out) | (with_reducible refine Blk.drew ?_) | (with_reducible refine blk10 ?_ _ _ _ _ _ _ _ _ _ _))
  · repeat (first | (with_reducible exact Below.refl _ _) | (with_reducible refine drew_up ?_) | (with_reducible refine below10 ?_ (Nat.le_refl _) _ _ _ _ _ _ _ _ _ _))
  · rintro W9 ⟨hb9, he9⟩
    have g0 := hb9.cell 0
    have g1 := hb9.cell 1
    have g2 := hb9.cell 2
    have g3 := hb9.cell 3
    have g4 := hb9.cell 4
    have g5 := hb9.cell 5
    have g6 := hb9.cell 6
    have g7 := hb9.cell 7
    have g8 := hb9.cell 8
    have g9 := hb9.cell 9
    dsimp only [Array.toList, List.getElem?_cons_zero, List.getElem?_cons_succ] at g0 g1 g2 g3 g4 g5 g6 g7 g8 g9
    refine bodyPost_ret (v := .tuple #[.agg #[.int .i64 0, .int .i64 0, .int .i64 0, .int .i64 0, .int .i64 0, .int .i64 0, .int .i64 0, .int .i64 0, .string ⟨#[]⟩, .slice none 0 0], .int .i64 2]) (by simp [results, Tryz.results26, go_sem, g0, g1, g2, g3, g4, g5, g6, g7, g8, g9]) rfl ⟨rfl, by rw [HN.out]; exact HB1.out.trans he9⟩
theorem entR_32 (R : List Rec) (x : ByteArray) (h : x ∈ entR R) : 32 ≤ x.size := by
  have : ∀ (l : List Rec) (h : ByteArray) (y : ByteArray), y ∈ entF h l → 32 ≤ y.size := by
    intro l
    induction l with
    | nil => intro h y hy; simp [entF] at hy
    | cons r l ih =>
      intro h y hy
      rcases List.mem_cons.1 hy with rfl | hy
      · rw [entB_size]; omega
      · exact ih _ y hy
  exact this R zero32 x h
set_option maxHeartbeats 8000000 in
set_option maxRecDepth 100000 in
theorem refProve_at (W : World) (R : List Rec) (oR : Option Addr) (cR i n : Nat) (r : Rec) (x : ByteArray) (hn : R.length = n) (hb : n ≤ 900) (hrd : RdR W oR R) (hr : R[i]? = some r) (hx : (entR R)[i]? = some x) :
    Calls Tryz.prog 27 #[.slice oR n cR, .int .i64 (i : Int)] W (ProP W r i n (x.extract 0 32) (proofL (entR R) i)) := by
  obtain ⟨N, hN⟩ : ∃ N, W.heap.size = N := ⟨_, rfl⟩
  obtain ⟨w1, hw1⟩ : ∃ w1, W.alloc (.cells zeroPro 65) = w1 := ⟨_, rfl⟩
  have hb1 : Below N W w1 := by rw [← hw1, ← hN]; exact (Below.refl _ W).alloc (Nat.le_refl _) _
  have k1 : Blk w1 N 65 zeroPro.toList := by rw [← hw1, ← hN]; exact Blk.new W _ _
  have hi : i < n := by rw [← hn]; exact (List.getElem?_eq_some_iff.1 hr).1
  have hx32 := entR_32 R x (List.mem_of_getElem? hx)
  have HEN := Lib.hid (refEntries_any R oR n cR w1 hn hb (hrd.kept (by rw [hN]; exact hb1)))
  have HLE : Hid ((entR R).length = n) := (entR_len R).trans hn
  have HX := Lib.hid hx
  have HPR : Hid (∀ (w : World) (b o c : Nat), n ≤ c → c ≤ 9223372036854775807 → RdB w b o (entR R) → _) := fun w b o c h1 h2 h3 => refProof_any n (entR R) b o n c i w (Nat.le_of_eq HLE.out) HLE.out h1 h2 (by omega) hi (fun y hy => Nat.le_trans (entF_sz R zero32 y hy) (by decide)) h3
  obtain ⟨gb, go, rfl, glt, ra⟩ := hrd.at i r hr
  have HRA : Hid (∀ W', Below N W W' → RecAt W' gb (go + i * 6) r) := fun W' hW => by
    obtain ⟨gb2, go2, e2, _, h2⟩ := (hrd.kept (W' := W') (by rw [hN]; exact hW)).at i r hr
    cases e2
    exact h2
  have HN := Lib.hid hN
  have HB1 := Lib.hid hb1
  have HK := Lib.hid k1
  have hi0 : (0 : Int) ≤ (i : Int) := by omega
  have hi3 : (i : Int) < (n : Int) := by omega
  have hx9 : (32 : Int) ≤ (x.size : Int) := by omega
  have n2 : gb ≠ N := by omega
  have n4 : N ≠ gb := by omega
  have hgN : gb < N := by omega
  obtain ⟨S, hS⟩ : ∃ S, x.extract 0 32 = S := ⟨_, rfl⟩
  rw [hS]
  have HS := Lib.hid hS
  obtain ⟨P, hP⟩ : ∃ P, proofL (entR R) i = P := ⟨_, rfl⟩
  rw [hP] at HPR ⊢
  dsimp only [zeroPro, proA] at hw1 HK
  clear hb1 k1 hn hrd hr hx hx32 glt ra hS hP
  go_enter Tryz.func27, Tryz.ntmps27
  go_wp2_with fail
  refine HEN.out.mono ?_
  rintro e w2 ⟨ob, cb, rfl, ho2, hb2⟩
  have HB2 : Hid (Below N W w2) := HB1.out.trans (hb2.mono (bnl HN.out HB1.out))
  have HK2 := Lib.hid (HK.out.kept (hb2.block N HK.out.lt))
  obtain ⟨hrs, hcl, hcm⟩ : RdS w2 ob (entR R) ∧ (entR R).length ≤ cb ∧ cb ≤ 9223372036854775807 := by
    have h2 := ents_own_rd ho2
    exact h2
  obtain ⟨eb, eo, rfl, hre⟩ := hrs.some (by rw [HLE.out]; omega)
  have HEB : Hid (w1.heap.size ≤ eb) := own_ge ho2.1 eb rfl
  have HRE := Lib.hid hre
  have HCL : Hid (n ≤ cb) := (show n ≤ cb from by rw [← HLE.out]; exact hcl)
  have HCM : Hid (cb ≤ 9223372036854775807) := hcm
  have hkl := HK.out.lt
  rw [HLE.out]
  clear hb2 HEN HB1 hw1 ho2 hrs hcl hcm hre hN
  go_wp2_with fail
  refine (HPR.out w2 eb eo cb HCL.out HCM.out HRE.out).mono ?_
  rintro e w3 ⟨op, cp, rfl, ho3, hb3⟩
  have HB3 : Hid (Below N W w3) := HB2.out.trans (hb3.mono (bnl HN.out HB2.out))
  have hk2 := HK2.out.kept (hb3.block N HK2.out.lt)
  have e3 : w3.cell? ⟨eb, eo + i, none⟩ = some (.string x) := (HRE.out.kept hb3).2 i x HX.out
  obtain ⟨e4, e5, e6, e7, e8, e9⟩ := HRA.out w3 HB3.out
  have f0 := hk2.cell 0
  have z0 := hk2.frozen 0
  have f1 := hk2.cell 1
  have z1 := hk2.frozen 1
  have f2 := hk2.cell 2
  have z2 := hk2.frozen 2
  have f3 := hk2.cell 3
  have z3 := hk2.frozen 3
  have f4 := hk2.cell 4
  have z4 := hk2.frozen 4
  have f5 := hk2.cell 5
  have z5 := hk2.frozen 5
  have f6 := hk2.cell 6
  have z6 := hk2.frozen 6
  have f7 := hk2.cell 7
  have z7 := hk2.frozen 7
  have f8 := hk2.cell 8
  have z8 := hk2.frozen 8
  have f9 := hk2.cell 9
  have z9 := hk2.frozen 9
  dsimp only [Array.toList, List.getElem?_cons_zero, List.getElem?_cons_succ] at f0 f1 f2 f3 f4 f5 f6 f7 f8 f9
  have P3 := Lib.hid ho3
  have HNW2 : Hid (N < w2.heap.size) := HK2.out.lt
  have hel : eb < w3.heap.size := (HRE.out.kept hb3).1
  have hnl : N < w3.heap.size := hk2.lt
  have heN : eb ≠ N := by have := HEB.out; omega
  have hNe : N ≠ eb := fun h => heN h.symm
  have HK3 := Lib.hid hk2
  clear ho3 hb3 hk2 HPR HRE HRA HK2 HB2 HX HEB
  go_wp2_with fail
  go_region_held3 (fun W => W.cell? ⟨gb, go + i * 6, none⟩ = some (.int .i64 r.ch) ∧ W.cell? ⟨gb, go + i * 6 + 1, none⟩ = some (.int .i64 r.rg) ∧ W.cell? ⟨gb, go + i * 6 + 2, none⟩ = some (.int .i64 r.fr) ∧ W.cell? ⟨gb, go + i * 6 + 3, none⟩ = some (.int .i64 r.fs) ∧ W.cell? ⟨gb, go + i * 6 + 4, none⟩ = some (.int .i64 r.it) ∧ W.cell? ⟨gb, go + i * 6 + 5, none⟩ = some (.int .i64 r.ix) ∧ W.cell? ⟨eb, eo + i, none⟩ = some (.string x)) (first | go_keep | assumption | (show World.cell? (World.setCell _ _ _) _ = _; iterate 10 rw [World.cell?_setCell_other _ _ _ _ (by simp; omega)]; assumption)) (fail)
  all_goals
    go_wp2_with fail
    refine gen_world (fun W9 => Blk W9 N 65 [.int .i64 r.ch, .int .i64 r.rg, .int .i64 r.fr, .int .i64 r.fs, .int .i64 r.it, .int .i64 r.ix, .int .i64 (i : Int), .int .i64 (n : Int), .string (x.extract 0 32), .slice op P.length cp] ∧ Below N w3 W9 ∧ Fr (fun k => k = N) w3 W9) ⟨?_, ?_, ?_⟩ ?_
    · repeat (first | (with_reducible exact HK3.out) | (with_reducible refine Blk.drew ?_) | (with_reducible refine blk10 ?_ _ _ _ _ _ _ _ _ _ _))
    · repeat (first | (with_reducible exact Below.refl _ _) | (with_reducible refine drew_up ?_) | (with_reducible refine below10 ?_ (Nat.le_refl _) _ _ _ _ _ _ _ _ _ _))
    · repeat (first | (with_reducible exact Fr.refl _ _) | (with_reducible refine Fr.drew ?_) | (with_reducible refine fr10 ?_ _ _ _ _ _ _ _ _ _ _))
    · rintro W9 ⟨hb9, he9, hr9⟩
      have g0 := hb9.cell 0
      have g1 := hb9.cell 1
      have g2 := hb9.cell 2
      have g3 := hb9.cell 3
      have g4 := hb9.cell 4
      have g5 := hb9.cell 5
      have g6 := hb9.cell 6
      have g7 := hb9.cell 7
      have g8 := hb9.cell 8
      have g9 := hb9.cell 9
      dsimp only [Array.toList, List.getElem?_cons_zero, List.getElem?_cons_succ] at g0 g1 g2 g3 g4 g5 g6 g7 g8 g9
      have ho9 : W9.ownsRow w2.heap.size 9 1 (.slice op P.length cp) (P.map Value.string).length (P.map Value.string) := ownsRow_keptF P3.out.1 (fun k e => hr9.block k (own_lt P3.out.1 k e) (fun e9 => by have := own_ge P3.out.1 k e; have := HNW2.out; omega))
      rw [List.length_map] at ho9
      refine bodyPost_ret (v := .tuple #[.agg #[.int .i64 r.ch, .int .i64 r.rg, .int .i64 r.fr, .int .i64 r.fs, .int .i64 r.it, .int .i64 r.ix, .int .i64 (i : Int), .int .i64 (n : Int), .string (x.extract 0 32), .slice op P.length cp], .int .i64 0]) (by simp [results, Tryz.results27, go_sem, g0, g1, g2, g3, g4, g5, g6, g7, g8, g9]) rfl ⟨op, cp, by rw [← HS.out]; rfl, own_base ho9 (by rw [HN.out]; exact Nat.le_of_lt HNW2.out), by rw [HN.out]; exact HB3.out.trans he9⟩
end Go.Proofs.YtfpcdlpfmlaakaaGreatDoor
