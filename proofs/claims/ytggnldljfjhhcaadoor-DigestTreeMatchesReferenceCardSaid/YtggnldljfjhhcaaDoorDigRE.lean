/-
  The reference implementation of package digest: Proof.
-/
import Derived.WalkKit
import Derived.LoopTactic
import Derived.WalkSpells
import Derived.WalkLawsBesides
import Derived.IntWalk
import Derived.Outline
import Derived.Deep.QuietTactic
import Derived.BigQuiet
import Derived.Deep.RegionLaw
import Derived.Deep.RegionHeld3
import Derived.Deep.DrawnRows
import Derived.Deep.AppendLies
import Derived.Laws.EntriesVeiled
import Derived.Lib.Hide
import Derived.Laws.OwnMore
import Derived.Test.YtggnldljfjhhcaaDoorDigSha
import Derived.Test.YtggnldljfjhhcaaDoorDigH
import Derived.Test.YtggnldljfjhhcaaDoorDigJ
import Derived.Test.YtggnldljfjhhcaaDoorDigM
import Derived.Test.YtggnldljfjhhcaaDoorDigN
import Derived.Test.YtggnldljfjhhcaaDoorDigO
import Derived.Test.YtggnldljfjhhcaaDoorDigP
import Derived.Test.YtggnldljfjhhcaaDoorDigQ
import Derived.Test.YtggnldljfjhhcaaDoorDigRD
import Derived.Test.YtggnldljfjhhcaaDoorDigG
set_option linter.unusedVariables false
set_option linter.unusedSimpArgs false
namespace Go.Proofs.YtggnldljfjhhcaaDoor
open Go.RowKit Onair
attribute [local go_sem ↓] Go.wp_at_zero Go.wp_at_succ
def PrfP (w : World) (L : List ByteArray) (e : Ending) (w' : World) : Prop := ∃ oa cap, e = .returned (.tuple #[.slice oa L.length cap, .int .i64 0]) ∧ OwnV 9 w.heap.size (.slice oa L.length cap) (L.map Value.string) w' ∧ Below w.heap.size w w'
set_option maxHeartbeats 4000000 in
set_option maxRecDepth 100000 in
theorem refProof_any : ∀ (N : Nat) (l : List ByteArray) (b o n c i : Nat) (w : World), l.length ≤ N → l.length = n → n ≤ c → c ≤ 9223372036854775807 → n ≤ 1000 → i < n → SzB 1000 l → RdB w b o l →
    Calls Tryd.prog 13 #[.slice (some ⟨b, o, none⟩) n c, .int .i64 (i : Int)] w (PrfP w (proofL l i)) := by
  intro N
  induction N with
  | zero => intro l b o n c i w hN hn hc hcm hnm hi; omega
  | succ N ih =>
    intro l b o n c i w hN hn hc hcm hnm hi hs hr
    have g0 : ¬ (i : Int) < 0 := by omega
    have g1 : ¬ (n : Int) ≤ (i : Int) := by omega
    by_cases h1 : n = 1
    · obtain rfl := h1
      have HP : Hid (proofL l i = []) := proofL_one l i (by omega)
      have HO : Hid (OwnV 9 w.heap.size (.slice none 0 0) [] w) := ⟨World.ownsRow_nil _ _ _ _, Nat.le_refl _⟩
      obtain rfl : i = 0 := by omega
      clear ih hr hs hN hn g0 g1
      go_enter Tryd.func13, Tryd.ntmps13
      go_wp2_with fail
      go_ret2
      exact ⟨none, 0, by rw [HP.out]; rfl, by rw [HP.out]; exact HO.out, Below.refl _ _⟩
    · have h2 : 2 ≤ l.length := by omega
      have hk1 := splitN_lt l.length h2
      have hk2 := splitN_pos l.length
      obtain ⟨hl1, hl2⟩ := split_lens l h2
      have HSP := Lib.hid (refLeft_any l.length w h2 (by omega))
      have HPT := Lib.hid (proofL_two l i h2)
      obtain ⟨k, hk⟩ : ∃ k, splitN l.length = k := ⟨_, rfl⟩
      rw [hk] at hk1 hk2 hl1 hl2 HSP HPT
      rw [hn] at HSP hk1 hl2
      have hpl1 := proofL_len (l.take k) i
      have hpl2 := proofL_len (l.drop k) (i - k)
      rw [hl1] at hpl1
      rw [hl2] at hpl2
      have IL : Hid (∀ W, Below w.heap.size w W → Calls Tryd.prog 18 #[.slice (some ⟨b, o, none⟩) k c] W fun e w' => e = .returned (.string (rootL (l.take k))) ∧ Below W.heap.size W w') :=
        fun W hW => refRoot_any N (l.take k) _ k c W (by omega) hl1 (by omega) hcm (by omega) (hs.take k) (hr.kept hW |>.take k |>.rds)
      have IR : Hid (∀ W, Below w.heap.size w W → Calls Tryd.prog 18 #[.slice (some ⟨b, o + k, none⟩) (n - k) (c - k)] W fun e w' => e = .returned (.string (rootL (l.drop k))) ∧ Below W.heap.size W w') :=
        fun W hW => refRoot_any N (l.drop k) _ (n - k) (c - k) W (by omega) hl2 (by omega) (by omega) (by omega) (hs.drop k) (hr.kept hW |>.drop k |>.rds)
      have IP : Hid (i < k → Calls Tryd.prog 13 #[.slice (some ⟨b, o, none⟩) k c, .int .i64 (i : Int)] w (PrfP w (proofL (l.take k) i))) :=
        fun hik => ih (l.take k) b o k c i w (by omega) hl1 (by omega) hcm (by omega) hik (hs.take k) (hr.take k)
      have IQ : Hid (k ≤ i → Calls Tryd.prog 13 #[.slice (some ⟨b, o + k, none⟩) (n - k) (c - k), .int .i64 ((i : Int) - (k : Int))] w (PrfP w (proofL (l.drop k) (i - k)))) :=
        fun hik => by
          have := ih (l.drop k) b (o + k) (n - k) (c - k) (i - k) w (by omega) hl2 (by omega) (by omega) (by omega) (by omega) (hs.drop k) (hr.drop k)
          rw [show ((i - k : Nat) : Int) = (i : Int) - (k : Int) by omega] at this
          exact this
      have n1 : ((n : Int) == 1) = false := by rw [beq_eq_false_iff_ne]; omega
      have k0 : (0 : Int) ≤ (k : Int) := by omega
      have kc : (k : Int) ≤ (c : Int) := by omega
      have kn : (k : Int) ≤ (n : Int) := by omega
      have kk : (k : Int) < (c : Int) := by omega
      have nc : (n : Int) ≤ (c : Int) := by omega
      have kne : ¬ k = c := by omega
      have kne2 : ¬ c = k := by omega
      clear ih hr hs hN hk hk2 hl1 hl2 h2 h1
      by_cases hik : i < k
      · have q1 : (i : Int) < (k : Int) := by omega
        obtain ⟨ys, hys⟩ : ∃ ys, proofL (l.take k) i = ys := ⟨_, rfl⟩
        obtain ⟨R, hR⟩ : ∃ R, rootL (l.drop k) = R := ⟨_, rfl⟩
        have HE : Hid (proofL l i = ys ++ [R]) := by show _ = _; rw [HPT.out, if_pos hik, hys, hR]
        have hyl : ys.length ≤ 100000 := by rw [← hys]; omega
        rw [hys] at IP
        rw [hR] at IR
        clear hys hR HPT hpl1 hpl2
        go_enter Tryd.func13, Tryd.ntmps13
        go_wp2_with fail
        refine HSP.out.mono ?_
        rintro e w2 ⟨rfl, rfl⟩
        go_wp2_with fail
        refine (IP.out hik).mono ?_
        rintro e w3 ⟨oa, cap, rfl, hown, hb3⟩
        have HO := Lib.hid hown
        have HB3 := Lib.hid hb3
        clear hown hb3
        go_wp2_with fail
        refine (IR.out _ HB3.out).mono ?_
        rintro e w4 ⟨rfl, hb4⟩
        have ho4 := HO.out.kept hb4
        have HB4 := Lib.hid (HB3.out.trans (hb4.mono HB3.out.size))
        have hyl2 : (ys.map Value.string).length = ys.length := by simp
        obtain ⟨oa2, cap2, w5, hrun, hown5, hfr⟩ := app_one (st := 22) Tryd.underlying22 Tryd.infoStr rfl (by decide) w4 w.heap.size (.slice oa ys.length cap) _ (.string R) ho4 (by rw [hyl2]; omega) rfl 22
        rw [hyl2] at hrun hown5
        have HO5 := Lib.hid hown5
        have HB5 := Lib.hid (HB4.out.trans (hfr.below w.heap.size HB4.out.size (fun k hk => hk)))
        clear hown5 hfr ho4 hb4 hyl2
        go_wp2_with (at_builtin; refine wpList_append_run _ rfl _ _ 22 rfl _ _ _ _ rfl rfl hrun ?_)
        clear hrun
        go_ret2
        refine ⟨oa2, cap2, by rw [HE.out, List.length_append]; rfl, ?_, HB5.out⟩
        rw [HE.out, List.length_append, List.map_append]
        exact HO5.out
      · have q1 : (k : Int) ≤ (i : Int) := by omega
        have q2 : ¬ (i : Int) < (k : Int) := by omega
        have hki : k ≤ i := by omega
        have q3 : IntKind.i64.wrap ((i : Int) - (k : Int)) = (i : Int) - (k : Int) := IntWalk.i64_in _ (by omega)
        obtain ⟨ys, hys⟩ : ∃ ys, proofL (l.drop k) (i - k) = ys := ⟨_, rfl⟩
        obtain ⟨R, hR⟩ : ∃ R, rootL (l.take k) = R := ⟨_, rfl⟩
        have HE : Hid (proofL l i = ys ++ [R]) := by show _ = _; rw [HPT.out, if_neg hik, hys, hR]
        have hyl : ys.length ≤ 100000 := by rw [← hys]; omega
        rw [hys] at IQ
        rw [hR] at IL
        clear hys hR HPT hpl1 hpl2
        go_enter Tryd.func13, Tryd.ntmps13
        go_wp2_with fail
        refine HSP.out.mono ?_
        rintro e w2 ⟨rfl, rfl⟩
        go_wp2_with fail
        refine (IQ.out hki).mono ?_
        rintro e w3 ⟨oa, cap, rfl, hown, hb3⟩
        have HO := Lib.hid hown
        have HB3 := Lib.hid hb3
        clear hown hb3
        go_wp2_with fail
        refine (IL.out _ HB3.out).mono ?_
        rintro e w4 ⟨rfl, hb4⟩
        have ho4 := HO.out.kept hb4
        have HB4 := Lib.hid (HB3.out.trans (hb4.mono HB3.out.size))
        have hyl2 : (ys.map Value.string).length = ys.length := by simp
        obtain ⟨oa2, cap2, w5, hrun, hown5, hfr⟩ := app_one (st := 22) Tryd.underlying22 Tryd.infoStr rfl (by decide) w4 w.heap.size (.slice oa ys.length cap) _ (.string R) ho4 (by rw [hyl2]; omega) rfl 22
        rw [hyl2] at hrun hown5
        have HO5 := Lib.hid hown5
        have HB5 := Lib.hid (HB4.out.trans (hfr.below w.heap.size HB4.out.size (fun k hk => hk)))
        clear hown5 hfr ho4 hb4 hyl2
        go_wp2_with (at_builtin; refine wpList_append_run _ rfl _ _ 22 rfl _ _ _ _ rfl rfl hrun ?_)
        clear hrun
        go_ret2
        refine ⟨oa2, cap2, by rw [HE.out, List.length_append]; rfl, ?_, HB5.out⟩
        rw [HE.out, List.length_append, List.map_append]
        exact HO5.out
end Go.Proofs.YtggnldljfjhhcaaDoor
