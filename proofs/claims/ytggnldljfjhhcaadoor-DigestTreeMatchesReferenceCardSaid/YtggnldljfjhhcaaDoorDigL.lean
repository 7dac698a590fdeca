/-
  The walks of digest.values, Verify, VerifyExtension.
-/
import Derived.WalkKit
import Derived.LoopTactic
import Derived.WalkSpells
import Derived.WalkLawsBesides
import Derived.IntWalk
import Derived.Outline
import Derived.Deep.QuietTactic
import Derived.BigQuiet
import Derived.Deep.RegionLaw
import Derived.Deep.RegionHeld3
import Derived.Deep.DrawnRows
import Derived.Deep.AppendLies
import Derived.Deep.LoopGhost
import Derived.WalkMore
import Derived.Laws.EntriesVeiled
import Derived.Lib.Hide
import Derived.Test.YtggnldljfjhhcaaDoorDigK
set_option linter.unusedVariables false
set_option linter.unusedSimpArgs false
namespace Go.Proofs.YtggnldljfjhhcaaDoor
open Go.RowKit Onair
attribute [local go_sem ↓] Go.wp_at_zero Go.wp_at_succ
theorem valsR_size : ∀ (q : List ByteArray) (old : ByteArray) (m n : Nat) (wh : Bool), old.size ≤ 32 → SzB 32 q → (valsR q old m n wh).1.size ≤ 32 ∧ (valsR q old m n wh).2.1.size ≤ 32
  | [], old, m, n, wh, ho, hq => by
    unfold valsR
    split
    · split
      · exact ⟨ho, ho⟩
      · exact ⟨by decide, by decide⟩
    · exact ⟨by decide, by decide⟩
  | x :: q, old, m, n, wh, ho, hq => by
    have hx : x.size ≤ 32 := hq x (by simp)
    have hq' : SzB 32 q := fun y hy => hq y (by simp [hy])
    unfold valsR
    split
    · split
      · exact ⟨ho, ho⟩
      · split
        · exact ⟨hx, hx⟩
        · exact ⟨by decide, by decide⟩
    · split
      · exact ⟨(valsR_size q old m (splitN n) wh ho hq').1, by show (nodeB _ _).size ≤ 32; rw [nodeB_size]; omega⟩
      · exact ⟨by show (nodeB _ _).size ≤ 32; rw [nodeB_size]; omega, by show (nodeB _ _).size ≤ 32; rw [nodeB_size]; omega⟩
set_option maxRecDepth 100000 in
set_option maxHeartbeats 4000000 in
theorem values_any : ∀ (N : Nat) (p : List ByteArray) (oa : Option Addr) (z n m cap : Nat) (old : ByteArray) (wh : Bool) (w : World), p.length = N → p.length = z → z ≤ cap → z ≤ 1000000 → cap ≤ 9223372036854775807 → n ≤ 9223372036854775807 → 1 ≤ m → m ≤ n → old.size ≤ 32 → SzB 32 p → RdS w oa p → TabAt w →
    Calls Tryd.prog 41 #[.string old, .int .i64 (m : Int), .int .i64 (n : Int), .slice oa z cap, .bool wh] w fun e w' => e = .returned (.tuple #[.string (valsR p.reverse old m n wh).1, .string (valsR p.reverse old m n wh).2.1, .bool (valsR p.reverse old m n wh).2.2]) ∧ Below w.heap.size w w' := by
  intro N
  induction N with
  | zero =>
    intro p oa z n m cap old wh w hN hm hmc hmm hcc hn hm1 hmn ho hz hr ht
    obtain rfl : p = [] := List.eq_nil_of_length_eq_zero hN
    obtain rfl : z = 0 := by simpa using hm.symm
    rw [List.reverse_nil]
    by_cases h1 : m = n
    · obtain rfl := h1
      cases wh with
      | true =>
        have hv : valsR [] old m m true = (old, old, true) := by unfold valsR; rw [if_pos rfl, if_pos rfl]
        have HV := Lib.hid hv
        clear hz hr ht hm hN hv
        go_enter Tryd.func41, Tryd.ntmps41
        go_wp2_with fail
        go_ret3
        exact ⟨by rw [HV.out]; rfl, Below.refl _ _⟩
      | false =>
        have hv : valsR [] old m m false = (emptyB, emptyB, false) := by unfold valsR; rw [if_pos rfl, if_neg (by decide)]
        have HV := Lib.hid hv
        clear hz hr ht hm hN hv
        go_enter Tryd.func41, Tryd.ntmps41
        go_wp2_with fail
        go_ret3
        exact ⟨by rw [HV.out]; rfl, Below.refl _ _⟩
    · have hv : valsR [] old m n wh = (emptyB, emptyB, false) := by unfold valsR; rw [if_neg h1]
      have HV := Lib.hid hv
      have n1 : ((m : Int) == (n : Int)) = false := by rw [beq_eq_false_iff_ne]; omega
      have n2 : ¬ m = n := h1
      clear hz hr ht hm hN hv
      go_enter Tryd.func41, Tryd.ntmps41
      go_wp2_with fail
      go_ret3
      exact ⟨by rw [HV.out]; rfl, Below.refl _ _⟩
  | succ N ih =>
    intro p oa z n m cap old wh w hN hm hmc hmm hcc hn hm1 hmn ho hz hr ht
    obtain ⟨b, o, rfl, hrb⟩ := hr.some (by omega)
    obtain ⟨q, x, rfl⟩ : ∃ q x, p = q ++ [x] := ⟨p.dropLast, p.getLast (by intro e; rw [e] at hN; simp at hN), (List.dropLast_concat_getLast _).symm⟩
    have hq : q.length = N := by simpa using hN
    have hmN : z = N + 1 := by omega
    have hrev : (q ++ [x]).reverse = x :: q.reverse := by simp
    rw [hrev]
    have m0 : ((z : Int) == 0) = false := by rw [beq_eq_false_iff_ne]; omega
    by_cases h1 : m = n
    · obtain rfl := h1
      cases wh with
      | true =>
        have hv : valsR (x :: q.reverse) old m m true = (old, old, false) := by unfold valsR; rw [if_pos rfl, if_pos rfl]
        have HV := Lib.hid hv
        clear hz hr ht hm hN hrb ih hrev hq hmN hv
        go_enter Tryd.func41, Tryd.ntmps41
        go_wp2_with fail
        go_ret3
        exact ⟨by rw [HV.out]; rfl, Below.refl _ _⟩
      | false =>
        by_cases hN0 : N = 0
        · obtain rfl := hN0
          obtain rfl : q = [] := List.eq_nil_of_length_eq_zero hq
          obtain rfl : z = 1 := hmN
          have hv : valsR (x :: [].reverse) old m m false = (x, x, true) := by rw [List.reverse_nil]; unfold valsR; rw [if_pos rfl, if_neg (by decide), if_pos rfl]
          have HV := Lib.hid hv
          have cx := hrb.cell 0 x (by simp)
          rw [Nat.add_zero] at cx
          have HB0 := Lib.hid (Below.refl w.heap.size w)
          clear hz hr ht hm hN hrb ih hrev hv
          go_enter Tryd.func41, Tryd.ntmps41
          go_wp2_with fail
          go_quiet (fail)
          have HB1 : Hid (Below w.heap.size w (w.drewN nq)) := drewN_below HB0.out nq
          go_wp2_with fail
          go_ret3
          exact ⟨by rw [HV.out]; rfl, HB1.out⟩
        · have hv : valsR (x :: q.reverse) old m m false = (emptyB, emptyB, false) := by
            unfold valsR
            rw [if_pos rfl, if_neg (by decide), if_neg (fun e => hN0 (by rw [← hq, ← List.length_reverse, e]; rfl))]
          have HV := Lib.hid hv
          have m1 : ((z : Int) != 1) = true := by rw [bne_iff_ne]; omega
          clear hz hr ht hm hN hrb ih hrev hq hmN hv hN0
          go_enter Tryd.func41, Tryd.ntmps41
          go_wp2_with fail
          go_ret3
          exact ⟨by rw [HV.out]; rfl, Below.refl _ _⟩
    · have h2 : 2 ≤ n := by omega
      have hk1 := splitN_lt n h2
      have hk2 := splitN_pos n
      have hxs : x.size ≤ 32 := hz x (by simp)
      have cx := hrb.cell N x (by rw [List.getElem?_append_right (by omega), hq, Nat.sub_self]; rfl)
      have hqz : SzB 32 q := fun y hy => hz y (by simp [hy])
      have hqr : SzB 32 q.reverse := fun y hy => hz y (by simp at hy; simp [hy])
      have hrq : RdB w b o q := ⟨hrb.lt, fun j y hj => hrb.cell j y (by rw [List.getElem?_append_left (List.getElem?_eq_some_iff.1 hj).1]; exact hj)⟩
      have HSP := Lib.hid (fun W => split_any n W h2 hn)
      have HV : Hid (valsR (x :: q.reverse) old m n wh = if m ≤ splitN n then ((valsR q.reverse old m (splitN n) wh).1, nodeB (valsR q.reverse old m (splitN n) wh).2.1 x, (valsR q.reverse old m (splitN n) wh).2.2)
          else (nodeB x (valsR q.reverse old (m - splitN n) (n - splitN n) false).1, nodeB x (valsR q.reverse old (m - splitN n) (n - splitN n) false).2.1, (valsR q.reverse old (m - splitN n) (n - splitN n) false).2.2)) := by
        show _ = _
        conv => lhs; unfold valsR
        rw [if_neg h1]
      obtain ⟨k, hk⟩ : ∃ k, splitN n = k := ⟨_, rfl⟩
      rw [hk] at hk1 hk2 HSP HV
      have n1 : ((m : Int) == (n : Int)) = false := by rw [beq_eq_false_iff_ne]; omega
      have n2 : ¬ m = n := h1
      have g1 : IntKind.i64.wrap ((z : Int) - 1) = (N : Int) := by rw [IntWalk.i64_in _ (by omega)]; omega
      have g2 : (0 : Int) ≤ (N : Int) := by omega
      have g3 : (N : Int) < (z : Int) := by omega
      have g4 : (N : Int) ≤ (cap : Int) := by omega
      have HT := Lib.hid ht
      have HRQ := Lib.hid hrq
      have HB0 := Lib.hid (Below.refl w.heap.size w)
      by_cases hik : m ≤ k
      · have q1 : (m : Int) ≤ (k : Int) := by omega
        have IH := Lib.hid (fun W (hW : Below w.heap.size w W) => ih q (some ⟨b, o, none⟩) N k m cap old wh W hq hq (by omega) (by omega) hcc (by omega) hm1 hik ho hqz (hrq.kept hW).rds (ht.below hW))
        have hvs := valsR_size q.reverse old m k wh ho hqr
        rw [if_pos hik] at HV
        obtain ⟨V, hV⟩ : ∃ V, valsR q.reverse old m k wh = V := ⟨_, rfl⟩
        rw [hV] at IH HV hvs
        obtain ⟨v1, v2, ok⟩ := V
        dsimp only at IH HV hvs
        obtain ⟨hvs1, hvs2⟩ := hvs
        clear hz hr ht hm hN hrb ih hrev hq hmN hqz hqr hrq h1 h2 hk hV
        go_enter Tryd.func41, Tryd.ntmps41
        go_wp2_with fail
        go_quiet (fail)
        have HB1 : Hid (Below w.heap.size w (w.drewN nq)) := drewN_below HB0.out nq
        generalize w.drewN nq = w1 at HB1 ⊢
        clear cx g1 HB0
        go_wp2_with fail
        refine (HSP.out _).mono ?_
        rintro e w2 ⟨rfl, rfl⟩
        go_wp2_with fail
        refine (IH.out _ HB1.out).mono ?_
        rintro e w2 ⟨rfl, hb2⟩
        have HB2 := Lib.hid (HB1.out.trans (hb2.mono HB1.out.size))
        clear hb2
        go_wp2_with fail
        refine (node_any v2 x _ (by omega) (by omega) (HT.out.below HB2.out)).mono ?_
        rintro e w3 ⟨rfl, hb3⟩
        have HB3 := Lib.hid (HB2.out.trans (hb3.mono HB2.out.size))
        clear hb3
        go_wp2_with fail
        go_ret3
        exact ⟨by rw [HV.out]; rfl, HB3.out⟩
      · have q1 : (k : Int) < (m : Int) := by omega
        have q2 : ¬ (m : Int) ≤ (k : Int) := by omega
        have q3 : (k : Int) ≤ (n : Int) := by omega
        have IH := Lib.hid (fun W (hW : Below w.heap.size w W) => by
          have := ih q (some ⟨b, o, none⟩) N (n - k) (m - k) cap old false W hq hq (by omega) (by omega) hcc (by omega) (by omega) (by omega) ho hqz (hrq.kept hW).rds (ht.below hW)
          rw [show ((n - k : Nat) : Int) = (n : Int) - (k : Int) by omega, show ((m - k : Nat) : Int) = (m : Int) - (k : Int) by omega] at this
          exact this)
        have hvs := valsR_size q.reverse old (m - k) (n - k) false ho hqr
        rw [if_neg hik] at HV
        obtain ⟨V, hV⟩ : ∃ V, valsR q.reverse old (m - k) (n - k) false = V := ⟨_, rfl⟩
        rw [hV] at IH HV hvs
        obtain ⟨v1, v2, ok⟩ := V
        dsimp only at IH HV hvs
        obtain ⟨hvs1, hvs2⟩ := hvs
        clear hz hr ht hm hN hrb ih hrev hq hmN hqz hqr hrq h1 h2 hk hV
        go_enter Tryd.func41, Tryd.ntmps41
        go_wp2_with fail
        go_quiet (fail)
        have HB1 : Hid (Below w.heap.size w (w.drewN nq)) := drewN_below HB0.out nq
        generalize w.drewN nq = w1 at HB1 ⊢
        clear cx g1 HB0
        go_wp2_with fail
        refine (HSP.out _).mono ?_
        rintro e w2 ⟨rfl, rfl⟩
        go_wp2_with fail
        refine (IH.out _ HB1.out).mono ?_
        rintro e w2 ⟨rfl, hb2⟩
        have HB2 := Lib.hid (HB1.out.trans (hb2.mono HB1.out.size))
        clear hb2
        go_wp2_with fail
        refine (node_any x v1 _ (by omega) (by omega) (HT.out.below HB2.out)).mono ?_
        rintro e w3 ⟨rfl, hb3⟩
        have HB3 := Lib.hid (HB2.out.trans (hb3.mono HB2.out.size))
        clear hb3
        go_wp2_with fail
        refine (node_any x v2 _ (by omega) (by omega) (HT.out.below HB3.out)).mono ?_
        rintro e w4 ⟨rfl, hb4⟩
        have HB4 := Lib.hid (HB3.out.trans (hb4.mono HB3.out.size))
        clear hb4
        go_wp2_with fail
        go_ret3
        exact ⟨by rw [HV.out]; rfl, HB4.out⟩
end Go.Proofs.YtggnldljfjhhcaaDoor
