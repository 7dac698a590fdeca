/-
  The reference implementation of package digest: Leaf, Node, Left, Root.
  The reference implementation of package digest: Digests, value, Verify.
-/
import Derived.WalkKit
import Derived.LoopTactic
import Derived.WalkSpells
import Derived.WalkLawsBesides
import Derived.IntWalk
import Derived.Outline
import Derived.Deep.QuietTactic
import Derived.BigQuiet
import Derived.Deep.RegionLaw
import Derived.Deep.RegionHeld3
import Derived.Deep.DrawnRows
import Derived.Deep.AppendLies
import Derived.Laws.EntriesVeiled
import Derived.Lib.Hide
import Derived.Laws.OwnMore
import Derived.Test.YtfpcdlpfmlaakaaDoorAsShb
import Derived.Test.YtfpcdlpfmlaakaaDoorDgG
import Derived.Test.YtfpcdlpfmlaakaaDoorDgI
import Derived.Test.YtfpcdlpfmlaakaaDoorDgK
import Derived.Test.YtfpcdlpfmlaakaaDoorDgN
import Derived.Test.YtfpcdlpfmlaakaaDoorAsSC
import Derived.Test.YtfpcdlpfmlaakaaDoorDgD
set_option linter.unusedVariables false
set_option linter.unusedSimpArgs false
namespace Go.Proofs.YtfpcdlpfmlaakaaDoor
open Go.RowKit Onair
attribute [local go_sem ↓] Go.wp_at_zero Go.wp_at_succ
set_option maxHeartbeats 1000000 in
theorem refLeaf_any (s : ByteArray) (w : World) (hs : s.size ≤ 90000) :
    Calls Tryd.prog 111 #[.string s] w fun e w' => e = .returned (.string (leafB s)) ∧ Below w.heap.size w w' := by
  have hls := leafS_cat s
  have hlz := leafS_size s
  have HH := Lib.hid (refSum_any (leafS s) w (by omega))
  have HV : Hid (leafB s = shaB (leafS s)) := rfl
  generalize leafS s = T at hls hlz HH HV
  go_enter Tryd.func111, Tryd.ntmps111
  go_wp2_with fail
  refine HH.out.mono ?_
  rintro e w2 ⟨rfl, hb2⟩
  have HB2 := Lib.hid hb2
  clear hb2
  go_wp2_with fail
  go_ret
  exact ⟨by rw [HV.out]; rfl, HB2.out⟩
set_option maxHeartbeats 1000000 in
theorem refNode_any (a b : ByteArray) (w : World) (ha : a.size ≤ 40000) (hb : b.size ≤ 40000) :
    Calls Tryd.prog 112 #[.string a, .string b] w fun e w' => e = .returned (.string (nodeB a b)) ∧ Below w.heap.size w w' := by
  have hls := nodeS_cat a b
  have hlz := nodeS_size a b
  have HH := Lib.hid (refSum_any (nodeS a b) w (by omega))
  have HV : Hid (nodeB a b = shaB (nodeS a b)) := rfl
  generalize nodeS a b = T at hls hlz HH HV
  go_enter Tryd.func112, Tryd.ntmps112
  go_wp2_with fail
  refine HH.out.mono ?_
  rintro e w2 ⟨rfl, hb2⟩
  have HB2 := Lib.hid hb2
  clear hb2
  go_wp2_with fail
  go_ret
  exact ⟨by rw [HV.out]; rfl, HB2.out⟩
theorem refLeft_any (n : Nat) (w : World) (h2 : 2 ≤ n) (hn : n ≤ 9223372036854775807) : Calls Tryd.prog 52 #[.int .i64 (n : Int)] w fun e w' => e = .returned (.int .i64 (splitN n : Nat)) ∧ w = w' := by
  go_enter Tryd.func52, Tryd.ntmps52
  go_wp2_with fail
  go_loop [3] (fun x => ∃ (j k : Nat), x = .int .i64 k ∧ 1 ≤ k ∧ k < n ∧ Hid (k = 2 ^ j)) (fun x => n - (intOf x).toNat)
  case atStart => exact ⟨0, 1, rfl, by decide, by omega, rfl⟩
  case round =>
    obtain ⟨j, k, rfl, hk1, hkn, HK⟩ := hrel
    by_cases h : 2 * k < n
    · have q1 : (k : Int) < (n : Int) - (k : Int) := by omega
      have HE : Hid (2 * k = 2 ^ (j + 1)) := by have := HK.out; show _ = _; rw [Nat.pow_succ]; omega
      clear HK
      go_wp2_with fail
      go_round
      case rel => exact ⟨j + 1, 2 * k, by go_num, by omega, h, HE⟩
      case measure => simp [intOf]; omega
    · have q1 : ¬ (k : Int) < (n : Int) - (k : Int) := by omega
      have HE : Hid (k = splitN n) := by
        have h1 := HK.out
        show k = 2 ^ (n - 1).log2
        rw [h1]
        congr 1
        refine ((Nat.log2_eq_iff (by omega)).2 ⟨by omega, by rw [Nat.pow_succ]; omega⟩).symm
      clear HK
      go_wp2_with fail
      go_ret
      exact ⟨by rw [HE.out]; rfl, rfl⟩
end Go.Proofs.YtfpcdlpfmlaakaaDoor
namespace Go.Proofs.YtfpcdlpfmlaakaaDoor
open Go.RowKit Onair
attribute [local go_sem ↓] Go.wp_at_zero Go.wp_at_succ
set_option maxHeartbeats 1000000 in
theorem refDigests_any (oa : Option Addr) (p : List ByteArray) (cap : Nat) (w : World) (hp : p.length ≤ 1000000) (hr : RdS w oa p) :
    Calls Tryd.prog 95 #[.slice oa p.length cap] w fun e w' => e = .returned (.bool (digB p)) ∧ w = w' := by
  have HR := Lib.hid hr
  clear hr
  go_enter Tryd.func95, Tryd.ntmps95
  go_wp2_with fail
  go_loop [3] (fun i => ∃ k : Nat, k ≤ p.length ∧ i = .int .i64 k ∧ Hid (digB (p.take k) = true)) (fun i => p.length - (intOf i).toNat)
  case atStart => exact ⟨0, Nat.zero_le _, rfl, rfl⟩
  case round =>
    obtain ⟨k, hk, rfl, HD⟩ := hrel
    by_cases hkk : k < p.length
    · have h1 : (k : Int) < (p.length : Int) := by omega
      obtain ⟨x, hx⟩ : ∃ x, p[k]? = some x := ⟨_, List.getElem?_eq_getElem hkk⟩
      obtain ⟨b, o, rfl, hrb⟩ := HR.out.some (by omega)
      have cx := hrb.cell k x hx
      have HJS := Lib.hid (digB_snoc p k x hx)
      have HJB := Lib.hid (digB_bad p k x hx)
      clear hrb hx
      by_cases hx32 : x.size = 32
      · have hxz : ((x.size : Int) != 32) = false := by rw [hx32]; rfl
        have HE : Hid (digB (p.take (k + 1)) = true) := by
          show _ = _
          rw [HJS.out, HD.out, hx32]
          rfl
        clear HJS HJB hx32 HD
        go_wp2_with fail
        go_round
        case rel => exact ⟨k + 1, by omega, by go_num, HE⟩
        case measure => simp [intOf]; omega
      · have hxz : ((x.size : Int) != 32) = true := by rw [bne_iff_ne]; omega
        have HE : Hid (digB p = false) := HJB.out hx32
        clear HJS HJB hx32 HD
        go_wp2_with fail
        go_ret
        exact ⟨by rw [HE.out]; rfl, rfl⟩
    · have HE : Hid (digB p = true) := by have := HD.out; rw [show k = p.length by omega, List.take_length] at this; exact this
      have h1 : ¬ (k : Int) < (p.length : Int) := by omega
      clear hkk HD
      go_wp2_with fail
      go_ret
      exact ⟨by rw [HE.out]; rfl, rfl⟩
set_option maxHeartbeats 2000000 in
theorem refValue_any : ∀ (N : Nat) (p : List ByteArray) (oa : Option Addr) (m n i cap : Nat) (s : ByteArray) (w : World), p.length = N → p.length = m → m ≤ cap → m ≤ 1000000 → cap ≤ 9223372036854775807 → n ≤ 9223372036854775807 → i < n → s.size ≤ 80000 → SzB 32 p → RdS w oa p →
    Calls Tryd.prog 96 #[.int .i64 (n : Int), .int .i64 (i : Int), .string s, .slice oa m cap] w fun e w' => e = .returned (.tuple #[.string (valR p.reverse n i s).1, .bool (valR p.reverse n i s).2]) ∧ Below w.heap.size w w' := by
  intro N
  induction N with
  | zero =>
    intro p oa m n i cap s w hN hm hmc hmm hcc hn hi hs hz hr
    obtain rfl : p = [] := List.eq_nil_of_length_eq_zero hN
    obtain rfl : m = 0 := by simpa using hm.symm
    by_cases h1 : n = 1
    · obtain rfl := h1
      have HH := Lib.hid (refLeaf_any s w (by omega))
      have HV : Hid (valR [] 1 i s = (leafB s, true)) := rfl
      rw [List.reverse_nil]
      clear hz hr hm hN
      go_enter Tryd.func96, Tryd.ntmps96
      go_wp2_with fail
      refine HH.out.mono ?_
      rintro e w2 ⟨rfl, hb2⟩
      have HB2 := Lib.hid hb2
      clear hb2
      go_wp2_with fail
      go_ret2
      exact ⟨by rw [HV.out]; rfl, HB2.out⟩
    · have hv : valR [] n i s = (emptyB, false) := by unfold valR; rw [if_neg h1]
      have HV := Lib.hid hv
      have n1 : ((n : Int) == 1) = false := by rw [beq_eq_false_iff_ne]; omega
      rw [List.reverse_nil]
      clear hz hr hm hN hv
      go_enter Tryd.func96, Tryd.ntmps96
      go_wp2_with fail
      go_ret2
      exact ⟨by rw [HV.out]; rfl, Below.refl _ _⟩
  | succ N ih =>
    intro p oa m n i cap s w hN hm hmc hmm hcc hn hi hs hz hr
    obtain ⟨b, o, rfl, hrb⟩ := hr.some (by omega)
    obtain ⟨q, x, rfl⟩ : ∃ q x, p = q ++ [x] := ⟨p.dropLast, p.getLast (by intro e; rw [e] at hN; simp at hN), (List.dropLast_concat_getLast _).symm⟩
    have hq : q.length = N := by simpa using hN
    have hmN : m = N + 1 := by omega
    have hrev : (q ++ [x]).reverse = x :: q.reverse := by simp
    rw [hrev]
    have g1 : IntKind.i64.wrap ((m : Int) - 1) = (N : Int) := by rw [IntWalk.i64_in _ (by omega)]; omega
    have HG1 := Lib.hid g1
    by_cases h1 : n = 1
    · obtain rfl := h1
      have HH := Lib.hid (refLeaf_any s w (by omega))
      have HV : Hid (valR (x :: q.reverse) 1 i s = (leafB s, false)) := rfl
      have m0 : decide ((m : Int) - 1 < 0) = false := decide_eq_false (by omega)
      have m00 : (0 : Int) ≤ (m : Int) - 1 := by omega
      have m01 : (1 : Int) ≤ (m : Int) := by omega
      have hmb : (m : Int) ≤ 1000000 := by omega
      clear hz hr hm hN hrb ih hrev hq hmN g1
      go_enter Tryd.func96, Tryd.ntmps96
      go_wp2_with fail
      refine HH.out.mono ?_
      rintro e w2 ⟨rfl, hb2⟩
      have HB2 := Lib.hid hb2
      clear hb2
      go_wp2_with fail
      go_ret2
      exact ⟨by rw [HV.out]; rfl, HB2.out⟩
    · have h2 : 2 ≤ n := by omega
      have hk1 := splitN_lt n h2
      have hk2 := splitN_pos n
      have hxs : x.size ≤ 32 := hz x (by simp)
      have hcx : w.cell? ⟨b, o + N, none⟩ = some (.string x) := hrb.cell N x (by rw [List.getElem?_append_right (by omega), hq, Nat.sub_self]; rfl)
      have hblt := hrb.lt
      have HCX : Hid (∀ W, Below w.heap.size w W → W.cell? ⟨b, o + N, none⟩ = some (.string x)) := fun W hW => (hW.cell (p := ⟨b, o + N, none⟩) hblt).trans hcx
      have hqz : SzB 32 q := fun y hy => hz y (by simp [hy])
      have hrq : RdB w b o q := ⟨hrb.lt, fun j y hj => hrb.cell j y (by rw [List.getElem?_append_left (List.getElem?_eq_some_iff.1 hj).1]; exact hj)⟩
      have HSP := Lib.hid (fun W => refLeft_any n W h2 hn)
      have HV : Hid (valR (x :: q.reverse) n i s = if i < splitN n then (nodeB (valR q.reverse (splitN n) i s).1 x, (valR q.reverse (splitN n) i s).2) else (nodeB x (valR q.reverse (n - splitN n) (i - splitN n) s).1, (valR q.reverse (n - splitN n) (i - splitN n) s).2)) := by
        show _ = _
        conv => lhs; unfold valR
        rw [if_neg h1]
      obtain ⟨k, hk⟩ : ∃ k, splitN n = k := ⟨_, rfl⟩
      rw [hk] at hk1 hk2 HSP HV
      have n1 : ((n : Int) == 1) = false := by rw [beq_eq_false_iff_ne]; omega
      have m0 : ¬ ((N : Int) < 0) := by omega
      have g2 : (0 : Int) ≤ (N : Int) := by omega
      have g3 : (N : Int) < (m : Int) := by omega
      have g4 : (N : Int) ≤ (cap : Int) := by omega
      have HRQ := Lib.hid hrq
      have HB0 := Lib.hid (Below.refl w.heap.size w)
      by_cases hik : i < k
      · have q1 : (i : Int) < (k : Int) := by omega
        have IH := Lib.hid (fun W (hW : Below w.heap.size w W) => ih q (some ⟨b, o, none⟩) N k i cap s W hq hq (by omega) (by omega) hcc (by omega) hik hs hqz (hrq.kept hW).rds)
        have hvs := valR_size q.reverse k i s
        rw [if_pos hik] at HV
        obtain ⟨V, hV⟩ : ∃ V, valR q.reverse k i s = V := ⟨_, rfl⟩
        rw [hV] at IH HV hvs
        obtain ⟨v, ok⟩ := V
        dsimp only at IH HV hvs
        clear hz hr hm hN hrb ih hrev hq hmN hqz hrq h1 h2 hk hV hcx HG1
        go_enter Tryd.func96, Tryd.ntmps96
        go_wp2_with fail
        refine (HSP.out _).mono ?_
        rintro e w2 ⟨rfl, rfl⟩
        go_wp2_with fail
        refine (IH.out _ HB0.out).mono ?_
        rintro e w2 ⟨rfl, hb2⟩
        have HB2 := Lib.hid hb2
        have cx := HCX.out _ hb2
        clear hb2
        go_wp2_with fail
        refine (refNode_any v x _ (by omega) (by omega)).mono ?_
        rintro e w3 ⟨rfl, hb3⟩
        have HB3 := Lib.hid (HB2.out.trans (hb3.mono HB2.out.size))
        clear hb3
        go_wp2_with fail
        go_ret2
        exact ⟨by rw [HV.out]; rfl, HB3.out⟩
      · have q1 : (k : Int) ≤ (i : Int) := by omega
        have q2 : ¬ (i : Int) < (k : Int) := by omega
        have q3 : (k : Int) ≤ (n : Int) := by omega
        have IH := Lib.hid (fun W (hW : Below w.heap.size w W) => by
          have := ih q (some ⟨b, o, none⟩) N (n - k) (i - k) cap s W hq hq (by omega) (by omega) hcc (by omega) (by omega) hs hqz (hrq.kept hW).rds
          rw [show ((n - k : Nat) : Int) = (n : Int) - (k : Int) by omega, show ((i - k : Nat) : Int) = (i : Int) - (k : Int) by omega] at this
          exact this)
        have hvs := valR_size q.reverse (n - k) (i - k) s
        rw [if_neg hik] at HV
        obtain ⟨V, hV⟩ : ∃ V, valR q.reverse (n - k) (i - k) s = V := ⟨_, rfl⟩
        rw [hV] at IH HV hvs
        obtain ⟨v, ok⟩ := V
        dsimp only at IH HV hvs
        clear hz hr hm hN hrb ih hrev hq hmN hqz hrq h1 h2 hk hV hcx HG1
        go_enter Tryd.func96, Tryd.ntmps96
        go_wp2_with fail
        refine (HSP.out _).mono ?_
        rintro e w2 ⟨rfl, rfl⟩
        go_wp2_with fail
        refine (IH.out _ HB0.out).mono ?_
        rintro e w2 ⟨rfl, hb2⟩
        have HB2 := Lib.hid hb2
        have cx := HCX.out _ hb2
        clear hb2
        go_wp2_with fail
        refine (refNode_any x v _ (by omega) (by omega)).mono ?_
        rintro e w3 ⟨rfl, hb3⟩
        have HB3 := Lib.hid (HB2.out.trans (hb3.mono HB2.out.size))
        clear hb3
        go_wp2_with fail
        go_ret2
        exact ⟨by rw [HV.out]; rfl, HB3.out⟩
set_option maxHeartbeats 2000000 in
theorem refVerify_any (root : ByteArray) (n i : Int) (s : ByteArray) (oa : Option Addr) (p : List ByteArray) (cap : Nat) (w : World) (hn : n ≤ 9223372036854775807) (hs : s.size ≤ 80000) (hp : p.length ≤ 1000000) (hpc : p.length ≤ cap) (hcc : cap ≤ 9223372036854775807) (hr : RdS w oa p) :
    Calls Tryd.prog 56 #[.string root, .int .i64 n, .int .i64 i, .string s, .slice oa p.length cap] w fun e w' => e = .returned (.bool (verI root n i s p)) ∧ Below w.heap.size w w' := by
  have HDG := Lib.hid (refDigests_any oa p cap w hp hr)
  have HB0 := Lib.hid (Below.refl w.heap.size w)
  by_cases h : 0 ≤ i ∧ i < n
  · obtain ⟨h0, h1⟩ := h
    have i0 : ¬ i < 0 := by omega
    have i1 : ¬ n ≤ i := by omega
    cases hd : digB p with
    | false =>
      have HV : Hid (verI root n i s p = false) := by show _ = _; unfold verI verB; rw [hd, Bool.and_false, Bool.false_and, Bool.false_and, Bool.and_false]
      rw [hd] at HDG
      clear hd hr
      go_enter Tryd.func56, Tryd.ntmps56
      go_wp2_with fail
      refine HDG.out.mono ?_
      rintro e w2 ⟨rfl, rfl⟩
      go_wp2_with fail
      go_ret
      exact ⟨by rw [HV.out]; rfl, HB0.out⟩
    | true =>
      rw [hd] at HDG
      obtain ⟨I, rfl⟩ : ∃ I : Nat, i = (I : Int) := ⟨i.toNat, by omega⟩
      obtain ⟨M, rfl⟩ : ∃ M : Nat, n = (M : Int) := ⟨n.toNat, by omega⟩
      have hIM : I < M := by omega
      have HVL := Lib.hid (refValue_any p.length p oa p.length M I cap s w rfl rfl hpc hp hcc (by omega) hIM hs (digB_sz hd) hr)
      have hv : verI root M I s p = ((valR p.reverse M I s).2 && decide ((valR p.reverse M I s).1 = root)) := by unfold verI verB; rw [Int.toNat_natCast, Int.toNat_natCast, decide_eq_true (show (0 : Int) ≤ (I : Int) ∧ (I : Int) < (M : Int) by omega), hd, decide_eq_true hIM]; rfl
      have HV := Lib.hid hv
      obtain ⟨V, hV⟩ : ∃ V, valR p.reverse M I s = V := ⟨_, rfl⟩
      rw [hV] at HVL HV
      obtain ⟨v, ok⟩ := V
      dsimp only at HVL HV
      clear hd hr hv hV
      go_enter Tryd.func56, Tryd.ntmps56
      go_wp2_with fail
      refine HDG.out.mono ?_
      rintro e w2 ⟨rfl, rfl⟩
      go_wp2_with fail
      refine HVL.out.mono ?_
      rintro e w2 ⟨rfl, hb2⟩
      have HB2 := Lib.hid hb2
      clear hb2
      cases ok with
      | false =>
        go_wp2_with fail
        go_ret
        exact ⟨by rw [HV.out]; rfl, HB2.out⟩
      | true =>
        go_wp2_with fail
        go_ret
        exact ⟨by rw [HV.out, ← beq_dec]; rfl, HB2.out⟩
  · have HV : Hid (verI root n i s p = false) := by show _ = _; unfold verI; rw [decide_eq_false h]; rfl
    rcases (show i < 0 ∨ (0 ≤ i ∧ n ≤ i) from by omega) with h0 | ⟨h0, h1⟩
    all_goals
      clear h
      go_enter Tryd.func56, Tryd.ntmps56
      go_wp2_with fail
      refine HDG.out.mono ?_
      rintro e w2 ⟨rfl, rfl⟩
      go_wp2_with fail
      go_ret
      exact ⟨by rw [HV.out]; rfl, HB0.out⟩
end Go.Proofs.YtfpcdlpfmlaakaaDoor
