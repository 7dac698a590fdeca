/-
  The walk of the closure of digest.Extension.
  The walk of digest.Extension.
-/
import Derived.WalkKit
import Derived.LoopTactic
import Derived.WalkSpells
import Derived.WalkLawsBesides
import Derived.IntWalk
import Derived.Outline
import Derived.Deep.QuietTactic
import Derived.BigQuiet
import Derived.Deep.RegionLaw
import Derived.Deep.RegionHeld3
import Derived.Deep.DrawnRows
import Derived.Deep.AppendLies
import Derived.Laws.EntriesVeiled
import Derived.Lib.Hide
import Derived.Test.YtfpcdlpfmlaakaaDoorDgG
set_option linter.unusedVariables false
set_option linter.unusedSimpArgs false
namespace Go.Proofs.YtfpcdlpfmlaakaaDoor
open Go.RowKit Onair
attribute [local go_sem ↓] Go.wp_at_zero Go.wp_at_succ
theorem extF_len : ∀ (f : Nat) (l : List ByteArray) (m : Nat) (w : Bool), (extF f l m w).length ≤ f + 1
  | 0, l, m, w => by cases w <;> simp [extF]
  | f + 1, l, m, w => by
    unfold extF
    split
    · cases w <;> simp
    · split
      · rw [List.length_append]
        have := extF_len f (l.take (splitN l.length)) m w
        simp
        omega
      · rw [List.length_append]
        have := extF_len f (l.drop (splitN l.length)) (m - splitN l.length) false
        simp
        omega
theorem extL_len (l : List ByteArray) (m : Nat) (w : Bool) : (extL l m w).length ≤ l.length + 1 := extF_len _ _ _ _
set_option maxHeartbeats 4000000 in
theorem part_any (w0 : World) (P : Nat) (ht : TabAt w0) : ∀ (N : Nat) (l : List ByteArray) (b o n c m : Nat) (wh : Bool) (oa : Option Addr) (cap : Nat) (xs : List ByteArray) (W : World), l.length ≤ N → l.length = n → n ≤ c → c ≤ 9223372036854775807 → xs.length + n + 1 ≤ 1000000 → 1 ≤ m → m ≤ n → SzB 300000000 l → RdB w0 b o l →
    PI w0 P 162 (.func (.func 108) #[] #[.pointer (some ⟨P, 0, none⟩), .pointer (some ⟨P + 1, 0, none⟩)]) (.slice oa xs.length cap) xs W →
    Calls Tryd.prog 108 #[.slice (some ⟨b, o, none⟩) n c, .int .i64 (m : Int), .bool wh, .pointer (some ⟨P, 0, none⟩), .pointer (some ⟨P + 1, 0, none⟩)] W fun e W' => e = .returned (.tuple #[]) ∧
      ∃ oa' cap', PI w0 P 162 (.func (.func 108) #[] #[.pointer (some ⟨P, 0, none⟩), .pointer (some ⟨P + 1, 0, none⟩)]) (.slice oa' (xs ++ extL l m wh).length cap') (xs ++ extL l m wh) W' := by
  intro N
  induction N with
  | zero => intro l b o n c m wh oa cap xs W hN hn hc hcm hx hm1 hm; omega
  | succ N ih =>
    intro l b o n c m wh oa cap xs W hN hn hc hcm hx hm1 hm hs hr hpi
    obtain ⟨fq, hfq⟩ : ∃ fq, Value.func (.func 108) #[] #[.pointer (some ⟨P, 0, none⟩), .pointer (some ⟨P + 1, 0, none⟩)] = fq := ⟨_, rfl⟩
    by_cases hmn : m = n
    · obtain rfl := hmn
      have HX : Hid (extL l m wh = if wh then [] else [rootL l]) := by have := extL_all l wh; rw [hn] at this; exact this
      have n1 : ((m : Int) == (m : Int)) = true := by simp
      cases wh with
      | true =>
        have HPI := Lib.hid hpi
        clear hpi ih hr hs hN hfq hn
        go_enter Tryd.func108, Tryd.ntmps108
        go_wp2_with fail
        refine bodyPost_ret (v := .tuple #[]) (by simp [results, Tryd.results108, go_sem]) rfl ⟨rfl, oa, cap, ?_⟩
        rw [HX.out]
        simpa using HPI.out
      | false =>
        have IL : Hid (∀ W, Below w0.heap.size w0 W → Calls Tryd.prog 49 #[.slice (some ⟨b, o, none⟩) m c] W fun e w' => e = .returned (.string (rootL l)) ∧ Below W.heap.size W w') :=
          fun W hW => root_any (N + 1) l _ m c W (by omega) hn (by omega) hcm (by omega) hs (hr.kept hW).rds (ht.below hW)
        obtain ⟨R, hR⟩ : ∃ R, rootL l = R := ⟨_, rfl⟩
        rw [hR] at IL HX
        have hyl : xs.length ≤ 1000000 := by omega
        have HPJ := Lib.hid hpi
        have d0 := hpi.p.cell 0
        simp only [List.getElem?_cons_zero] at d0
        have hpl := hpi.p.lt
        clear hpi ih hr hs hN hfq hn hR
        go_enter Tryd.func108, Tryd.ntmps108
        go_wp2_with fail
        go_region_law (first
          | (go_simp; (with_reducible refine (IL.out _ (HPJ.out.below (Below.refl _ _).drew).bel).mono ?_); rintro e w1 ⟨rfl, hb1⟩; have HPK := Lib.hid ((HPJ.out.below (Below.refl _ _).drew).below hb1); have e0 := HPK.out.p.cell 0; simp only [List.getElem?_cons_zero] at e0; have hpl1 := HPK.out.p.lt; clear hb1; go_simp)
          | (refine step_app (by rfl) _ _ (by rfl) (by rfl) (by rfl) HPK hyl ?_; intro oa3 cap3 w3 g0 g1 g2 HPL))
        all_goals
          (try go_wp2_with fail)
          refine bodyPost_ret (v := .tuple #[]) (by simp [results, Tryd.results108, go_sem]) rfl ⟨rfl, oa3, cap3, ?_⟩
          have HL := HPL.out
          rw [HX.out, if_neg (by decide)]
          simpa using HL
    · have h2 : 2 ≤ l.length := by omega
      have hk1 := splitN_lt l.length h2
      have hk2 := splitN_pos l.length
      obtain ⟨hl1, hl2⟩ := split_lens l h2
      have HSP := Lib.hid (split_any l.length W h2 (by omega))
      have HPT := Lib.hid (extL_two l m wh hm1 (by omega))
      obtain ⟨k, hk⟩ : ∃ k, splitN l.length = k := ⟨_, rfl⟩
      rw [hk] at hk1 hk2 hl1 hl2 HSP HPT
      rw [hn] at HSP hk1 hl2
      have hpl1 := extL_len (l.take k) m wh
      have hpl2 := extL_len (l.drop k) (m - k) false
      rw [hl1] at hpl1
      rw [hl2] at hpl2
      have IL : Hid (∀ W, Below w0.heap.size w0 W → Calls Tryd.prog 49 #[.slice (some ⟨b, o, none⟩) k c] W fun e w' => e = .returned (.string (rootL (l.take k))) ∧ Below W.heap.size W w') :=
        fun W hW => root_any N (l.take k) _ k c W (by omega) hl1 (by omega) hcm (by omega) (hs.take k) (hr.kept hW |>.take k |>.rds) (ht.below hW)
      have IR : Hid (∀ W, Below w0.heap.size w0 W → Calls Tryd.prog 49 #[.slice (some ⟨b, o + k, none⟩) (n - k) (c - k)] W fun e w' => e = .returned (.string (rootL (l.drop k))) ∧ Below W.heap.size W w') :=
        fun W hW => root_any N (l.drop k) _ (n - k) (c - k) W (by omega) hl2 (by omega) (by omega) (by omega) (hs.drop k) (hr.kept hW |>.drop k |>.rds) (ht.below hW)
      have IP : Hid (∀ W, m ≤ k → PI w0 P 162 fq (.slice oa xs.length cap) xs W → Calls Tryd.prog 108 #[.slice (some ⟨b, o, none⟩) k c, .int .i64 (m : Int), .bool wh, .pointer (some ⟨P, 0, none⟩), .pointer (some ⟨P + 1, 0, none⟩)] W fun e W' => e = .returned (.tuple #[]) ∧ ∃ oa' cap', PI w0 P 162 fq (.slice oa' (xs ++ extL (l.take k) m wh).length cap') (xs ++ extL (l.take k) m wh) W') :=
        fun W hik hW => by
          subst hfq
          exact ih (l.take k) b o k c m wh oa cap xs W (by omega) hl1 (by omega) hcm (by omega) hm1 hik (hs.take k) (hr.take k) hW
      have IQ : Hid (∀ W, k < m → PI w0 P 162 fq (.slice oa xs.length cap) xs W → Calls Tryd.prog 108 #[.slice (some ⟨b, o + k, none⟩) (n - k) (c - k), .int .i64 ((m : Int) - (k : Int)), .bool false, .pointer (some ⟨P, 0, none⟩), .pointer (some ⟨P + 1, 0, none⟩)] W fun e W' => e = .returned (.tuple #[]) ∧ ∃ oa' cap', PI w0 P 162 fq (.slice oa' (xs ++ extL (l.drop k) (m - k) false).length cap') (xs ++ extL (l.drop k) (m - k) false) W') :=
        fun W hik hW => by
          subst hfq
          have := ih (l.drop k) b (o + k) (n - k) (c - k) (m - k) false oa cap xs W (by omega) hl2 (by omega) (by omega) (by omega) (by omega) (by omega) (hs.drop k) (hr.drop k) hW
          rw [show ((m - k : Nat) : Int) = (m : Int) - (k : Int) by omega] at this
          exact this
      have HFQ := Lib.hid hfq
      rw [hfq] at hpi
      have HPI := Lib.hid hpi
      have n1 : ((m : Int) == (n : Int)) = false := by rw [beq_eq_false_iff_ne]; omega
      have n2 : ¬ m = n := hmn
      have k0 : (0 : Int) ≤ (k : Int) := by omega
      have kc : (k : Int) ≤ (c : Int) := by omega
      have kn : (k : Int) ≤ (n : Int) := by omega
      have kk : (k : Int) < (c : Int) := by omega
      have nc : (n : Int) ≤ (c : Int) := by omega
      have kne : ¬ k = c := by omega
      have kne2 : ¬ c = k := by omega
      have c1 := hpi.q.cell 0
      have c0 := hpi.p.cell 0
      simp only [List.getElem?_cons_zero] at c0 c1
      have hx1 : xs.length + k + 1 ≤ 1000000 := by omega
      have hx2 : xs.length + (n - k) + 1 ≤ 1000000 := by omega
      clear hfq ih hr hs hN hpi hk hk1 hk2 hl1 hl2 h2
      by_cases hik : m ≤ k
      · have q1 : (m : Int) ≤ (k : Int) := by omega
        rw [← HFQ.out] at c1
        go_enter Tryd.func108, Tryd.ntmps108
        go_wp2_with fail
        refine HSP.out.mono ?_
        rintro e w2 ⟨rfl, rfl⟩
        go_wp2_with fail
        go_region_held3 (fun W => W.cell? ⟨P + 1, 0, none⟩ = some (.func (.func 108) #[] #[.pointer (some ⟨P, 0, none⟩), .pointer (some ⟨P + 1, 0, none⟩)])) (first | go_keep | (rw [HFQ.out]; exact hpi2.q.cell 0)) (((with_reducible refine (IP.out _ hik (HPI.out.below (Below.refl _ _).drew)).mono ?_); rintro e w' ⟨rfl, oa2, cap2, hpi2⟩))
        obtain ⟨ys, hys⟩ : ∃ ys, xs ++ extL (l.take k) m wh = ys := ⟨_, rfl⟩
        have hyl : ys.length ≤ 1000000 := by rw [← hys, List.length_append]; omega
        rw [hys] at hpi2
        have HYS := Lib.hid hys
        clear hys
        have HPJ := Lib.hid hpi2
        have d0 := hpi2.p.cell 0
        simp only [List.getElem?_cons_zero] at d0
        have hpl := hpi2.p.lt
        clear hpi2 c0 c1
        go_wp2_with fail
        go_region_law (first
          | (go_simp; (with_reducible refine (IR.out _ (HPJ.out.below (Below.refl _ _).drew).bel).mono ?_); rintro e w1 ⟨rfl, hb1⟩; have HPK := Lib.hid ((HPJ.out.below (Below.refl _ _).drew).below hb1); have e0 := HPK.out.p.cell 0; simp only [List.getElem?_cons_zero] at e0; have hpl1 := HPK.out.p.lt; clear hb1; go_simp)
          | (refine step_app (by rfl) _ _ (by rfl) (by rfl) (by rfl) HPK hyl ?_; intro oa3 cap3 w3 g0 g1 g2 HPL))
        all_goals
          (try go_wp2_with fail)
          refine bodyPost_ret (v := .tuple #[]) (by simp [results, Tryd.results108, go_sem]) rfl ⟨rfl, oa3, cap3, ?_⟩
          have HL := HPL.out
          rw [HPT.out, if_pos hik, ← List.append_assoc, HYS.out, HFQ.out]
          simpa using HL
      · have q1 : (k : Int) < (m : Int) := by omega
        have q2 : ¬ (m : Int) ≤ (k : Int) := by omega
        have hki : k < m := by omega
        have q3 : IntKind.i64.wrap ((m : Int) - (k : Int)) = (m : Int) - (k : Int) := IntWalk.i64_in _ (by omega)
        rw [← HFQ.out] at c1
        go_enter Tryd.func108, Tryd.ntmps108
        go_wp2_with fail
        refine HSP.out.mono ?_
        rintro e w2 ⟨rfl, rfl⟩
        go_wp2_with fail
        go_region_held3 (fun W => W.cell? ⟨P + 1, 0, none⟩ = some (.func (.func 108) #[] #[.pointer (some ⟨P, 0, none⟩), .pointer (some ⟨P + 1, 0, none⟩)])) (first | go_keep | (rw [HFQ.out]; exact hpi2.q.cell 0)) (((with_reducible refine (IQ.out _ hki (HPI.out.below (Below.refl _ _).drew)).mono ?_); rintro e w' ⟨rfl, oa2, cap2, hpi2⟩))
        obtain ⟨ys, hys⟩ : ∃ ys, xs ++ extL (l.drop k) (m - k) false = ys := ⟨_, rfl⟩
        have hyl : ys.length ≤ 1000000 := by rw [← hys, List.length_append]; omega
        rw [hys] at hpi2
        have HYS := Lib.hid hys
        clear hys
        have HPJ := Lib.hid hpi2
        have d0 := hpi2.p.cell 0
        simp only [List.getElem?_cons_zero] at d0
        have hpl := hpi2.p.lt
        clear hpi2 c0 c1
        go_wp2_with fail
        go_region_law (first
          | (go_simp; (with_reducible refine (IL.out _ (HPJ.out.below (Below.refl _ _).drew).bel).mono ?_); rintro e w1 ⟨rfl, hb1⟩; have HPK := Lib.hid ((HPJ.out.below (Below.refl _ _).drew).below hb1); have e0 := HPK.out.p.cell 0; simp only [List.getElem?_cons_zero] at e0; have hpl1 := HPK.out.p.lt; clear hb1; go_simp)
          | (refine step_app (by rfl) _ _ (by rfl) (by rfl) (by rfl) HPK hyl ?_; intro oa3 cap3 w3 g0 g1 g2 HPL))
        all_goals
          (try go_wp2_with fail)
          go_end0
          refine ⟨rfl, oa3, cap3, ?_⟩
          have HL := HPL.out
          rw [HPT.out, if_neg hik, ← List.append_assoc, HYS.out, HFQ.out]
          simpa using HL
end Go.Proofs.YtfpcdlpfmlaakaaDoor
namespace Go.Proofs.YtfpcdlpfmlaakaaDoor
open Go.RowKit Onair
attribute [local go_sem ↓] Go.wp_at_zero Go.wp_at_succ
set_option maxHeartbeats 2000000 in
theorem ext_in (l : List ByteArray) (b o n c m : Nat) (w : World) (hn : l.length = n) (hc : n ≤ c) (hcm : c ≤ 9223372036854775807) (hx : n + 1 ≤ 1000000) (hm1 : 1 ≤ m) (hm : m ≤ n) (hs : SzB 300000000 l) (hr : RdB w b o l) (ht : TabAt w) :
    Calls Tryd.prog 81 #[.slice (some ⟨b, o, none⟩) n c, .int .i64 (m : Int)] w fun e w' => ∃ oa cap, e = .returned (.tuple #[.slice oa (extL l m true).length cap, .int .i64 0]) ∧ (extL l m true).length ≤ cap ∧ cap ≤ 9223372036854775807 ∧ RdS w' oa (extL l m true) ∧ Below w.heap.size w w' := by
  obtain ⟨P, hP⟩ : ∃ P, w.heap.size = P := ⟨_, rfl⟩
  obtain ⟨fq, hfq⟩ : ∃ fq, Value.func (.func 108) #[] #[.pointer (some ⟨P, 0, none⟩), .pointer (some ⟨P + 1, 0, none⟩)] = fq := ⟨_, rfl⟩
  have hpi : PI w P 162 fq (.slice none 0 0) [] ((w.alloc (.cells #[.slice none 0 0] 43)).alloc (.cells #[fq] 162)) := by
    subst hP
    refine ⟨(Blk.new w 43 [.slice none 0 0]).alloc _, World.ownsRow_nil _ _ _ _, ?_, rfl, ((Below.refl _ w).alloc (Nat.le_refl _) _).alloc (by simp) _⟩
    have := Blk.new (w.alloc (.cells #[.slice none 0 0] 43)) 162 [fq]
    rw [World.size_alloc] at this
    exact this
  subst hfq
  have HH := Lib.hid (part_any w P ht l.length l b o n c m true none 0 [] _ (Nat.le_refl _) hn hc hcm (by simpa using hx) hm1 hm hs hr hpi)
  have HP := Lib.hid hP
  have i0 : ¬ (m : Int) < 0 := by omega
  have i1 : ¬ (n : Int) < (m : Int) := by omega
  have i2 : (m : Int) ≤ (n : Int) := by omega
  have i3 : ((m : Int) == 0) = false := by rw [beq_eq_false_iff_ne]; omega
  clear hpi hP hr hs ht
  go_enter Tryd.func81, Tryd.ntmps81
  go_wp2_with fail
  rw [HP.out]
  refine HH.out.mono ?_
  rintro e w' ⟨rfl, oa', cap', hpi⟩
  rw [List.nil_append] at hpi
  have c0 := hpi.p.cell 0
  simp only [List.getElem?_cons_zero] at c0
  have HPI := Lib.hid hpi
  clear hpi HH
  go_wp2_with fail
  have h := own_rds HPI.out.o
  refine bodyPost_ret (v := .tuple #[.slice oa' (extL l m true).length cap', .int .i64 0]) (by simp [results, Tryd.results81, go_sem]) rfl ⟨oa', cap', rfl, h.2.1, h.2.2.1, h.2.2.2, HPI.out.bel⟩
set_option maxHeartbeats 2000000 in
theorem ext_zero (oa : Option Addr) (n c : Nat) (w : World) (hn : n ≤ 1000000) :
    Calls Tryd.prog 81 #[.slice oa n c, .int .i64 0] w fun e w' => e = .returned (.tuple #[.slice none 0 0, .int .i64 0]) ∧ w = w' := by
  have i1 : (0 : Int) ≤ (n : Int) := by omega
  go_enter Tryd.func81, Tryd.ntmps81
  go_wp2_with fail
  go_ret2
  exact ⟨rfl, rfl⟩
set_option maxHeartbeats 2000000 in
theorem ext_out (oa : Option Addr) (n c : Nat) (i : Int) (w : World) (hn : n ≤ 1000000) (hi : i < 0 ∨ (n : Int) < i) :
    Calls Tryd.prog 81 #[.slice oa n c, .int .i64 i] w fun e w' => e = .returned (.tuple #[.slice none 0 0, .int .i64 2]) ∧ w = w' := by
  by_cases h0 : i < 0
  · clear hi
    go_enter Tryd.func81, Tryd.ntmps81
    go_wp2_with fail
    go_ret2
    exact ⟨rfl, rfl⟩
  · have h1 : (n : Int) < i := by omega
    have h2 : 0 ≤ i := by omega
    clear hi
    go_enter Tryd.func81, Tryd.ntmps81
    go_wp2_with fail
    go_ret2
    exact ⟨rfl, rfl⟩
end Go.Proofs.YtfpcdlpfmlaakaaDoor
