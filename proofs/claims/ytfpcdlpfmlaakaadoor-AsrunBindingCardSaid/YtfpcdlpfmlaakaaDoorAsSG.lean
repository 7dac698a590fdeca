/-
  The reference's Preimages and Collision.
-/
import Derived.WalkKit
import Derived.LoopTactic
import Derived.WalkSpells
import Derived.WalkLawsBesides
import Derived.IntWalk
import Derived.Outline
import Derived.Deep.QuietTactic
import Derived.BigQuiet
import Derived.Deep.RegionLaw
import Derived.Deep.RegionHeld3
import Derived.Deep.DrawnRows
import Derived.Deep.AppendLies
import Derived.Laws.EntriesVeiled
import Derived.Lib.Hide
import Derived.Laws.OwnMore
import Derived.Test.YtfpcdlpfmlaakaaDoorAsShb
import Derived.Test.YtfpcdlpfmlaakaaDoorDgG
import Derived.Test.YtfpcdlpfmlaakaaDoorDgI
import Derived.Test.YtfpcdlpfmlaakaaDoorDgK
import Derived.Test.YtfpcdlpfmlaakaaDoorDgN
import Derived.Test.YtfpcdlpfmlaakaaDoorAsSq
set_option linter.unusedVariables false
set_option linter.unusedSimpArgs false
namespace Go.Proofs.YtfpcdlpfmlaakaaDoor
open Go.RowKit Onair
attribute [local go_sem ↓] Go.wp_at_zero Go.wp_at_succ
/-- The top of a way is what the value is the digest of. -/
theorem way_head : ∀ (q : List ByteArray) (n i : Nat) (s : ByteArray), (valR q n i s).2 = true → s.size ≤ 1000 → SzB 32 q → ∃ T r, wayR q n i s = T :: r ∧ shaB T = (valR q n i s).1 ∧ T.size ≤ 2000
  | [], n, i, s, h, hs, hq => by
    unfold valR at h ⊢
    split at h
    · rw [if_pos (by assumption)]
      exact ⟨leafS s, [], rfl, rfl, by rw [leafS_size]; omega⟩
    · cases h
  | x :: q, n, i, s, h, hs, hq => by
    have hx : x.size ≤ 32 := hq x (by simp)
    unfold valR at h ⊢
    split at h
    · cases h
    · rename_i hn
      rw [if_neg hn]
      unfold wayR
      split
      · exact ⟨_, _, rfl, rfl, by have := valR_size q (splitN n) i s; rw [nodeS_size]; omega⟩
      · exact ⟨_, _, rfl, rfl, by have := valR_size q (n - splitN n) (i - splitN n) s; rw [nodeS_size]; omega⟩
theorem preL_len (s : ByteArray) (n i : Nat) (p : List ByteArray) : (preL s n i p).length = p.length + 1 := by
  unfold preL
  rw [List.length_reverse, wayR_len, List.length_reverse]
def PreP (w : World) (L : List ByteArray) (e : Ending) (w' : World) : Prop := ∃ oa cap, e = .returned (.slice oa L.length cap) ∧ OwnV 9 w.heap.size (.slice oa L.length cap) (L.map Value.string) w' ∧ Below w.heap.size w w'
theorem own_lit (w : World) (T : ByteArray) : OwnV 9 w.heap.size (.slice (some ⟨w.heap.size, 0, none⟩) 1 1) [.string T] (w.alloc (.cells #[.string T] 9)) := own_new w [T] (by simp)
set_option maxHeartbeats 4000000 in
set_option maxRecDepth 100000 in
theorem refPre_any : ∀ (N : Nat) (p : List ByteArray) (oa : Option Addr) (m n i cap : Nat) (s : ByteArray) (w : World), p.length = N → p.length = m → m ≤ cap → m ≤ 10000 → cap ≤ 9223372036854775807 → n ≤ 9223372036854775807 → i < n → s.size ≤ 1000 → SzB 32 p → (valR p.reverse n i s).2 = true → RdS w oa p →
    Calls Tryd.prog 24 #[.string s, .int .i64 (n : Int), .int .i64 (i : Int), .slice oa m cap] w (PreP w (preL s n i p)) := by
  intro N
  induction N with
  | zero =>
    intro p oa m n i cap s w hN hm hmc hmm hcc hn hi hs hz hok hr
    obtain rfl : p = [] := List.eq_nil_of_length_eq_zero hN
    obtain rfl : m = 0 := by simpa using hm.symm
    obtain rfl : n = 1 := by
      rw [List.reverse_nil] at hok
      unfold valR at hok
      split at hok
      · assumption
      · cases hok
    have hls := leafS_cat s
    have hlz := leafS_size s
    have hv : preL s 1 i [] = [leafS s] := rfl
    obtain ⟨T, hT⟩ : ∃ T, leafS s = T := ⟨_, rfl⟩
    rw [hT] at hls hlz hv
    have HV := Lib.hid hv
    have HO := Lib.hid (own_lit w T)
    have HB : Hid (Below w.heap.size w (w.alloc (.cells #[.string T] 9))) := (Below.refl _ _).alloc (Nat.le_refl _) _
    clear hv hz hok hr hm hN hT
    go_enter Tryd.func24, Tryd.ntmps24
    go_wp2_with fail
    go_ret
    exact ⟨some ⟨w.heap.size, 0, none⟩, 1, by rw [HV.out]; rfl, by rw [HV.out]; exact HO.out, HB.out⟩
  | succ N ih =>
    intro p oa m n i cap s w hN hm hmc hmm hcc hn hi hs hz hok hr
    obtain ⟨b, o, rfl, hrb⟩ := hr.some (by omega)
    obtain ⟨q, x, rfl⟩ : ∃ q x, p = q ++ [x] := ⟨p.dropLast, p.getLast (by intro e; rw [e] at hN; simp at hN), (List.dropLast_concat_getLast _).symm⟩
    have hq : q.length = N := by simpa using hN
    have hmN : m = N + 1 := by omega
    have hrev : (q ++ [x]).reverse = x :: q.reverse := by simp
    rw [hrev] at hok
    have h1 : n ≠ 1 := by
      intro e
      unfold valR at hok
      rw [if_pos e] at hok
      cases hok
    have h2 : 2 ≤ n := by omega
    have hk1 := splitN_lt n h2
    have hk2 := splitN_pos n
    have hxs : x.size ≤ 32 := hz x (by simp)
    have cx := hrb.cell N x (by rw [List.getElem?_append_right (by omega), hq, Nat.sub_self]; rfl)
    have hqz : SzB 32 q := fun y hy => hz y (by simp [hy])
    have hqz' : SzB 32 q.reverse := fun y hy => hqz y (by simpa using hy)
    have hrq : RdB w b o q := ⟨hrb.lt, fun j y hj => hrb.cell j y (by rw [List.getElem?_append_left (List.getElem?_eq_some_iff.1 hj).1]; exact hj)⟩
    have HSP := Lib.hid (fun W => refLeft_any n W h2 hn)
    have hok2 : (if i < splitN n then (valR q.reverse (splitN n) i s).2 else (valR q.reverse (n - splitN n) (i - splitN n) s).2) = true := by
      have h := hok
      unfold valR at h
      rw [if_neg h1] at h
      split at h
      · rename_i hc; rw [if_pos hc]; exact h
      · rename_i hc; rw [if_neg hc]; exact h
    have hpre : preL s n i (q ++ [x]) = if i < splitN n then preL s (splitN n) i q ++ [nodeS (valR q.reverse (splitN n) i s).1 x] else preL s (n - splitN n) (i - splitN n) q ++ [nodeS x (valR q.reverse (n - splitN n) (i - splitN n) s).1] := by
      unfold preL
      rw [hrev]
      conv => lhs; unfold wayR
      split <;> simp
    have HPRE := Lib.hid hpre
    obtain ⟨k, hk⟩ : ∃ k, splitN n = k := ⟨_, rfl⟩
    rw [hk] at hk1 hk2 HSP HPRE hok2
    have n1 : ¬ (n : Int) ≤ 1 := by omega
    have m0 : ((m : Int) == 0) = false := by rw [beq_eq_false_iff_ne]; omega
    have g1 : IntKind.i64.wrap ((m : Int) - 1) = (N : Int) := by rw [IntWalk.i64_in _ (by omega)]; omega
    have g2 : (0 : Int) ≤ (N : Int) := by omega
    have g3 : (N : Int) < (m : Int) := by omega
    have g4 : (N : Int) ≤ (cap : Int) := by omega
    by_cases hik : i < k
    · have q1 : (i : Int) < (k : Int) := by omega
      rw [if_pos hik] at hok2
      have IH := Lib.hid (ih q (some ⟨b, o, none⟩) N k i cap s w hq hq (by omega) (by omega) hcc (by omega) hik hs hqz hok2 hrq.rds)
      obtain ⟨T, r, hw1, hw2, hw3⟩ := way_head q.reverse k i s hok2 hs hqz'
      have hvs := valR_size q.reverse k i s
      have hpl := preL_len s k i q
      have hrl : r.length = N := by
        have := congrArg List.length hw1
        rw [wayR_len, List.length_reverse, List.length_cons] at this
        omega
      obtain ⟨P, hP⟩ : ∃ P, preL s k i q = P := ⟨_, rfl⟩
      have hlast : P[N]? = some T := by
        rw [← hP]
        unfold preL
        rw [hw1, List.reverse_cons, List.getElem?_append_right (by rw [List.length_reverse]; omega), List.length_reverse, show N - r.length = 0 by omega]
        rfl
      obtain ⟨V, hV⟩ : ∃ V, (valR q.reverse k i s).1 = V := ⟨_, rfl⟩
      have HE : Hid (preL s n i (q ++ [x]) = P ++ [nodeS V x]) := by show _ = _; rw [HPRE.out, if_pos hik, hP, hV]
      rw [hP] at IH hpl
      rw [hV] at hw2 hvs
      obtain ⟨M, hM⟩ : ∃ M, P.length = M := ⟨_, rfl⟩
      have hMN : M = N + 1 := by omega
      have g5 : IntKind.i64.wrap ((M : Int) - 1) = (N : Int) := by rw [IntWalk.i64_in _ (by omega)]; omega
      have g6 : (N : Int) < (M : Int) := by omega
      have hMb : M ≤ 20000 := by omega
      have HSM := Lib.hid (fun W => refSum_any T W (by omega))
      rw [hw2] at HSM
      have HLA := Lib.hid hlast
      have HPL := Lib.hid hM
      have hcat := nodeS_cat V x
      have hnz := nodeS_size V x
      obtain ⟨Z, hZ⟩ : ∃ Z, nodeS V x = Z := ⟨_, rfl⟩
      rw [hZ] at hcat HE hnz
      clear hz hok hr hm hN hrb ih hrev hq hmN hqz hqz' hrq h1 h2 hk hV hP hpl hpre hok2 hw1 hw2 hlast hZ HPRE hM hMN hrl
      go_enter Tryd.func24, Tryd.ntmps24
      go_wp2_with fail
      refine (HSP.out _).mono ?_
      rintro e w2 ⟨rfl, rfl⟩
      go_wp2_with fail
      refine IH.out.mono ?_
      rintro e w3 ⟨oa, ca, rfl, hown, hb3⟩
      rw [HPL.out] at hown
      rw [HPL.out]
      have HO := Lib.hid hown
      have HB3 := Lib.hid hb3
      obtain ⟨hrv, hxx, hca, hcm⟩ := hown.rd
      obtain ⟨b2, o2, rfl, hb2lt, hcell⟩ := hrv.some (by rw [List.length_map, HPL.out]; omega)
      have cT := hcell N (.string T) (by rw [List.getElem?_map, HLA.out]; rfl)
      have g7 : (N : Int) < (ca : Int) := by omega
      clear hown hb3 hrv hcell cx IH hca hxx
      go_wp2_with fail
      refine (HSM.out _).mono ?_
      rintro e w4 ⟨rfl, hb4⟩
      have ho4 := HO.out.kept hb4
      have HB4 := Lib.hid (HB3.out.trans (hb4.mono HB3.out.size))
      have hyl2 : (P.map Value.string).length = M := by rw [List.length_map]; exact HPL.out
      obtain ⟨oa2, cap2, w5, hrun, hown5, hfr⟩ := app_one (st := 43) Tryd.underlying43 Tryd.infoStr rfl (by decide) w4 w.heap.size (.slice (some ⟨b2, o2, none⟩) M ca) _ (.string Z) ho4 (by rw [hyl2]; omega) rfl 43
      rw [hyl2] at hrun hown5
      have HO5 := Lib.hid hown5
      have HB5 := Lib.hid (HB4.out.trans (hfr.below w.heap.size HB4.out.size (fun k hk => hk)))
      clear hown5 hfr ho4 hb4 hyl2 cT
      go_wp2_with (at_builtin; refine wpList_append_run _ rfl _ _ 43 rfl _ _ _ _ rfl rfl hrun ?_)
      clear hrun
      go_ret
      refine ⟨oa2, cap2, by rw [HE.out, List.length_append, HPL.out]; rfl, ?_, HB5.out⟩
      rw [HE.out, List.length_append, List.map_append, HPL.out]
      exact HO5.out
    · have q1 : (k : Int) ≤ (i : Int) := by omega
      have q2 : ¬ (i : Int) < (k : Int) := by omega
      have q3 : (k : Int) ≤ (n : Int) := by omega
      rw [if_neg hik] at hok2
      have IH := Lib.hid (by
        have := ih q (some ⟨b, o, none⟩) N (n - k) (i - k) cap s w hq hq (by omega) (by omega) hcc (by omega) (by omega) hs hqz hok2 hrq.rds
        rw [show ((n - k : Nat) : Int) = (n : Int) - (k : Int) by omega, show ((i - k : Nat) : Int) = (i : Int) - (k : Int) by omega] at this
        exact this)
      obtain ⟨T, r, hw1, hw2, hw3⟩ := way_head q.reverse (n - k) (i - k) s hok2 hs hqz'
      have hvs := valR_size q.reverse (n - k) (i - k) s
      have hpl := preL_len s (n - k) (i - k) q
      have hrl : r.length = N := by
        have := congrArg List.length hw1
        rw [wayR_len, List.length_reverse, List.length_cons] at this
        omega
      obtain ⟨P, hP⟩ : ∃ P, preL s (n - k) (i - k) q = P := ⟨_, rfl⟩
      have hlast : P[N]? = some T := by
        rw [← hP]
        unfold preL
        rw [hw1, List.reverse_cons, List.getElem?_append_right (by rw [List.length_reverse]; omega), List.length_reverse, show N - r.length = 0 by omega]
        rfl
      obtain ⟨V, hV⟩ : ∃ V, (valR q.reverse (n - k) (i - k) s).1 = V := ⟨_, rfl⟩
      have HE : Hid (preL s n i (q ++ [x]) = P ++ [nodeS x V]) := by show _ = _; rw [HPRE.out, if_neg hik, hP, hV]
      rw [hP] at IH hpl
      rw [hV] at hw2 hvs
      obtain ⟨M, hM⟩ : ∃ M, P.length = M := ⟨_, rfl⟩
      have hMN : M = N + 1 := by omega
      have g5 : IntKind.i64.wrap ((M : Int) - 1) = (N : Int) := by rw [IntWalk.i64_in _ (by omega)]; omega
      have g6 : (N : Int) < (M : Int) := by omega
      have hMb : M ≤ 20000 := by omega
      have HSM := Lib.hid (fun W => refSum_any T W (by omega))
      rw [hw2] at HSM
      have HLA := Lib.hid hlast
      have HPL := Lib.hid hM
      have hcat := nodeS_cat x V
      have hnz := nodeS_size x V
      obtain ⟨Z, hZ⟩ : ∃ Z, nodeS x V = Z := ⟨_, rfl⟩
      rw [hZ] at hcat HE hnz
      clear hz hok hr hm hN hrb ih hrev hq hmN hqz hqz' hrq h1 h2 hk hV hP hpl hpre hok2 hw1 hw2 hlast hZ HPRE hM hMN hrl
      go_enter Tryd.func24, Tryd.ntmps24
      go_wp2_with fail
      refine (HSP.out _).mono ?_
      rintro e w2 ⟨rfl, rfl⟩
      go_wp2_with fail
      refine IH.out.mono ?_
      rintro e w3 ⟨oa, ca, rfl, hown, hb3⟩
      rw [HPL.out] at hown
      rw [HPL.out]
      have HO := Lib.hid hown
      have HB3 := Lib.hid hb3
      obtain ⟨hrv, hxx, hca, hcm⟩ := hown.rd
      obtain ⟨b2, o2, rfl, hb2lt, hcell⟩ := hrv.some (by rw [List.length_map, HPL.out]; omega)
      have cT := hcell N (.string T) (by rw [List.getElem?_map, HLA.out]; rfl)
      have g7 : (N : Int) < (ca : Int) := by omega
      clear hown hb3 hrv hcell cx IH hca hxx
      go_wp2_with fail
      refine (HSM.out _).mono ?_
      rintro e w4 ⟨rfl, hb4⟩
      have ho4 := HO.out.kept hb4
      have HB4 := Lib.hid (HB3.out.trans (hb4.mono HB3.out.size))
      have hyl2 : (P.map Value.string).length = M := by rw [List.length_map]; exact HPL.out
      obtain ⟨oa2, cap2, w5, hrun, hown5, hfr⟩ := app_one (st := 43) Tryd.underlying43 Tryd.infoStr rfl (by decide) w4 w.heap.size (.slice (some ⟨b2, o2, none⟩) M ca) _ (.string Z) ho4 (by rw [hyl2]; omega) rfl 43
      rw [hyl2] at hrun hown5
      have HO5 := Lib.hid hown5
      have HB5 := Lib.hid (HB4.out.trans (hfr.below w.heap.size HB4.out.size (fun k hk => hk)))
      clear hown5 hfr ho4 hb4 hyl2 cT
      go_wp2_with (at_builtin; refine wpList_append_run _ rfl _ _ 43 rfl _ _ _ _ rfl rfl hrun ?_)
      clear hrun
      go_ret
      refine ⟨oa2, cap2, by rw [HE.out, List.length_append, HPL.out]; rfl, ?_, HB5.out⟩
      rw [HE.out, List.length_append, List.map_append, HPL.out]
      exact HO5.out
/-- Two lists that are held side by side. -/
structure L2 (w : World) (oa ob : Option Addr) (A B : List ByteArray) (W : World) : Prop where
  a : RdS W oa A
  b : RdS W ob B
  tab : TabAt W
  bel : Below w.heap.size w W
theorem L2.next {w : World} {oa ob : Option Addr} {A B : List ByteArray} {W W' : World} (h : L2 w oa ob A B W) (hb : Below W.heap.size W W') : L2 w oa ob A B W' := ⟨h.a.kept hb, h.b.kept hb, h.tab.below hb, h.bel.trans (hb.mono h.bel.size)⟩
theorem cs_next {w : World} {oa ob : Option Addr} {A B : List ByteArray} {b1 o1 b2 o2 k : Nat} {x y : ByteArray} {W W' : World} (hb : Below W.heap.size W W')
    (h : W.cell? ⟨b1, o1 + k, none⟩ = some (.string x) ∧ W.cell? ⟨b2, o2 + k, none⟩ = some (.string y) ∧ b1 < W.heap.size ∧ b2 < W.heap.size ∧ Hid (L2 w oa ob A B W)) :
    W'.cell? ⟨b1, o1 + k, none⟩ = some (.string x) ∧ W'.cell? ⟨b2, o2 + k, none⟩ = some (.string y) ∧ b1 < W'.heap.size ∧ b2 < W'.heap.size ∧ Hid (L2 w oa ob A B W') :=
  ⟨(hb.cell (p := ⟨b1, o1 + k, none⟩) h.2.2.1).trans h.1, (hb.cell (p := ⟨b2, o2 + k, none⟩) h.2.2.2.1).trans h.2.1, Nat.lt_of_lt_of_le h.2.2.1 hb.size, Nat.lt_of_lt_of_le h.2.2.2.1 hb.size, Lib.hid (h.2.2.2.2.out.next hb)⟩
set_option maxHeartbeats 4000000 in
theorem refColl_any (w : World) (oa ob : Option Addr) (ca cb : Nat) (A B : List ByteArray) (hA : A.length ≤ 10000) (hB : B.length ≤ 10000) (zA : SzB 1000000 A) (zB : SzB 1000000 B) (hra : RdS w oa A) (hrb : RdS w ob B) (ht : TabAt w) :
    Calls Tryd.prog 26 #[.slice oa A.length ca, .slice ob B.length cb] w fun e w' => e = .returned (.bool (collB A B)) ∧ Below w.heap.size w w' := by
  have H0 : Hid (L2 w oa ob A B w) := ⟨hra, hrb, ht, Below.refl _ _⟩
  have HZA := Lib.hid zA
  have HZB := Lib.hid zB
  clear hra hrb ht zA zB
  go_enter Tryd.func26, Tryd.ntmps26
  go_wp2_with fail
  go_loopw [5] (fun i wr => ∃ k : Nat, k ≤ A.length ∧ k ≤ B.length ∧ i = .int .i64 k ∧ Hid (collB (A.drop k) (B.drop k) = collB A B) ∧ Hid (L2 w oa ob A B wr)) (fun i _ => A.length - (intOf i).toNat)
  case atStart => exact ⟨0, Nat.zero_le _, Nat.zero_le _, rfl, rfl, H0⟩
  case round =>
    clear H0
    obtain ⟨k, hka, hkb, rfl, HC, HL⟩ := hrel
    by_cases h : k < A.length ∧ k < B.length
    · obtain ⟨h1, h2⟩ := h
      obtain ⟨x, hx⟩ : ∃ x, A[k]? = some x := ⟨_, List.getElem?_eq_getElem h1⟩
      obtain ⟨y, hy⟩ : ∃ y, B[k]? = some y := ⟨_, List.getElem?_eq_getElem h2⟩
      obtain ⟨b1, o1, rfl, hb1⟩ := HL.out.a.some (by omega)
      obtain ⟨b2, o2, rfl, hb2⟩ := HL.out.b.some (by omega)
      have c1 := hb1.cell k x hx
      have c2 := hb2.cell k y hy
      have l1 := hb1.lt
      have l2 := hb2.lt
      have zx := HZA.out x (List.mem_of_getElem? hx)
      have zy := HZB.out y (List.mem_of_getElem? hy)
      have q1 : (k : Int) < (A.length : Int) := by omega
      have q2 : (k : Int) < (B.length : Int) := by omega
      have hcc := HC.out
      rw [drop_at A k x hx, drop_at B k y hy] at hcc
      have HC2 := Lib.hid hcc
      clear HC hx hy hb1 hb2 hcc
      by_cases hxy : x = y
      · obtain rfl := hxy
        have e1 : (x.toList != x.toList) = false := by simp
        have HN : Hid (collB (A.drop (k + 1)) (B.drop (k + 1)) = collB A B) := by
          have := HC2.out
          rw [collB_same] at this
          exact this
        clear HC2
        go_wp2_with fail
        go_quiet (fail)
        have HL2 := Lib.hid (HL.out.next (drewN_below (Below.refl _ _) nq))
        clear c1 c2
        go_wp2_with fail
        go_roundw
        case rel => exact ⟨k + 1, by omega, by omega, by go_num, HN, HL2⟩
        case measure => simp [intOf]; omega
      · have e1 : (x.toList == y.toList) = false := by rw [beq_dec]; exact decide_eq_false hxy
        have e2 := beq_dec (shaB x) (shaB y)
        have HXY := Lib.hid hxy
        have HS1 : Hid (∀ W, Hid (L2 w (some ⟨b1, o1, none⟩) (some ⟨b2, o2, none⟩) A B W) → Calls Tryd.prog 27 #[.string x] W fun e w' => e = .returned (.string (shaB x)) ∧ Below W.heap.size W w') := fun W hW => refSum_any x W (by omega)
        have HS2 : Hid (∀ W, Hid (L2 w (some ⟨b1, o1, none⟩) (some ⟨b2, o2, none⟩) A B W) → Calls Tryd.prog 27 #[.string y] W fun e w' => e = .returned (.string (shaB y)) ∧ Below W.heap.size W w') := fun W hW => refSum_any y W (by omega)
        obtain ⟨sx, hsx⟩ : ∃ sx, shaB x = sx := ⟨_, rfl⟩
        obtain ⟨sy, hsy⟩ : ∃ sy, shaB y = sy := ⟨_, rfl⟩
        rw [hsx] at HS1 e2
        rw [hsy] at HS2 e2
        have HSX := Lib.hid hsx
        have HSY := Lib.hid hsy
        clear hsx hsy hxy
        by_cases hs : sx = sy
        · rw [decide_eq_true hs] at e2
          have HE : Hid (collB A B = true) := HC2.out.symm.trans (collB_hit HXY.out (by rw [HSX.out, HSY.out, hs]))
          clear hs HC2 HSX HSY HXY
          go_wp2_with fail
          go_region_held3 (fun W => W.cell? ⟨b1, o1 + k, none⟩ = some (.string x) ∧ W.cell? ⟨b2, o2 + k, none⟩ = some (.string y) ∧ b1 < W.heap.size ∧ b2 < W.heap.size ∧ Hid (L2 w (some ⟨b1, o1, none⟩) (some ⟨b2, o2, none⟩) A B W))
            (first | exact ⟨c1, c2, l1, l2, Lib.hid (HL.out.next (Below.refl _ _).drew)⟩ | exact cs_next (by assumption) (by assumption))
            (first | ((with_reducible refine (HS1.out _ (And.right (And.right (And.right (And.right (by assumption)))))).mono ?_); rintro e w' ⟨rfl, hb⟩) | ((with_reducible refine (HS2.out _ (And.right (And.right (And.right (And.right (by assumption)))))).mono ?_); rintro e w' ⟨rfl, hb⟩))
          have HL9 : Hid (L2 w (some ⟨b1, o1, none⟩) (some ⟨b2, o2, none⟩) A B _) := And.right (And.right (And.right (And.right (by assumption))))
          go_wp2_with fail
          go_ret
          exact ⟨by rw [HE.out]; rfl, HL9.out.bel⟩
        · rw [decide_eq_false hs] at e2
          have HN : Hid (collB (A.drop (k + 1)) (B.drop (k + 1)) = collB A B) := by
            have := HC2.out
            rw [collB_miss _ _ (by rw [HSX.out, HSY.out]; exact hs)] at this
            exact this
          clear hs HC2 HSX HSY HXY
          go_wp2_with fail
          go_region_held3 (fun W => W.cell? ⟨b1, o1 + k, none⟩ = some (.string x) ∧ W.cell? ⟨b2, o2 + k, none⟩ = some (.string y) ∧ b1 < W.heap.size ∧ b2 < W.heap.size ∧ Hid (L2 w (some ⟨b1, o1, none⟩) (some ⟨b2, o2, none⟩) A B W))
            (first | exact ⟨c1, c2, l1, l2, Lib.hid (HL.out.next (Below.refl _ _).drew)⟩ | exact cs_next (by assumption) (by assumption))
            (first | ((with_reducible refine (HS1.out _ (And.right (And.right (And.right (And.right (by assumption)))))).mono ?_); rintro e w' ⟨rfl, hb⟩) | ((with_reducible refine (HS2.out _ (And.right (And.right (And.right (And.right (by assumption)))))).mono ?_); rintro e w' ⟨rfl, hb⟩))
          have HL9 : Hid (L2 w (some ⟨b1, o1, none⟩) (some ⟨b2, o2, none⟩) A B _) := And.right (And.right (And.right (And.right (by assumption))))
          clear c1 c2
          go_wp2_with fail
          go_roundw
          case rel => exact ⟨k + 1, by omega, by omega, by go_num, HN, HL9⟩
          case measure => simp [intOf]; omega
    · have HE : Hid (collB A B = false) := by
        have hcc := HC.out
        show _ = _
        rw [← hcc]
        by_cases h1 : k < A.length
        · rw [List.drop_of_length_le (l := B) (by omega), collB_nil']
        · rw [List.drop_of_length_le (l := A) (by omega), collB_nil]
      clear HC
      rcases (show (¬ (k : Int) < (A.length : Int)) ∨ ((k : Int) < (A.length : Int) ∧ ¬ (k : Int) < (B.length : Int)) from by omega) with h1 | ⟨h1, h2⟩
      all_goals
        clear h
        go_wp2_with fail
        go_ret
        exact ⟨by rw [HE.out]; rfl, HL.out.bel⟩
end Go.Proofs.YtfpcdlpfmlaakaaDoor
