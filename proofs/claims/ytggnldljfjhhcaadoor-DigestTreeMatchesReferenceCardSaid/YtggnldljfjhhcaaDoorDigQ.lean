/-
  Helpers of the laws of package digest: append of a list, left, way, collide.
-/
import Derived.WalkKit
import Derived.LoopTactic
import Derived.WalkSpells
import Derived.WalkLawsBesides
import Derived.IntWalk
import Derived.Outline
import Derived.Deep.QuietTactic
import Derived.BigQuiet
import Derived.Deep.RegionLaw
import Derived.Deep.RegionHeld3
import Derived.Deep.DrawnRows
import Derived.Deep.AppendLies
import Derived.Laws.EntriesVeiled
import Derived.Lib.Hide
import Derived.Laws.OwnMore
import Derived.Test.YtggnldljfjhhcaaDoorDigSha
import Derived.Test.YtggnldljfjhhcaaDoorDigH
import Derived.Test.YtggnldljfjhhcaaDoorDigJ
import Derived.Test.YtggnldljfjhhcaaDoorDigM
import Derived.Test.YtggnldljfjhhcaaDoorDigN
import Derived.Test.YtggnldljfjhhcaaDoorDigO
import Derived.Test.YtggnldljfjhhcaaDoorDigP
set_option linter.unusedVariables false
set_option linter.unusedSimpArgs false
namespace Go.Proofs.YtggnldljfjhhcaaDoor
open Go.RowKit Onair
attribute [local go_sem ↓] Go.wp_at_zero Go.wp_at_succ
theorem run_append_none (W : World) (B : Nat) (v : Value) (n : Nat) (xs : List Value) (hown : W.ownsRow B 9 1 v n xs) (c : Nat) (ty : TypeId) : (Builtin.append_ #[22, 22] ty #[v, .slice none 0 c]).run Tryd.prog W = .ok v W := by
  obtain ⟨i0, hi, hz0, hz1, hz2⟩ := info_parts Tryd.infoStr
  rcases hown.2 with ⟨rfl, rfl⟩ | ⟨g, cap, cur, rfl, _, _, hnc, _⟩
  · simp [Builtin.append_, run_underlying Tryd.underlying22, sizeOf, typeInfo, hi, Builtin.lenOf, Builtin.firstCells]
  · simp [Builtin.append_, run_underlying Tryd.underlying22, sizeOf, typeInfo, hi, Builtin.lenOf, Builtin.firstCells, hnc, storeCells]
/-- append of a list to a row of the call's own. -/
theorem app_list (W : World) (B : Nat) (v : Value) (xs ys : List ByteArray) (oa : Option Addr) (c : Nat) (ho : OwnS B v xs W) (hr : RdS W oa ys) (hc : oa = none → ys = [] → True) (hxl : xs.length ≤ 1000000) (hyl : ys.length ≤ 1000000) (ty : TypeId) :
    ∃ ob cb w', (Builtin.append_ #[22, 22] ty #[v, .slice oa ys.length c]).run Tryd.prog W = .ok (.slice ob (xs ++ ys).length cb) w' ∧ OwnS B (.slice ob (xs ++ ys).length cb) (xs ++ ys) w' ∧ Fr (fun k => B ≤ k) W w' := by
  obtain ⟨i0, hi, hz0, hz1, hz2⟩ := info_parts Tryd.infoStr
  have hge := own_ge ho.1
  cases oa with
  | none =>
    have hy : ys = [] := by
      rcases hr with h | ⟨b, o, e, _⟩
      · exact h
      · cases e
    subst hy
    obtain ⟨ob, cb, rfl⟩ := own_slice ho.1
    rw [List.append_nil]
    exact ⟨ob, cb, W, run_append_none W B _ _ _ ho.1 c ty, ho, Fr.refl _ _⟩
  | some a =>
    have hnews : ∀ j u, (ys.map Value.string)[j]? = some u → W.cell? (a.add j) = some u := fun j u hj => by
      rcases hr with h | ⟨b, o, e, h⟩
      · subst h; simp at hj
      · obtain rfl := Option.some.inj e
        rw [List.getElem?_map] at hj
        obtain ⟨x, hx, rfl⟩ := Option.map_eq_some_iff.1 hj
        rw [show ((⟨b, o, none⟩ : Addr).add j) = ⟨b, o + j, none⟩ from by unfold Addr.add; split <;> simp_all]
        exact h.cell j x hx
    obtain ⟨v', w', hrun, h1, h2, h3⟩ := app_own (P := Tryd.prog) (W := W) B 22 ty 9 i0 (.string ⟨#[]⟩) 1 16 Tryd.underlying22 hi hz0 hz1 hz2 rfl (by decide) v xs.length (xs.map Value.string) ho.1 a ys.length c (ys.map Value.string) (by simp) hnews (by
      intro u hu
      rw [List.mem_map] at hu
      obtain ⟨x, _, rfl⟩ := hu
      rfl) (by unfold maxLen; omega) (by omega) ho.2
    obtain ⟨ob, cb, rfl⟩ := own_slice h1
    refine ⟨ob, cb, w', by rw [List.length_append]; exact hrun, ⟨by rw [List.length_append, List.map_append]; exact h1, Nat.le_trans ho.2 h2.size⟩, h2.mono (fun k hk => hge k hk)⟩
theorem own_new (w : World) (xs : List ByteArray) (h : xs.length ≤ 1000000) : OwnS w.heap.size (.slice (some ⟨w.heap.size, 0, none⟩) xs.length xs.length) xs (w.alloc (.cells (xs.map Value.string).toArray 9)) := by
  refine ⟨⟨by simp, .inr ⟨w.heap.size, xs.length, (xs.map Value.string).toArray, rfl, Nat.le_refl _, Blk.new w 9 (xs.map Value.string), Nat.le_refl _, by unfold maxLen; omega, by simp, ?_⟩⟩, by simp⟩
  simp only [Nat.mul_one]
  rw [List.take_of_length_le (by simp)]
set_option maxHeartbeats 1000000 in
theorem left_any (n : Nat) (w : World) (h2 : 2 ≤ n) (hn : n ≤ 9223372036854775807) : Calls Tryd.prog 27 #[.int .i64 (n : Int)] w fun e w' => e = .returned (.int .i64 (splitN n : Nat)) ∧ w = w' := by
  go_enter Tryd.func27, Tryd.ntmps27
  go_wp2_with fail
  go_loop [3] (fun x => ∃ (j k : Nat), x = .int .i64 k ∧ 1 ≤ k ∧ k < n ∧ Hid (k = 2 ^ j)) (fun x => n - (intOf x).toNat)
  case atStart => exact ⟨0, 1, rfl, by decide, by omega, rfl⟩
  case round =>
    obtain ⟨j, k, rfl, hk1, hkn, HK⟩ := hrel
    by_cases h : 2 * k < n
    · have q1 : (k : Int) < (n : Int) - (k : Int) := by omega
      have HE : Hid (2 * k = 2 ^ (j + 1)) := by have := HK.out; show _ = _; rw [Nat.pow_succ]; omega
      clear HK
      go_wp2_with fail
      go_round
      case rel => exact ⟨j + 1, 2 * k, by go_num, by omega, h, HE⟩
      case measure => simp [intOf]; omega
    · have q1 : ¬ (k : Int) < (n : Int) - (k : Int) := by omega
      have HE : Hid (k = splitN n) := by
        have h1 := HK.out
        show k = 2 ^ (n - 1).log2
        rw [h1]
        congr 1
        refine ((Nat.log2_eq_iff (by omega)).2 ⟨by omega, by rw [Nat.pow_succ]; omega⟩).symm
      clear HK
      go_wp2_with fail
      go_ret
      exact ⟨by rw [HE.out]; rfl, rfl⟩
/-- The strings of which the digest is computed for a proof that was accepted. -/
def wayR : List ByteArray → Nat → Nat → ByteArray → List ByteArray
  | [], _, _, s => [leafS s]
  | x :: q, n, i, s => if i < splitN n then nodeS (valR q (splitN n) i s).1 x :: wayR q (splitN n) i s else nodeS x (valR q (n - splitN n) (i - splitN n) s).1 :: wayR q (n - splitN n) (i - splitN n) s
theorem wayR_len : ∀ (q : List ByteArray) (n i : Nat) (s : ByteArray), (wayR q n i s).length = q.length + 1
  | [], _, _, _ => rfl
  | x :: q, n, i, s => by
    unfold wayR
    split
    · rw [List.length_cons, wayR_len q]; rfl
    · rw [List.length_cons, wayR_len q]; rfl
theorem nodeS_cat (a b : ByteArray) : (⟨#[1]⟩ : ByteArray) ++ a ++ b = nodeS a b := by
  apply ByteArray.ext
  simp [nodeS]
theorem leafS_cat (s : ByteArray) : (⟨#[0]⟩ : ByteArray) ++ s = leafS s := by
  apply ByteArray.ext
  simp [leafS]
set_option maxHeartbeats 4000000 in
set_option maxRecDepth 100000 in
theorem way_any : ∀ (N : Nat) (p : List ByteArray) (oa : Option Addr) (m n i cap : Nat) (s : ByteArray) (w : World), p.length = N → p.length = m → m ≤ cap → m ≤ 10000 → cap ≤ 9223372036854775807 → n ≤ 9223372036854775807 → i < n → s.size ≤ 1000000 → SzB 32 p → (valR p.reverse n i s).2 = true → RdS w oa p → TabAt w →
    Calls Tryd.prog 22 #[.int .i64 (n : Int), .int .i64 (i : Int), .string s, .slice oa m cap] w fun e w' => ∃ ob cb, e = .returned (.tuple #[.slice ob (wayR p.reverse n i s).length cb, .string (valR p.reverse n i s).1]) ∧ RdS w' ob (wayR p.reverse n i s) ∧ Below w.heap.size w w' := by
  intro N
  induction N with
  | zero =>
    intro p oa m n i cap s w hN hm hmc hmm hcc hn hi hs hz hok hr ht
    obtain rfl : p = [] := List.eq_nil_of_length_eq_zero hN
    obtain rfl : m = 0 := by simpa using hm.symm
    obtain rfl : n = 1 := by
      rw [List.reverse_nil] at hok
      unfold valR at hok
      split at hok
      · assumption
      · cases hok
    have hb0 : Below w.heap.size w (w.alloc (.cells #[.string (leafS s)] 9)) := (Below.refl _ w).alloc (Nat.le_refl _) _
    have hrd : RdS (w.alloc (.cells #[.string (leafS s)] 9)) (some ⟨w.heap.size, 0, none⟩) [leafS s] := .inr ⟨_, _, rfl, by simp, fun j x hj => cells_new w [leafS s] 9 j x hj⟩
    have hls := leafS_cat s
    have hlz := leafS_size s
    obtain ⟨T, hT⟩ : ∃ T, leafS s = T := ⟨_, rfl⟩
    rw [hT] at hb0 hrd hls hlz
    have HH := Lib.hid (leaf_any s (w.alloc (.cells #[.string T] 9)) (by omega) (ht.below hb0))
    have HV : Hid (valR [] 1 i s = (leafB s, true)) := rfl
    have HW : Hid (wayR [] 1 i s = [T]) := by show _ = _; rw [← hT]; rfl
    have HRD := Lib.hid hrd
    have HB0 := Lib.hid hb0
    rw [List.reverse_nil]
    clear hz hr ht hm hN hok hrd hb0 hT
    go_enter Tryd.func22, Tryd.ntmps22
    go_wp2_with fail
    refine HH.out.mono ?_
    rintro e w2 ⟨rfl, hb2⟩
    have HB2 := Lib.hid (HB0.out.trans (hb2.mono HB0.out.size))
    have HR2 := Lib.hid (HRD.out.kept hb2)
    clear hb2
    go_wp2_with fail
    go_ret2
    exact ⟨_, _, by rw [HV.out, HW.out]; rfl, by rw [HW.out]; exact HR2.out, HB2.out⟩
  | succ N ih =>
    intro p oa m n i cap s w hN hm hmc hmm hcc hn hi hs hz hok hr ht
    obtain ⟨b, o, rfl, hrb⟩ := hr.some (by omega)
    obtain ⟨q, x, rfl⟩ : ∃ q x, p = q ++ [x] := ⟨p.dropLast, p.getLast (by intro e; rw [e] at hN; simp at hN), (List.dropLast_concat_getLast _).symm⟩
    have hq : q.length = N := by simpa using hN
    have hmN : m = N + 1 := by omega
    have hrev : (q ++ [x]).reverse = x :: q.reverse := by simp
    rw [hrev] at hok ⊢
    have h1 : ¬ n = 1 := fun e => by
      unfold valR at hok
      rw [if_pos e] at hok
      cases hok
    have h2 : 2 ≤ n := by omega
    have hk1 := splitN_lt n h2
    have hk2 := splitN_pos n
    have hxs : x.size ≤ 32 := hz x (by simp)
    have cx := hrb.cell N x (by rw [List.getElem?_append_right (by omega), hq, Nat.sub_self]; rfl)
    have hqz : SzB 32 q := fun y hy => hz y (by simp [hy])
    have hrq : RdB w b o q := ⟨hrb.lt, fun j y hj => hrb.cell j y (by rw [List.getElem?_append_left (List.getElem?_eq_some_iff.1 hj).1]; exact hj)⟩
    have HSP := Lib.hid (fun W => left_any n W h2 hn)
    have hv : valR (x :: q.reverse) n i s = if i < splitN n then (nodeB (valR q.reverse (splitN n) i s).1 x, (valR q.reverse (splitN n) i s).2) else (nodeB x (valR q.reverse (n - splitN n) (i - splitN n) s).1, (valR q.reverse (n - splitN n) (i - splitN n) s).2) := by
      conv => lhs; unfold valR
      rw [if_neg h1]
    have hwy : wayR (x :: q.reverse) n i s = if i < splitN n then nodeS (valR q.reverse (splitN n) i s).1 x :: wayR q.reverse (splitN n) i s else nodeS x (valR q.reverse (n - splitN n) (i - splitN n) s).1 :: wayR q.reverse (n - splitN n) (i - splitN n) s := by
      conv => lhs; unfold wayR
    obtain ⟨k, hk⟩ : ∃ k, splitN n = k := ⟨_, rfl⟩
    rw [hk] at hk1 hk2 HSP hv hwy
    have n1 : ¬ (n : Int) ≤ 1 := by omega
    have m0 : ((m : Int) == 0) = false := by rw [beq_eq_false_iff_ne]; omega
    have g1 : (m : Int) - 1 = (N : Int) := by omega
    have g2 : (0 : Int) ≤ (N : Int) := by omega
    have g3 : (N : Int) < (m : Int) := by omega
    have g4 : (N : Int) ≤ (cap : Int) := by omega
    have HT := Lib.hid ht
    have HRQ := Lib.hid hrq
    have HB0 := Lib.hid (Below.refl w.heap.size w)
    by_cases hik : i < k
    · have q1 : (i : Int) < (k : Int) := by omega
      rw [if_pos hik] at hv hwy
      rw [hv] at hok
      have IH := Lib.hid (ih q (some ⟨b, o, none⟩) N k i cap s w hq hq (by omega) (by omega) hcc (by omega) (by omega) hs hqz hok hrq.rds ht)
      have hvs := valR_size q.reverse k i s
      obtain ⟨V, hV⟩ : ∃ V, valR q.reverse k i s = V := ⟨_, rfl⟩
      obtain ⟨Y, hY⟩ : ∃ Y, wayR q.reverse k i s = Y := ⟨_, rfl⟩
      have hyl : Y.length ≤ 1000000 := by rw [← hY, wayR_len, List.length_reverse]; omega
      rw [hV] at IH hv hwy hvs
      rw [hY] at IH hwy
      obtain ⟨v, ok⟩ := V
      dsimp only at IH hv hwy hvs
      have HV := Lib.hid hv
      have HW := Lib.hid hwy
      have hcat := nodeS_cat v x
      have hcz := nodeS_size v x
      obtain ⟨T, hT⟩ : ∃ T, nodeS v x = T := ⟨_, rfl⟩
      rw [hT] at HW hcat hcz
      clear hz hr ht hm hN hrb ih hrev hq hmN hqz hrq h1 h2 hk hV hY hv hwy hT hok
      go_enter Tryd.func22, Tryd.ntmps22
      go_wp2_with fail
      refine (HSP.out _).mono ?_
      rintro e w2 ⟨rfl, rfl⟩
      go_wp2_with fail
      refine IH.out.mono ?_
      rintro e w2 ⟨ob, cb, rfl, hrd, hb2⟩
      obtain ⟨oc, cc, w3, hrun, hown, hfr⟩ := app_list (w2.alloc (.cells #[.string T] 9)) w2.heap.size (.slice (some ⟨w2.heap.size, 0, none⟩) 1 1) [T] Y ob cb (own_new w2 [T] (by simp)) (hrd.kept ((Below.refl _ w2).alloc (Nat.le_refl _) _)) (fun _ _ => trivial) (by simp) hyl 22
      have HB3 := Lib.hid (hb2.trans ((((Below.refl _ w2).alloc (Nat.le_refl _) (.cells #[.string T] 9)).trans (hfr.below w2.heap.size (by simp) (fun k hk => hk))).mono hb2.size))
      have HR3 := Lib.hid (own_rds hown.1).2.2.2
      have e1 : ([T] ++ Y).length = Y.length + 1 := by simp
      rw [e1] at hrun
      clear hrd hb2 hown hfr IH e1
      go_wp2_with (at_builtin; refine wpList_append_run _ rfl _ _ 22 rfl _ _ _ _ rfl rfl hrun ?_)
      clear hrun
      refine (node_any v x w3 (by omega) (by omega) (HT.out.below HB3.out)).mono ?_
      rintro e w4 ⟨rfl, hb4⟩
      have HB4 := Lib.hid (HB3.out.trans (hb4.mono HB3.out.size))
      have HR4 := Lib.hid (HR3.out.kept hb4)
      clear hb4
      go_wp2_with fail
      go_ret2
      exact ⟨_, _, by rw [HV.out, HW.out]; rfl, by rw [HW.out]; exact HR4.out, HB4.out⟩
    · have q1 : (k : Int) ≤ (i : Int) := by omega
      have q2 : ¬ (i : Int) < (k : Int) := by omega
      have q3 : (k : Int) ≤ (n : Int) := by omega
      rw [if_neg hik] at hv hwy
      rw [hv] at hok
      have IH := Lib.hid (ih q (some ⟨b, o, none⟩) N (n - k) (i - k) cap s w hq hq (by omega) (by omega) hcc (by omega) (by omega) hs hqz hok hrq.rds ht)
      rw [show ((n - k : Nat) : Int) = (n : Int) - (k : Int) by omega, show ((i - k : Nat) : Int) = (i : Int) - (k : Int) by omega] at IH
      have hvs := valR_size q.reverse (n - k) (i - k) s
      obtain ⟨V, hV⟩ : ∃ V, valR q.reverse (n - k) (i - k) s = V := ⟨_, rfl⟩
      obtain ⟨Y, hY⟩ : ∃ Y, wayR q.reverse (n - k) (i - k) s = Y := ⟨_, rfl⟩
      have hyl : Y.length ≤ 1000000 := by rw [← hY, wayR_len, List.length_reverse]; omega
      rw [hV] at IH hv hwy hvs
      rw [hY] at IH hwy
      obtain ⟨v, ok⟩ := V
      dsimp only at IH hv hwy hvs
      have HV := Lib.hid hv
      have HW := Lib.hid hwy
      have hcat := nodeS_cat x v
      have hcz := nodeS_size x v
      obtain ⟨T, hT⟩ : ∃ T, nodeS x v = T := ⟨_, rfl⟩
      rw [hT] at HW hcat hcz
      clear hz hr ht hm hN hrb ih hrev hq hmN hqz hrq h1 h2 hk hV hY hv hwy hT hok
      go_enter Tryd.func22, Tryd.ntmps22
      go_wp2_with fail
      refine (HSP.out _).mono ?_
      rintro e w2 ⟨rfl, rfl⟩
      go_wp2_with fail
      refine IH.out.mono ?_
      rintro e w2 ⟨ob, cb, rfl, hrd, hb2⟩
      obtain ⟨oc, cc, w3, hrun, hown, hfr⟩ := app_list (w2.alloc (.cells #[.string T] 9)) w2.heap.size (.slice (some ⟨w2.heap.size, 0, none⟩) 1 1) [T] Y ob cb (own_new w2 [T] (by simp)) (hrd.kept ((Below.refl _ w2).alloc (Nat.le_refl _) _)) (fun _ _ => trivial) (by simp) hyl 22
      have HB3 := Lib.hid (hb2.trans ((((Below.refl _ w2).alloc (Nat.le_refl _) (.cells #[.string T] 9)).trans (hfr.below w2.heap.size (by simp) (fun k hk => hk))).mono hb2.size))
      have HR3 := Lib.hid (own_rds hown.1).2.2.2
      have e1 : ([T] ++ Y).length = Y.length + 1 := by simp
      rw [e1] at hrun
      clear hrd hb2 hown hfr IH e1
      go_wp2_with (at_builtin; refine wpList_append_run _ rfl _ _ 22 rfl _ _ _ _ rfl rfl hrun ?_)
      clear hrun
      refine (node_any x v w3 (by omega) (by omega) (HT.out.below HB3.out)).mono ?_
      rintro e w4 ⟨rfl, hb4⟩
      have HB4 := Lib.hid (HB3.out.trans (hb4.mono HB3.out.size))
      have HR4 := Lib.hid (HR3.out.kept hb4)
      clear hb4
      go_wp2_with fail
      go_ret2
      exact ⟨_, _, by rw [HV.out, HW.out]; rfl, by rw [HW.out]; exact HR4.out, HB4.out⟩
end Go.Proofs.YtggnldljfjhhcaaDoor
