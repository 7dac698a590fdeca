/-
  The walk of sides; the plain law of two extensions to one root.
-/
import Derived.WalkKit
import Derived.LoopTactic
import Derived.WalkSpells
import Derived.WalkLawsBesides
import Derived.IntWalk
import Derived.Outline
import Derived.Deep.QuietTactic
import Derived.BigQuiet
import Derived.Deep.RegionLaw
import Derived.Deep.RegionHeld3
import Derived.Deep.DrawnRows
import Derived.Deep.AppendLies
import Derived.Laws.EntriesVeiled
import Derived.Lib.Hide
import Derived.Laws.OwnMore
import Derived.Test.YtggnldljfjhhcaaDoorDigSha
import Derived.Test.YtggnldljfjhhcaaDoorDigH
import Derived.Test.YtggnldljfjhhcaaDoorDigJ
import Derived.Test.YtggnldljfjhhcaaDoorDigM
import Derived.Test.YtggnldljfjhhcaaDoorDigN
import Derived.Test.YtggnldljfjhhcaaDoorDigO
import Derived.Test.YtggnldljfjhhcaaDoorDigP
import Derived.Test.YtggnldljfjhhcaaDoorDigQ
import Derived.Test.YtggnldljfjhhcaaDoorDigR
import Derived.Test.YtggnldljfjhhcaaDoorDigLawB
set_option linter.unusedVariables false
set_option linter.unusedSimpArgs false
namespace Go.Proofs.YtggnldljfjhhcaaDoor
open Go.RowKit Onair
attribute [local go_sem ↓] Go.wp_at_zero Go.wp_at_succ
/-- The strings of which the digest is computed for the new root of an extension that was accepted. -/
def sidesR : List ByteArray → ByteArray → Nat → Nat → Bool → List ByteArray
  | [], _, _, _, _ => []
  | x :: q, old, m, n, wh => if m = n then [] else if m ≤ splitN n then nodeS (valsR q old m (splitN n) wh).2.1 x :: sidesR q old m (splitN n) wh else nodeS x (valsR q old (m - splitN n) (n - splitN n) false).2.1 :: sidesR q old (m - splitN n) (n - splitN n) false
theorem sidesR_len : ∀ (q : List ByteArray) (old : ByteArray) (m n : Nat) (wh : Bool), (sidesR q old m n wh).length ≤ q.length
  | [], _, _, _, _ => Nat.le_refl _
  | x :: q, old, m, n, wh => by
    unfold sidesR
    split
    · exact Nat.zero_le _
    · split
      · have := sidesR_len q old m (splitN n) wh
        simp only [List.length_cons]
        omega
      · have := sidesR_len q old (m - splitN n) (n - splitN n) false
        simp only [List.length_cons]
        omega
theorem sidesR_sz : ∀ (q : List ByteArray) (old : ByteArray) (m n : Nat) (wh : Bool), old.size ≤ 32 → SzB 32 q → SzB 1000000 (sidesR q old m n wh)
  | [], old, m, n, wh, ho, hq => fun x hx => by rw [sidesR] at hx; cases hx
  | y :: q, old, m, n, wh, ho, hq => fun x hx => by
    have hy : y.size ≤ 32 := hq y (by simp)
    have hq' : SzB 32 q := fun z hz => hq z (by simp [hz])
    unfold sidesR at hx
    split at hx
    · cases hx
    · split at hx
      · rcases List.mem_cons.1 hx with h | h
        · subst h
          have := (valsR_size q old m (splitN n) wh ho hq').2
          rw [nodeS_size]
          omega
        · exact sidesR_sz q _ _ _ _ ho hq' x h
      · rcases List.mem_cons.1 hx with h | h
        · subst h
          have := (valsR_size q old (m - splitN n) (n - splitN n) false ho hq').2
          rw [nodeS_size]
          omega
        · exact sidesR_sz q _ _ _ _ ho hq' x h
theorem valsR_32 : ∀ (q : List ByteArray) (old : ByteArray) (m n : Nat) (wh : Bool), old.size = 32 → digB q = true → (valsR q old m n wh).2.2 = true → (valsR q old m n wh).2.1.size = 32
  | [], old, m, n, wh, ho, hq, h => by
    unfold valsR at h ⊢
    split at h
    · rw [if_pos (by assumption)]
      cases wh
      · cases h
      · exact ho
    · cases h
  | x :: q, old, m, n, wh, ho, hq, h => by
    have hx : x.size = 32 ∧ digB q = true := by simpa [digB] using hq
    unfold valsR at h ⊢
    split at h
    · rename_i e
      rw [if_pos e]
      cases wh
      · rw [if_neg (by decide)] at h ⊢
        split at h
        · rename_i e2
          rw [if_pos e2]
          exact hx.1
        · cases h
      · cases h
    · rename_i e
      rw [if_neg e]
      split <;> exact nodeB_size _ _
theorem side_coll : ∀ (p q : List ByteArray) (a b : ByteArray) (m n : Nat) (wh : Bool) (a1 b1 R : ByteArray), a.size = 32 → b.size = 32 → digB p = true → digB q = true → valsR p a m n wh = (a1, R, true) → valsR q b m n wh = (b1, R, true) → a1 ≠ b1 → collB (sidesR p a m n wh) (sidesR q b m n wh) = true
  | [], q, a, b, m, n, wh, a1, b1, R, ha, hb, _, _, h1, h2, hab => by
    unfold valsR at h1
    by_cases hn : m = n
    · rw [if_pos hn] at h1
      cases wh with
      | false => cases h1
      | true =>
        rw [if_pos rfl] at h1
        have e1 := congrArg Prod.fst h1
        have e2 := congrArg (fun x => x.2.1) h1
        dsimp only at e1 e2
        have e3 : b1 = R := by
          cases q with
          | nil =>
            unfold valsR at h2
            rw [if_pos hn, if_pos rfl] at h2
            have f1 := congrArg Prod.fst h2
            have f2 := congrArg (fun x => x.2.1) h2
            dsimp only at f1 f2
            rw [← f1, ← f2]
          | cons y q =>
            unfold valsR at h2
            rw [if_pos hn, if_pos rfl] at h2
            have f1 := congrArg Prod.fst h2
            have f2 := congrArg (fun x => x.2.1) h2
            dsimp only at f1 f2
            rw [← f1, ← f2]
        exact absurd (e1.symm.trans (e2.trans e3.symm)) hab
    · rw [if_neg hn] at h1
      cases h1
  | x :: p, q, a, b, m, n, wh, a1, b1, R, ha, hb, hp, hq, h1, h2, hab => by
    have hp' : x.size = 32 ∧ digB p = true := by simpa [digB] using hp
    by_cases hn : m = n
    · exfalso
      refine hab ?_
      have e1 : a1 = R := by
        unfold valsR at h1
        rw [if_pos hn] at h1
        cases wh with
        | true =>
          rw [if_pos rfl] at h1
          have f1 := congrArg (fun x => x.2.2) h1
          cases f1
        | false =>
          rw [if_neg (by decide)] at h1
          split at h1
          · have f1 := congrArg Prod.fst h1
            have f2 := congrArg (fun x => x.2.1) h1
            dsimp only at f1 f2
            rw [← f1, ← f2]
          · have f1 := congrArg (fun x => x.2.2) h1
            cases f1
      have e2 : b1 = R := by
        cases q with
        | nil =>
          unfold valsR at h2
          rw [if_pos hn] at h2
          cases wh with
          | true =>
            rw [if_pos rfl] at h2
            have f1 := congrArg Prod.fst h2
            have f2 := congrArg (fun x => x.2.1) h2
            dsimp only at f1 f2
            rw [← f1, ← f2]
          | false =>
            have f1 := congrArg (fun x => x.2.2) h2
            cases f1
        | cons y q =>
          unfold valsR at h2
          rw [if_pos hn] at h2
          cases wh with
          | true =>
            rw [if_pos rfl] at h2
            have f1 := congrArg (fun x => x.2.2) h2
            cases f1
          | false =>
            rw [if_neg (by decide)] at h2
            split at h2
            · have f1 := congrArg Prod.fst h2
              have f2 := congrArg (fun x => x.2.1) h2
              dsimp only at f1 f2
              rw [← f1, ← f2]
            · have f1 := congrArg (fun x => x.2.2) h2
              cases f1
      rw [e1, e2]
    · cases q with
      | nil =>
        unfold valsR at h2
        rw [if_neg hn] at h2
        have f1 := congrArg (fun x => x.2.2) h2
        cases f1
      | cons y q =>
        have hq' : y.size = 32 ∧ digB q = true := by simpa [digB] using hq
        unfold valsR at h1 h2
        rw [if_neg hn] at h1 h2
        unfold sidesR
        rw [if_neg hn, if_neg hn]
        by_cases hi : m ≤ splitN n
        · rw [if_pos hi] at h1 h2
          have x1 := congrArg Prod.fst h1
          have x2 := congrArg (fun x => x.2.1) h1
          have x3 := congrArg (fun x => x.2.2) h1
          have y1 := congrArg Prod.fst h2
          have y2 := congrArg (fun x => x.2.1) h2
          have y3 := congrArg (fun x => x.2.2) h2
          dsimp only at x1 x2 x3 y1 y2 y3
          rw [if_pos hi, if_pos hi]
          by_cases he : nodeS (valsR p a m (splitN n) wh).2.1 x = nodeS (valsR q b m (splitN n) wh).2.1 y
          · have hin := nodeS_inj he ((valsR_32 _ _ _ _ _ ha hp'.2 x3).trans (valsR_32 _ _ _ _ _ hb hq'.2 y3).symm)
            exact collB_tail (side_coll p q a b m (splitN n) wh a1 b1 (valsR p a m (splitN n) wh).2.1 ha hb hp'.2 hq'.2 (Prod.ext x1 (Prod.ext rfl x3)) (Prod.ext y1 (Prod.ext hin.1.symm y3)) hab)
          · exact collB_hit he (x2.trans y2.symm)
        · rw [if_neg hi] at h1 h2
          have x1 := congrArg Prod.fst h1
          have x2 := congrArg (fun x => x.2.1) h1
          have x3 := congrArg (fun x => x.2.2) h1
          have y1 := congrArg Prod.fst h2
          have y2 := congrArg (fun x => x.2.1) h2
          have y3 := congrArg (fun x => x.2.2) h2
          dsimp only at x1 x2 x3 y1 y2 y3
          rw [if_neg hi, if_neg hi]
          by_cases he : nodeS x (valsR p a (m - splitN n) (n - splitN n) false).2.1 = nodeS y (valsR q b (m - splitN n) (n - splitN n) false).2.1
          · have hin := nodeS_inj he (hp'.1.trans hq'.1.symm)
            exact collB_tail (side_coll p q a b (m - splitN n) (n - splitN n) false _ _ (valsR p a (m - splitN n) (n - splitN n) false).2.1 ha hb hp'.2 hq'.2 (Prod.ext rfl (Prod.ext rfl x3)) (Prod.ext rfl (Prod.ext hin.2.symm y3)) (fun e => hab (by rw [← x1, ← y1, hin.1]; exact congrArg (nodeB y) e)))
          · exact collB_hit he (x2.trans y2.symm)
set_option maxHeartbeats 4000000 in
set_option maxRecDepth 100000 in
theorem sides_any : ∀ (N : Nat) (p : List ByteArray) (oa : Option Addr) (z n m cap : Nat) (old : ByteArray) (wh : Bool) (w : World), p.length = N → p.length = z → z ≤ cap → z ≤ 10000 → cap ≤ 9223372036854775807 → n ≤ 9223372036854775807 → 1 ≤ m → m ≤ n → old.size ≤ 32 → SzB 32 p → (valsR p.reverse old m n wh).2.2 = true → RdS w oa p → TabAt w →
    Calls Tryd.prog 24 #[.string old, .int .i64 (m : Int), .int .i64 (n : Int), .slice oa z cap, .bool wh] w fun e w' => ∃ ob cb, e = .returned (.tuple #[.slice ob (sidesR p.reverse old m n wh).length cb, .string (valsR p.reverse old m n wh).2.1]) ∧ RdS w' ob (sidesR p.reverse old m n wh) ∧ Below w.heap.size w w' := by
  intro N
  induction N with
  | zero =>
    intro p oa z n m cap old wh w hN hm hmc hmm hcc hn hm1 hmn ho hz hok hr ht
    obtain rfl : p = [] := List.eq_nil_of_length_eq_zero hN
    obtain rfl : z = 0 := by simpa using hm.symm
    rw [List.reverse_nil] at hok ⊢
    have hv : m = n ∧ wh = true := by
      unfold valsR at hok
      split at hok
      · rename_i e
        cases wh
        · cases hok
        · exact ⟨e, rfl⟩
      · cases hok
    obtain ⟨rfl, rfl⟩ := hv
    have HV : Hid ((valsR [] old m m true).2.1 = old) := by show _ = _; unfold valsR; rw [if_pos rfl, if_pos rfl]
    have HW : Hid (sidesR [] old m m true = []) := rfl
    clear hz hr ht hm hN hok
    go_enter Tryd.func24, Tryd.ntmps24
    go_wp2_with fail
    go_ret2
    exact ⟨none, 0, by rw [HV.out, HW.out]; rfl, .inl HW.out, Below.refl _ _⟩
  | succ N ih =>
    intro p oa z n m cap old wh w hN hm hmc hmm hcc hn hm1 hmn ho hz hok hr ht
    obtain ⟨b, o, rfl, hrb⟩ := hr.some (by omega)
    obtain ⟨q, x, rfl⟩ : ∃ q x, p = q ++ [x] := ⟨p.dropLast, p.getLast (by intro e; rw [e] at hN; simp at hN), (List.dropLast_concat_getLast _).symm⟩
    have hq : q.length = N := by simpa using hN
    have hmN : z = N + 1 := by omega
    have hrev : (q ++ [x]).reverse = x :: q.reverse := by simp
    rw [hrev] at hok ⊢
    have m0 : ((z : Int) == 0) = false := by rw [beq_eq_false_iff_ne]; omega
    by_cases h1 : m = n
    · obtain rfl := h1
      have hwq : wh = false ∧ q.reverse = [] := by
        unfold valsR at hok
        rw [if_pos rfl] at hok
        cases wh with
        | true => cases hok
        | false =>
          rw [if_neg (by decide)] at hok
          split at hok
          · exact ⟨rfl, by assumption⟩
          · cases hok
      obtain ⟨rfl, hq0⟩ := hwq
      obtain rfl : q = [] := by simpa using hq0
      have HV : Hid ((valsR (x :: [].reverse) old m m false).2.1 = x) := by show _ = _; rw [List.reverse_nil]; unfold valsR; rw [if_pos rfl, if_neg (by decide), if_pos rfl]
      have HW : Hid (sidesR (x :: [].reverse) old m m false = []) := by show _ = _; unfold sidesR; rw [if_pos rfl]
      have cx := hrb.cell 0 x (by simp)
      rw [Nat.add_zero] at cx
      have z1 : (0 : Int) < (z : Int) := by omega
      have HB0 := Lib.hid (Below.refl w.heap.size w)
      clear hz hr ht hm hN hrb ih hrev hq hmN hok hq0
      go_enter Tryd.func24, Tryd.ntmps24
      go_wp2_with fail
      go_quiet (fail)
      have HB1 : Hid (Below w.heap.size w (w.drewN nq)) := drewN_below HB0.out nq
      go_wp2_with fail
      go_ret2
      exact ⟨none, 0, by rw [HV.out, HW.out]; rfl, .inl HW.out, HB1.out⟩
    · have h2 : 2 ≤ n := by omega
      have hk1 := splitN_lt n h2
      have hk2 := splitN_pos n
      have hxs : x.size ≤ 32 := hz x (by simp)
      have cx := hrb.cell N x (by rw [List.getElem?_append_right (by omega), hq, Nat.sub_self]; rfl)
      have hqz : SzB 32 q := fun y hy => hz y (by simp [hy])
      have hqr : SzB 32 q.reverse := fun y hy => hz y (by simp at hy; simp [hy])
      have hrq : RdB w b o q := ⟨hrb.lt, fun j y hj => hrb.cell j y (by rw [List.getElem?_append_left (List.getElem?_eq_some_iff.1 hj).1]; exact hj)⟩
      have HSP := Lib.hid (fun W => left_any n W h2 hn)
      have hv : valsR (x :: q.reverse) old m n wh = if m ≤ splitN n then ((valsR q.reverse old m (splitN n) wh).1, nodeB (valsR q.reverse old m (splitN n) wh).2.1 x, (valsR q.reverse old m (splitN n) wh).2.2)
          else (nodeB x (valsR q.reverse old (m - splitN n) (n - splitN n) false).1, nodeB x (valsR q.reverse old (m - splitN n) (n - splitN n) false).2.1, (valsR q.reverse old (m - splitN n) (n - splitN n) false).2.2) := by
        conv => lhs; unfold valsR
        rw [if_neg h1]
      have hwy : sidesR (x :: q.reverse) old m n wh = if m ≤ splitN n then nodeS (valsR q.reverse old m (splitN n) wh).2.1 x :: sidesR q.reverse old m (splitN n) wh else nodeS x (valsR q.reverse old (m - splitN n) (n - splitN n) false).2.1 :: sidesR q.reverse old (m - splitN n) (n - splitN n) false := by
        conv => lhs; unfold sidesR
        rw [if_neg h1]
      obtain ⟨k, hk⟩ : ∃ k, splitN n = k := ⟨_, rfl⟩
      rw [hk] at hk1 hk2 HSP hv hwy
      have n1 : ¬ (n : Int) ≤ (m : Int) := by omega
      have g1 : (z : Int) - 1 = (N : Int) := by omega
      have g2 : (0 : Int) ≤ (N : Int) := by omega
      have g3 : (N : Int) < (z : Int) := by omega
      have g4 : (N : Int) ≤ (cap : Int) := by omega
      have HT := Lib.hid ht
      by_cases hik : m ≤ k
      · have q1 : (m : Int) ≤ (k : Int) := by omega
        rw [if_pos hik] at hv hwy
        rw [hv] at hok
        have IH := Lib.hid (ih q (some ⟨b, o, none⟩) N k m cap old wh w hq hq (by omega) (by omega) hcc (by omega) (by omega) (by omega) ho hqz hok hrq.rds ht)
        have hvs := (valsR_size q.reverse old m k wh ho hqr).2
        have hyl := sidesR_len q.reverse old m k wh
        rw [List.length_reverse] at hyl
        obtain ⟨V, hV⟩ : ∃ V, valsR q.reverse old m k wh = V := ⟨_, rfl⟩
        obtain ⟨Y, hY⟩ : ∃ Y, sidesR q.reverse old m k wh = Y := ⟨_, rfl⟩
        rw [hV] at IH hv hwy hvs
        rw [hY] at IH hwy hyl
        obtain ⟨v1, v, ok⟩ := V
        dsimp only at IH hv hwy hvs
        have HV := Lib.hid hv
        have HW := Lib.hid hwy
        have hcat := nodeS_cat v x
        have hcz := nodeS_size v x
        obtain ⟨T, hT⟩ : ∃ T, nodeS v x = T := ⟨_, rfl⟩
        rw [hT] at HW hcat hcz
        have hyl2 : Y.length ≤ 1000000 := by omega
        clear hz hr ht hm hN hrb ih hrev hq hmN hqz hqr hrq h1 h2 hk hV hY hv hwy hT hok hyl
        go_enter Tryd.func24, Tryd.ntmps24
        go_wp2_with fail
        refine (HSP.out _).mono ?_
        rintro e w2 ⟨rfl, rfl⟩
        go_wp2_with fail
        refine IH.out.mono ?_
        rintro e w2 ⟨ob, cb, rfl, hrd, hb2⟩
        obtain ⟨oc, cc, w3, hrun, hown, hfr⟩ := app_list (w2.alloc (.cells #[.string T] 9)) w2.heap.size (.slice (some ⟨w2.heap.size, 0, none⟩) 1 1) [T] Y ob cb (own_new w2 [T] (by simp)) (hrd.kept ((Below.refl _ w2).alloc (Nat.le_refl _) _)) (fun _ _ => trivial) (by simp) hyl2 22
        have HB3 := Lib.hid (hb2.trans ((((Below.refl _ w2).alloc (Nat.le_refl _) (.cells #[.string T] 9)).trans (hfr.below w2.heap.size (by simp) (fun k hk => hk))).mono hb2.size))
        have HR3 := Lib.hid (own_rds hown.1).2.2.2
        have e1 : ([T] ++ Y).length = Y.length + 1 := by simp
        rw [e1] at hrun
        clear hrd hb2 hown hfr IH e1
        go_wp2_with (at_builtin; refine wpList_append_run _ rfl _ _ 22 rfl _ _ _ _ rfl rfl hrun ?_)
        clear hrun
        refine (node_any v x w3 (by omega) (by omega) (HT.out.below HB3.out)).mono ?_
        rintro e w4 ⟨rfl, hb4⟩
        have HB4 := Lib.hid (HB3.out.trans (hb4.mono HB3.out.size))
        have HR4 := Lib.hid (HR3.out.kept hb4)
        clear hb4
        go_wp2_with fail
        go_ret2
        exact ⟨_, _, by rw [HV.out, HW.out]; rfl, by rw [HW.out]; exact HR4.out, HB4.out⟩
      · have q1 : (k : Int) < (m : Int) := by omega
        have q2 : ¬ (m : Int) ≤ (k : Int) := by omega
        have q3 : (k : Int) ≤ (n : Int) := by omega
        rw [if_neg hik] at hv hwy
        rw [hv] at hok
        have IH := Lib.hid (ih q (some ⟨b, o, none⟩) N (n - k) (m - k) cap old false w hq hq (by omega) (by omega) hcc (by omega) (by omega) (by omega) ho hqz hok hrq.rds ht)
        rw [show ((n - k : Nat) : Int) = (n : Int) - (k : Int) by omega, show ((m - k : Nat) : Int) = (m : Int) - (k : Int) by omega] at IH
        have hvs := (valsR_size q.reverse old (m - k) (n - k) false ho hqr).2
        have hyl := sidesR_len q.reverse old (m - k) (n - k) false
        rw [List.length_reverse] at hyl
        obtain ⟨V, hV⟩ : ∃ V, valsR q.reverse old (m - k) (n - k) false = V := ⟨_, rfl⟩
        obtain ⟨Y, hY⟩ : ∃ Y, sidesR q.reverse old (m - k) (n - k) false = Y := ⟨_, rfl⟩
        rw [hV] at IH hv hwy hvs
        rw [hY] at IH hwy hyl
        obtain ⟨v1, v, ok⟩ := V
        dsimp only at IH hv hwy hvs
        have HV := Lib.hid hv
        have HW := Lib.hid hwy
        have hcat := nodeS_cat x v
        have hcz := nodeS_size x v
        obtain ⟨T, hT⟩ : ∃ T, nodeS x v = T := ⟨_, rfl⟩
        rw [hT] at HW hcat hcz
        have hyl2 : Y.length ≤ 1000000 := by omega
        clear hz hr ht hm hN hrb ih hrev hq hmN hqz hqr hrq h1 h2 hk hV hY hv hwy hT hok hyl
        go_enter Tryd.func24, Tryd.ntmps24
        go_wp2_with fail
        refine (HSP.out _).mono ?_
        rintro e w2 ⟨rfl, rfl⟩
        go_wp2_with fail
        refine IH.out.mono ?_
        rintro e w2 ⟨ob, cb, rfl, hrd, hb2⟩
        obtain ⟨oc, cc, w3, hrun, hown, hfr⟩ := app_list (w2.alloc (.cells #[.string T] 9)) w2.heap.size (.slice (some ⟨w2.heap.size, 0, none⟩) 1 1) [T] Y ob cb (own_new w2 [T] (by simp)) (hrd.kept ((Below.refl _ w2).alloc (Nat.le_refl _) _)) (fun _ _ => trivial) (by simp) hyl2 22
        have HB3 := Lib.hid (hb2.trans ((((Below.refl _ w2).alloc (Nat.le_refl _) (.cells #[.string T] 9)).trans (hfr.below w2.heap.size (by simp) (fun k hk => hk))).mono hb2.size))
        have HR3 := Lib.hid (own_rds hown.1).2.2.2
        have e1 : ([T] ++ Y).length = Y.length + 1 := by simp
        rw [e1] at hrun
        clear hrd hb2 hown hfr IH e1
        go_wp2_with (at_builtin; refine wpList_append_run _ rfl _ _ 22 rfl _ _ _ _ rfl rfl hrun ?_)
        clear hrun
        refine (node_any x v w3 (by omega) (by omega) (HT.out.below HB3.out)).mono ?_
        rintro e w4 ⟨rfl, hb4⟩
        have HB4 := Lib.hid (HB3.out.trans (hb4.mono HB3.out.size))
        have HR4 := Lib.hid (HR3.out.kept hb4)
        clear hb4
        go_wp2_with fail
        go_ret2
        exact ⟨_, _, by rw [HV.out, HW.out]; rfl, by rw [HW.out]; exact HR4.out, HB4.out⟩
end Go.Proofs.YtggnldljfjhhcaaDoor
