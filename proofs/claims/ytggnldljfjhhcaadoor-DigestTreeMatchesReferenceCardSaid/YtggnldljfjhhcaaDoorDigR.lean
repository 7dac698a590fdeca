/-
  Plain laws of two proofs of one root; the walk of collide.
-/
import Derived.WalkKit
import Derived.LoopTactic
import Derived.WalkSpells
import Derived.WalkLawsBesides
import Derived.IntWalk
import Derived.Outline
import Derived.Deep.QuietTactic
import Derived.BigQuiet
import Derived.Deep.RegionLaw
import Derived.Deep.RegionHeld3
import Derived.Deep.DrawnRows
import Derived.Deep.AppendLies
import Derived.Laws.EntriesVeiled
import Derived.Lib.Hide
import Derived.Laws.OwnMore
import Derived.Test.YtggnldljfjhhcaaDoorDigSha
import Derived.Test.YtggnldljfjhhcaaDoorDigH
import Derived.Test.YtggnldljfjhhcaaDoorDigJ
import Derived.Test.YtggnldljfjhhcaaDoorDigM
import Derived.Test.YtggnldljfjhhcaaDoorDigN
import Derived.Test.YtggnldljfjhhcaaDoorDigO
import Derived.Test.YtggnldljfjhhcaaDoorDigP
import Derived.Test.YtggnldljfjhhcaaDoorDigQ
set_option linter.unusedVariables false
set_option linter.unusedSimpArgs false
namespace Go.Proofs.YtggnldljfjhhcaaDoor
open Go.RowKit Onair
attribute [local go_sem ↓] Go.wp_at_zero Go.wp_at_succ
def collB : List ByteArray → List ByteArray → Bool
  | x :: a, y :: b => (decide (x ≠ y) && decide (shaB x = shaB y)) || collB a b
  | _, _ => false
theorem collB_nil (b : List ByteArray) : collB [] b = false := by cases b <;> rfl
theorem collB_nil' (a : List ByteArray) : collB a [] = false := by cases a <;> rfl
theorem collB_hit {x y : ByteArray} {a b : List ByteArray} (h : x ≠ y) (hs : shaB x = shaB y) : collB (x :: a) (y :: b) = true := by
  unfold collB
  rw [decide_eq_true h, decide_eq_true hs]
  rfl
theorem collB_tail {x y : ByteArray} {a b : List ByteArray} (h : collB a b = true) : collB (x :: a) (y :: b) = true := by
  unfold collB
  rw [h, Bool.or_true]
theorem collB_same (x : ByteArray) (a b : List ByteArray) : collB (x :: a) (x :: b) = collB a b := by
  show ((decide (x ≠ x) && decide (shaB x = shaB x)) || collB a b) = _
  rw [decide_eq_false (fun n => n rfl), Bool.false_and, Bool.false_or]
theorem collB_miss {x y : ByteArray} (a b : List ByteArray) (h : shaB x ≠ shaB y) : collB (x :: a) (y :: b) = collB a b := by
  show ((decide (x ≠ y) && decide (shaB x = shaB y)) || collB a b) = _
  rw [decide_eq_false h, Bool.and_false, Bool.false_or]
theorem valR_32 : ∀ (q : List ByteArray) (n i : Nat) (s : ByteArray), (valR q n i s).2 = true → (valR q n i s).1.size = 32
  | [], n, i, s, h => by
    unfold valR at h ⊢
    split at h
    · rw [if_pos (by assumption)]; exact leafB_size _
    · cases h
  | x :: q, n, i, s, h => by
    unfold valR at h ⊢
    split at h
    · cases h
    · rename_i hn
      rw [if_neg hn]
      split <;> exact nodeB_size _ _
theorem bind_coll : ∀ (p q : List ByteArray) (n i : Nat) (s t R : ByteArray), digB p = true → digB q = true → valR p n i s = (R, true) → valR q n i t = (R, true) → s ≠ t → collB (wayR p n i s) (wayR q n i t) = true
  | [], [], n, i, s, t, R, _, _, h1, h2, hst => by
    unfold valR at h1 h2
    by_cases hn : n = 1
    · rw [if_pos hn] at h1 h2
      have e1 := congrArg Prod.fst h1
      have e2 := congrArg Prod.fst h2
      dsimp only at e1 e2
      exact collB_hit (fun e => hst (leafS_inj e)) (e1.trans e2.symm)
    · rw [if_neg hn] at h1
      cases h1
  | [], y :: q, n, i, s, t, R, _, _, h1, h2, hst => by
    have := valR_len [] (y :: q) n i s t (by rw [h1]) (by rw [h2])
    simp at this
  | x :: p, [], n, i, s, t, R, _, _, h1, h2, hst => by
    have := valR_len (x :: p) [] n i s t (by rw [h1]) (by rw [h2])
    simp at this
  | x :: p, y :: q, n, i, s, t, R, hp, hq, h1, h2, hst => by
    have hp' : x.size = 32 ∧ digB p = true := by simpa [digB] using hp
    have hq' : y.size = 32 ∧ digB q = true := by simpa [digB] using hq
    unfold valR at h1 h2
    by_cases hn : n = 1
    · rw [if_pos hn] at h1
      cases h1
    · rw [if_neg hn] at h1 h2
      by_cases hi : i < splitN n
      · rw [if_pos hi] at h1 h2
        have a1 := congrArg Prod.fst h1
        have a2 := congrArg Prod.snd h1
        have b1 := congrArg Prod.fst h2
        have b2 := congrArg Prod.snd h2
        dsimp only at a1 a2 b1 b2
        unfold wayR
        rw [if_pos hi, if_pos hi]
        by_cases he : nodeS (valR p (splitN n) i s).1 x = nodeS (valR q (splitN n) i t).1 y
        · have hin := nodeS_inj he ((valR_32 _ _ _ _ a2).trans (valR_32 _ _ _ _ b2).symm)
          exact collB_tail (bind_coll p q (splitN n) i s t _ hp'.2 hq'.2 (Prod.ext rfl a2) (Prod.ext hin.1.symm b2) hst)
        · exact collB_hit he (a1.trans b1.symm)
      · rw [if_neg hi] at h1 h2
        have a1 := congrArg Prod.fst h1
        have a2 := congrArg Prod.snd h1
        have b1 := congrArg Prod.fst h2
        have b2 := congrArg Prod.snd h2
        dsimp only at a1 a2 b1 b2
        unfold wayR
        rw [if_neg hi, if_neg hi]
        by_cases he : nodeS x (valR p (n - splitN n) (i - splitN n) s).1 = nodeS y (valR q (n - splitN n) (i - splitN n) t).1
        · have hin := nodeS_inj he (hp'.1.trans hq'.1.symm)
          exact collB_tail (bind_coll p q (n - splitN n) (i - splitN n) s t _ hp'.2 hq'.2 (Prod.ext rfl a2) (Prod.ext hin.2.symm b2) hst)
        · exact collB_hit he (a1.trans b1.symm)
theorem drop_at (l : List ByteArray) (k : Nat) (x : ByteArray) (h : l[k]? = some x) : l.drop k = x :: l.drop (k + 1) := by
  have hk := (List.getElem?_eq_some_iff.1 h).1
  have e := (List.getElem?_eq_some_iff.1 h).2
  rw [List.drop_eq_getElem_cons hk, e]
theorem neq_dec (a b : ByteArray) : (a.toList != b.toList) = decide (a ≠ b) := by
  rw [bne, beq_dec]
  by_cases h : a = b
  · rw [decide_eq_true h, decide_eq_false (fun n => n h)]; rfl
  · rw [decide_eq_false h, decide_eq_true h]; rfl
/-- Two lists that are held side by side. -/
structure L2 (w : World) (oa ob : Option Addr) (A B : List ByteArray) (W : World) : Prop where
  a : RdS W oa A
  b : RdS W ob B
  tab : TabAt W
  bel : Below w.heap.size w W
theorem L2.next {w : World} {oa ob : Option Addr} {A B : List ByteArray} {W W' : World} (h : L2 w oa ob A B W) (hb : Below W.heap.size W W') : L2 w oa ob A B W' := ⟨h.a.kept hb, h.b.kept hb, h.tab.below hb, h.bel.trans (hb.mono h.bel.size)⟩
theorem cs_next {w : World} {oa ob : Option Addr} {A B : List ByteArray} {b1 o1 b2 o2 k : Nat} {x y : ByteArray} {W W' : World} (hb : Below W.heap.size W W')
    (h : W.cell? ⟨b1, o1 + k, none⟩ = some (.string x) ∧ W.cell? ⟨b2, o2 + k, none⟩ = some (.string y) ∧ b1 < W.heap.size ∧ b2 < W.heap.size ∧ Hid (L2 w oa ob A B W)) :
    W'.cell? ⟨b1, o1 + k, none⟩ = some (.string x) ∧ W'.cell? ⟨b2, o2 + k, none⟩ = some (.string y) ∧ b1 < W'.heap.size ∧ b2 < W'.heap.size ∧ Hid (L2 w oa ob A B W') :=
  ⟨(hb.cell (p := ⟨b1, o1 + k, none⟩) h.2.2.1).trans h.1, (hb.cell (p := ⟨b2, o2 + k, none⟩) h.2.2.2.1).trans h.2.1, Nat.lt_of_lt_of_le h.2.2.1 hb.size, Nat.lt_of_lt_of_le h.2.2.2.1 hb.size, Lib.hid (h.2.2.2.2.out.next hb)⟩
set_option maxHeartbeats 4000000 in
theorem collide_any (w : World) (oa ob : Option Addr) (ca cb : Nat) (A B : List ByteArray) (hA : A.length ≤ 10000) (hB : B.length ≤ 10000) (zA : SzB 1000000 A) (zB : SzB 1000000 B) (hra : RdS w oa A) (hrb : RdS w ob B) (ht : TabAt w) :
    Calls Tryd.prog 23 #[.slice oa A.length ca, .slice ob B.length cb] w fun e w' => e = .returned (.bool (collB A B)) ∧ Below w.heap.size w w' := by
  have H0 : Hid (L2 w oa ob A B w) := ⟨hra, hrb, ht, Below.refl _ _⟩
  have HZA := Lib.hid zA
  have HZB := Lib.hid zB
  clear hra hrb ht zA zB
  go_enter Tryd.func23, Tryd.ntmps23
  go_wp2_with fail
  go_loopw [5] (fun i wr => ∃ k : Nat, k ≤ A.length ∧ k ≤ B.length ∧ i = .int .i64 k ∧ Hid (collB (A.drop k) (B.drop k) = collB A B) ∧ Hid (L2 w oa ob A B wr)) (fun i _ => A.length - (intOf i).toNat)
  case atStart => exact ⟨0, Nat.zero_le _, Nat.zero_le _, rfl, rfl, H0⟩
  case round =>
    clear H0
    obtain ⟨k, hka, hkb, rfl, HC, HL⟩ := hrel
    by_cases h : k < A.length ∧ k < B.length
    · obtain ⟨h1, h2⟩ := h
      obtain ⟨x, hx⟩ : ∃ x, A[k]? = some x := ⟨_, List.getElem?_eq_getElem h1⟩
      obtain ⟨y, hy⟩ : ∃ y, B[k]? = some y := ⟨_, List.getElem?_eq_getElem h2⟩
      obtain ⟨b1, o1, rfl, hb1⟩ := HL.out.a.some (by omega)
      obtain ⟨b2, o2, rfl, hb2⟩ := HL.out.b.some (by omega)
      have c1 := hb1.cell k x hx
      have c2 := hb2.cell k y hy
      have l1 := hb1.lt
      have l2 := hb2.lt
      have zx := HZA.out x (List.mem_of_getElem? hx)
      have zy := HZB.out y (List.mem_of_getElem? hy)
      have q1 : (k : Int) < (A.length : Int) := by omega
      have q2 : (k : Int) < (B.length : Int) := by omega
      have hcc := HC.out
      rw [drop_at A k x hx, drop_at B k y hy] at hcc
      have HC2 := Lib.hid hcc
      clear HC hx hy hb1 hb2 hcc
      by_cases hxy : x = y
      · obtain rfl := hxy
        have e1 : (x.toList != x.toList) = false := by simp
        have HN : Hid (collB (A.drop (k + 1)) (B.drop (k + 1)) = collB A B) := by
          have := HC2.out
          rw [collB_same] at this
          exact this
        clear HC2
        go_wp2_with fail
        go_quiet (fail)
        have HL2 := Lib.hid (HL.out.next (drewN_below (Below.refl _ _) nq))
        clear c1 c2
        go_wp2_with fail
        go_roundw
        case rel => exact ⟨k + 1, by omega, by omega, by go_num, HN, HL2⟩
        case measure => simp [intOf]; omega
      · have e1 : (x.toList == y.toList) = false := by rw [beq_dec]; exact decide_eq_false hxy
        have e2 := beq_dec (shaB x) (shaB y)
        have HXY := Lib.hid hxy
        have HS1 : Hid (∀ W, Hid (L2 w (some ⟨b1, o1, none⟩) (some ⟨b2, o2, none⟩) A B W) → Calls Tryd.prog 26 #[.string x] W fun e w' => e = .returned (.string (shaB x)) ∧ Below W.heap.size W w') := fun W hW => sum_any x W (by omega) hW.out.tab
        have HS2 : Hid (∀ W, Hid (L2 w (some ⟨b1, o1, none⟩) (some ⟨b2, o2, none⟩) A B W) → Calls Tryd.prog 26 #[.string y] W fun e w' => e = .returned (.string (shaB y)) ∧ Below W.heap.size W w') := fun W hW => sum_any y W (by omega) hW.out.tab
        obtain ⟨sx, hsx⟩ : ∃ sx, shaB x = sx := ⟨_, rfl⟩
        obtain ⟨sy, hsy⟩ : ∃ sy, shaB y = sy := ⟨_, rfl⟩
        rw [hsx] at HS1 e2
        rw [hsy] at HS2 e2
        have HSX := Lib.hid hsx
        have HSY := Lib.hid hsy
        clear hsx hsy hxy
        by_cases hs : sx = sy
        · rw [decide_eq_true hs] at e2
          have HE : Hid (collB A B = true) := HC2.out.symm.trans (collB_hit HXY.out (by rw [HSX.out, HSY.out, hs]))
          clear hs HC2 HSX HSY HXY
          go_wp2_with fail
          go_region_held3 (fun W => W.cell? ⟨b1, o1 + k, none⟩ = some (.string x) ∧ W.cell? ⟨b2, o2 + k, none⟩ = some (.string y) ∧ b1 < W.heap.size ∧ b2 < W.heap.size ∧ Hid (L2 w (some ⟨b1, o1, none⟩) (some ⟨b2, o2, none⟩) A B W))
            (first | exact ⟨c1, c2, l1, l2, Lib.hid (HL.out.next (Below.refl _ _).drew)⟩ | exact cs_next (by assumption) (by assumption))
            (first | ((with_reducible refine (HS1.out _ (And.right (And.right (And.right (And.right (by assumption)))))).mono ?_); rintro e w' ⟨rfl, hb⟩) | ((with_reducible refine (HS2.out _ (And.right (And.right (And.right (And.right (by assumption)))))).mono ?_); rintro e w' ⟨rfl, hb⟩))
          have HL9 : Hid (L2 w (some ⟨b1, o1, none⟩) (some ⟨b2, o2, none⟩) A B _) := And.right (And.right (And.right (And.right (by assumption))))
          go_wp2_with fail
          go_ret
          exact ⟨by rw [HE.out]; rfl, HL9.out.bel⟩
        · rw [decide_eq_false hs] at e2
          have HN : Hid (collB (A.drop (k + 1)) (B.drop (k + 1)) = collB A B) := by
            have := HC2.out
            rw [collB_miss _ _ (by rw [HSX.out, HSY.out]; exact hs)] at this
            exact this
          clear hs HC2 HSX HSY HXY
          go_wp2_with fail
          go_region_held3 (fun W => W.cell? ⟨b1, o1 + k, none⟩ = some (.string x) ∧ W.cell? ⟨b2, o2 + k, none⟩ = some (.string y) ∧ b1 < W.heap.size ∧ b2 < W.heap.size ∧ Hid (L2 w (some ⟨b1, o1, none⟩) (some ⟨b2, o2, none⟩) A B W))
            (first | exact ⟨c1, c2, l1, l2, Lib.hid (HL.out.next (Below.refl _ _).drew)⟩ | exact cs_next (by assumption) (by assumption))
            (first | ((with_reducible refine (HS1.out _ (And.right (And.right (And.right (And.right (by assumption)))))).mono ?_); rintro e w' ⟨rfl, hb⟩) | ((with_reducible refine (HS2.out _ (And.right (And.right (And.right (And.right (by assumption)))))).mono ?_); rintro e w' ⟨rfl, hb⟩))
          have HL9 : Hid (L2 w (some ⟨b1, o1, none⟩) (some ⟨b2, o2, none⟩) A B _) := And.right (And.right (And.right (And.right (by assumption))))
          clear c1 c2
          go_wp2_with fail
          go_roundw
          case rel => exact ⟨k + 1, by omega, by omega, by go_num, HN, HL9⟩
          case measure => simp [intOf]; omega
    · have HE : Hid (collB A B = false) := by
        have hcc := HC.out
        show _ = _
        rw [← hcc]
        by_cases h1 : k < A.length
        · rw [List.drop_of_length_le (l := B) (by omega), collB_nil']
        · rw [List.drop_of_length_le (l := A) (by omega), collB_nil]
      clear HC
      rcases (show (¬ (k : Int) < (A.length : Int)) ∨ ((k : Int) < (A.length : Int) ∧ ¬ (k : Int) < (B.length : Int)) from by omega) with h1 | ⟨h1, h2⟩
      all_goals
        clear h
        go_wp2_with fail
        go_ret
        exact ⟨by rw [HE.out]; rfl, HL.out.bel⟩
end Go.Proofs.YtggnldljfjhhcaaDoor
