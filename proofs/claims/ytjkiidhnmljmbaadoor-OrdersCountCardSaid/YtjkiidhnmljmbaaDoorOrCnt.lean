/-
  Orders: the reference's Count, and the walk of the law OrdersCount.
-/
import Derived.Test.YtjkiidhnmljmbaaDoorOrX
import Derived.Deep.CutRange
set_option linter.unusedVariables false
set_option linter.unusedSimpArgs false
namespace Go.Proofs.YtjkiidhnmljmbaaDoor
open Go.RowKit
set_option maxHeartbeats 8000000 in
set_option maxRecDepth 100000 in
theorem refCount_any (l : List Od) (oa : Option Addr) (n c : Nat) (fr : Int) (W : World) (hn : l.length = n) (hlm : n ≤ 1000000) (hr : RdO W oa l) : Calls Tryd.prog 16 #[.slice oa n c, .int .i64 fr] W fun e w' => e = .returned (.int .i64 (cntO l fr : Nat)) ∧ Below W.heap.size W w' := by
  have HR := Lib.hid hr
  have HN := Lib.hid hn
  clear hr hn
  go_enter Tryd.func16, Tryd.ntmps16
  go_wp2_with fail
  go_loopw [5, 6] (fun vc vi wr => ∃ (i cn : Nat), i ≤ n ∧ vi = .int .i64 i ∧ vc = .int .i64 cn ∧ Hid (cn = cntO (l.take i) fr) ∧ Hid (Below W.heap.size W wr)) (fun _ v _ => n - (intOf v).toNat)
  case atStart => exact ⟨0, 0, Nat.zero_le _, rfl, rfl, rfl, Below.refl _ _⟩
  case round =>
    obtain ⟨i, cn, hin, rfl, rfl, HC, HB⟩ := hrel
    by_cases h : i < n
    · have q1 : (i : Int) < (n : Int) := by omega
      have q2 : (0 : Int) ≤ (i : Int) := by omega
      obtain ⟨q, hq⟩ : ∃ q, l[i]? = some q := ⟨l[i]'(by rw [HN.out]; exact h), List.getElem?_eq_getElem _⟩
      obtain ⟨b, o, rfl, hlt, hrg⟩ := (HR.out.kept HB.out).at i q hq
      have c2 : wr.cell? ⟨b, o + i * 26 + 2, none⟩ = some (.int .i64 q.f) := hrg 2 _ rfl
      have hcn := cntO_snoc l i q fr hq
      rw [← HC.out] at hcn
      have hcl : cn ≤ 1000000 := by
        have := cntO_le (l.take i) fr
        rw [← HC.out, List.length_take] at this
        omega
      obtain ⟨qf, hqf⟩ : ∃ qf, q.f = qf := ⟨_, rfl⟩
      rw [hqf] at c2 hcn
      clear hq hlt hrg hqf HC
      by_cases hf : qf ≤ fr
      all_goals
        first | rw [if_pos hf] at hcn | rw [if_neg hf] at hcn
        have HCN := Lib.hid hcn
        clear hcn
        go_wp2_with fail
        go_roundw
        case rel => exact ⟨i + 1, _, by omega, by go_num, by go_num, by rw [HCN.out]; exact rfl, HB⟩
        case measure => simp [intOf]; omega
    · have q1 : ¬ (i : Int) < (n : Int) := by omega
      have e : cn = cntO l fr := by rw [HC.out, List.take_of_length_le (by rw [HN.out]; omega)]
      have HE := Lib.hid e
      clear e h
      go_wp2_with fail
      go_ret
      exact ⟨by rw [HE.out]; rfl, HB.out⟩
/-- The frames' running maximum. -/
def mxF (zs : Nat → Int) : Nat → Int
  | 0 => 0
  | i + 1 => max (mxF zs i) (zs i)
theorem mxF_le (zs : Nat → Int) (i : Nat) : mxF zs i ≤ mxF zs (i + 1) := Int.le_max_left _ _
theorem mxF_mono (zs : Nat → Int) (i j : Nat) (h : i ≤ j) : mxF zs i ≤ mxF zs j := by
  induction j with
  | zero => rw [Nat.le_zero.1 h]; exact Int.le_refl _
  | succ j ih =>
    rcases Nat.lt_or_ge j i with h' | h'
    · rw [show i = j + 1 by omega]; exact Int.le_refl _
    · exact Int.le_trans (ih h') (mxF_le zs j)
def lO (zs : Nat → Int) (n : Nat) : List Od := (List.range n).map fun j => ⟨0, 0, zs j, 0, 0⟩
def sO (zs : Nat → Int) (n : Nat) : List Od := lO (fun j => mxF zs (j + 1)) n
theorem lO_len (zs : Nat → Int) (n : Nat) : (lO zs n).length = n := by simp [lO]
theorem lO_at (zs : Nat → Int) (n j : Nat) (h : j < n) : (lO zs n)[j]? = some ⟨0, 0, zs j, 0, 0⟩ := by simp [lO, h]
theorem lO_snoc (zs : Nat → Int) (n : Nat) : lO zs (n + 1) = lO zs n ++ [⟨0, 0, zs n, 0, 0⟩] := by simp [lO, List.range_succ]
theorem oCells_lO (zs : Nat → Int) (n : Nat) : oCells (lO zs n) ++ [.int .i64 0, .int .i64 0, .int .i64 (zs n), .int .i64 0, .int .i64 0, .int .i64 0, .int .i64 0, .int .i64 0, .int .i64 0, .int .i64 0, .int .i64 0, .int .i64 0, .slice none 0 0, .int .i64 0, .int .i64 0, .int .i64 0, .int .i64 0, .int .i64 0, .int .i64 0, .int .i64 0, .int .i64 0, .int .i64 0, .int .i64 0, .int .i64 0, .int .i64 0, .string ⟨#[]⟩] = oCells (lO zs (n + 1)) := by
  rw [lO_snoc]
  simp only [oCells, List.flatMap_append, List.flatMap_cons, List.flatMap_nil, List.append_nil]
  rfl
theorem cnt_lO (zs : Nat → Int) (n : Nat) (fr : Int) : cntO (lO zs (n + 1)) fr = cntO (lO zs n) fr + if zs n ≤ fr then 1 else 0 := by
  rw [lO_snoc]
  unfold cntO
  rw [List.filter_append, List.length_append]
  by_cases h : zs n ≤ fr <;> simp [h]
theorem cnt_sorted (f : Nat → Int) (hm : ∀ i j, i ≤ j → f i ≤ f j) (fr : Int) (n : Nat) : cntO (lO f n) fr ≤ n ∧ ∀ j, j < n → (f j ≤ fr ↔ j < cntO (lO f n) fr) := by
  induction n with
  | zero => exact ⟨by simp [lO, cntO], fun j h => absurd h (Nat.not_lt_zero _)⟩
  | succ n ih =>
    obtain ⟨h1, h2⟩ := ih
    rw [cnt_lO]
    by_cases hf : f n ≤ fr
    · rw [if_pos hf]
      have e : cntO (lO f n) fr = n := by
        rcases Nat.eq_zero_or_pos n with rfl | hp
        · omega
        · have := (h2 (n - 1) (by omega)).1 (Int.le_trans (hm _ _ (by omega)) hf)
          omega
      refine ⟨by omega, fun j hj => ⟨fun _ => by omega, fun _ => Int.le_trans (hm j n (by omega)) hf⟩⟩
    · rw [if_neg hf]
      refine ⟨by omega, fun j hj => ?_⟩
      rcases Nat.lt_or_ge j n with h | h
      · exact h2 j h
      · have : j = n := by omega
        subst this
        exact ⟨fun h => absurd h hf, fun h => by omega⟩
theorem cntO_mono (l : List Od) (a b : Int) (h : a ≤ b) : cntO l a ≤ cntO l b := by
  induction l with
  | nil => exact Nat.le_refl _
  | cons q l ih =>
    unfold cntO at *
    by_cases h1 : q.f ≤ a
    · have h2 : q.f ≤ b := Int.le_trans h1 h
      simp [h1, h2]
      exact ih
    · by_cases h2 : q.f ≤ b
      · simp [h1, h2]
        exact Nat.le_succ_of_le ih
      · simp [h1, h2]
        exact ih
theorem sorted_cnt (zs : Nat → Int) (n : Nat) (fr : Int) : ∃ c, cntO (sO zs n) fr = c ∧ c ≤ n ∧ (∀ d, c = d + 1 → mxF zs (d + 1) ≤ fr) ∧ (c < n → ¬ mxF zs (c + 1) ≤ fr) := by
  obtain ⟨h1, h2⟩ := cnt_sorted (fun j => mxF zs (j + 1)) (fun i j h => mxF_mono zs _ _ (by omega)) fr n
  refine ⟨_, rfl, h1, fun d hd => ?_, fun hlt h => ?_⟩
  · exact (h2 d (by unfold sO at hd; omega)).2 (by unfold sO at hd; omega)
  · exact absurd ((h2 _ hlt).1 h) (Nat.lt_irrefl _)
set_option maxHeartbeats 8000000 in
set_option maxRecDepth 100000 in
theorem walkCount (W : World) (o0 : Option Addr) (l0 c0 : Nat) (zs : Nat → Int) (a b : Int) (hl0 : l0 ≤ c0) (hc0 : c0 ≤ maxLen)
    (x0 : l0 = 0 ∨ ∃ b off, o0 = some ⟨b, off, none⟩ ∧ b < W.heap.size ∧ ∀ i, i < l0 → W.cell? ⟨b, off + i, none⟩ = some (.int .i64 (zs i)))
    (hg : ∃ er, W.cell? ⟨0, 0, none⟩ = some (.iface 169 (.pointer (some er)))) :
    Calls Tryd.prog 5 #[.slice o0 l0 c0, .int .i64 a, .int .i64 b] W fun e w' => e = .returned (.bool true) ∧ Below W.heap.size W w' := by
  obtain ⟨er, hg⟩ := hg
  have HX := Lib.hid x0
  have HSA := Lib.hid (sane_any er W hg)
  clear x0 hg
  go_enter Tryd.func5, Tryd.ntmps5
  go_wp2_with fail
  refine HSA.out.mono ?_
  rintro e ws ⟨rfl, hb0⟩
  clear HSA
  have HB0 := Lib.hid hb0
  clear hb0
  go_wp2_with fail
  go_loopw [8, 9, 10, 11] (fun vl vs vm vi wr => ∃ (i cl cs : Nat) (ol os : Option Addr), i ≤ 50 ∧ i ≤ l0 ∧ vi = .int .i64 i ∧ vm = .int .i64 (mxF zs i) ∧ vl = .slice ol i cl ∧ vs = .slice os i cs ∧ Hid (wr.ownsRow W.heap.size 30 26 (.slice ol i cl) i (oCells (lO zs i))) ∧ Hid (wr.ownsRow W.heap.size 30 26 (.slice os i cs) i (oCells (sO zs i))) ∧ Hid (∀ k, (Value.slice ol i cl).ownBlock = some k → (Value.slice os i cs).ownBlock = some k → False) ∧ Hid (Below W.heap.size W wr)) (fun _ _ _ v _ => 50 - (intOf v).toNat)
  case atStart => exact ⟨0, 0, 0, none, none, Nat.zero_le _, Nat.zero_le _, rfl, rfl, rfl, rfl, World.ownsRow_nil _ _ _ _, World.ownsRow_nil _ _ _ _, (fun k e _ => nomatch e), HB0⟩
  case round =>
    clear HB0
    obtain ⟨i, cl, cs, ol, os, hi50, hil0, rfl, rfl, rfl, rfl, HOL, HOS, HNE, HB⟩ := hrel
    by_cases h : i < l0 ∧ i < 50
    · obtain ⟨h1, h2⟩ := h
      have q1 : (i : Int) < (l0 : Int) := by omega
      have q2 : (0 : Int) ≤ (i : Int) := by omega
      have q3 : (i : Int) < 50 := by omega
      obtain ⟨gb, off, rfl, hlt, hcs⟩ : ∃ b off, o0 = some ⟨b, off, none⟩ ∧ b < W.heap.size ∧ ∀ i, i < l0 → W.cell? ⟨b, off + i, none⟩ = some (.int .i64 (zs i)) := by
        rcases HX.out with h | h
        · omega
        · exact h
      have c1 : wr.cell? ⟨gb, off + i, none⟩ = some (.int .i64 (zs i)) := (HB.out.cell (p := ⟨gb, off + i, none⟩) hlt).trans (hcs i h1)
      obtain ⟨ol', cl', w1, hrun1, ho1, hf1, hk1⟩ := app_ord wr W.heap.size (.slice ol i cl) i (oCells (lO zs i)) [.int .i64 0, .int .i64 0, .int .i64 (zs i), .int .i64 0, .int .i64 0, .int .i64 0, .int .i64 0, .int .i64 0, .int .i64 0, .int .i64 0, .int .i64 0, .int .i64 0, .slice none 0 0, .int .i64 0, .int .i64 0, .int .i64 0, .int .i64 0, .int .i64 0, .int .i64 0, .int .i64 0, .int .i64 0, .int .i64 0, .int .i64 0, .int .i64 0, .int .i64 0, .string ⟨#[]⟩] HOL.out (by omega) HB.out.size 45 rfl (by simp [Value.oneCell'])
      rw [oCells_lO] at ho1
      have hb1 : Below W.heap.size wr w1 := hf1.below _ HB.out.size (fun k e => own_ge HOL.out k e)
      have c2 : w1.cell? ⟨gb, off + i, none⟩ = some (.int .i64 (zs i)) := (hb1.cell (p := ⟨gb, off + i, none⟩) hlt).trans c1
      have hos1 : w1.ownsRow W.heap.size 30 26 (.slice os i cs) i (oCells (sO zs i)) := ownsRow_keptF HOS.out (fun k e => hf1.block k (own_lt HOS.out k e) (fun e' => HNE.out k e' e))
      have hB1 : Below W.heap.size W w1 := HB.out.trans hb1
      obtain ⟨os', cs', w2, hrun2, ho2, hf2, hk2⟩ := app_ord w1 W.heap.size (.slice os i cs) i (oCells (sO zs i)) [.int .i64 0, .int .i64 0, .int .i64 (mxF zs (i + 1)), .int .i64 0, .int .i64 0, .int .i64 0, .int .i64 0, .int .i64 0, .int .i64 0, .int .i64 0, .int .i64 0, .int .i64 0, .slice none 0 0, .int .i64 0, .int .i64 0, .int .i64 0, .int .i64 0, .int .i64 0, .int .i64 0, .int .i64 0, .int .i64 0, .int .i64 0, .int .i64 0, .int .i64 0, .int .i64 0, .string ⟨#[]⟩] hos1 (by omega) hB1.size 45 rfl (by simp [Value.oneCell'])
      have ho2' : w2.ownsRow W.heap.size 30 26 (.slice os' (i + 1) cs') (i + 1) (oCells (sO zs (i + 1))) := by
        have := oCells_lO (fun j => mxF zs (j + 1)) i
        unfold sO at *
        rw [← this]
        exact ho2
      have hn1 : ∀ k, (Value.slice ol' (i + 1) cl').ownBlock = some k → (Value.slice os i cs).ownBlock = some k → False := fun k e1 e2 => by
        rcases hk1 k e1 with h | h
        · exact HNE.out k h e2
        · have := own_lt HOS.out k e2
          omega
      have HOL2 : Hid (w2.ownsRow W.heap.size 30 26 (.slice ol' (i + 1) cl') (i + 1) (oCells (lO zs (i + 1)))) := ownsRow_keptF ho1 (fun k e => hf2.block k (own_lt ho1 k e) (fun e' => hn1 k e e'))
      have HOS2 := Lib.hid ho2'
      have HNE2 : Hid (∀ k, (Value.slice ol' (i + 1) cl').ownBlock = some k → (Value.slice os' (i + 1) cs').ownBlock = some k → False) := fun k e1 e2 => by
        rcases hk2 k e2 with h | h
        · exact hn1 k e1 h
        · have := own_lt ho1 k e1
          omega
      have HB2 : Hid (Below W.heap.size W w2) := hB1.trans (hf2.below _ hB1.size (fun k e => own_ge hos1 k e))
      have HM : Hid (max (mxF zs i) (zs i) = mxF zs (i + 1)) := rfl
      rw [← HM.out] at hrun2
      clear h1 h2 hlt hcs ho1 hf1 hk1 hb1 hos1 hB1 ho2 hf2 hk2 ho2' hn1 HOL HOS HNE HB
      have HRUN2 := Lib.hid hrun2
      clear hrun2
      have tok1 : True := trivial
      go_wp2_with (first | (at_builtin; have _t := tok1; refine wpList_append_run _ rfl _ _ 45 rfl _ _ _ _ rfl rfl hrun1 ?_; clear _t tok1) | (at_builtin; refine wpList_append_run _ rfl _ _ 45 rfl _ _ _ _ rfl rfl HRUN2.out ?_))
      clear hrun1 HRUN2 c1 c2
      go_wp2_with fail
      go_roundw
      case rel => exact ⟨i + 1, cl', cs', ol', os', by omega, by omega, by go_num, by rw [← HM.out], rfl, rfl, HOL2, HOS2, HNE2, HB2⟩
      case measure => simp [intOf]; omega
    · have hx : ¬ (i : Int) < (l0 : Int) ∨ ((i : Int) < (l0 : Int) ∧ ¬ (i : Int) < 50) := by omega
      obtain ⟨w0, rfl⟩ : ∃ w0 : World, w0 = wr := ⟨_, rfl⟩
      have HRL : Hid (RdO w0 ol (lO zs i)) := rdo_of (l := lO zs i) (by rw [lO_len]; exact HOL.out)
      have HRS : Hid (RdO w0 os (sO zs i)) := rdo_of (l := sO zs i) (by rw [show (sO zs i).length = i from lO_len _ _]; exact HOS.out)
      clear HOL HOS HNE h HX
      go_upto_region 6 with (fail)
      go_cut [21] from 14 to 42 (fun v wx => v = .bool false ∧ wx = w0)
      case first =>
        rcases hx with h1 | ⟨h1, h2⟩
        all_goals
          go_wp2_with fail
          go_meet
          exact ⟨rfl, rfl⟩
      case rest =>
        obtain ⟨rfl, hw0⟩ := hcut
        subst hw0
        obtain ⟨w0, rfl⟩ : ∃ w0 : World, w0 = wc := ⟨_, rfl⟩
        obtain ⟨n, rfl⟩ : ∃ n, n = i := ⟨_, rfl⟩
        clear hx
        by_cases hab : b < a
        · have hle : b ≤ a := by omega
          obtain ⟨c, hc, hcn, hcd, hcu⟩ := sorted_cnt zs n a
          obtain ⟨x, hx⟩ : ∃ x, cntO (lO zs n) b = x := ⟨_, rfl⟩
          obtain ⟨y, hy⟩ : ∃ y, cntO (lO zs n) a = y := ⟨_, rfl⟩
          have hxy : x ≤ y := by rw [← hx, ← hy]; exact cntO_mono _ _ _ hle
          have hxn : x ≤ n := by have := cntO_le (lO zs n) b; rw [hx, lO_len] at this; exact this
          have hyn : y ≤ n := by have := cntO_le (lO zs n) a; rw [hy, lO_len] at this; exact this
          have HCS : Hid (∀ W', Below w0.heap.size w0 W' → Calls Tryd.prog 15 #[.slice os n cs, .int .i64 a] W' fun e w' => e = .returned (.int .i64 (c : Nat)) ∧ Below w0.heap.size w0 w') := fun W' h => (count_any (sO zs n) os n cs a W' (lO_len _ _) (by omega) (HRS.out.kept h)).mono fun e w' ⟨he, hb⟩ => ⟨by rw [he, hc], h.trans (hb.mono h.size)⟩
          have HCX : Hid (∀ W', Below w0.heap.size w0 W' → Calls Tryd.prog 15 #[.slice ol n cl, .int .i64 b] W' fun e w' => e = .returned (.int .i64 (x : Nat)) ∧ Below w0.heap.size w0 w') := fun W' h => (count_any (lO zs n) ol n cl b W' (lO_len _ _) (by omega) (HRL.out.kept h)).mono fun e w' ⟨he, hb⟩ => ⟨by rw [he, hx], h.trans (hb.mono h.size)⟩
          have HCY : Hid (∀ W', Below w0.heap.size w0 W' → Calls Tryd.prog 15 #[.slice ol n cl, .int .i64 a] W' fun e w' => e = .returned (.int .i64 (y : Nat)) ∧ Below w0.heap.size w0 w') := fun W' h => (count_any (lO zs n) ol n cl a W' (lO_len _ _) (by omega) (HRL.out.kept h)).mono fun e w' ⟨he, hb⟩ => ⟨by rw [he, hy], h.trans (hb.mono h.size)⟩
          have HRX : Hid (∀ W', Below w0.heap.size w0 W' → Calls Tryd.prog 16 #[.slice ol n cl, .int .i64 b] W' fun e w' => e = .returned (.int .i64 (x : Nat)) ∧ Below w0.heap.size w0 w') := fun W' h => (refCount_any (lO zs n) ol n cl b W' (lO_len _ _) (by omega) (HRL.out.kept h)).mono fun e w' ⟨he, hb⟩ => ⟨by rw [he, hx], h.trans (hb.mono h.size)⟩
          have HCD := Lib.hid hcd
          have HCU := Lib.hid hcu
          have q5 : (x : Int) ≤ (y : Int) := by omega
          clear hx hy hc hcd hcu hle hxy
          have r0 := Below.refl w0.heap.size w0
          go_wp2_with fail
          refine (HCS.out _ r0).mono ?_
          rintro e w1 ⟨rfl, r1⟩
          clear r0 HCS
          have q6 : ¬ ((c : Int) < 0) := by omega
          have q7 : ¬ ((n : Int) < (c : Int)) := by omega
          have q8 : (c : Int) ≤ (n : Int) := by omega
          obtain ⟨w2, rfl⟩ : ∃ w2 : World, w2 = w1 := ⟨_, rfl⟩
          go_upto_region 14 with (fail)
          go_cut [87] from 51 to 87 (fun v wx => v = .bool false ∧ wx = w2)
          case first =>
            have hrs := HRS.out.kept r1
            clear HCX HCY HRX HRL r1 q5 hxn hyn
            rcases Nat.eq_zero_or_pos c with hz | hp
            · have q9 : ¬ ((0 : Int) < (c : Int)) := by omega
              have q10 : (c : Int) ≤ 0 := by omega
              rcases Nat.lt_or_ge c n with hn | hn
              · obtain ⟨g, o, rfl, hlt, hrg⟩ := hrs.at c _ (lO_at _ n c hn)
                have c2 : w2.cell? ⟨g, o + c * 26 + 2, none⟩ = some (.int .i64 (mxF zs (c + 1))) := hrg 2 _ rfl
                have hgt := HCU.out hn
                generalize mxF zs (c + 1) = m at c2 hgt
                have q11 : (c : Int) < (n : Int) := by omega
                have q12 : (0 : Int) ≤ (c : Int) := by omega
                clear hz hn hrg hlt hrs HRS HCD HCU hcn
                go_wp2_with fail
                go_meet
                exact ⟨by first | rfl | (simp only [Value.bool.injEq, Bool.or_eq_false_iff, decide_eq_false_iff_not]; omega), rfl⟩
              · have q11 : ¬ ((c : Int) < (n : Int)) := by omega
                clear hz hn hrs HRS HCD HCU hcn
                go_wp2_with fail
                go_meet
                exact ⟨by first | rfl | (simp only [Value.bool.injEq, Bool.or_eq_false_iff, decide_eq_false_iff_not]; omega), rfl⟩
            · have q9 : (0 : Int) < (c : Int) := by omega
              obtain ⟨d, hd⟩ : ∃ d, c = d + 1 := ⟨c - 1, by omega⟩
              have hlo := HCD.out d hd
              obtain ⟨g, o, rfl, hlt, hrg⟩ := hrs.at d _ (lO_at _ n d (by omega))
              have c1 : w2.cell? ⟨g, o + d * 26 + 2, none⟩ = some (.int .i64 (mxF zs (d + 1))) := hrg 2 _ rfl
              have q13 : (c : Int) - 1 = (d : Int) := by omega
              have q14 : (d : Int) < (n : Int) := by omega
              have q15 : (0 : Int) ≤ (d : Int) := by omega
              have hlo2 : ¬ (a < mxF zs (d + 1)) := by omega
              clear hrg
              rcases Nat.lt_or_ge c n with hn | hn
              · obtain ⟨g', o', he, hlt', hrg⟩ := hrs.at c _ (lO_at _ n c hn)
                simp only [Option.some.injEq, Addr.mk.injEq] at he
                obtain ⟨rfl, rfl, _⟩ := he
                have c2 : w2.cell? ⟨g, o + c * 26 + 2, none⟩ = some (.int .i64 (mxF zs (c + 1))) := hrg 2 _ rfl
                have hgt := HCU.out hn
                generalize mxF zs (c + 1) = m at c2 hgt
                generalize mxF zs (d + 1) = m' at c1 hlo hlo2
                have q11 : (c : Int) < (n : Int) := by omega
                have q12 : (0 : Int) ≤ (c : Int) := by omega
                clear hp hn hrg hlt hlt' hrs HRS HCD HCU hcn hd
                go_wp2_with fail
                go_meet
                exact ⟨by first | rfl | (simp only [Value.bool.injEq, Bool.or_eq_false_iff, decide_eq_false_iff_not]; omega), rfl⟩
              · generalize mxF zs (d + 1) = m' at c1 hlo hlo2
                have q11 : ¬ ((c : Int) < (n : Int)) := by omega
                clear hp hn hlt hrs HRS HCD HCU hcn hd
                go_wp2_with fail
                go_meet
                exact ⟨by first | rfl | (simp only [Value.bool.injEq, Bool.or_eq_false_iff, decide_eq_false_iff_not]; omega), rfl⟩
          case rest =>
            obtain ⟨rfl, hw2⟩ := hcut
            subst hw2
            clear HRS HRL HCD HCU q6 q7 q8
            go_wp2_with fail
            refine (HCX.out _ r1).mono ?_
            rintro e w3 ⟨rfl, r3⟩
            go_wp2_with fail
            refine (HCY.out _ r3).mono ?_
            rintro e w4 ⟨rfl, r4⟩
            go_wp2_with fail
            refine (HCX.out _ r4).mono ?_
            rintro e w5 ⟨rfl, r5⟩
            go_wp2_with fail
            refine (HRX.out _ r5).mono ?_
            rintro e w6 ⟨rfl, r6⟩
            go_wp2_with fail
            go_ret
            exact ⟨rfl, HB.out.trans (r6.mono HB.out.size)⟩
        · have hle : a ≤ b := by omega
          obtain ⟨c, hc, hcn, hcd, hcu⟩ := sorted_cnt zs n b
          obtain ⟨x, hx⟩ : ∃ x, cntO (lO zs n) a = x := ⟨_, rfl⟩
          obtain ⟨y, hy⟩ : ∃ y, cntO (lO zs n) b = y := ⟨_, rfl⟩
          have hxy : x ≤ y := by rw [← hx, ← hy]; exact cntO_mono _ _ _ hle
          have hxn : x ≤ n := by have := cntO_le (lO zs n) a; rw [hx, lO_len] at this; exact this
          have hyn : y ≤ n := by have := cntO_le (lO zs n) b; rw [hy, lO_len] at this; exact this
          have HCS : Hid (∀ W', Below w0.heap.size w0 W' → Calls Tryd.prog 15 #[.slice os n cs, .int .i64 b] W' fun e w' => e = .returned (.int .i64 (c : Nat)) ∧ Below w0.heap.size w0 w') := fun W' h => (count_any (sO zs n) os n cs b W' (lO_len _ _) (by omega) (HRS.out.kept h)).mono fun e w' ⟨he, hb⟩ => ⟨by rw [he, hc], h.trans (hb.mono h.size)⟩
          have HCX : Hid (∀ W', Below w0.heap.size w0 W' → Calls Tryd.prog 15 #[.slice ol n cl, .int .i64 a] W' fun e w' => e = .returned (.int .i64 (x : Nat)) ∧ Below w0.heap.size w0 w') := fun W' h => (count_any (lO zs n) ol n cl a W' (lO_len _ _) (by omega) (HRL.out.kept h)).mono fun e w' ⟨he, hb⟩ => ⟨by rw [he, hx], h.trans (hb.mono h.size)⟩
          have HCY : Hid (∀ W', Below w0.heap.size w0 W' → Calls Tryd.prog 15 #[.slice ol n cl, .int .i64 b] W' fun e w' => e = .returned (.int .i64 (y : Nat)) ∧ Below w0.heap.size w0 w') := fun W' h => (count_any (lO zs n) ol n cl b W' (lO_len _ _) (by omega) (HRL.out.kept h)).mono fun e w' ⟨he, hb⟩ => ⟨by rw [he, hy], h.trans (hb.mono h.size)⟩
          have HRX : Hid (∀ W', Below w0.heap.size w0 W' → Calls Tryd.prog 16 #[.slice ol n cl, .int .i64 a] W' fun e w' => e = .returned (.int .i64 (x : Nat)) ∧ Below w0.heap.size w0 w') := fun W' h => (refCount_any (lO zs n) ol n cl a W' (lO_len _ _) (by omega) (HRL.out.kept h)).mono fun e w' ⟨he, hb⟩ => ⟨by rw [he, hx], h.trans (hb.mono h.size)⟩
          have HCD := Lib.hid hcd
          have HCU := Lib.hid hcu
          have q5 : (x : Int) ≤ (y : Int) := by omega
          clear hx hy hc hcd hcu hle hxy
          have r0 := Below.refl w0.heap.size w0
          go_wp2_with fail
          refine (HCS.out _ r0).mono ?_
          rintro e w1 ⟨rfl, r1⟩
          clear r0 HCS
          have q6 : ¬ ((c : Int) < 0) := by omega
          have q7 : ¬ ((n : Int) < (c : Int)) := by omega
          have q8 : (c : Int) ≤ (n : Int) := by omega
          obtain ⟨w2, rfl⟩ : ∃ w2 : World, w2 = w1 := ⟨_, rfl⟩
          go_upto_region 14 with (fail)
          go_cut [87] from 51 to 87 (fun v wx => v = .bool false ∧ wx = w2)
          case first =>
            have hrs := HRS.out.kept r1
            clear HCX HCY HRX HRL r1 q5 hxn hyn
            rcases Nat.eq_zero_or_pos c with hz | hp
            · have q9 : ¬ ((0 : Int) < (c : Int)) := by omega
              have q10 : (c : Int) ≤ 0 := by omega
              rcases Nat.lt_or_ge c n with hn | hn
              · obtain ⟨g, o, rfl, hlt, hrg⟩ := hrs.at c _ (lO_at _ n c hn)
                have c2 : w2.cell? ⟨g, o + c * 26 + 2, none⟩ = some (.int .i64 (mxF zs (c + 1))) := hrg 2 _ rfl
                have hgt := HCU.out hn
                generalize mxF zs (c + 1) = m at c2 hgt
                have q11 : (c : Int) < (n : Int) := by omega
                have q12 : (0 : Int) ≤ (c : Int) := by omega
                clear hz hn hrg hlt hrs HRS HCD HCU hcn
                go_wp2_with fail
                go_meet
                exact ⟨by first | rfl | (simp only [Value.bool.injEq, Bool.or_eq_false_iff, decide_eq_false_iff_not]; omega), rfl⟩
              · have q11 : ¬ ((c : Int) < (n : Int)) := by omega
                clear hz hn hrs HRS HCD HCU hcn
                go_wp2_with fail
                go_meet
                exact ⟨by first | rfl | (simp only [Value.bool.injEq, Bool.or_eq_false_iff, decide_eq_false_iff_not]; omega), rfl⟩
            · have q9 : (0 : Int) < (c : Int) := by omega
              obtain ⟨d, hd⟩ : ∃ d, c = d + 1 := ⟨c - 1, by omega⟩
              have hlo := HCD.out d hd
              obtain ⟨g, o, rfl, hlt, hrg⟩ := hrs.at d _ (lO_at _ n d (by omega))
              have c1 : w2.cell? ⟨g, o + d * 26 + 2, none⟩ = some (.int .i64 (mxF zs (d + 1))) := hrg 2 _ rfl
              have q13 : (c : Int) - 1 = (d : Int) := by omega
              have q14 : (d : Int) < (n : Int) := by omega
              have q15 : (0 : Int) ≤ (d : Int) := by omega
              have hlo2 : ¬ (b < mxF zs (d + 1)) := by omega
              clear hrg
              rcases Nat.lt_or_ge c n with hn | hn
              · obtain ⟨g', o', he, hlt', hrg⟩ := hrs.at c _ (lO_at _ n c hn)
                simp only [Option.some.injEq, Addr.mk.injEq] at he
                obtain ⟨rfl, rfl, _⟩ := he
                have c2 : w2.cell? ⟨g, o + c * 26 + 2, none⟩ = some (.int .i64 (mxF zs (c + 1))) := hrg 2 _ rfl
                have hgt := HCU.out hn
                generalize mxF zs (c + 1) = m at c2 hgt
                generalize mxF zs (d + 1) = m' at c1 hlo hlo2
                have q11 : (c : Int) < (n : Int) := by omega
                have q12 : (0 : Int) ≤ (c : Int) := by omega
                clear hp hn hrg hlt hlt' hrs HRS HCD HCU hcn hd
                go_wp2_with fail
                go_meet
                exact ⟨by first | rfl | (simp only [Value.bool.injEq, Bool.or_eq_false_iff, decide_eq_false_iff_not]; omega), rfl⟩
              · generalize mxF zs (d + 1) = m' at c1 hlo hlo2
                have q11 : ¬ ((c : Int) < (n : Int)) := by omega
                clear hp hn hlt hrs HRS HCD HCU hcn hd
                go_wp2_with fail
                go_meet
                exact ⟨by first | rfl | (simp only [Value.bool.injEq, Bool.or_eq_false_iff, decide_eq_false_iff_not]; omega), rfl⟩
          case rest =>
            obtain ⟨rfl, hw2⟩ := hcut
            subst hw2
            clear HRS HRL HCD HCU q6 q7 q8
            go_wp2_with fail
            refine (HCX.out _ r1).mono ?_
            rintro e w3 ⟨rfl, r3⟩
            go_wp2_with fail
            refine (HCY.out _ r3).mono ?_
            rintro e w4 ⟨rfl, r4⟩
            go_wp2_with fail
            refine (HCX.out _ r4).mono ?_
            rintro e w5 ⟨rfl, r5⟩
            go_wp2_with fail
            refine (HRX.out _ r5).mono ?_
            rintro e w6 ⟨rfl, r6⟩
            go_wp2_with fail
            go_ret
            exact ⟨rfl, HB.out.trans (r6.mono HB.out.size)⟩
end Go.Proofs.YtjkiidhnmljmbaaDoor
