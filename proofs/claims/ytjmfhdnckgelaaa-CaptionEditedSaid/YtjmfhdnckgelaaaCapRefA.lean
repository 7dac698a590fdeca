/-
  The walks of SameCue, Same and SameStrings of the reference.
-/
import Derived.WalkKit
import Derived.LoopTactic
import Derived.WalkSpells
import Derived.WalkLawsBesides
import Derived.RegionTactic
import Derived.BigRegion
import Derived.Deep.QuietTactic
import Derived.Deep.RegionHeld3
import Derived.BigQuiet
import Derived.IntWalk
import Derived.Outline
import Derived.Test.YtjmfhdnckgelaaaCapAct
set_option linter.unusedVariables false
set_option linter.unusedSimpArgs false
namespace Go.Proofs.Ytjmfhdnckgelaaa
open Go.RowKit
set_option maxHeartbeats 2000000 in
set_option maxRecDepth 100000 in
theorem sameCue_any (x y : Cue) (w : World) :
    Calls Try.prog 18 #[.agg #[.int .i64 x.id, .int .i64 x.fr, .int .i64 x.to, .int .i64 x.pr, .string x.tx], .agg #[.int .i64 y.id, .int .i64 y.fr, .int .i64 y.to, .int .i64 y.pr, .string y.tx]] w fun e w' => e = .returned (.bool (decide (x = y))) ∧ Below w.heap.size w w' := by
  by_cases hxy : x = y
  · subst hxy
    rw [decide_eq_true rfl]
    go_enter Try.func18, Try.ntmps18
    go_wp2_with fail
    go_ret
    exact ⟨rfl, ((Below.refl _ w).alloc (Nat.le_refl _) _).alloc (by simp) _⟩
  · rw [decide_eq_false hxy]
    rcases cue_ne hxy with e1 | ⟨e1, e2⟩ | ⟨e1, e2, e3⟩ | ⟨e1, e2, e3, e4⟩ | ⟨e1, e2, e3, e4, e5'⟩
    all_goals
      try have e5 := tolist_ne e5'
      try clear e5'
      try have e6 : (x.tx.toList == y.tx.toList) = false := by rw [beq_eq_false_iff_ne]; exact e5
      clear hxy
      try rw [e1]
      try rw [e2]
      try rw [e3]
      try rw [e4]
      go_enter Try.func18, Try.ntmps18
      go_wp2_with fail
      go_ret
      exact ⟨rfl, ((Below.refl _ w).alloc (Nat.le_refl _) _).alloc (by simp) _⟩
theorem RdC.lt {W : World} {g off : Nat} {l : List Cue} (h : RdC W (some ⟨g, off, none⟩) l) (i : Nat) (hi : i < l.length) : g < W.heap.size := by
  rcases h with rfl | ⟨g', off', e, hg, _⟩
  · simp at hi
  · simp at e
    rw [e.1]
    exact hg
set_option maxHeartbeats 2000000 in
set_option maxRecDepth 100000 in
theorem refSame_any (w : World) (oa ob : Option Addr) (ca cb : Nat) (a b : List Cue) (ha : a.length ≤ 1000) (hb : b.length ≤ 1000) (hra : RdC w oa a) (hrb : RdC w ob b) :
    Calls Try.prog 22 #[.slice oa a.length ca, .slice ob b.length cb] w fun e w' => e = .returned (.bool (decide (a = b))) ∧ Below w.heap.size w w' := by
  have HA := Lib.hid hra
  have HB := Lib.hid hrb
  clear hra hrb
  by_cases hl : a.length = b.length
  · have hl' : ((a.length : Int) != b.length) = false := by rw [hl]; simp
    have HL := Lib.hid hl
    clear hl
    go_enter Try.func22, Try.ntmps22
    go_wp2_with fail
    clear hl'
    go_loopw [5] (fun i wr => ∃ k : Nat, k ≤ a.length ∧ i = .int .i64 k ∧ Hid (a.take k = b.take k) ∧ Hid (Below w.heap.size w wr)) (fun i _ => a.length - (intOf i).toNat)
    case atStart => exact ⟨0, Nat.zero_le _, rfl, by show _ = _; simp, Below.refl _ _⟩
    case round =>
      obtain ⟨k, hk, rfl, HT, HW⟩ := hrel
      by_cases hkl : k = a.length
      · have HE : Hid (a = b) := by
          have := HT.out
          rw [hkl, List.take_length, HL.out, List.take_length] at this
          exact this
        have hk' : ¬ (k : Int) < a.length := by omega
        clear hkl
        go_wp2_with fail
        go_ret
        exact ⟨by rw [decide_eq_true HE.out]; rfl, HW.out⟩
      · have hk' : (k : Int) < a.length := by omega
        have hk2 : k < a.length := by omega
        have hk3 : k < b.length := by have := HL.out; omega
        have hk4 : (k : Int) < b.length := by omega
        obtain ⟨g, off, rfl, c0, c1, c2, c3, c4⟩ := (HA.out.kept HW.out).at k hk2
        obtain ⟨g', off', rfl, d0, d1, d2, d3, d4⟩ := (HB.out.kept HW.out).at k hk3
        have hg1 : g < wr.heap.size := (HA.out.kept HW.out).lt k hk2
        have hg2 : g' < wr.heap.size := (HB.out.kept HW.out).lt k hk3
        have HTA : Hid (a.take (k + 1) = a.take k ++ [a[k]]) := List.take_succ_eq_append_getElem hk2
        have HTB : Hid (b.take (k + 1) = b.take k ++ [b[k]]) := List.take_succ_eq_append_getElem hk3
        have HGA : Hid (a[k]? = some a[k]) := List.getElem?_eq_getElem hk2
        have HGB : Hid (b[k]? = some b[k]) := List.getElem?_eq_getElem hk3
        obtain ⟨x, hx⟩ : ∃ x, a[k] = x := ⟨_, rfl⟩
        obtain ⟨y, hy⟩ : ∃ y, b[k] = y := ⟨_, rfl⟩
        rw [hx] at c0 c1 c2 c3 c4 HTA HGA
        rw [hy] at d0 d1 d2 d3 d4 HTB HGB
        clear hx hy hkl
        go_wp2_with fail
        go_region_held3 (fun w' => w'.cell? ⟨g, off + k * 5, none⟩ = some (.int .i64 x.id) ∧ w'.cell? ⟨g, off + k * 5 + 1, none⟩ = some (.int .i64 x.fr) ∧ w'.cell? ⟨g, off + k * 5 + 2, none⟩ = some (.int .i64 x.to) ∧ w'.cell? ⟨g, off + k * 5 + 3, none⟩ = some (.int .i64 x.pr) ∧ w'.cell? ⟨g, off + k * 5 + 4, none⟩ = some (.string x.tx) ∧ w'.cell? ⟨g', off' + k * 5, none⟩ = some (.int .i64 y.id) ∧ w'.cell? ⟨g', off' + k * 5 + 1, none⟩ = some (.int .i64 y.fr) ∧ w'.cell? ⟨g', off' + k * 5 + 2, none⟩ = some (.int .i64 y.to) ∧ w'.cell? ⟨g', off' + k * 5 + 3, none⟩ = some (.int .i64 y.pr) ∧ w'.cell? ⟨g', off' + k * 5 + 4, none⟩ = some (.string y.tx)) (first | go_keep | exact ⟨(hb4.cell (p := ⟨g, _, none⟩) hg1).trans c0, (hb4.cell (p := ⟨g, _, none⟩) hg1).trans c1, (hb4.cell (p := ⟨g, _, none⟩) hg1).trans c2, (hb4.cell (p := ⟨g, _, none⟩) hg1).trans c3, (hb4.cell (p := ⟨g, _, none⟩) hg1).trans c4, (hb4.cell (p := ⟨g', _, none⟩) hg2).trans d0, (hb4.cell (p := ⟨g', _, none⟩) hg2).trans d1, (hb4.cell (p := ⟨g', _, none⟩) hg2).trans d2, (hb4.cell (p := ⟨g', _, none⟩) hg2).trans d3, (hb4.cell (p := ⟨g', _, none⟩) hg2).trans d4⟩)
          (first | (go_at_call 18; refine (sameCue_any x y _).mono ?_; rintro e w4 ⟨rfl, hb4⟩))
        have HW2 : Hid (Below w.heap.size w w4) := bstep HW.out.drew hb4
        clear c0 c1 c2 c3 c4 d0 d1 d2 d3 d4 hb4
        by_cases hxy : x = y
        · subst hxy
          have HT2 : Hid (a.take (k + 1) = b.take (k + 1)) := by show _ = _; rw [HTA.out, HTB.out, HT.out]
          rw [decide_eq_true rfl]
          go_wp2_with fail
          go_roundw
          case rel => exact ⟨k + 1, by omega, by go_num, HT2, HW2⟩
          case measure => simp [intOf]; omega
        · have HNE : Hid (decide (a = b) = false) := by
            show _ = _
            rw [decide_eq_false_iff_not]
            intro e
            have h1 := HGA.out
            rw [e, HGB.out] at h1
            simp at h1
            exact hxy h1.symm
          rw [decide_eq_false hxy]
          clear hxy
          go_wp2_with fail
          go_ret
          exact ⟨by rw [HNE.out]; rfl, HW2.out⟩
  · have hl' : ((a.length : Int) != b.length) = true := by
      rw [bne_iff_ne]
      omega
    have HN : Hid (decide (a = b) = false) := by
      show _ = _
      rw [decide_eq_false_iff_not]
      intro e
      exact hl (by rw [e])
    clear hl
    go_enter Try.func22, Try.ntmps22
    go_wp2_with fail
    go_ret
    exact ⟨by rw [HN.out]; rfl, Below.refl _ _⟩
/-- A slice of strings that can be read. -/
def RdS (W : World) (oa : Option Addr) (l : List (List UInt8)) : Prop :=
  l = [] ∨ ∃ g off, oa = some ⟨g, off, none⟩ ∧ g < W.heap.size ∧ ∀ i (c : List UInt8), l[i]? = some c → W.cell? ⟨g, off + i, none⟩ = some (.string ⟨c.toArray⟩)
theorem RdS.kept {W W' : World} {oa : Option Addr} {l : List (List UInt8)} (h : RdS W oa l) (hb : Below W.heap.size W W') : RdS W' oa l := by
  rcases h with h | ⟨g, off, rfl, hg, hc⟩
  · exact .inl h
  · exact .inr ⟨g, off, rfl, Nat.lt_of_lt_of_le hg hb.size, fun i c hi => (hb.cell (p := ⟨g, _, none⟩) hg).trans (hc i c hi)⟩
theorem RdS.at {W : World} {oa : Option Addr} {l : List (List UInt8)} (h : RdS W oa l) (i : Nat) (hi : i < l.length) : ∃ g off, oa = some ⟨g, off, none⟩ ∧ W.cell? ⟨g, off + i, none⟩ = some (.string ⟨l[i].toArray⟩) := by
  rcases h with rfl | ⟨g, off, rfl, hg, hc⟩
  · simp at hi
  · exact ⟨g, off, rfl, hc i _ (List.getElem?_eq_getElem hi)⟩
theorem own_rds {W : World} {B : Nat} {oa : Option Addr} {n cap : Nat} {l : List (List UInt8)} (h : W.ownsRow B 9 1 (.slice oa n cap) l.length (scells l)) : n = l.length ∧ RdS W oa l := by
  have h' := h
  rcases h.2 with ⟨he, h0⟩ | ⟨g, cap', cur, he, q1, q2, q3⟩
  · simp at he
    have : l = [] := List.eq_nil_of_length_eq_zero h0
    exact ⟨by rw [he.2.1, h0], .inl this⟩
  · simp at he
    obtain ⟨rfl, rfl, rfl⟩ := he
    refine ⟨rfl, .inr ⟨g, 0, rfl, (Array.getElem?_eq_some_iff.1 q2).1, fun i c hi => ?_⟩⟩
    have hil : i < l.length := (List.getElem?_eq_some_iff.1 hi).1
    rw [Nat.zero_add, h'.cellAt _ (by omega)]
    simp [scells, hi]
theorem bytes_inj {a b : List UInt8} (h : a ≠ b) : (⟨a.toArray⟩ : ByteArray) ≠ ⟨b.toArray⟩ := fun e => h (by
  have := congrArg (fun x : ByteArray => x.data.toList) e
  simpa using this)
set_option maxHeartbeats 2000000 in
set_option maxRecDepth 100000 in
theorem sameStrings_any (w : World) (oa ob : Option Addr) (ca cb : Nat) (a b : List (List UInt8)) (ha : a.length ≤ 1000) (hb : b.length ≤ 1000) (hra : RdS w oa a) (hrb : RdS w ob b) :
    Calls Try.prog 17 #[.slice oa a.length ca, .slice ob b.length cb] w fun e w' => e = .returned (.bool (decide (a = b))) ∧ Below w.heap.size w w' := by
  have HA := Lib.hid hra
  have HB := Lib.hid hrb
  clear hra hrb
  by_cases hl : a.length = b.length
  · have hl' : ((a.length : Int) != b.length) = false := by rw [hl]; simp
    have HL := Lib.hid hl
    clear hl
    go_enter Try.func17, Try.ntmps17
    go_wp2_with fail
    clear hl'
    go_loopw [5] (fun i wr => ∃ k : Nat, k ≤ a.length ∧ i = .int .i64 k ∧ Hid (a.take k = b.take k) ∧ Hid (Below w.heap.size w wr)) (fun i _ => a.length - (intOf i).toNat)
    case atStart => exact ⟨0, Nat.zero_le _, rfl, by show _ = _; simp, Below.refl _ _⟩
    case round =>
      obtain ⟨k, hk, rfl, HT, HW⟩ := hrel
      by_cases hkl : k = a.length
      · have HE : Hid (a = b) := by
          have := HT.out
          rw [hkl, List.take_length, HL.out, List.take_length] at this
          exact this
        have hk' : ¬ (k : Int) < a.length := by omega
        clear hkl
        go_wp2_with fail
        go_ret
        exact ⟨by rw [decide_eq_true HE.out]; rfl, HW.out⟩
      · have hk' : (k : Int) < a.length := by omega
        have hk2 : k < a.length := by omega
        have hk3 : k < b.length := by have := HL.out; omega
        have hk4 : (k : Int) < b.length := by omega
        obtain ⟨g, off, rfl, c0⟩ := (HA.out.kept HW.out).at k hk2
        obtain ⟨g', off', rfl, d0⟩ := (HB.out.kept HW.out).at k hk3
        have HTA : Hid (a.take (k + 1) = a.take k ++ [a[k]]) := List.take_succ_eq_append_getElem hk2
        have HTB : Hid (b.take (k + 1) = b.take k ++ [b[k]]) := List.take_succ_eq_append_getElem hk3
        have HGA : Hid (a[k]? = some a[k]) := List.getElem?_eq_getElem hk2
        have HGB : Hid (b[k]? = some b[k]) := List.getElem?_eq_getElem hk3
        obtain ⟨x, hx⟩ : ∃ x, a[k] = x := ⟨_, rfl⟩
        obtain ⟨y, hy⟩ : ∃ y, b[k] = y := ⟨_, rfl⟩
        rw [hx] at c0 HTA HGA
        rw [hy] at d0 HTB HGB
        clear hx hy hkl
        by_cases hxy : x = y
        · subst hxy
          generalize (⟨x.toArray⟩ : ByteArray) = X at c0 d0
          have HT2 : Hid (a.take (k + 1) = b.take (k + 1)) := by show _ = _; rw [HTA.out, HTB.out, HT.out]
          go_wp2_with fail
          go_quiet (fail)
          have HW2 := Lib.hid (drewN_below HW.out nq)
          go_wp2_with fail
          go_roundw
          case rel => exact ⟨k + 1, by omega, by go_num, HT2, HW2⟩
          case measure => simp [intOf]; omega
        · have HNE : Hid (decide (a = b) = false) := by
            show _ = _
            rw [decide_eq_false_iff_not]
            intro e
            have h1 := HGA.out
            rw [e, HGB.out] at h1
            simp at h1
            exact hxy h1.symm
          have e5 := tolist_ne (bytes_inj hxy)
          generalize (⟨x.toArray⟩ : ByteArray) = X at c0 e5
          generalize (⟨y.toArray⟩ : ByteArray) = Y at d0 e5
          have e6 : (X.toList == Y.toList) = false := by rw [beq_eq_false_iff_ne]; exact e5
          clear hxy HTA HTB HGA HGB
          go_wp2_with fail
          go_quiet (fail)
          have HW2 := Lib.hid (drewN_below HW.out nq)
          go_wp2_with fail
          go_ret
          exact ⟨by rw [HNE.out]; rfl, HW2.out⟩
  · have hl' : ((a.length : Int) != b.length) = true := by
      rw [bne_iff_ne]
      omega
    have HN : Hid (decide (a = b) = false) := by
      show _ = _
      rw [decide_eq_false_iff_not]
      intro e
      exact hl (by rw [e])
    clear hl
    go_enter Try.func17, Try.ntmps17
    go_wp2_with fail
    go_ret
    exact ⟨by rw [HN.out]; rfl, Below.refl _ _⟩
end Go.Proofs.Ytjmfhdnckgelaaa
