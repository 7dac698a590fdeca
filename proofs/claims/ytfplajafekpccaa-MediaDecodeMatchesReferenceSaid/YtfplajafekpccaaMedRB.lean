/-
  The walk of the reference implementation of package media: Same.
-/
import Derived.WalkKit
import Derived.LoopTactic
import Derived.WalkSpells
import Derived.WalkLawsBesides
import Derived.RegionTactic
import Derived.BigRegion
import Derived.Deep.QuietTactic
import Derived.Deep.RegionHeld3
import Derived.BigQuiet
import Derived.IntWalk
import Derived.Outline
import Derived.Test.YtfplajafekpccaaMedN
set_option linter.unusedVariables false
set_option linter.unusedSimpArgs false
namespace Go.Proofs.Ytfplajafekpccaa
open Go.RowKit Onair
theorem sameA_no1 {i j : Int} (a b : List Pic) (h : i ≠ j) : sameA i a j b = false := by
  rw [Bool.eq_false_iff, ne_eq, sameA_iff]
  exact fun e => h e.1
theorem sameA_no2 (i j : Int) {a b : List Pic} (h : a ≠ b) : sameA i a j b = false := by
  rw [Bool.eq_false_iff, ne_eq, sameA_iff]
  exact fun e => h e.2
set_option maxHeartbeats 4000000 in
set_option maxRecDepth 100000 in
theorem refSame_any (w : World) (i j : Int) (oa ob : Option Addr) (ca cb : Nat) (a b : List Pic) (ha : a.length ≤ 1000000) (hb : b.length ≤ 1000000) (hra : RdP w oa a) (hrb : RdP w ob b) :
    Calls Try.prog 16 #[.agg #[.int .i64 i, .slice oa a.length ca], .agg #[.int .i64 j, .slice ob b.length cb]] w fun e w' => e = .returned (.bool (sameA i a j b)) ∧ Below w.heap.size w w' := by
  obtain ⟨r, hr0⟩ : ∃ r, w.heap.size = r := ⟨_, rfl⟩
  have h1 := AM.new w r i oa ca a hr0 hra
  have h1a := h1.alloc (.cells #[.int .i64 j, .slice ob b.length cb] 24)
  have h2 := AM.new (w.alloc (.cells #[.int .i64 i, .slice oa a.length ca] 24)) (r + 1) j ob cb b (by simp [hr0]) (hrb.kept h1.bel)
  have HA := Lib.hid h1a
  have HB : Hid (AM w (r + 1) j ob cb b _) := ⟨h2.blk, h2.rd, h1a.bel⟩
  have HR0 := Lib.hid hr0
  clear hra hrb h1 h1a h2 hr0
  by_cases hij : i = j
  · by_cases hl : a.length = b.length
    · have hl' : ((a.length : Int) != b.length) = false := by rw [hl]; simp
      have HL := Lib.hid hl
      clear hl
      subst hij
      have hii : (i != i) = false := by simp
      go_enter Try.func16, Try.ntmps16
      go_wp2_with fail
      rw [HR0.out]
      obtain ⟨w0, hw0⟩ : ∃ w0, (w.alloc (.cells #[.int .i64 i, .slice oa a.length ca] 24)).alloc (.cells #[.int .i64 i, .slice ob b.length cb] 24) = w0 := ⟨_, rfl⟩
      have HA0 : Hid (AM w r i oa ca a w0) := hw0 ▸ HA.out
      have HB0 : Hid (AM w (r + 1) i ob cb b w0) := hw0 ▸ HB.out
      rw [hw0]
      clear hw0 HA HB hl'
      go_loopw [5] (fun x wr => ∃ k : Nat, k ≤ a.length ∧ x = .int .i64 k ∧ Hid (a.take k = b.take k) ∧ Hid (AM w r i oa ca a wr) ∧ Hid (AM w (r + 1) i ob cb b wr)) (fun x _ => a.length - (intOf x).toNat)
      case atStart => exact ⟨0, Nat.zero_le _, rfl, by show _ = _; simp, HA0, HB0⟩
      case round =>
        obtain ⟨k, hk, rfl, HT, HA, HB⟩ := hrel
        have x1 := HA.out.blk.cell 1
        have y1 := HB.out.blk.cell 1
        simp only [List.getElem?_cons_zero, List.getElem?_cons_succ] at x1 y1
        have hx1 : r < wr.heap.size := HA.out.blk.lt
        have hy1 : r + 1 < wr.heap.size := HB.out.blk.lt
        by_cases hkl : k = a.length
        · have HE : Hid (sameA i a i b = true) := by
            have := HT.out
            rw [hkl, List.take_length, HL.out, List.take_length] at this
            exact (sameA_iff i a i b).2 ⟨rfl, this⟩
          have hk' : ¬ (k : Int) < a.length := by omega
          clear hkl
          go_wp2_with fail
          go_ret
          rw [HE.out]
          exact ⟨rfl, HA.out.bel⟩
        · have hk' : (k : Int) < a.length := by omega
          have hk2 : k < a.length := by omega
          have hk3 : k < b.length := by have := HL.out; omega
          have hk4 : (k : Int) < b.length := by omega
          obtain ⟨g, off, e1', c0, c1, c2⟩ := HA.out.rd.at k _ (List.getElem?_eq_getElem hk2)
          obtain ⟨g', off', e2', d0, d1, d2⟩ := HB.out.rd.at k _ (List.getElem?_eq_getElem hk3)
          subst e1' e2'
          have HTA : Hid (a.take (k + 1) = a.take k ++ [a[k]]) := List.take_succ_eq_append_getElem hk2
          have HTB : Hid (b.take (k + 1) = b.take k ++ [b[k]]) := List.take_succ_eq_append_getElem hk3
          have HGA : Hid (a[k]? = some a[k]) := List.getElem?_eq_getElem hk2
          have HGB : Hid (b[k]? = some b[k]) := List.getElem?_eq_getElem hk3
          obtain ⟨x, hx⟩ : ∃ x, a[k] = x := ⟨_, rfl⟩
          obtain ⟨y, hy⟩ : ∃ y, b[k] = y := ⟨_, rfl⟩
          rw [hx] at c0 c1 c2 HTA HGA
          rw [hy] at d0 d1 d2 HTB HGB
          have hg1 : g < wr.heap.size := block_lt c0
          have hg2 : g' < wr.heap.size := block_lt d0
          have HA2 := Lib.hid ((HA.out.alloc (.cells #[.bool x.key, .string x.data, .int .i64 x.power] 42)).alloc (.cells #[.bool y.key, .string y.data, .int .i64 y.power] 42))
          have HB2 := Lib.hid ((HB.out.alloc (.cells #[.bool x.key, .string x.data, .int .i64 x.power] 42)).alloc (.cells #[.bool y.key, .string y.data, .int .i64 y.power] 42))
          clear hx hy hkl
          by_cases hxy : x = y
          · subst hxy
            have HT2 : Hid (a.take (k + 1) = b.take (k + 1)) := by show _ = _; rw [HTA.out, HTB.out, HT.out]
            go_wp2_with fail
            go_roundw
            case rel => exact ⟨k + 1, by omega, by go_num, HT2, HA2, HB2⟩
            case measure => simp [intOf]; omega
          · have HNE : Hid (sameA i a i b = false) := by
              refine sameA_no2 i i ?_
              intro e
              have h1 := HGA.out
              rw [e, HGB.out] at h1
              simp at h1
              exact hxy h1.symm
            obtain ⟨xk, xd, xp⟩ := x
            obtain ⟨yk, yd, yp⟩ := y
            rcases pic_ne hxy with e1 | ⟨e1, e2'⟩ | ⟨e1, e2, e3⟩
            · dsimp only at *
              have e1' : yk = !xk := by cases xk <;> cases yk <;> simp_all
              subst e1'
              clear hxy HTA HTB HGA HGB e1
              cases xk
              all_goals
                go_wp2_with fail
                go_ret
                rw [HNE.out]
                exact ⟨rfl, HA2.out.bel⟩
            · dsimp only at *
              have e2 := tolist_ne e2'
              subst e1
              clear hxy HTA HTB HGA HGB e2'
              go_wp2_with fail
              go_ret
              rw [HNE.out]
              exact ⟨rfl, HA2.out.bel⟩
            · dsimp only at *
              subst e1 e2
              clear hxy HTA HTB HGA HGB
              go_wp2_with fail
              go_ret
              rw [HNE.out]
              exact ⟨rfl, HA2.out.bel⟩
    · have hl' : ((a.length : Int) != b.length) = true := by
        rw [bne_iff_ne]
        omega
      have HN : Hid (sameA i a j b = false) := sameA_no2 i j (fun e => hl (by rw [e]))
      subst hij
      have hii : (i != i) = false := by simp
      clear hl
      go_enter Try.func16, Try.ntmps16
      go_wp2_with fail
      go_ret
      rw [HN.out]
      exact ⟨rfl, HA.out.bel⟩
  · have HN : Hid (sameA i a j b = false) := sameA_no1 a b hij
    have hii : (i != j) = true := by rw [bne_iff_ne]; exact hij
    clear hij
    go_enter Try.func16, Try.ntmps16
    go_wp2_with fail
    go_ret
    rw [HN.out]
    exact ⟨rfl, HA.out.bel⟩
end Go.Proofs.Ytfplajafekpccaa
