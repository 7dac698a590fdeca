/-
  The walks of slices.Equal, media.Same, media.flag; the builder's copyCheck and WriteString; the closure of media.Encode.
-/
import Derived.WalkKit
import Derived.LoopTactic
import Derived.WalkSpells
import Derived.WalkLawsBesides
import Derived.RegionTactic
import Derived.BigRegion
import Derived.Deep.QuietTactic
import Derived.BigQuiet
import Derived.IntWalk
import Derived.Outline
import Derived.Lib.Builder
import Derived.Lib.AppendStr
import Derived.Laws.Externs
import Derived.Shelf.Strings.Builder1
import Derived.Test.YtfplajafekpccaaMedA
import Derived.Test.YtfplajafekpccaaWireStr
set_option linter.unusedVariables false
set_option linter.unusedSimpArgs false
namespace Go.Proofs.Ytfplajafekpccaa
open Go.RowKit Onair
theorem drewN_below {B : Nat} {a w : World} (h : Below B a w) (n : Nat) : Below B a (w.drewN n) := h.trans ⟨rfl, rfl, rfl, Nat.le_refl _, fun _ _ => rfl⟩
theorem tolist_ne {a b : ByteArray} (h : a ≠ b) : ¬ a.toList = b.toList := fun e => h (by
  rw [ByteArray.toList_eq, ByteArray.toList_eq] at e
  exact ByteArray.ext (Array.ext' e))
theorem pic_ne {x y : Pic} (h : x ≠ y) : x.key ≠ y.key ∨ (x.key = y.key ∧ x.data ≠ y.data) ∨ (x.key = y.key ∧ x.data = y.data ∧ x.power ≠ y.power) := by
  obtain ⟨a, b, c⟩ := x
  obtain ⟨d, e, f⟩ := y
  by_cases h1 : a = d
  · by_cases h2 : b = e
    · exact .inr (.inr ⟨h1, h2, fun h3 => h (by simp only at h3; rw [h1, h2, h3])⟩)
    · exact .inr (.inl ⟨h1, h2⟩)
  · exact .inl h1
set_option maxHeartbeats 2000000 in
set_option maxRecDepth 100000 in
theorem equal_any (w : World) (oa ob : Option Addr) (ca cb : Nat) (a b : List Pic) (ha : a.length ≤ 1000000) (hb : b.length ≤ 1000000) (hra : RdP w oa a) (hrb : RdP w ob b) :
    Calls Try.prog 30 #[.slice oa a.length ca, .slice ob b.length cb] w fun e w' => e = .returned (.bool (samesB a b)) ∧ Below w.heap.size w w' := by
  have HA := Lib.hid hra
  have HB := Lib.hid hrb
  clear hra hrb
  by_cases hl : a.length = b.length
  · have hl' : ((a.length : Int) != b.length) = false := by rw [hl]; simp
    have HL := Lib.hid hl
    clear hl
    go_enter Try.func30, Try.ntmps30
    go_wp2_with fail
    clear hl'
    go_loopw [13] (fun i wr => ∃ k : Nat, k ≤ a.length ∧ i = .int .i64 k ∧ Hid (a.take k = b.take k) ∧ Hid (Below w.heap.size w wr)) (fun i _ => a.length - (intOf i).toNat)
    case atStart => exact ⟨0, Nat.zero_le _, rfl, by show _ = _; simp, Below.refl _ _⟩
    case round =>
      obtain ⟨k, hk, rfl, HT, HW⟩ := hrel
      by_cases hkl : k = a.length
      · have HE : Hid (samesB a b = true) := by
          have := HT.out
          rw [hkl, List.take_length, HL.out, List.take_length] at this
          exact (samesB_iff a b).2 this
        have hk' : ¬ (k : Int) < a.length := by omega
        clear hkl
        go_wp2_with fail
        go_ret
        exact ⟨by rw [HE.out]; rfl, HW.out⟩
      · have hk' : (k : Int) < a.length := by omega
        have hk2 : k < a.length := by omega
        have hk3 : k < b.length := by have := HL.out; omega
        have hk4 : (k : Int) < b.length := by omega
        obtain ⟨g, off, rfl, c0, c1, c2⟩ := (HA.out.kept HW.out).at k _ (List.getElem?_eq_getElem hk2)
        obtain ⟨g', off', rfl, d0, d1, d2⟩ := (HB.out.kept HW.out).at k _ (List.getElem?_eq_getElem hk3)
        have HTA : Hid (a.take (k + 1) = a.take k ++ [a[k]]) := List.take_succ_eq_append_getElem hk2
        have HTB : Hid (b.take (k + 1) = b.take k ++ [b[k]]) := List.take_succ_eq_append_getElem hk3
        have HGA : Hid (a[k]? = some a[k]) := List.getElem?_eq_getElem hk2
        have HGB : Hid (b[k]? = some b[k]) := List.getElem?_eq_getElem hk3
        obtain ⟨x, hx⟩ : ∃ x, a[k] = x := ⟨_, rfl⟩
        obtain ⟨y, hy⟩ : ∃ y, b[k] = y := ⟨_, rfl⟩
        rw [hx] at c0 c1 c2 HTA HGA
        rw [hy] at d0 d1 d2 HTB HGB
        clear hx hy hkl
        by_cases hxy : x = y
        · subst hxy
          have HT2 : Hid (a.take (k + 1) = b.take (k + 1)) := by show _ = _; rw [HTA.out, HTB.out, HT.out]
          go_wp2_with fail
          go_quiet (fail)
          have HW2 := Lib.hid (drewN_below HW.out nq)
          go_wp2_with fail
          go_roundw
          case rel => exact ⟨k + 1, by omega, by go_num, HT2, HW2⟩
          case measure => simp [intOf]; omega
        · have HNE : Hid (samesB a b = false) := by
            show _ = _
            rw [Bool.eq_false_iff, ne_eq, samesB_iff]
            intro e
            have h1 := HGA.out
            rw [e, HGB.out] at h1
            simp at h1
            exact hxy h1.symm
          obtain ⟨xk, xd, xp⟩ := x
          obtain ⟨yk, yd, yp⟩ := y
          rcases pic_ne hxy with e1 | ⟨e1, e2'⟩ | ⟨e1, e2, e3⟩
          · dsimp only at *
            have e1' : yk = !xk := by cases xk <;> cases yk <;> simp_all
            subst e1'
            clear hxy HTA HTB HGA HGB e1
            cases xk
            all_goals
              go_wp2_with fail
              go_quiet (fail)
              have HW2 := Lib.hid (drewN_below HW.out nq)
              go_wp2_with fail
              go_ret
              exact ⟨by rw [HNE.out]; rfl, HW2.out⟩
          · dsimp only at *
            have e2 := tolist_ne e2'
            subst e1
            clear hxy HTA HTB HGA HGB e2'
            go_wp2_with fail
            go_quiet (fail)
            have HW2 := Lib.hid (drewN_below HW.out nq)
            go_wp2_with fail
            go_ret
            exact ⟨by rw [HNE.out]; rfl, HW2.out⟩
          · dsimp only at *
            subst e1 e2
            clear hxy HTA HTB HGA HGB
            go_wp2_with fail
            go_quiet (fail)
            have HW2 := Lib.hid (drewN_below HW.out nq)
            go_wp2_with fail
            go_ret
            exact ⟨by rw [HNE.out]; rfl, HW2.out⟩
  · have hl' : ((a.length : Int) != b.length) = true := by
      rw [bne_iff_ne]
      omega
    have HN : Hid (samesB a b = false) := by
      show _ = _
      rw [Bool.eq_false_iff, ne_eq, samesB_iff]
      intro e
      exact hl (by rw [e])
    clear hl
    go_enter Try.func30, Try.ntmps30
    go_wp2_with fail
    go_ret
    exact ⟨by rw [HN.out]; rfl, Below.refl _ _⟩
set_option maxRecDepth 100000 in
theorem same_any (w : World) (i j : Int) (oa ob : Option Addr) (ca cb : Nat) (a b : List Pic) (ha : a.length ≤ 1000000) (hb : b.length ≤ 1000000) (hra : RdP w oa a) (hrb : RdP w ob b) :
    Calls Try.prog 15 #[.agg #[.int .i64 i, .slice oa a.length ca], .agg #[.int .i64 j, .slice ob b.length cb]] w fun e w' => e = .returned (.bool (sameA i a j b)) ∧ Below w.heap.size w w' := by
  have HB : Hid (Below w.heap.size w ((w.alloc (.cells #[.int .i64 i, .slice oa a.length ca] 24)).alloc (.cells #[.int .i64 j, .slice ob b.length cb] 24))) := ((Below.refl _ w).alloc (Nat.le_refl _) _).alloc (by simp) _
  have HRA := Lib.hid (hra.kept HB.out)
  have HRB := Lib.hid (hrb.kept HB.out)
  clear hra hrb
  by_cases hij : i = j
  · subst hij
    have e : sameA i a i b = samesB a b := by unfold sameA; simp
    rw [e]
    clear e
    have hii : (i == i) = true := by simp
    go_enter Try.func15, Try.ntmps15
    go_wp2_with fail
    refine (equal_any _ oa ob ca cb a b ha hb HRA.out HRB.out).mono ?_
    rintro e w' ⟨rfl, hb'⟩
    have HB' := Lib.hid (bstep HB.out hb')
    clear hb'
    go_wp2_with fail
    go_ret
    exact ⟨rfl, HB'.out⟩
  · have e : sameA i a j b = false := by unfold sameA; rw [decide_eq_false hij]; rfl
    rw [e]
    clear e
    have hii : (i == j) = false := by rw [beq_eq_false_iff_ne]; exact hij
    clear hij
    go_enter Try.func15, Try.ntmps15
    go_wp2_with fail
    go_ret
    exact ⟨rfl, HB.out⟩
theorem flag_any (b : Bool) (w : World) : Calls Try.prog 39 #[.bool b] w fun e w' => e = .returned (.int .i64 (flagI b)) ∧ w = w' := by
  cases b
  · go_enter Try.func39, Try.ntmps39
    go_wp2
    go_ret
    exact ⟨rfl, rfl⟩
  · go_enter Try.func39, Try.ntmps39
    go_wp2
    go_ret
    exact ⟨rfl, rfl⟩
theorem Try.infoU8 : (Try.prog.info? 5).map (fun i => (i.zero, i.size, i.bytes)) = some (some (.int .u8 0), 1, 1) := by kernel_rfl
theorem Try.sizeBld : (Try.prog.info? 55).map (·.size) = some 2 := by kernel_rfl
theorem Try.liesBld : liesAt Try.prog Try.prog.depth 55 (2 / Try.prog.cellsOf 55) 0 55 1 = true := by kernel_rfl
set_option maxHeartbeats 1000000 in
set_option maxRecDepth 100000 in
theorem check_used (b : Nat) (w : World) (h0 : w.cell? ⟨b, 0, none⟩ = some (.pointer (some ⟨b, 0, none⟩))) :
    Calls Try.prog 55 #[.pointer (some ⟨b, 0, none⟩)] w fun e w' => e = .returned (.tuple #[]) ∧ w' = w := by
  obtain ⟨j, hj, _⟩ := Option.map_eq_some_iff.1 Try.sizeBld
  go_enter Try.func55, Try.ntmps55
  go_wp2
  rw [Lib.run_neq_ptr_same w _ Try.underlying52 hj]
  go_wp2
  go_end0
  exact ⟨rfl, rfl⟩
set_option maxHeartbeats 1000000 in
set_option maxRecDepth 100000 in
theorem check_fresh (b : Nat) (w : World) (h0 : w.cell? ⟨b, 0, none⟩ = some (.pointer none)) (hsh : w.shape? b = some (55, 2)) (hfz : w.frozen? ⟨b, 0, none⟩ = false) :
    Calls Try.prog 55 #[.pointer (some ⟨b, 0, none⟩)] w fun e w' => e = .returned (.tuple #[]) ∧ w' = w.setCell ⟨b, 0, none⟩ (.pointer (some ⟨b, 0, none⟩)) := by
  obtain ⟨j, hj, hjs⟩ := Option.map_eq_some_iff.1 Try.sizeBld
  go_enter Try.func55, Try.ntmps55
  go_wp2
  rw [Lib.run_to_unsafe w ⟨b, 0, none⟩ Try.underlying52 Try.underlying86 hj (by rw [hjs]; decide) hsh (Nat.zero_lt_succ 1)]
  simp only [Result.andThen]
  rw [Oper.upon_value]
  go_wp2
  rw [run_callFunc_extern Try.func58 (by kernel_rfl) (by kernel_rfl) (by kernel_rfl) (e := Extern.AbiNoEscape.same) (by kernel_rfl)]
  rw [Lib.run_noEscape]
  simp only [Result.andThen]
  rw [Oper.upon_value]
  go_wp2
  rw [Lib.run_from_unsafe w ⟨b, 0, none⟩ Try.underlying86 Try.underlying52 hj hsh Try.liesBld]
  simp only [Result.andThen]
  rw [Oper.upon_value]
  go_wp2
  go_end0
  exact ⟨rfl, rfl⟩
/-- The builder at block b holds the bytes l. -/
def Bld (B b : Nat) (l : List UInt8) (w : World) : Prop := Lib.IsBuilder 55 5 B b (Lib.byteCells l) w
/-- Blocks that are neither the builder nor a row of bytes stay as they are. -/
def Keeps (b : Nat) (w w' : World) : Prop := ∀ k t cs, t ≠ 5 → k ≠ b → Blk w k t cs → Blk w' k t cs
theorem Keeps.trans {b : Nat} {w1 w2 w3 : World} (h : Keeps b w1 w2) (h' : Keeps b w2 w3) : Keeps b w1 w3 := fun k t cs ht hk hb => h' k t cs ht hk (h k t cs ht hk hb)
theorem Keeps.below {b : Nat} {w w' : World} (h : Below w.heap.size w w') : Keeps b w w' := fun k t cs _ _ hb => hb.kept (h.block k hb.lt)
theorem check_any (B b : Nat) (bs : List Value) (w : World) (h : Lib.IsBuilder 55 5 B b bs w) :
    Calls Try.prog 55 #[.pointer (some ⟨b, 0, none⟩)] w fun e w' => e = .returned (.tuple #[]) ∧ (Lib.BuilderAt 55 5 B b (.pointer (some ⟨b, 0, none⟩)) bs w' ∧ Below B w w') ∧ Keeps b w w' := by
  rcases h with h | h
  · refine (check_fresh b w h.cell0 h.shape h.frozen0).mono ?_
    rintro e w' ⟨rfl, rfl⟩
    exact ⟨rfl, ⟨h.used _, (Below.refl B w).setCell (p := ⟨b, 0, none⟩) h.1 _⟩, fun k t cs _ hk hb => hb.other _ (fun e => hk e.symm) _⟩
  · refine (check_used b w h.cell0).mono ?_
    rintro e w' ⟨rfl, rfl⟩
    exact ⟨rfl, ⟨h, Below.refl B _⟩, fun k t cs _ _ hb => hb⟩
set_option maxHeartbeats 2000000 in
set_option maxRecDepth 100000 in
theorem writeString_any (B b : Nat) (l : List UInt8) (s : ByteArray) (w : World) (h : Bld B b l w) (hlen : l.length + s.size ≤ 140737488355328) (hBw : B ≤ w.heap.size) :
    Calls Try.prog 38 #[.pointer (some ⟨b, 0, none⟩), .string s] w fun e w' => (∃ v, e = .returned v) ∧ Bld B b (l ++ s.data.toList) w' ∧ Below B w w' ∧ Keeps b w w' := by
  obtain ⟨i0, hi, hz0, hz1, hz2⟩ := info_parts Try.infoU8
  have hll : (Lib.byteCells l).length = l.length := by simp [Lib.byteCells]
  go_enter Try.func38, Try.ntmps38
  go_wp2_with fail
  refine (check_any B b (Lib.byteCells l) _ h).mono ?_
  rintro e w1 ⟨rfl, ⟨h1, hb1⟩, hk1⟩
  obtain ⟨hB, v, hbk, hown, hne⟩ := h1
  have c0 : w1.cell? ⟨b, 0, none⟩ = some (.pointer (some ⟨b, 0, none⟩)) := by rw [Lib.cell_of_heap hbk]; rfl
  have c1 : w1.cell? ⟨b, 1, none⟩ = some v := by rw [Lib.cell_of_heap hbk]; rfl
  go_wp2_with (at_builtin; refine Lib.wpList_append_own_string _ rfl _ _ 53 9 rfl B 5 i0 Try.underlying53 Try.underlying9 hi hz0 hz1 hz2 _ _ _ rfl hown s rfl ?c3 ?c4 ?c5 ?_)
  case c3 => unfold maxLen; omega
  case c4 => omega
  case c5 => have := hb1.size; omega
  intro v' w2 hown' hgrow _
  have hlt : b < w1.heap.size := by
    rcases Nat.lt_or_ge b w1.heap.size with h' | h'
    · exact h'
    · simp [Array.getElem?_eq_none h'] at hbk
  have hb2 : w2.heap[b]? = some (.cells #[.pointer (some ⟨b, 0, none⟩), v] 55 (0, 0)) := by
    rw [hgrow.block b hlt (fun e => hne e.symm)]
    exact hbk
  have d0 : w2.cell? ⟨b, 0, none⟩ = some (.pointer (some ⟨b, 0, none⟩)) := by rw [Lib.cell_of_heap hb2]; rfl
  have d1 : w2.cell? ⟨b, 1, none⟩ = some v := by rw [Lib.cell_of_heap hb2]; rfl
  have f1 : w2.frozen? ⟨b, 1, none⟩ = false := Lib.frozen_of_heap hb2 1
  obtain ⟨ao, n', cap, rfl⟩ : ∃ ao n' cap, v' = .slice ao n' cap := by
    rcases hown'.2 with ⟨hv, _⟩ | ⟨g, cap, cur, hv, _⟩
    · exact ⟨_, _, _, hv⟩
    · exact ⟨_, _, _, hv⟩
  go_wp2
  go_ret2
  refine ⟨⟨_, rfl⟩, .inr ?_, ?_, ?_⟩
  · have := Lib.BuilderAt.put (T := 55) (e := 5) hB hb2 (bs' := Lib.byteCells l ++ Lib.strCells s) (by rw [List.length_append, Lib.strCells_length]; first | exact hown' | (rw [hll]; exact hown')) (by decide)
    have e : Lib.byteCells (l ++ s.data.toList) = Lib.byteCells l ++ Lib.strCells s := by simp [Lib.byteCells, Lib.strCells]
    rw [e]
    exact this
  · exact (hb1.grown hgrow (by have := hb1.size; omega) (fun k hk => (hown.lt k hk).1)).setCell (p := ⟨b, 1, none⟩) hB _
  · intro k t cs ht hk hbk'
    have hb1' := hk1 k t cs ht hk hbk'
    have hb2' : Blk w2 k t cs := hb1'.kept (hgrow.block k hb1'.lt (fun e => Lib.ownBlock_ne hown hb1' ht e.symm))
    exact hb2'.other _ (fun e => hk e.symm) _
end Go.Proofs.Ytfplajafekpccaa
