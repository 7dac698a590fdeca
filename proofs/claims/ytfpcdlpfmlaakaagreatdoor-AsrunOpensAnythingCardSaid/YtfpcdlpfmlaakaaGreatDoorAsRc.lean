/-
  few, log and the reference's Same, of package asrun's laws.
-/
import Derived.Laws.StructEq
import Derived.Test.YtfpcdlpfmlaakaaGreatDoorAsRb
import Derived.Test.YtfpcdlpfmlaakaaGreatDoorAsRd
import Derived.Test.YtfpcdlpfmlaakaaGreatDoorAsP
set_option linter.unusedVariables false
set_option linter.unusedSimpArgs false
namespace Go.Proofs.YtfpcdlpfmlaakaaGreatDoor
open Go.RowKit Onair
attribute [local go_sem ↓] Go.wp_at_zero Go.wp_at_succ
theorem take_snoc {α : Type} (l : List α) (k : Nat) (x : α) (h : l[k]? = some x) : l.take (k + 1) = l.take k ++ [x] := by
  rw [List.take_add_one, h]
  rfl
/-- few returns the records of the first six quads. -/
theorem few_any (oa : Option Addr) (c : Nat) (l : List Qd) (w : World) (hlm : l.length ≤ maxLen) (hI : ∀ q ∈ l, QdI q) (hr : RdQ w oa l) :
    Calls Tryz.prog 11 #[.slice oa l.length c] w (CloP w.heap.size w (fewL l)) := by
  unfold maxLen at hlm
  have HR := Lib.hid hr
  have HI := Lib.hid hI
  obtain ⟨n, hn⟩ : ∃ n, l.length = n := ⟨_, rfl⟩
  rw [hn] at hlm ⊢
  have HN := Lib.hid hn
  clear hr hI hn
  go_enter Tryz.func11, Tryz.ntmps11
  go_wp2_with fail
  go_loopw [3, 4] (fun v i wr => ∃ (k : Nat) (ob : Option Addr) (cb : Nat), k ≤ n ∧ k ≤ 6 ∧ i = .int .i64 k ∧ v = .slice ob k cb ∧ Hid (wr.ownsRow w.heap.size 62 6 (.slice ob k cb) ((l.take k).map mkR).length (rcells ((l.take k).map mkR))) ∧ Hid (Below w.heap.size w wr)) (fun _ i _ => n - (intOf i).toNat)
  case atStart => exact ⟨0, none, 0, Nat.zero_le _, Nat.zero_le _, rfl, rfl, World.ownsRow_nil _ _ _ _, Below.refl _ _⟩
  case round =>
    obtain ⟨k, ob, cb, hkl, hk, rfl, rfl, HO, HB⟩ := hrel
    by_cases h : k < n ∧ k < 6
    · obtain ⟨h1, h2⟩ := h
      have q1 : (k : Int) < (n : Int) := by omega
      have q2 : (k : Int) < 6 := by omega
      obtain ⟨q, hq⟩ : ∃ q, l[k]? = some q := ⟨l[k]'(by rw [HN.out]; exact h1), List.getElem?_eq_getElem _⟩
      obtain ⟨b, off, rfl, hb, hc⟩ := (HR.out).resolve_left (by intro e; rw [e] at hq; simp at hq)
      obtain ⟨c0, c1, c2, c3⟩ := hc k q hq
      have u := fun j => HB.out.cell (p := ⟨b, j, none⟩) hb
      rw [← u] at c0 c1 c2 c3
      rw [← Nat.add_assoc] at c1 c2 c3
      have hm := make_any q wr (HI.out q (List.mem_of_getElem? hq))
      obtain ⟨⟨a0, a1, a2, a3, a4, a5⟩, hR⟩ : ∃ r, mkR q = r := ⟨_, rfl⟩
      rw [hR] at hm
      dsimp only [recA, Qd.arr] at hm
      have htk : (l.take (k + 1)).map mkR = (l.take k).map mkR ++ [⟨a0, a1, a2, a3, a4, a5⟩] := by
        rw [take_snoc l k q hq, List.map_append, ← hR]
        rfl
      have hlk : ((l.take k).map mkR).length = k := by rw [List.length_map, List.length_take, HN.out]; omega
      obtain ⟨L, hL⟩ : ∃ L, (l.take k).map mkR = L := ⟨_, rfl⟩
      rw [hL] at htk HO hlk
      rw [hlk] at HO
      have HTK := Lib.hid htk
      have HLK := Lib.hid hlk
      have HM := Lib.hid hm
      have hWr := HB.out.size
      obtain ⟨i0, hi, hz0, hz1, hz2⟩ := info_parts Tryz.infoRec
      clear u hc hq hR hm htk hlk hL
      go_wp2_with fail
      refine HM.out.mono ?_
      rintro e W9 ⟨rfl, hbm⟩
      have own9 : W9.ownsRow w.heap.size 62 6 (.slice ob k cb) k (rcells L) := ownsRow_keptF HO.out (fun k e => hbm.block k (own_lt HO.out k e))
      have HB9 : Hid (Below w.heap.size w W9) := HB.out.trans (hbm.mono hWr)
      have hW9 := HB9.out.size
      clear HM HO hbm HB c0 c1 c2 c3
      go_wp2_with (at_builtin; refine wpList_append_own _ rfl _ _ 38 rfl w.heap.size 62 i0 (.agg #[.int .i64 0, .int .i64 0, .int .i64 0, .int .i64 0, .int .i64 0, .int .i64 0]) 6 48 Tryz.underlying38 hi hz0 hz1 hz2 rfl (by decide) _ _ _ rfl (own9.alloc _) ⟨W9.heap.size, 0, none⟩ 1 1 [.int .i64 a0, .int .i64 a1, .int .i64 a2, .int .i64 a3, .int .i64 a4, .int .i64 a5] rfl ?qa1 ?qa2 ?qa3 ?qa4 ?qa5 ?qa6 ?_)
      all_goals first | (unfold maxLen; omega) | omega | (refine ⟨rfl, rfl, rfl, rfl, ?_⟩; rfl) | (refine ⟨rfl, rfl, rfl, rfl, rfl, ?_⟩; rfl) | rfl | (intro j u hj; rw [add_at, (Blk.new W9 62 [.int .i64 a0, .int .i64 a1, .int .i64 a2, .int .i64 a3, .int .i64 a4, .int .i64 a5]).cell]; exact hj) | (rw [World.size_alloc]; omega) | (intro u hu; simp only [List.mem_cons, List.not_mem_nil, or_false] at hu; rcases hu with rfl | rfl | rfl | rfl | rfl | rfl <;> rfl) | skip
      rintro v' w3 hown3 hgrow3 hnil3
      have HB3 : Hid (Below w.heap.size w w3) := (HB9.out.alloc hW9 _).grown hgrow3 (by simp; omega) (fun k e => by have := own_ge own9 k e; omega)
      obtain ⟨oa3, cap3, rfl⟩ := own_slice hown3
      have HO3 := Lib.hid hown3
      clear hown3 hgrow3 hnil3 own9
      go_wp2_with fail
      go_roundw
      case rel => exact ⟨k + 1, oa3, cap3, by omega, by omega, by go_num, rfl, by rw [HTK.out, List.length_append, HLK.out, ← rcells_snoc]; exact HO3.out, HB3⟩
      case measure => simp [intOf]; omega
    · rcases (show (¬ (k : Int) < (n : Int)) ∨ ((k : Int) < (n : Int) ∧ ¬ (k : Int) < 6) from by omega) with h1 | ⟨h1, h2⟩
      all_goals
        have e : (l.take k).map mkR = fewL l := by
          unfold fewL
          congr 1
          first
            | rw [List.take_of_length_le (by rw [HN.out]; omega), List.take_of_length_le (by rw [HN.out]; omega)]
            | rw [show k = 6 by omega]
        have hl : (fewL l).length = k := by rw [← e, List.length_map, List.length_take, HN.out]; omega
        have HO2 := HO
        rw [e] at HO2
        have HL := Lib.hid hl
        clear h e hl HO
        go_wp2_with fail
        go_ret
        exact ⟨ob, cb, by rw [HL.out]; rfl, by rw [HL.out]; rw [HL.out] at HO2; exact HO2.out, HB.out⟩
end Go.Proofs.YtfpcdlpfmlaakaaGreatDoor
