/-
  The walk of Extension.
-/
import Derived.WalkKit
import Derived.LoopTactic
import Derived.WalkSpells
import Derived.WalkLawsBesides
import Derived.IntWalk
import Derived.Outline
import Derived.Lib.Hide
import Derived.Test.YtfpcdlpfmlaakaaDoorAsMN
set_option linter.unusedVariables false
set_option linter.unusedSimpArgs false
namespace Go.Proofs.YtfpcdlpfmlaakaaDoor
open Go.RowKit Onair
set_option maxRecDepth 100000 in
theorem extension_any (W : World) (B2 b bl : Nat) (vr ve : Value) (R : List Rec) (br : Bool) (m : Nat) (hn : R.length ≤ 10000) (hm : m ≤ R.length) (ht : TabAt W) (hl : LgAt W B2 bl b vr ve R br) :
    Calls Tryd.prog 41 #[.pointer (some ⟨bl, 0, none⟩), .int .i64 (m : Int)] W fun e w' => ∃ oa cap, e = .returned (.tuple #[.slice oa (extP (entR R) m).length cap, .int .i64 0]) ∧ (extP (entR R) m).length ≤ cap ∧ cap ≤ 9223372036854775807 ∧ RdS w' oa (extP (entR R) m) ∧ Below W.heap.size W w' := by
  have c2 := hl.blk.cell 2
  simp only [List.getElem?_cons_zero, List.getElem?_cons_succ] at c2
  obtain ⟨oa, cap, rfl⟩ := own_slice hl.ents
  obtain ⟨h1, h2, h3, h4⟩ := hl.ents_rd
  have HC := Lib.hid (ext_all (entR R) oa (entR R).length cap m W rfl h2 h3 (by rw [entR_len]; exact hn) (by rw [entR_len]; exact hm) (fun x hx => Nat.le_trans (entF_sz R zero32 x hx) (by decide)) h4 ht)
  have HL := Lib.hid hl
  clear hl ht h1 h2 h3 h4
  generalize (entR R).length = z at HC c2 HL
  generalize extP (entR R) m = P at HC ⊢
  go_enter Tryd.func41, Tryd.ntmps41
  go_wp2_with fail
  refine (absent_no W B2 bl b vr _ R br HL.out).mono ?_
  rintro e w' ⟨rfl, rfl⟩
  go_wp2_with fail
  refine HC.out.mono ?_
  rintro e w' ⟨oa', cap', rfl, p1, p2, p3, p4⟩
  have P3 := Lib.hid p3
  have P4 := Lib.hid p4
  clear p3 p4
  go_wp2_with fail
  go_ret2
  exact ⟨oa', cap', rfl, p1, p2, P3.out, P4.out⟩
theorem extension_out (W : World) (B2 b bl : Nat) (vr ve : Value) (R : List Rec) (br : Bool) (hn : R.length ≤ 10000) (hl : LgAt W B2 bl b vr ve R br) :
    Calls Tryd.prog 41 #[.pointer (some ⟨bl, 0, none⟩), .int .i64 ((R.length : Int) + 1)] W fun e w' => e = .returned (.tuple #[.slice none 0 0, .int .i64 2]) ∧ W = w' := by
  have c2 := hl.blk.cell 2
  simp only [List.getElem?_cons_zero, List.getElem?_cons_succ] at c2
  obtain ⟨oa, cap, rfl⟩ := own_slice hl.ents
  rw [entR_len] at c2
  have HC := Lib.hid (ext_out oa R.length cap ((R.length : Int) + 1) W (by omega) (.inr (by omega)))
  have HL := Lib.hid hl
  clear hl
  generalize R.length = z at HC c2 ⊢
  go_enter Tryd.func41, Tryd.ntmps41
  go_wp2_with fail
  refine (absent_no W B2 bl b vr _ R br HL.out).mono ?_
  rintro e w' ⟨rfl, rfl⟩
  go_wp2_with fail
  refine HC.out.mono ?_
  rintro e w' ⟨rfl, rfl⟩
  go_wp2_with fail
  go_ret2
  exact ⟨rfl, rfl⟩
end Go.Proofs.YtfpcdlpfmlaakaaDoor
