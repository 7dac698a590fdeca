/- The builder's copyCheck and WriteString. -/
import Derived.WalkKit
import Derived.LoopTactic
import Derived.WalkSpells
import Derived.WalkLawsBesides
import Derived.RegionTactic
import Derived.BigRegion
import Derived.Deep.QuietTactic
import Derived.BigQuiet
import Derived.IntWalk
import Derived.Outline
import Derived.Lib.Builder
import Derived.Lib.AppendStr
import Derived.Laws.Externs
import Derived.Shelf.Strings.Builder1
import Derived.Lib.Strings
import Derived.Lib.UnsafeStr
import Derived.Test.YtjkiidhnmljmbaaGreatDoorWaA
import Derived.Deep.CutBlock
import Derived.WalkMore
import Derived.Test.YtjkiidhnmljmbaaGreatDoorOrAC
set_option linter.unusedVariables false
set_option linter.unusedSimpArgs false
set_option maxRecDepth 100000
set_option maxHeartbeats 4000000
namespace Go.Proofs.YtjkiidhnmljmbaaGreatDoor
open Go.RowKit Onair
theorem Tryz.infoU8 : (Tryz.prog.info? 5).map (fun i => (i.zero, i.size, i.bytes)) = some (some (.int .u8 0), 1, 1) := by kernel_rfl
theorem ownsRow_kept {W W' : World} {B : Nat} {e : TypeId} {size : Nat} {v : Value} {n : Nat} {xs : List Value} (h : W.ownsRow B e size v n xs) (hk : ∀ g, v.ownBlock = some g → W'.heap[g]? = W.heap[g]?) : W'.ownsRow B e size v n xs := by
 refine ⟨h.1, ?_⟩
 rcases h.2 with h2 | ⟨g, cap, cur, q1, q2, q3, q4⟩
 ·exact .inl h2
 ·exact .inr ⟨g, cap, cur, q1, q2, (hk g (by rw [q1]; rfl)).trans q3, q4⟩
theorem Tryz.sizeBld : (Tryz.prog.info? 77).map (·.size) = some 2 := by kernel_rfl
theorem Tryz.liesBld : liesAt Tryz.prog Tryz.prog.depth 77 (2 / Tryz.prog.cellsOf 77) 0 77 1 = true := by kernel_rfl
theorem check_used (b : Nat) (w : World) (h0 : w.cell? ⟨b, 0, none⟩ = some (.pointer (some ⟨b, 0, none⟩))) :
  Calls Tryz.prog 66 #[.pointer (some ⟨b, 0, none⟩)] w fun e w' => e = .returned (.tuple #[]) ∧ w' = w := by
 obtain ⟨j, hj, _⟩ := Option.map_eq_some_iff.1 Tryz.sizeBld
 go_enter Tryz.func66, Tryz.ntmps66
 go_wp2
 rw [Lib.run_neq_ptr_same w _ Tryz.underlying74 hj]
 go_wp2
 go_end0
 exact ⟨rfl, rfl⟩
theorem check_fresh (b : Nat) (w : World) (h0 : w.cell? ⟨b, 0, none⟩ = some (.pointer none)) (hsh : w.shape? b = some (77, 2)) (hfz : w.frozen? ⟨b, 0, none⟩ = false) :
  Calls Tryz.prog 66 #[.pointer (some ⟨b, 0, none⟩)] w fun e w' => e = .returned (.tuple #[]) ∧ w' = w.setCell ⟨b, 0, none⟩ (.pointer (some ⟨b, 0, none⟩)) := by
 obtain ⟨j, hj, hjs⟩ := Option.map_eq_some_iff.1 Tryz.sizeBld
 go_enter Tryz.func66, Tryz.ntmps66
 go_wp2
 rw [Lib.run_to_unsafe w ⟨b, 0, none⟩ Tryz.underlying74 Tryz.underlying165 hj (by rw [hjs]; decide) hsh (Nat.zero_lt_succ 1)]
 simp only [Result.andThen]
 rw [Oper.upon_value]
 go_wp2
 rw [run_callFunc_extern Tryz.func92 (by kernel_rfl) (by kernel_rfl) (by kernel_rfl) (e := Extern.AbiNoEscape.same) (by kernel_rfl)];rw [Lib.run_noEscape]
 simp only [Result.andThen]
 rw [Oper.upon_value]
 go_wp2
 rw [Lib.run_from_unsafe w ⟨b, 0, none⟩ Tryz.underlying165 Tryz.underlying74 hj hsh Tryz.liesBld]
 simp only [Result.andThen]
 rw [Oper.upon_value]
 go_wp2
 go_end0
 exact ⟨rfl, rfl⟩
def Bld (B b : Nat) (l : List UInt8) (w : World) : Prop := Lib.IsBuilder 77 5 B b (Lib.byteCells l) w
def Keeps (b : Nat) (w w' : World) : Prop := ∀ k t cs, t ≠ 5 → k ≠ b → Blk w k t cs → Blk w' k t cs
theorem Keeps.trans {b : Nat} {w1 w2 w3 : World} (h : Keeps b w1 w2) (h' : Keeps b w2 w3) : Keeps b w1 w3 := fun k t cs ht hk hb => h' k t cs ht hk (h k t cs ht hk hb)
theorem Keeps.below {b : Nat} {w w' : World} (h : Below w.heap.size w w') : Keeps b w w' := fun k t cs _ _ hb => hb.kept (h.block k hb.lt)
theorem check_any (B b : Nat) (bs : List Value) (w : World) (h : Lib.IsBuilder 77 5 B b bs w) :
  Calls Tryz.prog 66 #[.pointer (some ⟨b, 0, none⟩)] w fun e w' => e = .returned (.tuple #[]) ∧ (Lib.BuilderAt 77 5 B b (.pointer (some ⟨b, 0, none⟩)) bs w' ∧ Below B w w') ∧ Keeps b w w' := by
 rcases h with h | h
 ·refine (check_fresh b w h.cell0 h.shape h.frozen0).mono ?_
  rintro e w' ⟨rfl, rfl⟩
  exact ⟨rfl, ⟨h.used _, (Below.refl B w).setCell (p := ⟨b, 0, none⟩) h.1 _⟩, fun k t cs _ hk hb => hb.other _ (fun e => hk e.symm) _⟩
 ·refine (check_used b w h.cell0).mono ?_
  rintro e w' ⟨rfl, rfl⟩
  exact ⟨rfl, ⟨h, Below.refl B _⟩, fun k t cs _ _ hb => hb⟩
theorem writeString_any (B b : Nat) (l : List UInt8) (s : ByteArray) (w : World) (h : Bld B b l w) (hlen : l.length + s.size ≤ 140737488355328) (hBw : B ≤ w.heap.size) :
  Calls Tryz.prog 30 #[.pointer (some ⟨b, 0, none⟩), .string s] w fun e w' => (∃ v, e = .returned v) ∧ Bld B b (l ++ s.data.toList) w' ∧ Below B w w' ∧ Keeps b w w' := by
 obtain ⟨i0, hi, hz0, hz1, hz2⟩ := info_parts Tryz.infoU8
 have hll : (Lib.byteCells l).length = l.length := by simp [Lib.byteCells]
 go_enter Tryz.func30, Tryz.ntmps30
 go_wp2_with fail
 refine (check_any B b (Lib.byteCells l) _ h).mono ?_
 rintro e w1 ⟨rfl, ⟨h1, hb1⟩, hk1⟩
 obtain ⟨hB, v, hbk, hown, hne⟩ := h1
 have c0 : w1.cell? ⟨b, 0, none⟩ = some (.pointer (some ⟨b, 0, none⟩)) := by rw [Lib.cell_of_heap hbk]; rfl
 have c1 : w1.cell? ⟨b, 1, none⟩ = some v := by rw [Lib.cell_of_heap hbk]; rfl
 go_wp2_with (at_builtin; refine Lib.wpList_append_own_string _ rfl _ _ 75 9 rfl B 5 i0 Tryz.underlying75 Tryz.underlying9 hi hz0 hz1 hz2 _ _ _ rfl hown s rfl ?c3 ?c4 ?c5 ?_)
 case c3 => unfold maxLen; omega
 case c4 => omega
 case c5 => have := hb1.size; omega
 intro v' w2 hown' hgrow _
 have hlt : b < w1.heap.size := by
  rcases Nat.lt_or_ge b w1.heap.size with h' | h'
  ·exact h'
  ·simp [Array.getElem?_eq_none h'] at hbk
 have hb2 : w2.heap[b]? = some (.cells #[.pointer (some ⟨b, 0, none⟩), v] 77 (0, 0)) := by
  rw [hgrow.block b hlt (fun e => hne e.symm)];exact hbk
 have d0 : w2.cell? ⟨b, 0, none⟩ = some (.pointer (some ⟨b, 0, none⟩)) := by rw [Lib.cell_of_heap hb2]; rfl
 have d1 : w2.cell? ⟨b, 1, none⟩ = some v := by rw [Lib.cell_of_heap hb2]; rfl
 have f1 : w2.frozen? ⟨b, 1, none⟩ = false := Lib.frozen_of_heap hb2 1
 obtain ⟨ao, n', cap, rfl⟩ : ∃ ao n' cap, v' = .slice ao n' cap := by
  rcases hown'.2 with ⟨hv, _⟩ | ⟨g, cap, cur, hv, _⟩
  ·exact ⟨_, _, _, hv⟩
  ·exact ⟨_, _, _, hv⟩
 go_wp2
 go_ret2
 refine ⟨⟨_, rfl⟩, .inr ?_, ?_, ?_⟩
 ·have := Lib.BuilderAt.put (T := 77) (e := 5) hB hb2 (bs' := Lib.byteCells l ++ Lib.strCells s) (by rw [List.length_append, Lib.strCells_length]; first | exact hown' | (rw [hll]; exact hown')) (by decide)
  have e : Lib.byteCells (l ++ s.data.toList) = Lib.byteCells l ++ Lib.strCells s := by simp [Lib.byteCells, Lib.strCells]
  rw [e];exact this
 ·exact (hb1.grown hgrow (by have := hb1.size; omega) (fun k hk => (hown.lt k hk).1)).setCell (p := ⟨b, 1, none⟩) hB _
 ·intro k t cs ht hk hbk'
  have hb1' := hk1 k t cs ht hk hbk'
  have hb2' : Blk w2 k t cs := hb1'.kept (hgrow.block k hb1'.lt (fun e => Lib.ownBlock_ne hown hb1' ht e.symm))
  exact hb2'.other _ (fun e => hk e.symm) _
theorem BldAt.below {T e : TypeId} {B b : Nat} {p : Value} {bs : List Value} {w w' : World} (h : Lib.BuilderAt T e B b p bs w) (hb : Below w.heap.size w w') : Lib.BuilderAt T e B b p bs w' := by
 have hlt := h.lt
 obtain ⟨hB, v, hbk, hown, hne⟩ := h
 refine ⟨hB, v, (hb.block b hlt).trans hbk, ownsRow_kept hown (fun g hg => hb.block g ?_), hne⟩
 rcases hown.2 with ⟨rfl, _⟩ | ⟨g', cap, cur, rfl, _, h2, _⟩
 ·simp [Value.ownBlock] at hg
 ·simp [Value.ownBlock] at hg
  subst hg
  exact (Array.getElem?_eq_some_iff.1 h2).1
theorem Bld.below {B b : Nat} {l : List UInt8} {w w' : World} (h : Bld B b l w) (hb : Below w.heap.size w w') : Bld B b l w' := by
 rcases h with h | h
 ·exact .inl (BldAt.below h hb)
 ·exact .inr (BldAt.below h hb)
open Go.RowKit Onair
theorem freeze_block (w : World) (g n : Nat) (k : Nat) (hk : k ≠ g) : (w.freeze ⟨g, 0, none⟩ n).heap[k]? = w.heap[k]? := by
 unfold World.freeze
 split
 ·rfl
 ·simp only [Array.getElem?_modify]
  rw [if_neg (fun e => hk e.symm)]
theorem Keeps.freeze {b g n : Nat} {w : World} (cs : Array Value) (fz : Nat × Nat) (hg : w.heap[g]? = some (.cells cs 5 fz)) : Keeps b w (w.freeze ⟨g, 0, none⟩ n) := by
 intro k t l ht hk hb
 show _ = _
 rw [freeze_block w g n k (fun e => ?_)]
 ·exact hb
 ·subst e
  have h2 : w.heap[k]? = _ := hb
  rw [hg] at h2
  cases h2
  exact ht rfl
theorem string_keeps (B b : Nat) (l : List UInt8) (w : World) (h : Bld B b l w) (h0 : l ≠ []) :
  Calls Tryz.prog 33 #[.pointer (some ⟨b, 0, none⟩)] w fun e w' => e = .returned (.string ⟨l.toArray⟩) ∧ Below B w w' ∧ Keeps b w w' := by
 obtain ⟨p, hB, v, hbk, hown, hne⟩ : ∃ p, Lib.BuilderAt 77 5 B b p (Lib.byteCells l) w := by
  rcases h with h | h
  ·exact ⟨_, h⟩
  ·exact ⟨_, h⟩
 have hl0 : l.length ≠ 0 := by simpa using h0
 rw [Lib.byteCells_length] at hown
 obtain ⟨g, cap, cur, rfl, hbg, hg, hnc, hcm, hcs, htake⟩ : ∃ g cap cur, v = .slice (some ⟨g, 0, none⟩) l.length cap ∧ B ≤ g ∧ w.heap[g]? = some (.cells cur 5 (0, 0)) ∧ l.length ≤ cap ∧ cap ≤ maxLen ∧ cur.size = cap * 1 ∧ cur.toList.take (l.length * 1) = Lib.byteCells l := by
  rcases hown.2 with ⟨_, hz⟩ | ⟨g, cap, cur, hv, r⟩
  ·exact absurd hz hl0
  ·exact ⟨g, cap, cur, hv, r⟩
 have c1 : w.drew.cell? ⟨b, 1, none⟩ = some (.slice (some ⟨g, 0, none⟩) l.length cap) := by
  have : w.drew.heap[b]? = some (.cells #[p, .slice (some ⟨g, 0, none⟩) l.length cap] 77 (0, 0)) := hbk
  rw [Lib.cell_of_heap this]
  rfl
 have hg' : w.drew.heap[g]? = some (.cells cur 5 (0, 0)) := hg
 have hSD : ∀ ty, (Builtin.unsafeSliceData_ #[75] ty #[.slice (some ⟨g, 0, none⟩) l.length cap]).run Tryz.prog w.drew = .ok (.pointer (some ⟨g, 0, none⟩)) w.drew :=
  fun ty => Lib.run_unsafeSliceData_row _ _ _ _ _ _ (by omega)
 have hUS : ∀ ty, (Builtin.unsafeString_ #[141, 3] ty #[.pointer (some ⟨g, 0, none⟩), .int .i64 l.length]).run Tryz.prog w.drew = .ok (.string ⟨l.toArray⟩) (w.drew.freeze ⟨g, 0, none⟩ l.length) := by
  intro ty
  refine Lib.run_unsafeString_row w.drew 141 3 ty 5 Tryz.underlying141 (by kernel_rfl) g cur.size (by simp [World.shape?, hg']) l h0 (by omega) (by unfold maxLen at hcm; omega) ?_
  intro j x hx
  exact hown.cells (g := g) rfl j (.int .u8 x.toNat) (by simp [Lib.byteCells, hx])
 have HFIN : Hid (Below B w (w.drew.freeze ⟨g, 0, none⟩ l.length) ∧ Keeps b w (w.drew.freeze ⟨g, 0, none⟩ l.length)) :=
  ⟨Lib.below_freeze (Below.drew (Below.refl B w)) (p := ⟨g, 0, none⟩) hbg _, (Keeps.below (Below.drew (Below.refl _ w))).trans (Keeps.freeze cur (0, 0) hg')⟩
 clear hown hbk hg hg' htake h
 go_enter Tryz.func33, Tryz.ntmps33
 go_wp2
 go_region
 all_goals (go_wp2; go_ret; exact ⟨rfl, HFIN.out⟩)
def encI (l : List Int) : List UInt8 := l.flatMap putL
theorem encI_snoc (l : List Int) (j : Nat) (x : Int) (h : l[j]? = some x) : encI (l.take (j + 1)) = encI (l.take j) ++ putL x := by
 rw [List.take_add_one, h]
 simp [encI]
theorem encI_len (l : List Int) : (encI l).length ≤ 9 * l.length := by
 induction l with
 | nil => exact Nat.le_refl _
 | cons x l ih =>
  have := putL_len x
  simp only [encI, List.flatMap_cons, List.length_append, List.length_cons] at *
  omega
theorem putO_any (B b : Nat) (l : List UInt8) (x : Int) (w : World) (h : Bld B b l w) (hlen : l.length ≤ 1000000000) (hBw : B ≤ w.heap.size) :
  Calls Tryz.prog 67 #[.int .i64 x, .pointer (some ⟨b, 0, none⟩)] w fun e w' => (∃ v, e = .returned v) ∧ Bld B b (l ++ putL x) w' ∧ Below B w w' ∧ Keeps b w w' := by
 have H := Lib.hid h;clear h
 have hpl := putL_len x
 go_enter Tryz.func67, Tryz.ntmps67
 go_wp2_with fail
 refine (putInt_any x w).mono ?_
 rintro e w1 ⟨rfl, hb1⟩
 have H1 := Lib.hid (H.out.below hb1)
 have HB1 := Lib.hid hb1
 have hsz := hb1.size
 clear hb1
 go_wp2_with fail
 refine (writeString_any B b l ⟨(putL x).toArray⟩ w1 H1.out (by show l.length + (putL x).toArray.size ≤ _; rw [List.size_toArray]; omega) (by omega)).mono ?_
 rintro e w2 ⟨⟨v, rfl⟩, h2, hb2, hk2⟩;have H2 := Lib.hid h2
 have HB2 : Hid (Below B w w2) := (HB1.out.mono hBw).trans hb2
 have HK2 : Hid (Keeps b w w2) := (Keeps.below HB1.out).trans hk2
 clear h2 hb2 hk2
 go_wp2_with fail
 go_end0
 exact ⟨⟨_, rfl⟩, H2.out, HB2.out, HK2.out⟩
theorem numbers_drop (g : Nat) (W : World) (h : W.cell? ⟨g, 3, none⟩ = some (.int .i64 2)) : Calls Tryz.prog 68 #[.pointer (some ⟨g, 0, none⟩)] W fun e w' => ∃ nb, e = .returned (.slice (some ⟨nb, 0, none⟩) 1 1) ∧ Blk w' nb 97 [.pointer (some ⟨g, 4, none⟩)] ∧ W.heap.size ≤ nb ∧ Below W.heap.size W w' := by
 go_enter Tryz.func68, Tryz.ntmps68
 go_wp2_with fail
 go_ret
 exact ⟨_, rfl, Blk.new W _ _, Nat.le_refl _, (Below.refl _ _).alloc (Nat.le_refl _) _⟩
def encDr (s f : Int) : List UInt8 := encI [s, -1, f, 2] ++ encI [1]
theorem encD_any (s f : Int) (W : World) (s0 : 0 ≤ s) (s1 : s ≤ 200) (f0 : 0 ≤ f) (f1 : f ≤ 100000000) :
  Calls Tryz.prog 31 #[.agg (drA s f)] W fun e w' => e = .returned (.tuple #[.string ⟨(encDr s f).toArray⟩, .int .i64 0]) ∧ Below W.heap.size W w' := by
 have hmf : ∀ (fn : Fn) (first cap : Array Value) (w : World), (Instr.makeFunc fn first cap).run Tryz.prog w = .ok (.func fn first cap) w := fun _ _ _ _ => rfl
 obtain ⟨N, w1, hN, hw1, hb1, hk1⟩ := bx W (drA s f) (drA s f).toList 30 rfl
 have HSZ := szO
 have HR1 := Lib.hid hk1.range;have HK1 := Lib.hid hk1;have HN := Lib.hid hN;have HB1 := Lib.hid hb1
 have HVL := Lib.hid (fun W' => valid_drop s f W' s0 s1 f0 f1)
 dsimp only [drA, ordA] at hw1
 dsimp only [drA, ordA]
 clear hb1 hk1
 go_enter Tryz.func31, Tryz.ntmps31
 go_wp2_with (refine wpList_load_mid rfl 30 (.tmp 1) rfl N 0 rfl (drA s f).toList _ HR1.out Tryz.underlying30 rfl HSZ.out ?_)
 refine (HVL.out _).mono ?_
 rintro e w2 ⟨rfl, hb2⟩
 have HK2 := Lib.hid (HK1.out.kept (hb2.block N HK1.out.lt))
 have HB2 : Hid (Below N W w2) := HB1.out.trans (hb2.mono (bnl9 HN.out HB1.out))
 obtain ⟨b, hb⟩ : ∃ b, w2.heap.size = b := ⟨_, rfl⟩
 have HNb : Hid (N < b) := (by rw [← hb]; exact HK2.out.lt : N < b)
 obtain ⟨w3, hw3⟩ : ∃ w3, w2.alloc (.cells #[.pointer none, .slice none 0 0] 77) = w3 := ⟨_, rfl⟩
 have hbl3 : Bld b b [] w3 := by rw [← hw3, ← hb]; exact Lib.fresh_isBuilder _ _ w2
 have hb3 : Below b w2 w3 := by rw [← hw3, ← hb]; exact (Below.refl _ w2).alloc (Nat.le_refl _) _
 have hz3 : w3.heap.size = b + 1 := by rw [← hw3, World.size_alloc, hb]
 have hk3 := HK2.out.kept (hb3.block N HNb.out)
 have c0 := hk3.cell 0
 have c1 := hk3.cell 1
 have c2 := hk3.cell 2
 have c3 := hk3.cell 3
 obtain ⟨w4, hw4⟩ : ∃ w4, w3.alloc (.cells #[.int .i64 s, .int .i64 (-1), .int .i64 f, .int .i64 2] 3) = w4 := ⟨_, rfl⟩
 have hk4 : Blk w4 (b + 1) 3 [.int .i64 s, .int .i64 (-1), .int .i64 f, .int .i64 2] := by rw [← hw4, ← hz3]; exact Blk.new w3 _ _
 have hb4 : Below w3.heap.size w3 w4 := by rw [← hw4]; exact (Below.refl _ w3).alloc (Nat.le_refl _) _
 have HBL4 := Lib.hid (hbl3.below hb4)
 have HB4 : Hid (Below b w2 w4) := hb3.trans (hb4.mono (by omega))
 have HK4 := Lib.hid hk4
 have HZ4 : Hid (b ≤ w4.heap.size) := (by have := hb4.size; omega : b ≤ w4.heap.size)
 have HBB := Lib.hid hb
 dsimp only [drA, ordA, Array.toList] at c0 c1 c2 c3
 simp only [gz, gs] at c0 c1 c2 c3
 clear hb2 HR1 HVL hbl3 hb3 hk3 hk4 hb4
 go_wp2_with fail
 clear c0 c1 c2 c3 hw3 hw4 hz3 hb hw1
 go_loopw [28] (fun vi wr => ∃ (j : Nat), j ≤ 4 ∧ vi = .int .i64 j ∧ Hid (Bld b b (encI ([s, -1, f, 2].take j)) wr) ∧ Hid (Blk wr (b + 1) 3 [.int .i64 s, .int .i64 (-1), .int .i64 f, .int .i64 2]) ∧ Hid (Below b w2 wr)) (fun v _ => 4 - (intOf v).toNat)
 case atStart => exact ⟨0, by omega, rfl, HBL4, HK4, HB4⟩
 case round =>
  clear HBL4 HK4 HB4 HZ4
  obtain ⟨j, hj, rfl, HBL, HK, HB⟩ := hrel
  have hbz : b ≤ wr.heap.size := by have := HK.out.lt; omega
  by_cases h : j < 4
  ·have q1 : (j : Int) < 4 := by omega
   obtain ⟨x, hx⟩ : ∃ x, [s, -1, f, 2][j]? = some x := ⟨([s, -1, f, 2] : List Int)[j]'h, List.getElem?_eq_getElem _⟩
   have cx : wr.cell? ⟨b + 1, j, none⟩ = some (.int .i64 x) := by
    rw [HK.out.cell j]
    rcases (show j = 0 ∨ j = 1 ∨ j = 2 ∨ j = 3 from by omega) with rfl | rfl | rfl | rfl <;> (simp at hx; subst hx; rfl)
   have HX := Lib.hid (encI_snoc _ j x hx)
   have hle : (encI ([s, -1, f, 2].take j)).length ≤ 1000000000 := by
    have := encI_len ([s, -1, f, 2].take j)
    have := List.length_take_le j ([s, -1, f, 2] : List Int)
    omega
   clear hx
   go_wp2_with fail
   refine (putO_any b b _ x wr HBL.out hle hbz).mono ?_
   rintro e w5 ⟨⟨v, rfl⟩, h5, hb5, hk5⟩;rw [← HX.out] at h5;have HBL5 := Lib.hid h5
   have HB5 := Lib.hid (HB.out.trans hb5)
   have HK5 := Lib.hid (hk5 _ _ _ (by decide) (by omega) HK.out)
   clear h5 hb5 hk5 cx hle
   go_wp2_with fail
   go_roundw
   case rel => exact ⟨j + 1, by omega, by go_num, HBL5, HK5, HB5⟩
   case measure => simp [intOf]; omega
  ·have q1 : ¬ (j : Int) < 4 := by omega
   obtain rfl : j = 4 := by omega
   have hk9 := HK2.out.kept (HB.out.block N HNb.out)
   have c3 := hk9.cell 3
   have HK9 := Lib.hid hk9
   dsimp only [drA, ordA, Array.toList] at c3
   simp only [gz, gs] at c3
   clear h hk9
   go_wp2_with fail
   refine (numbers_drop N wr c3).mono ?_
   rintro e w6 ⟨nb, rfl, hkn, hnb, hb6⟩
   have HBL6 : Hid (Bld b b (encI [s, -1, f, 2] ++ encI ([1].take 0)) w6) := (by have := HBL.out.below hb6; simpa [encI] using this : Bld b b (encI [s, -1, f, 2] ++ encI ([1].take 0)) w6)
   have HB6 : Hid (Below b w2 w6) := HB.out.trans (hb6.mono hbz)
   have HKN := Lib.hid hkn
   have HNB : Hid (b < nb) := (by have := HK.out.lt; omega : b < nb)
   clear HBL HB HK HK9 hkn hnb hb6 c3 hbz hj
   go_wp2_with fail
   go_loopw [38] (fun vi wr => ∃ (j : Nat), j ≤ 1 ∧ vi = .int .i64 j ∧ Hid (Bld b b (encI [s, -1, f, 2] ++ encI ([1].take j)) wr) ∧ Hid (Blk wr nb 97 [.pointer (some ⟨N, 4, none⟩)]) ∧ Hid (Below b w2 wr)) (fun v _ => 1 - (intOf v).toNat)
   case atStart => exact ⟨0, by omega, rfl, HBL6, HKN, HB6⟩
   case round =>
    clear HBL6 HKN HB6
    obtain ⟨j, hj, rfl, HBL, HK, HB⟩ := hrel
    have hbz : b ≤ wr.heap.size := by have := HK.out.lt; have := HNB.out; omega
    have hk9 := HK2.out.kept (HB.out.block N HNb.out)
    have c3 := hk9.cell 3
    have c4 := hk9.cell 4
    dsimp only [drA, ordA, Array.toList] at c3 c4
    simp only [gz, gs] at c3 c4
    clear hk9
    by_cases h : j < 1
    ·obtain rfl : j = 0 := by omega
     have n0 := HK.out.cell 0
     simp only [List.getElem?_cons_zero] at n0
     have hle : (encI [s, -1, f, 2] ++ encI ([1].take 0)).length ≤ 1000000000 := by
      have := encI_len [s, -1, f, 2]
      rw [List.length_append]
      show _ + 0 ≤ _
      simp only [List.length_cons, List.length_nil] at this
      omega
     clear h
     go_wp2_with fail
     refine (putO_any b b _ 1 wr HBL.out hle hbz).mono ?_
     rintro e w5 ⟨⟨v, rfl⟩, h5, hb5, hk5⟩
     have HBL5 : Hid (Bld b b (encI [s, -1, f, 2] ++ encI ([1].take 1)) w5) := (by rw [List.append_assoc] at h5; simpa [encI] using h5 : Bld b b (encI [s, -1, f, 2] ++ encI ([1].take 1)) w5)
     have HB5 := Lib.hid (HB.out.trans hb5)
     have HK5 := Lib.hid (hk5 _ _ _ (by decide) (by have := HNB.out; omega) HK.out)
     clear h5 hb5 hk5 hle c3 c4 n0
     go_wp2_with fail
     go_roundw
     case rel => exact ⟨1, by omega, rfl, HBL5, HK5, HB5⟩
     case measure => simp [intOf]
    ·have q1 : ¬ (j : Int) < 1 := by omega
     obtain rfl : j = 1 := by omega
     have HST := Lib.hid (string_keeps b b (encDr s f) wr HBL.out (by intro e; have := (List.append_eq_nil_iff.1 e).2; revert this; decide))
     clear h
     go_wp2_with fail
     refine HST.out.mono ?_
     rintro e w7 ⟨rfl, hb7, _⟩
     have HB7 : Hid (Below N W w7) := HB2.out.trans ((HB.out.trans hb7).mono (Nat.le_of_lt HNb.out))
     clear hb7
     go_wp2_with fail
     go_ret2
     exact ⟨rfl, by rw [HN.out]; exact HB7.out⟩
open Go.RowKit Onair
def encMs (tn sq f : Int) : List UInt8 := encI [1, tn, sq, 0, 0] ++ putSL (encDr sq f)
theorem putSL_lenO (t : List UInt8) (h : t.length ≤ 65536) : (putSL t).length ≤ 9 + t.length := by
 unfold putSL
 rw [if_neg (by omega), List.length_append]
 have := putL_len (t.length : Int)
 omega
theorem encDr_len (s f : Int) : (encDr s f).length ≤ 45 := by
 have h1 := encI_len [s, -1, f, 2]
 have h2 := encI_len [1]
 unfold encDr
 rw [List.length_append]
 simp only [List.length_cons, List.length_nil] at h1 h2
 omega
theorem encode_ord (tn sq f : Int) (W : World) (t0 : 0 ≤ tn) (t1 : tn < 3) (s0 : 1 ≤ sq) (s1 : sq ≤ 200) (f0 : 0 ≤ f) (f1 : f ≤ 100000000) :
  Calls Tryz.prog 8 #[.agg (msgA 1 tn sq 0 0 sq (-1) f 2 1)] W fun e w' => e = .returned (.tuple #[.string ⟨(encMs tn sq f).toArray⟩, .int .i64 0]) ∧ Below W.heap.size W w' := by
 obtain ⟨N, w1, hN, hw1, hb1, hk1⟩ := bx W (msgA 1 tn sq 0 0 sq (-1) f 2 1) (msgA 1 tn sq 0 0 sq (-1) f 2 1).toList 32 rfl
 have HSM := szM
 have HSZ := szO
 have HR1 := Lib.hid hk1.range;have HK1 := Lib.hid hk1;have HN := Lib.hid hN;have HB1 := Lib.hid hb1
 have HVL := Lib.hid (fun W' => valid_ord tn sq f W' t0 t1 s0 s1 f0 f1)
 have HEN := Lib.hid (fun W' => encD_any sq f W' (by omega) s1 f0 f1)
 have HDL := Lib.hid (encDr_len sq f)
 dsimp only [msgA] at hw1
 dsimp only [msgA]
 clear hb1 hk1
 go_enter Tryz.func8, Tryz.ntmps8
 go_wp2_with (refine wpList_load_mid rfl 32 (.tmp 1) rfl N 0 rfl (msgA 1 tn sq 0 0 sq (-1) f 2 1).toList _ HR1.out Tryz.underlying32 rfl HSM.out ?_)
 refine (HVL.out _).mono ?_
 rintro e w2 ⟨rfl, hb2⟩
 have HK2 := Lib.hid (HK1.out.kept (hb2.block N HK1.out.lt))
 have HB2 : Hid (Below N W w2) := HB1.out.trans (hb2.mono (bnl9 HN.out HB1.out))
 obtain ⟨b, hb⟩ : ∃ b, w2.heap.size = b := ⟨_, rfl⟩
 have HNb : Hid (N < b) := (by rw [← hb]; exact HK2.out.lt : N < b)
 obtain ⟨w3, hw3⟩ : ∃ w3, w2.alloc (.cells #[.pointer none, .slice none 0 0] 77) = w3 := ⟨_, rfl⟩
 have hbl3 : Bld b b [] w3 := by rw [← hw3, ← hb]; exact Lib.fresh_isBuilder _ _ w2
 have hb3 : Below b w2 w3 := by rw [← hw3, ← hb]; exact (Below.refl _ w2).alloc (Nat.le_refl _) _
 have hz3 : b ≤ w3.heap.size := by rw [← hw3, World.size_alloc, hb]; omega
 have hk3 := HK2.out.kept (hb3.block N HNb.out)
 have c0 := hk3.cell 0
 have c1 := hk3.cell 1
 have c2 := hk3.cell 2
 have c3 := hk3.cell 3
 have c4 := hk3.cell 4
 have HBL3 : Hid (Bld b b (encI ([1, tn, sq, 0, 0].take 0)) w3) := hbl3
 have HB3 := Lib.hid hb3;have HZ3 := Lib.hid hz3;have HBB := Lib.hid hb
 dsimp only [msgA, Array.toList] at c0 c1 c2 c3 c4
 simp only [gz, gs] at c0 c1 c2 c3 c4
 clear hb2 HR1 HVL hbl3 hb3 hk3 hz3
 go_wp2_with fail
 clear c0 c1 c2 c3 c4 hw3 hb hw1
 go_loopw [27] (fun vi wr => ∃ (j : Nat), j ≤ 5 ∧ vi = .int .i64 j ∧ Hid (Bld b b (encI ([1, tn, sq, 0, 0].take j)) wr) ∧ Hid (b ≤ wr.heap.size) ∧ Hid (Below b w2 wr)) (fun v _ => 5 - (intOf v).toNat)
 case atStart => exact ⟨0, by omega, rfl, HBL3, HZ3, HB3⟩
 case round =>
  clear HBL3 HB3 HZ3
  obtain ⟨j, hj, rfl, HBL, HZ, HB⟩ := hrel
  by_cases h : j < 5
  ·have q1 : (j : Int) < 5 := by omega
   have hle : (encI ([1, tn, sq, 0, 0].take j)).length ≤ 45 := by
    have := encI_len ([1, tn, sq, 0, 0].take j)
    have := List.length_take_le j ([1, tn, sq, 0, 0] : List Int)
    have h5 : ([1, tn, sq, 0, 0] : List Int).length = 5 := rfl
    omega
   rcases (show j = 0 ∨ j = 1 ∨ j = 2 ∨ j = 3 ∨ j = 4 from by omega) with rfl | rfl | rfl | rfl | rfl
   ·have HX := Lib.hid (encI_snoc [1, tn, sq, 0, 0] 0 (1) rfl)
    have hidx : ∀ W', (Instr.index 78 (.agg #[.int .i64 1, .int .i64 tn, .int .i64 sq, .int .i64 0, .int .i64 0]) (.int .i64 0)).run Tryz.prog W' = .ok (.int .i64 (1)) W' := fun W' => by kernel_rfl
    go_wp2_with fail
    clear hidx
    refine (putInt_any (1) wr).mono ?_
    rintro e w5 ⟨rfl, hb5⟩
    have HBL5 := Lib.hid (HBL.out.below hb5)
    have HB5 : Hid (Below b w2 w5) := HB.out.trans (hb5.mono HZ.out)
    have HZ5 : Hid (b ≤ w5.heap.size) := (by have := hb5.size; have := HZ.out; omega : b ≤ w5.heap.size)
    obtain ⟨y, hy⟩ : ∃ y : ByteArray, (⟨(putL (1)).toArray⟩ : ByteArray) = y := ⟨_, rfl⟩
    have hyl : y.data.toList = putL (1) := by rw [← hy]
    have hys : y.size ≤ 9 := by rw [← blen, hyl]; exact putL_len _
    rw [hy];have HYL := Lib.hid hyl;clear hb5 hy hyl
    go_wp2_with fail
    refine (writeString_any b b _ y w5 HBL5.out (by omega) HZ5.out).mono ?_
    rintro e w6 ⟨⟨v, rfl⟩, h6, hb6, _⟩;rw [HYL.out, ← HX.out] at h6;have HBL6 := Lib.hid h6
    have HB6 := Lib.hid (HB5.out.trans hb6)
    have HZ6 : Hid (b ≤ w6.heap.size) := (by have := hb6.size; have := HZ5.out; omega : b ≤ w6.heap.size)
    clear h6 hb6 hle
    go_wp2_with fail
    go_roundw
    case rel => exact ⟨1, by omega, rfl, HBL6, HZ6, HB6⟩
    case measure => simp [intOf]
   ·have HX := Lib.hid (encI_snoc [1, tn, sq, 0, 0] 1 (tn) rfl)
    have hidx : ∀ W', (Instr.index 78 (.agg #[.int .i64 1, .int .i64 tn, .int .i64 sq, .int .i64 0, .int .i64 0]) (.int .i64 1)).run Tryz.prog W' = .ok (.int .i64 (tn)) W' := fun W' => by kernel_rfl
    go_wp2_with fail
    clear hidx
    refine (putInt_any (tn) wr).mono ?_
    rintro e w5 ⟨rfl, hb5⟩
    have HBL5 := Lib.hid (HBL.out.below hb5)
    have HB5 : Hid (Below b w2 w5) := HB.out.trans (hb5.mono HZ.out)
    have HZ5 : Hid (b ≤ w5.heap.size) := (by have := hb5.size; have := HZ.out; omega : b ≤ w5.heap.size)
    obtain ⟨y, hy⟩ : ∃ y : ByteArray, (⟨(putL (tn)).toArray⟩ : ByteArray) = y := ⟨_, rfl⟩
    have hyl : y.data.toList = putL (tn) := by rw [← hy]
    have hys : y.size ≤ 9 := by rw [← blen, hyl]; exact putL_len _
    rw [hy];have HYL := Lib.hid hyl;clear hb5 hy hyl
    go_wp2_with fail
    refine (writeString_any b b _ y w5 HBL5.out (by omega) HZ5.out).mono ?_
    rintro e w6 ⟨⟨v, rfl⟩, h6, hb6, _⟩;rw [HYL.out, ← HX.out] at h6;have HBL6 := Lib.hid h6
    have HB6 := Lib.hid (HB5.out.trans hb6)
    have HZ6 : Hid (b ≤ w6.heap.size) := (by have := hb6.size; have := HZ5.out; omega : b ≤ w6.heap.size)
    clear h6 hb6 hle
    go_wp2_with fail
    go_roundw
    case rel => exact ⟨2, by omega, rfl, HBL6, HZ6, HB6⟩
    case measure => simp [intOf]
   ·have HX := Lib.hid (encI_snoc [1, tn, sq, 0, 0] 2 (sq) rfl)
    have hidx : ∀ W', (Instr.index 78 (.agg #[.int .i64 1, .int .i64 tn, .int .i64 sq, .int .i64 0, .int .i64 0]) (.int .i64 2)).run Tryz.prog W' = .ok (.int .i64 (sq)) W' := fun W' => by kernel_rfl
    go_wp2_with fail
    clear hidx
    refine (putInt_any (sq) wr).mono ?_
    rintro e w5 ⟨rfl, hb5⟩
    have HBL5 := Lib.hid (HBL.out.below hb5)
    have HB5 : Hid (Below b w2 w5) := HB.out.trans (hb5.mono HZ.out)
    have HZ5 : Hid (b ≤ w5.heap.size) := (by have := hb5.size; have := HZ.out; omega : b ≤ w5.heap.size)
    obtain ⟨y, hy⟩ : ∃ y : ByteArray, (⟨(putL (sq)).toArray⟩ : ByteArray) = y := ⟨_, rfl⟩
    have hyl : y.data.toList = putL (sq) := by rw [← hy]
    have hys : y.size ≤ 9 := by rw [← blen, hyl]; exact putL_len _
    rw [hy];have HYL := Lib.hid hyl;clear hb5 hy hyl
    go_wp2_with fail
    refine (writeString_any b b _ y w5 HBL5.out (by omega) HZ5.out).mono ?_
    rintro e w6 ⟨⟨v, rfl⟩, h6, hb6, _⟩;rw [HYL.out, ← HX.out] at h6;have HBL6 := Lib.hid h6
    have HB6 := Lib.hid (HB5.out.trans hb6)
    have HZ6 : Hid (b ≤ w6.heap.size) := (by have := hb6.size; have := HZ5.out; omega : b ≤ w6.heap.size)
    clear h6 hb6 hle
    go_wp2_with fail
    go_roundw
    case rel => exact ⟨3, by omega, rfl, HBL6, HZ6, HB6⟩
    case measure => simp [intOf]
   ·have HX := Lib.hid (encI_snoc [1, tn, sq, 0, 0] 3 (0) rfl)
    have hidx : ∀ W', (Instr.index 78 (.agg #[.int .i64 1, .int .i64 tn, .int .i64 sq, .int .i64 0, .int .i64 0]) (.int .i64 3)).run Tryz.prog W' = .ok (.int .i64 (0)) W' := fun W' => by kernel_rfl
    go_wp2_with fail
    clear hidx
    refine (putInt_any (0) wr).mono ?_
    rintro e w5 ⟨rfl, hb5⟩
    have HBL5 := Lib.hid (HBL.out.below hb5)
    have HB5 : Hid (Below b w2 w5) := HB.out.trans (hb5.mono HZ.out)
    have HZ5 : Hid (b ≤ w5.heap.size) := (by have := hb5.size; have := HZ.out; omega : b ≤ w5.heap.size)
    obtain ⟨y, hy⟩ : ∃ y : ByteArray, (⟨(putL (0)).toArray⟩ : ByteArray) = y := ⟨_, rfl⟩
    have hyl : y.data.toList = putL (0) := by rw [← hy]
    have hys : y.size ≤ 9 := by rw [← blen, hyl]; exact putL_len _
    rw [hy];have HYL := Lib.hid hyl;clear hb5 hy hyl
    go_wp2_with fail
    refine (writeString_any b b _ y w5 HBL5.out (by omega) HZ5.out).mono ?_
    rintro e w6 ⟨⟨v, rfl⟩, h6, hb6, _⟩;rw [HYL.out, ← HX.out] at h6;have HBL6 := Lib.hid h6
    have HB6 := Lib.hid (HB5.out.trans hb6)
    have HZ6 : Hid (b ≤ w6.heap.size) := (by have := hb6.size; have := HZ5.out; omega : b ≤ w6.heap.size)
    clear h6 hb6 hle
    go_wp2_with fail
    go_roundw
    case rel => exact ⟨4, by omega, rfl, HBL6, HZ6, HB6⟩
    case measure => simp [intOf]
   ·have HX := Lib.hid (encI_snoc [1, tn, sq, 0, 0] 4 (0) rfl)
    have hidx : ∀ W', (Instr.index 78 (.agg #[.int .i64 1, .int .i64 tn, .int .i64 sq, .int .i64 0, .int .i64 0]) (.int .i64 4)).run Tryz.prog W' = .ok (.int .i64 (0)) W' := fun W' => by kernel_rfl
    go_wp2_with fail
    clear hidx
    refine (putInt_any (0) wr).mono ?_
    rintro e w5 ⟨rfl, hb5⟩
    have HBL5 := Lib.hid (HBL.out.below hb5)
    have HB5 : Hid (Below b w2 w5) := HB.out.trans (hb5.mono HZ.out)
    have HZ5 : Hid (b ≤ w5.heap.size) := (by have := hb5.size; have := HZ.out; omega : b ≤ w5.heap.size)
    obtain ⟨y, hy⟩ : ∃ y : ByteArray, (⟨(putL (0)).toArray⟩ : ByteArray) = y := ⟨_, rfl⟩
    have hyl : y.data.toList = putL (0) := by rw [← hy]
    have hys : y.size ≤ 9 := by rw [← blen, hyl]; exact putL_len _
    rw [hy];have HYL := Lib.hid hyl;clear hb5 hy hyl
    go_wp2_with fail
    refine (writeString_any b b _ y w5 HBL5.out (by omega) HZ5.out).mono ?_
    rintro e w6 ⟨⟨v, rfl⟩, h6, hb6, _⟩;rw [HYL.out, ← HX.out] at h6;have HBL6 := Lib.hid h6
    have HB6 := Lib.hid (HB5.out.trans hb6)
    have HZ6 : Hid (b ≤ w6.heap.size) := (by have := hb6.size; have := HZ5.out; omega : b ≤ w6.heap.size)
    clear h6 hb6 hle
    go_wp2_with fail
    go_roundw
    case rel => exact ⟨5, by omega, rfl, HBL6, HZ6, HB6⟩
    case measure => simp [intOf]
  ·have q1 : ¬ (j : Int) < 5 := by omega
   obtain rfl : j = 5 := by omega
   have hk9 := HK2.out.kept (HB.out.block N HNb.out)
   have c0 := hk9.cell 0
   have HR9 : Hid (wr.rangeAt N 5 (drA sq f).toList) := hk9.rangeO 5 rfl
   dsimp only [msgA, Array.toList] at c0
   simp only [gz, gs] at c0
   have hle : (encI ([1, tn, sq, 0, 0].take 5)).length ≤ 45 := by
    have := encI_len ([1, tn, sq, 0, 0].take 5)
    have := List.length_take_le 5 ([1, tn, sq, 0, 0] : List Int)
    have h5 : ([1, tn, sq, 0, 0] : List Int).length = 5 := rfl
    omega
   clear h hk9
   go_wp2_with (refine wpList_load_mid rfl 30 (.tmp 42) rfl N 5 rfl (drA sq f).toList _ HR9.out Tryz.underlying30 rfl HSZ.out ?_)
   refine (HEN.out _).mono ?_
   rintro e w6 ⟨rfl, hb6⟩
   have HBL6 := Lib.hid (HBL.out.below hb6)
   have HB6 : Hid (Below b w2 w6) := HB.out.trans (hb6.mono HZ.out)
   have HZ6 : Hid (b ≤ w6.heap.size) := (by have := hb6.size; have := HZ.out; omega : b ≤ w6.heap.size)
   have HPS := Lib.hid (fun w => putString_any ⟨(encDr sq f).toArray⟩ w (by have := HDL.out; unfold maxLen; show (encDr sq f).toArray.size ≤ _; rw [List.size_toArray]; omega))
   obtain ⟨z, hz⟩ : ∃ z : ByteArray, (⟨(encDr sq f).toArray⟩ : ByteArray) = z := ⟨_, rfl⟩
   have hzl : z.data.toList = encDr sq f := by rw [← hz]
   rw [hz] at HPS ⊢
   have HZL := Lib.hid hzl;clear hb6 HBL HB HZ hz hzl
   go_wp2_with fail
   refine (HPS.out _).mono ?_
   rintro e w7 ⟨rfl, hb7⟩
   have HBL7 := Lib.hid (HBL6.out.below hb7)
   have HB7 : Hid (Below b w2 w7) := HB6.out.trans (hb7.mono HZ6.out)
   have HZ7 : Hid (b ≤ w7.heap.size) := (by have := hb7.size; have := HZ6.out; omega : b ≤ w7.heap.size)
   rw [HZL.out]
   obtain ⟨y, hy⟩ : ∃ y : ByteArray, (⟨(putSL (encDr sq f)).toArray⟩ : ByteArray) = y := ⟨_, rfl⟩
   have hyl : y.data.toList = putSL (encDr sq f) := by rw [← hy]
   have hys : y.size ≤ 100 := by
    have h1 := putSL_lenO (encDr sq f) (by have := HDL.out; omega)
    have h2 := HDL.out
    rw [← blen, hyl]
    omega
   rw [hy];have HYL := Lib.hid hyl;clear hb7 HBL6 HB6 HZ6 hy hyl
   go_wp2_with fail
   refine (writeString_any b b _ y w7 HBL7.out (by omega) HZ7.out).mono ?_
   rintro e w8 ⟨⟨v, rfl⟩, h8, hb8, _⟩;rw [HYL.out] at h8
   have HB8 := Lib.hid (HB7.out.trans hb8)
   have HST := Lib.hid (string_keeps b b (encMs tn sq f) w8 h8 (by intro e; have := (List.append_eq_nil_iff.1 (show putL 1 ++ encI [tn, sq, 0, 0] = [] from (List.append_eq_nil_iff.1 e).1)).1; revert this; decide))
   clear h8 hb8 HBL7 HB7 HZ7 hle
   go_wp2_with fail
   refine HST.out.mono ?_
   rintro e w9 ⟨rfl, hb9, _⟩
   have HB9 : Hid (Below N W w9) := HB2.out.trans ((HB8.out.trans hb9).mono (Nat.le_of_lt HNb.out))
   clear hb9
   go_wp2_with fail
   go_ret2
   exact ⟨rfl, by rw [HN.out]; exact HB9.out⟩
end Go.Proofs.YtjkiidhnmljmbaaGreatDoor
