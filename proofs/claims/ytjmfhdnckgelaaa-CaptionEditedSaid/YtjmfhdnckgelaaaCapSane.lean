/-
  The walk of sane.
-/
import Derived.WalkKit
import Derived.LoopTactic
import Derived.WalkSpells
import Derived.WalkLawsBesides
import Derived.RegionTactic
import Derived.BigRegion
import Derived.Deep.QuietTactic
import Derived.BigQuiet
import Derived.IntWalk
import Derived.Outline
import Derived.Test.YtjmfhdnckgelaaaCapHelp
import Derived.Test.YtjmfhdnckgelaaaCapEd
set_option linter.unusedVariables false
set_option linter.unusedSimpArgs false
namespace Go.Proofs.Ytjmfhdnckgelaaa
open Go.RowKit
def exT : ByteArray := ⟨#[32, 32, 71, 111, 111, 100, 32, 32, 32, 101, 118, 101, 110, 105, 110, 103, 32, 102, 114, 111, 109, 32, 116, 104, 101, 32, 104, 97, 114, 98, 111, 117, 114, 44, 32, 119, 104, 101, 114, 101, 32, 116, 104, 101, 32, 102, 101, 114, 114, 121, 32, 105, 115, 32, 108, 97, 116, 101, 32]⟩
def exW : ByteArray := ⟨#[97, 98, 99, 100, 101, 102, 103, 104, 105, 106, 107, 108, 109, 110, 111, 112, 113, 114, 115, 116, 117, 118, 119, 120, 121, 122, 97, 98, 99, 100, 101, 102, 103]⟩
def exR : List (List UInt8) := [[71, 111, 111, 100, 32, 101, 118, 101, 110, 105, 110, 103, 32, 102, 114, 111, 109, 32, 116, 104, 101, 32, 104, 97, 114, 98, 111, 117, 114, 44], [119, 104, 101, 114, 101, 32, 116, 104, 101, 32, 102, 101, 114, 114, 121, 32, 105, 115, 32, 108, 97, 116, 101]]
def exA : Cue := ⟨2, 0, 20, 0, ⟨#[97]⟩⟩
def exB : Cue := ⟨5, 5, 15, 0, ⟨#[98]⟩⟩
def exC : Cue := ⟨3, 0, 4, 1, ⟨#[99]⟩⟩
def exD : Cue := ⟨5, 0, 0, 0, ⟨#[]⟩⟩
def exE : Cue := ⟨5, 1, 0, 0, ⟨#[]⟩⟩
theorem exT_fits : fitsB exT.data.toList = true := by kernel_rfl
theorem exT_rows : rowsR exT.data.toList = exR := by kernel_rfl
theorem exS_fits : fitsB (⟨#[32]⟩ : ByteArray).data.toList = false := by kernel_rfl
theorem exW_fits : fitsB exW.data.toList = false := by kernel_rfl
theorem exL1 : editR [exA, exB] exC = [exA, exC, exB] := by kernel_rfl
theorem exL2 : editE [exA, exB] exC = 0 := by kernel_rfl
theorem exM1 : editR [exA, exC, exB] exD = [exA, exC] := by kernel_rfl
theorem exM2 : editE [exA, exC, exB] exD = 0 := by kernel_rfl
theorem exN2 : editE [exA, exC, exB] exE = 150 := by kernel_rfl
theorem exN1 : editR [exA, exC, exB] exE = [] := by kernel_rfl
theorem exX1 : activeL [exA, exB] 10 = some exB := by kernel_rfl
theorem exX2 : activeL [exA, exB] 20 = none := by kernel_rfl
theorem exV1 : validB exA = true := by kernel_rfl
theorem exV2 : validB cue0 = false := by kernel_rfl
theorem ok_small (c : Cue) (h1 : decide (-1000 ≤ c.id ∧ c.id ≤ 1000 ∧ -1000 ≤ c.fr ∧ c.fr ≤ 1000 ∧ -1000 ≤ c.to ∧ c.to ≤ 1000 ∧ -1000 ≤ c.pr ∧ c.pr ≤ 1000 ∧ c.tx.size ≤ 1000) = true) : c.Ok := by
  have h := of_decide_eq_true h1
  obtain ⟨a1, a2, a3, a4, a5, a6, a7, a8, a9⟩ := h
  exact ⟨by omega, by omega, by omega, by omega, by omega, by omega, by omega, by omega, by unfold maxLen; omega⟩
/-- What sane has in memory. -/
structure Sn (W wr : World) (rr : Option Addr) (R : List (List UInt8)) (A B C : Nat) (ol : Option Addr) (L : List Cue) (om : Option Addr) (M : List Cue) : Prop where
  rs : RdS wr rr R
  a : Blk wr A 24 exA.cells
  b : Blk wr B 24 exB.cells
  c : Blk wr C 24 exC.cells
  l : RdC wr ol L
  m : RdC wr om M
  bel : Below W.heap.size W wr
theorem Sn.below {W wr w' : World} {rr : Option Addr} {R : List (List UInt8)} {A B C : Nat} {ol : Option Addr} {L : List Cue} {om : Option Addr} {M : List Cue} (h : Sn W wr rr R A B C ol L om M) (hb : Below wr.heap.size wr w') : Sn W w' rr R A B C ol L om M :=
  ⟨h.rs.kept hb, h.a.kept (hb.block _ h.a.lt), h.b.kept (hb.block _ h.b.lt), h.c.kept (hb.block _ h.c.lt), h.l.kept hb, h.m.kept hb, bstep h.bel hb⟩
theorem Sn.alloc {W wr : World} {rr : Option Addr} {R : List (List UInt8)} {A B C : Nat} {ol : Option Addr} {L : List Cue} {om : Option Addr} {M : List Cue} (h : Sn W wr rr R A B C ol L om M) (o : Obj) : Sn W (wr.alloc o) rr R A B C ol L om M := h.below ((Below.refl _ wr).alloc (Nat.le_refl _) o)
/-- A literal list of cues. -/
theorem lit_rdc (wr : World) (l : List Cue) : RdC (wr.alloc (.cells (ccells l).toArray 24)) (some ⟨wr.heap.size, 0, none⟩) l := by
  have h : Blk (wr.alloc (.cells (ccells l).toArray 24)) wr.heap.size 24 (ccells l) := Blk.new wr _ _
  refine .inr ⟨wr.heap.size, 0, rfl, h.lt, fun i c hi => ?_⟩
  rw [Nat.zero_add]
  have key : ∀ k, k < 5 → (wr.alloc (.cells (ccells l).toArray 24)).cell? ⟨wr.heap.size, i * 5 + k, none⟩ = c.cells[k]? := fun k hk => by rw [h.cell, ccells_at l i k c hi hk]
  exact ⟨key 0 (by decide), key 1 (by decide), key 2 (by decide), key 3 (by decide), key 4 (by decide)⟩
theorem lit_rds (wr : World) (l : List (List UInt8)) : RdS (wr.alloc (.cells (scells l).toArray 9)) (some ⟨wr.heap.size, 0, none⟩) l := by
  have h : Blk (wr.alloc (.cells (scells l).toArray 9)) wr.heap.size 9 (scells l) := Blk.new wr _ _
  refine .inr ⟨wr.heap.size, 0, rfl, h.lt, fun i c hi => ?_⟩
  rw [Nat.zero_add, h.cell]
  simp [scells, hi]
set_option maxHeartbeats 4000000 in
set_option maxRecDepth 100000 in
theorem sane_any (W : World) : Calls Try.prog 11 #[] W fun e w' => e = .returned (.bool true) ∧ Below W.heap.size W w' := by
  go_enter Try.func11, Try.ntmps11
  go_wp2_with fail
  refine (rows_any exT W (small_len _ (by decide))).mono ?_
  rw [exT_fits, exT_rows]
  rintro e w1 ⟨v, rfl, ho1, hb1⟩
  obtain ⟨orr, cr, rfl⟩ := own_slice ho1
  have HR1 := Lib.hid (own_rds ho1).2
  have HB1 := Lib.hid hb1
  clear ho1 hb1
  go_wp2_with fail
  refine (rows_any ⟨#[32]⟩ w1 (small_len _ (by decide))).mono ?_
  rw [exS_fits]
  rintro e w2 ⟨v2, rfl, _, hb2⟩
  have HR2 := Lib.hid (HR1.out.kept hb2)
  have HB2 := Lib.hid (bstep HB1.out hb2)
  clear hb2 HR1 HB1
  go_wp2_with fail
  refine (rows_any exW w2 (small_len _ (by decide))).mono ?_
  rw [exW_fits]
  rintro e w3 ⟨v3, rfl, _, hb3⟩
  have HR3 := Lib.hid (HR2.out.kept hb3)
  have HB3 := Lib.hid (bstep HB2.out hb3)
  clear hb3 HR2 HB2
  go_wp2_with fail
  have HS : Hid (Sn W (((w3.alloc (.cells #[.int .i64 2, .int .i64 0, .int .i64 20, .int .i64 0, .string ⟨#[97]⟩] 24)).alloc (.cells #[.int .i64 5, .int .i64 5, .int .i64 15, .int .i64 0, .string ⟨#[98]⟩] 24)).alloc (.cells #[.int .i64 3, .int .i64 0, .int .i64 4, .int .i64 1, .string ⟨#[99]⟩] 24)) orr exR w3.heap.size (w3.heap.size + 1) (w3.heap.size + 1 + 1) none [] none []) := by
    have hb : Below w3.heap.size w3 (((w3.alloc (.cells #[.int .i64 2, .int .i64 0, .int .i64 20, .int .i64 0, .string ⟨#[97]⟩] 24)).alloc (.cells #[.int .i64 5, .int .i64 5, .int .i64 15, .int .i64 0, .string ⟨#[98]⟩] 24)).alloc (.cells #[.int .i64 3, .int .i64 0, .int .i64 4, .int .i64 1, .string ⟨#[99]⟩] 24)) := (((Below.refl _ w3).alloc (Nat.le_refl _) _).alloc (by simp) _).alloc (by simp; omega) _
    refine ⟨HR3.out.kept hb, ((Blk.new w3 24 exA.cells).alloc _).alloc _, ?_, ?_, .inl rfl, .inl rfl, bstep HB3.out hb⟩
    · have := (Blk.new (w3.alloc (.cells #[.int .i64 2, .int .i64 0, .int .i64 20, .int .i64 0, .string ⟨#[97]⟩] 24)) 24 exB.cells).alloc (.cells #[.int .i64 3, .int .i64 0, .int .i64 4, .int .i64 1, .string ⟨#[99]⟩] 24)
      rw [show (w3.alloc (.cells #[.int .i64 2, .int .i64 0, .int .i64 20, .int .i64 0, .string ⟨#[97]⟩] 24)).heap.size = w3.heap.size + 1 from by simp] at this
      exact this
    · have := (Blk.new ((w3.alloc (.cells #[.int .i64 2, .int .i64 0, .int .i64 20, .int .i64 0, .string ⟨#[97]⟩] 24)).alloc (.cells #[.int .i64 5, .int .i64 5, .int .i64 15, .int .i64 0, .string ⟨#[98]⟩] 24)) 24 exC.cells)
      rw [show ((w3.alloc (.cells #[.int .i64 2, .int .i64 0, .int .i64 20, .int .i64 0, .string ⟨#[97]⟩] 24)).alloc (.cells #[.int .i64 5, .int .i64 5, .int .i64 15, .int .i64 0, .string ⟨#[98]⟩] 24)).heap.size = w3.heap.size + 1 + 1 from by simp] at this
      exact this
  have hX : (((w3.alloc (.cells #[.int .i64 2, .int .i64 0, .int .i64 20, .int .i64 0, .string ⟨#[97]⟩] 24)).alloc (.cells #[.int .i64 5, .int .i64 5, .int .i64 15, .int .i64 0, .string ⟨#[98]⟩] 24)).alloc (.cells #[.int .i64 3, .int .i64 0, .int .i64 4, .int .i64 1, .string ⟨#[99]⟩] 24)).heap.size = w3.heap.size + 1 + 1 + 1 := by simp
  rw [← hX]
  clear hX HR3 HB3
  generalize (((w3.alloc (.cells #[.int .i64 2, .int .i64 0, .int .i64 20, .int .i64 0, .string ⟨#[97]⟩] 24)).alloc (.cells #[.int .i64 5, .int .i64 5, .int .i64 15, .int .i64 0, .string ⟨#[98]⟩] 24)).alloc (.cells #[.int .i64 3, .int .i64 0, .int .i64 4, .int .i64 1, .string ⟨#[99]⟩] 24)) = X at HS ⊢
  generalize w3.heap.size = A at HS ⊢
  refine (edit_any (X.alloc (.cells #[.int .i64 2, .int .i64 0, .int .i64 20, .int .i64 0, .string ⟨#[97]⟩, .int .i64 5, .int .i64 5, .int .i64 15, .int .i64 0, .string ⟨#[98]⟩] 24)) (some ⟨X.heap.size, 0, none⟩) 2 [exA, exB] exC (ok_small _ (by decide)) (by decide) (show RdC (X.alloc (.cells #[.int .i64 2, .int .i64 0, .int .i64 20, .int .i64 0, .string ⟨#[97]⟩, .int .i64 5, .int .i64 5, .int .i64 15, .int .i64 0, .string ⟨#[98]⟩] 24)) (some ⟨X.heap.size, 0, none⟩) [exA, exB] from lit_rdc X [exA, exB])).mono ?_
  rw [exL1, exL2]
  rintro e w4 ⟨ol, cl, rfl, ho4, hb4⟩
  have HS4' := (HS.out.alloc (.cells #[.int .i64 2, .int .i64 0, .int .i64 20, .int .i64 0, .string ⟨#[97]⟩, .int .i64 5, .int .i64 5, .int .i64 15, .int .i64 0, .string ⟨#[98]⟩] 24)).below hb4
  have HS4 : Hid (Sn W w4 orr exR A (A + 1) (A + 1 + 1) ol [exA, exC, exB] none []) := ⟨HS4'.rs, HS4'.a, HS4'.b, HS4'.c, (own_rdc ho4).2, HS4'.m, HS4'.bel⟩
  clear HS4' ho4 hb4 HS
  go_wp2_with fail
  refine (edit_any w4 ol cl [exA, exC, exB] exD (ok_small _ (by decide)) (by decide) HS4.out.l).mono ?_
  rw [exM1, exM2]
  rintro e w5 ⟨om, cm, rfl, ho5, hb5⟩
  have HS5' := HS4.out.below hb5
  have HS5 : Hid (Sn W w5 orr exR A (A + 1) (A + 1 + 1) ol [exA, exC, exB] om [exA, exC]) := ⟨HS5'.rs, HS5'.a, HS5'.b, HS5'.c, HS5'.l, (own_rdc ho5).2, HS5'.bel⟩
  clear HS5' ho5 hb5 HS4
  go_wp2_with fail
  refine (edit_any w5 ol cl [exA, exC, exB] exE (ok_small _ (by decide)) (by decide) HS5.out.l).mono ?_
  rw [exN1, exN2]
  rintro e w6 ⟨on, cn, rfl, ho6, hb6⟩
  have HS6 := Lib.hid (HS5.out.below hb6)
  clear ho6 hb6 HS5
  obtain ⟨a0, a1, a2, a3, a4⟩ := cue_cells HS6.out.a
  obtain ⟨b0, b1, b2, b3, b4⟩ := cue_cells HS6.out.b
  obtain ⟨c0, c1, c2, c3, c4⟩ := cue_cells HS6.out.c
  dsimp only [exA, exB, exC] at a0 a1 a2 a3 a4 b0 b1 b2 b3 b4 c0 c1 c2 c3 c4
  go_wp2_with fail
  clear a0 a1 a2 a3 a4 b0 b1 b2 b3 b4 c0 c1 c2 c3 c4
  refine (active_any (w6.alloc (.cells #[.int .i64 2, .int .i64 0, .int .i64 20, .int .i64 0, .string ⟨#[97]⟩, .int .i64 5, .int .i64 5, .int .i64 15, .int .i64 0, .string ⟨#[98]⟩] 24)) (some ⟨w6.heap.size, 0, none⟩) 2 [exA, exB] 10 (by decide) (show RdC (w6.alloc (.cells #[.int .i64 2, .int .i64 0, .int .i64 20, .int .i64 0, .string ⟨#[97]⟩, .int .i64 5, .int .i64 5, .int .i64 15, .int .i64 0, .string ⟨#[98]⟩] 24)) (some ⟨w6.heap.size, 0, none⟩) [exA, exB] from lit_rdc w6 [exA, exB])).mono ?_
  rw [exX1]
  rintro e w7 ⟨rfl, hb7⟩
  have HS7 := Lib.hid ((HS6.out.alloc (.cells #[.int .i64 2, .int .i64 0, .int .i64 20, .int .i64 0, .string ⟨#[97]⟩, .int .i64 5, .int .i64 5, .int .i64 15, .int .i64 0, .string ⟨#[98]⟩] 24)).below hb7)
  clear hb7 HS6
  dsimp only [Option.getD_some, exB, Option.isSome_some]
  have HS7a := Lib.hid (HS7.out.alloc (.cells #[.int .i64 5, .int .i64 5, .int .i64 15, .int .i64 0, .string ⟨#[98]⟩] 24))
  have hX7 : (w7.alloc (.cells #[.int .i64 5, .int .i64 5, .int .i64 15, .int .i64 0, .string ⟨#[98]⟩] 24)).heap.size = w7.heap.size + 1 := by simp
  obtain ⟨a0, a1, a2, a3, a4⟩ := cue_cells HS7a.out.a
  obtain ⟨b0, b1, b2, b3, b4⟩ := cue_cells HS7a.out.b
  obtain ⟨c0, c1, c2, c3, c4⟩ := cue_cells HS7a.out.c
  dsimp only [exA, exB, exC] at a0 a1 a2 a3 a4 b0 b1 b2 b3 b4 c0 c1 c2 c3 c4
  go_wp2_with fail
  clear a0 a1 a2 a3 a4 b0 b1 b2 b3 b4 c0 c1 c2 c3 c4
  have HXB : Hid (Blk (w7.alloc (.cells #[.int .i64 5, .int .i64 5, .int .i64 15, .int .i64 0, .string ⟨#[98]⟩] 24)) w7.heap.size 24 exB.cells) := Blk.new w7 24 exB.cells
  rw [← hX7]
  clear hX7 HS7
  generalize (w7.alloc (.cells #[.int .i64 5, .int .i64 5, .int .i64 15, .int .i64 0, .string ⟨#[98]⟩] 24)) = X7 at HS7a HXB ⊢
  generalize w7.heap.size = D at HXB ⊢
  refine (active_any (X7.alloc (.cells #[.int .i64 2, .int .i64 0, .int .i64 20, .int .i64 0, .string ⟨#[97]⟩, .int .i64 5, .int .i64 5, .int .i64 15, .int .i64 0, .string ⟨#[98]⟩] 24)) (some ⟨X7.heap.size, 0, none⟩) 2 [exA, exB] 20 (by decide) (show RdC (X7.alloc (.cells #[.int .i64 2, .int .i64 0, .int .i64 20, .int .i64 0, .string ⟨#[97]⟩, .int .i64 5, .int .i64 5, .int .i64 15, .int .i64 0, .string ⟨#[98]⟩] 24)) (some ⟨X7.heap.size, 0, none⟩) [exA, exB] from lit_rdc X7 [exA, exB])).mono ?_
  rw [exX2]
  rintro e w8 ⟨rfl, hb8⟩
  have hb8' := bstep ((Below.refl _ X7).alloc (Nat.le_refl _) (.cells #[.int .i64 2, .int .i64 0, .int .i64 20, .int .i64 0, .string ⟨#[97]⟩, .int .i64 5, .int .i64 5, .int .i64 15, .int .i64 0, .string ⟨#[98]⟩] 24)) hb8
  have HS8 := Lib.hid (HS7a.out.below hb8')
  have HXB8 := Lib.hid (HXB.out.kept (hb8'.block _ HXB.out.lt))
  clear hb8 hb8' HS7a HXB
  dsimp only [Option.getD_none, cue0, Option.isSome_none]
  have hX8 : (w8.alloc (.cells #[.int .i64 0, .int .i64 0, .int .i64 0, .int .i64 0, .string ⟨#[]⟩] 24)).heap.size = w8.heap.size + 1 := by simp
  go_wp2_with fail
  have HS9 := Lib.hid (HS8.out.alloc (.cells #[.int .i64 0, .int .i64 0, .int .i64 0, .int .i64 0, .string ⟨#[]⟩] 24))
  have HXB9 := Lib.hid (HXB8.out.alloc (.cells #[.int .i64 0, .int .i64 0, .int .i64 0, .int .i64 0, .string ⟨#[]⟩] 24))
  rw [← hX8]
  clear hX8 HS8 HXB8
  generalize (w8.alloc (.cells #[.int .i64 0, .int .i64 0, .int .i64 0, .int .i64 0, .string ⟨#[]⟩] 24)) = X8 at HS9 HXB9 ⊢
  refine (sameStrings_any (X8.alloc (.cells #[.string ⟨#[71, 111, 111, 100, 32, 101, 118, 101, 110, 105, 110, 103, 32, 102, 114, 111, 109, 32, 116, 104, 101, 32, 104, 97, 114, 98, 111, 117, 114, 44]⟩, .string ⟨#[119, 104, 101, 114, 101, 32, 116, 104, 101, 32, 102, 101, 114, 114, 121, 32, 105, 115, 32, 108, 97, 116, 101]⟩] 9)) orr (some ⟨X8.heap.size, 0, none⟩) cr 2 exR exR (by decide) (by decide) (HS9.out.alloc (.cells #[.string ⟨#[71, 111, 111, 100, 32, 101, 118, 101, 110, 105, 110, 103, 32, 102, 114, 111, 109, 32, 116, 104, 101, 32, 104, 97, 114, 98, 111, 117, 114, 44]⟩, .string ⟨#[119, 104, 101, 114, 101, 32, 116, 104, 101, 32, 102, 101, 114, 114, 121, 32, 105, 115, 32, 108, 97, 116, 101]⟩] 9)).rs (show RdS (X8.alloc (.cells #[.string ⟨#[71, 111, 111, 100, 32, 101, 118, 101, 110, 105, 110, 103, 32, 102, 114, 111, 109, 32, 116, 104, 101, 32, 104, 97, 114, 98, 111, 117, 114, 44]⟩, .string ⟨#[119, 104, 101, 114, 101, 32, 116, 104, 101, 32, 102, 101, 114, 114, 121, 32, 105, 115, 32, 108, 97, 116, 101]⟩] 9)) (some ⟨X8.heap.size, 0, none⟩) exR from lit_rds X8 exR)).mono ?_
  rw [decide_eq_true rfl]
  rintro e w10 ⟨rfl, hb10⟩
  have hb10' := bstep ((Below.refl _ X8).alloc (Nat.le_refl _) (.cells #[.string ⟨#[71, 111, 111, 100, 32, 101, 118, 101, 110, 105, 110, 103, 32, 102, 114, 111, 109, 32, 116, 104, 101, 32, 104, 97, 114, 98, 111, 117, 114, 44]⟩, .string ⟨#[119, 104, 101, 114, 101, 32, 116, 104, 101, 32, 102, 101, 114, 114, 121, 32, 105, 115, 32, 108, 97, 116, 101]⟩] 9)) hb10
  have HS10 := Lib.hid (HS9.out.below hb10')
  have HXB10 := Lib.hid (HXB9.out.kept (hb10'.block _ HXB9.out.lt))
  clear hb10 hb10' HS9 HXB9
  obtain ⟨a0, a1, a2, a3, a4⟩ := cue_cells HS10.out.a
  obtain ⟨b0, b1, b2, b3, b4⟩ := cue_cells HS10.out.b
  obtain ⟨c0, c1, c2, c3, c4⟩ := cue_cells HS10.out.c
  dsimp only [exA, exB, exC] at a0 a1 a2 a3 a4 b0 b1 b2 b3 b4 c0 c1 c2 c3 c4
  go_wp2_with fail
  clear a0 a1 a2 a3 a4 b0 b1 b2 b3 b4 c0 c1 c2 c3 c4
  refine (same_any (w10.alloc (.cells #[.int .i64 2, .int .i64 0, .int .i64 20, .int .i64 0, .string ⟨#[97]⟩, .int .i64 3, .int .i64 0, .int .i64 4, .int .i64 1, .string ⟨#[99]⟩, .int .i64 5, .int .i64 5, .int .i64 15, .int .i64 0, .string ⟨#[98]⟩] 24)) ol (some ⟨w10.heap.size, 0, none⟩) cl 3 [exA, exC, exB] [exA, exC, exB] (by decide) (by decide) (HS10.out.alloc (.cells #[.int .i64 2, .int .i64 0, .int .i64 20, .int .i64 0, .string ⟨#[97]⟩, .int .i64 3, .int .i64 0, .int .i64 4, .int .i64 1, .string ⟨#[99]⟩, .int .i64 5, .int .i64 5, .int .i64 15, .int .i64 0, .string ⟨#[98]⟩] 24)).l (show RdC (w10.alloc (.cells #[.int .i64 2, .int .i64 0, .int .i64 20, .int .i64 0, .string ⟨#[97]⟩, .int .i64 3, .int .i64 0, .int .i64 4, .int .i64 1, .string ⟨#[99]⟩, .int .i64 5, .int .i64 5, .int .i64 15, .int .i64 0, .string ⟨#[98]⟩] 24)) (some ⟨w10.heap.size, 0, none⟩) [exA, exC, exB] from lit_rdc w10 [exA, exC, exB])).mono ?_
  rw [decide_eq_true rfl]
  rintro e w11 ⟨rfl, hb11⟩
  have hb11' := bstep ((Below.refl _ w10).alloc (Nat.le_refl _) (.cells #[.int .i64 2, .int .i64 0, .int .i64 20, .int .i64 0, .string ⟨#[97]⟩, .int .i64 3, .int .i64 0, .int .i64 4, .int .i64 1, .string ⟨#[99]⟩, .int .i64 5, .int .i64 5, .int .i64 15, .int .i64 0, .string ⟨#[98]⟩] 24)) hb11
  have HS11 := Lib.hid (HS10.out.below hb11')
  have HXB11 := Lib.hid (HXB10.out.kept (hb11'.block _ HXB10.out.lt))
  clear hb11 hb11' HS10 HXB10
  obtain ⟨a0, a1, a2, a3, a4⟩ := cue_cells HS11.out.a
  obtain ⟨b0, b1, b2, b3, b4⟩ := cue_cells HS11.out.b
  obtain ⟨c0, c1, c2, c3, c4⟩ := cue_cells HS11.out.c
  dsimp only [exA, exB, exC] at a0 a1 a2 a3 a4 b0 b1 b2 b3 b4 c0 c1 c2 c3 c4
  go_wp2_with fail
  clear a0 a1 a2 a3 a4 b0 b1 b2 b3 b4 c0 c1 c2 c3 c4
  refine (same_any (w11.alloc (.cells #[.int .i64 2, .int .i64 0, .int .i64 20, .int .i64 0, .string ⟨#[97]⟩, .int .i64 3, .int .i64 0, .int .i64 4, .int .i64 1, .string ⟨#[99]⟩] 24)) om (some ⟨w11.heap.size, 0, none⟩) cm 2 [exA, exC] [exA, exC] (by decide) (by decide) (HS11.out.alloc (.cells #[.int .i64 2, .int .i64 0, .int .i64 20, .int .i64 0, .string ⟨#[97]⟩, .int .i64 3, .int .i64 0, .int .i64 4, .int .i64 1, .string ⟨#[99]⟩] 24)).m (show RdC (w11.alloc (.cells #[.int .i64 2, .int .i64 0, .int .i64 20, .int .i64 0, .string ⟨#[97]⟩, .int .i64 3, .int .i64 0, .int .i64 4, .int .i64 1, .string ⟨#[99]⟩] 24)) (some ⟨w11.heap.size, 0, none⟩) [exA, exC] from lit_rdc w11 [exA, exC])).mono ?_
  rw [decide_eq_true rfl]
  rintro e w12 ⟨rfl, hb12⟩
  have hb12' := bstep ((Below.refl _ w11).alloc (Nat.le_refl _) (.cells #[.int .i64 2, .int .i64 0, .int .i64 20, .int .i64 0, .string ⟨#[97]⟩, .int .i64 3, .int .i64 0, .int .i64 4, .int .i64 1, .string ⟨#[99]⟩] 24)) hb12
  have HS12 := Lib.hid (HS11.out.below hb12')
  have HXB12 := Lib.hid (HXB11.out.kept (hb12'.block _ HXB11.out.lt))
  clear hb12 hb12' HS11 HXB11
  obtain ⟨a0, a1, a2, a3, a4⟩ := cue_cells HS12.out.a
  obtain ⟨b0, b1, b2, b3, b4⟩ := cue_cells HS12.out.b
  obtain ⟨c0, c1, c2, c3, c4⟩ := cue_cells HS12.out.c
  dsimp only [exA, exB, exC] at a0 a1 a2 a3 a4 b0 b1 b2 b3 b4 c0 c1 c2 c3 c4
  have x0 := HXB12.out.cell 0
  simp only [Cue.cells, List.getElem?_cons_zero] at x0
  dsimp only [exB] at x0
  go_wp2_with fail
  clear a0 a1 a2 a3 a4 b0 b1 b2 b3 b4 c0 c1 c2 c3 c4
  clear x0
  refine (valid_any exA _ (ok_small _ (by decide))).mono ?_
  rw [exV1]
  rintro e w13 ⟨rfl, hb13⟩
  have HB13 := Lib.hid (bstep HS12.out.bel hb13)
  clear hb13 HS12 HXB12
  go_wp2_with fail
  refine (valid_any cue0 _ (ok_small _ (by decide))).mono ?_
  rw [exV2]
  rintro e w14 ⟨rfl, hb14⟩
  have HB14 := Lib.hid (bstep HB13.out hb14)
  clear hb14 HB13
  go_wp2_with fail
  go_ret
  exact ⟨rfl, HB14.out⟩
end Go.Proofs.Ytjmfhdnckgelaaa
