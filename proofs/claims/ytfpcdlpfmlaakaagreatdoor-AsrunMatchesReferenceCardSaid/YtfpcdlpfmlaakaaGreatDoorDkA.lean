/-
  The disk of package disk: how it lies in memory, and the walks of its small methods.
  The walks of the disk's methods: lose, restore, written, Cut, Read, New, settle.
  The walks of the disk's methods: Read, New, settle.
  The walks of disk.New and of settle.
  The walks of the disk's methods: Sync, Write.
  The walk of the disk's method Write.
-/
import Derived.WalkKit
import Derived.LoopTactic
import Derived.WalkSpells
import Derived.WalkLawsBesides
import Derived.RegionTactic
import Derived.BigRegion
import Derived.Deep.QuietTactic
import Derived.BigQuiet
import Derived.IntWalk
import Derived.Lib.SliceRun
import Derived.Laws.IdiomStrings
import Derived.Lib.SlBytesRow
import Derived.Lib.BufferRead
import Derived.Laws.MakeOwn
import Derived.Laws.CopyRow
import Derived.Lib.BufferWrite
import Derived.Test.YtfpcdlpfmlaakaaGreatDoorBas
import Derived.Test.YtfpcdlpfmlaakaaGreatDoorProg
set_option linter.unusedVariables false
set_option linter.unusedSimpArgs false
namespace Go.Proofs.YtfpcdlpfmlaakaaGreatDoor
open Go.RowKit
/-- What a disk is: no power, the scheduled cut, the durable and the visible content, the pending writes. -/
structure DS where
  lost : Bool
  cut : Nat
  dur : List UInt8
  vis : List UInt8
  pend : List (Nat × ByteArray)
/-- The cells of the pending writes. -/
def pcells (l : List (Nat × ByteArray)) : List Value := l.flatMap fun p => [.int .i64 (p.1 : Int), .string p.2]
/-- The disk D lies at block b, its contents at bd and bv, its pending writes under the slice vp; all from block B on. -/
structure DkAt (W : World) (B b bd bv : Nat) (vp : Value) (D : DS) : Prop where
  blk : Blk W b 83 [.bool D.lost, .int .i64 (D.cut : Int), .slice (some ⟨bd, 0, none⟩) D.vis.length D.vis.length, .slice (some ⟨bv, 0, none⟩) D.vis.length D.vis.length, vp]
  dur : Blk W bd 5 (cellsB D.dur)
  vis : Blk W bv 5 (cellsB D.vis)
  own : W.ownsRow B 113 2 vp D.pend.length (pcells D.pend)
  len : D.dur.length = D.vis.length
  pos : 1 ≤ D.vis.length
  max : D.vis.length ≤ 4194304
  hb : B ≤ b
  hbd : B ≤ bd
  hbv : B ≤ bv
  ne1 : b ≠ bd
  ne2 : b ≠ bv
  ne3 : bd ≠ bv
  np : ∀ g, vp.ownBlock = some g → g ≠ b ∧ g ≠ bd ∧ g ≠ bv
/-- The blocks of a disk. -/
def Foot (b bd bv : Nat) (vp : Value) (k : Nat) : Prop := k = b ∨ k = bd ∨ k = bv ∨ vp.ownBlock = some k
/-- What state answers. -/
def stE (D : DS) : Int := if D.lost then 241 else 0
set_option maxRecDepth 100000 in
theorem state_any (W : World) (B b bd bv : Nat) (vp : Value) (D : DS) (h : DkAt W B b bd bv vp D) :
    Calls Tryz.prog 55 #[.pointer (some ⟨b, 0, none⟩)] W fun e w' => e = .returned (.int .i64 (stE D)) ∧ W = w' := by
  have c0 := h.blk.cell 0
  have c3 := h.blk.cell 3
  have hp := h.pos
  have hm := h.max
  simp only [List.getElem?_cons_zero, List.getElem?_cons_succ] at c0 c3
  have hz : ((D.vis.length : Int) == 0) = false := by rw [beq_eq_false_iff_ne]; omega
  unfold stE
  clear h
  cases hl : D.lost
  · rw [hl] at c0
    go_enter Tryz.func55, Tryz.ntmps55
    go_wp2
    go_ret
    exact ⟨rfl, rfl⟩
  · rw [hl] at c0
    go_enter Tryz.func55, Tryz.ntmps55
    go_wp2
    go_ret
    exact ⟨rfl, rfl⟩
/-- What inside answers. -/
def insB (D : DS) (off n : Int) : Bool := decide (0 ≤ off ∧ 0 ≤ n ∧ n ≤ D.vis.length ∧ off ≤ D.vis.length - n)
set_option maxRecDepth 100000 in
theorem inside_any (W : World) (B b bd bv : Nat) (vp : Value) (D : DS) (off n : Int) (ho : -9223372036854775808 ≤ off) (ho1 : off ≤ 9223372036854775807) (hn : -9223372036854775808 ≤ n) (hn1 : n ≤ 9223372036854775807) (h : DkAt W B b bd bv vp D) :
    Calls Tryz.prog 56 #[.pointer (some ⟨b, 0, none⟩), .int .i64 off, .int .i64 n] W fun e w' => e = .returned (.bool (insB D off n)) ∧ W = w' := by
  have c3 := h.blk.cell 3
  have hm := h.max
  simp only [List.getElem?_cons_zero, List.getElem?_cons_succ] at c3
  clear h
  by_cases h1 : 0 ≤ off
  · by_cases h2 : 0 ≤ n
    · by_cases h3 : n ≤ D.vis.length
      · by_cases h4 : off ≤ (D.vis.length : Int) - n
        · rw [show insB D off n = true from decide_eq_true ⟨h1, h2, h3, h4⟩]
          go_enter Tryz.func56, Tryz.ntmps56
          go_wp2
          go_ret
          exact ⟨rfl, rfl⟩
        · rw [show insB D off n = false from decide_eq_false (by omega)]
          go_enter Tryz.func56, Tryz.ntmps56
          go_wp2
          go_ret
          exact ⟨rfl, rfl⟩
      · rw [show insB D off n = false from decide_eq_false (by omega)]
        go_enter Tryz.func56, Tryz.ntmps56
        go_wp2
        go_ret
        exact ⟨rfl, rfl⟩
    · rw [show insB D off n = false from decide_eq_false (by omega)]
      go_enter Tryz.func56, Tryz.ntmps56
      go_wp2
      go_ret
      exact ⟨rfl, rfl⟩
  · rw [show insB D off n = false from decide_eq_false (by omega)]
    go_enter Tryz.func56, Tryz.ntmps56
    go_wp2
    go_ret
    exact ⟨rfl, rfl⟩
theorem size_any (W : World) (B b bd bv : Nat) (vp : Value) (D : DS) (h : DkAt W B b bd bv vp D) :
    Calls Tryz.prog 59 #[.pointer (some ⟨b, 0, none⟩)] W fun e w' => e = .returned (.int .i64 (D.vis.length : Int)) ∧ W = w' := by
  have c3 := h.blk.cell 3
  have hm := h.max
  simp only [List.getElem?_cons_zero, List.getElem?_cons_succ] at c3
  have H := Lib.hid h
  clear h
  have hne : (stE D == 1) = false := by unfold stE; split <;> rfl
  go_enter Tryz.func59, Tryz.ntmps59
  go_wp2_with fail
  refine (state_any W B b bd bv vp D H.out).mono ?_
  rintro e w' ⟨rfl, rfl⟩
  go_wp2_with fail
  go_ret
  exact ⟨rfl, rfl⟩
theorem pending_any (W : World) (B b bd bv : Nat) (vp : Value) (D : DS) (h : DkAt W B b bd bv vp D) :
    Calls Tryz.prog 23 #[.pointer (some ⟨b, 0, none⟩)] W fun e w' => e = .returned (.int .i64 (D.pend.length : Int)) ∧ W = w' := by
  have c4 := h.blk.cell 4
  simp only [List.getElem?_cons_zero, List.getElem?_cons_succ] at c4
  have H := Lib.hid h
  obtain ⟨oa, cap, rfl⟩ : ∃ oa cap, vp = .slice oa D.pend.length cap := by
    rcases h.own.2 with ⟨rfl, h0⟩ | ⟨g, cap, _, rfl, _⟩
    · exact ⟨none, 0, by rw [h0]⟩
    · exact ⟨_, cap, rfl⟩
  clear h
  have hne : (stE D == 1) = false := by unfold stE; split <;> rfl
  go_enter Tryz.func23, Tryz.ntmps23
  go_wp2_with fail
  refine (state_any W B b bd bv _ D H.out).mono ?_
  rintro e w' ⟨rfl, rfl⟩
  go_wp2_with fail
  go_ret
  exact ⟨rfl, rfl⟩
end Go.Proofs.YtfpcdlpfmlaakaaGreatDoor
namespace Go.Proofs.YtfpcdlpfmlaakaaGreatDoor
open Go.RowKit
theorem ownsRow_kept {W W' : World} {B : Nat} {e : TypeId} {size : Nat} {v : Value} {n : Nat} {xs : List Value} (h : W.ownsRow B e size v n xs) (hk : ∀ g, v.ownBlock = some g → W'.heap[g]? = W.heap[g]?) : W'.ownsRow B e size v n xs := by
  refine ⟨h.1, ?_⟩
  rcases h.2 with h2 | ⟨g, cap, cur, rfl, h1, h2, h3⟩
  · exact .inl h2
  · exact .inr ⟨g, cap, cur, rfl, h1, by rw [hk g rfl]; exact h2, h3⟩
/-- Power and cut are set. -/
theorem DkAt.power {W : World} {B b bd bv : Nat} {vp : Value} {D : DS} (h : DkAt W B b bd bv vp D) (l : Bool) (c : Nat) :
    DkAt ((W.setCell ⟨b, 0, none⟩ (.bool l)).setCell ⟨b, 1, none⟩ (.int .i64 (c : Int))) B b bd bv vp { D with lost := l, cut := c } := by
  have e : ∀ k, k ≠ b → ((W.setCell ⟨b, 0, none⟩ (.bool l)).setCell ⟨b, 1, none⟩ (.int .i64 (c : Int))).heap[k]? = W.heap[k]? := fun k hk => by
    rw [Below.heap_setCell _ _ _ _ hk, Below.heap_setCell _ _ _ _ hk]
  exact ⟨(h.blk.set 0 _).set 1 _, h.dur.kept (e _ h.ne1.symm), h.vis.kept (e _ h.ne2.symm), ownsRow_kept h.own (fun g hg => e g (h.np g hg).1), h.len, h.pos, h.max, h.hb, h.hbd, h.hbv, h.ne1, h.ne2, h.ne3, h.np⟩
theorem Fr.power (W : World) (b : Nat) (u v : Value) : Fr (fun k => k = b) W ((W.setCell ⟨b, 0, none⟩ u).setCell ⟨b, 1, none⟩ v) :=
  ((Fr.refl (fun k => k = b) W).setCell ⟨b, 0, none⟩ u (.inl rfl)).setCell ⟨b, 1, none⟩ v (.inl rfl)
/-- The cut alone is set. -/
theorem DkAt.setCut {W : World} {B b bd bv : Nat} {vp : Value} {D : DS} (h : DkAt W B b bd bv vp D) (c : Nat) :
    DkAt (W.setCell ⟨b, 1, none⟩ (.int .i64 (c : Int))) B b bd bv vp { D with cut := c } := by
  have e : ∀ k, k ≠ b → (W.setCell ⟨b, 1, none⟩ (.int .i64 (c : Int))).heap[k]? = W.heap[k]? := fun k hk => by
    rw [Below.heap_setCell _ _ _ _ hk]
  exact ⟨h.blk.set 1 _, h.dur.kept (e _ h.ne1.symm), h.vis.kept (e _ h.ne2.symm), ownsRow_kept h.own (fun g hg => e g (h.np g hg).1), h.len, h.pos, h.max, h.hb, h.hbd, h.hbv, h.ne1, h.ne2, h.ne3, h.np⟩
theorem lose_any (W : World) (B b bd bv : Nat) (vp : Value) (D : DS) (h : DkAt W B b bd bv vp D) :
    Calls Tryz.prog 90 #[.pointer (some ⟨b, 0, none⟩)] W fun e w' => (∃ v, e = .returned v) ∧ w' = (W.setCell ⟨b, 0, none⟩ (.bool true)).setCell ⟨b, 1, none⟩ (.int .i64 ((0 : Nat) : Int)) := by
  have c0 := h.blk.cell 0
  have c1 := h.blk.cell 1
  have f0 := h.blk.frozen 0
  have f1 := h.blk.frozen 1
  simp only [List.getElem?_cons_zero, List.getElem?_cons_succ] at c0 c1
  clear h
  go_enter Tryz.func90, Tryz.ntmps90
  go_wp2
  go_end0
  exact ⟨⟨_, rfl⟩, rfl⟩
theorem restore_any (W : World) (B b bd bv : Nat) (vp : Value) (D : DS) (h : DkAt W B b bd bv vp D) :
    Calls Tryz.prog 91 #[.pointer (some ⟨b, 0, none⟩)] W fun e w' => (∃ v, e = .returned v) ∧ w' = (W.setCell ⟨b, 0, none⟩ (.bool false)).setCell ⟨b, 1, none⟩ (.int .i64 ((0 : Nat) : Int)) := by
  have c0 := h.blk.cell 0
  have c1 := h.blk.cell 1
  have f0 := h.blk.frozen 0
  have f1 := h.blk.frozen 1
  simp only [List.getElem?_cons_zero, List.getElem?_cons_succ] at c0 c1
  clear h
  go_enter Tryz.func91, Tryz.ntmps91
  go_wp2
  go_end0
  exact ⟨⟨_, rfl⟩, rfl⟩
/-- A write is counted. -/
def wroteD (D : DS) : DS := if D.cut = 0 then D else if D.cut = 1 then { D with lost := true, cut := 0 } else { D with cut := D.cut - 1 }
theorem written_any (W : World) (B b bd bv : Nat) (vp : Value) (D : DS) (h : DkAt W B b bd bv vp D) (hc : D.cut ≤ 9223372036854775807) :
    Calls Tryz.prog 57 #[.pointer (some ⟨b, 0, none⟩)] W fun e w' => (∃ v, e = .returned v) ∧ DkAt w' B b bd bv vp (wroteD D) ∧ Fr (fun k => k = b) W w' := by
  have c1 := h.blk.cell 1
  have f1 := h.blk.frozen 1
  simp only [List.getElem?_cons_zero, List.getElem?_cons_succ] at c1
  have H := Lib.hid h
  clear h
  by_cases h0 : D.cut = 0
  · have e : wroteD D = D := by unfold wroteD; rw [if_pos h0]
    rw [e]
    rw [h0] at c1
    have c1' : W.cell? ⟨b, 1, none⟩ = some (.int .i64 0) := c1
    clear c1 e h0
    go_enter Tryz.func57, Tryz.ntmps57
    go_wp2_with fail
    refine bodyPost_ret (results_none rfl _ _ _) rfl ?_
    exact ⟨⟨_, rfl⟩, H.out, Fr.refl _ _⟩
  · by_cases h1 : D.cut = 1
    · have e : wroteD D = { D with lost := true, cut := 0 } := by unfold wroteD; rw [if_neg h0, if_pos h1]
      rw [e]
      rw [h1] at c1
      have c1' : W.cell? ⟨b, 1, none⟩ = some (.int .i64 1) := c1
      have HD2 := Lib.hid (H.out.setCut 0)
      clear c1 e h0 h1
      go_enter Tryz.func57, Tryz.ntmps57
      go_wp2_with fail
      refine (lose_any _ B b bd bv vp _ HD2.out).mono ?_
      rintro e w' ⟨⟨v, rfl⟩, rfl⟩
      go_wp2_with fail
      go_end0
      refine ⟨⟨_, rfl⟩, HD2.out.power true 0, ?_⟩
      exact ((Fr.refl (fun k => k = b) W).setCell ⟨b, 1, none⟩ _ (.inl rfl)).trans (Fr.power _ _ _ _) (fun _ _ h => h)
    · have e : wroteD D = { D with cut := D.cut - 1 } := by unfold wroteD; rw [if_neg h0, if_neg h1]
      rw [e]
      have hne : ((D.cut : Int) == 0) = false := by rw [beq_eq_false_iff_ne]; omega
      have hne2 : ((D.cut : Int) - 1 == 0) = false := by rw [beq_eq_false_iff_ne]; omega
      have HD2 := Lib.hid (H.out.setCut (D.cut - 1))
      have hcc : (((D.cut - 1 : Nat) : Nat) : Int) = (D.cut : Int) - 1 := by omega
      rw [hcc] at HD2
      clear e hcc
      go_enter Tryz.func57, Tryz.ntmps57
      go_wp2_with fail
      go_end0
      exact ⟨⟨_, rfl⟩, HD2.out, (Fr.refl (fun k => k = b) W).setCell ⟨b, 1, none⟩ _ (.inl rfl)⟩
/-- What Cut leaves, if the disk has power. -/
def cutD (D : DS) (n : Int) : DS := if n < 0 then D else if n = 0 then { D with lost := true, cut := 0 } else { D with cut := n.toNat }
def cutE (D : DS) (n : Int) : Int := if D.lost then 241 else if n < 0 then 2 else 0
theorem cut_any (W : World) (B b bd bv : Nat) (vp : Value) (D : DS) (n : Int) (h : DkAt W B b bd bv vp D) :
    Calls Tryz.prog 62 #[.pointer (some ⟨b, 0, none⟩), .int .i64 n] W fun e w' => e = .returned (.int .i64 (cutE D n)) ∧ DkAt w' B b bd bv vp (if D.lost then D else cutD D n) ∧ Fr (fun k => k = b) W w' := by
  have c1 := h.blk.cell 1
  have f1 := h.blk.frozen 1
  simp only [List.getElem?_cons_zero, List.getElem?_cons_succ] at c1
  have H := Lib.hid h
  clear h
  cases hl : D.lost
  · have hst : stE D = 0 := by unfold stE; rw [hl]; rfl
    have HST := Lib.hid hst
    clear hst
    by_cases h1 : n < 0
    · have e1 : cutE D n = 2 := by unfold cutE; rw [hl, if_pos h1]; rfl
      have e2 : (if false = true then D else cutD D n) = D := by unfold cutD; rw [if_pos h1]; rfl
      rw [e1, e2]
      clear e1 e2 hl
      go_enter Tryz.func62, Tryz.ntmps62
      go_wp2_with fail
      refine (state_any W B b bd bv vp D H.out).mono ?_
      rw [HST.out]
      rintro e w' ⟨rfl, rfl⟩
      go_wp2_with fail
      go_ret
      exact ⟨rfl, H.out, Fr.refl _ _⟩
    · have e1 : cutE D n = 0 := by unfold cutE; rw [hl, if_neg h1]; rfl
      by_cases h2 : n = 0
      · subst h2
        have e2 : (if false = true then D else cutD D 0) = { D with lost := true, cut := 0 } := by unfold cutD; rfl
        rw [e1, e2]
        clear e1 e2 hl h1
        go_enter Tryz.func62, Tryz.ntmps62
        go_wp2_with fail
        refine (state_any W B b bd bv vp D H.out).mono ?_
        rw [HST.out]
        rintro e w' ⟨rfl, rfl⟩
        go_wp2_with fail
        refine (lose_any _ B b bd bv vp _ H.out).mono ?_
        rintro e w' ⟨⟨v, rfl⟩, rfl⟩
        go_wp2_with fail
        go_ret
        exact ⟨rfl, H.out.power true 0, Fr.power _ _ _ _⟩
      · have e2 : (if false = true then D else cutD D n) = { D with cut := n.toNat } := by unfold cutD; rw [if_neg h1, if_neg h2]; rfl
        rw [e1, e2]
        obtain ⟨m, rfl⟩ : ∃ m : Nat, n = m := ⟨n.toNat, by omega⟩
        have hne : ((m : Int) == 0) = false := by rw [beq_eq_false_iff_ne]; omega
        clear e1 e2 hl h1 h2
        rw [Int.toNat_natCast]
        go_enter Tryz.func62, Tryz.ntmps62
        go_wp2_with fail
        refine (state_any W B b bd bv vp D H.out).mono ?_
        rw [HST.out]
        rintro e w' ⟨rfl, rfl⟩
        go_wp2_with fail
        go_ret
        exact ⟨rfl, H.out.setCut m, (Fr.refl (fun k => k = b) W).setCell ⟨b, 1, none⟩ _ (.inl rfl)⟩
  · have hst : stE D = 241 := by unfold stE; rw [hl]; rfl
    have e1 : cutE D n = 241 := by unfold cutE; rw [hl]; rfl
    rw [e1]
    have HST := Lib.hid hst
    clear hst e1 hl
    go_enter Tryz.func62, Tryz.ntmps62
    go_wp2_with fail
    refine (state_any W B b bd bv vp D H.out).mono ?_
    rw [HST.out]
    rintro e w' ⟨rfl, rfl⟩
    go_wp2_with fail
    go_ret
    exact ⟨rfl, H.out, Fr.refl _ _⟩
end Go.Proofs.YtfpcdlpfmlaakaaGreatDoor
namespace Go.Proofs.YtfpcdlpfmlaakaaGreatDoor
open Go.RowKit
theorem conv_blk {W : World} {g : Nat} {l : List UInt8} (h : Blk W g 5 (cellsB l)) (off n cap : Nat) (hn : off + n ≤ l.length) : (convert 42 9 (.slice (some ⟨g, off, none⟩) n cap)).run Tryz.prog W = .ok (.string ⟨((l.drop off).take n).toArray⟩) W := by
  have hl : ((l.drop off).take n).length = n := by rw [List.length_take, List.length_drop]; omega
  have := run_convert_bytes_back (P := Tryz.prog) W 42 9 5 ⟨g, off, none⟩ cap ((l.drop off).take n) Tryz.underlying42 Tryz.underlying5 Tryz.underlying9 (fun j hj => by
    rw [hl] at hj
    rw [show ((⟨g, off, none⟩ : Addr).add j) = ⟨g, off + j, none⟩ from by unfold Addr.add; split <;> simp_all, h.cell, cellsB_get l (off + j) (by omega)]
    simp)
  rw [hl] at this
  exact this
theorem conv_blk0 (W : World) (a : Option Addr) (cap : Nat) : (convert 42 9 (.slice a 0 cap)).run Tryz.prog W = .ok (.string ⟨#[]⟩) W := by
  cases a with
  | none => exact Lib.run_convert_nil_bytes W 42 9 5 cap Tryz.underlying42 Tryz.underlying5 Tryz.underlying9
  | some a => exact run_convert_bytes_back (P := Tryz.prog) W 42 9 5 a cap [] Tryz.underlying42 Tryz.underlying5 Tryz.underlying9 (fun j hj => by simp at hj)
def readL (D : DS) (off n : Int) : List UInt8 := if D.lost then [] else if insB D off n then (D.vis.drop off.toNat).take n.toNat else []
def readE (D : DS) (off n : Int) : Int := if D.lost then 241 else if insB D off n then 0 else 240
set_option maxRecDepth 100000 in
theorem read_any (W : World) (B b bd bv : Nat) (vp : Value) (D : DS) (off n : Int) (ho : -9223372036854775808 ≤ off) (ho1 : off ≤ 9223372036854775807) (hn : -9223372036854775808 ≤ n) (hn1 : n ≤ 9223372036854775807) (h : DkAt W B b bd bv vp D) :
    Calls Tryz.prog 60 #[.pointer (some ⟨b, 0, none⟩), .int .i64 off, .int .i64 n] W fun e w' => e = .returned (.tuple #[.string ⟨(readL D off n).toArray⟩, .int .i64 (readE D off n)]) ∧ W = w' := by
  have c3 := h.blk.cell 3
  have hm := h.max
  simp only [List.getElem?_cons_zero, List.getElem?_cons_succ] at c3
  have H := Lib.hid h
  clear h
  cases hl : D.lost
  · have hst : stE D = 0 := by unfold stE; rw [hl]; rfl
    have HST := Lib.hid hst
    clear hst
    cases hi : insB D off n
    · have e1 : readL D off n = [] := by unfold readL; rw [hl, hi]; rfl
      have e2 : readE D off n = 240 := by unfold readE; rw [hl, hi]; rfl
      rw [e1, e2]
      have HI := Lib.hid hi
      clear e1 e2 hl hi
      go_enter Tryz.func60, Tryz.ntmps60
      go_wp2_with fail
      refine (state_any W B b bd bv vp D H.out).mono ?_
      rw [HST.out]
      rintro e w' ⟨rfl, rfl⟩
      go_wp2_with fail
      refine (inside_any W B b bd bv vp D off n ho ho1 hn hn1 H.out).mono ?_
      rw [HI.out]
      rintro e w' ⟨rfl, rfl⟩
      go_wp2_with fail
      go_ret2
      exact ⟨rfl, rfl⟩
    · have hii := of_decide_eq_true hi
      have e1 : readL D off n = (D.vis.drop off.toNat).take n.toNat := by unfold readL; rw [hl, hi]; rfl
      have e2 : readE D off n = 0 := by unfold readE; rw [hl, hi]; rfl
      obtain ⟨o, rfl⟩ : ∃ o : Nat, off = o := ⟨off.toNat, by omega⟩
      obtain ⟨m, rfl⟩ : ∃ m : Nat, n = m := ⟨n.toNat, by omega⟩
      rw [Int.toNat_natCast, Int.toNat_natCast] at e1
      rw [e1, e2]
      have HI := Lib.hid hi
      clear e1 e2 hl hi
      obtain ⟨hi1, hi2, hi3, hi4⟩ := hii
      have hom : (o : Int) + m ≤ D.vis.length := by omega
      by_cases hm0 : m = 0
      · subst hm0
        rw [List.take_zero]
        have hcv := conv_blk0 W
        go_enter Tryz.func60, Tryz.ntmps60
        go_wp2_with fail
        refine (state_any W B b bd bv vp D H.out).mono ?_
        rw [HST.out]
        rintro e w' ⟨rfl, rfl⟩
        go_wp2_with fail
        refine (inside_any W B b bd bv vp D _ _ ho ho1 hn hn1 H.out).mono ?_
        rw [HI.out]
        rintro e w' ⟨rfl, rfl⟩
        go_wp2_with fail
        all_goals (go_ret2; exact ⟨rfl, rfl⟩)
      · have hcv := conv_blk H.out.vis o m (D.vis.length - o) (by omega)
        have hlt : (o : Int) < (o : Int) + m := by omega
        have hsw := Lib.run_slice_window (P := Tryz.prog) W 42 5 Tryz.underlying42 (fun _ => by kernel_rfl) bv 0 D.vis.length D.vis.length o (o + m) (by omega) (by omega)
        rw [Nat.zero_add, show o + m - o = m from by omega] at hsw
        rw [show ((o + m : Nat) : Int) = (o : Int) + m from by omega] at hsw
        go_enter Tryz.func60, Tryz.ntmps60
        go_wp2_with fail
        refine (state_any W B b bd bv vp D H.out).mono ?_
        rw [HST.out]
        rintro e w' ⟨rfl, rfl⟩
        go_wp2_with fail
        refine (inside_any W B b bd bv vp D _ _ ho ho1 hn hn1 H.out).mono ?_
        rw [HI.out]
        rintro e w' ⟨rfl, rfl⟩
        go_wp2_with fail
        go_ret2
        exact ⟨rfl, rfl⟩
  · have hst : stE D = 241 := by unfold stE; rw [hl]; rfl
    have e1 : readL D off n = [] := by unfold readL; rw [hl]; rfl
    have e2 : readE D off n = 241 := by unfold readE; rw [hl]; rfl
    rw [e1, e2]
    have HST := Lib.hid hst
    clear hst e1 e2 hl
    go_enter Tryz.func60, Tryz.ntmps60
    go_wp2_with fail
    refine (state_any W B b bd bv vp D H.out).mono ?_
    rw [HST.out]
    rintro e w' ⟨rfl, rfl⟩
    go_wp2_with fail
    go_ret2
    exact ⟨rfl, rfl⟩
end Go.Proofs.YtfpcdlpfmlaakaaGreatDoor
namespace Go.Proofs.YtfpcdlpfmlaakaaGreatDoor
open Go.RowKit
theorem Tryz.infoU8 : (Tryz.prog.info? 5).map (fun i => (i.zero, i.size, i.bytes)) = some (some (.int .u8 0), 1, 1) := by kernel_rfl
/-- n zero bytes. -/
def zeroL (n : Nat) : List UInt8 := List.replicate n 0
theorem zeroL_len (n : Nat) : (zeroL n).length = n := by simp [zeroL]
def zcells (n : Nat) : Array Value := (cellsB (zeroL n)).toArray
theorem made_zero (n : Nat) : madeCells (Value.int .u8 0).cells (n * 1) = zcells n := by
  apply Array.ext
  · simp [madeCells, zcells, cellsB, zeroL]
  · intro i h1 h2
    simp [madeCells, zcells, cellsB, zeroL, Value.cells, Nat.mod_one]
theorem run_make_bytes (n : Nat) (hn : n ≤ 16777216) (W : World) : (Instr.makeSlice 42 (.int .i64 (n : Int)) (.int .i64 (n : Int))).run Tryz.prog W = .ok (.slice (some ⟨W.heap.size, 0, none⟩) n n) (W.alloc (.cells (zcells n) 5)) := by
  obtain ⟨i0, hi, hz0, hz1, hz2⟩ := info_parts Tryz.infoU8
  have hr := run_make (P := Tryz.prog) W 42 5 i0 (.int .u8 0) Tryz.underlying42 hi hz0 .i64 .i64 n n (by omega) (Int.le_refl _) (by rw [hz2]; omega) (by omega)
  rw [Int.toNat_natCast, hz1, made_zero] at hr
  exact hr
def newD (n : Nat) : DS := { lost := false, cut := 0, dur := zeroL n, vis := zeroL n, pend := [] }
theorem newAt (W : World) (B n bd bv : Nat) (hB : B ≤ W.heap.size) (h1 : 1 ≤ n) (h2 : n ≤ 4194304) (h : (bd = W.heap.size ∧ bv = W.heap.size + 1) ∨ (bd = W.heap.size + 1 ∧ bv = W.heap.size)) :
    DkAt ((((W.alloc (.cells (zcells n) 5)).alloc (.cells (zcells n) 5)).alloc (.cells #[.bool false, .int .i64 0, .slice (some ⟨bd, 0, none⟩) n n, .slice (some ⟨bv, 0, none⟩) n n, .slice none 0 0] 83)).drew) B (W.heap.size + 1 + 1) bd bv (.slice none 0 0) (newD n) ∧
    Below W.heap.size W ((((W.alloc (.cells (zcells n) 5)).alloc (.cells (zcells n) 5)).alloc (.cells #[.bool false, .int .i64 0, .slice (some ⟨bd, 0, none⟩) n n, .slice (some ⟨bv, 0, none⟩) n n, .slice none 0 0] 83)).drew) ∧ W.heap.size ≤ W.heap.size + 1 + 1 ∧ W.heap.size ≤ bd ∧ W.heap.size ≤ bv := by
  have hA : Blk (W.alloc (.cells (zcells n) 5)) W.heap.size 5 (cellsB (zeroL n)) := Blk.new W 5 (cellsB (zeroL n))
  have hB' : Blk ((W.alloc (.cells (zcells n) 5)).alloc (.cells (zcells n) 5)) (W.heap.size + 1) 5 (cellsB (zeroL n)) := by
    have := Blk.new (W.alloc (.cells (zcells n) 5)) 5 (cellsB (zeroL n))
    rwa [World.size_alloc] at this
  have hC : Blk (((W.alloc (.cells (zcells n) 5)).alloc (.cells (zcells n) 5)).alloc (.cells #[.bool false, .int .i64 0, .slice (some ⟨bd, 0, none⟩) n n, .slice (some ⟨bv, 0, none⟩) n n, .slice none 0 0] 83)) (W.heap.size + 1 + 1) 83 [.bool false, .int .i64 0, .slice (some ⟨bd, 0, none⟩) n n, .slice (some ⟨bv, 0, none⟩) n n, .slice none 0 0] := by
    have := Blk.new ((W.alloc (.cells (zcells n) 5)).alloc (.cells (zcells n) 5)) 83 [.bool false, .int .i64 0, .slice (some ⟨bd, 0, none⟩) n n, .slice (some ⟨bv, 0, none⟩) n n, .slice none 0 0]
    rwa [World.size_alloc, World.size_alloc] at this
  have hl : (newD n).vis.length = n := zeroL_len n
  refine ⟨⟨?_, ?_, ?_, World.ownsRow_nil _ _ _ _, rfl, by omega, by omega, by omega, by omega, by omega, by omega, by omega, by omega, fun g hg => by simp [Value.ownBlock] at hg⟩, ?_, by omega, by omega, by omega⟩
  · rw [hl]
    exact hC.drew
  · rcases h with ⟨rfl, rfl⟩ | ⟨rfl, rfl⟩
    · exact ((hA.alloc _).alloc _).drew
    · exact (hB'.alloc _).drew
  · rcases h with ⟨rfl, rfl⟩ | ⟨rfl, rfl⟩
    · exact (hB'.alloc _).drew
    · exact ((hA.alloc _).alloc _).drew
  · exact ((((Below.refl _ W).alloc (Nat.le_refl _) _).alloc (by simp) _).alloc (by simp; omega) _).drew
set_option maxRecDepth 100000 in
theorem new_ok (n : Nat) (W : World) (B : Nat) (hB : B ≤ W.heap.size) (h1 : 1 ≤ n) (h2 : n ≤ 4194304) :
    Calls Tryz.prog 6 #[.int .i64 n] W fun e w' => ∃ b bd bv, e = .returned (.tuple #[.pointer (some ⟨b, 0, none⟩), .int .i64 0]) ∧ DkAt w' B b bd bv (.slice none 0 0) (newD n) ∧ Below W.heap.size W w' ∧ W.heap.size ≤ b ∧ W.heap.size ≤ bd ∧ W.heap.size ≤ bv := by
  have hmk := run_make_bytes n (by omega)
  have d1 : decide ((n : Int) < 1) = false := by simp; omega
  have d2 : decide ((4194304 : Int) < (n : Int)) = false := by simp; omega
  go_enter Tryz.func6, Tryz.ntmps6
  go_wp2_with fail
  go_region
  · go_wp2_with fail
    go_ret2
    exact ⟨_, _, _, rfl, newAt W B n W.heap.size (W.heap.size + 1) hB h1 h2 (.inl ⟨rfl, rfl⟩)⟩
  · go_wp2_with fail
    go_ret2
    exact ⟨_, _, _, rfl, newAt W B n (W.heap.size + 1) W.heap.size hB h1 h2 (.inr ⟨rfl, rfl⟩)⟩
theorem zeroW (w : World) : (zeroValue 113).run Tryz.prog w = .ok (.agg #[.int .i64 0, .string ⟨#[]⟩]) w := by kernel_rfl
theorem zcells_len (n : Nat) : (Builtin.zeroCells (Value.agg #[.int .i64 0, .string ⟨#[]⟩]).cells n).toList.length = n * 2 := by simp [Builtin.zeroCells, Value.cells]
theorem zcells_one (n : Nat) : ∀ v ∈ (Builtin.zeroCells (Value.agg #[.int .i64 0, .string ⟨#[]⟩]).cells n).toList, v.oneCell' = true := by
  intro v hv
  simp only [Builtin.zeroCells, Array.toList_map, List.mem_map] at hv
  obtain ⟨i, _, rfl⟩ := hv
  have : i % 2 = 0 ∨ i % 2 = 1 := by omega
  rcases this with h | h <;> simp [Value.cells, h, Value.oneCell']
/-- 'clear' of the pending writes: the row stays the disk's own. -/
theorem clear_own {W : World} {B : Nat} {vp : Value} {n : Nat} {xs : List Value} (h : W.ownsRow B 113 2 vp n xs) : ∃ (w' : World) (ys : List Value), (∀ ty, (Builtin.clear_ #[81] ty #[vp]).run Tryz.prog W = .ok (.tuple #[]) w') ∧ w'.ownsRow B 113 2 vp n ys ∧ Fr (fun k => vp.ownBlock = some k) W w' := by
  rcases h.2 with ⟨rfl, rfl⟩ | ⟨g, cap, cur, rfl, h1, h2, h3, h4, h5, h6⟩
  · exact ⟨W, xs, fun ty => by simp [Builtin.clear_, run_underlying Tryz.underlying81], h, Fr.refl _ _⟩
  · cases n with
    | zero => exact ⟨W, xs, fun ty => by simp [Builtin.clear_, run_underlying Tryz.underlying81], h, Fr.refl _ _⟩
    | succ m =>
      obtain ⟨Z, hZ⟩ : ∃ Z, (Builtin.zeroCells (Value.agg #[.int .i64 0, .string ⟨#[]⟩]).cells (m + 1)).toList = Z := ⟨_, rfl⟩
      have hst := run_storeCells_at Tryz.prog g 0 113 (Builtin.zeroCells (Value.agg #[.int .i64 0, .string ⟨#[]⟩]).cells (m + 1)).toList 0 cur W h2 (by rw [zcells_len, h5]; have := Nat.mul_le_mul_right 2 h3; omega) (zcells_one _)
      have hzl := zcells_len (m + 1)
      rw [hZ] at hst hzl
      have hcz : (m + 1) * 2 ≤ cur.size := by rw [h5]; exact Nat.mul_le_mul_right 2 h3
      simp only [Nat.add_zero, Nat.zero_add, List.take_zero, List.nil_append] at hst
      refine ⟨W.setRow g (Z ++ cur.toList.drop Z.length).toArray, (Z ++ cur.toList.drop Z.length).take ((m + 1) * 2), fun ty => ?_, ⟨?_, .inr ⟨g, cap, (Z ++ cur.toList.drop Z.length).toArray, rfl, h1, Blk.setRow (l := cur.toList) (by unfold Blk; simpa using h2) _, h3, h4, ?_, rfl⟩⟩, (Fr.refl _ W).setRow g _ (.inl rfl)⟩
      · simp only [Builtin.clear_]
        simp [run_underlying Tryz.underlying81, zeroW]
        rw [hZ, hst]
        rfl
      · simp only [List.length_take, List.length_append, List.length_drop, Array.length_toList, hzl]
        omega
      · simp only [List.size_toArray, List.length_append, List.length_drop, Array.length_toList, hzl, h5]
        omega
/-- A disk whose own blocks, but for the row of the pending writes, are as they were. -/
theorem DkAt.kept {W W' : World} {B b bd bv : Nat} {vp : Value} {D : DS} (h : DkAt W B b bd bv vp D) (hf : ∀ k, Foot b bd bv vp k → W'.heap[k]? = W.heap[k]?) : DkAt W' B b bd bv vp D :=
  ⟨h.blk.kept (hf _ (.inl rfl)), h.dur.kept (hf _ (.inr (.inl rfl))), h.vis.kept (hf _ (.inr (.inr (.inl rfl)))), ownsRow_kept h.own (fun g hg => hf g (.inr (.inr (.inr hg)))), h.len, h.pos, h.max, h.hb, h.hbd, h.hbv, h.ne1, h.ne2, h.ne3, h.np⟩
/-- A disk whose blocks are not among those that may have turned. -/
theorem DkAt.fr {W W' : World} {B b bd bv : Nat} {vp : Value} {D : DS} {S : Nat → Prop} (h : DkAt W B b bd bv vp D) (hf : Fr S W W') (hs : ∀ k, Foot b bd bv vp k → ¬ S k) : DkAt W' B b bd bv vp D :=
  h.kept (fun k hk => hf.block k (by
    rcases hk with rfl | rfl | rfl | hk
    · exact h.blk.lt
    · exact h.dur.lt
    · exact h.vis.lt
    · rcases h.own.2 with ⟨rfl, _⟩ | ⟨g, cap, cur, rfl, _, h2, _⟩
      · simp [Value.ownBlock] at hk
      · simp [Value.ownBlock] at hk
        subst hk
        exact (Array.getElem?_eq_some_iff.1 h2).1) (hs k hk))
set_option maxRecDepth 100000 in
theorem settle_any (W : World) (B b bd bv : Nat) (vp : Value) (D : DS) (h : DkAt W B b bd bv vp D) :
    Calls Tryz.prog 87 #[.pointer (some ⟨b, 0, none⟩)] W fun e w' => (∃ v, e = .returned v) ∧ ∃ vp', DkAt w' B b bd bv vp' { D with pend := [] } ∧ vp'.ownBlock = vp.ownBlock ∧ Fr (Foot b bd bv vp) W w' := by
  obtain ⟨w1, ys, hrun, hown, hfr⟩ := clear_own h.own
  have c4 := h.blk.cell 4
  simp only [List.getElem?_cons_zero, List.getElem?_cons_succ] at c4
  have hb1 : Blk w1 b 83 _ := h.blk.kept (hfr.block b h.blk.lt (fun e => (h.np b e).1 rfl))
  have c4' := hb1.cell 4
  have f4' := hb1.frozen 4
  simp only [List.getElem?_cons_zero, List.getElem?_cons_succ] at c4'
  have HFR : Hid (Fr (Foot b bd bv vp) W w1) := hfr.mono (fun k hk => .inr (.inr (.inr hk)))
  have H1 : Hid (∀ vp', w1.ownsRow B 113 2 vp' 0 [] → vp'.ownBlock = vp.ownBlock → DkAt (w1.setCell ⟨b, 4, none⟩ vp') B b bd bv vp' { D with pend := [] }) := by
    intro vp' ho he
    have e : ∀ k, k ≠ b → (w1.setCell ⟨b, 4, none⟩ vp').heap[k]? = w1.heap[k]? := fun k hk => by
      rw [Below.heap_setCell _ _ _ _ hk]
    have hnp : ∀ g, vp'.ownBlock = some g → g ≠ b ∧ g ≠ bd ∧ g ≠ bv := fun g hg => h.np g (by rw [← he]; exact hg)
    exact ⟨hb1.set 4 _, (h.dur.kept (hfr.block bd h.dur.lt (fun e => (h.np bd e).2.1 rfl))).kept (e _ h.ne1.symm), (h.vis.kept (hfr.block bv h.vis.lt (fun e => (h.np bv e).2.2 rfl))).kept (e _ h.ne2.symm), ownsRow_kept ho (fun g hg => e g (hnp g hg).1), h.len, h.pos, h.max, h.hb, h.hbd, h.hbv, h.ne1, h.ne2, h.ne3, hnp⟩
  have HO := Lib.hid hown
  clear h hb1 hfr hown
  rcases HO.out.2 with ⟨rfl, h0⟩ | ⟨g, cap, cur, rfl, p1, p2, p3, p4, p5, p6⟩
  · clear h0
    go_enter Tryz.func87, Tryz.ntmps87
    go_wp2_with fail
    go_end0
    exact ⟨⟨_, rfl⟩, _, H1.out _ (World.ownsRow_nil _ _ _ _) rfl, rfl, HFR.out.setCell ⟨b, 4, none⟩ _ (.inl (.inl rfl))⟩
  · have HO0 : Hid (w1.ownsRow B 113 2 (.slice (some ⟨g, 0, none⟩) 0 cap) 0 []) := ⟨rfl, .inr ⟨g, cap, cur, rfl, p1, p2, Nat.zero_le _, p4, p5, by simp⟩⟩
    clear p1 p2 p5 p6 HO
    go_enter Tryz.func87, Tryz.ntmps87
    go_wp2_with fail
    go_end0
    exact ⟨⟨_, rfl⟩, _, H1.out _ HO0.out rfl, rfl, HFR.out.setCell ⟨b, 4, none⟩ _ (.inl (.inl rfl))⟩
end Go.Proofs.YtfpcdlpfmlaakaaGreatDoor
namespace Go.Proofs.YtfpcdlpfmlaakaaGreatDoor
open Go.RowKit
theorem sizeU8 : (Tryz.prog.info? 5).map (·.size) = some 1 := by kernel_rfl
theorem cellsB_one (l : List UInt8) : ∀ v ∈ cellsB l, v.oneCell' = true := by
  intro v hv
  obtain ⟨x, _, rfl⟩ := List.mem_map.1 hv
  rfl
set_option maxRecDepth 100000 in
/-- 'copy(dst, src)' of one block of bytes into another, whole. -/
theorem run_copy_blk {W : World} {g k : Nat} {a c : List UInt8} (ha : Blk W g 5 (cellsB a)) (hc : Blk W k 5 (cellsB c)) (hl : a.length = c.length) (ty : TypeId) :
    (Builtin.copy_ #[42, 42] ty #[.slice (some ⟨g, 0, none⟩) c.length c.length, .slice (some ⟨k, 0, none⟩) c.length c.length]).run Tryz.prog W = .ok (goInt c.length) (W.setRow g (cellsB c).toArray) := by
  have h := run_copy_row (P := Tryz.prog) W 42 42 ty 5 g 0 c.length c.length ⟨k, 0, none⟩ c.length c.length (cellsB a).toArray 5 (cellsB c) Tryz.underlying42 sizeU8 ha (by rw [cellsB_len]; simp) (fun j v hj => by
      rw [show ((⟨k, 0, none⟩ : Addr).add j) = ⟨k, j, none⟩ from by unfold Addr.add; split <;> simp_all, hc.cell]
      exact hj) (by rw [cellsB_len]; simp [cellsB_len, hl]) (cellsB_one c)
  rw [cellsB_len] at h
  rw [h]
  congr 3
  simp [cellsB_len, hl]
/-- The durable content is set. -/
theorem DkAt.setDur {W : World} {B b bd bv : Nat} {vp : Value} {D : DS} (h : DkAt W B b bd bv vp D) (l : List UInt8) (hl : l.length = D.vis.length) : DkAt (W.setRow bd (cellsB l).toArray) B b bd bv vp { D with dur := l } := by
  have e : ∀ k, k ≠ bd → (W.setRow bd (cellsB l).toArray).heap[k]? = W.heap[k]? := fun k hk => heap_setRow_other _ _ _ _ hk
  exact ⟨h.blk.kept (e _ h.ne1), h.dur.setRow _, h.vis.kept (e _ h.ne3.symm), ownsRow_kept h.own (fun g hg => e g (h.np g hg).2.1), hl, h.pos, h.max, h.hb, h.hbd, h.hbv, h.ne1, h.ne2, h.ne3, h.np⟩
/-- The visible content is set. -/
theorem DkAt.setVis {W : World} {B b bd bv : Nat} {vp : Value} {D : DS} (h : DkAt W B b bd bv vp D) (l : List UInt8) (hl : l.length = D.vis.length) : DkAt (W.setRow bv (cellsB l).toArray) B b bd bv vp { D with vis := l } := by
  have e : ∀ k, k ≠ bv → (W.setRow bv (cellsB l).toArray).heap[k]? = W.heap[k]? := fun k hk => heap_setRow_other _ _ _ _ hk
  exact ⟨by rw [show ({ D with vis := l } : DS).vis.length = D.vis.length from hl]; exact h.blk.kept (e _ h.ne2), h.dur.kept (e _ h.ne3), h.vis.setRow _, ownsRow_kept h.own (fun g hg => e g (h.np g hg).2.2), by show D.dur.length = l.length; rw [hl]; exact h.len, by show 1 ≤ l.length; rw [hl]; exact h.pos, by show l.length ≤ _; rw [hl]; exact h.max, h.hb, h.hbd, h.hbv, h.ne1, h.ne2, h.ne3, h.np⟩
theorem DkAt.drew {W : World} {B b bd bv : Nat} {vp : Value} {D : DS} (h : DkAt W B b bd bv vp D) : DkAt W.drew B b bd bv vp D := h.kept (fun _ _ => rfl)
def syncD (D : DS) : DS := if D.lost then D else { D with dur := D.vis, pend := [] }
set_option maxRecDepth 100000 in
theorem sync_any (W : World) (B b bd bv : Nat) (vp : Value) (D : DS) (h : DkAt W B b bd bv vp D) :
    Calls Tryz.prog 48 #[.pointer (some ⟨b, 0, none⟩)] W fun e w' => e = .returned (.int .i64 (stE D)) ∧ ∃ vp', DkAt w' B b bd bv vp' (syncD D) ∧ vp'.ownBlock = vp.ownBlock ∧ Fr (Foot b bd bv vp) W w' := by
  have c2 := h.blk.cell 2
  have c3 := h.blk.cell 3
  simp only [List.getElem?_cons_zero, List.getElem?_cons_succ] at c2 c3
  have H := Lib.hid h
  clear h
  cases hl : D.lost
  · have hst : stE D = 0 := by unfold stE; rw [hl]; rfl
    have e2 : syncD D = { D with dur := D.vis, pend := [] } := by unfold syncD; rw [hl]; rfl
    rw [e2, hst]
    have HST := Lib.hid hst
    have hcp := run_copy_blk H.out.dur.drew H.out.vis.drew H.out.len
    have HD := Lib.hid (H.out.drew.setDur D.vis rfl)
    clear hst e2 hl
    go_enter Tryz.func48, Tryz.ntmps48
    go_wp2_with fail
    refine (state_any W B b bd bv vp D H.out).mono ?_
    rw [HST.out]
    rintro e w' ⟨rfl, rfl⟩
    go_wp2_with fail
    go_region
    go_wp2_with fail
    refine (settle_any _ B b bd bv vp _ HD.out).mono ?_
    rintro e w' ⟨⟨v, rfl⟩, vp', hd', ho', hf'⟩
    have HD' := Lib.hid hd'
    have HF' := Lib.hid hf'
    clear hd' hf'
    go_wp2_with fail
    go_ret
    exact ⟨rfl, vp', HD'.out, ho', ((Fr.refl _ W).drew.setRow bd _ (.inl (.inr (.inl rfl)))).trans HF'.out (fun _ _ h => h)⟩
  · have hst : stE D = 241 := by unfold stE; rw [hl]; rfl
    have e2 : syncD D = D := by unfold syncD; rw [hl]; rfl
    rw [e2, hst]
    have HST := Lib.hid hst
    clear hst e2 hl
    go_enter Tryz.func48, Tryz.ntmps48
    go_wp2_with fail
    refine (state_any W B b bd bv vp D H.out).mono ?_
    rw [HST.out]
    rintro e w' ⟨rfl, rfl⟩
    go_wp2_with fail
    go_ret
    exact ⟨rfl, vp, H.out, rfl, Fr.refl _ _⟩
end Go.Proofs.YtfpcdlpfmlaakaaGreatDoor
namespace Go.Proofs.YtfpcdlpfmlaakaaGreatDoor
open Go.RowKit
theorem Tryz.infoW : (Tryz.prog.info? 113).map (fun i => (i.zero, i.size, i.bytes)) = some (some (.agg #[.int .i64 0, .string ⟨#[]⟩]), 2, 24) := by kernel_rfl
/-- s written at off. -/
def splice (l : List UInt8) (off : Nat) (s : List UInt8) : List UInt8 := l.take off ++ s ++ l.drop (off + s.length)
theorem splice_len (l : List UInt8) (off : Nat) (s : List UInt8) (h : off + s.length ≤ l.length) : (splice l off s).length = l.length := by
  simp [splice]; omega
theorem splice_nil (l : List UInt8) (off : Nat) : splice l off [] = l := by simp [splice]
theorem byteCells_eq (l : List UInt8) : Lib.byteCells l = cellsB l := rfl
set_option maxRecDepth 100000 in
/-- 'copy(dst[off:], s)', s a string. -/
theorem run_copy_str {W : World} {g : Nat} {a : List UInt8} (ha : Blk W g 5 (cellsB a)) (off n cap : Nat) (s : ByteArray) (hs : s.size ≤ n) (hf : off + s.size ≤ a.length) (ty : TypeId) :
    (Builtin.copy_ #[42, 9] ty #[.slice (some ⟨g, off, none⟩) n cap, .string s]).run Tryz.prog W = .ok (goInt s.size) (W.setRow g (cellsB (splice a off s.data.toList)).toArray) := by
  have h := Lib.run_copy_row_string (P := Tryz.prog) W 42 9 ty 5 g off n cap s (cellsB a).toArray 5 Tryz.underlying42 sizeU8 ha hs (by simp [cellsB_len]; exact hf)
  rw [h, byteCells_eq]
  congr 3
  simp only [splice, cellsB_append, cellsB_take, cellsB_drop, blen]
def writeE (D : DS) (off : Int) (s : ByteArray) : Int := if D.lost then 241 else if insB D off s.size then 0 else 240
def writeD (D : DS) (off : Int) (s : ByteArray) : DS := if D.lost then D else if insB D off s.size then wroteD { D with vis := splice D.vis off.toNat s.data.toList, pend := D.pend ++ [(off.toNat, s)] } else D
theorem pcells_snoc (l : List (Nat × ByteArray)) (o : Nat) (s : ByteArray) : pcells l ++ [.int .i64 (o : Int), .string s] = pcells (l ++ [(o, s)]) := by simp [pcells]
set_option maxHeartbeats 1000000 in
set_option maxRecDepth 100000 in
theorem write_ok (W : World) (B b bd bv : Nat) (vp : Value) (D : DS) (o : Nat) (s : ByteArray) (hB : B ≤ W.heap.size) (hl : D.lost = false) (hin : o + s.size ≤ D.vis.length) (hpl : D.pend.length ≤ 1000000) (hcut : D.cut ≤ 9223372036854775807) (h : DkAt W B b bd bv vp D) :
    Calls Tryz.prog 13 #[.pointer (some ⟨b, 0, none⟩), .int .i64 o, .string s] W fun e w' => e = .returned (.int .i64 0) ∧ ∃ vp', DkAt w' B b bd bv vp' (wroteD { D with vis := splice D.vis o s.data.toList, pend := D.pend ++ [(o, s)] }) ∧ (∀ k, vp'.ownBlock = some k → vp.ownBlock = some k ∨ W.heap.size ≤ k) ∧ Fr (Foot b bd bv vp) W w' := by
  have hm := h.max
  have hst : stE D = 0 := by unfold stE; rw [hl]; rfl
  have hii : insB D o s.size = true := decide_eq_true (by omega)
  have HST := Lib.hid hst
  have HII := Lib.hid hii
  obtain ⟨i0, hi, hz0, hz1, hz2⟩ := info_parts Tryz.infoW
  -- the append
  have hownA : (W.alloc (.cells #[.int .i64 (o : Int), .string s] 113)).ownsRow B 113 2 vp D.pend.length (pcells D.pend) := h.own.alloc _
  have hnew : Blk (W.alloc (.cells #[.int .i64 (o : Int), .string s] 113)) W.heap.size 113 [.int .i64 (o : Int), .string s] := Blk.new W _ _
  obtain ⟨v', w1, hrun, ho1, hf1, hk1⟩ := app_own (P := Tryz.prog) (W := W.alloc (.cells #[.int .i64 (o : Int), .string s] 113)) B 81 81 113 i0 (.agg #[.int .i64 0, .string ⟨#[]⟩]) 2 24 Tryz.underlying81 hi hz0 hz1 hz2 rfl (by decide) vp D.pend.length (pcells D.pend) hownA ⟨W.heap.size, 0, none⟩ 1 1 [.int .i64 (o : Int), .string s] rfl (fun j u hj => by
      rw [show ((⟨W.heap.size, 0, none⟩ : Addr).add j) = ⟨W.heap.size, j, none⟩ from by unfold Addr.add; split <;> simp_all, hnew.cell]
      exact hj) (by intro u hu; simp at hu; rcases hu with rfl | rfl <;> rfl) (by unfold maxLen; omega) (by omega) (by simp; omega)
  rw [pcells_snoc] at ho1
  have hW1 : Fr (Foot b bd bv vp) W w1 := ((Fr.refl _ W).alloc _).trans hf1 (fun k _ hk => .inr (.inr (.inr hk)))
  have hlt : ∀ k, k < W.heap.size → vp.ownBlock ≠ some k → w1.heap[k]? = W.heap[k]? := fun k hk hn => by
    rw [hf1.block k (by simp; omega) hn, Below.heap_alloc _ _ _ hk]
  have nv : ∀ k, k = b ∨ k = bd ∨ k = bv → vp.ownBlock ≠ some k := fun k hk e => by
    have := h.np k e
    rcases hk with rfl | rfl | rfl
    · exact this.1 rfl
    · exact this.2.1 rfl
    · exact this.2.2 rfl
  have hb1 : Blk w1 b 83 _ := h.blk.kept (hlt b h.blk.lt (nv b (.inl rfl)))
  have hd1 := h.dur.kept (hlt bd h.dur.lt (nv bd (.inr (.inl rfl))))
  have hv1 := h.vis.kept (hlt bv h.vis.lt (nv bv (.inr (.inr rfl))))
  have np1 : ∀ g, v'.ownBlock = some g → g ≠ b ∧ g ≠ bd ∧ g ≠ bv := fun g hg => by
    rcases hk1 g hg with hg' | hg'
    · exact h.np g hg'
    · have q1 := h.blk.lt
      have q2 := h.dur.lt
      have q3 := h.vis.lt
      simp at hg'
      omega
  have hD1 : DkAt (w1.setCell ⟨b, 4, none⟩ v') B b bd bv v' { D with pend := D.pend ++ [(o, s)] } := by
    have e : ∀ k, k ≠ b → (w1.setCell ⟨b, 4, none⟩ v').heap[k]? = w1.heap[k]? := fun k hk => by
      rw [Below.heap_setCell _ _ _ _ hk]
    exact ⟨hb1.set 4 _, hd1.kept (e _ h.ne1.symm), hv1.kept (e _ h.ne2.symm), ownsRow_kept (by rw [List.length_append]; exact ho1) (fun g hg => e g (np1 g hg).1), h.len, h.pos, h.max, h.hb, h.hbd, h.hbv, h.ne1, h.ne2, h.ne3, np1⟩
  obtain ⟨oa, nn, cap, rfl⟩ : ∃ oa nn cap, v' = .slice oa nn cap := by
    rcases ho1.2 with ⟨rfl, _⟩ | ⟨g, cap, _, rfl, _⟩
    · exact ⟨_, _, _, rfl⟩
    · exact ⟨_, _, _, rfl⟩
  have hF1 : Fr (Foot b bd bv vp) W (w1.setCell ⟨b, 4, none⟩ (.slice oa nn cap)) := hW1.setCell ⟨b, 4, none⟩ _ (.inl (.inl rfl))
  -- cells
  have c4 := h.blk.cell 4
  have c4' := hb1.cell 4
  have f4' := hb1.frozen 4
  have c3' := hD1.blk.cell 3
  simp only [List.getElem?_cons_zero, List.getElem?_cons_succ] at c4 c4' c3'
  have hD2 := hD1.setVis (splice D.vis o s.data.toList) (splice_len _ _ _ (by rw [blen]; exact hin))
  have HV := Lib.hid hD1.vis
  have HD1 := Lib.hid hD1
  have HD2 := Lib.hid hD2
  have HF1 := Lib.hid hF1
  have HK1 := Lib.hid hk1
  have H := Lib.hid h
  clear hownA hnew ho1 hf1 hW1 hlt nv hb1 hd1 hv1 np1 hD1 hD2 hF1 hk1 h hst hii hi hz0 hz1 hz2 hl
  go_enter Tryz.func13, Tryz.ntmps13
  go_wp2_with fail
  refine (state_any W B b bd bv vp D H.out).mono ?_
  rw [HST.out]
  rintro e w' ⟨rfl, rfl⟩
  go_wp2_with fail
  refine (inside_any W B b bd bv vp D _ _ (by omega) (by omega) (by omega) (by omega) H.out).mono ?_
  rw [HII.out]
  rintro e w' ⟨rfl, rfl⟩
  by_cases hs0 : s.size = 0
  · have hdl : s.data.toList = [] := List.eq_nil_of_length_eq_zero (by rw [blen]; exact hs0)
    have hce := fun (W : World) (d : Option Addr) (n c : Nat) (ty : TypeId) => Lib.run_copy_empty_string (P := Tryz.prog) W 42 9 ty 5 d n c s Tryz.underlying42 (by rw [sizeU8]; rfl) hs0
    have HD3 : Hid (DkAt (w1.setCell ⟨b, 4, none⟩ (.slice oa nn cap)) B b bd bv (.slice oa nn cap) { D with vis := splice D.vis o s.data.toList, pend := D.pend ++ [(o, s)] }) := by
      show DkAt _ _ _ _ _ _ _
      rw [hdl, splice_nil]
      exact HD1.out
    clear HD2 HD1 HV hdl hs0
    go_wp2_with (at_builtin; refine wpList_append_run _ rfl _ _ 81 rfl _ _ _ _ rfl rfl hrun ?_)
    all_goals
      refine (written_any _ B b bd bv _ _ HD3.out hcut).mono ?_
      rintro e w' ⟨⟨v, rfl⟩, hd', hf'⟩
      have HD' := Lib.hid hd'
      have HF' := Lib.hid hf'
      clear hd' hf'
      go_wp2_with fail
      go_ret
      exact ⟨rfl, _, HD'.out, fun k hk => (HK1.out k hk).imp_right (fun h => by simp at h; omega), HF1.out.trans HF'.out (fun _ _ h => .inl h)⟩
  · have hcp := run_copy_str HV.out o (D.vis.length - o) (D.vis.length - o) s (by omega) (by omega)
    have hol : (o : Int) < (D.vis.length : Int) := by omega
    go_wp2_with (at_builtin; refine wpList_append_run _ rfl _ _ 81 rfl _ _ _ _ rfl rfl hrun ?_)
    refine (written_any _ B b bd bv _ _ HD2.out hcut).mono ?_
    rintro e w' ⟨⟨v, rfl⟩, hd', hf'⟩
    have HD' := Lib.hid hd'
    have HF' := Lib.hid hf'
    clear hd' hf'
    go_wp2_with fail
    go_ret
    exact ⟨rfl, _, HD'.out, fun k hk => (HK1.out k hk).imp_right (fun h => by simp at h; omega), (HF1.out.setRow bv _ (.inl (.inr (.inr (.inl rfl))))).trans HF'.out (fun _ _ h => .inl h)⟩
set_option maxRecDepth 100000 in
theorem write_any (W : World) (B b bd bv : Nat) (vp : Value) (D : DS) (off : Int) (s : ByteArray) (ho : -9223372036854775808 ≤ off) (ho1 : off ≤ 9223372036854775807) (hs : s.size ≤ maxLen) (hB : B ≤ W.heap.size) (hpl : D.pend.length ≤ 1000000) (hcut : D.cut ≤ 9223372036854775807) (h : DkAt W B b bd bv vp D) :
    Calls Tryz.prog 13 #[.pointer (some ⟨b, 0, none⟩), .int .i64 off, .string s] W fun e w' => e = .returned (.int .i64 (writeE D off s)) ∧ ∃ vp', DkAt w' B b bd bv vp' (writeD D off s) ∧ (∀ k, vp'.ownBlock = some k → vp.ownBlock = some k ∨ W.heap.size ≤ k) ∧ Fr (Foot b bd bv vp) W w' := by
  unfold maxLen at hs
  cases hl : D.lost
  · cases hi : insB D off s.size
    · have e1 : writeE D off s = 240 := by unfold writeE; rw [hl, hi]; rfl
      have e2 : writeD D off s = D := by unfold writeD; rw [hl, hi]; rfl
      have hst : stE D = 0 := by unfold stE; rw [hl]; rfl
      rw [e1, e2]
      have H := Lib.hid h
      have HI := Lib.hid hi
      have HST := Lib.hid hst
      clear e1 e2 hl hi hst h
      go_enter Tryz.func13, Tryz.ntmps13
      go_wp2_with fail
      refine (state_any W B b bd bv vp D H.out).mono ?_
      rw [HST.out]
      rintro e w' ⟨rfl, rfl⟩
      go_wp2_with fail
      refine (inside_any W B b bd bv vp D _ _ ho ho1 (by omega) (by omega) H.out).mono ?_
      rw [HI.out]
      rintro e w' ⟨rfl, rfl⟩
      go_wp2_with fail
      go_ret
      exact ⟨rfl, vp, H.out, fun k hk => .inl hk, Fr.refl _ _⟩
    · have hii := of_decide_eq_true hi
      have e1 : writeE D off s = 0 := by unfold writeE; rw [hl, hi]; rfl
      have e2 : writeD D off s = wroteD { D with vis := splice D.vis off.toNat s.data.toList, pend := D.pend ++ [(off.toNat, s)] } := by unfold writeD; rw [hl, hi]; rfl
      rw [e1, e2]
      obtain ⟨o, rfl⟩ : ∃ o : Nat, off = o := ⟨off.toNat, by omega⟩
      rw [Int.toNat_natCast]
      exact write_ok W B b bd bv vp D o s hB hl (by omega) hpl hcut h
  · have e1 : writeE D off s = 241 := by unfold writeE; rw [hl]; rfl
    have e2 : writeD D off s = D := by unfold writeD; rw [hl]; rfl
    have hst : stE D = 241 := by unfold stE; rw [hl]; rfl
    rw [e1, e2]
    have H := Lib.hid h
    have HST := Lib.hid hst
    clear e1 e2 hl hst h
    go_enter Tryz.func13, Tryz.ntmps13
    go_wp2_with fail
    refine (state_any W B b bd bv vp D H.out).mono ?_
    rw [HST.out]
    rintro e w' ⟨rfl, rfl⟩
    go_wp2_with fail
    go_ret
    exact ⟨rfl, vp, H.out, fun k hk => .inl hk, Fr.refl _ _⟩
end Go.Proofs.YtfpcdlpfmlaakaaGreatDoor
