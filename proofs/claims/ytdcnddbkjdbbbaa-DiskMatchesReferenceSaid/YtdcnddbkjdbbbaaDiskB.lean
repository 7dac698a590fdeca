/-
  The walks of the disk's methods: lose, restore, written, Cut, Read, New, settle.
-/
import Derived.WalkKit
import Derived.LoopTactic
import Derived.WalkSpells
import Derived.WalkLawsBesides
import Derived.RegionTactic
import Derived.BigRegion
import Derived.Deep.QuietTactic
import Derived.BigQuiet
import Derived.IntWalk
import Derived.Lib.SliceRun
import Derived.Test.YtdcnddbkjdbbbaaDiskA
set_option linter.unusedVariables false
set_option linter.unusedSimpArgs false
namespace Go.Proofs.Ytdcnddbkjdbbbaa
open Go.RowKit
theorem ownsRow_kept {W W' : World} {B : Nat} {e : TypeId} {size : Nat} {v : Value} {n : Nat} {xs : List Value} (h : W.ownsRow B e size v n xs) (hk : ∀ g, v.ownBlock = some g → W'.heap[g]? = W.heap[g]?) : W'.ownsRow B e size v n xs := by
  refine ⟨h.1, ?_⟩
  rcases h.2 with h2 | ⟨g, cap, cur, rfl, h1, h2, h3⟩
  · exact .inl h2
  · exact .inr ⟨g, cap, cur, rfl, h1, by rw [hk g rfl]; exact h2, h3⟩
/-- Power and cut are set. -/
theorem DkAt.power {W : World} {B b bd bv : Nat} {vp : Value} {D : DS} (h : DkAt W B b bd bv vp D) (l : Bool) (c : Nat) :
    DkAt ((W.setCell ⟨b, 0, none⟩ (.bool l)).setCell ⟨b, 1, none⟩ (.int .i64 (c : Int))) B b bd bv vp { D with lost := l, cut := c } := by
  have e : ∀ k, k ≠ b → ((W.setCell ⟨b, 0, none⟩ (.bool l)).setCell ⟨b, 1, none⟩ (.int .i64 (c : Int))).heap[k]? = W.heap[k]? := fun k hk => by
    rw [Below.heap_setCell _ _ _ _ hk, Below.heap_setCell _ _ _ _ hk]
  exact ⟨(h.blk.set 0 _).set 1 _, h.dur.kept (e _ h.ne1.symm), h.vis.kept (e _ h.ne2.symm), ownsRow_kept h.own (fun g hg => e g (h.np g hg).1), h.len, h.pos, h.max, h.hb, h.hbd, h.hbv, h.ne1, h.ne2, h.ne3, h.np⟩
theorem Fr.power (W : World) (b : Nat) (u v : Value) : Fr (fun k => k = b) W ((W.setCell ⟨b, 0, none⟩ u).setCell ⟨b, 1, none⟩ v) :=
  ((Fr.refl (fun k => k = b) W).setCell ⟨b, 0, none⟩ u (.inl rfl)).setCell ⟨b, 1, none⟩ v (.inl rfl)
/-- The cut alone is set. -/
theorem DkAt.setCut {W : World} {B b bd bv : Nat} {vp : Value} {D : DS} (h : DkAt W B b bd bv vp D) (c : Nat) :
    DkAt (W.setCell ⟨b, 1, none⟩ (.int .i64 (c : Int))) B b bd bv vp { D with cut := c } := by
  have e : ∀ k, k ≠ b → (W.setCell ⟨b, 1, none⟩ (.int .i64 (c : Int))).heap[k]? = W.heap[k]? := fun k hk => by
    rw [Below.heap_setCell _ _ _ _ hk]
  exact ⟨h.blk.set 1 _, h.dur.kept (e _ h.ne1.symm), h.vis.kept (e _ h.ne2.symm), ownsRow_kept h.own (fun g hg => e g (h.np g hg).1), h.len, h.pos, h.max, h.hb, h.hbd, h.hbv, h.ne1, h.ne2, h.ne3, h.np⟩
theorem lose_any (W : World) (B b bd bv : Nat) (vp : Value) (D : DS) (h : DkAt W B b bd bv vp D) :
    Calls Try.prog 37 #[.pointer (some ⟨b, 0, none⟩)] W fun e w' => (∃ v, e = .returned v) ∧ w' = (W.setCell ⟨b, 0, none⟩ (.bool true)).setCell ⟨b, 1, none⟩ (.int .i64 ((0 : Nat) : Int)) := by
  have c0 := h.blk.cell 0
  have c1 := h.blk.cell 1
  have f0 := h.blk.frozen 0
  have f1 := h.blk.frozen 1
  simp only [List.getElem?_cons_zero, List.getElem?_cons_succ] at c0 c1
  clear h
  go_enter Try.func37, Try.ntmps37
  go_wp2
  go_end0
  exact ⟨⟨_, rfl⟩, rfl⟩
theorem restore_any (W : World) (B b bd bv : Nat) (vp : Value) (D : DS) (h : DkAt W B b bd bv vp D) :
    Calls Try.prog 38 #[.pointer (some ⟨b, 0, none⟩)] W fun e w' => (∃ v, e = .returned v) ∧ w' = (W.setCell ⟨b, 0, none⟩ (.bool false)).setCell ⟨b, 1, none⟩ (.int .i64 ((0 : Nat) : Int)) := by
  have c0 := h.blk.cell 0
  have c1 := h.blk.cell 1
  have f0 := h.blk.frozen 0
  have f1 := h.blk.frozen 1
  simp only [List.getElem?_cons_zero, List.getElem?_cons_succ] at c0 c1
  clear h
  go_enter Try.func38, Try.ntmps38
  go_wp2
  go_end0
  exact ⟨⟨_, rfl⟩, rfl⟩
/-- A write is counted. -/
def wroteD (D : DS) : DS := if D.cut = 0 then D else if D.cut = 1 then { D with lost := true, cut := 0 } else { D with cut := D.cut - 1 }
theorem written_any (W : World) (B b bd bv : Nat) (vp : Value) (D : DS) (h : DkAt W B b bd bv vp D) (hc : D.cut ≤ 9223372036854775807) :
    Calls Try.prog 35 #[.pointer (some ⟨b, 0, none⟩)] W fun e w' => (∃ v, e = .returned v) ∧ DkAt w' B b bd bv vp (wroteD D) ∧ Fr (fun k => k = b) W w' := by
  have c1 := h.blk.cell 1
  have f1 := h.blk.frozen 1
  simp only [List.getElem?_cons_zero, List.getElem?_cons_succ] at c1
  have H := Lib.hid h
  clear h
  by_cases h0 : D.cut = 0
  · have e : wroteD D = D := by unfold wroteD; rw [if_pos h0]
    rw [e]
    rw [h0] at c1
    have c1' : W.cell? ⟨b, 1, none⟩ = some (.int .i64 0) := c1
    clear c1 e h0
    go_enter Try.func35, Try.ntmps35
    go_wp2_with fail
    refine bodyPost_ret (results_none rfl _ _ _) rfl ?_
    exact ⟨⟨_, rfl⟩, H.out, Fr.refl _ _⟩
  · by_cases h1 : D.cut = 1
    · have e : wroteD D = { D with lost := true, cut := 0 } := by unfold wroteD; rw [if_neg h0, if_pos h1]
      rw [e]
      rw [h1] at c1
      have c1' : W.cell? ⟨b, 1, none⟩ = some (.int .i64 1) := c1
      have HD2 := Lib.hid (H.out.setCut 0)
      clear c1 e h0 h1
      go_enter Try.func35, Try.ntmps35
      go_wp2_with fail
      refine (lose_any _ B b bd bv vp _ HD2.out).mono ?_
      rintro e w' ⟨⟨v, rfl⟩, rfl⟩
      go_wp2_with fail
      go_end0
      refine ⟨⟨_, rfl⟩, HD2.out.power true 0, ?_⟩
      exact ((Fr.refl (fun k => k = b) W).setCell ⟨b, 1, none⟩ _ (.inl rfl)).trans (Fr.power _ _ _ _) (fun _ _ h => h)
    · have e : wroteD D = { D with cut := D.cut - 1 } := by unfold wroteD; rw [if_neg h0, if_neg h1]
      rw [e]
      have hne : ((D.cut : Int) == 0) = false := by rw [beq_eq_false_iff_ne]; omega
      have hne2 : ((D.cut : Int) - 1 == 0) = false := by rw [beq_eq_false_iff_ne]; omega
      have HD2 := Lib.hid (H.out.setCut (D.cut - 1))
      have hcc : (((D.cut - 1 : Nat) : Nat) : Int) = (D.cut : Int) - 1 := by omega
      rw [hcc] at HD2
      clear e hcc
      go_enter Try.func35, Try.ntmps35
      go_wp2_with fail
      go_end0
      exact ⟨⟨_, rfl⟩, HD2.out, (Fr.refl (fun k => k = b) W).setCell ⟨b, 1, none⟩ _ (.inl rfl)⟩
/-- What Cut leaves, if the disk has power. -/
def cutD (D : DS) (n : Int) : DS := if n < 0 then D else if n = 0 then { D with lost := true, cut := 0 } else { D with cut := n.toNat }
def cutE (D : DS) (n : Int) : Int := if D.lost then 241 else if n < 0 then 2 else 0
theorem cut_any (W : World) (B b bd bv : Nat) (vp : Value) (D : DS) (n : Int) (h : DkAt W B b bd bv vp D) :
    Calls Try.prog 24 #[.pointer (some ⟨b, 0, none⟩), .int .i64 n] W fun e w' => e = .returned (.int .i64 (cutE D n)) ∧ DkAt w' B b bd bv vp (if D.lost then D else cutD D n) ∧ Fr (fun k => k = b) W w' := by
  have c1 := h.blk.cell 1
  have f1 := h.blk.frozen 1
  simp only [List.getElem?_cons_zero, List.getElem?_cons_succ] at c1
  have H := Lib.hid h
  clear h
  cases hl : D.lost
  · have hst : stE D = 0 := by unfold stE; rw [hl]; rfl
    have HST := Lib.hid hst
    clear hst
    by_cases h1 : n < 0
    · have e1 : cutE D n = 2 := by unfold cutE; rw [hl, if_pos h1]; rfl
      have e2 : (if false = true then D else cutD D n) = D := by unfold cutD; rw [if_pos h1]; rfl
      rw [e1, e2]
      clear e1 e2 hl
      go_enter Try.func24, Try.ntmps24
      go_wp2_with fail
      refine (state_any W B b bd bv vp D H.out).mono ?_
      rw [HST.out]
      rintro e w' ⟨rfl, rfl⟩
      go_wp2_with fail
      go_ret
      exact ⟨rfl, H.out, Fr.refl _ _⟩
    · have e1 : cutE D n = 0 := by unfold cutE; rw [hl, if_neg h1]; rfl
      by_cases h2 : n = 0
      · subst h2
        have e2 : (if false = true then D else cutD D 0) = { D with lost := true, cut := 0 } := by unfold cutD; rfl
        rw [e1, e2]
        clear e1 e2 hl h1
        go_enter Try.func24, Try.ntmps24
        go_wp2_with fail
        refine (state_any W B b bd bv vp D H.out).mono ?_
        rw [HST.out]
        rintro e w' ⟨rfl, rfl⟩
        go_wp2_with fail
        refine (lose_any _ B b bd bv vp _ H.out).mono ?_
        rintro e w' ⟨⟨v, rfl⟩, rfl⟩
        go_wp2_with fail
        go_ret
        exact ⟨rfl, H.out.power true 0, Fr.power _ _ _ _⟩
      · have e2 : (if false = true then D else cutD D n) = { D with cut := n.toNat } := by unfold cutD; rw [if_neg h1, if_neg h2]; rfl
        rw [e1, e2]
        obtain ⟨m, rfl⟩ : ∃ m : Nat, n = m := ⟨n.toNat, by omega⟩
        have hne : ((m : Int) == 0) = false := by rw [beq_eq_false_iff_ne]; omega
        clear e1 e2 hl h1 h2
        rw [Int.toNat_natCast]
        go_enter Try.func24, Try.ntmps24
        go_wp2_with fail
        refine (state_any W B b bd bv vp D H.out).mono ?_
        rw [HST.out]
        rintro e w' ⟨rfl, rfl⟩
        go_wp2_with fail
        go_ret
        exact ⟨rfl, H.out.setCut m, (Fr.refl (fun k => k = b) W).setCell ⟨b, 1, none⟩ _ (.inl rfl)⟩
  · have hst : stE D = 241 := by unfold stE; rw [hl]; rfl
    have e1 : cutE D n = 241 := by unfold cutE; rw [hl]; rfl
    rw [e1]
    have HST := Lib.hid hst
    clear hst e1 hl
    go_enter Try.func24, Try.ntmps24
    go_wp2_with fail
    refine (state_any W B b bd bv vp D H.out).mono ?_
    rw [HST.out]
    rintro e w' ⟨rfl, rfl⟩
    go_wp2_with fail
    go_ret
    exact ⟨rfl, H.out, Fr.refl _ _⟩
end Go.Proofs.Ytdcnddbkjdbbbaa
