/-
  Cut, Pending and content at a log's disk, for the laws of package asrun.
-/
import Derived.Test.YtfpcdlpfmlaakaaDoorAsRe
import Derived.Test.YtfpcdlpfmlaakaaDoorAsRf
set_option linter.unusedVariables false
set_option linter.unusedSimpArgs false
namespace Go.Proofs.YtfpcdlpfmlaakaaDoor
open Go.RowKit Onair
attribute [local go_sem ↓] Go.wp_at_zero Go.wp_at_succ
theorem cut_x (W : World) (N b bl : Nat) (F G : Nat → Prop) (D : DS) (R : List Rec) (br : Bool) (n : Int) (h : LX W N b bl F G ⟨D, R, br⟩) :
    Calls Tryd.prog 34 #[.pointer (some ⟨b, 0, none⟩), .int .i64 n] W fun e w' => e = .returned (.int .i64 (cutE D n)) ∧ LX w' N b bl F G ⟨if D.lost then D else cutD D n, R, br⟩ ∧ Fr F W w' := by
  obtain ⟨bd, bv, vp, vr, ve, h1, h2, h3, h4⟩ := h.ex
  refine (cut_any W N b bd bv vp D n h1).mono ?_
  rintro e w' ⟨q1, q2, q3⟩
  have hFb : F b := (h3 b).2 (.inl rfl)
  exact ⟨q1, ⟨⟨bd, bv, vp, vr, ve, q2, h2.fr q3 (fun k hk e => h.sep k ((h4 k).2 hk) (by rw [e]; exact hFb)), h3, h4⟩, h.sep, Nat.le_trans h.le q3.size⟩, q3.mono (fun k hk => by rw [hk]; exact hFb)⟩
theorem pending_x (W : World) (N b bl : Nat) (F G : Nat → Prop) (s : LS) (h : LX W N b bl F G s) :
    Calls Tryd.prog 38 #[.pointer (some ⟨b, 0, none⟩)] W fun e w' => e = .returned (.int .i64 (s.D.pend.length : Int)) ∧ W = w' := by
  obtain ⟨bd, bv, vp, vr, ve, h1, h2, h3, h4⟩ := h.ex
  exact pending_any W N b bd bv vp s.D h1
theorem content_x (W : World) (N b : Nat) (F : Nat → Prop) (D : DS) (h : DX W N b F D) (hl : D.lost = false) :
    Calls Tryd.prog 39 #[.pointer (some ⟨b, 0, none⟩)] W fun e w' => e = .returned (.string ⟨D.vis.toArray⟩) ∧ Below W.heap.size W w' := by
  obtain ⟨h0, bd, bv, vp, h1, h2⟩ := h
  have hmx := h1.max
  have hsz := size_any W N b bd bv vp D h1
  have hrd := read_any W N b bd bv vp D 0 (D.vis.length : Int) (by omega) (by omega) (by omega) (by omega) h1
  have e1 : readL D 0 (D.vis.length : Int) = D.vis := by
    unfold readL
    rw [hl, insB_zero]
    show (D.vis.drop (0 : Int).toNat).take ((D.vis.length : Int)).toNat = _
    rw [Int.toNat_natCast]
    show D.vis.take D.vis.length = _
    exact List.take_length
  rw [e1] at hrd
  obtain ⟨er, her⟩ : ∃ er, readE D 0 (D.vis.length : Int) = er := ⟨_, rfl⟩
  rw [her] at hrd
  obtain ⟨c, hc⟩ : ∃ c : ByteArray, (⟨D.vis.toArray⟩ : ByteArray) = c := ⟨_, rfl⟩
  rw [hc] at hrd ⊢
  obtain ⟨n, hn⟩ : ∃ n, D.vis.length = n := ⟨_, rfl⟩
  rw [hn] at hsz hrd
  have HSZ := Lib.hid hsz
  have HRD := Lib.hid hrd
  clear hsz hrd hc her e1 h1 h2 hmx hn h0
  go_enter Tryd.func39, Tryd.ntmps39
  go_wp2_with fail
  refine HSZ.out.mono ?_
  rintro e w' ⟨rfl, rfl⟩
  go_wp2_with fail
  refine HRD.out.mono ?_
  rintro e w' ⟨rfl, rfl⟩
  go_wp2_with fail
  go_ret
  exact ⟨rfl, Below.refl _ _⟩
/-- A clean log whose disk is to lose power: Open finds it as it is. -/
theorem cut_open {D : DS} {R : List Rec} (h : Cln D R) (c : Nat) : openE { D with cut := c } = 0 ∧ openR { D with cut := c } = R ∧ openD { D with cut := c } = { D with cut := c } := by
  have e1 : openR { D with cut := c } = R := h.openR
  refine ⟨?_, e1, ?_⟩
  · unfold openE
    rw [e1]
    show (if D.lost then (241 : Int) else if (scanP D.vis).2 then 252 else if D.vis.drop (endN R) = zeroL (D.vis.length - endN R) then 0 else _) = 0
    rw [h.lost, h.scan, if_pos h.zeros]
    rfl
  · unfold openD
    rw [e1]
    show (if D.lost then ({ D with cut := c } : DS) else if (scanP D.vis).2 then { D with cut := c } else if D.vis.drop (endN R) = zeroL (D.vis.length - endN R) then { D with cut := c } else _) = _
    rw [h.lost, h.scan, if_pos h.zeros]
    rfl
end Go.Proofs.YtfpcdlpfmlaakaaDoor
