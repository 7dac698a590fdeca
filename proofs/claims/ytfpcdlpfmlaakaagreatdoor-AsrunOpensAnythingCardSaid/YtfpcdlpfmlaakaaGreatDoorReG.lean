/-
  log of package asrun's laws: a log with records on a large disk.
  The reference's Same, and content, of package asrun's laws.
  Cut, Pending and content at a log's disk, for the laws of package asrun.
-/
import Derived.WalkKit
import Derived.LoopTactic
import Derived.WalkSpells
import Derived.WalkLawsBesides
import Derived.RegionTactic
import Derived.BigRegion
import Derived.IntWalk
import Derived.Outline
import Derived.Deep.QuietTactic
import Derived.BigQuiet
import Derived.Deep.RegionLaw
import Derived.Deep.RegionHeld3
import Derived.Laws.StructEq
import Derived.Lib.Hide
import Derived.Test.YtfpcdlpfmlaakaaGreatDoorAsRc
import Derived.Test.YtfpcdlpfmlaakaaGreatDoorAsSane
import Derived.Test.YtfpcdlpfmlaakaaGreatDoorAsMN
set_option linter.unusedVariables false
set_option linter.unusedSimpArgs false
namespace Go.Proofs.YtfpcdlpfmlaakaaGreatDoor
open Go.RowKit Onair
attribute [local go_sem ↓] Go.wp_at_zero Go.wp_at_succ
theorem log_app (all : List Rec) (hv : ∀ r ∈ all, validR r = true) (hl : all.length ≤ 14) : ∃ D', appC ⟨newD 4000, [], false⟩ all = (0, ⟨D', all, false⟩) ∧ Cln D' all := by
  have hz : (newD 4000).vis.length = 4000 := zeroL_len 4000
  rcases (Cln.new 4000).app all with ⟨h, _⟩ | ⟨_, h, _⟩ | ⟨_, _, D1, h1, h2, h3⟩
  · rw [(allV_iff all).2 hv] at h; cases h
  · have := (outL'_bd [] all).1
    rw [hz] at h
    have e : endN [] = 0 := rfl
    omega
  · exact ⟨D1, h1, h2⟩
def LogP (w : World) (all : List Rec) (e : Ending) (w' : World) : Prop := ∃ b bl F G D on cn, e = .returned (.tuple #[.pointer (some ⟨bl, 0, none⟩), .slice on all.length cn]) ∧ LX w' w.heap.size b bl F G ⟨D, all, false⟩ ∧ Cln D all ∧ w'.ownsRow w.heap.size 62 6 (.slice on all.length cn) all.length (rcells all) ∧ Below w.heap.size w w'
theorem valid_I {l : List Rec} (h : ∀ r ∈ l, validR r = true) : ∀ r ∈ l, RecI r := fun r hr => validR_I (h r hr)
end Go.Proofs.YtfpcdlpfmlaakaaGreatDoor
namespace Go.Proofs.YtfpcdlpfmlaakaaGreatDoor
open Go.RowKit Onair
attribute [local go_sem ↓] Go.wp_at_zero Go.wp_at_succ
theorem rec_ext {a b : Rec} : a = b ↔ a.ch = b.ch ∧ a.rg = b.rg ∧ a.fr = b.fr ∧ a.fs = b.fs ∧ a.it = b.it ∧ a.ix = b.ix := by
  constructor
  · rintro rfl; exact ⟨rfl, rfl, rfl, rfl, rfl, rfl⟩
  · obtain ⟨a1, a2, a3, a4, a5, a6⟩ := a
    obtain ⟨b1, b2, b3, b4, b5, b6⟩ := b
    rintro ⟨rfl, rfl, rfl, rfl, rfl, rfl⟩
    rfl
theorem takes_eq {a b : List Rec} (h : a.length = b.length) (hk : a.take a.length = b.take a.length) : a = b := by
  rw [List.take_length] at hk
  rw [h, List.take_length] at hk
  exact hk
/-- The reference's Same, for lists that are equal. -/
theorem same25_eq (l : List Rec) (oa ob : Option Addr) (n ca cb : Nat) (w : World) (hn : l.length = n) (hlm : n ≤ maxLen) (ha : RdR w oa l) (hb : RdR w ob l) :
    Calls Tryz.prog 16 #[.slice oa n ca, .slice ob n cb] w fun e w' => e = .returned (.bool true) ∧ Below w.heap.size w w' := by
  unfold maxLen at hlm
  have HA := Lib.hid ha
  have HB := Lib.hid hb
  have HN := Lib.hid hn
  clear ha hb hn
  go_enter Tryz.func16, Tryz.ntmps16
  go_wp2_with fail
  go_loopw [5] (fun i wr => ∃ (k : Nat), k ≤ n ∧ i = .int .i64 k ∧ Hid (Below w.heap.size w wr)) (fun i _ => n - (intOf i).toNat)
  case atStart => exact ⟨0, Nat.zero_le _, rfl, Below.refl _ _⟩
  case round =>
    obtain ⟨k, hkl, rfl, HBW⟩ := hrel
    by_cases h : k < n
    · have q1 : (k : Int) < (n : Int) := by omega
      obtain ⟨r, hr⟩ : ∃ r, l[k]? = some r := ⟨l[k]'(by rw [HN.out]; exact h), List.getElem?_eq_getElem _⟩
      obtain ⟨ba, xa, rfl, hba, a0, a1, a2, a3, a4, a5⟩ := HA.out.at k r hr
      obtain ⟨bb, xb, rfl, hbb, b0, b1, b2, b3, b4, b5⟩ := HB.out.at k r hr
      have u := fun j => HBW.out.cell (p := ⟨ba, j, none⟩) hba
      have v := fun j => HBW.out.cell (p := ⟨bb, j, none⟩) hbb
      rw [← u] at a0 a1 a2 a3 a4 a5
      rw [← v] at b0 b1 b2 b3 b4 b5
      clear u v hr
      obtain ⟨r0, r1, r2, r3, r4, r5⟩ := r
      dsimp only at a0 a1 a2 a3 a4 a5 b0 b1 b2 b3 b4 b5
      go_wp2_with fail
      go_region
      all_goals
        go_wp2_with fail
        go_roundw
        case rel => exact ⟨k + 1, by omega, by go_num, HBW.out.drew⟩
        case measure => simp [intOf]; omega
    · have q1 : ¬ (k : Int) < (n : Int) := by omega
      clear h
      go_wp2_with fail
      go_ret
      exact ⟨rfl, HBW.out⟩
def SameP (l m : List Rec) (e : Ending) : Prop := ∃ t, e = .returned (.bool t) ∧ (t = true ↔ l = m)
/-- The reference's Same. -/
theorem same25_any (l m : List Rec) (oa ob : Option Addr) (n n2 ca cb : Nat) (w : World) (hn : l.length = n) (hn2 : m.length = n2) (hlm : n ≤ maxLen) (hlm2 : n2 ≤ maxLen) (ha : RdR w oa l) (hb : RdR w ob m) :
    Calls Tryz.prog 16 #[.slice oa n ca, .slice ob n2 cb] w fun e w' => SameP l m e ∧ Below w.heap.size w w' := by
  unfold maxLen at hlm hlm2
  by_cases hlen : n = n2
  · subst hlen
    have HA := Lib.hid ha
    have HB := Lib.hid hb
    have HN := Lib.hid hn
    have HM := Lib.hid hn2
    clear ha hb hn hn2 hlm2
    go_enter Tryz.func16, Tryz.ntmps16
    go_wp2_with fail
    go_loopw [5] (fun i wr => ∃ (k : Nat), k ≤ n ∧ i = .int .i64 k ∧ Hid (Below w.heap.size w wr) ∧ Hid (l.take k = m.take k)) (fun i _ => n - (intOf i).toNat)
    case atStart => exact ⟨0, Nat.zero_le _, rfl, Below.refl _ _, rfl⟩
    case round =>
      obtain ⟨k, hkl, rfl, HBW, HTK⟩ := hrel
      by_cases h : k < n
      · have q1 : (k : Int) < (n : Int) := by omega
        obtain ⟨r, hr⟩ : ∃ r, l[k]? = some r := ⟨l[k]'(by rw [HN.out]; exact h), List.getElem?_eq_getElem _⟩
        obtain ⟨s, hs⟩ : ∃ s, m[k]? = some s := ⟨m[k]'(by rw [HM.out]; exact h), List.getElem?_eq_getElem _⟩
        obtain ⟨ba, xa, rfl, hba, a0, a1, a2, a3, a4, a5⟩ := HA.out.at k r hr
        obtain ⟨bb, xb, rfl, hbb, b0, b1, b2, b3, b4, b5⟩ := HB.out.at k s hs
        have u := fun j => HBW.out.cell (p := ⟨ba, j, none⟩) hba
        have v := fun j => HBW.out.cell (p := ⟨bb, j, none⟩) hbb
        rw [← u] at a0 a1 a2 a3 a4 a5
        rw [← v] at b0 b1 b2 b3 b4 b5
        have HT2 : Hid (r = s → l.take (k + 1) = m.take (k + 1)) := (show _ → _ from fun e => by
          subst e
          rw [List.take_add_one, List.take_add_one, hr, hs, HTK.out])
        have HNE : Hid (r ≠ s → ¬ l = m) := (show _ → _ from fun e e2 => by
          subst e2
          rw [hr] at hs
          exact e (by injection hs))
        clear u v hr hs
        obtain ⟨r0, r1, r2, r3, r4, r5⟩ := r
        obtain ⟨s0, s1, s2, s3, s4, s5⟩ := s
        dsimp only at a0 a1 a2 a3 a4 a5 b0 b1 b2 b3 b4 b5
        by_cases hall : r0 = s0 ∧ r1 = s1 ∧ r2 = s2 ∧ r3 = s3 ∧ r4 = s4 ∧ r5 = s5
        · obtain ⟨rfl, rfl, rfl, rfl, rfl, rfl⟩ := hall
          have HT3 := Lib.hid (HT2.out rfl)
          clear HT2 HNE
          go_wp2_with fail
          go_region
          all_goals
            go_wp2_with fail
            go_roundw
            case rel => exact ⟨k + 1, by omega, by go_num, HBW.out.drew, HT3⟩
            case measure => simp [intOf]; omega
        · have HF : Hid (¬ l = m) := HNE.out (fun e => hall (by injection e with e1 e2 e3 e4 e5 e6; exact ⟨e1, e2, e3, e4, e5, e6⟩))
          clear HT2 HNE
          rcases (show (r0 ≠ s0) ∨ (r0 = s0 ∧ r1 ≠ s1) ∨ (r0 = s0 ∧ r1 = s1 ∧ r2 ≠ s2) ∨ (r0 = s0 ∧ r1 = s1 ∧ r2 = s2 ∧ r3 ≠ s3) ∨ (r0 = s0 ∧ r1 = s1 ∧ r2 = s2 ∧ r3 = s3 ∧ r4 ≠ s4) ∨ (r0 = s0 ∧ r1 = s1 ∧ r2 = s2 ∧ r3 = s3 ∧ r4 = s4 ∧ r5 ≠ s5) from by omega) with d | ⟨rfl, d⟩ | ⟨rfl, rfl, d⟩ | ⟨rfl, rfl, rfl, d⟩ | ⟨rfl, rfl, rfl, rfl, d⟩ | ⟨rfl, rfl, rfl, rfl, rfl, d⟩
          all_goals
            have d2 := beq_eq_false_iff_ne.2 d
            clear d hall
            go_wp2_with fail
            go_region
            all_goals
              go_wp2_with fail
              go_ret
              exact ⟨⟨false, rfl, fun e => (Bool.noConfusion e), fun e => absurd e HF.out⟩, HBW.out.drew⟩
      · have q1 : ¬ (k : Int) < (n : Int) := by omega
        have HE : Hid (l = m) := takes_eq (HN.out.trans HM.out.symm) (by
          have := HTK.out
          rw [HN.out]
          rwa [show k = n by omega] at this)
        clear h
        go_wp2_with fail
        go_ret
        exact ⟨⟨true, rfl, fun _ => HE.out, fun _ => rfl⟩, HBW.out⟩
  · have q : ((n : Int) != (n2 : Int)) = true := by rw [bne_iff_ne]; omega
    have HF : Hid (¬ l = m) := fun e => hlen (by rw [← hn, ← hn2, e])
    clear ha hb hn hn2 hlen
    go_enter Tryz.func16, Tryz.ntmps16
    go_wp2_with fail
    go_ret
    exact ⟨⟨false, rfl, fun e => (Bool.noConfusion e), fun e => absurd e HF.out⟩, Below.refl _ _⟩
end Go.Proofs.YtfpcdlpfmlaakaaGreatDoor
namespace Go.Proofs.YtfpcdlpfmlaakaaGreatDoor
open Go.RowKit Onair
attribute [local go_sem ↓] Go.wp_at_zero Go.wp_at_succ
theorem cut_x (W : World) (N b bl : Nat) (F G : Nat → Prop) (D : DS) (R : List Rec) (br : Bool) (n : Int) (h : LX W N b bl F G ⟨D, R, br⟩) :
    Calls Tryz.prog 62 #[.pointer (some ⟨b, 0, none⟩), .int .i64 n] W fun e w' => e = .returned (.int .i64 (cutE D n)) ∧ LX w' N b bl F G ⟨if D.lost then D else cutD D n, R, br⟩ ∧ Fr F W w' := by
  obtain ⟨bd, bv, vp, vr, ve, h1, h2, h3, h4⟩ := h.ex
  refine (cut_any W N b bd bv vp D n h1).mono ?_
  rintro e w' ⟨q1, q2, q3⟩
  have hFb : F b := (h3 b).2 (.inl rfl)
  exact ⟨q1, ⟨⟨bd, bv, vp, vr, ve, q2, h2.fr q3 (fun k hk e => h.sep k ((h4 k).2 hk) (by rw [e]; exact hFb)), h3, h4⟩, h.sep, Nat.le_trans h.le q3.size⟩, q3.mono (fun k hk => by rw [hk]; exact hFb)⟩
theorem pending_x (W : World) (N b bl : Nat) (F G : Nat → Prop) (s : LS) (h : LX W N b bl F G s) :
    Calls Tryz.prog 23 #[.pointer (some ⟨b, 0, none⟩)] W fun e w' => e = .returned (.int .i64 (s.D.pend.length : Int)) ∧ W = w' := by
  obtain ⟨bd, bv, vp, vr, ve, h1, h2, h3, h4⟩ := h.ex
  exact pending_any W N b bd bv vp s.D h1
theorem content_x (W : World) (N b : Nat) (F : Nat → Prop) (D : DS) (h : DX W N b F D) (hl : D.lost = false) :
    Calls Tryz.prog 20 #[.pointer (some ⟨b, 0, none⟩)] W fun e w' => e = .returned (.string ⟨D.vis.toArray⟩) ∧ Below W.heap.size W w' := by
  obtain ⟨h0, bd, bv, vp, h1, h2⟩ := h
  have hmx := h1.max
  have hsz := size_any W N b bd bv vp D h1
  have hrd := read_any W N b bd bv vp D 0 (D.vis.length : Int) (by omega) (by omega) (by omega) (by omega) h1
  have e1 : readL D 0 (D.vis.length : Int) = D.vis := by
    unfold readL
    rw [hl, insB_zero]
    show (D.vis.drop (0 : Int).toNat).take ((D.vis.length : Int)).toNat = _
    rw [Int.toNat_natCast]
    show D.vis.take D.vis.length = _
    exact List.take_length
  rw [e1] at hrd
  obtain ⟨er, her⟩ : ∃ er, readE D 0 (D.vis.length : Int) = er := ⟨_, rfl⟩
  rw [her] at hrd
  obtain ⟨c, hc⟩ : ∃ c : ByteArray, (⟨D.vis.toArray⟩ : ByteArray) = c := ⟨_, rfl⟩
  rw [hc] at hrd ⊢
  obtain ⟨n, hn⟩ : ∃ n, D.vis.length = n := ⟨_, rfl⟩
  rw [hn] at hsz hrd
  have HSZ := Lib.hid hsz
  have HRD := Lib.hid hrd
  clear hsz hrd hc her e1 h1 h2 hmx hn h0
  go_enter Tryz.func20, Tryz.ntmps20
  go_wp2_with fail
  refine HSZ.out.mono ?_
  rintro e w' ⟨rfl, rfl⟩
  go_wp2_with fail
  refine HRD.out.mono ?_
  rintro e w' ⟨rfl, rfl⟩
  go_wp2_with fail
  go_ret
  exact ⟨rfl, Below.refl _ _⟩
/-- A clean log whose disk is to lose power: Open finds it as it is. -/
theorem cut_open {D : DS} {R : List Rec} (h : Cln D R) (c : Nat) : openE { D with cut := c } = 0 ∧ openR { D with cut := c } = R ∧ openD { D with cut := c } = { D with cut := c } := by
  have e1 : openR { D with cut := c } = R := h.openR
  refine ⟨?_, e1, ?_⟩
  · unfold openE
    rw [e1]
    show (if D.lost then (241 : Int) else if (scanP D.vis).2 then 252 else if D.vis.drop (endN R) = zeroL (D.vis.length - endN R) then 0 else _) = 0
    rw [h.lost, h.scan, if_pos h.zeros]
    rfl
  · unfold openD
    rw [e1]
    show (if D.lost then ({ D with cut := c } : DS) else if (scanP D.vis).2 then { D with cut := c } else if D.vis.drop (endN R) = zeroL (D.vis.length - endN R) then { D with cut := c } else _) = _
    rw [h.lost, h.scan, if_pos h.zeros]
    rfl
end Go.Proofs.YtfpcdlpfmlaakaaGreatDoor
