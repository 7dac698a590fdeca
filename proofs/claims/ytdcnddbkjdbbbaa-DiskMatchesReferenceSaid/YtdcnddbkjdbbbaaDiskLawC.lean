/-
  The walk of the law DiskSynced.
-/
import Derived.WalkKit
import Derived.LoopTactic
import Derived.WalkSpells
import Derived.WalkLawsBesides
import Derived.RegionTactic
import Derived.BigRegion
import Derived.Deep.QuietTactic
import Derived.BigQuiet
import Derived.IntWalk
import Derived.Test.YtdcnddbkjdbbbaaDiskLawB
set_option linter.unusedVariables false
set_option linter.unusedSimpArgs false
namespace Go.Proofs.Ytdcnddbkjdbbbaa
open Go.RowKit
theorem crashL_none (pend : List (Nat × ByteArray)) (last torn : Int) (dur : List UInt8) (n j : Nat) : crashL (List.replicate n false) last torn pend dur j = dur := by
  induction j with
  | zero => rfl
  | succ j ih =>
    unfold crashL
    rw [ih, if_neg]
    by_cases h : j < n
    · simp [List.getElem?_replicate, h]
    · simp [List.getElem?_replicate, h]
theorem crashD_none (D : DS) (ks : Nat → Int) (torn : Int) : crashD D ks 0 torn = { lost := false, cut := 0, dur := D.dur, vis := D.dur, pend := [] } := by
  unfold crashD
  rw [show survL ks D.pend.length 0 = List.replicate D.pend.length false from rfl, crashL_none]
theorem crash_dk (W wr : World) (b bd bv : Nat) (vp : Value) (D : DS) (n i : Nat) (oa : Option Addr) (len cap : Nat) (ks : Nat → Int) (torn : Int) (hB : W.heap.size ≤ wr.heap.size) (hi : i ≤ 1000000) (hlc : len ≤ maxLen)
    (hks : ∀ i, -9223372036854775808 ≤ ks i ∧ ks i ≤ 9223372036854775807) (ht0 : -9223372036854775808 ≤ torn) (ht1 : torn ≤ 9223372036854775807) (hk : IntsAt wr oa len ks (Foot b bd bv vp)) (h : DkOk W wr b bd bv vp D n i) :
    Calls Try.prog 25 #[.pointer (some ⟨b, 0, none⟩), .slice oa len cap, .int .i64 torn] wr fun e w' => e = .returned (.int .i64 0) ∧ ∃ vp', DkOk W w' b bd bv vp' (crashD D ks len torn) n 0 ∧ vp'.ownBlock = vp.ownBlock ∧ Fr (Foot b bd bv vp) wr w' := by
  have hpl := h.pl
  have hm := h.d.max
  have hl := h.len
  refine (crash_walk wr W.heap.size b bd bv vp D oa len cap ks torn hB hlc (by omega) (fun p hp => by rw [hl]; exact h.pk p hp) hks ht0 ht1 (fun p hp => by have := h.pk p hp; unfold maxLen; omega) hk h.d).mono ?_
  rintro e w' ⟨rfl, vp', hd, hk', hf⟩
  refine ⟨rfl, vp', ⟨hd, rfl, rfl, ?_, Nat.le_refl _, fun p hp => absurd hp (by simp [crashD])⟩, hk', hf⟩
  show (crashL _ _ _ _ _ _).length = n
  rw [crashL_len _ _ _ _ _ (fun p hp => by rw [h.d.len, hl]; exact h.pk p hp) _ (Nat.le_refl _), h.d.len, hl]
theorem pending_dk (W wr : World) (b bd bv : Nat) (vp : Value) (D : DS) (n i : Nat) (h : DkOk W wr b bd bv vp D n i) :
    Calls Try.prog 17 #[.pointer (some ⟨b, 0, none⟩)] wr fun e w' => e = .returned (.int .i64 (D.pend.length : Int)) ∧ wr = w' := pending_any wr W.heap.size b bd bv vp D h.d
set_option maxHeartbeats 1000000 in
set_option maxRecDepth 100000 in
theorem walkSynced (size : Int) (oa : Option Addr) (len cap : Nat) (of : Nat → Int) (ss : Nat → ByteArray) (sy : Nat → Bool) (torn : Int) (W : World) (hs0 : -9223372036854775808 ≤ size) (hs1 : size ≤ 9223372036854775807)
    (hlc : len ≤ cap) (hcm : cap ≤ maxLen) (hof : ∀ i, -9223372036854775808 ≤ of i ∧ of i ≤ 9223372036854775807) (hss : ∀ i, (ss i).size ≤ maxLen) (hw : WpAt W oa len of ss sy) (ht0 : -9223372036854775808 ≤ torn) (ht1 : torn ≤ 9223372036854775807) :
    Calls Try.prog 7 #[.int .i64 size, .slice oa len cap, .int .i64 torn] W fun e w' => e = .returned (.bool true) ∧ Below W.heap.size W w' := by
  have HW := Lib.hid hw
  clear hw
  unfold maxLen at hcm
  have hp := pickD_bd size 300 (by omega)
  obtain ⟨n, hn⟩ : ∃ n : Nat, 1 + pickD size 300 = (n : Int) := ⟨(1 + pickD size 300).toNat, by omega⟩
  have hn1 : 1 ≤ n := by omega
  have hn2 : n ≤ 300 := by omega
  have HN := Lib.hid hn
  obtain ⟨hp1, hp2⟩ := hp
  clear hn
  have hmk := run_make_bytes n (by omega)
  go_enter Try.func7, Try.ntmps7
  go_wp2_with fail
  refine (sane_any _).mono ?_
  rintro e w1 ⟨rfl, hb1⟩
  have HB1 := Lib.hid hb1
  clear hb1
  go_wp2_with fail
  refine (pick_any _ _ _ hs0 hs1 (by omega) (by omega)).mono ?_
  rintro e w' ⟨rfl, rfl⟩
  go_wp2_with fail
  rw [HN.out]
  refine (new_dk n W w1 HB1.out.size hn1 (by omega)).mono ?_
  rintro e w2 ⟨b, bd, bv, rfl, hd2, hb2, hq⟩
  have HD2 := Lib.hid hd2
  have HB2 := Lib.hid (bstep HB1.out hb2)
  have HQ := Lib.hid hq
  clear hd2 hb2 hq
  have HS : Hid (RB W (w2.alloc (.cells (zcells n) 5)) b bd bv w2.heap.size (.slice none 0 0) (newD n) n 0) := by
    have hlt := HD2.out.d.lt
    exact ⟨HD2.out.fr ((Fr.refl (fun _ => False) w2).alloc _) (fun _ _ h => h), Blk.new w2 _ _, fun h => by have := hlt _ h; omega, HB2.out.size, HB2.out.alloc HB2.out.size _⟩
  have hconv0 := conv_vis HS.out.bl HS.out.dk.len
  obtain ⟨S0, hS0⟩ : ∃ S0 : ByteArray, (⟨(newD n).vis.toArray⟩ : ByteArray) = S0 := ⟨_, rfl⟩
  rw [hS0] at hconv0
  have HS0 : Hid (S0 = ⟨(newD n).dur.toArray⟩) := hS0.symm
  clear hS0
  go_wp2_with fail
  clear HD2 HB2 HQ HB1 hconv0
  generalize w2.heap.size = g at HS ⊢
  go_loopw [11, 12] (fun sv i wr => ∃ j : Nat, j ≤ 60 ∧ i = .int .i64 j ∧ ∃ vp D S, sv = .string S ∧ Hid (S = ⟨D.dur.toArray⟩) ∧ Hid (RB W wr b bd bv g vp D n j)) (fun _ i _ => 60 - (intOf i).toNat)
  case atStart => exact ⟨0, Nat.zero_le _, rfl, _, _, _, rfl, HS0, HS⟩
  case round =>
    obtain ⟨j, hj, rfl, vp, D, S, rfl, HSD, HR⟩ := hrel
    by_cases hend : len ≤ j ∨ j = 60
    · have HP : Hid (∃ c1 c2 : Bool, decide ((j : Int) < len) = c1 ∧ decide ((j : Int) < 60) = c2 ∧ (c1 && c2) = false) := ⟨_, _, rfl, rfl, by rw [Bool.and_eq_false_iff, decide_eq_false_iff_not, decide_eq_false_iff_not]; omega⟩
      by_cases hjl : (j : Int) < len
      · have hj60 : ¬ (j : Int) < 60 := by omega
        clear hend HP
        go_wp2_with fail
        refine (crash_dk W wr b bd bv vp D n j none 0 0 (fun _ => 0) torn HR.out.bel.size (by omega) (Nat.zero_le _) (fun _ => ⟨by decide, by decide⟩) ht0 ht1 (.inl rfl) HR.out.dk).mono ?_
        rintro e w7 ⟨rfl, vp7, hd7, ho7, hf7⟩
        have HL7 : Hid (Below W.heap.size W w7) := HR.out.bel.trans (hf7.below _ HR.out.bel.size HR.out.dk.d.ge)
        rw [crashD_none] at hd7
        have HD7 := Lib.hid hd7
        clear hd7 ho7 hf7
        go_wp2_with fail
        refine (read_dk W w7 b bd bv vp7 _ n 0 HD7.out).mono ?_
        rw [← HSD.out]
        rintro e w' ⟨rfl, rfl⟩
        go_wp2_with fail
        refine (pending_dk W w7 b bd bv vp7 _ n 0 HD7.out).mono ?_
        rw [show (([] : List (Nat × ByteArray)).length : Int) = 0 from rfl]
        rintro e w' ⟨rfl, rfl⟩
        go_wp2_with fail
        go_ret
        exact ⟨rfl, HL7.out⟩
      · clear hend HP
        go_wp2_with fail
        refine (crash_dk W wr b bd bv vp D n j none 0 0 (fun _ => 0) torn HR.out.bel.size (by omega) (Nat.zero_le _) (fun _ => ⟨by decide, by decide⟩) ht0 ht1 (.inl rfl) HR.out.dk).mono ?_
        rintro e w7 ⟨rfl, vp7, hd7, ho7, hf7⟩
        have HL7 : Hid (Below W.heap.size W w7) := HR.out.bel.trans (hf7.below _ HR.out.bel.size HR.out.dk.d.ge)
        rw [crashD_none] at hd7
        have HD7 := Lib.hid hd7
        clear hd7 ho7 hf7
        go_wp2_with fail
        refine (read_dk W w7 b bd bv vp7 _ n 0 HD7.out).mono ?_
        rw [← HSD.out]
        rintro e w' ⟨rfl, rfl⟩
        go_wp2_with fail
        refine (pending_dk W w7 b bd bv vp7 _ n 0 HD7.out).mono ?_
        rw [show (([] : List (Nat × ByteArray)).length : Int) = 0 from rfl]
        rintro e w' ⟨rfl, rfl⟩
        go_wp2_with fail
        go_ret
        exact ⟨rfl, HL7.out⟩
    · have hjl' : (j : Int) < len := by omega
      have hj60' : (j : Int) < 60 := by omega
      clear hend
      obtain ⟨q, off, rfl, c0, c1, c2⟩ := HW.out.kept HR.out.bel j (by omega)
      go_wp2_with fail
      refine (fits_any (of j) (ss j) (sy j) n wr (hof j).1 (hof j).2 (hss j) (by omega)).mono ?_
      have hfit := fit_le (of j) (ss j) n
      generalize fitO (of j) n = o at hfit ⊢
      generalize fitS (of j) (ss j) n = s at hfit ⊢
      generalize sy j = y at c2 ⊢
      rintro e w3 ⟨rfl, hb3⟩
      have HB3 := Lib.hid hb3
      clear hb3 c0 c1 c2
      go_wp2_with fail
      have hbox := HR.out.box HB3.out 53 [.int .i64 (o : Int), .string s, .bool y]
      rw [show [Value.int .i64 (o : Int), .string s, .bool y].toArray = #[Value.int .i64 (o : Int), .string s, .bool y] from rfl] at hbox
      generalize w3.alloc (.cells #[Value.int .i64 (o : Int), .string s, .bool y] 53) = w4 at hbox ⊢
      generalize w3.heap.size = k at hbox ⊢
      obtain ⟨hr4, hk4, hkg, hkf⟩ := hbox
      have HR4 := Lib.hid hr4
      have HK4 := Lib.hid hk4
      have HKF := Lib.hid hkf
      clear hr4 hk4 hkf HB3 HR
      have hlen4 := HR4.out.dk.len
      refine (put_any w4 g n D.vis o s HR4.out.bl hlen4 (by omega) (by omega)).mono ?_
      rintro e w5 ⟨⟨v5, rfl⟩, hb5, hf5⟩
      have HD5 : Hid (DkOk W w5 b bd bv vp D n j) := HR4.out.dk.fr hf5 (fun x hx e => HR4.out.gn (e ▸ hx))
      have HB5 := Lib.hid hb5
      have HK5 : Hid (Blk w5 k _ _) := HK4.out.kept (hf5.block k HK4.out.lt hkg)
      have HL5 : Hid (Below W.heap.size W w5) := HR4.out.bel.trans (hf5.below _ HR4.out.bel.size (fun x e => e ▸ HR4.out.gB))
      have HG5 := Lib.hid HR4.out.gn
      have HGB := Lib.hid HR4.out.gB
      clear hb5 hf5 HK4 HR4
      have c0 := HK5.out.cell 0
      have c1 := HK5.out.cell 1
      simp only [List.getElem?_cons_zero, List.getElem?_cons_succ] at c0 c1
      go_wp2_with fail
      refine (write_dk W w5 b bd bv vp D n j o s HL5.out.size (by omega) (by omega) HD5.out).mono ?_
      rintro e w6 ⟨rfl, vp6, hd6, ho6, hf6⟩
      have HD6 := Lib.hid hd6
      have HB6 : Hid (Blk w6 g 5 (cellsB (wrD D o s).vis)) := HB5.out.kept (hf6.block g HB5.out.lt HG5.out)
      have HK6 : Hid (Blk w6 k _ _) := HK5.out.kept (hf6.block k HK5.out.lt HKF.out)
      have HL6 : Hid (Below W.heap.size W w6) := HL5.out.trans (hf6.below _ HL5.out.size HD5.out.d.ge)
      have HG6 : Hid (¬ Foot b bd bv vp6 g) := fun hx => HG5.out (Foot.mono ho6 g HB5.out.lt hx)
      have HKF6 : Hid (¬ Foot b bd bv vp6 k) := fun hx => HKF.out (Foot.mono ho6 k HK5.out.lt hx)
      have HSD6 : Hid (S = ⟨(wrD D o s).dur.toArray⟩) := HSD.out
      clear hd6 ho6 hf6 HB5 HK5 HL5 HG5 HKF c0 c1 HD5
      generalize wrD D o s = D6 at HD6 HB6 HSD6
      have c2 := HK6.out.cell 2
      simp only [List.getElem?_cons_zero, List.getElem?_cons_succ] at c2
      cases y
      · go_wp2_with fail
        go_roundw
        case rel => exact ⟨j + 1, by omega, by go_num, vp6, D6, S, rfl, HSD6, ⟨HD6.out, HB6.out, HG6.out, HGB.out, HL6.out⟩⟩
        case measure => simp [intOf]; omega
      · go_wp2_with fail
        refine (sync_dk W w6 b bd bv vp6 D6 n (j + 1) HD6.out).mono ?_
        rintro e w7 ⟨rfl, vp7, hd7, ho7, hf7⟩
        have HD7 := Lib.hid hd7
        have HB7 : Hid (Blk w7 g 5 (cellsB D6.vis)) := HB6.out.kept (hf7.block g HB6.out.lt HG6.out)
        have HK7 : Hid (Blk w7 k _ _) := HK6.out.kept (hf7.block k HK6.out.lt HKF6.out)
        have HL7 : Hid (Below W.heap.size W w7) := HL6.out.trans (hf7.below _ HL6.out.size HD6.out.d.ge)
        have HG7 : Hid (¬ Foot b bd bv vp7 g) := fun hx => HG6.out (by unfold Foot at hx ⊢; rw [ho7] at hx; exact hx)
        clear hd7 ho7 hf7 HB6 HK6 HL6 HG6 HKF6 c2
        have hconv := conv_vis HB7.out HD6.out.len
        obtain ⟨T, hT⟩ : ∃ T : ByteArray, (⟨D6.vis.toArray⟩ : ByteArray) = T := ⟨_, rfl⟩
        rw [hT] at hconv
        have HT := Lib.hid hT
        clear hT
        have c2 := HK7.out.cell 2
        simp only [List.getElem?_cons_zero, List.getElem?_cons_succ] at c2
        go_wp2_with fail
        go_roundw
        case rel => exact ⟨j + 1, by omega, by go_num, vp7, { D6 with dur := D6.vis, pend := [] }, T, rfl, HT.out.symm, ⟨HD7.out, HB7.out, HG7.out, HGB.out, HL7.out⟩⟩
        case measure => simp [intOf]; omega
end Go.Proofs.Ytdcnddbkjdbbbaa
