/-
  The walks of digest.digests, value, values, Verify, VerifyExtension.
  The walks of digest.values, Verify, VerifyExtension.
  The walks of digest.Verify, VerifyExtension.
-/
import Derived.WalkKit
import Derived.LoopTactic
import Derived.WalkSpells
import Derived.WalkLawsBesides
import Derived.IntWalk
import Derived.Outline
import Derived.Deep.QuietTactic
import Derived.BigQuiet
import Derived.Deep.RegionLaw
import Derived.Deep.RegionHeld3
import Derived.Deep.DrawnRows
import Derived.Deep.AppendLies
import Derived.Deep.LoopGhost
import Derived.WalkMore
import Derived.Laws.EntriesVeiled
import Derived.Lib.Hide
import Derived.Test.YtfpcdlpfmlaakaaGreatDoorDgD
set_option linter.unusedVariables false
set_option linter.unusedSimpArgs false
namespace Go.Proofs.YtfpcdlpfmlaakaaGreatDoor
open Go.RowKit Onair
attribute [local go_sem ↓] Go.wp_at_zero Go.wp_at_succ
theorem drewN_below {B : Nat} {a w : World} (h : Below B a w) (n : Nat) : Below B a (w.drewN n) := h.trans ⟨rfl, rfl, rfl, Nat.le_refl _, fun _ _ => rfl⟩
/-- A list of lists of strings lies at the address. -/
def RdL (W : World) (bk : Nat) (ls : List (Option Addr × Nat × List ByteArray)) : Prop :=
  ∀ (j : Nat) p, ls[j]? = some p → W.cell? ⟨bk, j, none⟩ = some (.slice p.1 p.2.2.length p.2.1) ∧ RdS W p.1 p.2.2 ∧ p.2.2.length ≤ 1000000
def digLs (ls : List (Option Addr × Nat × List ByteArray)) : Bool := ls.all fun p => digB p.2.2
theorem digLs_snoc (ls : List (Option Addr × Nat × List ByteArray)) (k : Nat) (p : Option Addr × Nat × List ByteArray) (h : ls[k]? = some p) : digLs (ls.take (k + 1)) = (digLs (ls.take k) && digB p.2.2) := by
  have hk := (List.getElem?_eq_some_iff.1 h).1
  have e := (List.getElem?_eq_some_iff.1 h).2
  rw [List.take_succ_eq_append_getElem hk, e]
  simp [digLs]
theorem digB_snoc (l : List ByteArray) (k : Nat) (x : ByteArray) (h : l[k]? = some x) : digB (l.take (k + 1)) = (digB (l.take k) && x.size == 32) := by
  have hk := (List.getElem?_eq_some_iff.1 h).1
  have e := (List.getElem?_eq_some_iff.1 h).2
  rw [List.take_succ_eq_append_getElem hk, e]
  simp [digB]
theorem digB_bad (l : List ByteArray) (k : Nat) (x : ByteArray) (h : l[k]? = some x) (hx : ¬ x.size = 32) : digB l = false := by
  rw [digB, List.all_eq_false]
  exact ⟨x, List.mem_of_getElem? h, by simpa using hx⟩
theorem digLs_bad (ls : List (Option Addr × Nat × List ByteArray)) (k : Nat) (p : Option Addr × Nat × List ByteArray) (h : ls[k]? = some p) (hx : digB p.2.2 = false) : digLs ls = false := by
  rw [digLs, List.all_eq_false]
  exact ⟨p, List.mem_of_getElem? h, by simpa using hx⟩
set_option maxHeartbeats 2000000 in
theorem digests_any (bk c : Nat) (ls : List (Option Addr × Nat × List ByteArray)) (w : World) (hl : ls.length ≤ 10) (hr : RdL w bk ls) :
    Calls Tryz.prog 106 #[.slice (some ⟨bk, 0, none⟩) ls.length c] w fun e w' => e = .returned (.bool (digLs ls)) ∧ w = w' := by
  have HR := Lib.hid hr
  clear hr
  go_enter Tryz.func106, Tryz.ntmps106
  go_wp2_with fail
  go_step3
  go_wp2_with fail
  go_step3
  go_wp2_with fail
  go_loopg [3, 10] ls.length (fun g good i wr => ∃ k : Nat, k + g = ls.length ∧ i = .int .i64 k ∧ good = .bool true ∧ Hid (digLs (ls.take k) = true) ∧ w = wr)
  case atStart => exact ⟨0, by omega, rfl, rfl, rfl, rfl⟩
  case round =>
    obtain ⟨k, hk, rfl, rfl, HD, rfl⟩ := hrel
    by_cases hkl : k = ls.length
    · have HE : Hid (digLs ls = true) := by have := HD.out; rw [hkl, List.take_length] at this; exact this
      have h1 : ¬ (k : Int) < (ls.length : Int) := by omega
      clear hkl HD
      go_wp2_with fail
      go_ret
      exact ⟨by rw [HE.out]; rfl, rfl⟩
    · have hkk : k < ls.length := by omega
      have h1 : (k : Int) < (ls.length : Int) := by omega
      obtain ⟨p, hp⟩ : ∃ p, ls[k]? = some p := ⟨_, List.getElem?_eq_getElem hkk⟩
      obtain ⟨hc, hrs, hpl⟩ := HR.out k p hp
      obtain ⟨oa, cap, l⟩ := p
      dsimp only at hc hrs hpl
      have HSN := Lib.hid (digLs_snoc ls k _ hp)
      have HBD := Lib.hid (digLs_bad ls k _ hp)
      dsimp only at HSN HBD
      have HRS := Lib.hid hrs
      clear hrs hp hkl
      go_wp2_with fail
      go_loopg [3, 16] l.length (fun g good i wr => ∃ j : Nat, j + g = l.length ∧ i = .int .i64 j ∧ good = .bool true ∧ Hid (digB (l.take j) = true) ∧ w = wr)
      case atStart => exact ⟨0, by omega, rfl, rfl, rfl, rfl⟩
      case round =>
        obtain ⟨j, hj, rfl, rfl, HJ, rfl⟩ := hrel
        by_cases hjl : j = l.length
        · have HE : Hid (digLs (ls.take (k + 1)) = true) := by
            have := HJ.out
            rw [hjl, List.take_length] at this
            show _ = _
            rw [HSN.out, HD.out, this]
            rfl
          have h2 : ¬ (j : Int) < (l.length : Int) := by omega
          clear hjl HJ HD HBD HSN
          go_wp2_with fail
          go_roundg (ls.length - (k + 1))
          case rel => exact ⟨k + 1, by omega, by go_num, rfl, HE, rfl⟩
          case measure => omega
        · have hjj : j < l.length := by omega
          have h2 : (j : Int) < (l.length : Int) := by omega
          obtain ⟨x, hx⟩ : ∃ x, l[j]? = some x := ⟨_, List.getElem?_eq_getElem hjj⟩
          obtain ⟨b, o, rfl, hrb⟩ := HRS.out.some (by omega)
          have cx := hrb.cell j x hx
          have HJS := Lib.hid (digB_snoc l j x hx)
          have HJB := Lib.hid (digB_bad l j x hx)
          clear hrb hx hjl
          by_cases hx32 : x.size = 32
          · have hxz : ((x.size : Int) != 32) = false := by rw [hx32]; rfl
            have HE : Hid (digB (l.take (j + 1)) = true) := by
              show _ = _
              rw [HJS.out, HJ.out, hx32]
              rfl
            clear HJS HJB hx32 HJ
            go_wp2_with fail
            go_roundg (l.length - (j + 1))
            case rel => exact ⟨j + 1, by omega, by go_num, rfl, HE, rfl⟩
            case measure => omega
          · have hxz : ((x.size : Int) != 32) = true := by rw [bne_iff_ne]; omega
            have HE : Hid (digLs ls = false) := HBD.out (HJB.out hx32)
            clear HJS HJB hx32 HJ
            go_wp2_with fail
            rw [Exit.noGoto_ret]
            go_ret
            exact ⟨by rw [HE.out]; rfl, rfl⟩
theorem valR_size : ∀ (q : List ByteArray) (n i : Nat) (s : ByteArray), (valR q n i s).1.size ≤ 32
  | [], n, i, s => by
    unfold valR
    split
    · rw [leafB_size]; omega
    · decide
  | x :: q, n, i, s => by
    unfold valR
    split
    · rw [leafB_size]; omega
    · split
      · show (nodeB _ _).size ≤ 32
        rw [nodeB_size]; omega
      · show (nodeB _ _).size ≤ 32
        rw [nodeB_size]; omega
set_option maxHeartbeats 2000000 in
theorem value_any : ∀ (N : Nat) (p : List ByteArray) (oa : Option Addr) (m n i cap : Nat) (s : ByteArray) (w : World), p.length = N → p.length = m → m ≤ cap → m ≤ 1000000 → cap ≤ 9223372036854775807 → n ≤ 9223372036854775807 → i < n → s.size ≤ 900000000 → SzB 32 p → RdS w oa p → TabAt w →
    Calls Tryz.prog 107 #[.int .i64 (n : Int), .int .i64 (i : Int), .string s, .slice oa m cap] w fun e w' => e = .returned (.tuple #[.string (valR p.reverse n i s).1, .bool (valR p.reverse n i s).2]) ∧ Below w.heap.size w w' := by
  intro N
  induction N with
  | zero =>
    intro p oa m n i cap s w hN hm hmc hmm hcc hn hi hs hz hr ht
    obtain rfl : p = [] := List.eq_nil_of_length_eq_zero hN
    obtain rfl : m = 0 := by simpa using hm.symm
    by_cases h1 : n = 1
    · obtain rfl := h1
      have HH := Lib.hid (leaf_any s w hs ht)
      have HV : Hid (valR [] 1 i s = (leafB s, true)) := rfl
      rw [List.reverse_nil]
      clear hz hr ht hm hN
      go_enter Tryz.func107, Tryz.ntmps107
      go_wp2_with fail
      refine HH.out.mono ?_
      rintro e w2 ⟨rfl, hb2⟩
      have HB2 := Lib.hid hb2
      clear hb2
      go_wp2_with fail
      go_ret2
      exact ⟨by rw [HV.out]; rfl, HB2.out⟩
    · have hv : valR [] n i s = (emptyB, false) := by unfold valR; rw [if_neg h1]
      have HV := Lib.hid hv
      have n1 : ((n : Int) == 1) = false := by rw [beq_eq_false_iff_ne]; omega
      rw [List.reverse_nil]
      clear hz hr ht hm hN hv
      go_enter Tryz.func107, Tryz.ntmps107
      go_wp2_with fail
      go_ret2
      exact ⟨by rw [HV.out]; rfl, Below.refl _ _⟩
  | succ N ih =>
    intro p oa m n i cap s w hN hm hmc hmm hcc hn hi hs hz hr ht
    obtain ⟨b, o, rfl, hrb⟩ := hr.some (by omega)
    obtain ⟨q, x, rfl⟩ : ∃ q x, p = q ++ [x] := ⟨p.dropLast, p.getLast (by intro e; rw [e] at hN; simp at hN), (List.dropLast_concat_getLast _).symm⟩
    have hq : q.length = N := by simpa using hN
    have hmN : m = N + 1 := by omega
    have hrev : (q ++ [x]).reverse = x :: q.reverse := by simp
    rw [hrev]
    by_cases h1 : n = 1
    · obtain rfl := h1
      have HH := Lib.hid (leaf_any s w hs ht)
      have HV : Hid (valR (x :: q.reverse) 1 i s = (leafB s, false)) := rfl
      have m0 : ((m : Int) == 0) = false := by rw [beq_eq_false_iff_ne]; omega
      clear hz hr ht hm hN hrb ih hrev hq hmN
      go_enter Tryz.func107, Tryz.ntmps107
      go_wp2_with fail
      refine HH.out.mono ?_
      rintro e w2 ⟨rfl, hb2⟩
      have HB2 := Lib.hid hb2
      clear hb2
      go_wp2_with fail
      go_ret2
      exact ⟨by rw [HV.out]; rfl, HB2.out⟩
    · have h2 : 2 ≤ n := by omega
      have hk1 := splitN_lt n h2
      have hk2 := splitN_pos n
      have hxs : x.size ≤ 32 := hz x (by simp)
      have cx := hrb.cell N x (by rw [List.getElem?_append_right (by omega), hq, Nat.sub_self]; rfl)
      have hqz : SzB 32 q := fun y hy => hz y (by simp [hy])
      have hrq : RdB w b o q := ⟨hrb.lt, fun j y hj => hrb.cell j y (by rw [List.getElem?_append_left (List.getElem?_eq_some_iff.1 hj).1]; exact hj)⟩
      have HSP := Lib.hid (fun W => split_any n W h2 hn)
      have HV : Hid (valR (x :: q.reverse) n i s = if i < splitN n then (nodeB (valR q.reverse (splitN n) i s).1 x, (valR q.reverse (splitN n) i s).2) else (nodeB x (valR q.reverse (n - splitN n) (i - splitN n) s).1, (valR q.reverse (n - splitN n) (i - splitN n) s).2)) := by
        show _ = _
        conv => lhs; unfold valR
        rw [if_neg h1]
      obtain ⟨k, hk⟩ : ∃ k, splitN n = k := ⟨_, rfl⟩
      rw [hk] at hk1 hk2 HSP HV
      have n1 : ((n : Int) == 1) = false := by rw [beq_eq_false_iff_ne]; omega
      have m0 : ((m : Int) == 0) = false := by rw [beq_eq_false_iff_ne]; omega
      have g1 : IntKind.i64.wrap ((m : Int) - 1) = (N : Int) := by rw [IntWalk.i64_in _ (by omega)]; omega
      have g2 : (0 : Int) ≤ (N : Int) := by omega
      have g3 : (N : Int) < (m : Int) := by omega
      have g4 : (N : Int) ≤ (cap : Int) := by omega
      have HT := Lib.hid ht
      have HRQ := Lib.hid hrq
      have HB0 := Lib.hid (Below.refl w.heap.size w)
      by_cases hik : i < k
      · have q1 : (i : Int) < (k : Int) := by omega
        have IH := Lib.hid (fun W (hW : Below w.heap.size w W) => ih q (some ⟨b, o, none⟩) N k i cap s W hq hq (by omega) (by omega) hcc (by omega) hik hs hqz (hrq.kept hW).rds (ht.below hW))
        have hvs := valR_size q.reverse k i s
        rw [if_pos hik] at HV
        obtain ⟨V, hV⟩ : ∃ V, valR q.reverse k i s = V := ⟨_, rfl⟩
        rw [hV] at IH HV hvs
        obtain ⟨v, ok⟩ := V
        dsimp only at IH HV hvs
        clear hz hr ht hm hN hrb ih hrev hq hmN hqz hrq h1 h2 hk hV
        go_enter Tryz.func107, Tryz.ntmps107
        go_wp2_with fail
        go_quiet (fail)
        have HB1 : Hid (Below w.heap.size w (w.drewN nq)) := drewN_below HB0.out nq
        generalize w.drewN nq = w1 at HB1 ⊢
        clear cx g1 HB0
        go_wp2_with fail
        refine (HSP.out _).mono ?_
        rintro e w2 ⟨rfl, rfl⟩
        go_wp2_with fail
        refine (IH.out _ HB1.out).mono ?_
        rintro e w2 ⟨rfl, hb2⟩
        have HB2 := Lib.hid (HB1.out.trans (hb2.mono HB1.out.size))
        clear hb2
        go_wp2_with fail
        refine (node_any v x _ (by omega) (by omega) (HT.out.below HB2.out)).mono ?_
        rintro e w3 ⟨rfl, hb3⟩
        have HB3 := Lib.hid (HB2.out.trans (hb3.mono HB2.out.size))
        clear hb3
        go_wp2_with fail
        go_ret2
        exact ⟨by rw [HV.out]; rfl, HB3.out⟩
      · have q1 : (k : Int) ≤ (i : Int) := by omega
        have q2 : ¬ (i : Int) < (k : Int) := by omega
        have q3 : (k : Int) ≤ (n : Int) := by omega
        have IH := Lib.hid (fun W (hW : Below w.heap.size w W) => by
          have := ih q (some ⟨b, o, none⟩) N (n - k) (i - k) cap s W hq hq (by omega) (by omega) hcc (by omega) (by omega) hs hqz (hrq.kept hW).rds (ht.below hW)
          rw [show ((n - k : Nat) : Int) = (n : Int) - (k : Int) by omega, show ((i - k : Nat) : Int) = (i : Int) - (k : Int) by omega] at this
          exact this)
        have hvs := valR_size q.reverse (n - k) (i - k) s
        rw [if_neg hik] at HV
        obtain ⟨V, hV⟩ : ∃ V, valR q.reverse (n - k) (i - k) s = V := ⟨_, rfl⟩
        rw [hV] at IH HV hvs
        obtain ⟨v, ok⟩ := V
        dsimp only at IH HV hvs
        clear hz hr ht hm hN hrb ih hrev hq hmN hqz hrq h1 h2 hk hV
        go_enter Tryz.func107, Tryz.ntmps107
        go_wp2_with fail
        go_quiet (fail)
        have HB1 : Hid (Below w.heap.size w (w.drewN nq)) := drewN_below HB0.out nq
        generalize w.drewN nq = w1 at HB1 ⊢
        clear cx g1 HB0
        go_wp2_with fail
        refine (HSP.out _).mono ?_
        rintro e w2 ⟨rfl, rfl⟩
        go_wp2_with fail
        refine (IH.out _ HB1.out).mono ?_
        rintro e w2 ⟨rfl, hb2⟩
        have HB2 := Lib.hid (HB1.out.trans (hb2.mono HB1.out.size))
        clear hb2
        go_wp2_with fail
        refine (node_any x v _ (by omega) (by omega) (HT.out.below HB2.out)).mono ?_
        rintro e w3 ⟨rfl, hb3⟩
        have HB3 := Lib.hid (HB2.out.trans (hb3.mono HB2.out.size))
        clear hb3
        go_wp2_with fail
        go_ret2
        exact ⟨by rw [HV.out]; rfl, HB3.out⟩
end Go.Proofs.YtfpcdlpfmlaakaaGreatDoor
namespace Go.Proofs.YtfpcdlpfmlaakaaGreatDoor
open Go.RowKit Onair
attribute [local go_sem ↓] Go.wp_at_zero Go.wp_at_succ
end Go.Proofs.YtfpcdlpfmlaakaaGreatDoor
namespace Go.Proofs.YtfpcdlpfmlaakaaGreatDoor
open Go.RowKit Onair
attribute [local go_sem ↓] Go.wp_at_zero Go.wp_at_succ
theorem beq_dec (a b : ByteArray) : (a.toList == b.toList) = decide (a = b) := by
  rw [Bool.eq_iff_iff, beq_iff_eq, decide_eq_true_iff, ByteArray.toList_eq, ByteArray.toList_eq]
  exact ⟨fun e => ByteArray.ext (Array.ext' e), fun e => by rw [e]⟩
theorem digB_sz {p : List ByteArray} (h : digB p = true) : SzB 32 p := fun x hx => by
  have := List.all_eq_true.1 h x hx
  have := (beq_iff_eq (a := x.size) (b := 32)).1 this
  omega
set_option maxHeartbeats 2000000 in
theorem verify_out (root : ByteArray) (n i : Int) (s : ByteArray) (oa : Option Addr) (m cap : Nat) (w : World) (h : i < 0 ∨ n ≤ i) :
    Calls Tryz.prog 79 #[.string root, .int .i64 n, .int .i64 i, .string s, .slice oa m cap] w fun e w' => e = .returned (.bool false) ∧ Below w.heap.size w w' := by
  by_cases h0 : i < 0
  · clear h
    go_enter Tryz.func79, Tryz.ntmps79
    go_wp2_with fail
    go_ret
    exact ⟨rfl, Below.refl _ _⟩
  · have h1 : n ≤ i := by omega
    have h2 : 0 ≤ i := by omega
    clear h
    go_enter Tryz.func79, Tryz.ntmps79
    go_wp2_with fail
    go_ret
    exact ⟨rfl, Below.refl _ _⟩
theorem rdl_one (w : World) (oa : Option Addr) (cap : Nat) (p : List ByteArray) (hp : p.length ≤ 1000000) (hr : RdS w oa p) : RdL (w.alloc (.cells #[.slice oa p.length cap] 63)) w.heap.size [(oa, cap, p)] := fun j q hj => by
  match j, hj with
  | 0, hj =>
    obtain rfl : (oa, cap, p) = q := by simpa using hj
    exact ⟨(Blk.new w 63 [.slice oa p.length cap]).cell 0, hr.kept ((Below.refl _ w).alloc (Nat.le_refl _) _), hp⟩
  | j + 1, hj => simp at hj
set_option maxHeartbeats 2000000 in
theorem verify_in (root : ByteArray) (n i : Nat) (s : ByteArray) (oa : Option Addr) (p : List ByteArray) (cap : Nat) (w : World) (hi : i < n) (hn : n ≤ 9223372036854775807) (hs : s.size ≤ 900000000) (hp : p.length ≤ 1000000) (hpc : p.length ≤ cap) (hcc : cap ≤ 9223372036854775807) (hr : RdS w oa p) (ht : TabAt w) :
    Calls Tryz.prog 79 #[.string root, .int .i64 (n : Int), .int .i64 (i : Int), .string s, .slice oa p.length cap] w fun e w' => e = .returned (.bool (verB root n i s p)) ∧ Below w.heap.size w w' := by
  have hb1 : Below w.heap.size w (w.alloc (.cells #[.slice oa p.length cap] 63)) := (Below.refl _ w).alloc (Nat.le_refl _) _
  have hdl : digLs [(oa, cap, p)] = digB p := by simp [digLs]
  have HDG := Lib.hid (digests_any w.heap.size 1 [(oa, cap, p)] _ (by simp) (rdl_one w oa cap p hp hr))
  rw [hdl] at HDG
  have HB1 := Lib.hid hb1
  have i0 : ¬ (i : Int) < 0 := by omega
  have i1 : ¬ (n : Int) ≤ (i : Int) := by omega
  have i2 : (i : Int) < (n : Int) := by omega
  cases hd : digB p with
  | false =>
    have HV : Hid (verB root n i s p = false) := by show _ = _; unfold verB; rw [hd, Bool.and_false, Bool.false_and, Bool.false_and]
    rw [hd] at HDG
    clear hd hr ht hb1 hdl
    go_enter Tryz.func79, Tryz.ntmps79
    go_wp2_with fail
    refine HDG.out.mono ?_
    rintro e w2 ⟨rfl, rfl⟩
    go_wp2_with fail
    go_ret
    exact ⟨by rw [HV.out]; rfl, HB1.out⟩
  | true =>
    rw [hd] at HDG
    have HVL := Lib.hid (value_any p.length p oa p.length n i cap s _ rfl rfl hpc hp hcc hn hi hs (digB_sz hd) (hr.kept hb1) (ht.below hb1))
    have hv : verB root n i s p = ((valR p.reverse n i s).2 && decide ((valR p.reverse n i s).1 = root)) := by unfold verB; rw [hd, decide_eq_true hi]; rfl
    have HV := Lib.hid hv
    obtain ⟨V, hV⟩ : ∃ V, valR p.reverse n i s = V := ⟨_, rfl⟩
    rw [hV] at HVL HV
    obtain ⟨v, ok⟩ := V
    dsimp only at HVL HV
    clear hd hr ht hb1 hdl hv hV
    go_enter Tryz.func79, Tryz.ntmps79
    go_wp2_with fail
    refine HDG.out.mono ?_
    rintro e w2 ⟨rfl, rfl⟩
    go_wp2_with fail
    refine HVL.out.mono ?_
    rintro e w2 ⟨rfl, hb2⟩
    have HB2 := Lib.hid (HB1.out.trans (hb2.mono HB1.out.size))
    clear hb2
    cases ok with
    | false =>
      go_wp2_with fail
      go_ret
      exact ⟨by rw [HV.out]; rfl, HB2.out⟩
    | true =>
      go_wp2_with fail
      go_ret
      exact ⟨by rw [HV.out, ← beq_dec]; rfl, HB2.out⟩
end Go.Proofs.YtfpcdlpfmlaakaaGreatDoor
