/-
  The walk of caption.words: the iterator over the words of a text.
-/
import Derived.RangeFuncNested
import Derived.RangeFuncBound
import Derived.RangeFuncCalls
import Derived.RangeFuncLeaves
import Derived.RangeFuncBox
import Derived.Shelf.Abstract
import Derived.Shelf.RegionOpen
import Derived.WalkKit
import Derived.OwnWalkIn
import Derived.TacticsInMore
import Derived.LoopNIn
import Derived.LoopIn
import Derived.Lib.Hide
import Derived.Test.YtjmfhdnckgelaaaCapPlain
import Derived.Test.YtjmfhdnckgelaaaProg
set_option linter.unusedVariables false
set_option linter.unusedSimpArgs false
namespace Go.Proofs.Ytjmfhdnckgelaaa
open Go.RowKit Go.Shelf
attribute [local go_sem] Oper.semAt_some
abbrev wEncs (x : List UInt8) : Array Value := #[.string ⟨x.toArray⟩]
theorem take_snoc (s : ByteArray) (k : Nat) (h : k < s.size) : s.data.toList.take (k + 1) = s.data.toList.take k ++ [s[k]] := by
  rw [List.take_succ_eq_append_getElem (by simpa using h)]; rfl
theorem dlen (s : ByteArray) : s.data.toList.length = s.size := by simp
/-- Where the word under way begins. -/
def curN (s : ByteArray) (k : Nat) : Nat := (wscan (s.data.toList.take k)).2.length
theorem curN_le (s : ByteArray) (k : Nat) : curN s k ≤ k := by
  have h := (wordsL_len (s.data.toList.take k)).2
  have : (s.data.toList.take k).length ≤ k := List.length_take_le _ _
  unfold curN
  omega
theorem cur_extract (s : ByteArray) (k : Nat) (hk : k ≤ s.size) : s.extract (k - curN s k) k = ⟨(wscan (s.data.toList.take k)).2.toArray⟩ := by
  obtain ⟨p, hp⟩ := wscan_suffix (s.data.toList.take k)
  have hl : (s.data.toList.take k).length = k := by rw [List.length_take, dlen]; omega
  have hpl : p.length = k - curN s k := by
    have := congrArg List.length hp
    rw [hl, List.length_append] at this
    unfold curN
    omega
  apply ByteArray.ext
  apply Array.ext'
  rw [ByteArray.data_extract, Array.toList_extract, ← hpl, List.extract_eq_take_drop]
  show ((s.data.toList.drop p.length).take (k - p.length)) = _
  rw [← List.drop_take]
  conv => lhs; rw [hp]
  simp
theorem curN_zero (s : ByteArray) (k : Nat) : curN s k = 0 ↔ (wscan (s.data.toList.take k)).2 = [] := by
  unfold curN
  exact List.length_eq_zero_iff
/-- Block b is as it was. -/
def KpB (b : Nat) (A B : World) : Prop := B.heap[b]? = A.heap[b]?
theorem KpB.cell {b : Nat} {A B : World} (h : KpB b A B) (o : Nat) : B.cell? ⟨b, o, none⟩ = A.cell? ⟨b, o, none⟩ := by
  unfold KpB at h
  simp only [World.cell?, h]
theorem wfin_nil {a : List (List UInt8) × List UInt8} (h : a.2 = []) : wfin a = a.1 := by unfold wfin; rw [if_pos h]
theorem wfin_cons {a : List (List UInt8) × List UInt8} (h : ¬ a.2 = []) : wfin a = a.1 ++ [a.2] := by unfold wfin; rw [if_neg h]
theorem curN_space (s : ByteArray) (k : Nat) (hk : k < s.size) (hc : s[k] = 32) : curN s (k + 1) = 0 ∧ (wscan (s.data.toList.take (k + 1))).1 = wfin (wscan (s.data.toList.take k)) := by
  have e := wscan_space (s.data.toList.take k) s[k] hc
  rw [← take_snoc s k hk] at e
  exact ⟨by rw [curN_zero, e], by rw [e]⟩
theorem curN_letter (s : ByteArray) (k : Nat) (hk : k < s.size) (hc : ¬ s[k] = 32) : curN s (k + 1) = curN s k + 1 ∧ (wscan (s.data.toList.take (k + 1))).1 = (wscan (s.data.toList.take k)).1 := by
  have e := wscan_letter (s.data.toList.take k) s[k] hc
  rw [← take_snoc s k hk] at e
  exact ⟨by unfold curN; rw [e]; simp, by rw [e]⟩
theorem take_all (s : ByteArray) : s.data.toList.take s.size = s.data.toList := List.take_of_length_le (by rw [dlen]; exact Nat.le_refl _)
theorem byte_ne (c : UInt8) : ((c.toNat : Int) != 32) = !decide (c = 32) := by
  rw [Bool.eq_iff_iff]
  simp only [bne_iff_ne, Bool.not_eq_true', decide_eq_false_iff_not]
  constructor
  · intro h e; subst e; exact h rfl
  · intro h e; exact h (UInt8.toNat.inj (by have : c.toNat = 32 := by omega
                                            exact this))
set_option maxHeartbeats 1000000 in
theorem words_stops (F : Fence) (n : Nat) (h32 : F.fn 32) (hro : F.round = none) (hn : 1 ≤ n) (Bn : Nat) (s : ByteArray) (w : World) (hBn : Bn < w.heap.size) (hz : s.size ≤ 200)
    (hc : w.cell? ⟨Bn, 0, none⟩ = some (.string s)) :
    SeqStopsK F n Try.prog 32 #[.pointer (some ⟨Bn, 0, none⟩)] wEncs (KpB Bn) (fun xs => xs = wordsL s.data.toList) (fun pre => ∃ rest, wordsL s.data.toList = pre ++ rest) 201 w := fun l J Jx W hW hJ hJx hY h0 => by
  have hcW : W.cell? ⟨Bn, 0, none⟩ = some (.string s) := (hW.cell (p := ⟨Bn, 0, none⟩) hBn).trans hc
  have HCW := Lib.hid hcW
  refine callsIn_of_wp Try.func32 rfl h32 ?_ hro
  simp only [Try.ntmps32, List.size_toArray, List.length_cons, List.length_nil, Nat.reduceAdd, Nat.reduceSub, Array.replicate_succ, Array.replicate_zero, List.push_toArray, List.append_toArray, List.nil_append, List.cons_append]
  gi_wp2
  clear hcW hc
  gi_loopw [3, 4] (fun f i wr => ∃ (pre : List (List UInt8)) (k : Nat), i = .int .i64 k ∧ J pre wr ∧ Hid (KpB Bn W wr) ∧ ((k ≤ s.size ∧ Hid (pre = (wscan (s.data.toList.take k)).1) ∧ ((Hid (curN s k = 0) ∧ f = .int .i64 (-1)) ∨ (Hid (curN s k ≠ 0) ∧ f = .int .i64 ((k - curN s k : Nat) : Int)))) ∨ (k = s.size + 1 ∧ Hid (pre = wordsL s.data.toList)))) (fun _ i _ => s.size + 1 - (intOf i).toNat)
  case atStart =>
    exact ⟨[], 0, rfl, h0, (rfl : W.heap[Bn]? = W.heap[Bn]?), .inl ⟨Nat.zero_le _, by show _ = _; simp [wscan], .inl ⟨by show _ = _; simp [curN, wscan], rfl⟩⟩⟩
  case round =>
    obtain ⟨pre, k, rfl, hJs, HB, hk | hk⟩ := hrel
    · obtain ⟨hk, HP, hf⟩ := hk
      have hcr : wr.cell? ⟨Bn, 0, none⟩ = some (.string s) := (HB.out.cell 0).trans HCW.out
      have hpl : pre.length < 201 := by
        have h1 := wscan_count (s.data.toList.take k)
        have h2 : (s.data.toList.take k).length ≤ k := List.length_take_le _ _
        rw [HP.out]
        omega
      have hkle : (k : Int) ≤ s.size := by omega
      by_cases hks : k = s.size
      · have HKS := Lib.hid hks
        have hlt : ¬ (k : Int) < s.size := by omega
        clear hks
        have HWF : Hid (wordsL s.data.toList = wfin (wscan (s.data.toList.take k))) := by
          show _ = _
          rw [HKS.out, take_all]
          rfl
        rcases hf with ⟨HC, rfl⟩ | ⟨HC, rfl⟩
        · gi_wp2
          go_roundw
          case rel => exact ⟨pre, k + 1, by go_num, hJs, HB, .inr ⟨by have := HKS.out; omega, by show _ = _; rw [HWF.out, wfin_nil ((curN_zero s k).1 HC.out)]; exact HP.out⟩⟩
          case measure => simp [intOf]; omega
        · obtain ⟨fn, tmps, assign, body, hy, hR⟩ := hY pre (wscan (s.data.toList.take k)).2 wr hJs hpl
          dsimp only [wEncs] at hy
          rw [← cur_extract s k hk] at hy
          have hfirst : (0 : Int) ≤ ((k - curN s k : Nat) : Int) := by omega
          have hfirst2 : ((k - curN s k : Nat) : Int) ≤ k := by omega
          generalize k - curN s k = f at hy hfirst hfirst2 ⊢
          gi_wp2
          refine hR.mono ?_
          rintro e W2 (⟨rfl, hJ2, hK2⟩ | ⟨rfl, hx2⟩)
          · have HB2 : Hid (KpB Bn W W2) := (show KpB Bn wr W2 from hK2).trans HB.out
            clear hK2 hy hR hJs
            gi_wp2
            go_roundw
            case rel => exact ⟨_, k + 1, by go_num, hJ2, HB2, .inr ⟨by have := HKS.out; omega, by show _ = _; rw [HWF.out, wfin_cons (fun e => HC.out ((curN_zero s k).2 e)), HP.out]⟩⟩
            case measure => simp [intOf]; omega
          · gi_wp2
            refine bodyPost_ret (results_none rfl _ _ _) rfl ?_
            exact ⟨⟨_, rfl⟩, .inr ⟨_, ⟨[], by rw [List.append_nil, HWF.out, wfin_cons (fun e => HC.out ((curN_zero s k).2 e)), HP.out]⟩, hx2⟩⟩
      · have hlt : (k : Int) < s.size := by omega
        have hlt2 : k < s.size := by omega
        clear hks
        have hb := byte_ne (s[k]'hlt2)
        by_cases hsp : s[k]'hlt2 = 32
        · rw [decide_eq_true hsp] at hb
          obtain ⟨q1, q2⟩ := curN_space s k hlt2 hsp
          have HQ1 := Lib.hid q1
          have HQ2 := Lib.hid q2
          clear q1 q2 hsp
          rcases hf with ⟨HC, rfl⟩ | ⟨HC, rfl⟩
          · gi_wp2
            go_roundw
            case rel => exact ⟨pre, k + 1, by go_num, hJs, HB, .inl ⟨by omega, by show _ = _; rw [HQ2.out, wfin_nil ((curN_zero s k).1 HC.out)]; exact HP.out, .inl ⟨HQ1, rfl⟩⟩⟩
            case measure => simp [intOf]; omega
          · obtain ⟨fn, tmps, assign, body, hy, hR⟩ := hY pre (wscan (s.data.toList.take k)).2 wr hJs hpl
            dsimp only [wEncs] at hy
            rw [← cur_extract s k hk] at hy
            have hfirst : (0 : Int) ≤ ((k - curN s k : Nat) : Int) := by omega
            have hfirst2 : ((k - curN s k : Nat) : Int) ≤ k := by omega
            generalize k - curN s k = f at hy hfirst hfirst2 ⊢
            gi_wp2
            refine hR.mono ?_
            rintro e W2 (⟨rfl, hJ2, hK2⟩ | ⟨rfl, hx2⟩)
            · have HB2 : Hid (KpB Bn W W2) := (show KpB Bn wr W2 from hK2).trans HB.out
              clear hK2 hy hR hJs
              gi_wp2
              go_roundw
              case rel => exact ⟨_, k + 1, by go_num, hJ2, HB2, .inl ⟨by omega, by show _ = _; rw [HQ2.out, wfin_cons (fun e => HC.out ((curN_zero s k).2 e)), HP.out], .inl ⟨HQ1, rfl⟩⟩⟩
              case measure => simp [intOf]; omega
            · gi_wp2
              refine bodyPost_ret (results_none rfl _ _ _) rfl ?_
              refine ⟨⟨_, rfl⟩, .inr ⟨_, ?_, hx2⟩⟩
              obtain ⟨r, hr⟩ := wordsL_prefix s.data.toList (k + 1)
              exact ⟨r, by rw [hr, HQ2.out, wfin_cons (fun e => HC.out ((curN_zero s k).2 e)), HP.out]⟩
        · rw [decide_eq_false hsp] at hb
          obtain ⟨q1, q2⟩ := curN_letter s k hlt2 hsp
          have HQ1 := Lib.hid q1
          have HQ2 := Lib.hid q2
          clear q1 q2 hsp
          rcases hf with ⟨HC, rfl⟩ | ⟨HC, rfl⟩
          · gi_wp2
            go_roundw
            case rel => exact ⟨pre, k + 1, by go_num, hJs, HB, .inl ⟨by omega, by show _ = _; rw [HQ2.out]; exact HP.out, .inr ⟨by show _ ≠ _; rw [HQ1.out]; omega, by have h1 := HQ1.out; have h2 := HC.out; rw [h1, h2]; go_num⟩⟩⟩
            case measure => simp [intOf]; omega
          · have hfirst : ¬ ((k - curN s k : Nat) : Int) < 0 := by omega
            have HE : Hid (k + 1 - curN s (k + 1) = k - curN s k) := by show _ = _; rw [HQ1.out]; omega
            gi_wp2
            go_roundw
            case rel => exact ⟨pre, k + 1, by go_num, hJs, HB, .inl ⟨by omega, by show _ = _; rw [HQ2.out]; exact HP.out, .inr ⟨by show _ ≠ _; rw [HQ1.out]; omega, by rw [HE.out]⟩⟩⟩
            case measure => simp [intOf]; omega
    · obtain ⟨rfl, HP⟩ := hk
      have hcr : wr.cell? ⟨Bn, 0, none⟩ = some (.string s) := (HB.out.cell 0).trans HCW.out
      have hgt : ¬ ((s.size + 1 : Nat) : Int) ≤ s.size := by omega
      gi_wp2
      go_end0
      exact ⟨⟨_, rfl⟩, .inl (HP.out ▸ hJs)⟩
theorem words_in (F : Fence) (n : Nat) (h28 : F.fn 28) (hro : F.round = none) (s : ByteArray) (w : World) :
    CallsIn F n Try.prog 28 #[.string s] w fun e w' => e = .returned (.func (.func 32) #[] #[.pointer (some ⟨w.heap.size, 0, none⟩)]) ∧ w' = w.alloc (.cells #[.string s] 9) := by
  refine callsIn_of_wp Try.func28 rfl h28 ?_ hro
  simp only [Try.ntmps28, List.size_toArray, List.length_cons, List.length_nil, Nat.reduceAdd, Nat.reduceSub, Array.replicate_succ, Array.replicate_zero, List.push_toArray, List.append_toArray, List.nil_append, List.cons_append]
  gi_wp2
  go_ret
  exact ⟨rfl, rfl⟩
theorem printB_take (s : ByteArray) (k : Nat) (h : k < s.size) : printB (s.data.toList.take (k + 1)) = (printB (s.data.toList.take k) && decide (32 ≤ s[k] ∧ s[k] ≤ 126)) := by
  rw [take_snoc s k h]
  simp [printB]
theorem printB_short (s : ByteArray) (k : Nat) (h : printB (s.data.toList.take k) = false) : printB s.data.toList = false := by
  rw [← List.take_append_drop k s.data.toList]
  unfold printB at *
  rw [List.all_append, h, Bool.false_and]
set_option maxHeartbeats 1000000 in
theorem printable_in (F : Fence) (n : Nat) (h27 : F.fn 27) (hro : F.round = none) (s : ByteArray) (w : World) (hz : s.size ≤ 200) :
    CallsIn F n Try.prog 27 #[.string s] w fun e w' => e = .returned (.bool (printB s.data.toList)) ∧ w = w' := by
  refine callsIn_of_wp Try.func27 rfl h27 ?_ hro
  simp only [Try.ntmps27, List.size_toArray, List.length_cons, List.length_nil, Nat.reduceAdd, Nat.reduceSub, Array.replicate_succ, Array.replicate_zero, List.push_toArray, List.append_toArray, List.nil_append, List.cons_append]
  gi_wp2
  gi_loop [3] (fun i => ∃ k : Nat, k ≤ s.size ∧ i = .int .i64 k ∧ Hid (printB (s.data.toList.take k) = true)) (fun i => s.size - (intOf i).toNat)
  case atStart => exact ⟨0, Nat.zero_le _, rfl, (rfl : printB [] = true)⟩
  case round =>
    obtain ⟨k, hk, rfl, HP⟩ := hrel
    by_cases hks : k = s.size
    · have HS : Hid (printB s.data.toList = true) := by
        have := HP.out
        rwa [hks, take_all] at this
      have hlt : ¬ (k : Int) < s.size := by omega
      clear hks
      gi_wp2
      go_ret
      exact ⟨by rw [HS.out]; rfl, rfl⟩
    · have hlt : (k : Int) < s.size := by omega
      have hlt2 : k < s.size := by omega
      clear hks
      have hpt := printB_take s k hlt2
      rw [HP.out, Bool.true_and] at hpt
      have c1 : (32 ≤ s[k] ∧ s[k] ≤ 126) ↔ (32 ≤ (s[k].toNat : Int) ∧ (s[k].toNat : Int) ≤ 126) := by
        rw [UInt8.le_iff_toNat_le, UInt8.le_iff_toNat_le]
        simp
        omega
      by_cases hr : 32 ≤ (s[k].toNat : Int) ∧ (s[k].toNat : Int) ≤ 126
      · rw [decide_eq_true (c1.2 hr)] at hpt
        have HPT := Lib.hid hpt
        obtain ⟨hr1, hr2⟩ := hr
        clear hpt c1
        gi_wp2
        go_round
        case rel => exact ⟨k + 1, by omega, by go_num, HPT⟩
        case measure => simp [intOf]; omega
      · rw [decide_eq_false (fun h => hr (c1.1 h))] at hpt
        have HPT := Lib.hid (printB_short s (k + 1) hpt)
        clear hpt c1
        by_cases hr1 : 32 ≤ (s[k].toNat : Int)
        · have hr2 : 126 < (s[k].toNat : Int) := by omega
          clear hr
          gi_wp2
          go_ret
          exact ⟨by rw [HPT.out]; rfl, rfl⟩
        · clear hr
          gi_wp2
          go_ret
          exact ⟨by rw [HPT.out]; rfl, rfl⟩
end Go.Proofs.Ytjmfhdnckgelaaa
