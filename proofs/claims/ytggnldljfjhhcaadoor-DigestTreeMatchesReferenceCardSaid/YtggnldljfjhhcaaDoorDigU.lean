/-
  The walks of heads, Same; the plain law of two lists with one head.
-/
import Derived.WalkKit
import Derived.LoopTactic
import Derived.WalkSpells
import Derived.WalkLawsBesides
import Derived.IntWalk
import Derived.Outline
import Derived.Deep.QuietTactic
import Derived.BigQuiet
import Derived.Deep.RegionLaw
import Derived.Deep.RegionHeld3
import Derived.Deep.DrawnRows
import Derived.Deep.AppendLies
import Derived.Laws.EntriesVeiled
import Derived.Lib.Hide
import Derived.Laws.OwnMore
import Derived.Test.YtggnldljfjhhcaaDoorDigSha
import Derived.Test.YtggnldljfjhhcaaDoorDigH
import Derived.Test.YtggnldljfjhhcaaDoorDigJ
import Derived.Test.YtggnldljfjhhcaaDoorDigM
import Derived.Test.YtggnldljfjhhcaaDoorDigN
import Derived.Test.YtggnldljfjhhcaaDoorDigO
import Derived.Test.YtggnldljfjhhcaaDoorDigP
import Derived.Test.YtggnldljfjhhcaaDoorDigQ
import Derived.Test.YtggnldljfjhhcaaDoorDigR
import Derived.Test.YtggnldljfjhhcaaDoorDigLawB
set_option linter.unusedVariables false
set_option linter.unusedSimpArgs false
namespace Go.Proofs.YtggnldljfjhhcaaDoor
open Go.RowKit Onair
attribute [local go_sem ↓] Go.wp_at_zero Go.wp_at_succ
def zB : ByteArray := ⟨(List.replicate 32 0).toArray⟩
theorem zB_size : zB.size = 32 := by decide
/-- The strings of which the digest is computed for the head of a list of records, and the head; the last record first. -/
def hdR : List ByteArray → List ByteArray × ByteArray
  | [] => ([], zB)
  | x :: r => (chainS (hdR r).2 x :: (hdR r).1, chainB (hdR r).2 x)
theorem hdR_len : ∀ (r : List ByteArray), (hdR r).1.length = r.length
  | [] => rfl
  | x :: r => by
    show (chainS (hdR r).2 x :: (hdR r).1).length = _
    rw [List.length_cons, hdR_len r]
    rfl
theorem hdR_32 : ∀ (r : List ByteArray), (hdR r).2.size = 32
  | [] => zB_size
  | x :: r => shaB_size _
theorem hdR_sz : ∀ (r : List ByteArray), SzB 60 r → SzB 1000000 (hdR r).1
  | [], _ => fun x hx => by cases hx
  | x :: r, h => fun y hy => by
    have hy' : y = chainS (hdR r).2 x ∨ y ∈ (hdR r).1 := List.mem_cons.1 hy
    rcases hy' with e | e
    · subst e
      have := h x (by simp)
      rw [chainS_size, hdR_32]
      omega
    · exact hdR_sz r (fun z hz => h z (by simp [hz])) y e
theorem hdR_snoc (l : List ByteArray) (k : Nat) (x : ByteArray) (h : l[k]? = some x) : hdR (l.take (k + 1)).reverse = (chainS (hdR (l.take k).reverse).2 x :: (hdR (l.take k).reverse).1, chainB (hdR (l.take k).reverse).2 x) := by
  have hk := (List.getElem?_eq_some_iff.1 h).1
  have e := (List.getElem?_eq_some_iff.1 h).2
  rw [List.take_succ_eq_append_getElem hk, e, List.reverse_append, List.reverse_singleton, List.singleton_append]
  rfl
/-- One of two strings of different lists with one head: the longer list's entry behind the shorter one's end has the digest of zeros. -/
def zeroB (x y : List ByteArray) : Prop := x.length ≠ y.length ∧ shaB ((if x.length < y.length then y else x).getD (min x.length y.length) ⟨#[]⟩) = zB
theorem zeroB_cons {x y : ByteArray} {a b : List ByteArray} (h : zeroB a b) : zeroB (x :: a) (y :: b) := by
  obtain ⟨h1, h2⟩ := h
  refine ⟨by simp only [List.length_cons]; omega, ?_⟩
  rw [← h2]
  congr 1
  simp only [List.length_cons]
  rw [show min (a.length + 1) (b.length + 1) = min a.length b.length + 1 by omega]
  by_cases hl : a.length < b.length
  · rw [if_pos hl, if_pos (by omega)]
    rfl
  · rw [if_neg hl, if_neg (by omega)]
    rfl
theorem chain_coll : ∀ (A B : List ByteArray), A ≠ B → (hdR A).2 = (hdR B).2 → collB (hdR A).1 (hdR B).1 = true ∨ zeroB (hdR A).1 (hdR B).1
  | [], [], hab, _ => absurd rfl hab
  | [], y :: B, hab, h => by
    refine .inr ⟨by show 0 ≠ (chainS (hdR B).2 y :: (hdR B).1).length; rw [List.length_cons]; omega, ?_⟩
    have h' : zB = shaB (chainS (hdR B).2 y) := h
    rw [h']
    rfl
  | x :: A, [], hab, h => by
    refine .inr ⟨by show (chainS (hdR A).2 x :: (hdR A).1).length ≠ 0; rw [List.length_cons]; omega, ?_⟩
    have h' : shaB (chainS (hdR A).2 x) = zB := h
    rw [← h']
    rfl
  | x :: A, y :: B, hab, h => by
    have h' : shaB (chainS (hdR A).2 x) = shaB (chainS (hdR B).2 y) := h
    by_cases he : chainS (hdR A).2 x = chainS (hdR B).2 y
    · have hin := chainS_inj he ((hdR_32 A).trans (hdR_32 B).symm)
      have hab' : A ≠ B := fun e => hab (by rw [e, hin.2])
      rcases chain_coll A B hab' hin.1 with c | c
      · exact .inl (collB_tail c)
      · exact .inr (zeroB_cons c)
    · exact .inl (collB_hit he h')
theorem chainS_cat (a b : ByteArray) : (⟨#[2]⟩ : ByteArray) ++ a ++ b = chainS a b := by
  apply ByteArray.ext
  simp [chainS]
set_option maxHeartbeats 4000000 in
theorem same_any (w : World) (oa ob : Option Addr) (ca cb : Nat) (A B : List ByteArray) (hA : A.length ≤ 10000) (hB : B.length ≤ 10000) (hra : RdS w oa A) (hrb : RdS w ob B) :
    Calls Tryd.prog 16 #[.slice oa A.length ca, .slice ob B.length cb] w fun e w' => e = .returned (.bool (decide (A = B))) ∧ Below w.heap.size w w' := by
  have HA := Lib.hid hra
  have HB := Lib.hid hrb
  clear hra hrb
  by_cases hl : A.length = B.length
  · obtain ⟨n, hn⟩ : ∃ n, A.length = n := ⟨_, rfl⟩
    rw [← hl, hn]
    rw [hn] at hA
    have HN := Lib.hid hn
    have HM : Hid (B.length = n) := hl.symm.trans hn
    clear hl hn hB
    go_enter Tryd.func16, Tryd.ntmps16
    go_wp2_with fail
    go_loopw [5] (fun i wr => ∃ k : Nat, k ≤ n ∧ i = .int .i64 k ∧ Hid (A.take k = B.take k) ∧ Hid (Below w.heap.size w wr)) (fun i _ => n - (intOf i).toNat)
    case atStart => exact ⟨0, Nat.zero_le _, rfl, rfl, Below.refl _ _⟩
    case round =>
      obtain ⟨k, hk, rfl, HT, HW⟩ := hrel
      by_cases h : k = n
      · have HE : Hid (A = B) := by
          have := HT.out
          rw [List.take_of_length_le (by rw [HN.out]; omega), List.take_of_length_le (by rw [HM.out]; omega)] at this
          exact this
        have q1 : ¬ (k : Int) < (n : Int) := by omega
        clear h HT
        go_wp2_with fail
        go_ret
        exact ⟨by rw [decide_eq_true HE.out]; rfl, HW.out⟩
      · have h1 : k < A.length := by rw [HN.out]; omega
        have h2 : k < B.length := by rw [HM.out]; omega
        have q1 : (k : Int) < (n : Int) := by omega
        obtain ⟨x, hx⟩ : ∃ x, A[k]? = some x := ⟨_, List.getElem?_eq_getElem h1⟩
        obtain ⟨y, hy⟩ : ∃ y, B[k]? = some y := ⟨_, List.getElem?_eq_getElem h2⟩
        obtain ⟨b1, o1, rfl, hb1⟩ := HA.out.some (by omega)
        obtain ⟨b2, o2, rfl, hb2⟩ := HB.out.some (by omega)
        have c1 := (HW.out.cell (p := ⟨b1, o1 + k, none⟩) hb1.lt).trans (hb1.cell k x hx)
        have c2 := (HW.out.cell (p := ⟨b2, o2 + k, none⟩) hb2.lt).trans (hb2.cell k y hy)
        have HX := Lib.hid hx
        have HY := Lib.hid hy
        clear hb1 hb2 hx hy
        by_cases hxy : x = y
        · obtain rfl := hxy
          have HE : Hid (A.take (k + 1) = B.take (k + 1)) := by
            show _ = _
            rw [List.take_succ_eq_append_getElem h1, List.take_succ_eq_append_getElem h2, HT.out, (List.getElem?_eq_some_iff.1 HX.out).2, (List.getElem?_eq_some_iff.1 HY.out).2]
          clear h h1 h2 HT
          go_wp2_with fail
          go_quiet (fail)
          have HW2 : Hid (Below w.heap.size w (wr.drewN nq)) := drewN_below HW.out nq
          clear c1 c2
          go_wp2_with fail
          go_roundw
          case rel => exact ⟨k + 1, by omega, by go_num, HE, HW2⟩
          case measure => simp [intOf]; omega
        · have HE : Hid (¬ A = B) := fun e => hxy (by
            have a1 := HX.out
            have a2 := HY.out
            rw [e, a2] at a1
            exact (Option.some.inj a1).symm)
          have e1 : (x.toList == y.toList) = false := by rw [beq_dec]; exact decide_eq_false hxy
          have e2 : (x.toList != y.toList) = true := by rw [neq_dec]; exact decide_eq_true hxy
          clear h h1 h2 HT hxy
          go_wp2_with fail
          go_quiet (fail)
          have HW2 : Hid (Below w.heap.size w (wr.drewN nq)) := drewN_below HW.out nq
          clear c1 c2
          go_wp2_with fail
          go_ret
          exact ⟨by rw [decide_eq_false HE.out]; rfl, HW2.out⟩
  · have q1 : ((A.length : Int) != (B.length : Int)) = true := by rw [bne_iff_ne]; omega
    have HE : Hid (¬ A = B) := fun e => hl (by rw [e])
    clear hl
    go_enter Tryd.func16, Tryd.ntmps16
    go_wp2_with fail
    go_ret
    exact ⟨by rw [decide_eq_false HE.out]; rfl, Below.refl _ _⟩
theorem mk32 (w : World) : (Instr.makeSlice 44 (.int .i64 32) (.int .i64 32)).run Tryd.prog w = .ok (.slice (some ⟨w.heap.size, 0, none⟩) 32 32) (w.alloc (.cells #[.int .u8 0, .int .u8 0, .int .u8 0, .int .u8 0, .int .u8 0, .int .u8 0, .int .u8 0, .int .u8 0, .int .u8 0, .int .u8 0, .int .u8 0, .int .u8 0, .int .u8 0, .int .u8 0, .int .u8 0, .int .u8 0, .int .u8 0, .int .u8 0, .int .u8 0, .int .u8 0, .int .u8 0, .int .u8 0, .int .u8 0, .int .u8 0, .int .u8 0, .int .u8 0, .int .u8 0, .int .u8 0, .int .u8 0, .int .u8 0, .int .u8 0, .int .u8 0] 5)) := by kernel_rfl
def HdP (w : World) (L : List ByteArray) (e : Ending) (w' : World) : Prop := ∃ ob cb, e = .returned (.tuple #[.slice ob (hdR L.reverse).1.length cb, .string (hdR L.reverse).2]) ∧ RdS w' ob (hdR L.reverse).1 ∧ Below w.heap.size w w'
set_option maxHeartbeats 4000000 in
theorem heads_any (w : World) (oa : Option Addr) (ca : Nat) (L : List ByteArray) (hL : L.length ≤ 1000) (hz : SzB 60 L) (hr : RdS w oa L) (ht : TabAt w) :
    Calls Tryd.prog 29 #[.slice oa L.length ca] w (HdP w L) := by
  have hzb : Blk (w.alloc (.cells #[.int .u8 0, .int .u8 0, .int .u8 0, .int .u8 0, .int .u8 0, .int .u8 0, .int .u8 0, .int .u8 0, .int .u8 0, .int .u8 0, .int .u8 0, .int .u8 0, .int .u8 0, .int .u8 0, .int .u8 0, .int .u8 0, .int .u8 0, .int .u8 0, .int .u8 0, .int .u8 0, .int .u8 0, .int .u8 0, .int .u8 0, .int .u8 0, .int .u8 0, .int .u8 0, .int .u8 0, .int .u8 0, .int .u8 0, .int .u8 0, .int .u8 0, .int .u8 0] 5)) w.heap.size 5 (cellsB (List.replicate 32 0)) := Blk.new w 5 (cellsB (List.replicate 32 0))
  have hcv := conv_row hzb 32 32 (by simp)
  rw [show (⟨(List.replicate 32 0).toArray⟩ : ByteArray) = zB from rfl] at hcv
  have H0 : Hid (LW w oa L (w.alloc (.cells #[.int .u8 0, .int .u8 0, .int .u8 0, .int .u8 0, .int .u8 0, .int .u8 0, .int .u8 0, .int .u8 0, .int .u8 0, .int .u8 0, .int .u8 0, .int .u8 0, .int .u8 0, .int .u8 0, .int .u8 0, .int .u8 0, .int .u8 0, .int .u8 0, .int .u8 0, .int .u8 0, .int .u8 0, .int .u8 0, .int .u8 0, .int .u8 0, .int .u8 0, .int .u8 0, .int .u8 0, .int .u8 0, .int .u8 0, .int .u8 0, .int .u8 0, .int .u8 0] 5))) := ⟨hr.kept ((Below.refl _ _).alloc (Nat.le_refl _) _), ht.below ((Below.refl _ _).alloc (Nat.le_refl _) _), (Below.refl _ _).alloc (Nat.le_refl _) _⟩
  have HZ := Lib.hid hz
  clear hz hr ht hzb
  go_enter Tryd.func29, Tryd.ntmps29
  have hmk := mk32 w
  go_wp2_with fail
  clear hcv hmk
  have H1 : Hid (LW w oa L _) := H0
  generalize w.alloc (.cells #[.int .u8 0, .int .u8 0, .int .u8 0, .int .u8 0, .int .u8 0, .int .u8 0, .int .u8 0, .int .u8 0, .int .u8 0, .int .u8 0, .int .u8 0, .int .u8 0, .int .u8 0, .int .u8 0, .int .u8 0, .int .u8 0, .int .u8 0, .int .u8 0, .int .u8 0, .int .u8 0, .int .u8 0, .int .u8 0, .int .u8 0, .int .u8 0, .int .u8 0, .int .u8 0, .int .u8 0, .int .u8 0, .int .u8 0, .int .u8 0, .int .u8 0, .int .u8 0] 5) = w1 at H0 H1 ⊢
  clear H1
  go_loopw [4, 5, 6] (fun h v i wr => ∃ (k : Nat) (H : ByteArray) (Y : List ByteArray) (ob : Option Addr) (cb : Nat), k ≤ L.length ∧ i = .int .i64 k ∧ h = .string H ∧ v = .slice ob Y.length cb ∧ H.size ≤ 32 ∧ Y.length ≤ k ∧ Hid (hdR (L.take k).reverse = (Y, H)) ∧ Hid (RdS wr ob Y) ∧ Hid (LW w oa L wr)) (fun _ _ i _ => L.length - (intOf i).toNat)
  case atStart => exact ⟨0, zB, [], none, 0, Nat.zero_le _, rfl, rfl, rfl, by rw [zB_size]; decide, Nat.le_refl _, rfl, .inl rfl, H0⟩
  case round =>
    clear H0
    obtain ⟨k, H, Y, ob, cb, hk, rfl, rfl, rfl, hH, hY, HH, HR, HL⟩ := hrel
    by_cases h : k = L.length
    · have HE : Hid (hdR L.reverse = (Y, H)) := by
        have := HH.out
        rw [h, List.take_length] at this
        exact this
      have q1 : ¬ (k : Int) < (L.length : Int) := by omega
      clear h HH
      go_wp2_with fail
      go_ret2
      exact ⟨_, _, by rw [HE.out]; rfl, by rw [HE.out]; exact HR.out, HL.out.bel⟩
    · have h1 : k < L.length := by omega
      have q1 : (k : Int) < (L.length : Int) := by omega
      obtain ⟨x, hx⟩ : ∃ x, L[k]? = some x := ⟨_, List.getElem?_eq_getElem h1⟩
      obtain ⟨b, o, rfl, hb⟩ := HL.out.rd.some (by omega)
      have cx := hb.cell k x hx
      have hxz := HZ.out x (List.mem_of_getElem? hx)
      have hsn := hdR_snoc L k x hx
      rw [HH.out] at hsn
      dsimp only at hsn
      have hcat := chainS_cat H x
      have hcz := chainS_size H x
      obtain ⟨T, hT⟩ : ∃ T, chainS H x = T := ⟨_, rfl⟩
      rw [hT] at hsn hcat hcz
      obtain ⟨G, hG⟩ : ∃ G, chainB H x = G := ⟨_, rfl⟩
      have hGz : G.size ≤ 32 := by rw [← hG]; exact Nat.le_of_eq (shaB_size _)
      rw [hG] at hsn
      have HSN := Lib.hid hsn
      have HG := Lib.hid hG
      obtain ⟨oc, cc, w3, hrun, hown, hfr⟩ := app_list (wr.alloc (.cells #[.string T] 9)) wr.heap.size (.slice (some ⟨wr.heap.size, 0, none⟩) 1 1) [T] Y ob cb (own_new wr [T] (by simp)) (HR.out.kept ((Below.refl _ wr).alloc (Nat.le_refl _) _)) (fun _ _ => trivial) (by simp) (by omega) 22
      have hbw : Below wr.heap.size wr w3 := ((Below.refl _ wr).alloc (Nat.le_refl _) (.cells #[.string T] 9)).trans (hfr.below wr.heap.size (by simp) (fun k hk => hk))
      have HL3 := Lib.hid (HL.out.next hbw)
      have HR3 := Lib.hid (own_rds hown.1).2.2.2
      have cx3 := (hbw.cell (p := ⟨b, o + k, none⟩) hb.lt).trans cx
      have e1 : ([T] ++ Y).length = Y.length + 1 := by simp
      rw [e1] at hrun
      clear hown hfr e1 hT hG hsn hb hx hbw HH HR HL
      go_wp2_with (at_builtin; refine wpList_append_run _ rfl _ _ 22 rfl _ _ _ _ rfl rfl hrun ?_)
      clear hrun cx
      refine (chain_any H x w3 (by omega) (by omega) HL3.out.tab).mono ?_
      rw [HG.out]
      rintro e w4 ⟨rfl, hb4⟩
      have HL4 := Lib.hid (HL3.out.next hb4)
      have HR4 := Lib.hid (HR3.out.kept hb4)
      clear hb4 cx3
      go_wp2_with fail
      go_roundw
      case rel => exact ⟨k + 1, G, T :: Y, oc, cc, by omega, by go_num, rfl, rfl, hGz, by simp only [List.length_cons]; omega, HSN, HR4, HL4⟩
      case measure => simp [intOf]; omega
end Go.Proofs.YtggnldljfjhhcaaDoor
