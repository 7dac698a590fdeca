/-
  Orders: a receiver's Orders: a copy of its own.
-/
import Derived.Test.YtjkiidhnmljmbaaDoorOrF
import Derived.Test.YtjkiidhnmljmbaaDoorOrG
set_option linter.unusedVariables false
set_option linter.unusedSimpArgs false
namespace Go.Proofs.YtjkiidhnmljmbaaDoor
open Go.RowKit
theorem oCells_snoc (l : List Od) (i : Nat) (q : Od) (hq : l[i]? = some q) : oCells (l.take i) ++ q.A.toList = oCells (l.take (i + 1)) := by
  have : l.take (i + 1) = l.take i ++ [q] := by rw [List.take_add_one, hq]; rfl
  rw [this]
  simp [oCells]
set_option maxHeartbeats 8000000 in
set_option maxRecDepth 100000 in
theorem orders_any (W : World) (br n c : Nat) (v0 v3 : Value) (oa : Option Addr) (l : List Od) (hblk : Blk W br 100 [v0, .bool true, .slice oa n c, v3]) (hn : l.length = n) (hnm : n ≤ 1000) (hr : RdO W oa l) :
    Calls Tryd.prog 23 #[.pointer (some ⟨br, 0, none⟩)] W fun e w' => ∃ ob cb, e = .returned (.slice ob n cb) ∧ w'.ownsRow W.heap.size 30 26 (.slice ob n cb) n (oCells l) ∧ Below W.heap.size W w' := by
  have HR := Lib.hid hr
  have HN := Lib.hid hn
  have HSZ := Lib.hid (show (Tryd.prog.info? 30).map (·.size) = some 26 from by kernel_rfl)
  have HLV := Lib.hid (rlives_any br v0 (.slice oa n c) v3 W hblk)
  have HBK := Lib.hid hblk
  obtain ⟨i0, hi, hz0, hz1, hz2⟩ := info_parts Tryd.infoOrd
  have HI := Lib.hid hi
  have HI0 := Lib.hid hz0
  have HI1 := Lib.hid hz1
  have HI2 := Lib.hid hz2
  have b2 := hblk.cell 2
  simp only [List.getElem?_cons_zero, List.getElem?_cons_succ] at b2
  clear hr hn hi hz0 hz1 hz2 hblk
  go_enter Tryd.func23, Tryd.ntmps23
  go_wp2_with fail
  refine HLV.out.mono ?_
  rintro e w' ⟨rfl, rfl⟩
  go_wp2_with (refine wpList_make_own _ rfl _ _ 45 rfl W.heap.size 30 i0 (.agg #[.int .i64 0, .int .i64 0, .int .i64 0, .int .i64 0, .int .i64 0, .int .i64 0, .int .i64 0, .int .i64 0, .int .i64 0, .int .i64 0, .int .i64 0, .int .i64 0, .slice none 0 0, .int .i64 0, .int .i64 0, .int .i64 0, .int .i64 0, .int .i64 0, .int .i64 0, .int .i64 0, .int .i64 0, .int .i64 0, .int .i64 0, .int .i64 0, .int .i64 0, .string ⟨#[]⟩]) 26 Tryd.underlying45 HI.out HI0.out HI1.out .i64 .i64 n n rfl rfl rfl ?c1 ?c2 ?c3 ?_)
  case c1 => rw [HI2.out]; omega
  case c2 => unfold maxLen; omega
  case c3 => exact Nat.le_refl _
  intro w2 hown hgrow
  have hb2 : Below W.heap.size W w2 := (Below.refl _ W).grown hgrow (Nat.le_refl _) (fun k e => by cases e)
  have d2 := (HBK.out.kept (hb2.block br HBK.out.lt)).cell 2
  simp only [List.getElem?_cons_zero, List.getElem?_cons_succ] at d2
  have HO2 := Lib.hid hown
  have HB2 := Lib.hid hb2
  clear hown hgrow hb2 b2
  go_wp2_with fail
  clear d2
  go_loopw [3, 20] (fun vl vi wr => ∃ (i cb : Nat) (ob : Option Addr), i ≤ n ∧ vi = .int .i64 i ∧ vl = .slice ob i cb ∧ Hid (wr.ownsRow W.heap.size 30 26 (.slice ob i cb) i (oCells (l.take i))) ∧ Hid (Below W.heap.size W wr)) (fun _ v _ => n - (intOf v).toNat)
  case atStart => exact ⟨0, n, _, Nat.zero_le _, rfl, rfl, HO2, HB2⟩
  case round =>
    clear HO2 HB2
    obtain ⟨i, cb, ob, hin, rfl, rfl, HO, HB⟩ := hrel
    by_cases h : i < n
    · have q1 : (i : Int) < (n : Int) := by omega
      have q2 : (0 : Int) ≤ (i : Int) := by omega
      obtain ⟨q, hq⟩ : ∃ q, l[i]? = some q := ⟨l[i]'(by rw [HN.out]; exact h), List.getElem?_eq_getElem _⟩
      obtain ⟨b, o, rfl, hlt, hrg⟩ := (HR.out.kept HB.out).at i q hq
      have hsn := oCells_snoc l i q hq
      obtain ⟨qs, qc, qf, qk, qe⟩ := q
      obtain ⟨M, hM⟩ : ∃ M, wr.heap.size = M := ⟨_, rfl⟩
      obtain ⟨w1, hw1⟩ : ∃ w1, wr.alloc (.cells (ordA 0 0 0 0 0) 30) = w1 := ⟨_, rfl⟩
      have hk1 : Blk w1 M 30 (ordA 0 0 0 0 0).toList := by rw [← hw1, ← hM]; exact Blk.new wr _ _
      obtain ⟨w3, hw3⟩ : ∃ w3, w1.setRow M (ordA qs qc qf qk qe) = w3 := ⟨_, rfl⟩
      have hk3 : Blk w3 M 30 (ordA qs qc qf qk qe).toList := by rw [← hw3]; exact hk1.setRow _
      have hb13 : Below M wr w3 := by
        rw [← hw3, ← hw1, ← hM]
        exact below_setRow ((Below.refl _ wr).alloc (Nat.le_refl _) _) (Nat.le_refl _) _
      have HO1 : Hid ((ordA qs qc qf qk qe).all (·.oneCell') = true) := (by first | rfl | (unfold ordA; simp [Value.oneCell']) : (ordA qs qc qf qk qe).all (·.oneCell') = true)
      have HOZ : Hid ((ordA 0 0 0 0 0).toList.toArray.size = (ordA qs qc qf qk qe).size) := rfl
      have HRG : Hid (wr.rangeAt b (o + i * 26) (ordA qs qc qf qk qe).toList) := hrg
      have HK1 := Lib.hid hk1
      have HW3 := Lib.hid hw3
      have HR3 := Lib.hid hk3.range
      have hMW : W.heap.size ≤ M := by rw [← hM]; exact HB.out.size
      have HB3 : Hid (Below W.heap.size W w3) := HB.out.trans (hb13.mono hMW)
      have HO3 : Hid (w3.ownsRow W.heap.size 30 26 (.slice ob i cb) i (oCells (l.take i))) := ownsRow_keptF HO.out (fun k e => hb13.block k (by rw [← hM]; exact own_lt HO.out k e))
      have HSNN := Lib.hid hsn
      dsimp only [ordA] at hw1
      clear hq hlt hrg hk1 hk3 hw3 hb13 hsn HO HB
      go_wp2_with (first | (refine wpList_load_mid rfl 30 (.tmp 22) rfl b (o + i * 26) rfl (ordA qs qc qf qk qe).toList _ HRG.out Tryd.underlying30 rfl HSZ.out ?_) | (refine wpList_store_row rfl 30 (.tmp 5) (.tmp 23) rfl M (ordA qs qc qf qk qe) rfl rfl 30 _ HK1.out HSZ.out HOZ.out HO1.out ?_; rw [HW3.out]) | (refine wpList_load_mid rfl 30 (.tmp 5) rfl M 0 rfl (ordA qs qc qf qk qe).toList _ HR3.out Tryd.underlying30 rfl HSZ.out ?_))
      refine (own_any qs qc qf qk qe _).mono ?_
      rintro e w4 ⟨rfl, hb4⟩
      have ho4 := ownsRow_keptF HO3.out (fun k e => hb4.block k (own_lt HO3.out k e))
      have HB4 : Hid (Below W.heap.size W w4) := HB3.out.trans (hb4.mono HB3.out.size)
      obtain ⟨oc, cc, w5, hrun, ho5, hf5, hk5⟩ := app_ord w4 W.heap.size (.slice ob i cb) i (oCells (l.take i)) [.int .i64 qs, .int .i64 qc, .int .i64 qf, .int .i64 qk, .int .i64 qe, .int .i64 0, .int .i64 0, .int .i64 0, .int .i64 0, .int .i64 0, .int .i64 0, .int .i64 0, .slice none 0 0, .int .i64 0, .int .i64 0, .int .i64 0, .int .i64 0, .int .i64 0, .int .i64 0, .int .i64 0, .int .i64 0, .int .i64 0, .int .i64 0, .int .i64 0, .int .i64 0, .string ⟨#[]⟩] ho4 (by omega) HB4.out.size 45 rfl (by simp [Value.oneCell'])
      have hb5 : Below W.heap.size W w5 := HB4.out.trans (hf5.below _ HB4.out.size (fun k e => own_ge ho4 k e))
      have HO5 : Hid (w5.ownsRow W.heap.size 30 26 (.slice oc (i + 1) cc) (i + 1) (oCells (l.take (i + 1)))) := by rw [← HSNN.out]; exact ho5
      have HB5 := Lib.hid hb5
      dsimp only [ordA]
      clear ho4 ho5 hf5 hk5 hb4 hb5
      go_wp2_with (at_builtin; refine wpList_append_run _ rfl _ _ 45 rfl _ _ _ _ rfl rfl hrun ?_)
      clear hrun
      go_wp2_with fail
      go_roundw
      case rel => exact ⟨i + 1, cc, oc, by omega, by go_num, rfl, HO5, HB5⟩
      case measure => simp [intOf]; omega
    · have q1 : ¬ (i : Int) < (n : Int) := by omega
      have e : i = n := by omega
      subst e
      have ht : l.take i = l := List.take_of_length_le (by rw [HN.out]; omega)
      rw [ht] at HO
      clear h ht
      go_wp2_with fail
      go_ret
      exact ⟨_, _, rfl, HO.out, HB.out⟩
end Go.Proofs.YtjkiidhnmljmbaaDoor
