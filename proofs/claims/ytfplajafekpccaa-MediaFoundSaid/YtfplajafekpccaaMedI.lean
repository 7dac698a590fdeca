/-
  The walk of onairlaw12.short.
-/
import Derived.WalkKit
import Derived.LoopTactic
import Derived.WalkSpells
import Derived.WalkLawsBesides
import Derived.RegionTactic
import Derived.BigRegion
import Derived.Deep.QuietTactic
import Derived.BigQuiet
import Derived.IntWalk
import Derived.Outline
import Derived.Test.YtfplajafekpccaaMedH
set_option linter.unusedVariables false
set_option linter.unusedSimpArgs false
namespace Go.Proofs.Ytfplajafekpccaa
open Go.RowKit Onair
theorem own_weak {W : World} {B B' : Nat} {e : TypeId} {size : Nat} {v : Value} {n : Nat} {xs : List Value} (h : W.ownsRow B e size v n xs) (hb : B' ≤ B) : W.ownsRow B' e size v n xs := by
  refine ⟨h.1, ?_⟩
  rcases h.2 with h2 | ⟨g, cap, cur, q1, q2, q3⟩
  · exact .inl h2
  · exact .inr ⟨g, cap, cur, q1, Nat.le_trans hb q2, q3⟩
set_option maxHeartbeats 4000000 in
set_option maxRecDepth 100000 in
theorem short_any (W : World) (i : Int) (oa : Option Addr) (cap : Nat) (l : List Pic) (hl : l.length ≤ maxLen) (hok : ∀ p ∈ l, POk p) (hr : RdP W oa l) :
    Calls Try.prog 12 #[.agg #[.int .i64 i, .slice oa l.length cap]] W fun e w' => ∃ oa' cap', e = .returned (.agg #[.int .i64 i, .slice oa' (cutP l).length cap']) ∧ w'.ownsRow W.heap.size 42 3 (.slice oa' (cutP l).length cap') (cutP l).length (pcells (cutP l)) ∧ Below W.heap.size W w' := by
  unfold maxLen at hl
  obtain ⟨r, hr0⟩ : ∃ r, W.heap.size = r := ⟨_, rfl⟩
  obtain ⟨n, hn⟩ : ∃ n, l.length = n := ⟨_, rfl⟩
  have HN := Lib.hid hn
  have hb0 : Below W.heap.size W ((W.alloc (.cells #[.int .i64 i, .slice oa l.length cap] 24)).alloc (.cells #[.int .i64 0, .slice none 0 0] 24)) := ((Below.refl _ W).alloc (Nat.le_refl _) _).alloc (by simp) _
  have hk0 := (Blk.new W 24 [.int .i64 i, .slice oa l.length cap]).alloc (.cells #[.int .i64 0, .slice none 0 0] 24)
  have hk1 := Blk.new (W.alloc (.cells #[.int .i64 i, .slice oa l.length cap] 24)) 24 [.int .i64 0, .slice none 0 0]
  rw [World.size_alloc] at hk1
  have hsz : ((W.alloc (.cells #[.int .i64 i, .slice oa l.length cap] 24)).alloc (.cells #[.int .i64 0, .slice none 0 0] 24)).heap.size = W.heap.size + 2 := by simp
  have hrd := hr.kept hb0
  rw [hn, hr0] at hk0 hk1
  rw [hn] at hb0 hsz hl hrd ⊢
  rw [hr0] at hsz hb0
  obtain ⟨w0, hw0⟩ : ∃ w0, (W.alloc (.cells #[.int .i64 i, .slice oa n cap] 24)).alloc (.cells #[.int .i64 0, .slice none 0 0] 24) = w0 := ⟨_, rfl⟩
  rw [hw0] at hb0 hrd hsz
  have hk0' : Blk w0 r 24 [.int .i64 i, .slice oa n cap] := hw0 ▸ hk0
  have hk1' : Blk w0 (r + 1) 24 [.int .i64 0, .slice none 0 0] := hw0 ▸ hk1
  have HW0 := Lib.hid hw0
  have HB0 := Lib.hid hb0
  have HK0 := Lib.hid hk0'
  have HK1 := Lib.hid hk1'
  have HR := Lib.hid hrd
  have HSZ := Lib.hid hsz
  have HR0 := Lib.hid hr0
  have HOK := Lib.hid hok
  clear hr hrd hb0 hk0 hk1 hk0' hk1' hsz hr0 hn hw0 hok
  go_enter Try.func12, Try.ntmps12
  go_wp2_with fail
  rw [HW0.out, HR0.out]
  go_loopw [3, 4] (fun v x wr => ∃ (k : Nat) (L : List Pic), k ≤ n ∧ k ≤ 2010 ∧ x = .int .i64 k ∧ Hid (cutP (l.take k) = L) ∧ Hid (LP w0 wr v L)) (fun _ x _ => n - (intOf x).toNat)
  case atStart => exact ⟨0, [], Nat.zero_le _, Nat.zero_le _, rfl, rfl, ⟨World.ownsRow_nil _ _ _ _, Below.refl _ _⟩⟩
  case round =>
    obtain ⟨k, L, hk, hk2, rfl, HL, HO⟩ := hrel
    obtain ⟨oL, cL, rfl⟩ := own_slice HO.out.own
    have hb0 := HK0.out.kept (HO.out.bel.block _ HK0.out.lt)
    have c0 := hb0.cell 0
    have c1 := hb0.cell 1
    simp only [List.getElem?_cons_zero, List.getElem?_cons_succ] at c0 c1
    clear hb0
    by_cases hend : k = n ∨ k = 2010
    · have HE : Hid (cutP l = L) := by
        show _ = _
        rw [← HL.out, cutP_all l k (by rw [HN.out]; exact hend) (by rw [HN.out]; exact hk)]
      have hb1 := HK1.out.kept (HO.out.bel.block _ HK1.out.lt)
      have d0 := hb1.cell 0
      have f0 := hb1.frozen 0
      have d1 := (hb1.set 0 (.int .i64 i)).cell 1
      have f1 := (hb1.set 0 (.int .i64 i)).frozen 1
      have hb2 := (hb1.set 0 (.int .i64 i)).set 1 (.slice oL L.length cL)
      have e0 := hb2.cell 0
      have e1 := hb2.cell 1
      simp only [List.getElem?_cons_zero, List.getElem?_cons_succ, List.set_cons_zero, List.set_cons_succ] at d0 d1 e0 e1
      have HRD : Hid (((wr.setCell ⟨r + 1, 0, none⟩ (.int .i64 i)).setCell ⟨r + 1, 1, none⟩ (.slice oL L.length cL)).ownsRow W.heap.size 42 3 (.slice oL L.length cL) L.length (pcells L)) := by
        refine own_weak (B := w0.heap.size) (ownsRow_kept' HO.out.own (fun g hg => ?_)) (by rw [HSZ.out, HR0.out]; omega)
        have := own_ge HO.out.own g hg
        have := HSZ.out
        rw [Below.heap_setCell _ _ _ _ (by show g ≠ r + 1; omega), Below.heap_setCell _ _ _ _ (by show g ≠ r + 1; omega)]
      have HBB : Hid (Below W.heap.size W ((wr.setCell ⟨r + 1, 0, none⟩ (.int .i64 i)).setCell ⟨r + 1, 1, none⟩ (.slice oL L.length cL))) := by
        show Below _ _ _
        rw [HR0.out]
        exact ((HB0.out.trans (HO.out.bel.mono (by rw [HSZ.out]; omega))).setCell (p := ⟨r + 1, 0, none⟩) (Nat.le_succ _) _).setCell (p := ⟨r + 1, 1, none⟩) (Nat.le_succ _) _
      have q0 : ¬ ((k : Int) < n ∧ (k : Int) < 2010) := by omega
      clear hb1 hb2
      by_cases q1 : (k : Int) < n
      · have q2 : ¬ (k : Int) < 2010 := fun h => q0 ⟨q1, h⟩
        clear q0 hend
        go_wp2_with fail
        refine bodyPost_ret (v := .agg #[.int .i64 i, .slice oL L.length cL]) (by simp [results, Try.results12, go_sem, e0, e1]) rfl ?_
        rw [HE.out]
        exact ⟨oL, cL, rfl, HRD.out, HBB.out⟩
      · clear q0 hend
        go_wp2_with fail
        refine bodyPost_ret (v := .agg #[.int .i64 i, .slice oL L.length cL]) (by simp [results, Try.results12, go_sem, e0, e1]) rfl ?_
        rw [HE.out]
        exact ⟨oL, cL, rfl, HRD.out, HBB.out⟩
    · have q1 : (k : Int) < n := by omega
      have q2 : (k : Int) < 2010 := by omega
      have hk3 : k < l.length := by rw [HN.out]; omega
      obtain ⟨g, off, e', d0, d1, d2⟩ := (HR.out.kept HO.out.bel).at k _ (List.getElem?_eq_getElem hk3)
      subst e'
      have hxo := HOK.out _ (List.getElem_mem hk3)
      have HTK : Hid (cutP (l.take (k + 1)) = L ++ [cutPic l[k]]) := by
        show _ = _
        rw [cutP_take l k hk3 (by omega), HL.out]
      obtain ⟨x, hx⟩ : ∃ x, l[k] = x := ⟨_, rfl⟩
      rw [hx] at d0 d1 d2 hxo HTK
      clear hx hend hk3
      have hsz := hxo.sz
      unfold maxLen at hsz
      clear hxo
      obtain ⟨m, T, h1, h2, h3, h4⟩ : ∃ (m : Nat) (T : ByteArray), m ≤ x.data.size ∧ m ≤ 410 ∧ (if (410 : Int) < (x.data.size : Int) then (410 : Int) else (x.data.size : Int)) = (m : Int) ∧ x.data.extract 0 m = T := ⟨min 410 x.data.size, _, by omega, by omega, by split <;> omega, rfl⟩
      have h3' : min (x.data.size : Int) 410 = (m : Int) := by split at h3 <;> omega
      have HX : Hid (cutPic x = { x with data := T }) := by
        show _ = _
        unfold cutPic
        rw [← h4, show min 410 x.data.size = m by split at h3 <;> omega]
      have hLl : L.length ≤ 1000000 := by
        rw [← HL.out]
        have := cutP_len (l.take k)
        omega
      have HOX := Lib.hid (HO.out.alloc (.cells #[.bool x.key, .string T, .int .i64 x.power] 42))
      obtain ⟨oM, cM, w2, hrun, ho2, hf2, -⟩ := app_pic _ w0.heap.size _ L { x with data := T } HOX.out.own hLl HOX.out.bel.size 22
      have HO2 : Hid (LP w0 w2 (.slice oM (L.length + 1) cM) (L ++ [cutPic x])) := by
        have := HOX.out.app (l' := L ++ [cutPic x]) (by rw [List.length_append, HX.out]; exact ho2) hf2
        exact this
      dsimp only at hrun
      rw [show (wr.alloc (.cells #[.bool x.key, .string T, .int .i64 x.power] 42)).heap.size = wr.heap.size + 1 from by simp] at hrun
      clear ho2 hf2
      go_wp2_with (at_builtin; refine wpList_append_run _ rfl _ _ 22 rfl _ _ _ _ rfl rfl hrun ?_)
      go_roundw
      case rel => exact ⟨k + 1, _, by omega, by omega, by go_num, HTK, HO2⟩
      case measure => simp [intOf]; omega
end Go.Proofs.Ytfplajafekpccaa
