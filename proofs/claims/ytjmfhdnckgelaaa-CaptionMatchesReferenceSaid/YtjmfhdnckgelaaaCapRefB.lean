/-
  The walks of the reference: words.
-/
import Derived.WalkKit
import Derived.LoopTactic
import Derived.WalkSpells
import Derived.WalkLawsBesides
import Derived.RegionTactic
import Derived.BigRegion
import Derived.Deep.QuietTactic
import Derived.Deep.RegionHeld3
import Derived.BigQuiet
import Derived.IntWalk
import Derived.Outline
import Derived.Test.YtjmfhdnckgelaaaCapHelp
set_option linter.unusedVariables false
set_option linter.unusedSimpArgs false
namespace Go.Proofs.Ytjmfhdnckgelaaa
open Go.RowKit
theorem byte_at (s : ByteArray) (k : Nat) (h : k < s.size) : (s.extract k (k + 1)).data.toList = [s[k]] := by
  have h' : k < s.data.toList.length := by rw [dlen]; exact h
  rw [ByteArray.data_extract, Array.toList_extract, List.extract_eq_take_drop, Nat.add_sub_cancel_left, List.drop_eq_getElem_cons h', List.take_succ_cons, List.take_zero]
  rfl
theorem data_mk (V : ByteArray) (l : List UInt8) (h : V.data.toList = l) : V = ⟨l.toArray⟩ := by
  apply ByteArray.ext
  apply Array.ext'
  exact h
theorem wscan_letter2 (s : ByteArray) (k : Nat) (hk : k < s.size) (hc : ¬ s[k] = 32) : wscan (s.data.toList.take (k + 1)) = ((wscan (s.data.toList.take k)).1, (wscan (s.data.toList.take k)).2 ++ [s[k]]) := by
  have e := wscan_letter (s.data.toList.take k) s[k] hc
  rwa [← take_snoc s k hk] at e
theorem wscan_space2 (s : ByteArray) (k : Nat) (hk : k < s.size) (hc : s[k] = 32) : wscan (s.data.toList.take (k + 1)) = (wfin (wscan (s.data.toList.take k)), []) := by
  have e := wscan_space (s.data.toList.take k) s[k] hc
  rwa [← take_snoc s k hk] at e
set_option maxHeartbeats 2000000 in
set_option maxRecDepth 100000 in
theorem refWords_any (w : World) (s : ByteArray) (hs : s.size ≤ 1000) :
    Calls Try.prog 29 #[.string s] w fun e w' => ∃ oa' cap', e = .returned (.slice oa' (wordsL s.data.toList).length cap') ∧ w'.ownsRow w.heap.size 9 1 (.slice oa' (wordsL s.data.toList).length cap') (wordsL s.data.toList).length (scells (wordsL s.data.toList)) ∧ Below w.heap.size w w' := by
  go_enter Try.func29, Try.ntmps29
  go_wp2_with fail
  go_loopw [3, 4, 5] (fun v t i wr => ∃ (k : Nat) (L : List (List UInt8)) (V : ByteArray), k ≤ s.size ∧ i = .int .i64 k ∧ t = .string V ∧ Hid (wscan (s.data.toList.take k) = (L, V.data.toList)) ∧ Hid (LS w wr v L)) (fun _ _ i _ => s.size - (intOf i).toNat)
  case atStart => exact ⟨0, [], _, Nat.zero_le _, rfl, rfl, by show _ = _; simp [wscan], ⟨World.ownsRow_nil _ _ _ _, Below.refl _ _⟩⟩
  case round =>
    obtain ⟨k, L, V, hk, rfl, rfl, HL, HO⟩ := hrel
    have hLl : L.length ≤ 1000 := by
      have h1 := wscan_count (s.data.toList.take k)
      have h2 : (s.data.toList.take k).length ≤ k := List.length_take_le _ _
      rw [HL.out] at h1
      simp only at h1
      omega
    have hVl : V.size ≤ 1000 := by
      have h1 := (wordsL_len (s.data.toList.take k)).2
      have h2 : (s.data.toList.take k).length ≤ k := List.length_take_le _ _
      rw [HL.out, dlen] at h1
      omega
    obtain ⟨oL, cL, rfl⟩ := own_slice HO.out.own
    have hVe := str_empty V
    have HVD : Hid (V = ⟨#[]⟩ ↔ V.data.toList = []) := by
      constructor
      · intro h; rw [h]
      · intro h; exact data_mk V [] h
    by_cases hks : k = s.size
    · have hk' : ¬ (k : Int) < s.size := by omega
      have HW : Hid (wordsL s.data.toList = wfin (L, V.data.toList)) := by
        show _ = _
        have := HL.out
        rw [hks, take_all] at this
        unfold wordsL
        rw [this]
      clear hks HL
      by_cases hV : V = ⟨#[]⟩
      · have HW2 : Hid (wordsL s.data.toList = L) := by
          show _ = _
          rw [HW.out, wfin_nil (HVD.out.1 hV)]
        have e1 := hVe.2 hV
        have e2 : (V.toList == ([] : List UInt8)) = true := by rw [e1]; rfl
        clear hV hVe
        go_wp2_with fail
        go_ret
        rw [HW2.out]
        exact ⟨_, _, rfl, HO.out.own, HO.out.bel⟩
      · have HW2 : Hid (wordsL s.data.toList = L ++ [V.data.toList]) := by
          show _ = _
          rw [HW.out, wfin_cons (fun e => hV (HVD.out.2 e))]
        have e1 : ¬ V.toList = [] := fun e => hV (hVe.1 e)
        have e2 : (V.toList == ([] : List UInt8)) = false := by rw [beq_eq_false_iff_ne]; exact e1
        have e3 : V.toList.isEmpty = false := by rw [List.isEmpty_eq_false_iff]; exact e1
        obtain ⟨v', w2, hrun, ho2, hf2, hk2⟩ := app_str wr w.heap.size _ L.length _ V HO.out.own (by omega) HO.out.bel.size 27
        have HO2 := Lib.hid (HO.out.app (x := V.data.toList) (by rw [← data_mk V _ rfl]; exact ho2) hf2)
        obtain ⟨oM, cM, rfl⟩ := own_slice ho2
        clear hV hVe ho2 hf2 hk2
        go_wp2_with (at_builtin; refine wpList_append_run _ rfl _ _ 27 rfl _ _ _ _ rfl rfl hrun ?_)
        go_ret
        rw [HW2.out]
        exact ⟨_, _, by rw [List.length_append]; rfl, by have := HO2.out.own; rw [List.length_append] at this ⊢; exact this, HO2.out.bel⟩
    · have hk' : (k : Int) < s.size := by omega
      have hk2 : k < s.size := by omega
      have hb := byte_ne (s[k]'hk2)
      clear hks
      by_cases hsp : s[k]'hk2 = 32
      · rw [decide_eq_true hsp] at hb
        have hws := wscan_space2 s k hk2 hsp
        rw [HL.out] at hws
        clear hsp HL
        by_cases hV : V = ⟨#[]⟩
        · rw [wfin_nil (HVD.out.1 hV)] at hws
          have HW := Lib.hid hws
          have e1 := hVe.2 hV
          have e2 : (V.toList == ([] : List UInt8)) = true := by rw [e1]; rfl
          clear hV hVe hws
          go_wp2_with fail
          go_roundw
          case rel => exact ⟨k + 1, L, _, by omega, by go_num, rfl, HW, HO⟩
          case measure => simp [intOf]; omega
        · rw [wfin_cons (fun e => hV (HVD.out.2 e))] at hws
          have HW := Lib.hid hws
          have e1 : ¬ V.toList = [] := fun e => hV (hVe.1 e)
          have e2 : (V.toList == ([] : List UInt8)) = false := by rw [beq_eq_false_iff_ne]; exact e1
          have e3 : V.toList.isEmpty = false := by rw [List.isEmpty_eq_false_iff]; exact e1
          obtain ⟨v', w2, hrun, ho2, hf2, hk2'⟩ := app_str wr w.heap.size _ L.length _ V HO.out.own (by omega) HO.out.bel.size 27
          have HO2 := Lib.hid (HO.out.app (x := V.data.toList) (by rw [← data_mk V _ rfl]; exact ho2) hf2)
          obtain ⟨oM, cM, rfl⟩ := own_slice ho2
          clear hV hVe ho2 hf2 hk2' hws
          go_wp2_with (at_builtin; refine wpList_append_run _ rfl _ _ 27 rfl _ _ _ _ rfl rfl hrun ?_)
          go_roundw
          case rel => exact ⟨k + 1, _, _, by omega, by go_num, rfl, HW, HO2⟩
          case measure => simp [intOf]; omega
      · rw [decide_eq_false hsp] at hb
        have hws := wscan_letter2 s k hk2 hsp
        rw [HL.out] at hws
        obtain ⟨U, hU⟩ : ∃ U, s.extract k (k + 1) = U := ⟨_, rfl⟩
        have HW : Hid (wscan (s.data.toList.take (k + 1)) = (L, (V ++ U).data.toList)) := by
          show _ = _
          rw [hws, ← hU, ByteArray.data_append, Array.toList_append, byte_at s k hk2]
        have hUs : U.size ≤ 1 := by rw [← hU, ByteArray.size_extract]; omega
        clear hsp hws HL hVe
        have hkk : (k : Int) + 1 ≤ s.size := by omega
        go_wp2_with fail
        go_roundw
        case rel => exact ⟨k + 1, L, _, by omega, by go_num, rfl, HW, HO⟩
        case measure => simp [intOf]; omega
theorem ref_word_len (l : List UInt8) : ∀ w ∈ wordsL l, w.length ≤ l.length := by
  intro w hw
  have h1 := join_len l
  have h2 : w.length ≤ (joinSp (wordsL l)).length := by
    clear h1
    generalize wordsL l = ws at hw
    induction ws using snocRec with
    | h0 => simp at hw
    | hs ws v ih =>
      by_cases e : ws = []
      · subst e
        simp at hw
        subst hw
        exact Nat.le_refl _
      · rw [joinSp_snoc _ _ e, List.length_append, List.length_cons]
        rcases List.mem_append.1 hw with h | h
        · have := ih h
          omega
        · simp at h
          subst h
          omega
  omega
theorem LS.set {w wr : World} {g cap : Nat} {rs : List (List UInt8)} {r x : List UInt8} (h : LS w wr (.slice (some ⟨g, 0, none⟩) (rs.length + 1) cap) (rs ++ [r])) :
    LS w (wr.setCell ⟨g, rs.length, none⟩ (.string ⟨(r ++ 32 :: x).toArray⟩)).drew (.slice (some ⟨g, 0, none⟩) (rs.length + 1) cap) (rs ++ [r ++ 32 :: x]) := by
  have ho := h.own
  rw [List.length_append] at ho
  refine ⟨?_, ((h.bel.setCell (p := ⟨g, rs.length, none⟩) (own_ge h.own g rfl) _)).drew⟩
  rw [List.length_append]
  have := (ho.stored rs.length (.string ⟨(r ++ 32 :: x).toArray⟩)).1
  rw [show (scells (rs ++ [r])).set rs.length (.string ⟨(r ++ 32 :: x).toArray⟩) = scells (rs ++ [r ++ 32 :: x]) from by simp [scells, List.set_append]] at this
  exact this.drew
theorem LS.drewN {w wr : World} {v : Value} {L : List (List UInt8)} (h : LS w wr v L) (n : Nat) : LS w (wr.drewN n) v L :=
  ⟨ownsRow_keptF h.own (fun _ _ => rfl), drewN_below h.bel n⟩
theorem narrow_take (ws : List (List UInt8)) (k : Nat) (hk : k < ws.length) : narrowB (ws.take (k + 1)) = (narrowB (ws.take k) && decide (ws[k].length ≤ 32)) := by
  rw [List.take_succ_eq_append_getElem hk, narrow_snoc]
theorem narrow_short (ws : List (List UInt8)) (k : Nat) (h : narrowB (ws.take k) = false) : narrowB ws = false := by
  rw [← List.take_append_drop k ws]
  unfold narrowB at *
  rw [List.all_append, h, Bool.false_and]
theorem rows_take (ws : List (List UInt8)) (k : Nat) (hk : k < ws.length) : rowsOf (ws.take (k + 1)) = rstep (rowsOf (ws.take k)) ws[k] := by
  rw [List.take_succ_eq_append_getElem hk, rowsOf_snoc]
set_option maxHeartbeats 8000000 in
set_option maxRecDepth 100000 in
theorem refRows_any (s : ByteArray) (w : World) (hsz : s.size ≤ maxLen) :
    Calls Try.prog 14 #[.string s] w fun e w' => ∃ v, e = .returned (.tuple #[v, .bool (fitsB s.data.toList)]) ∧ w'.ownsRow w.heap.size 9 1 v (rowsR s.data.toList).length (scells (rowsR s.data.toList)) ∧ Below w.heap.size w w' := by
  unfold maxLen at hsz
  by_cases hz : s.size ≤ 200
  · have hz' : ¬ (200 : Int) < s.size := by omega
    go_enter Try.func14, Try.ntmps14
    go_wp2_with fail
    go_loop [4] (fun i => ∃ k : Nat, k ≤ s.size ∧ i = .int .i64 k ∧ Hid (printB (s.data.toList.take k) = true)) (fun i => s.size - (intOf i).toNat)
    case atStart => exact ⟨0, Nat.zero_le _, rfl, (rfl : printB [] = true)⟩
    case round =>
      obtain ⟨k, hk, rfl, HP⟩ := hrel
      by_cases hks : k = s.size
      · have HS : Hid (printB s.data.toList = true) := by
          have := HP.out
          rwa [hks, take_all] at this
        have hlt : ¬ (k : Int) < s.size := by omega
        clear hks HP
        go_wp2_with fail
        refine (refWords_any w s (by omega)).mono ?_
        have hwn : (wordsL s.data.toList).length ≤ 200 := by
          have h1 := wscan_count s.data.toList
          rw [dlen] at h1
          unfold wordsL wfin
          split
          · omega
          · rename_i h2
            rw [if_neg h2] at h1
            rw [List.length_append]
            simp
            omega
        have hwl := wordsL_mem s.data.toList
        obtain ⟨A, hA⟩ : ∃ A, wordsL s.data.toList = A := ⟨_, rfl⟩
        rw [hA] at hwn ⊢
        have hf : fitsB s.data.toList = (narrowB A && decide (1 ≤ (rowsOf A).length ∧ (rowsOf A).length ≤ 4)) := by
          unfold fitsB
          rw [HS.out, dlen, decide_eq_true hz, hA]
          rfl
        have HF := Lib.hid hf
        have HRR : Hid (rowsR s.data.toList = if fitsB s.data.toList = true then rowsOf A else []) := by show _ = _; unfold rowsR; rw [hA]
        have HWS : Hid (∀ x ∈ A, x.length ≤ 200) := fun x hx => by
          have h1 : x.length ≤ s.data.toList.length := ref_word_len s.data.toList x (by rw [hA]; exact hx)
          rw [dlen] at h1
          omega
        clear hf hA hwl
        rintro e w2 ⟨ol, cl, rfl, ho2, hb2⟩
        have HL2 := Lib.hid (own_rds ho2).2
        have HB2 := Lib.hid hb2
        clear ho2 hb2
        go_wp2_with fail
        go_loopw [6, 7] (fun v i wr => ∃ (k : Nat) (R : List (List UInt8)), k ≤ A.length ∧ i = .int .i64 k ∧ Hid (rowsOf (A.take k) = R) ∧ Hid (narrowB (A.take k) = true) ∧ Hid (LS w2 wr v R)) (fun _ i _ => A.length - (intOf i).toNat)
        case atStart => exact ⟨0, [], Nat.zero_le _, rfl, by show _ = _; rfl, (rfl : narrowB [] = true), ⟨World.ownsRow_nil _ _ _ _, Below.refl _ _⟩⟩
        case round =>
          obtain ⟨k, R, hk, rfl, HR, HN, HO⟩ := hrel
          have hRl : R.length ≤ 200 := by
            rw [← HR.out]
            have h1 := rowsOf_len (A.take k)
            have h2 : (A.take k).length ≤ k := List.length_take_le _ _
            omega
          obtain ⟨oR, cR, rfl⟩ := own_slice HO.out.own
          by_cases hkA : k = A.length
          · have hk' : ¬ (k : Int) < A.length := by omega
            have HRA : Hid (rowsOf A = R) := by
              have := HR.out
              rwa [hkA, List.take_length] at this
            have HNA : Hid (narrowB A = true) := by
              have := HN.out
              rwa [hkA, List.take_length] at this
            clear hkA HR HN
            by_cases hr : 1 ≤ R.length ∧ R.length ≤ 4
            · have HFT : Hid (fitsB s.data.toList = true) := by show _ = _; rw [HF.out, HNA.out, HRA.out, decide_eq_true hr]; rfl
              have h1 : ¬ (R.length : Int) < 1 := by omega
              have h2 : ¬ (4 : Int) < R.length := by omega
              clear hr
              go_wp2_with fail
              go_ret2
              refine ⟨.slice oR R.length cR, by rw [HFT.out]; rfl, ?_, HB2.out.trans (HO.out.bel.mono HB2.out.size)⟩
              rw [HRR.out, if_pos HFT.out, HRA.out]
              exact own_base HO.out.own HB2.out.size
            · have HFT : Hid (fitsB s.data.toList = false) := by show _ = _; rw [HF.out, HNA.out, HRA.out, decide_eq_false hr]; rfl
              rcases (show (R.length : Int) < 1 ∨ (¬ (R.length : Int) < 1 ∧ (4 : Int) < R.length) from by omega) with q1 | ⟨q1, q2⟩
              all_goals
                clear hr
                go_wp2_with fail
                go_ret2
                refine ⟨.slice none 0 0, by rw [HFT.out]; rfl, ?_, HB2.out.trans (HO.out.bel.mono HB2.out.size)⟩
                rw [HRR.out, if_neg (by rw [HFT.out]; decide)]
                exact World.ownsRow_nil _ _ _ _
          · have hk' : (k : Int) < A.length := by omega
            have hk2 : k < A.length := by omega
            obtain ⟨g, off, rfl, c0⟩ := (HL2.out.kept HO.out.bel).at k hk2
            have hxw := HWS.out _ (List.getElem_mem hk2)
            have HNT := Lib.hid (narrow_take A k hk2)
            have HRT := Lib.hid (rows_take A k hk2)
            rw [HN.out, Bool.true_and] at HNT
            rw [HR.out] at HRT
            generalize A[k] = x at c0 hxw HNT HRT
            obtain ⟨X, hX⟩ : ∃ X : ByteArray, (⟨x.toArray⟩ : ByteArray) = X := ⟨_, rfl⟩
            have hXs : X.size = x.length := by rw [← hX]; rfl
            rw [hX] at c0
            have HX := Lib.hid hX
            clear hkA hX
            by_cases hx32 : x.length ≤ 32
            · have hx' : ¬ (32 : Int) < X.size := by omega
              rw [decide_eq_true hx32] at HNT
              have hX32 : X.size ≤ 32 := by omega
              rcases List.eq_nil_or_concat R with hR | ⟨rs, r, hR⟩
              · subst hR
                have HRT2 : Hid (rowsOf (A.take (k + 1)) = [x]) := HRT.out
                go_wp2_with fail
                go_quiet (fail)
                have HO2 := Lib.hid (HO.out.drewN nq)
                have d0 : (wr.drewN nq).cell? ⟨g, off + k, none⟩ = some (.string X) := c0
                clear c0
                generalize wr.drewN nq = w3 at HO2 d0 ⊢
                obtain ⟨v', w4, hrun, ho4, hf4, hk4⟩ := app_str w3 w2.heap.size _ ([] : List (List UInt8)).length _ X HO2.out.own (by simp) HO2.out.bel.size 27
                have HO4 := Lib.hid (HO2.out.app (x := x) (by rw [HX.out]; exact ho4) hf4)
                obtain ⟨oM, cM, rfl⟩ := own_slice ho4
                rw [List.length_nil] at hrun
                clear ho4 hf4 hk4 hx32
                go_wp2_with (at_builtin; refine wpList_append_run _ rfl _ _ 27 rfl _ _ _ _ rfl rfl hrun ?_)
                go_roundw
                case rel => exact ⟨k + 1, [x], by omega, by go_num, HRT2, HNT, HO4⟩
                case measure => simp [intOf]; omega
              · rw [List.concat_eq_append] at hR
                subst hR
                obtain ⟨gr, rfl⟩ : ∃ gr, oR = some ⟨gr, 0, none⟩ := by
                  rcases HO.out.own.2 with ⟨he, h0⟩ | ⟨gg, cap', cur, he, _⟩
                  · simp at h0
                  · simp at he
                    exact ⟨gg, he.1⟩
                have hrl : (rs ++ [r]).length = rs.length + 1 := by simp
                rw [hrl] at HO hRl ⊢
                have r0 : wr.cell? ⟨gr, rs.length, none⟩ = some (.string ⟨r.toArray⟩) := by
                  have ho := HO.out.own
                  rw [hrl] at ho
                  rw [ho.cellAt rs.length (by omega)]
                  simp [scells]
                have fr0 : wr.frozen? ⟨gr, rs.length, none⟩ = false := by
                  have ho := HO.out.own
                  rw [hrl] at ho
                  exact ho.frozenAt rs.length
                have hrw := rowsOf_wide _ HN.out r (by rw [HR.out]; simp)
                obtain ⟨Y, hY⟩ : ∃ Y : ByteArray, (⟨r.toArray⟩ : ByteArray) = Y := ⟨_, rfl⟩
                have hYs : Y.size = r.length := by rw [← hY]; rfl
                rw [hY] at r0
                have HY := Lib.hid hY
                have hY32 : Y.size ≤ 32 := by omega
                have h0 : (0 : Int) ≤ rs.length := by omega
                have h1 : (rs.length : Int) < ((rs.length + 1 : Nat) : Int) := by omega
                have h1' : (rs.length : Int) < (rs.length : Int) + 1 := by omega
                have hw2 : IntKind.i64.wrap ((Y.size : Int) + 1) = (Y.size : Int) + 1 := IntWalk.i64_in _ (by omega)
                have hw3 : IntKind.i64.wrap ((Y.size : Int) + 1 + (X.size : Int)) = (Y.size : Int) + 1 + (X.size : Int) := IntWalk.i64_in _ (by omega)
                by_cases hfit : r.length + 1 + x.length ≤ 32
                · have hle : (Y.size : Int) + 1 + (X.size : Int) ≤ 32 := by omega
                  have hle2 : decide ((Y.size : Int) + 1 + (X.size : Int) ≤ 32) = true := decide_eq_true hle
                  have HRT2 : Hid (rowsOf (A.take (k + 1)) = rs ++ [r ++ 32 :: x]) := by show _ = _; rw [HRT.out, rstep_fit _ _ _ hfit]
                  clear hY hfit hYs hrw
                  go_wp2_with fail
                  go_quiet (fail)
                  have HO2 := Lib.hid (HO.out.drewN nq)
                  have d0 : (wr.drewN nq).cell? ⟨g, off + k, none⟩ = some (.string X) := c0
                  have e0 : (wr.drewN nq).cell? ⟨gr, rs.length, none⟩ = some (.string Y) := r0
                  have f0 : (wr.drewN nq).frozen? ⟨gr, rs.length, none⟩ = false := fr0
                  clear c0 r0 fr0
                  generalize wr.drewN nq = w3 at HO2 d0 e0 f0 ⊢
                  have HO4 := Lib.hid (HO2.out.set (x := x))
                  rw [show (⟨(r ++ 32 :: x).toArray⟩ : ByteArray) = Y ++ ⟨#[32]⟩ ++ X from by
                    rw [← HY.out, ← HX.out]
                    apply ByteArray.ext
                    simp] at HO4
                  go_wp2_with fail
                  go_region
                  go_wp2_with fail
                  go_roundw
                  case rel => exact ⟨k + 1, _, by omega, by go_num, HRT2, HNT, HO4⟩
                  case measure => simp [intOf]; omega
                · have hle : ¬ (Y.size : Int) + 1 + (X.size : Int) ≤ 32 := by omega
                  have hle2 : decide ((Y.size : Int) + 1 + (X.size : Int) ≤ 32) = false := decide_eq_false hle
                  have HRT2 : Hid (rowsOf (A.take (k + 1)) = rs ++ [r] ++ [x]) := by show _ = _; rw [HRT.out, rstep_new _ _ _ hfit]
                  clear hY hfit hYs hrw
                  go_wp2_with fail
                  go_quiet (fail)
                  have HO2 := Lib.hid (HO.out.drewN nq)
                  have d0 : (wr.drewN nq).cell? ⟨g, off + k, none⟩ = some (.string X) := c0
                  clear c0 r0 fr0
                  generalize wr.drewN nq = w3 at HO2 d0 ⊢
                  obtain ⟨v', w4, hrun, ho4, hf4, hk4⟩ := app_str w3 w2.heap.size _ (rs ++ [r]).length _ X HO2.out.own (by omega) HO2.out.bel.size 27
                  have HO4 := Lib.hid (HO2.out.app (x := x) (by rw [HX.out]; exact ho4) hf4)
                  obtain ⟨oM, cM, rfl⟩ := own_slice ho4
                  rw [hrl] at hrun HO4
                  clear ho4 hf4 hk4 hx32
                  go_wp2_with (at_builtin; refine wpList_append_run _ rfl _ _ 27 rfl _ _ _ _ rfl rfl hrun ?_)
                  go_roundw
                  case rel => exact ⟨k + 1, _, by omega, by go_num, HRT2, HNT, HO4⟩
                  case measure => simp [intOf]; omega
            · have hx' : (32 : Int) < X.size := by omega
              rw [decide_eq_false hx32] at HNT
              have HFT : Hid (fitsB s.data.toList = false) := by show _ = _; rw [HF.out, narrow_short A _ HNT.out]; rfl
              clear hx32
              go_wp2_with fail
              go_ret2
              refine ⟨.slice none 0 0, by rw [HFT.out]; rfl, ?_, HB2.out.trans (HO.out.bel.mono HB2.out.size)⟩
              rw [HRR.out, if_neg (by rw [HFT.out]; decide)]
              exact World.ownsRow_nil _ _ _ _
      · have hlt : (k : Int) < s.size := by omega
        have hlt2 : k < s.size := by omega
        clear hks
        have hpt := printB_take s k hlt2
        rw [HP.out, Bool.true_and] at hpt
        have c1 : (32 ≤ s[k] ∧ s[k] ≤ 126) ↔ (32 ≤ (s[k].toNat : Int) ∧ (s[k].toNat : Int) ≤ 126) := by
          rw [UInt8.le_iff_toNat_le, UInt8.le_iff_toNat_le]
          simp
          omega
        by_cases hr : 32 ≤ (s[k].toNat : Int) ∧ (s[k].toNat : Int) ≤ 126
        · rw [decide_eq_true (c1.2 hr)] at hpt
          have HPT := Lib.hid hpt
          obtain ⟨hr1, hr2⟩ := hr
          clear hpt c1
          go_wp2_with fail
          go_round
          case rel => exact ⟨k + 1, by omega, by go_num, HPT⟩
          case measure => simp [intOf]; omega
        · rw [decide_eq_false (fun h => hr (c1.1 h))] at hpt
          have HPT := Lib.hid (printB_short s (k + 1) hpt)
          have HFT : Hid (fitsB s.data.toList = false) := by show _ = _; unfold fitsB; rw [HPT.out, Bool.and_false, Bool.false_and, Bool.false_and]
          have HRR : Hid (rowsR s.data.toList = []) := by show _ = _; unfold rowsR; rw [if_neg (by rw [HFT.out]; decide)]
          clear hpt c1
          rcases (show ¬ 32 ≤ (s[k].toNat : Int) ∨ (32 ≤ (s[k].toNat : Int) ∧ 126 < (s[k].toNat : Int)) from by omega) with q1 | ⟨q1, q2⟩
          all_goals
            clear hr
            go_wp2_with fail
            go_ret2
            refine ⟨.slice none 0 0, by rw [HFT.out]; rfl, ?_, Below.refl _ _⟩
            rw [HRR.out]
            exact World.ownsRow_nil _ _ _ _
  · have hz' : (200 : Int) < s.size := by omega
    have HFT : Hid (fitsB s.data.toList = false) := by show _ = _; unfold fitsB; rw [dlen, decide_eq_false hz, Bool.false_and, Bool.false_and, Bool.false_and]
    have HRR : Hid (rowsR s.data.toList = []) := by show _ = _; unfold rowsR; rw [if_neg (by rw [HFT.out]; decide)]
    clear hz
    go_enter Try.func14, Try.ntmps14
    go_wp2_with fail
    go_ret2
    refine ⟨.slice none 0 0, by rw [HFT.out]; rfl, ?_, Below.refl _ _⟩
    rw [HRR.out]
    exact World.ownsRow_nil _ _ _ _
end Go.Proofs.Ytjmfhdnckgelaaa
