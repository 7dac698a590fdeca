/-
  The walks of the laws' helpers cut, find, split.
-/
import Derived.WalkKit
import Derived.LoopTactic
import Derived.WalkSpells
import Derived.WalkLawsBesides
import Derived.RegionTactic
import Derived.BigRegion
import Derived.Deep.QuietTactic
import Derived.Deep.RegionHeld3
import Derived.BigQuiet
import Derived.IntWalk
import Derived.Outline
import Derived.Test.YtjmfhdnckgelaaaCapRefA
set_option linter.unusedVariables false
set_option linter.unusedSimpArgs false
namespace Go.Proofs.Ytjmfhdnckgelaaa
open Go.RowKit
/-- A list that the call makes for itself. -/
structure LO (w wr : World) (v : Value) (L : List Cue) : Prop where
  own : wr.ownsRow w.heap.size 24 5 v L.length (ccells L)
  bel : Below w.heap.size w wr
theorem LO.alloc {w wr : World} {v : Value} {L : List Cue} (h : LO w wr v L) (o : Obj) : LO w (wr.alloc o) v L := ⟨h.own.alloc o, h.bel.alloc h.bel.size o⟩
theorem LO.app {w wr w' : World} {v v' : Value} {L : List Cue} {x : Cue} (h : LO w wr v L) (ho : w'.ownsRow w.heap.size 24 5 v' (L.length + 1) (ccells (L ++ [x]))) (hf : Fr (fun k => v.ownBlock = some k) wr w') : LO w w' v' (L ++ [x]) :=
  ⟨by rw [List.length_append]; exact ho, h.bel.trans (hf.below _ h.bel.size (own_ge h.own))⟩
def cutCue (c : Cue) : Cue := { c with tx := c.tx.extract 0 (min 210 c.tx.size) }
def cutC (l : List Cue) : List Cue := (l.take 210).map cutCue
theorem cutC_len (l : List Cue) : (cutC l).length ≤ 210 := by
  unfold cutC
  rw [List.length_map]
  exact List.length_take_le _ _
theorem cutC_take (l : List Cue) (k : Nat) (h : k < l.length) (hk : k < 210) : cutC (l.take (k + 1)) = cutC (l.take k) ++ [cutCue l[k]] := by
  have e1 : (l.take (k + 1)).take 210 = l.take (k + 1) := List.take_of_length_le (by have : (l.take (k + 1)).length ≤ k + 1 := List.length_take_le _ _; omega)
  have e2 : (l.take k).take 210 = l.take k := List.take_of_length_le (by have : (l.take k).length ≤ k := List.length_take_le _ _; omega)
  unfold cutC
  rw [e1, e2, List.take_succ_eq_append_getElem h, List.map_append]
  rfl
theorem cutCue_ok (c : Cue) (h : c.Ok) : (cutCue c).Ok := ⟨h.i0, h.i1, h.f0, h.f1, h.t0, h.t1, h.p0, h.p1, by
  have := h.sz
  show (c.tx.extract 0 (min 210 c.tx.size)).size ≤ maxLen
  rw [ByteArray.size_extract]
  omega⟩
theorem cutC_ok (l : List Cue) (h : ∀ c ∈ l, c.Ok) : ∀ c ∈ cutC l, c.Ok := by
  intro c hc
  unfold cutC at hc
  rw [List.mem_map] at hc
  obtain ⟨d, hd, rfl⟩ := hc
  exact cutCue_ok d (h d (List.mem_of_mem_take hd))
set_option maxHeartbeats 2000000 in
set_option maxRecDepth 100000 in
theorem cut_any (w : World) (oa : Option Addr) (cap : Nat) (l : List Cue) (hok : ∀ c ∈ l, c.Ok) (hl : l.length ≤ maxLen) (hr : RdC w oa l) :
    Calls Try.prog 12 #[.slice oa l.length cap] w fun e w' => ∃ oa' cap', e = .returned (.slice oa' (cutC l).length cap') ∧ w'.ownsRow w.heap.size 24 5 (.slice oa' (cutC l).length cap') (cutC l).length (ccells (cutC l)) ∧ Below w.heap.size w w' := by
  have HR := Lib.hid hr
  have HOK := Lib.hid hok
  clear hr hok
  unfold maxLen at hl
  go_enter Try.func12, Try.ntmps12
  go_wp2_with fail
  go_loopw [3, 4] (fun v i wr => ∃ (k : Nat) (L : List Cue), k ≤ l.length ∧ k ≤ 210 ∧ i = .int .i64 k ∧ Hid (cutC (l.take k) = L) ∧ Hid (LO w wr v L)) (fun _ i _ => 210 - (intOf i).toNat)
  case atStart => exact ⟨0, [], Nat.zero_le _, Nat.zero_le _, rfl, by show _ = _; rfl, ⟨World.ownsRow_nil _ _ _ _, Below.refl _ _⟩⟩
  case round =>
    obtain ⟨k, L, hk, hk210, rfl, HL, HO⟩ := hrel
    have hLl : L.length ≤ 210 := by rw [← HL.out]; exact cutC_len _
    obtain ⟨oL, cL, rfl⟩ := own_slice HO.out.own
    by_cases hend : k = l.length ∨ k = 210
    · have HE : Hid (cutC l = L) := by
        show _ = _
        rw [← HL.out]
        unfold cutC
        rcases hend with e | e
        · rw [e, List.take_length]
        · rw [e, List.take_take, Nat.min_self]
      rcases (show ((k : Int) < l.length ∧ ¬ (k : Int) < 210) ∨ ¬ (k : Int) < l.length from by
        by_cases h : (k : Int) < l.length
        · exact .inl ⟨h, by omega⟩
        · exact .inr h) with ⟨q1, q2⟩ | q1
      all_goals
        clear hend
        go_wp2_with fail
        go_ret
        rw [HE.out]
        exact ⟨_, _, rfl, HO.out.own, HO.out.bel⟩
    · have hk1 : (k : Int) < l.length := by omega
      have hk2 : (k : Int) < 210 := by omega
      have hk3 : k < l.length := by omega
      obtain ⟨g, off, rfl, c0, c1, c2, c3, c4⟩ := (HR.out.kept HO.out.bel).at k hk3
      have hxo := HOK.out _ (List.getElem_mem hk3)
      have HTK : Hid (l.take (k + 1) = l.take k ++ [l[k]]) := List.take_succ_eq_append_getElem hk3
      obtain ⟨x, hx⟩ : ∃ x, l[k] = x := ⟨_, rfl⟩
      have HXE := Lib.hid hx
      rw [hx] at c0 c1 c2 c3 c4 hxo HTK
      clear hx hend
      have hsz := hxo.sz
      unfold maxLen at hsz
      obtain ⟨m, T, h1, h2, h3, h4⟩ : ∃ (m : Nat) (T : ByteArray), m ≤ x.tx.size ∧ m ≤ 210 ∧ (if (210 : Int) < (x.tx.size : Int) then (210 : Int) else (x.tx.size : Int)) = (m : Int) ∧ x.tx.extract 0 m = T := ⟨min 210 x.tx.size, _, by omega, by omega, by split <;> omega, rfl⟩
      have HX : Hid (cutCue x = { x with tx := T }) := by
        show _ = _
        unfold cutCue
        rw [← h4, show min 210 x.tx.size = m by split at h3 <;> omega]
      have HN : Hid (cutC (l.take (k + 1)) = L ++ [cutCue x]) := by
        show _ = _
        rw [← HL.out, ← HXE.out]
        exact cutC_take l k hk3 (by omega)
      have HOX := Lib.hid (HO.out.alloc (.cells #[.int .i64 x.id, .int .i64 x.fr, .int .i64 x.to, .int .i64 x.pr, .string T] 24))
      obtain ⟨oM, cM, w2, hrun, ho2, hf2⟩ := app_cue _ w.heap.size _ L { x with tx := T } HOX.out.own (by omega) HOX.out.bel.size 22
      have HO2 := Lib.hid (HOX.out.app ho2 hf2)
      rw [← HX.out] at HO2
      dsimp only at hrun
      rw [show (wr.alloc (.cells #[.int .i64 x.id, .int .i64 x.fr, .int .i64 x.to, .int .i64 x.pr, .string T] 24)).heap.size = wr.heap.size + 1 from by simp] at hrun
      clear ho2 hf2 hxo HTK
      go_wp2_with (at_builtin; refine wpList_append_run _ rfl _ _ 22 rfl _ _ _ _ rfl rfl hrun ?_)
      go_roundw
      case rel => exact ⟨k + 1, _, by omega, by omega, by go_num, HN, HO2⟩
      case measure => simp [intOf]; omega
def findL (l : List Cue) (id : Int) : List Cue := l.filter fun c => c.id == id
theorem findL_len (l : List Cue) (id : Int) : (findL l id).length ≤ l.length := List.length_filter_le _ _
set_option maxHeartbeats 2000000 in
set_option maxRecDepth 100000 in
theorem find_any (w : World) (oa : Option Addr) (cap : Nat) (l : List Cue) (id : Int) (hl : l.length ≤ 1000) (hr : RdC w oa l) :
    Calls Try.prog 26 #[.slice oa l.length cap, .int .i64 id] w fun e w' => ∃ oa' cap', e = .returned (.slice oa' (findL l id).length cap') ∧ w'.ownsRow w.heap.size 24 5 (.slice oa' (findL l id).length cap') (findL l id).length (ccells (findL l id)) ∧ Below w.heap.size w w' := by
  have HR := Lib.hid hr
  clear hr
  go_enter Try.func26, Try.ntmps26
  go_wp2_with fail
  go_loopw [5, 6] (fun v i wr => ∃ (k : Nat) (L : List Cue), k ≤ l.length ∧ i = .int .i64 k ∧ Hid (findL (l.take k) id = L) ∧ Hid (LO w wr v L)) (fun _ i _ => l.length - (intOf i).toNat)
  case atStart => exact ⟨0, [], Nat.zero_le _, rfl, by show _ = _; rfl, ⟨World.ownsRow_nil _ _ _ _, Below.refl _ _⟩⟩
  case round =>
    obtain ⟨k, L, hk, rfl, HL, HO⟩ := hrel
    have hLl : L.length ≤ 1000 := by
      rw [← HL.out]
      have h1 := findL_len (l.take k) id
      have h2 : (l.take k).length ≤ l.length := by rw [List.length_take]; omega
      omega
    obtain ⟨oL, cL, rfl⟩ := own_slice HO.out.own
    by_cases hend : k = l.length
    · have HE : Hid (findL l id = L) := by
        show _ = _
        rw [← HL.out, hend, List.take_length]
      have q1 : ¬ (k : Int) < l.length := by omega
      clear hend
      go_wp2_with fail
      go_ret
      rw [HE.out]
      exact ⟨_, _, rfl, HO.out.own, HO.out.bel⟩
    · have hk1 : (k : Int) < l.length := by omega
      have hk3 : k < l.length := by omega
      obtain ⟨g, off, rfl, c0, c1, c2, c3, c4⟩ := (HR.out.kept HO.out.bel).at k hk3
      have HTK : Hid (l.take (k + 1) = l.take k ++ [l[k]]) := List.take_succ_eq_append_getElem hk3
      obtain ⟨x, hx⟩ : ∃ x, l[k] = x := ⟨_, rfl⟩
      rw [hx] at c0 c1 c2 c3 c4 HTK
      clear hx hend
      cases hid : (x.id == id)
      · have HN : Hid (findL (l.take (k + 1)) id = L) := by
          show _ = _
          rw [HTK.out, ← HL.out]
          unfold findL
          rw [List.filter_append]
          simp [hid]
        go_wp2_with fail
        go_roundw
        case rel => exact ⟨k + 1, _, by omega, by go_num, HN, HO⟩
        case measure => simp [intOf]; omega
      · have HN : Hid (findL (l.take (k + 1)) id = L ++ [x]) := by
          show _ = _
          rw [HTK.out, ← HL.out]
          unfold findL
          rw [List.filter_append]
          simp [hid]
        obtain ⟨oM, cM, w2, hrun, ho2, hf2⟩ := app_cue wr w.heap.size _ L x HO.out.own (by omega) HO.out.bel.size 22
        have HO2 := Lib.hid (HO.out.app ho2 hf2)
        clear ho2 hf2 HTK
        go_wp2_with (at_builtin; refine wpList_append_run _ rfl _ _ 22 rfl _ _ _ _ rfl rfl hrun ?_)
        go_roundw
        case rel => exact ⟨k + 1, _, by omega, by go_num, HN, HO2⟩
        case measure => simp [intOf]; omega
/-- A list of strings that the call makes for itself. -/
structure LS (w wr : World) (v : Value) (L : List (List UInt8)) : Prop where
  own : wr.ownsRow w.heap.size 9 1 v L.length (scells L)
  bel : Below w.heap.size w wr
theorem LS.app {w wr w' : World} {v v' : Value} {L : List (List UInt8)} {x : List UInt8} (h : LS w wr v L) (ho : w'.ownsRow w.heap.size 9 1 v' (L.length + 1) (scells L ++ [.string ⟨x.toArray⟩])) (hf : Fr (fun k => v.ownBlock = some k) wr w') : LS w w' v' (L ++ [x]) :=
  ⟨by rw [List.length_append, show scells (L ++ [x]) = scells L ++ [.string ⟨x.toArray⟩] from by simp [scells]]; exact ho, h.bel.trans (hf.below _ h.bel.size (own_ge h.own))⟩
theorem byte_eq (c : UInt8) : ((c.toNat : Int) == 32) = decide (c = 32) := by
  have := byte_ne c
  rw [Bool.eq_iff_iff] at this ⊢
  simp only [bne_iff_ne, Bool.not_eq_true', decide_eq_false_iff_not, beq_iff_eq, decide_eq_true_eq] at *
  by_cases h : c = 32
  · subst h; simp
  · simp [h]; exact this.2 h
set_option maxHeartbeats 2000000 in
set_option maxRecDepth 100000 in
theorem split_any (w : World) (s : ByteArray) (hs : s.size ≤ 1000) :
    Calls Try.prog 25 #[.string s] w fun e w' => ∃ oa' cap', e = .returned (.slice oa' (wordsL s.data.toList).length cap') ∧ w'.ownsRow w.heap.size 9 1 (.slice oa' (wordsL s.data.toList).length cap') (wordsL s.data.toList).length (scells (wordsL s.data.toList)) ∧ Below w.heap.size w w' := by
  go_enter Try.func25, Try.ntmps25
  go_wp2_with fail
  go_loopw [3, 4, 5] (fun v f i wr => ∃ (k : Nat) (L : List (List UInt8)), i = .int .i64 k ∧ Hid (LS w wr v L) ∧ ((k ≤ s.size ∧ Hid ((wscan (s.data.toList.take k)).1 = L) ∧ f = .int .i64 ((k - curN s k : Nat) : Int)) ∨ (k = s.size + 1 ∧ Hid (wordsL s.data.toList = L)))) (fun _ _ i _ => s.size + 1 - (intOf i).toNat)
  case atStart => exact ⟨0, [], rfl, ⟨World.ownsRow_nil _ _ _ _, Below.refl _ _⟩, .inl ⟨Nat.zero_le _, by show _ = _; simp [wscan], by simp [curN, wscan]⟩⟩
  case round =>
    obtain ⟨k, L, rfl, HO, ⟨hk, HL, rfl⟩ | ⟨rfl, HL⟩⟩ := hrel
    · have hLl : L.length ≤ 1000 := by
        rw [← HL.out]
        have h1 := wscan_count (s.data.toList.take k)
        have h2 : (s.data.toList.take k).length ≤ k := List.length_take_le _ _
        omega
      obtain ⟨oL, cL, rfl⟩ := own_slice HO.out.own
      have hkle : (k : Int) ≤ s.size := by omega
      have hcn := curN_le s k
      have HCX := Lib.hid (cur_extract s k hk)
      have HCZ := Lib.hid (curN_zero s k)
      by_cases hks : k = s.size
      · have HWF : Hid (wordsL s.data.toList = wfin (wscan (s.data.toList.take k))) := by
          show _ = _
          rw [hks, take_all]
          rfl
        have HKS := Lib.hid hks
        have heq : ((k : Int) == s.size) = true := by rw [hks]; exact beq_self_eq_true _
        clear hks
        by_cases hc : curN s k = 0
        · have hgt : ¬ ((k - curN s k : Nat) : Int) < k := by omega
          have HW2 : Hid (wordsL s.data.toList = L) := by show _ = _; rw [HWF.out, wfin_nil (HCZ.out.1 hc)]; exact HL.out
          clear hc
          generalize k - curN s k = f at HCX hgt ⊢
          go_wp2_with fail
          go_roundw
          case rel => exact ⟨k + 1, _, by go_num, HO, .inr ⟨by have := HKS.out; omega, HW2⟩⟩
          case measure => simp [intOf]; omega
        · have hgt : ((k - curN s k : Nat) : Int) < k := by omega
          have HW2 : Hid (wordsL s.data.toList = L ++ [(wscan (s.data.toList.take k)).2]) := by show _ = _; rw [HWF.out, wfin_cons (fun e => hc (HCZ.out.2 e)), HL.out]
          obtain ⟨v', w2, hrun, ho2, hf2, hk2⟩ := app_str wr w.heap.size _ L.length _ (s.extract (k - curN s k) k) HO.out.own (by omega) HO.out.bel.size 27
          have HO2 := Lib.hid (HO.out.app (x := (wscan (s.data.toList.take k)).2) (by rw [← HCX.out]; exact ho2) hf2)
          obtain ⟨oM, cM, rfl⟩ := own_slice ho2
          have h0 : (0 : Int) ≤ ((k - curN s k : Nat) : Int) := by omega
          clear hc ho2 hf2 hk2 HCX
          generalize k - curN s k = f at hrun hgt h0 ⊢
          go_wp2_with (at_builtin; refine wpList_append_run _ rfl _ _ 27 rfl _ _ _ _ rfl rfl hrun ?_)
          go_roundw
          case rel => exact ⟨k + 1, _, by go_num, HO2, .inr ⟨by have := HKS.out; omega, HW2⟩⟩
          case measure => simp [intOf]; omega
      · have hlt : (k : Int) < s.size := by omega
        have hlt2 : k < s.size := by omega
        have heq : ((k : Int) == s.size) = false := by rw [beq_eq_false_iff_ne]; omega
        clear hks
        have hb := byte_eq (s[k]'hlt2)
        by_cases hsp : s[k]'hlt2 = 32
        · rw [decide_eq_true hsp] at hb
          obtain ⟨q1, q2⟩ := curN_space s k hlt2 hsp
          have HQ1 := Lib.hid q1
          have HQ2 := Lib.hid q2
          clear q1 q2 hsp
          by_cases hc : curN s k = 0
          · have hgt : ¬ ((k - curN s k : Nat) : Int) < k := by omega
            have HW2 : Hid ((wscan (s.data.toList.take (k + 1))).1 = L) := by show _ = _; rw [HQ2.out, wfin_nil (HCZ.out.1 hc)]; exact HL.out
            clear hc
            generalize k - curN s k = f at HCX hgt ⊢
            go_wp2_with fail
            go_roundw
            case rel => exact ⟨k + 1, _, by go_num, HO, .inl ⟨by omega, HW2, by rw [HQ1.out]; go_num⟩⟩
            case measure => simp [intOf]; omega
          · have hgt : ((k - curN s k : Nat) : Int) < k := by omega
            have HW2 : Hid ((wscan (s.data.toList.take (k + 1))).1 = L ++ [(wscan (s.data.toList.take k)).2]) := by show _ = _; rw [HQ2.out, wfin_cons (fun e => hc (HCZ.out.2 e)), HL.out]
            obtain ⟨v', w2, hrun, ho2, hf2, hk2⟩ := app_str wr w.heap.size _ L.length _ (s.extract (k - curN s k) k) HO.out.own (by omega) HO.out.bel.size 27
            have HO2 := Lib.hid (HO.out.app (x := (wscan (s.data.toList.take k)).2) (by rw [← HCX.out]; exact ho2) hf2)
            obtain ⟨oM, cM, rfl⟩ := own_slice ho2
            have h0 : (0 : Int) ≤ ((k - curN s k : Nat) : Int) := by omega
            clear hc ho2 hf2 hk2 HCX
            generalize k - curN s k = f at hrun hgt h0 ⊢
            go_wp2_with (at_builtin; refine wpList_append_run _ rfl _ _ 27 rfl _ _ _ _ rfl rfl hrun ?_)
            go_roundw
            case rel => exact ⟨k + 1, _, by go_num, HO2, .inl ⟨by omega, HW2, by rw [HQ1.out]; go_num⟩⟩
            case measure => simp [intOf]; omega
        · rw [decide_eq_false hsp] at hb
          obtain ⟨q1, q2⟩ := curN_letter s k hlt2 hsp
          have HQ2 := Lib.hid (q2.trans HL.out)
          have HE : Hid (k + 1 - curN s (k + 1) = k - curN s k) := by show _ = _; rw [q1]; omega
          clear q1 q2 hsp
          go_wp2_with fail
          go_roundw
          case rel => exact ⟨k + 1, _, by go_num, HO, .inl ⟨by omega, HQ2, by rw [HE.out]⟩⟩
          case measure => simp [intOf]; omega
    · have hgt : ¬ ((s.size + 1 : Nat) : Int) ≤ s.size := by omega
      obtain ⟨oL, cL, rfl⟩ := own_slice HO.out.own
      go_wp2_with fail
      go_ret
      rw [HL.out]
      exact ⟨_, _, rfl, HO.out.own, HO.out.bel⟩
end Go.Proofs.Ytjmfhdnckgelaaa
