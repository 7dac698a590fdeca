/-
  Orders: a list of orders in memory; Count.
-/
import Derived.LoopTactic
import Derived.Test.YtjkiidhnmljmbaaDoorOrE
set_option linter.unusedVariables false
set_option linter.unusedSimpArgs false
namespace Go.Proofs.YtjkiidhnmljmbaaDoor
open Go.RowKit
/-- An order without alternatives, clause and cue. -/
structure Od where
  s : Int
  ch : Int
  f : Int
  k : Int
  e : Int
def Od.A (o : Od) : Array Value := ordA o.s o.ch o.f o.k o.e
def oCells (l : List Od) : List Value := l.flatMap fun o => o.A.toList
theorem oCells_len (l : List Od) : (oCells l).length = l.length * 26 := by
  induction l with
  | nil => rfl
  | cons o l ih => simp only [oCells, List.flatMap_cons, List.length_append, List.length_cons] at *; rw [ih]; show 26 + _ = _; omega
theorem oCells_at : ∀ (l : List Od) (i : Nat) (o : Od) (t : Nat), l[i]? = some o → t < 26 → (oCells l)[i * 26 + t]? = o.A.toList[t]?
  | [], _, _, _, h, _ => by simp at h
  | q :: l, 0, o, t, h, ht => by
    simp at h
    subst h
    simp only [oCells, List.flatMap_cons, Nat.zero_mul, Nat.zero_add]
    rw [List.getElem?_append_left (by show t < 26; exact ht)]
  | q :: l, i + 1, o, t, h, ht => by
    have := oCells_at l i o t (by simpa using h) ht
    simp only [oCells, List.flatMap_cons]
    rw [List.getElem?_append_right (by show 26 ≤ _; omega), show (i + 1) * 26 + t - q.A.toList.length = i * 26 + t by show _ - 26 = _; omega]
    exact this
/-- A list of orders in memory. -/
def RdO (W : World) (oa : Option Addr) (l : List Od) : Prop := l = [] ∨ ∃ b o, oa = some ⟨b, o, none⟩ ∧ b < W.heap.size ∧ ∀ (j : Nat) v, (oCells l)[j]? = some v → W.cell? ⟨b, o + j, none⟩ = some v
theorem RdO.kept {W W' : World} {oa : Option Addr} {l : List Od} (h : RdO W oa l) (hb : Below W.heap.size W W') : RdO W' oa l := by
  rcases h with rfl | ⟨b, o, e, hlt, hc⟩
  · exact .inl rfl
  · exact .inr ⟨b, o, e, Nat.lt_of_lt_of_le hlt hb.size, fun j v hj => (hb.cell (p := ⟨b, o + j, none⟩) hlt).trans (hc j v hj)⟩
theorem RdO.at {W : World} {oa : Option Addr} {l : List Od} (h : RdO W oa l) (i : Nat) (q : Od) (hq : l[i]? = some q) : ∃ b o, oa = some ⟨b, o, none⟩ ∧ b < W.heap.size ∧ W.rangeAt b (o + i * 26) q.A.toList := by
  rcases h with rfl | ⟨b, o, e, hlt, hc⟩
  · simp at hq
  · refine ⟨b, o, e, hlt, fun j v hj => ?_⟩
    have hjl : j < 26 := (List.getElem?_eq_some_iff.1 hj).1
    rw [Nat.add_assoc]
    exact hc (i * 26 + j) v ((oCells_at l i q j hq hjl).trans hj)
def cntO (l : List Od) (fr : Int) : Nat := (l.filter fun o => decide (o.f ≤ fr)).length
theorem cntO_snoc (l : List Od) (i : Nat) (q : Od) (fr : Int) (hq : l[i]? = some q) : cntO (l.take (i + 1)) fr = cntO (l.take i) fr + if q.f ≤ fr then 1 else 0 := by
  have : l.take (i + 1) = l.take i ++ [q] := by rw [List.take_add_one, hq]; rfl
  rw [this]
  unfold cntO
  rw [List.filter_append, List.length_append]
  by_cases h : q.f ≤ fr <;> simp [h]
theorem cntO_le (l : List Od) (fr : Int) : cntO l fr ≤ l.length := List.length_filter_le _ _
set_option maxHeartbeats 4000000 in
set_option maxRecDepth 100000 in
theorem count_any (l : List Od) (oa : Option Addr) (n c : Nat) (fr : Int) (W : World) (hn : l.length = n) (hlm : n ≤ 1000000) (hr : RdO W oa l) : Calls Tryd.prog 15 #[.slice oa n c, .int .i64 fr] W fun e w' => e = .returned (.int .i64 (cntO l fr : Nat)) ∧ Below W.heap.size W w' := by
  have HR := Lib.hid hr
  have HN := Lib.hid hn
  have HSZ := Lib.hid (show (Tryd.prog.info? 30).map (·.size) = some 26 from by kernel_rfl)
  clear hr hn
  go_enter Tryd.func15, Tryd.ntmps15
  go_wp2_with fail
  go_loopw [5, 10] (fun vc vi wr => ∃ (i cn : Nat), i ≤ n ∧ vi = .int .i64 i ∧ vc = .int .i64 cn ∧ Hid (cn = cntO (l.take i) fr) ∧ Hid (Below W.heap.size W wr)) (fun _ v _ => n - (intOf v).toNat)
  case atStart => exact ⟨0, 0, Nat.zero_le _, rfl, rfl, rfl, Below.refl _ _⟩
  case round =>
    obtain ⟨i, cn, hin, rfl, rfl, HC, HB⟩ := hrel
    by_cases h : i < n
    · have q1 : (i : Int) < (n : Int) := by omega
      have q2 : (0 : Int) ≤ (i : Int) := by omega
      obtain ⟨q, hq⟩ : ∃ q, l[i]? = some q := ⟨l[i]'(by rw [HN.out]; exact h), List.getElem?_eq_getElem _⟩
      obtain ⟨b, o, rfl, hlt, hrg⟩ := (HR.out.kept HB.out).at i q hq
      obtain ⟨M, hM⟩ : ∃ M, wr.heap.size = M := ⟨_, rfl⟩
      obtain ⟨w1, hw1⟩ : ∃ w1, wr.alloc (.cells (ordA 0 0 0 0 0) 30) = w1 := ⟨_, rfl⟩
      have hk1 : Blk w1 M 30 (ordA 0 0 0 0 0).toList := by rw [← hw1, ← hM]; exact Blk.new wr _ _
      obtain ⟨w2, hw2⟩ : ∃ w2, w1.setRow M q.A = w2 := ⟨_, rfl⟩
      have hk2 : Blk w2 M 30 q.A.toList := by rw [← hw2]; exact hk1.setRow _
      have hb2 : Below W.heap.size W w2 := by
        rw [← hw2, ← hw1]
        exact below_setRow (HB.out.alloc HB.out.size _) (by rw [← hM]; exact HB.out.size) _
      have c2 : w2.cell? ⟨M, 2, none⟩ = some (.int .i64 q.f) := hk2.cell 2
      have HO1 : Hid (q.A.all (·.oneCell') = true) := (by first | rfl | (unfold Od.A ordA; simp [Value.oneCell']) : q.A.all (·.oneCell') = true)
      have HO2 : Hid ((ordA 0 0 0 0 0).toList.toArray.size = q.A.size) := rfl
      have HRG := Lib.hid hrg
      have HK1 := Lib.hid hk1
      have HW2 := Lib.hid hw2
      have HB2 := Lib.hid hb2
      have hcn := cntO_snoc l i q fr hq
      rw [← HC.out] at hcn
      have hcl : cn ≤ 1000000 := by
        have := cntO_le (l.take i) fr
        rw [← HC.out, List.length_take] at this
        omega
      dsimp only [ordA] at hw1
      obtain ⟨qf, hqf⟩ : ∃ qf, q.f = qf := ⟨_, rfl⟩
      rw [hqf] at c2 hcn
      clear hq hlt hrg hk1 hk2 hw2 hb2 hqf HC HB
      by_cases hf : qf ≤ fr
      all_goals
        first | rw [if_pos hf] at hcn | rw [if_neg hf] at hcn
        have HCN := Lib.hid hcn
        clear hcn
        go_wp2_with (first | (refine wpList_load_mid rfl 30 (.tmp 12) rfl b (o + i * 26) rfl q.A.toList _ HRG.out Tryd.underlying30 rfl HSZ.out ?_) | (refine wpList_store_row rfl 30 (.tmp 7) (.tmp 13) rfl M q.A rfl rfl 30 _ HK1.out HSZ.out HO2.out HO1.out ?_; rw [HW2.out]))
        go_roundw
        case rel => exact ⟨i + 1, _, by omega, by go_num, by go_num, by rw [HCN.out]; exact rfl, HB2⟩
        case measure => simp [intOf]; omega
    · have q1 : ¬ (i : Int) < (n : Int) := by omega
      have e : cn = cntO l fr := by rw [HC.out, List.take_of_length_le (by rw [HN.out]; omega)]
      have HE := Lib.hid e
      clear e h
      go_wp2_with fail
      go_ret
      exact ⟨by rw [HE.out]; rfl, HB.out⟩
end Go.Proofs.YtjkiidhnmljmbaaDoor
