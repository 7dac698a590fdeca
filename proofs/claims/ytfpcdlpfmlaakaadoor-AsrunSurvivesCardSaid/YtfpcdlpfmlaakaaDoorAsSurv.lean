/-
  Plain facts for AsrunSurvives: the pending writes of a log's disk, what a crash leaves.
-/
import Derived.Test.YtfpcdlpfmlaakaaDoorDkB
set_option linter.unusedVariables false
set_option linter.unusedSimpArgs false
namespace Go.Proofs.YtfpcdlpfmlaakaaDoor
open Go.RowKit Onair
/-- At most n pending writes, each of them within the disk. -/
def PendOk (D : DS) (n : Nat) : Prop := D.pend.length ≤ n ∧ ∀ p ∈ D.pend, p.1 + p.2.size ≤ D.vis.length
theorem PendOk.mono {D : DS} {n m : Nat} (h : PendOk D n) (hm : n ≤ m) : PendOk D m := ⟨Nat.le_trans h.1 hm, h.2⟩
theorem PendOk.write {D : DS} {n : Nat} (h : PendOk D n) (o : Nat) (s : ByteArray) : PendOk (writeD D o s) (n + 1) := by
  unfold writeD
  split
  · exact h.mono (by omega)
  · split
    · rename_i hin
      have hb := of_decide_eq_true hin
      refine ⟨?_, fun p hp => ?_⟩
      · rw [(wroteD_vis _).2.2]
        show (D.pend ++ [(o, s)]).length ≤ n + 1
        rw [List.length_append]
        have := h.1
        simp
        omega
      · rw [(wroteD_vis _).2.2] at hp
        rw [(wroteD_vis _).1]
        show p.1 + p.2.size ≤ (splice D.vis (o : Int).toNat s.data.toList).length
        have hl : (splice D.vis (o : Int).toNat s.data.toList).length = D.vis.length := splice_len _ _ _ (by rw [blen]; omega)
        rw [hl]
        rcases List.mem_append.1 hp with hp | hp
        · exact h.2 p hp
        · rw [List.mem_singleton] at hp
          subst hp
          show (o : Int).toNat + s.size ≤ _
          omega
    · exact h.mono (by omega)
theorem PendOk.sync {D : DS} {n : Nat} (h : PendOk D n) : PendOk (syncD D) n := by
  unfold syncD
  split
  · exact h
  · exact ⟨Nat.zero_le _, fun p hp => by simp at hp⟩
theorem PendOk.put {D : DS} {n : Nat} (h : PendOk D n) (o : Nat) (s : ByteArray) : PendOk (putD D o s) (n + 1) := (h.write o s).sync
theorem PendOk.app {D : DS} {n : Nat} (h : PendOk D n) (R l : List Rec) (br : Bool) : PendOk (appC ⟨D, R, br⟩ l).2.D (n + 2) := by
  unfold appC
  split
  · exact h.mono (by omega)
  · split
    · exact h.mono (by omega)
    · split
      · exact h.mono (by omega)
      · split
        · exact (h.put _ _).mono (by omega)
        · split
          · exact (h.put _ _).put _ _
          · exact (h.put _ _).put _ _
theorem app_len (D : DS) (R l : List Rec) (br : Bool) : (appC ⟨D, R, br⟩ l).2.D.vis.length = D.vis.length := by
  unfold appC
  split
  · rfl
  · split
    · rfl
    · split
      · rfl
      · split
        · exact putD_len _ _ _
        · split
          · show (putD (putD _ _ _) _ _).vis.length = _
            rw [putD_len, putD_len]
          · show (putD (putD _ _ _) _ _).vis.length = _
            rw [putD_len, putD_len]
/-- After the crash: the log has one of two lists. -/
def EndsIn (D : DS) (a b : List Rec) : Prop := ∀ (ks : Nat → Int) (len : Nat) (torn : Int), openE (crashD D ks len torn) = 0 ∧ (openR (crashD D ks len torn) = a ∨ openR (crashD D ks len torn) = b)
theorem EndsIn.clean {D : DS} {R : List Rec} (h : Cln D R) : EndsIn D R R := fun ks len torn => by
  have := open_ok (crashD D ks len torn) R rfl rfl (by rw [crash_none D h.pend, h.dur]; exact h.scan)
  exact ⟨this.1, .inl this.2⟩
/-- The code of Append and what the two lists are behind it, when the power is to fail. -/
theorem ends_last {D : DS} {R : List Rec} (h : Cln D R) (l : List Rec) (hv : ∀ r ∈ l, validR r = true) (c : Nat) (hc1 : 1 ≤ c) (hc2 : c ≤ 3) (e : Int) (s : LS) (he : appC ⟨{ D with cut := c }, R, false⟩ l = (e, s)) :
    (e = 0 ∧ EndsIn s.D (R ++ l) (R ++ l)) ∨ (e = 251 ∧ EndsIn s.D R R) ∨ (e = 241 ∧ EndsIn s.D R (R ++ l)) := by
  have h0 := survive h l ((allV_iff l).2 hv) c hc1 hc2 (fun _ => 0) 0 0 e s he
  rcases h0.2 with ⟨q, _⟩ | ⟨q, _⟩ | ⟨q, _⟩
  · refine .inl ⟨q, fun ks len torn => ?_⟩
    have hs := survive h l ((allV_iff l).2 hv) c hc1 hc2 ks len torn e s he
    refine ⟨hs.1, ?_⟩
    rcases hs.2 with ⟨_, k⟩ | ⟨q2, _⟩ | ⟨q2, _⟩
    · exact .inl k
    · omega
    · omega
  · refine .inr (.inl ⟨q, fun ks len torn => ?_⟩)
    have hs := survive h l ((allV_iff l).2 hv) c hc1 hc2 ks len torn e s he
    refine ⟨hs.1, ?_⟩
    rcases hs.2 with ⟨q2, _⟩ | ⟨_, k⟩ | ⟨q2, _⟩
    · omega
    · exact .inl k
    · omega
  · refine .inr (.inr ⟨q, fun ks len torn => ?_⟩)
    have hs := survive h l ((allV_iff l).2 hv) c hc1 hc2 ks len torn e s he
    refine ⟨hs.1, ?_⟩
    rcases hs.2 with ⟨q2, _⟩ | ⟨q2, _⟩ | ⟨_, k⟩
    · omega
    · omega
    · exact k
end Go.Proofs.YtfpcdlpfmlaakaaDoor
