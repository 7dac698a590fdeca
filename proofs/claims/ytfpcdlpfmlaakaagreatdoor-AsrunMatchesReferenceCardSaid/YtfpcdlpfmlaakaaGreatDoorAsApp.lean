/-
  append of a list of records to a row of the call's own.
-/
import Derived.Deep.AppendSrc
import Derived.Deep.Upon
import Derived.Test.YtfpcdlpfmlaakaaGreatDoorAsMN
import Derived.Test.YtfpcdlpfmlaakaaGreatDoorAsP
set_option linter.unusedVariables false
set_option linter.unusedSimpArgs false
namespace Go.Proofs.YtfpcdlpfmlaakaaGreatDoor
open Go.RowKit Onair
theorem rcells_append (L M : List Rec) : rcells L ++ rcells M = rcells (L ++ M) := by simp [rcells]
theorem rcells_one (L : List Rec) : ∀ u ∈ rcells L, u.oneCell' = true := by
  intro u hu
  unfold rcells at hu
  obtain ⟨r, _, hr⟩ := List.mem_flatMap.1 hu
  simp [recA] at hr
  rcases hr with rfl | rfl | rfl | rfl | rfl | rfl <;> rfl
theorem app_recs (W : World) (B : Nat) (v : Value) (L M : List Rec) (hown : W.ownsRow B 62 6 v L.length (rcells L)) (o : Option Addr) (m c : Nat) (hm : M.length = m) (hM : RdR W o M) (hn : L.length + m ≤ 1000000) (hB : B ≤ W.heap.size) (ty : TypeId) :
    ∃ oa cap w', (Builtin.append_ #[38, 38] ty #[v, .slice o m c]).run Tryz.prog W = .ok (.slice oa (L ++ M).length cap) w' ∧ w'.ownsRow B 62 6 (.slice oa (L ++ M).length cap) (L ++ M).length (rcells (L ++ M)) ∧ Fr (fun k => v.ownBlock = some k) W w' ∧ ∀ k, (Value.slice oa (L ++ M).length cap).ownBlock = some k → v.ownBlock = some k ∨ W.heap.size ≤ k := by
  obtain ⟨i0, hi, hz0, hz1, hz2⟩ := info_parts Tryz.infoRec
  cases o with
  | none =>
    have h0 : M = [] := by
      rcases hM with h | ⟨b, o, e, _⟩
      · exact h
      · cases e
    subst h0
    cases hm
    obtain ⟨oa, cap, rfl⟩ := own_slice hown
    obtain ⟨_, h2, _, _⟩ := own_rdr hown
    rw [List.append_nil]
    exact ⟨oa, cap, W, run_append_nothing W _ _ _ _ i0 Tryz.underlying38 hi oa _ cap h2 _ (Src.ofNil W Tryz.underlying38 c), hown, Fr.refl _ _, fun k hk => .inl hk⟩
  | some a =>
    have hcells : ∀ (j : Nat) u, (rcells M)[j]? = some u → W.cell? (a.add j) = some u := by
      intro j u hj
      rcases hM with h | ⟨b, o, e, _, hc⟩
      · subst h
        simp [rcells] at hj
      · cases e
        rw [Addr.add_lit]
        exact hc j u hj
    obtain ⟨v', w1, hrun, ho1, hf1, hk1⟩ := app_own (P := Tryz.prog) (W := W) B 38 ty 62 i0 (.agg #[.int .i64 0, .int .i64 0, .int .i64 0, .int .i64 0, .int .i64 0, .int .i64 0]) 6 48 Tryz.underlying38 hi hz0 hz1 hz2 rfl (by decide) v L.length (rcells L) hown a m c (rcells M) (by rw [rcells_len, hm]) hcells (rcells_one M) (by unfold maxLen; omega) (by omega) hB
    have hlen : (L ++ M).length = L.length + m := by rw [List.length_append, hm]
    rw [rcells_append] at ho1
    obtain ⟨oa, nn, cap, rfl, hnn⟩ : ∃ oa nn cap, v' = .slice oa nn cap ∧ nn = L.length + m := by
      rcases ho1.2 with ⟨rfl, h0⟩ | ⟨g, cap, _, rfl, _⟩
      · exact ⟨none, 0, 0, rfl, by omega⟩
      · exact ⟨_, _, _, rfl, rfl⟩
    subst hnn
    rw [hlen]
    exact ⟨oa, cap, w1, hrun, ho1, hf1, hk1⟩
end Go.Proofs.YtfpcdlpfmlaakaaGreatDoor
