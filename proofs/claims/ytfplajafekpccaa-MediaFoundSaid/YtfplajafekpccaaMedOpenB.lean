/-
  The arguments of the laws: a list of assets.
-/
import Derived.Lib.SmallJoins
import Derived.Deep.Slices
import Derived.Deep.Fields
import Derived.ChangeSame
import Derived.Test.YtfplajafekpccaaMedOpen
set_option linter.unusedVariables false
set_option linter.unusedSimpArgs false
namespace Go.Proofs.Ytfplajafekpccaa
open Go.RowKit Go.ChangeShapes Go.WideShapes Go.Deep Go.Joins Onair
/-- An asset that a Go value can be. -/
def AOk (W : World) (a : Ast) : Prop := (∀ p ∈ a.ps, POk p) ∧ a.ps.length ≤ maxLen ∧ RdP W a.o a.ps
theorem open_assets {H : Type} {enc : TypeId × Value → H} {W : World} {base : Nat} {v : Value} {d : DataW H} {ps : List MemPlace}
    (hv : Value.okWide Try.prog W .any base 38 v) (h : DataW.Trod enc Try.prog W 0 (fun _ => true) true 38 v d ps) :
    ∃ (oa : Option Addr) (cap : Nat) (l : List Ast), v = .slice oa l.length cap ∧ l.length ≤ maxLen ∧ RdA W oa l ∧ ∀ a ∈ l, AOk W a := by
  obtain ⟨a0, len0, cap0, rfl⟩ := okWide_slice Try.underlying38 hv
  obtain ⟨fuel, hf⟩ := h
  rcases open_slice_fields Try.underlying38 Try.underlying24 (by kernel_rfl) (by kernel_rfl) hf with ⟨hcs, _⟩ | ⟨a, len, cap, m, hcs, hl, hm, hmm, hi⟩
  · simp [Value.cells] at hcs
    obtain ⟨rfl, rfl, rfl⟩ := hcs
    exact ⟨none, 0, [], rfl, Nat.zero_le _, .inl rfl, fun c hc => absurd hc (by simp)⟩
  · simp [Value.cells] at hcs
    obtain ⟨rfl, rfl, rfl⟩ := hcs
    simp at hmm
    subst hmm
    have key2 : ∀ i : Nat, ∃ c : Ast, AOk W c ∧ (i < m → W.cell? (a.add (i * 2)) = some (.int .i64 c.item) ∧ W.cell? (a.add (i * 2 + 1)) = some (.slice c.o c.ps.length c.c)) := by
      intro i
      by_cases hi' : i < m
      · obtain ⟨n, hj⟩ := hi i hi'
        obtain ⟨v0, y0, c0, t0⟩ := hj 0 _ rfl
        obtain ⟨v1, y1, c1, t1⟩ := hj 1 _ rfl
        obtain ⟨i0, e0, _, w0⟩ := DataW.trod_int Try.underlying3 t0
        obtain ⟨ob, cb, l, rfl, h1, h2, h3⟩ := open_pics t1
        simp at e0
        subst e0
        exact ⟨⟨i0, ob, cb, l⟩, ⟨h2, h1, h3⟩, fun _ => ⟨c0, c1⟩⟩
      · exact ⟨⟨0, none, 0, []⟩, ⟨fun p hp => absurd hp (by simp), Nat.zero_le _, .inl rfl⟩, fun h => absurd h hi'⟩
    obtain ⟨F, hF⟩ := Classical.axiomOfChoice key2
    refine ⟨some a, m, (List.range len0).map F, by simp, by rw [List.length_map, List.length_range]; omega, ?_, ?_⟩
    · by_cases hp : 0 < len0
      · obtain ⟨b, off, spot⟩ := a
        have h0 := ((hF 0).2 (by omega)).1
        have hspot : spot = none := by simpa [Addr.add] using World.cell?_spot h0
        subst hspot
        refine .inr ⟨b, off, rfl, ?_, fun i c hi => ?_⟩
        · exact block_lt (p := ⟨b, off + 0 * 2, none⟩) (by rw [Go.WideShapes.add_plain] at h0; exact h0)
        · have hil : i < len0 := by
            have := (List.getElem?_eq_some_iff.1 hi).1
            simpa using this
          have e : F i = c := by
            rw [List.getElem?_map, List.getElem?_range hil] at hi
            simpa using hi
          have h3 := (hF i).2 (by omega)
          rw [Go.WideShapes.add_plain, Go.WideShapes.add_plain, e] at h3
          exact h3
      · exact .inl (by rw [show len0 = 0 by omega]; rfl)
    · intro c hc
      rw [List.mem_map] at hc
      obtain ⟨i, _, rfl⟩ := hc
      exact (hF i).1
end Go.Proofs.Ytfplajafekpccaa
