/-
  The arguments of the laws: an asset, a list of assets.
-/
import Derived.Lib.SmallJoins
import Derived.Deep.Slices
import Derived.Deep.Fields
import Derived.ChangeSame
import Derived.Test.YtfplajafekpccaaMedK
set_option linter.unusedVariables false
set_option linter.unusedSimpArgs false
namespace Go.Proofs.Ytfplajafekpccaa
open Go.RowKit Go.ChangeShapes Go.WideShapes Go.Deep Go.Joins Onair
section
variable {H : Type} {enc : TypeId × Value → H} {P : Program} {w : World} {base : Nat} {spare : Nat → Bool} {held : Bool}
theorem open_slice_fields {t e : TypeId} {fs : Array Field} {fuel : Nat} {cs : List Value} {x : DataW H × List MemPlace} (ht : P.underlying t = some (.slice e)) (he : P.underlying e = some (.struct fs))
    (hone : oneCellFields P fs = true) (hC : P.cellsOf e = fs.size) (h : DataW.trod enc P w base spare held fuel t cs = some x) :
    (cs = [.slice none 0 0] ∧ x = (.nil, [])) ∨
    ∃ (a : Addr) (len cap m : Nat), cs = [.slice (some a) len cap] ∧ len ≤ cap ∧ cap ≤ maxLen ∧ m = (if spare a.block then cap else len) ∧
      ∀ i, i < m → ∃ (n : Nat), ∀ (j : Nat) (f : Field), fs[j]? = some f → ∃ (v : Value) (y : DataW H × List MemPlace), w.cell? (a.add (i * fs.size + j)) = some v ∧ DataW.trod enc P w base spare held n f.type [v] = some y := by
  rcases open_slice ht h with h0 | ⟨a, len, cap, m, n, D, Pl, hcs, hb, hl, hm, hmm, hx, hi⟩
  · exact .inl h0
  · refine .inr ⟨a, len, cap, m, hcs, hl, hm, hmm, fun i him => ?_⟩
    obtain ⟨cs', hc, ht'⟩ := hi i him
    rw [hC] at hc
    obtain ⟨ys, n', hn', hy, hlen, hyl, hf⟩ := DataW.trod_struct he ht'
    obtain ⟨_, hcl, hat⟩ := World.cells?_some hc
    refine ⟨n', fun j f hj => ?_⟩
    obtain ⟨ho, hk⟩ := hone_of hone j f hj
    have hjl : j < fs.size := (Array.getElem?_eq_some_iff.1 hj).1
    have hcell := hat j hjl
    have hv : cs'[j]? = some (cs'[j]'(by omega)) := List.getElem?_eq_getElem (by omega)
    have h1 := hf j f hj
    rw [ho, hk] at h1
    have hone' : (cs'.drop j).take 1 = [cs'[j]'(by omega)] := by
      rw [List.drop_eq_getElem_cons (by omega)]
      rfl
    rw [hone'] at h1
    have hys : ys[j]? = some (ys[j]'(by omega)) := List.getElem?_eq_getElem (by omega)
    refine ⟨_, _, ?_, h1.trans hys⟩
    rw [← Go.Deep.add_add, hcell, hv]
theorem open_agg2 {r : Reach} {b0 : Nat} {t : TypeId} {f0 f1 : Field} {v : Value} {d : DataW H} {p : List MemPlace} (hs : P.underlying t = some (.struct #[f0, f1])) (hone : oneCellFields P #[f0, f1] = true) (hC : P.cellsOf t = 2)
    (hv : Value.okWide P w r b0 t v) (h : DataW.Trod enc P w base spare held t v d p) :
    ∃ (v0 v1 : Value) (y0 y1 : DataW H × List MemPlace) (n : Nat), v = .agg #[v0, v1] ∧ DataW.trod enc P w base spare held n f0.type [v0] = some y0 ∧ DataW.trod enc P w base spare held n f1.type [v1] = some y1 := by
  obtain ⟨cs, rfl, hsz⟩ := okWide_struct hs hv
  obtain ⟨l⟩ := cs
  match l, hsz.trans hC with
  | [c0, c1], _ =>
    obtain ⟨fuel, hf⟩ := h
    obtain ⟨xs, n, _, hx, _, hlen, hg⟩ := DataW.trod_struct hs hf
    obtain ⟨o0, k0⟩ := hone_of hone 0 f0 rfl
    obtain ⟨o1, k1⟩ := hone_of hone 1 f1 rfl
    match xs, hlen with
    | [y0, y1], _ =>
      exact ⟨c0, c1, y0, y1, n, rfl, by simpa [Value.cells, o0, k0] using hg 0 f0 rfl, by simpa [Value.cells, o1, k1] using hg 1 f1 rfl⟩
end
theorem open_pics {H : Type} {enc : TypeId × Value → H} {W : World} {n : Nat} {v : Value} {y : DataW H × List MemPlace} (h : DataW.trod enc Try.prog W 0 (fun _ => true) true n 22 [v] = some y) :
    ∃ (oa : Option Addr) (cap : Nat) (l : List Pic), v = .slice oa l.length cap ∧ l.length ≤ maxLen ∧ (∀ p ∈ l, POk p) ∧ RdP W oa l := by
  rcases open_slice_fields Try.underlying22 Try.underlying42 (by kernel_rfl) (by kernel_rfl) h with ⟨hcs, _⟩ | ⟨a, len, cap, m, hcs, hl, hm, hmm, hi⟩
  · simp at hcs
    subst hcs
    exact ⟨none, 0, [], rfl, Nat.zero_le _, fun c hc => absurd hc (by simp), .inl rfl⟩
  · simp at hcs
    subst hcs
    simp at hmm
    subst hmm
    have key2 : ∀ i : Nat, ∃ c : Pic, POk c ∧ (i < m → W.cell? (a.add (i * 3)) = some (.bool c.key) ∧ W.cell? (a.add (i * 3 + 1)) = some (.string c.data) ∧ W.cell? (a.add (i * 3 + 2)) = some (.int .i64 c.power)) := by
      intro i
      by_cases hi' : i < m
      · obtain ⟨n, hj⟩ := hi i hi'
        obtain ⟨v0, y0, c0, t0⟩ := hj 0 _ rfl
        obtain ⟨v1, y1, c1, t1⟩ := hj 1 _ rfl
        obtain ⟨v2, y2, c2, t2⟩ := hj 2 _ rfl
        obtain ⟨b0, e0, _⟩ := DataW.trod_bool Try.underlying4 t0
        obtain ⟨s, e1, _, w1⟩ := DataW.trod_string Try.underlying9 t1
        obtain ⟨i2, e2, _, w2⟩ := DataW.trod_int Try.underlying3 t2
        simp at e0 e1 e2
        subst e0 e1 e2
        exact ⟨⟨b0, s, i2⟩, ⟨(bounds_i64 w2).1, (bounds_i64 w2).2, w1⟩, fun _ => ⟨c0, c1, c2⟩⟩
      · exact ⟨pic0, ⟨by decide, by decide, Nat.zero_le _⟩, fun h => absurd h hi'⟩
    obtain ⟨F, hF⟩ := Classical.axiomOfChoice key2
    refine ⟨some a, m, (List.range len).map F, by simp, by rw [List.length_map, List.length_range]; omega, ?_, ?_⟩
    · intro c hc
      rw [List.mem_map] at hc
      obtain ⟨i, _, rfl⟩ := hc
      exact (hF i).1
    · by_cases hp : 0 < len
      · obtain ⟨b, off, spot⟩ := a
        have h0 := ((hF 0).2 (by omega)).1
        have hspot : spot = none := by simpa [Addr.add] using World.cell?_spot h0
        subst hspot
        refine .inr ⟨b, off, rfl, ?_, fun i c hi => ?_⟩
        · exact block_lt (p := ⟨b, off + 0 * 3, none⟩) (by rw [Go.WideShapes.add_plain] at h0; exact h0)
        · have hil : i < len := by
            have := (List.getElem?_eq_some_iff.1 hi).1
            simpa using this
          have e : F i = c := by
            rw [List.getElem?_map, List.getElem?_range hil] at hi
            simpa using hi
          have h3 := (hF i).2 (by omega)
          rw [Go.WideShapes.add_plain, Go.WideShapes.add_plain, Go.WideShapes.add_plain, e] at h3
          exact h3
      · exact .inl (by rw [show len = 0 by omega]; rfl)
theorem open_asset {H : Type} {enc : TypeId × Value → H} {W : World} {base : Nat} {v : Value} {d : DataW H} {ps : List MemPlace}
    (hv : Value.okWide Try.prog W .any base 24 v) (h : DataW.Trod enc Try.prog W 0 (fun _ => true) true 24 v d ps) :
    ∃ (i : Int) (oa : Option Addr) (cap : Nat) (l : List Pic), v = .agg #[.int .i64 i, .slice oa l.length cap] ∧ l.length ≤ maxLen ∧ (∀ p ∈ l, POk p) ∧ RdP W oa l := by
  obtain ⟨v0, v1, y0, y1, n, rfl, t0, t1⟩ := open_agg2 Try.underlying24 (by kernel_rfl) (by kernel_rfl) hv h
  obtain ⟨i0, e0, _, w0⟩ := DataW.trod_int Try.underlying3 t0
  obtain ⟨oa, cap, l, rfl, h1, h2, h3⟩ := open_pics t1
  simp at e0
  subst e0
  exact ⟨i0, oa, cap, l, rfl, h1, h2, h3⟩
end Go.Proofs.Ytfplajafekpccaa
