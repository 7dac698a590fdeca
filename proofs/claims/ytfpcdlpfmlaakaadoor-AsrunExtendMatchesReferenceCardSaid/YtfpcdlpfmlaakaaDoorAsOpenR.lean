/-
  Arguments of the laws of package asrun: a list of records, what was shown.
-/
import Derived.Test.YtfpcdlpfmlaakaaDoorAsOpen
import Derived.Test.YtfpcdlpfmlaakaaDoorAsA
set_option linter.unusedVariables false
set_option linter.unusedSimpArgs false
namespace Go.Proofs.YtfpcdlpfmlaakaaDoor
open Go.RowKit Go.ChangeShapes Go.WideShapes Go.Deep Go.Joins Onair
theorem rcells_idx : ∀ (l : List Rec) (j : Nat) (v : Value), (rcells l)[j]? = some v → ∃ i r t, l[i]? = some r ∧ j = i * 6 + t ∧ (recA r).toList[t]? = some v
  | [], j, v, h => by simp [rcells] at h
  | r :: l, j, v, h => by
    have e : rcells (r :: l) = (recA r).toList ++ rcells l := by simp [rcells]
    rw [e] at h
    by_cases hj : j < 6
    · rw [List.getElem?_append_left (by show j < 6; exact hj)] at h
      exact ⟨0, r, j, rfl, by omega, h⟩
    · rw [List.getElem?_append_right (by show 6 ≤ j; omega)] at h
      obtain ⟨i, s, t, h1, h2, h3⟩ := rcells_idx l (j - 6) v h
      exact ⟨i + 1, s, t, by simpa using h1, by omega, h3⟩
section
variable {H : Type} {enc : TypeId × Value → H} {P : Program} {w : World} {base : Nat} {spare : Nat → Bool} {held : Bool}
theorem open_slice_cells {t e : TypeId} {fs : Array Field} {fuel : Nat} {cs : List Value} {x : DataW H × List MemPlace} (ht : P.underlying t = some (.slice e)) (he : P.underlying e = some (.struct fs))
    (hone : oneCellFields P fs = true) (hC : P.cellsOf e = fs.size) (h : DataW.trod enc P w base spare held fuel t cs = some x) :
    cs = [.slice none 0 0] ∨
    ∃ (a : Addr) (len cap : Nat), cs = [.slice (some a) len cap] ∧ len ≤ cap ∧ cap ≤ maxLen ∧
      ∀ i, i < len → ∃ (n : Nat), ∀ (j : Nat) (f : Field), fs[j]? = some f → ∃ (v : Value) (y : DataW H × List MemPlace), w.cell? (a.add (i * fs.size + j)) = some v ∧ DataW.trod enc P w base spare held n f.type [v] = some y := by
  rcases open_slice ht h with h0 | ⟨a, len, cap, m, n, D, Pl, hcs, hb, hl, hm, hmm, hx, hi⟩
  · exact .inl h0.1
  · refine .inr ⟨a, len, cap, hcs, hl, hm, fun i him => ?_⟩
    obtain ⟨cs', hc, ht'⟩ := hi i (by rw [hmm]; split <;> omega)
    rw [hC] at hc
    obtain ⟨ys, n', hn', hy, hlen, hyl, hf⟩ := DataW.trod_struct he ht'
    obtain ⟨_, hcl, hat⟩ := World.cells?_some hc
    refine ⟨n', fun j f hj => ?_⟩
    obtain ⟨ho, hk⟩ := hone_of hone j f hj
    have hjl : j < fs.size := (Array.getElem?_eq_some_iff.1 hj).1
    have hcell := hat j hjl
    have hv : cs'[j]? = some (cs'[j]'(by omega)) := List.getElem?_eq_getElem (by omega)
    have h1 := hf j f hj
    rw [ho, hk] at h1
    have hone' : (cs'.drop j).take 1 = [cs'[j]'(by omega)] := by
      rw [List.drop_eq_getElem_cons (by omega)]
      rfl
    rw [hone'] at h1
    have hys : ys[j]? = some (ys[j]'(by omega)) := List.getElem?_eq_getElem (by omega)
    refine ⟨_, _, ?_, h1.trans hys⟩
    rw [← Go.Deep.add_add, hcell, hv]
theorem open_agg3 {r : Reach} {b0 : Nat} {t : TypeId} {f0 f1 f2 : Field} {v : Value} {d : DataW H} {p : List MemPlace} (hs : P.underlying t = some (.struct #[f0, f1, f2])) (hone : oneCellFields P #[f0, f1, f2] = true) (hC : P.cellsOf t = 3)
    (hv : Value.okWide P w r b0 t v) (h : DataW.Trod enc P w base spare held t v d p) :
    ∃ (v0 v1 v2 : Value) (y0 y1 y2 : DataW H × List MemPlace) (n : Nat), v = .agg #[v0, v1, v2] ∧
      DataW.trod enc P w base spare held n f0.type [v0] = some y0 ∧ DataW.trod enc P w base spare held n f1.type [v1] = some y1 ∧ DataW.trod enc P w base spare held n f2.type [v2] = some y2 := by
  obtain ⟨cs, rfl, hsz⟩ := okWide_struct hs hv
  obtain ⟨l⟩ := cs
  match l, hsz.trans hC with
  | [c0, c1, c2], _ =>
    obtain ⟨fuel, hf⟩ := h
    obtain ⟨xs, n, _, hx, _, hlen, hg⟩ := DataW.trod_struct hs hf
    obtain ⟨o0, k0⟩ := hone_of hone 0 f0 rfl
    obtain ⟨o1, k1⟩ := hone_of hone 1 f1 rfl
    obtain ⟨o2, k2⟩ := hone_of hone 2 f2 rfl
    match xs, hlen with
    | [y0, y1, y2], _ =>
      exact ⟨c0, c1, c2, y0, y1, y2, n, rfl, by simpa [Value.cells, o0, k0] using hg 0 f0 rfl, by simpa [Value.cells, o1, k1] using hg 1 f1 rfl, by simpa [Value.cells, o2, k2] using hg 2 f2 rfl⟩
end
set_option maxRecDepth 100000 in
theorem open_shown {H : Type} {enc : TypeId × Value → H} {W : World} {base : Nat} {v : Value} {d : DataW H} {ps : List MemPlace}
    (hv : Value.okWide Tryd.prog W .any base 28 v) (h : DataW.Trod enc Tryd.prog W 0 (fun _ => true) true 28 v d ps) :
    ∃ s1 s2 s3 : Int, v = .agg #[.int .i64 s1, .int .i64 s2, .int .i64 s3] := by
  obtain ⟨v0, v1, v2, y0, y1, y2, n, rfl, t0, t1, t2⟩ := open_agg3 Tryd.underlying28 (by kernel_rfl) (by kernel_rfl) hv h
  obtain ⟨i0, e0, _, w0⟩ := DataW.trod_int Tryd.underlying3 t0
  obtain ⟨i1, e1, _, w1⟩ := DataW.trod_int Tryd.underlying3 t1
  obtain ⟨i2, e2, _, w2⟩ := DataW.trod_int Tryd.underlying3 t2
  simp at e0 e1 e2
  subst e0 e1 e2
  exact ⟨i0, i1, i2, rfl⟩
set_option maxRecDepth 100000 in
theorem open_recs {H : Type} {enc : TypeId × Value → H} {W : World} {base : Nat} {v : Value} {d : DataW H} {ps : List MemPlace}
    (hv : Value.okWide Tryd.prog W .any base 24 v) (h : DataW.Trod enc Tryd.prog W 0 (fun _ => true) true 24 v d ps) :
    ∃ (oa : Option Addr) (cap : Nat) (l : List Rec), v = .slice oa l.length cap ∧ l.length ≤ cap ∧ cap ≤ maxLen ∧ (∀ r ∈ l, RecI r) ∧ RdR W oa l := by
  obtain ⟨a0, len, cap, rfl⟩ := okWide_slice Tryd.underlying24 hv
  obtain ⟨fuel, hf⟩ := h
  rcases open_slice_cells Tryd.underlying24 Tryd.underlying34 (by kernel_rfl) (by kernel_rfl) hf with hcs | ⟨a, len', cap', hcs, hl, hm, hi⟩
  · simp [Value.cells] at hcs
    obtain ⟨rfl, rfl, rfl⟩ := hcs
    exact ⟨none, 0, [], rfl, Nat.zero_le _, Nat.zero_le _, fun c hc => absurd hc (by simp), .inl rfl⟩
  · simp [Value.cells] at hcs
    obtain ⟨rfl, rfl, rfl⟩ := hcs
    have key2 : ∀ i : Nat, ∃ r : Rec, RecI r ∧ (i < len → W.cell? (a.add (i * 6 + 0)) = some (.int .i64 r.ch) ∧ W.cell? (a.add (i * 6 + 1)) = some (.int .i64 r.rg) ∧ W.cell? (a.add (i * 6 + 2)) = some (.int .i64 r.fr) ∧ W.cell? (a.add (i * 6 + 3)) = some (.int .i64 r.fs) ∧ W.cell? (a.add (i * 6 + 4)) = some (.int .i64 r.it) ∧ W.cell? (a.add (i * 6 + 5)) = some (.int .i64 r.ix)) := by
      intro i
      by_cases hi' : i < len
      · obtain ⟨n, hj⟩ := hi i hi'
        obtain ⟨v0, y0, c0, t0⟩ := hj 0 _ rfl
        obtain ⟨v1, y1, c1, t1⟩ := hj 1 _ rfl
        obtain ⟨v2, y2, c2, t2⟩ := hj 2 _ rfl
        obtain ⟨v3, y3, c3, t3⟩ := hj 3 _ rfl
        obtain ⟨v4, y4, c4, t4⟩ := hj 4 _ rfl
        obtain ⟨v5, y5, c5, t5⟩ := hj 5 _ rfl
        obtain ⟨i0, e0, _, w0⟩ := DataW.trod_int Tryd.underlying3 t0
        obtain ⟨i1, e1, _, w1⟩ := DataW.trod_int Tryd.underlying3 t1
        obtain ⟨i2, e2, _, w2⟩ := DataW.trod_int Tryd.underlying3 t2
        obtain ⟨i3, e3, _, w3⟩ := DataW.trod_int Tryd.underlying3 t3
        obtain ⟨i4, e4, _, w4⟩ := DataW.trod_int Tryd.underlying3 t4
        obtain ⟨i5, e5, _, w5⟩ := DataW.trod_int Tryd.underlying3 t5
        simp at e0 e1 e2 e3 e4 e5
        subst e0 e1 e2 e3 e4 e5
        exact ⟨⟨i0, i1, i2, i3, i4, i5⟩, ⟨(bounds_i64 w0).1, (bounds_i64 w0).2, (bounds_i64 w1).1, (bounds_i64 w1).2, (bounds_i64 w2).1, (bounds_i64 w2).2, (bounds_i64 w3).1, (bounds_i64 w3).2, (bounds_i64 w4).1, (bounds_i64 w4).2, (bounds_i64 w5).1, (bounds_i64 w5).2⟩, fun _ => ⟨c0, c1, c2, c3, c4, c5⟩⟩
      · exact ⟨⟨0, 0, 0, 0, 0, 0⟩, by constructor <;> decide, fun h => absurd h hi'⟩
    obtain ⟨F, hF⟩ := Classical.axiomOfChoice key2
    refine ⟨some a, cap, (List.range len).map F, by simp, by simpa using hl, hm, ?_, ?_⟩
    · intro c hc
      rw [List.mem_map] at hc
      obtain ⟨i, _, rfl⟩ := hc
      exact (hF i).1
    · by_cases hp : 0 < len
      · obtain ⟨b, off, spot⟩ := a
        have h0 := ((hF 0).2 hp).1
        have hspot : spot = none := by simpa [Addr.add] using World.cell?_spot h0
        subst hspot
        refine .inr ⟨b, off, rfl, block_lt (p := ⟨b, off + (0 * 6 + 0), none⟩) (by rw [Go.WideShapes.add_plain] at h0; exact h0), fun j u hj => ?_⟩
        obtain ⟨i, r, t, h1, rfl, h3⟩ := rcells_idx _ j u hj
        have hil : i < len := by
          have := (List.getElem?_eq_some_iff.1 h1).1
          simpa using this
        have e : F i = r := by
          rw [List.getElem?_map, List.getElem?_range hil] at h1
          simpa using h1
        obtain ⟨c0, c1, c2, c3, c4, c5⟩ := (hF i).2 hil
        rw [Go.WideShapes.add_plain, e] at c0 c1 c2 c3 c4 c5
        have ht : t < 6 := (List.getElem?_eq_some_iff.1 h3).1
        match t, ht, h3 with
        | 0, _, h3 => rw [c0]; exact h3
        | 1, _, h3 => rw [c1]; exact h3
        | 2, _, h3 => rw [c2]; exact h3
        | 3, _, h3 => rw [c3]; exact h3
        | 4, _, h3 => rw [c4]; exact h3
        | 5, _, h3 => rw [c5]; exact h3
      · exact .inl (by rw [show len = 0 by omega]; rfl)
end Go.Proofs.YtfpcdlpfmlaakaaDoor
