/-
  The arguments of the laws of package asrun: lists of arrays of integers.
  Arguments of the laws of package asrun: a list of records, what was shown.
  Arguments of the laws of package asrun: a proof.
-/
import Derived.Lib.SmallJoins
import Derived.Deep.Slices
import Derived.Deep.Fields
import Derived.ChangeSame
import Derived.OpenShut
import Derived.SizedLaws
import Derived.Test.YtfpcdlpfmlaakaaDoorAsRa
import Derived.Test.YtfpcdlpfmlaakaaDoorAsA
import Derived.Test.YtfpcdlpfmlaakaaDoorAsMN
set_option linter.unusedVariables false
set_option linter.unusedSimpArgs false
namespace Go.Proofs.YtfpcdlpfmlaakaaDoor
open Go.RowKit Go.ChangeShapes Go.WideShapes Go.Deep Go.Joins Onair
section
variable {H : Type} {enc : TypeId × Value → H} {P : Program} {w : World} {base : Nat} {spare : Nat → Bool} {held : Bool}
theorem open_slice_arr {t e ei : TypeId} {n : Nat} {fuel : Nat} {cs : List Value} {x : DataW H × List MemPlace} (ht : P.underlying t = some (.slice e)) (he : P.underlying e = some (.array n ei)) (hi : P.underlying ei = some (.int .i64))
    (hc : P.cellsOf ei = 1) (hC : P.cellsOf e = n) (h : DataW.trod enc P w base spare held fuel t cs = some x) :
    cs = [.slice none 0 0] ∨
    ∃ (a : Addr) (len cap : Nat), cs = [.slice (some a) len cap] ∧ len ≤ cap ∧ cap ≤ maxLen ∧
      ∀ i, i < len → ∀ j, j < n → ∃ z : Int, w.cell? (a.add (i * n + j)) = some (.int .i64 z) ∧ -9223372036854775808 ≤ z ∧ z ≤ 9223372036854775807 := by
  rcases open_slice ht h with h0 | ⟨a, len, cap, m, k, D, Pl, hcs, hb, hl, hm, hmm, hx, hi'⟩
  · exact .inl h0.1
  · refine .inr ⟨a, len, cap, hcs, hl, hm, fun i him j hj => ?_⟩
    obtain ⟨cs', hc', ht'⟩ := hi' i (by rw [hmm]; split <;> omega)
    obtain ⟨xs, q, _, _, hcl, hxl, hel⟩ := DataW.trod_array he ht'
    have h1 := hel j hj
    rw [hc, Nat.mul_one] at h1
    rw [hC] at hc' hcl
    obtain ⟨_, _, hat⟩ := World.cells?_some hc'
    have hjl : j < cs'.length := by omega
    have hone' : (cs'.drop j).take 1 = [cs'[j]] := by
      rw [List.drop_eq_getElem_cons hjl]
      rfl
    rw [hone'] at h1
    have hxj : xs[j]? = some (xs[j]'(by omega)) := List.getElem?_eq_getElem (by omega)
    obtain ⟨z, ez, _, wz⟩ := DataW.trod_int hi (h1.trans hxj)
    simp only [List.cons.injEq, and_true] at ez
    refine ⟨z, ?_, (bounds_i64 wz).1, (bounds_i64 wz).2⟩
    rw [← Go.Deep.add_add, hat j hj, List.getElem?_eq_getElem hjl, ez]
end
theorem quads_of {W : World} {a : Addr} {len : Nat} (h : ∀ i, i < len → ∀ j, j < 4 → ∃ z : Int, W.cell? (a.add (i * 4 + j)) = some (.int .i64 z) ∧ -9223372036854775808 ≤ z ∧ z ≤ 9223372036854775807) :
    ∃ l : List Qd, l.length = len ∧ (∀ q ∈ l, QdI q) ∧ RdQ W (some a) l := by
  have key : ∀ i j : Nat, ∃ z : Int, -9223372036854775808 ≤ z ∧ z ≤ 9223372036854775807 ∧ (i < len → j < 4 → W.cell? (a.add (i * 4 + j)) = some (.int .i64 z)) := by
    intro i j
    by_cases hi : i < len ∧ j < 4
    · obtain ⟨z, h1, h2, h3⟩ := h i hi.1 j hi.2
      exact ⟨z, h2, h3, fun _ _ => h1⟩
    · exact ⟨0, by decide, by decide, fun h1 h2 => absurd ⟨h1, h2⟩ hi⟩
  have key2 : ∀ i : Nat, ∃ f : Nat → Int, ∀ j, -9223372036854775808 ≤ f j ∧ f j ≤ 9223372036854775807 ∧ (i < len → j < 4 → W.cell? (a.add (i * 4 + j)) = some (.int .i64 (f j))) := fun i => by
    obtain ⟨f, hf⟩ := Classical.axiomOfChoice (key i)
    exact ⟨f, hf⟩
  obtain ⟨F, hF⟩ := Classical.axiomOfChoice key2
  refine ⟨(List.range len).map fun i => ⟨F i 0, F i 1, F i 2, F i 3⟩, by simp, ?_, ?_⟩
  · intro q hq
    obtain ⟨i, _, rfl⟩ := List.mem_map.1 hq
    exact ⟨(hF i 0).1, (hF i 0).2.1, (hF i 1).1, (hF i 1).2.1, (hF i 2).1, (hF i 2).2.1, (hF i 3).1, (hF i 3).2.1⟩
  · by_cases hp : 0 < len
    · obtain ⟨b, off, spot⟩ := a
      have h0 := (hF 0 0).2.2 hp (by decide)
      have hspot : spot = none := by simpa [Addr.add] using World.cell?_spot h0
      subst hspot
      refine .inr ⟨b, off, rfl, block_lt (p := ⟨b, off + (0 * 4 + 0), none⟩) (by rw [Go.WideShapes.add_plain] at h0; exact h0), fun i q hi => ?_⟩
      have hil : i < len := by
        have := (List.getElem?_eq_some_iff.1 hi).1
        simpa using this
      rw [List.getElem?_map, List.getElem?_range hil] at hi
      simp only [Option.map_some, Option.some.injEq] at hi
      subst hi
      have c0 := (hF i 0).2.2 hil (by decide)
      have c1 := (hF i 1).2.2 hil (by decide)
      have c2 := (hF i 2).2.2 hil (by decide)
      have c3 := (hF i 3).2.2 hil (by decide)
      rw [Go.WideShapes.add_plain] at c0 c1 c2 c3
      exact ⟨c0, c1, c2, c3⟩
    · exact .inl (by rw [show len = 0 by omega]; rfl)
set_option maxRecDepth 100000 in
theorem open_quads {H : Type} {enc : TypeId × Value → H} {W : World} {base : Nat} {v : Value} {d : DataW H} {ps : List MemPlace}
    (hv : Value.okWide Tryd.prog W .any base 36 v) (h : DataW.Trod enc Tryd.prog W 0 (fun _ => true) true 36 v d ps) :
    ∃ (oa : Option Addr) (cap : Nat) (l : List Qd), v = .slice oa l.length cap ∧ l.length ≤ cap ∧ cap ≤ maxLen ∧ (∀ q ∈ l, QdI q) ∧ RdQ W oa l := by
  obtain ⟨a0, len, cap, rfl⟩ := okWide_slice Tryd.underlying36 hv
  obtain ⟨fuel, hf⟩ := h
  rcases open_slice_arr Tryd.underlying36 Tryd.underlying82 Tryd.underlying3 (by kernel_rfl) (by kernel_rfl) hf with hcs | ⟨a, len', cap', hcs, hl, hm, hi⟩
  · simp [Value.cells] at hcs
    obtain ⟨rfl, rfl, rfl⟩ := hcs
    exact ⟨none, 0, [], rfl, Nat.zero_le _, Nat.zero_le _, fun q hq => absurd hq (by simp), .inl rfl⟩
  · simp [Value.cells] at hcs
    obtain ⟨rfl, rfl, rfl⟩ := hcs
    obtain ⟨l, h1, h2, h3⟩ := quads_of hi
    exact ⟨some a, cap, l, by rw [h1], by rw [h1]; exact hl, hm, h2, h3⟩
/-- A group of quads in an argument: where it lies, its capacity, what it is. -/
structure Gp where
  oa : Option Addr
  cap : Nat
  l : List Qd
structure GpI (g : Gp) : Prop where
  le : g.l.length ≤ g.cap
  max : g.cap ≤ maxLen
  ok : ∀ q ∈ g.l, QdI q
def RdG (W : World) (oa : Option Addr) (G : List Gp) : Prop := G = [] ∨ ∃ b o, oa = some ⟨b, o, none⟩ ∧ b < W.heap.size ∧ ∀ i g, G[i]? = some g → W.cell? ⟨b, o + i, none⟩ = some (.slice g.oa g.l.length g.cap) ∧ RdQ W g.oa g.l
set_option maxRecDepth 100000 in
theorem open_groups {H : Type} {enc : TypeId × Value → H} {W : World} {base : Nat} {v : Value} {d : DataW H} {ps : List MemPlace}
    (hv : Value.okWide Tryd.prog W .any base 59 v) (h : DataW.Trod enc Tryd.prog W 0 (fun _ => true) true 59 v d ps) :
    ∃ (oa : Option Addr) (cap : Nat) (G : List Gp), v = .slice oa G.length cap ∧ G.length ≤ cap ∧ cap ≤ maxLen ∧ (∀ g ∈ G, GpI g) ∧ RdG W oa G := by
  obtain ⟨a0, len, cap, rfl⟩ := okWide_slice Tryd.underlying59 hv
  obtain ⟨fuel, hf⟩ := h
  rcases open_slice1 Tryd.underlying59 (by kernel_rfl) hf with ⟨hcs, _⟩ | ⟨a, len', cap', m, n, V, D, Pl, hcs, hb, hl, hm, hmm, hx, hi⟩
  · simp [Value.cells] at hcs
    obtain ⟨rfl, rfl, rfl⟩ := hcs
    exact ⟨none, 0, [], rfl, Nat.zero_le _, Nat.zero_le _, fun q hq => absurd hq (by simp), .inl rfl⟩
  · simp [Value.cells] at hcs
    obtain ⟨rfl, rfl, rfl⟩ := hcs
    simp at hmm
    subst hmm
    have key : ∀ i : Nat, ∃ g : Gp, GpI g ∧ (i < m → W.cell? (a.add i) = some (.slice g.oa g.l.length g.cap) ∧ RdQ W g.oa g.l) := by
      intro i
      by_cases him : i < m
      · obtain ⟨h1, h2⟩ := hi i him
        rcases open_slice_arr Tryd.underlying36 Tryd.underlying82 Tryd.underlying3 (by kernel_rfl) (by kernel_rfl) h2 with hv | ⟨a2, len2, cap2, hv, hl2, hm2, hq⟩
        · simp only [List.cons.injEq, and_true] at hv
          exact ⟨⟨none, 0, []⟩, ⟨Nat.le_refl _, Nat.zero_le _, fun q hq => absurd hq (by simp)⟩, fun _ => ⟨by rw [h1, hv]; rfl, .inl rfl⟩⟩
        · simp only [List.cons.injEq, and_true] at hv
          obtain ⟨l, e1, e2, e3⟩ := quads_of hq
          exact ⟨⟨some a2, cap2, l⟩, ⟨by show l.length ≤ cap2; omega, hm2, e2⟩, fun _ => ⟨by rw [h1, hv, ← e1], e3⟩⟩
      · exact ⟨⟨none, 0, []⟩, ⟨Nat.le_refl _, Nat.zero_le _, fun q hq => absurd hq (by simp)⟩, fun h => absurd h him⟩
    obtain ⟨F, hF⟩ := Classical.axiomOfChoice key
    refine ⟨some a, m, (List.range len).map F, by simp, by simpa using hl, hm, ?_, ?_⟩
    · intro g hg
      obtain ⟨i, _, rfl⟩ := List.mem_map.1 hg
      exact (hF i).1
    · by_cases hp : 0 < len
      · obtain ⟨b, off, spot⟩ := a
        have h0 := ((hF 0).2 (by omega)).1
        have hspot : spot = none := by simpa [Addr.add] using World.cell?_spot h0
        subst hspot
        refine .inr ⟨b, off, rfl, block_lt (p := ⟨b, off + 0, none⟩) (by rw [Go.WideShapes.add_plain] at h0; exact h0), fun i g hg => ?_⟩
        have hil : i < len := by
          have := (List.getElem?_eq_some_iff.1 hg).1
          simpa using this
        rw [List.getElem?_map, List.getElem?_range hil] at hg
        simp only [Option.map_some, Option.some.injEq] at hg
        subst hg
        have := (hF i).2 (by omega)
        rw [Go.WideShapes.add_plain] at this
        exact this
      · exact .inl (by rw [show len = 0 by omega]; rfl)
/-- A list of pairs of integers in memory. -/
def RdP (W : World) (oa : Option Addr) (l : List (Int × Int)) : Prop := l = [] ∨ ∃ b o, oa = some ⟨b, o, none⟩ ∧ b < W.heap.size ∧ ∀ i q, l[i]? = some q →
  W.cell? ⟨b, o + i * 2, none⟩ = some (.int .i64 q.1) ∧ W.cell? ⟨b, o + (i * 2 + 1), none⟩ = some (.int .i64 q.2)
def PrI (q : Int × Int) : Prop := -9223372036854775808 ≤ q.1 ∧ q.1 ≤ 9223372036854775807 ∧ -9223372036854775808 ≤ q.2 ∧ q.2 ≤ 9223372036854775807
set_option maxRecDepth 100000 in
theorem open_pairs {H : Type} {enc : TypeId × Value → H} {W : World} {base : Nat} {v : Value} {d : DataW H} {ps : List MemPlace}
    (hv : Value.okWide Tryd.prog W .any base 22 v) (h : DataW.Trod enc Tryd.prog W 0 (fun _ => true) true 22 v d ps) :
    ∃ (oa : Option Addr) (cap : Nat) (l : List (Int × Int)), v = .slice oa l.length cap ∧ l.length ≤ cap ∧ cap ≤ maxLen ∧ (∀ q ∈ l, PrI q) ∧ RdP W oa l := by
  obtain ⟨a0, len, cap, rfl⟩ := okWide_slice Tryd.underlying22 hv
  obtain ⟨fuel, hf⟩ := h
  rcases open_slice_arr Tryd.underlying22 Tryd.underlying30 Tryd.underlying3 (by kernel_rfl) (by kernel_rfl) hf with hcs | ⟨a, len', cap', hcs, hl, hm, hi⟩
  · simp [Value.cells] at hcs
    obtain ⟨rfl, rfl, rfl⟩ := hcs
    exact ⟨none, 0, [], rfl, Nat.zero_le _, Nat.zero_le _, fun q hq => absurd hq (by simp), .inl rfl⟩
  · simp [Value.cells] at hcs
    obtain ⟨rfl, rfl, rfl⟩ := hcs
    have key : ∀ i : Nat, ∃ q : Int × Int, PrI q ∧ (i < len → W.cell? (a.add (i * 2 + 0)) = some (.int .i64 q.1) ∧ W.cell? (a.add (i * 2 + 1)) = some (.int .i64 q.2)) := by
      intro i
      by_cases him : i < len
      · obtain ⟨x, h1, h2, h3⟩ := hi i him 0 (by decide)
        obtain ⟨y, h4, h5, h6⟩ := hi i him 1 (by decide)
        exact ⟨(x, y), ⟨h2, h3, h5, h6⟩, fun _ => ⟨h1, h4⟩⟩
      · exact ⟨(0, 0), ⟨by decide, by decide, by decide, by decide⟩, fun h => absurd h him⟩
    obtain ⟨F, hF⟩ := Classical.axiomOfChoice key
    refine ⟨some a, cap, (List.range len).map F, by simp, by simpa using hl, hm, ?_, ?_⟩
    · intro g hg
      obtain ⟨i, _, rfl⟩ := List.mem_map.1 hg
      exact (hF i).1
    · by_cases hp : 0 < len
      · obtain ⟨b, off, spot⟩ := a
        have h0 := ((hF 0).2 (by omega)).1
        have hspot : spot = none := by simpa [Addr.add] using World.cell?_spot h0
        subst hspot
        refine .inr ⟨b, off, rfl, block_lt (p := ⟨b, off + (0 * 2 + 0), none⟩) (by rw [Go.WideShapes.add_plain] at h0; exact h0), fun i g hg => ?_⟩
        have hil : i < len := by
          have := (List.getElem?_eq_some_iff.1 hg).1
          simpa using this
        rw [List.getElem?_map, List.getElem?_range hil] at hg
        simp only [Option.map_some, Option.some.injEq] at hg
        subst hg
        have := (hF i).2 (by omega)
        rw [Go.WideShapes.add_plain, Go.WideShapes.add_plain] at this
        exact this
      · exact .inl (by rw [show len = 0 by omega]; rfl)
end Go.Proofs.YtfpcdlpfmlaakaaDoor
namespace Go.Proofs.YtfpcdlpfmlaakaaDoor
open Go.RowKit Go.ChangeShapes Go.WideShapes Go.Deep Go.Joins Onair
theorem rcells_idx : ∀ (l : List Rec) (j : Nat) (v : Value), (rcells l)[j]? = some v → ∃ i r t, l[i]? = some r ∧ j = i * 6 + t ∧ (recA r).toList[t]? = some v
  | [], j, v, h => by simp [rcells] at h
  | r :: l, j, v, h => by
    have e : rcells (r :: l) = (recA r).toList ++ rcells l := by simp [rcells]
    rw [e] at h
    by_cases hj : j < 6
    · rw [List.getElem?_append_left (by show j < 6; exact hj)] at h
      exact ⟨0, r, j, rfl, by omega, h⟩
    · rw [List.getElem?_append_right (by show 6 ≤ j; omega)] at h
      obtain ⟨i, s, t, h1, h2, h3⟩ := rcells_idx l (j - 6) v h
      exact ⟨i + 1, s, t, by simpa using h1, by omega, h3⟩
section
variable {H : Type} {enc : TypeId × Value → H} {P : Program} {w : World} {base : Nat} {spare : Nat → Bool} {held : Bool}
theorem open_slice_cells {t e : TypeId} {fs : Array Field} {fuel : Nat} {cs : List Value} {x : DataW H × List MemPlace} (ht : P.underlying t = some (.slice e)) (he : P.underlying e = some (.struct fs))
    (hone : oneCellFields P fs = true) (hC : P.cellsOf e = fs.size) (h : DataW.trod enc P w base spare held fuel t cs = some x) :
    cs = [.slice none 0 0] ∨
    ∃ (a : Addr) (len cap : Nat), cs = [.slice (some a) len cap] ∧ len ≤ cap ∧ cap ≤ maxLen ∧
      ∀ i, i < len → ∃ (n : Nat), ∀ (j : Nat) (f : Field), fs[j]? = some f → ∃ (v : Value) (y : DataW H × List MemPlace), w.cell? (a.add (i * fs.size + j)) = some v ∧ DataW.trod enc P w base spare held n f.type [v] = some y := by
  rcases open_slice ht h with h0 | ⟨a, len, cap, m, n, D, Pl, hcs, hb, hl, hm, hmm, hx, hi⟩
  · exact .inl h0.1
  · refine .inr ⟨a, len, cap, hcs, hl, hm, fun i him => ?_⟩
    obtain ⟨cs', hc, ht'⟩ := hi i (by rw [hmm]; split <;> omega)
    rw [hC] at hc
    obtain ⟨ys, n', hn', hy, hlen, hyl, hf⟩ := DataW.trod_struct he ht'
    obtain ⟨_, hcl, hat⟩ := World.cells?_some hc
    refine ⟨n', fun j f hj => ?_⟩
    obtain ⟨ho, hk⟩ := hone_of hone j f hj
    have hjl : j < fs.size := (Array.getElem?_eq_some_iff.1 hj).1
    have hcell := hat j hjl
    have hv : cs'[j]? = some (cs'[j]'(by omega)) := List.getElem?_eq_getElem (by omega)
    have h1 := hf j f hj
    rw [ho, hk] at h1
    have hone' : (cs'.drop j).take 1 = [cs'[j]'(by omega)] := by
      rw [List.drop_eq_getElem_cons (by omega)]
      rfl
    rw [hone'] at h1
    have hys : ys[j]? = some (ys[j]'(by omega)) := List.getElem?_eq_getElem (by omega)
    refine ⟨_, _, ?_, h1.trans hys⟩
    rw [← Go.Deep.add_add, hcell, hv]
theorem open_agg3 {r : Reach} {b0 : Nat} {t : TypeId} {f0 f1 f2 : Field} {v : Value} {d : DataW H} {p : List MemPlace} (hs : P.underlying t = some (.struct #[f0, f1, f2])) (hone : oneCellFields P #[f0, f1, f2] = true) (hC : P.cellsOf t = 3)
    (hv : Value.okWide P w r b0 t v) (h : DataW.Trod enc P w base spare held t v d p) :
    ∃ (v0 v1 v2 : Value) (y0 y1 y2 : DataW H × List MemPlace) (n : Nat), v = .agg #[v0, v1, v2] ∧
      DataW.trod enc P w base spare held n f0.type [v0] = some y0 ∧ DataW.trod enc P w base spare held n f1.type [v1] = some y1 ∧ DataW.trod enc P w base spare held n f2.type [v2] = some y2 := by
  obtain ⟨cs, rfl, hsz⟩ := okWide_struct hs hv
  obtain ⟨l⟩ := cs
  match l, hsz.trans hC with
  | [c0, c1, c2], _ =>
    obtain ⟨fuel, hf⟩ := h
    obtain ⟨xs, n, _, hx, _, hlen, hg⟩ := DataW.trod_struct hs hf
    obtain ⟨o0, k0⟩ := hone_of hone 0 f0 rfl
    obtain ⟨o1, k1⟩ := hone_of hone 1 f1 rfl
    obtain ⟨o2, k2⟩ := hone_of hone 2 f2 rfl
    match xs, hlen with
    | [y0, y1, y2], _ =>
      exact ⟨c0, c1, c2, y0, y1, y2, n, rfl, by simpa [Value.cells, o0, k0] using hg 0 f0 rfl, by simpa [Value.cells, o1, k1] using hg 1 f1 rfl, by simpa [Value.cells, o2, k2] using hg 2 f2 rfl⟩
end
set_option maxRecDepth 100000 in
theorem open_shown {H : Type} {enc : TypeId × Value → H} {W : World} {base : Nat} {v : Value} {d : DataW H} {ps : List MemPlace}
    (hv : Value.okWide Tryd.prog W .any base 28 v) (h : DataW.Trod enc Tryd.prog W 0 (fun _ => true) true 28 v d ps) :
    ∃ s1 s2 s3 : Int, v = .agg #[.int .i64 s1, .int .i64 s2, .int .i64 s3] := by
  obtain ⟨v0, v1, v2, y0, y1, y2, n, rfl, t0, t1, t2⟩ := open_agg3 Tryd.underlying28 (by kernel_rfl) (by kernel_rfl) hv h
  obtain ⟨i0, e0, _, w0⟩ := DataW.trod_int Tryd.underlying3 t0
  obtain ⟨i1, e1, _, w1⟩ := DataW.trod_int Tryd.underlying3 t1
  obtain ⟨i2, e2, _, w2⟩ := DataW.trod_int Tryd.underlying3 t2
  simp at e0 e1 e2
  subst e0 e1 e2
  exact ⟨i0, i1, i2, rfl⟩
set_option maxRecDepth 100000 in
theorem open_recs {H : Type} {enc : TypeId × Value → H} {W : World} {base : Nat} {v : Value} {d : DataW H} {ps : List MemPlace}
    (hv : Value.okWide Tryd.prog W .any base 24 v) (h : DataW.Trod enc Tryd.prog W 0 (fun _ => true) true 24 v d ps) :
    ∃ (oa : Option Addr) (cap : Nat) (l : List Rec), v = .slice oa l.length cap ∧ l.length ≤ cap ∧ cap ≤ maxLen ∧ (∀ r ∈ l, RecI r) ∧ RdR W oa l := by
  obtain ⟨a0, len, cap, rfl⟩ := okWide_slice Tryd.underlying24 hv
  obtain ⟨fuel, hf⟩ := h
  rcases open_slice_cells Tryd.underlying24 Tryd.underlying34 (by kernel_rfl) (by kernel_rfl) hf with hcs | ⟨a, len', cap', hcs, hl, hm, hi⟩
  · simp [Value.cells] at hcs
    obtain ⟨rfl, rfl, rfl⟩ := hcs
    exact ⟨none, 0, [], rfl, Nat.zero_le _, Nat.zero_le _, fun c hc => absurd hc (by simp), .inl rfl⟩
  · simp [Value.cells] at hcs
    obtain ⟨rfl, rfl, rfl⟩ := hcs
    have key2 : ∀ i : Nat, ∃ r : Rec, RecI r ∧ (i < len → W.cell? (a.add (i * 6 + 0)) = some (.int .i64 r.ch) ∧ W.cell? (a.add (i * 6 + 1)) = some (.int .i64 r.rg) ∧ W.cell? (a.add (i * 6 + 2)) = some (.int .i64 r.fr) ∧ W.cell? (a.add (i * 6 + 3)) = some (.int .i64 r.fs) ∧ W.cell? (a.add (i * 6 + 4)) = some (.int .i64 r.it) ∧ W.cell? (a.add (i * 6 + 5)) = some (.int .i64 r.ix)) := by
      intro i
      by_cases hi' : i < len
      · obtain ⟨n, hj⟩ := hi i hi'
        obtain ⟨v0, y0, c0, t0⟩ := hj 0 _ rfl
        obtain ⟨v1, y1, c1, t1⟩ := hj 1 _ rfl
        obtain ⟨v2, y2, c2, t2⟩ := hj 2 _ rfl
        obtain ⟨v3, y3, c3, t3⟩ := hj 3 _ rfl
        obtain ⟨v4, y4, c4, t4⟩ := hj 4 _ rfl
        obtain ⟨v5, y5, c5, t5⟩ := hj 5 _ rfl
        obtain ⟨i0, e0, _, w0⟩ := DataW.trod_int Tryd.underlying3 t0
        obtain ⟨i1, e1, _, w1⟩ := DataW.trod_int Tryd.underlying3 t1
        obtain ⟨i2, e2, _, w2⟩ := DataW.trod_int Tryd.underlying3 t2
        obtain ⟨i3, e3, _, w3⟩ := DataW.trod_int Tryd.underlying3 t3
        obtain ⟨i4, e4, _, w4⟩ := DataW.trod_int Tryd.underlying3 t4
        obtain ⟨i5, e5, _, w5⟩ := DataW.trod_int Tryd.underlying3 t5
        simp at e0 e1 e2 e3 e4 e5
        subst e0 e1 e2 e3 e4 e5
        exact ⟨⟨i0, i1, i2, i3, i4, i5⟩, ⟨(bounds_i64 w0).1, (bounds_i64 w0).2, (bounds_i64 w1).1, (bounds_i64 w1).2, (bounds_i64 w2).1, (bounds_i64 w2).2, (bounds_i64 w3).1, (bounds_i64 w3).2, (bounds_i64 w4).1, (bounds_i64 w4).2, (bounds_i64 w5).1, (bounds_i64 w5).2⟩, fun _ => ⟨c0, c1, c2, c3, c4, c5⟩⟩
      · exact ⟨⟨0, 0, 0, 0, 0, 0⟩, by constructor <;> decide, fun h => absurd h hi'⟩
    obtain ⟨F, hF⟩ := Classical.axiomOfChoice key2
    refine ⟨some a, cap, (List.range len).map F, by simp, by simpa using hl, hm, ?_, ?_⟩
    · intro c hc
      rw [List.mem_map] at hc
      obtain ⟨i, _, rfl⟩ := hc
      exact (hF i).1
    · by_cases hp : 0 < len
      · obtain ⟨b, off, spot⟩ := a
        have h0 := ((hF 0).2 hp).1
        have hspot : spot = none := by simpa [Addr.add] using World.cell?_spot h0
        subst hspot
        refine .inr ⟨b, off, rfl, block_lt (p := ⟨b, off + (0 * 6 + 0), none⟩) (by rw [Go.WideShapes.add_plain] at h0; exact h0), fun j u hj => ?_⟩
        obtain ⟨i, r, t, h1, rfl, h3⟩ := rcells_idx _ j u hj
        have hil : i < len := by
          have := (List.getElem?_eq_some_iff.1 h1).1
          simpa using this
        have e : F i = r := by
          rw [List.getElem?_map, List.getElem?_range hil] at h1
          simpa using h1
        obtain ⟨c0, c1, c2, c3, c4, c5⟩ := (hF i).2 hil
        rw [Go.WideShapes.add_plain, e] at c0 c1 c2 c3 c4 c5
        have ht : t < 6 := (List.getElem?_eq_some_iff.1 h3).1
        match t, ht, h3 with
        | 0, _, h3 => rw [c0]; exact h3
        | 1, _, h3 => rw [c1]; exact h3
        | 2, _, h3 => rw [c2]; exact h3
        | 3, _, h3 => rw [c3]; exact h3
        | 4, _, h3 => rw [c4]; exact h3
        | 5, _, h3 => rw [c5]; exact h3
      · exact .inl (by rw [show len = 0 by omega]; rfl)
end Go.Proofs.YtfpcdlpfmlaakaaDoor
namespace Go.Proofs.YtfpcdlpfmlaakaaDoor
open Go.RowKit Go.ChangeShapes Go.WideShapes Go.Deep Go.Joins Onair
/-- A slice of strings, cell by cell. -/
theorem open_strings_rd {H : Type} {enc : TypeId × Value → H} {W : World} {base : Nat} {t e : TypeId} {fuel : Nat} {v : Value} {x : DataW H × List MemPlace} (ht : Tryd.prog.underlying t = some (.slice e)) (he : Tryd.prog.underlying e = some .string) (hc : Tryd.prog.cellsOf e = 1)
    (h : DataW.trod enc Tryd.prog W base (fun _ => true) true fuel t [v] = some x) :
    ∃ (oa : Option Addr) (cap : Nat) (l : List ByteArray), v = .slice oa l.length cap ∧ l.length ≤ cap ∧ cap ≤ maxLen ∧ RdS W oa l := by
  rcases open_strings ht he hc h with ⟨hcs, hx⟩ | ⟨a, len', cap', ss, hcs, _, hl, hm, hz, hx, hcell, hwz⟩
  · simp at hcs
    subst hcs
    exact ⟨none, 0, [], rfl, Nat.le_refl _, Nat.zero_le _, .inl rfl⟩
  · simp at hcs
    subst hcs
    simp at hz
    have hlen : (ss.take len').length = len' := by rw [List.length_take]; omega
    refine ⟨some a, cap', ss.take len', by rw [hlen], by omega, hm, ?_⟩
    by_cases hp : 0 < ss.length
    · obtain ⟨b, off, spot⟩ := a
      have hspot : spot = none := by simpa [Addr.add] using World.cell?_spot (hcell 0 hp)
      subst hspot
      have hc' : ∀ j, j < ss.length → W.cell? ⟨b, off + j, none⟩ = some (.string (ss.getD j ByteArray.empty)) := fun j hj => by rw [← Go.WideShapes.add_plain]; exact hcell j hj
      refine .inr ⟨b, off, rfl, block_lt (hc' 0 hp), fun j y hj => ?_⟩
      rw [List.getElem?_take] at hj
      split at hj
      · have hjl := (List.getElem?_eq_some_iff.1 hj).1
        rw [hc' j hjl, List.getD_eq_getElem?_getD, hj]
        rfl
      · cases hj
    · exact .inl (List.eq_nil_of_length_eq_zero (by rw [hlen]; omega))
set_option maxRecDepth 100000 in
theorem open_proof {H : Type} {enc : TypeId × Value → H} {W : World} {base : Nat} {v : Value} {d : DataW H} {ps : List MemPlace}
    (hv : Value.okWide Tryd.prog W .any base 45 v) (h : DataW.Trod enc Tryd.prog W 0 (fun _ => true) true 45 v d ps) :
    ∃ (r : Rec) (i n : Int) (salt : ByteArray) (oa : Option Addr) (cap : Nat) (l : List ByteArray), v = .agg (proA r i n salt (.slice oa l.length cap)) ∧ RecI r ∧ (-9223372036854775808 ≤ i ∧ i ≤ 9223372036854775807) ∧ (-9223372036854775808 ≤ n ∧ n ≤ 9223372036854775807) ∧
      salt.size ≤ maxLen ∧ salt.size ∈ DataW.weights Tryd.prog 45 d ∧ l.length ≤ cap ∧ cap ≤ maxLen ∧ RdS W oa l := by
  have hC : Tryd.prog.cellsOf 45 = 10 := by kernel_rfl
  have hR : Tryd.prog.cellsOf 34 = 6 := by kernel_rfl
  have hI : Tryd.prog.cellsOf 3 = 1 := by kernel_rfl
  have hS : Tryd.prog.cellsOf 9 = 1 := by kernel_rfl
  have hL : Tryd.prog.cellsOf 43 = 1 := by kernel_rfl
  obtain ⟨cs, rfl, hsz⟩ := okWide_struct Tryd.underlying45 hv
  obtain ⟨cl⟩ := cs
  match cl, hsz.trans hC with
  | [c0, c1, c2, c3, c4, c5, c6, c7, c8, c9], _ =>
    obtain ⟨fuel, hf⟩ := h
    obtain ⟨xs, n, _, hx, _, hlen, hg⟩ := DataW.trod_struct Tryd.underlying45 hf
    have g0 := hg 0 _ rfl
    have g1 := hg 1 _ rfl
    have g2 := hg 2 _ rfl
    have g3 := hg 3 _ rfl
    have g4 := hg 4 _ rfl
    match xs, hlen with
    | [y0, y1, y2, y3, y4], _ =>
      simp [Value.cells, hR, hI, hS, hL] at g0 g1 g2 g3 g4
      obtain ⟨zs, m, _, hz, _, hzl, hk⟩ := DataW.trod_struct Tryd.underlying34 g0
      have k0 := hk 0 _ rfl
      have k1 := hk 1 _ rfl
      have k2 := hk 2 _ rfl
      have k3 := hk 3 _ rfl
      have k4 := hk 4 _ rfl
      have k5 := hk 5 _ rfl
      match zs, hzl with
      | [z0, z1, z2, z3, z4, z5], _ =>
        simp [hI] at k0 k1 k2 k3 k4 k5
        obtain ⟨i0, e0, _, w0⟩ := DataW.trod_int Tryd.underlying3 k0
        obtain ⟨i1, e1, _, w1⟩ := DataW.trod_int Tryd.underlying3 k1
        obtain ⟨i2, e2, _, w2⟩ := DataW.trod_int Tryd.underlying3 k2
        obtain ⟨i3, e3, _, w3⟩ := DataW.trod_int Tryd.underlying3 k3
        obtain ⟨i4, e4, _, w4⟩ := DataW.trod_int Tryd.underlying3 k4
        obtain ⟨i5, e5, _, w5⟩ := DataW.trod_int Tryd.underlying3 k5
        obtain ⟨i6, e6, _, w6⟩ := DataW.trod_int Tryd.underlying3 g1
        obtain ⟨i7, e7, _, w7⟩ := DataW.trod_int Tryd.underlying3 g2
        obtain ⟨s, e8, hy3, w8⟩ := DataW.trod_string Tryd.underlying9 g3
        obtain ⟨oa, cap, l, e9, q1, q2, q3⟩ := open_strings_rd Tryd.underlying43 Tryd.underlying9 hS g4
        simp at e0 e1 e2 e3 e4 e5 e6 e7 e8
        subst e0 e1 e2 e3 e4 e5 e6 e7 e8 e9
        refine ⟨⟨i0, i1, i2, i3, i4, i5⟩, i6, i7, s, oa, cap, l, rfl, ⟨(bounds_i64 w0).1, (bounds_i64 w0).2, (bounds_i64 w1).1, (bounds_i64 w1).2, (bounds_i64 w2).1, (bounds_i64 w2).2, (bounds_i64 w3).1, (bounds_i64 w3).2, (bounds_i64 w4).1, (bounds_i64 w4).2, (bounds_i64 w5).1, (bounds_i64 w5).2⟩, bounds_i64 w6, bounds_i64 w7, w8, ?_, q1, q2, q3⟩
        simp only [Prod.mk.injEq] at hx
        have hd := hx.1
        subst hd
        subst hy3
        simp only [DataW.weights, Tryd.underlying45]
        refine DataW.weights_mem_each (j := 3) (t := 9) (d := .lit (.string s.data.toList)) rfl rfl _ ?_
        simp [DataW.weights]
end Go.Proofs.YtfpcdlpfmlaakaaDoor
