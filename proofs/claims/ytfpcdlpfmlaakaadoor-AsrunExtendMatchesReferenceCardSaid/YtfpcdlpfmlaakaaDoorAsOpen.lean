/-
  The arguments of the laws of package asrun: lists of arrays of integers.
-/
import Derived.Lib.SmallJoins
import Derived.Deep.Slices
import Derived.Deep.Fields
import Derived.ChangeSame
import Derived.OpenShut
import Derived.Test.YtfpcdlpfmlaakaaDoorAsRa
set_option linter.unusedVariables false
set_option linter.unusedSimpArgs false
namespace Go.Proofs.YtfpcdlpfmlaakaaDoor
open Go.RowKit Go.ChangeShapes Go.WideShapes Go.Deep Go.Joins Onair
section
variable {H : Type} {enc : TypeId × Value → H} {P : Program} {w : World} {base : Nat} {spare : Nat → Bool} {held : Bool}
theorem open_slice_arr {t e ei : TypeId} {n : Nat} {fuel : Nat} {cs : List Value} {x : DataW H × List MemPlace} (ht : P.underlying t = some (.slice e)) (he : P.underlying e = some (.array n ei)) (hi : P.underlying ei = some (.int .i64))
    (hc : P.cellsOf ei = 1) (hC : P.cellsOf e = n) (h : DataW.trod enc P w base spare held fuel t cs = some x) :
    cs = [.slice none 0 0] ∨
    ∃ (a : Addr) (len cap : Nat), cs = [.slice (some a) len cap] ∧ len ≤ cap ∧ cap ≤ maxLen ∧
      ∀ i, i < len → ∀ j, j < n → ∃ z : Int, w.cell? (a.add (i * n + j)) = some (.int .i64 z) ∧ -9223372036854775808 ≤ z ∧ z ≤ 9223372036854775807 := by
  rcases open_slice ht h with h0 | ⟨a, len, cap, m, k, D, Pl, hcs, hb, hl, hm, hmm, hx, hi'⟩
  · exact .inl h0.1
  · refine .inr ⟨a, len, cap, hcs, hl, hm, fun i him j hj => ?_⟩
    obtain ⟨cs', hc', ht'⟩ := hi' i (by rw [hmm]; split <;> omega)
    obtain ⟨xs, q, _, _, hcl, hxl, hel⟩ := DataW.trod_array he ht'
    have h1 := hel j hj
    rw [hc, Nat.mul_one] at h1
    rw [hC] at hc' hcl
    obtain ⟨_, _, hat⟩ := World.cells?_some hc'
    have hjl : j < cs'.length := by omega
    have hone' : (cs'.drop j).take 1 = [cs'[j]] := by
      rw [List.drop_eq_getElem_cons hjl]
      rfl
    rw [hone'] at h1
    have hxj : xs[j]? = some (xs[j]'(by omega)) := List.getElem?_eq_getElem (by omega)
    obtain ⟨z, ez, _, wz⟩ := DataW.trod_int hi (h1.trans hxj)
    simp only [List.cons.injEq, and_true] at ez
    refine ⟨z, ?_, (bounds_i64 wz).1, (bounds_i64 wz).2⟩
    rw [← Go.Deep.add_add, hat j hj, List.getElem?_eq_getElem hjl, ez]
end
theorem quads_of {W : World} {a : Addr} {len : Nat} (h : ∀ i, i < len → ∀ j, j < 4 → ∃ z : Int, W.cell? (a.add (i * 4 + j)) = some (.int .i64 z) ∧ -9223372036854775808 ≤ z ∧ z ≤ 9223372036854775807) :
    ∃ l : List Qd, l.length = len ∧ (∀ q ∈ l, QdI q) ∧ RdQ W (some a) l := by
  have key : ∀ i j : Nat, ∃ z : Int, -9223372036854775808 ≤ z ∧ z ≤ 9223372036854775807 ∧ (i < len → j < 4 → W.cell? (a.add (i * 4 + j)) = some (.int .i64 z)) := by
    intro i j
    by_cases hi : i < len ∧ j < 4
    · obtain ⟨z, h1, h2, h3⟩ := h i hi.1 j hi.2
      exact ⟨z, h2, h3, fun _ _ => h1⟩
    · exact ⟨0, by decide, by decide, fun h1 h2 => absurd ⟨h1, h2⟩ hi⟩
  have key2 : ∀ i : Nat, ∃ f : Nat → Int, ∀ j, -9223372036854775808 ≤ f j ∧ f j ≤ 9223372036854775807 ∧ (i < len → j < 4 → W.cell? (a.add (i * 4 + j)) = some (.int .i64 (f j))) := fun i => by
    obtain ⟨f, hf⟩ := Classical.axiomOfChoice (key i)
    exact ⟨f, hf⟩
  obtain ⟨F, hF⟩ := Classical.axiomOfChoice key2
  refine ⟨(List.range len).map fun i => ⟨F i 0, F i 1, F i 2, F i 3⟩, by simp, ?_, ?_⟩
  · intro q hq
    obtain ⟨i, _, rfl⟩ := List.mem_map.1 hq
    exact ⟨(hF i 0).1, (hF i 0).2.1, (hF i 1).1, (hF i 1).2.1, (hF i 2).1, (hF i 2).2.1, (hF i 3).1, (hF i 3).2.1⟩
  · by_cases hp : 0 < len
    · obtain ⟨b, off, spot⟩ := a
      have h0 := (hF 0 0).2.2 hp (by decide)
      have hspot : spot = none := by simpa [Addr.add] using World.cell?_spot h0
      subst hspot
      refine .inr ⟨b, off, rfl, block_lt (p := ⟨b, off + (0 * 4 + 0), none⟩) (by rw [Go.WideShapes.add_plain] at h0; exact h0), fun i q hi => ?_⟩
      have hil : i < len := by
        have := (List.getElem?_eq_some_iff.1 hi).1
        simpa using this
      rw [List.getElem?_map, List.getElem?_range hil] at hi
      simp only [Option.map_some, Option.some.injEq] at hi
      subst hi
      have c0 := (hF i 0).2.2 hil (by decide)
      have c1 := (hF i 1).2.2 hil (by decide)
      have c2 := (hF i 2).2.2 hil (by decide)
      have c3 := (hF i 3).2.2 hil (by decide)
      rw [Go.WideShapes.add_plain] at c0 c1 c2 c3
      exact ⟨c0, c1, c2, c3⟩
    · exact .inl (by rw [show len = 0 by omega]; rfl)
set_option maxRecDepth 100000 in
theorem open_quads {H : Type} {enc : TypeId × Value → H} {W : World} {base : Nat} {v : Value} {d : DataW H} {ps : List MemPlace}
    (hv : Value.okWide Tryd.prog W .any base 36 v) (h : DataW.Trod enc Tryd.prog W 0 (fun _ => true) true 36 v d ps) :
    ∃ (oa : Option Addr) (cap : Nat) (l : List Qd), v = .slice oa l.length cap ∧ l.length ≤ cap ∧ cap ≤ maxLen ∧ (∀ q ∈ l, QdI q) ∧ RdQ W oa l := by
  obtain ⟨a0, len, cap, rfl⟩ := okWide_slice Tryd.underlying36 hv
  obtain ⟨fuel, hf⟩ := h
  rcases open_slice_arr Tryd.underlying36 Tryd.underlying82 Tryd.underlying3 (by kernel_rfl) (by kernel_rfl) hf with hcs | ⟨a, len', cap', hcs, hl, hm, hi⟩
  · simp [Value.cells] at hcs
    obtain ⟨rfl, rfl, rfl⟩ := hcs
    exact ⟨none, 0, [], rfl, Nat.zero_le _, Nat.zero_le _, fun q hq => absurd hq (by simp), .inl rfl⟩
  · simp [Value.cells] at hcs
    obtain ⟨rfl, rfl, rfl⟩ := hcs
    obtain ⟨l, h1, h2, h3⟩ := quads_of hi
    exact ⟨some a, cap, l, by rw [h1], by rw [h1]; exact hl, hm, h2, h3⟩
/-- A group of quads in an argument: where it lies, its capacity, what it is. -/
structure Gp where
  oa : Option Addr
  cap : Nat
  l : List Qd
structure GpI (g : Gp) : Prop where
  le : g.l.length ≤ g.cap
  max : g.cap ≤ maxLen
  ok : ∀ q ∈ g.l, QdI q
def RdG (W : World) (oa : Option Addr) (G : List Gp) : Prop := G = [] ∨ ∃ b o, oa = some ⟨b, o, none⟩ ∧ b < W.heap.size ∧ ∀ i g, G[i]? = some g → W.cell? ⟨b, o + i, none⟩ = some (.slice g.oa g.l.length g.cap) ∧ RdQ W g.oa g.l
set_option maxRecDepth 100000 in
theorem open_groups {H : Type} {enc : TypeId × Value → H} {W : World} {base : Nat} {v : Value} {d : DataW H} {ps : List MemPlace}
    (hv : Value.okWide Tryd.prog W .any base 59 v) (h : DataW.Trod enc Tryd.prog W 0 (fun _ => true) true 59 v d ps) :
    ∃ (oa : Option Addr) (cap : Nat) (G : List Gp), v = .slice oa G.length cap ∧ G.length ≤ cap ∧ cap ≤ maxLen ∧ (∀ g ∈ G, GpI g) ∧ RdG W oa G := by
  obtain ⟨a0, len, cap, rfl⟩ := okWide_slice Tryd.underlying59 hv
  obtain ⟨fuel, hf⟩ := h
  rcases open_slice1 Tryd.underlying59 (by kernel_rfl) hf with ⟨hcs, _⟩ | ⟨a, len', cap', m, n, V, D, Pl, hcs, hb, hl, hm, hmm, hx, hi⟩
  · simp [Value.cells] at hcs
    obtain ⟨rfl, rfl, rfl⟩ := hcs
    exact ⟨none, 0, [], rfl, Nat.zero_le _, Nat.zero_le _, fun q hq => absurd hq (by simp), .inl rfl⟩
  · simp [Value.cells] at hcs
    obtain ⟨rfl, rfl, rfl⟩ := hcs
    simp at hmm
    subst hmm
    have key : ∀ i : Nat, ∃ g : Gp, GpI g ∧ (i < m → W.cell? (a.add i) = some (.slice g.oa g.l.length g.cap) ∧ RdQ W g.oa g.l) := by
      intro i
      by_cases him : i < m
      · obtain ⟨h1, h2⟩ := hi i him
        rcases open_slice_arr Tryd.underlying36 Tryd.underlying82 Tryd.underlying3 (by kernel_rfl) (by kernel_rfl) h2 with hv | ⟨a2, len2, cap2, hv, hl2, hm2, hq⟩
        · simp only [List.cons.injEq, and_true] at hv
          exact ⟨⟨none, 0, []⟩, ⟨Nat.le_refl _, Nat.zero_le _, fun q hq => absurd hq (by simp)⟩, fun _ => ⟨by rw [h1, hv]; rfl, .inl rfl⟩⟩
        · simp only [List.cons.injEq, and_true] at hv
          obtain ⟨l, e1, e2, e3⟩ := quads_of hq
          exact ⟨⟨some a2, cap2, l⟩, ⟨by show l.length ≤ cap2; omega, hm2, e2⟩, fun _ => ⟨by rw [h1, hv, ← e1], e3⟩⟩
      · exact ⟨⟨none, 0, []⟩, ⟨Nat.le_refl _, Nat.zero_le _, fun q hq => absurd hq (by simp)⟩, fun h => absurd h him⟩
    obtain ⟨F, hF⟩ := Classical.axiomOfChoice key
    refine ⟨some a, m, (List.range len).map F, by simp, by simpa using hl, hm, ?_, ?_⟩
    · intro g hg
      obtain ⟨i, _, rfl⟩ := List.mem_map.1 hg
      exact (hF i).1
    · by_cases hp : 0 < len
      · obtain ⟨b, off, spot⟩ := a
        have h0 := ((hF 0).2 (by omega)).1
        have hspot : spot = none := by simpa [Addr.add] using World.cell?_spot h0
        subst hspot
        refine .inr ⟨b, off, rfl, block_lt (p := ⟨b, off + 0, none⟩) (by rw [Go.WideShapes.add_plain] at h0; exact h0), fun i g hg => ?_⟩
        have hil : i < len := by
          have := (List.getElem?_eq_some_iff.1 hg).1
          simpa using this
        rw [List.getElem?_map, List.getElem?_range hil] at hg
        simp only [Option.map_some, Option.some.injEq] at hg
        subst hg
        have := (hF i).2 (by omega)
        rw [Go.WideShapes.add_plain] at this
        exact this
      · exact .inl (by rw [show len = 0 by omega]; rfl)
/-- A list of pairs of integers in memory. -/
def RdP (W : World) (oa : Option Addr) (l : List (Int × Int)) : Prop := l = [] ∨ ∃ b o, oa = some ⟨b, o, none⟩ ∧ b < W.heap.size ∧ ∀ i q, l[i]? = some q →
  W.cell? ⟨b, o + i * 2, none⟩ = some (.int .i64 q.1) ∧ W.cell? ⟨b, o + (i * 2 + 1), none⟩ = some (.int .i64 q.2)
def PrI (q : Int × Int) : Prop := -9223372036854775808 ≤ q.1 ∧ q.1 ≤ 9223372036854775807 ∧ -9223372036854775808 ≤ q.2 ∧ q.2 ≤ 9223372036854775807
set_option maxRecDepth 100000 in
theorem open_pairs {H : Type} {enc : TypeId × Value → H} {W : World} {base : Nat} {v : Value} {d : DataW H} {ps : List MemPlace}
    (hv : Value.okWide Tryd.prog W .any base 22 v) (h : DataW.Trod enc Tryd.prog W 0 (fun _ => true) true 22 v d ps) :
    ∃ (oa : Option Addr) (cap : Nat) (l : List (Int × Int)), v = .slice oa l.length cap ∧ l.length ≤ cap ∧ cap ≤ maxLen ∧ (∀ q ∈ l, PrI q) ∧ RdP W oa l := by
  obtain ⟨a0, len, cap, rfl⟩ := okWide_slice Tryd.underlying22 hv
  obtain ⟨fuel, hf⟩ := h
  rcases open_slice_arr Tryd.underlying22 Tryd.underlying30 Tryd.underlying3 (by kernel_rfl) (by kernel_rfl) hf with hcs | ⟨a, len', cap', hcs, hl, hm, hi⟩
  · simp [Value.cells] at hcs
    obtain ⟨rfl, rfl, rfl⟩ := hcs
    exact ⟨none, 0, [], rfl, Nat.zero_le _, Nat.zero_le _, fun q hq => absurd hq (by simp), .inl rfl⟩
  · simp [Value.cells] at hcs
    obtain ⟨rfl, rfl, rfl⟩ := hcs
    have key : ∀ i : Nat, ∃ q : Int × Int, PrI q ∧ (i < len → W.cell? (a.add (i * 2 + 0)) = some (.int .i64 q.1) ∧ W.cell? (a.add (i * 2 + 1)) = some (.int .i64 q.2)) := by
      intro i
      by_cases him : i < len
      · obtain ⟨x, h1, h2, h3⟩ := hi i him 0 (by decide)
        obtain ⟨y, h4, h5, h6⟩ := hi i him 1 (by decide)
        exact ⟨(x, y), ⟨h2, h3, h5, h6⟩, fun _ => ⟨h1, h4⟩⟩
      · exact ⟨(0, 0), ⟨by decide, by decide, by decide, by decide⟩, fun h => absurd h him⟩
    obtain ⟨F, hF⟩ := Classical.axiomOfChoice key
    refine ⟨some a, cap, (List.range len).map F, by simp, by simpa using hl, hm, ?_, ?_⟩
    · intro g hg
      obtain ⟨i, _, rfl⟩ := List.mem_map.1 hg
      exact (hF i).1
    · by_cases hp : 0 < len
      · obtain ⟨b, off, spot⟩ := a
        have h0 := ((hF 0).2 (by omega)).1
        have hspot : spot = none := by simpa [Addr.add] using World.cell?_spot h0
        subst hspot
        refine .inr ⟨b, off, rfl, block_lt (p := ⟨b, off + (0 * 2 + 0), none⟩) (by rw [Go.WideShapes.add_plain] at h0; exact h0), fun i g hg => ?_⟩
        have hil : i < len := by
          have := (List.getElem?_eq_some_iff.1 hg).1
          simpa using this
        rw [List.getElem?_map, List.getElem?_range hil] at hg
        simp only [Option.map_some, Option.some.injEq] at hg
        subst hg
        have := (hF i).2 (by omega)
        rw [Go.WideShapes.add_plain, Go.WideShapes.add_plain] at this
        exact this
      · exact .inl (by rw [show len = 0 by omega]; rfl)
end Go.Proofs.YtfpcdlpfmlaakaaDoor
