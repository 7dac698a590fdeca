/-
  The arguments of the laws: an order, a message.
-/
import Derived.Lib.SmallJoins
import Derived.Deep.Slices
import Derived.Deep.Fields
import Derived.ChangeSame
import Derived.Test.YtjkiidhnmljmbaaGreatDoorGoJK
set_option linter.unusedVariables false
set_option linter.unusedSimpArgs false
namespace Go.Proofs.YtjkiidhnmljmbaaGreatDoor
open Go.RowKit Go.ChangeShapes Go.WideShapes Go.Deep Go.Joins
section
variable {H : Type} {enc : TypeId × Value → H} {P : Program} {w : World} {base : Nat} {spare : Nat → Bool} {held : Bool}
theorem open_slice_fields {t e : TypeId} {fs : Array Field} {fuel : Nat} {cs : List Value} {x : DataW H × List MemPlace} (ht : P.underlying t = some (.slice e)) (he : P.underlying e = some (.struct fs))
    (hone : oneCellFields P fs = true) (hC : P.cellsOf e = fs.size) (h : DataW.trod enc P w base spare held fuel t cs = some x) :
    (cs = [.slice none 0 0] ∧ x = (.nil, [])) ∨
    ∃ (a : Addr) (len cap m : Nat), cs = [.slice (some a) len cap] ∧ len ≤ cap ∧ cap ≤ maxLen ∧ m = (if spare a.block then cap else len) ∧
      ∀ i, i < m → ∃ (n : Nat), ∀ (j : Nat) (f : Field), fs[j]? = some f → ∃ (v : Value) (y : DataW H × List MemPlace), w.cell? (a.add (i * fs.size + j)) = some v ∧ DataW.trod enc P w base spare held n f.type [v] = some y := by
  rcases open_slice ht h with h0 | ⟨a, len, cap, m, n, D, Pl, hcs, hb, hl, hm, hmm, hx, hi⟩
  · exact .inl h0
  · refine .inr ⟨a, len, cap, m, hcs, hl, hm, hmm, fun i him => ?_⟩
    obtain ⟨cs', hc, ht'⟩ := hi i him
    rw [hC] at hc
    obtain ⟨ys, n', hn', hy, hlen, hyl, hf⟩ := DataW.trod_struct he ht'
    obtain ⟨_, hcl, hat⟩ := World.cells?_some hc
    refine ⟨n', fun j f hj => ?_⟩
    obtain ⟨ho, hk⟩ := hone_of hone j f hj
    have hjl : j < fs.size := (Array.getElem?_eq_some_iff.1 hj).1
    have hcell := hat j hjl
    have hv : cs'[j]? = some (cs'[j]'(by omega)) := List.getElem?_eq_getElem (by omega)
    have h1 := hf j f hj
    rw [ho, hk] at h1
    have hone' : (cs'.drop j).take 1 = [cs'[j]'(by omega)] := by
      rw [List.drop_eq_getElem_cons (by omega)]
      rfl
    rw [hone'] at h1
    have hys : ys[j]? = some (ys[j]'(by omega)) := List.getElem?_eq_getElem (by omega)
    refine ⟨_, _, ?_, h1.trans hys⟩
    rw [← Go.Deep.add_add, hcell, hv]
end
section
variable {H : Type} {enc : TypeId × Value → H} {W : World}
theorem open_altsA {n : Nat} {cs : List Value} {x : DataW H × List MemPlace} (hf : DataW.trod enc Tryz.prog W 0 (fun _ => true) true n 22 cs = some x) :
    ∃ (oa : Option Addr) (an ac : Nat) (al : List (Int × Int)), cs = [.slice oa an ac] ∧ al.length = an ∧ an ≤ ac ∧ ac ≤ maxLen ∧ RdA W oa al := by
  rcases open_slice_fields Tryz.underlying22 Tryz.underlying140 (by kernel_rfl) (by kernel_rfl) hf with ⟨hcs, _⟩ | ⟨a, len, cap, m, hcs, hl, hm, hmm, hi⟩
  · exact ⟨none, 0, 0, [], hcs, rfl, Nat.le_refl _, Nat.zero_le _, .inl rfl⟩
  · simp at hmm
    subst hmm
    have key2 : ∀ i : Nat, ∃ c : Int × Int, (i < m → W.cell? (a.add (i * 2)) = some (.int .i64 c.1) ∧ W.cell? (a.add (i * 2 + 1)) = some (.int .i64 c.2)) := by
      intro i
      by_cases hi' : i < m
      · obtain ⟨n, hj⟩ := hi i (by omega)
        obtain ⟨v0, y0, c0, t0⟩ := hj 0 _ rfl
        obtain ⟨v1, y1, c1, t1⟩ := hj 1 _ rfl
        obtain ⟨i0, e0, _, w0⟩ := DataW.trod_int Tryz.underlying3 t0
        obtain ⟨i1, e1, _, w1⟩ := DataW.trod_int Tryz.underlying3 t1
        simp at e0 e1
        subst e0 e1
        exact ⟨(i0, i1), fun _ => ⟨c0, c1⟩⟩
      · exact ⟨(0, 0), fun h => absurd h hi'⟩
    obtain ⟨F, hF⟩ := Classical.axiomOfChoice key2
    refine ⟨some a, len, m, (List.range len).map F, hcs, by simp, hl, hm, ?_⟩
    by_cases hp : 0 < len
    · obtain ⟨b, off, spot⟩ := a
      have h0 := ((hF 0) (by omega)).1
      have hspot : spot = none := by simpa [Addr.add] using World.cell?_spot h0
      subst hspot
      refine .inr ⟨b, off, rfl, ?_, fun i c hi => ?_⟩
      · exact block_lt (p := ⟨b, off + 0 * 2, none⟩) (by rw [Go.WideShapes.add_plain] at h0; exact h0)
      · have hil : i < len := by
          have := (List.getElem?_eq_some_iff.1 hi).1
          simpa using this
        have e : F i = c := by
          rw [List.getElem?_map, List.getElem?_range hil] at hi
          simpa using hi
        have h3 := (hF i) (by omega)
        rw [Go.WideShapes.add_plain, Go.WideShapes.add_plain, e] at h3
        exact h3
    · exact .inl (by rw [show len = 0 by omega]; rfl)
theorem cInt : Tryz.prog.cellsOf 3 = 1 := by kernel_rfl
theorem cStrG : Tryz.prog.cellsOf 9 = 1 := by kernel_rfl
theorem cAlts : Tryz.prog.cellsOf 22 = 1 := by kernel_rfl
theorem cEnt : Tryz.prog.cellsOf 24 = 7 := by kernel_rfl
theorem cCla : Tryz.prog.cellsOf 26 = 8 := by kernel_rfl
theorem cCue : Tryz.prog.cellsOf 28 = 5 := by kernel_rfl
theorem cOrd : Tryz.prog.cellsOf 30 = 26 := by kernel_rfl
theorem cMsg : Tryz.prog.cellsOf 32 = 31 := by kernel_rfl
theorem open_entryC {n : Nat} {cs : List Value} {x : DataW H × List MemPlace} (hl : cs.length = 7) (hf : DataW.trod enc Tryz.prog W 0 (fun _ => true) true n 24 cs = some x) :
    ∃ (nid item frs ear lat book : Int) (oa : Option Addr) (an ac : Nat) (al : List (Int × Int)), cs = [.int .i64 nid, .int .i64 item, .int .i64 frs, .int .i64 ear, .int .i64 lat, .int .i64 book, .slice oa an ac] ∧ al.length = an ∧ an ≤ ac ∧ ac ≤ maxLen ∧ RdA W oa al := by
  match cs, hl with
  | [c0, c1, c2, c3, c4, c5, c6], _ =>
    obtain ⟨xs, n2, _, hx, _, hlen, hg⟩ := DataW.trod_struct Tryz.underlying24 hf
    replace hlen : xs.length = 7 := hlen
    have t0 : DataW.trod enc Tryz.prog W 0 (fun _ => true) true n2 3 ((List.drop 0 [c0, c1, c2, c3, c4, c5, c6]).take (Tryz.prog.cellsOf 3)) = xs[0]? := hg 0 _ rfl
    rw [cInt] at t0
    simp only [List.drop_zero, List.drop_succ_cons, List.take_succ_cons, List.take_zero, List.drop_nil] at t0
    rw [List.getElem?_eq_getElem (by omega)] at t0
    have t1 : DataW.trod enc Tryz.prog W 0 (fun _ => true) true n2 3 ((List.drop 1 [c0, c1, c2, c3, c4, c5, c6]).take (Tryz.prog.cellsOf 3)) = xs[1]? := hg 1 _ rfl
    rw [cInt] at t1
    simp only [List.drop_zero, List.drop_succ_cons, List.take_succ_cons, List.take_zero, List.drop_nil] at t1
    rw [List.getElem?_eq_getElem (by omega)] at t1
    have t2 : DataW.trod enc Tryz.prog W 0 (fun _ => true) true n2 3 ((List.drop 2 [c0, c1, c2, c3, c4, c5, c6]).take (Tryz.prog.cellsOf 3)) = xs[2]? := hg 2 _ rfl
    rw [cInt] at t2
    simp only [List.drop_zero, List.drop_succ_cons, List.take_succ_cons, List.take_zero, List.drop_nil] at t2
    rw [List.getElem?_eq_getElem (by omega)] at t2
    have t3 : DataW.trod enc Tryz.prog W 0 (fun _ => true) true n2 3 ((List.drop 3 [c0, c1, c2, c3, c4, c5, c6]).take (Tryz.prog.cellsOf 3)) = xs[3]? := hg 3 _ rfl
    rw [cInt] at t3
    simp only [List.drop_zero, List.drop_succ_cons, List.take_succ_cons, List.take_zero, List.drop_nil] at t3
    rw [List.getElem?_eq_getElem (by omega)] at t3
    have t4 : DataW.trod enc Tryz.prog W 0 (fun _ => true) true n2 3 ((List.drop 4 [c0, c1, c2, c3, c4, c5, c6]).take (Tryz.prog.cellsOf 3)) = xs[4]? := hg 4 _ rfl
    rw [cInt] at t4
    simp only [List.drop_zero, List.drop_succ_cons, List.take_succ_cons, List.take_zero, List.drop_nil] at t4
    rw [List.getElem?_eq_getElem (by omega)] at t4
    have t5 : DataW.trod enc Tryz.prog W 0 (fun _ => true) true n2 3 ((List.drop 5 [c0, c1, c2, c3, c4, c5, c6]).take (Tryz.prog.cellsOf 3)) = xs[5]? := hg 5 _ rfl
    rw [cInt] at t5
    simp only [List.drop_zero, List.drop_succ_cons, List.take_succ_cons, List.take_zero, List.drop_nil] at t5
    rw [List.getElem?_eq_getElem (by omega)] at t5
    have t6 : DataW.trod enc Tryz.prog W 0 (fun _ => true) true n2 22 ((List.drop 6 [c0, c1, c2, c3, c4, c5, c6]).take (Tryz.prog.cellsOf 22)) = xs[6]? := hg 6 _ rfl
    rw [cAlts] at t6
    simp only [List.drop_zero, List.drop_succ_cons, List.take_succ_cons, List.take_zero, List.drop_nil] at t6
    rw [List.getElem?_eq_getElem (by omega)] at t6
    obtain ⟨i0, e0, _, w0⟩ := DataW.trod_int Tryz.underlying3 t0
    simp at e0
    subst e0
    obtain ⟨i1, e1, _, w1⟩ := DataW.trod_int Tryz.underlying3 t1
    simp at e1
    subst e1
    obtain ⟨i2, e2, _, w2⟩ := DataW.trod_int Tryz.underlying3 t2
    simp at e2
    subst e2
    obtain ⟨i3, e3, _, w3⟩ := DataW.trod_int Tryz.underlying3 t3
    simp at e3
    subst e3
    obtain ⟨i4, e4, _, w4⟩ := DataW.trod_int Tryz.underlying3 t4
    simp at e4
    subst e4
    obtain ⟨i5, e5, _, w5⟩ := DataW.trod_int Tryz.underlying3 t5
    simp at e5
    subst e5
    obtain ⟨oa, an, ac, al, e6, h1, h2, h3, h4⟩ := open_altsA t6
    simp at e6
    subst e6
    exact ⟨i0, i1, i2, i3, i4, i5, oa, an, ac, al, rfl, h1, h2, h3, h4⟩
theorem open_clauseC {n : Nat} {cs : List Value} {x : DataW H × List MemPlace} (hl : cs.length = 8) (hf : DataW.trod enc Tryz.prog W 0 (fun _ => true) true n 26 cs = some x) :
    ∃ c : ClD, cs = c.l := by
  match cs, hl with
  | [c0, c1, c2, c3, c4, c5, c6, c7], _ =>
    obtain ⟨xs, n2, _, hx, _, hlen, hg⟩ := DataW.trod_struct Tryz.underlying26 hf
    replace hlen : xs.length = 8 := hlen
    have t0 : DataW.trod enc Tryz.prog W 0 (fun _ => true) true n2 3 ((List.drop 0 [c0, c1, c2, c3, c4, c5, c6, c7]).take (Tryz.prog.cellsOf 3)) = xs[0]? := hg 0 _ rfl
    rw [cInt] at t0
    simp only [List.drop_zero, List.drop_succ_cons, List.take_succ_cons, List.take_zero, List.drop_nil] at t0
    rw [List.getElem?_eq_getElem (by omega)] at t0
    have t1 : DataW.trod enc Tryz.prog W 0 (fun _ => true) true n2 3 ((List.drop 1 [c0, c1, c2, c3, c4, c5, c6, c7]).take (Tryz.prog.cellsOf 3)) = xs[1]? := hg 1 _ rfl
    rw [cInt] at t1
    simp only [List.drop_zero, List.drop_succ_cons, List.take_succ_cons, List.take_zero, List.drop_nil] at t1
    rw [List.getElem?_eq_getElem (by omega)] at t1
    have t2 : DataW.trod enc Tryz.prog W 0 (fun _ => true) true n2 3 ((List.drop 2 [c0, c1, c2, c3, c4, c5, c6, c7]).take (Tryz.prog.cellsOf 3)) = xs[2]? := hg 2 _ rfl
    rw [cInt] at t2
    simp only [List.drop_zero, List.drop_succ_cons, List.take_succ_cons, List.take_zero, List.drop_nil] at t2
    rw [List.getElem?_eq_getElem (by omega)] at t2
    have t3 : DataW.trod enc Tryz.prog W 0 (fun _ => true) true n2 3 ((List.drop 3 [c0, c1, c2, c3, c4, c5, c6, c7]).take (Tryz.prog.cellsOf 3)) = xs[3]? := hg 3 _ rfl
    rw [cInt] at t3
    simp only [List.drop_zero, List.drop_succ_cons, List.take_succ_cons, List.take_zero, List.drop_nil] at t3
    rw [List.getElem?_eq_getElem (by omega)] at t3
    have t4 : DataW.trod enc Tryz.prog W 0 (fun _ => true) true n2 3 ((List.drop 4 [c0, c1, c2, c3, c4, c5, c6, c7]).take (Tryz.prog.cellsOf 3)) = xs[4]? := hg 4 _ rfl
    rw [cInt] at t4
    simp only [List.drop_zero, List.drop_succ_cons, List.take_succ_cons, List.take_zero, List.drop_nil] at t4
    rw [List.getElem?_eq_getElem (by omega)] at t4
    have t5 : DataW.trod enc Tryz.prog W 0 (fun _ => true) true n2 3 ((List.drop 5 [c0, c1, c2, c3, c4, c5, c6, c7]).take (Tryz.prog.cellsOf 3)) = xs[5]? := hg 5 _ rfl
    rw [cInt] at t5
    simp only [List.drop_zero, List.drop_succ_cons, List.take_succ_cons, List.take_zero, List.drop_nil] at t5
    rw [List.getElem?_eq_getElem (by omega)] at t5
    have t6 : DataW.trod enc Tryz.prog W 0 (fun _ => true) true n2 3 ((List.drop 6 [c0, c1, c2, c3, c4, c5, c6, c7]).take (Tryz.prog.cellsOf 3)) = xs[6]? := hg 6 _ rfl
    rw [cInt] at t6
    simp only [List.drop_zero, List.drop_succ_cons, List.take_succ_cons, List.take_zero, List.drop_nil] at t6
    rw [List.getElem?_eq_getElem (by omega)] at t6
    have t7 : DataW.trod enc Tryz.prog W 0 (fun _ => true) true n2 3 ((List.drop 7 [c0, c1, c2, c3, c4, c5, c6, c7]).take (Tryz.prog.cellsOf 3)) = xs[7]? := hg 7 _ rfl
    rw [cInt] at t7
    simp only [List.drop_zero, List.drop_succ_cons, List.take_succ_cons, List.take_zero, List.drop_nil] at t7
    rw [List.getElem?_eq_getElem (by omega)] at t7
    obtain ⟨i0, e0, _, w0⟩ := DataW.trod_int Tryz.underlying3 t0
    simp at e0
    subst e0
    obtain ⟨i1, e1, _, w1⟩ := DataW.trod_int Tryz.underlying3 t1
    simp at e1
    subst e1
    obtain ⟨i2, e2, _, w2⟩ := DataW.trod_int Tryz.underlying3 t2
    simp at e2
    subst e2
    obtain ⟨i3, e3, _, w3⟩ := DataW.trod_int Tryz.underlying3 t3
    simp at e3
    subst e3
    obtain ⟨i4, e4, _, w4⟩ := DataW.trod_int Tryz.underlying3 t4
    simp at e4
    subst e4
    obtain ⟨i5, e5, _, w5⟩ := DataW.trod_int Tryz.underlying3 t5
    simp at e5
    subst e5
    obtain ⟨i6, e6, _, w6⟩ := DataW.trod_int Tryz.underlying3 t6
    simp at e6
    subst e6
    obtain ⟨i7, e7, _, w7⟩ := DataW.trod_int Tryz.underlying3 t7
    simp at e7
    subst e7
    exact ⟨⟨i0, i1, i2, i3, i4, i5, i6, i7⟩, rfl⟩
theorem open_cueC {n : Nat} {cs : List Value} {x : DataW H × List MemPlace} (hl : cs.length = 5) (hf : DataW.trod enc Tryz.prog W 0 (fun _ => true) true n 28 cs = some x) :
    ∃ (i f t p : Int) (s : ByteArray), cs = cueL i f t p s ∧ s.size ≤ maxLen := by
  match cs, hl with
  | [c0, c1, c2, c3, c4], _ =>
    obtain ⟨xs, n2, _, hx, _, hlen, hg⟩ := DataW.trod_struct Tryz.underlying28 hf
    replace hlen : xs.length = 5 := hlen
    have t0 : DataW.trod enc Tryz.prog W 0 (fun _ => true) true n2 3 ((List.drop 0 [c0, c1, c2, c3, c4]).take (Tryz.prog.cellsOf 3)) = xs[0]? := hg 0 _ rfl
    rw [cInt] at t0
    simp only [List.drop_zero, List.drop_succ_cons, List.take_succ_cons, List.take_zero, List.drop_nil] at t0
    rw [List.getElem?_eq_getElem (by omega)] at t0
    have t1 : DataW.trod enc Tryz.prog W 0 (fun _ => true) true n2 3 ((List.drop 1 [c0, c1, c2, c3, c4]).take (Tryz.prog.cellsOf 3)) = xs[1]? := hg 1 _ rfl
    rw [cInt] at t1
    simp only [List.drop_zero, List.drop_succ_cons, List.take_succ_cons, List.take_zero, List.drop_nil] at t1
    rw [List.getElem?_eq_getElem (by omega)] at t1
    have t2 : DataW.trod enc Tryz.prog W 0 (fun _ => true) true n2 3 ((List.drop 2 [c0, c1, c2, c3, c4]).take (Tryz.prog.cellsOf 3)) = xs[2]? := hg 2 _ rfl
    rw [cInt] at t2
    simp only [List.drop_zero, List.drop_succ_cons, List.take_succ_cons, List.take_zero, List.drop_nil] at t2
    rw [List.getElem?_eq_getElem (by omega)] at t2
    have t3 : DataW.trod enc Tryz.prog W 0 (fun _ => true) true n2 3 ((List.drop 3 [c0, c1, c2, c3, c4]).take (Tryz.prog.cellsOf 3)) = xs[3]? := hg 3 _ rfl
    rw [cInt] at t3
    simp only [List.drop_zero, List.drop_succ_cons, List.take_succ_cons, List.take_zero, List.drop_nil] at t3
    rw [List.getElem?_eq_getElem (by omega)] at t3
    have t4 : DataW.trod enc Tryz.prog W 0 (fun _ => true) true n2 9 ((List.drop 4 [c0, c1, c2, c3, c4]).take (Tryz.prog.cellsOf 9)) = xs[4]? := hg 4 _ rfl
    rw [cStrG] at t4
    simp only [List.drop_zero, List.drop_succ_cons, List.take_succ_cons, List.take_zero, List.drop_nil] at t4
    rw [List.getElem?_eq_getElem (by omega)] at t4
    obtain ⟨i0, e0, _, w0⟩ := DataW.trod_int Tryz.underlying3 t0
    simp at e0
    subst e0
    obtain ⟨i1, e1, _, w1⟩ := DataW.trod_int Tryz.underlying3 t1
    simp at e1
    subst e1
    obtain ⟨i2, e2, _, w2⟩ := DataW.trod_int Tryz.underlying3 t2
    simp at e2
    subst e2
    obtain ⟨i3, e3, _, w3⟩ := DataW.trod_int Tryz.underlying3 t3
    simp at e3
    subst e3
    obtain ⟨s, e4, _, w4⟩ := DataW.trod_string Tryz.underlying9 t4
    simp at e4
    subst e4
    exact ⟨i0, i1, i2, i3, s, rfl, w4⟩
theorem open_orderC {n : Nat} {cs : List Value} {x : DataW H × List MemPlace} (hl : cs.length = 26) (hf : DataW.trod enc Tryz.prog W 0 (fun _ => true) true n 30 cs = some x) :
    ∃ (o : GOd) (al : List (Int × Int)), cs = o.l ∧ al.length = o.an ∧ o.an ≤ o.ac ∧ o.ac ≤ maxLen ∧ RdA W o.ao al ∧ o.txt.size ≤ maxLen := by
  match cs, hl with
  | [c0, c1, c2, c3, c4, c5, c6, c7, c8, c9, c10, c11, c12, c13, c14, c15, c16, c17, c18, c19, c20, c21, c22, c23, c24, c25], _ =>
    obtain ⟨xs, n2, _, hx, _, hlen, hg⟩ := DataW.trod_struct Tryz.underlying30 hf
    replace hlen : xs.length = 9 := hlen
    have t0 : DataW.trod enc Tryz.prog W 0 (fun _ => true) true n2 3 ((List.drop 0 [c0, c1, c2, c3, c4, c5, c6, c7, c8, c9, c10, c11, c12, c13, c14, c15, c16, c17, c18, c19, c20, c21, c22, c23, c24, c25]).take (Tryz.prog.cellsOf 3)) = xs[0]? := hg 0 _ rfl
    rw [cInt] at t0
    simp only [List.drop_zero, List.drop_succ_cons, List.take_succ_cons, List.take_zero, List.drop_nil] at t0
    rw [List.getElem?_eq_getElem (by omega)] at t0
    have t1 : DataW.trod enc Tryz.prog W 0 (fun _ => true) true n2 3 ((List.drop 1 [c0, c1, c2, c3, c4, c5, c6, c7, c8, c9, c10, c11, c12, c13, c14, c15, c16, c17, c18, c19, c20, c21, c22, c23, c24, c25]).take (Tryz.prog.cellsOf 3)) = xs[1]? := hg 1 _ rfl
    rw [cInt] at t1
    simp only [List.drop_zero, List.drop_succ_cons, List.take_succ_cons, List.take_zero, List.drop_nil] at t1
    rw [List.getElem?_eq_getElem (by omega)] at t1
    have t2 : DataW.trod enc Tryz.prog W 0 (fun _ => true) true n2 3 ((List.drop 2 [c0, c1, c2, c3, c4, c5, c6, c7, c8, c9, c10, c11, c12, c13, c14, c15, c16, c17, c18, c19, c20, c21, c22, c23, c24, c25]).take (Tryz.prog.cellsOf 3)) = xs[2]? := hg 2 _ rfl
    rw [cInt] at t2
    simp only [List.drop_zero, List.drop_succ_cons, List.take_succ_cons, List.take_zero, List.drop_nil] at t2
    rw [List.getElem?_eq_getElem (by omega)] at t2
    have t3 : DataW.trod enc Tryz.prog W 0 (fun _ => true) true n2 3 ((List.drop 3 [c0, c1, c2, c3, c4, c5, c6, c7, c8, c9, c10, c11, c12, c13, c14, c15, c16, c17, c18, c19, c20, c21, c22, c23, c24, c25]).take (Tryz.prog.cellsOf 3)) = xs[3]? := hg 3 _ rfl
    rw [cInt] at t3
    simp only [List.drop_zero, List.drop_succ_cons, List.take_succ_cons, List.take_zero, List.drop_nil] at t3
    rw [List.getElem?_eq_getElem (by omega)] at t3
    have t4 : DataW.trod enc Tryz.prog W 0 (fun _ => true) true n2 3 ((List.drop 4 [c0, c1, c2, c3, c4, c5, c6, c7, c8, c9, c10, c11, c12, c13, c14, c15, c16, c17, c18, c19, c20, c21, c22, c23, c24, c25]).take (Tryz.prog.cellsOf 3)) = xs[4]? := hg 4 _ rfl
    rw [cInt] at t4
    simp only [List.drop_zero, List.drop_succ_cons, List.take_succ_cons, List.take_zero, List.drop_nil] at t4
    rw [List.getElem?_eq_getElem (by omega)] at t4
    have t5 : DataW.trod enc Tryz.prog W 0 (fun _ => true) true n2 3 ((List.drop 5 [c0, c1, c2, c3, c4, c5, c6, c7, c8, c9, c10, c11, c12, c13, c14, c15, c16, c17, c18, c19, c20, c21, c22, c23, c24, c25]).take (Tryz.prog.cellsOf 3)) = xs[5]? := hg 5 _ rfl
    rw [cInt] at t5
    simp only [List.drop_zero, List.drop_succ_cons, List.take_succ_cons, List.take_zero, List.drop_nil] at t5
    rw [List.getElem?_eq_getElem (by omega)] at t5
    have t6 : DataW.trod enc Tryz.prog W 0 (fun _ => true) true n2 24 ((List.drop 6 [c0, c1, c2, c3, c4, c5, c6, c7, c8, c9, c10, c11, c12, c13, c14, c15, c16, c17, c18, c19, c20, c21, c22, c23, c24, c25]).take (Tryz.prog.cellsOf 24)) = xs[6]? := hg 6 _ rfl
    rw [cEnt] at t6
    simp only [List.drop_zero, List.drop_succ_cons, List.take_succ_cons, List.take_zero, List.drop_nil] at t6
    rw [List.getElem?_eq_getElem (by omega)] at t6
    have t7 : DataW.trod enc Tryz.prog W 0 (fun _ => true) true n2 26 ((List.drop 13 [c0, c1, c2, c3, c4, c5, c6, c7, c8, c9, c10, c11, c12, c13, c14, c15, c16, c17, c18, c19, c20, c21, c22, c23, c24, c25]).take (Tryz.prog.cellsOf 26)) = xs[7]? := hg 7 _ rfl
    rw [cCla] at t7
    simp only [List.drop_zero, List.drop_succ_cons, List.take_succ_cons, List.take_zero, List.drop_nil] at t7
    rw [List.getElem?_eq_getElem (by omega)] at t7
    have t8 : DataW.trod enc Tryz.prog W 0 (fun _ => true) true n2 28 ((List.drop 21 [c0, c1, c2, c3, c4, c5, c6, c7, c8, c9, c10, c11, c12, c13, c14, c15, c16, c17, c18, c19, c20, c21, c22, c23, c24, c25]).take (Tryz.prog.cellsOf 28)) = xs[8]? := hg 8 _ rfl
    rw [cCue] at t8
    simp only [List.drop_zero, List.drop_succ_cons, List.take_succ_cons, List.take_zero, List.drop_nil] at t8
    rw [List.getElem?_eq_getElem (by omega)] at t8
    obtain ⟨i0, e0, _, w0⟩ := DataW.trod_int Tryz.underlying3 t0
    simp at e0
    subst e0
    obtain ⟨i1, e1, _, w1⟩ := DataW.trod_int Tryz.underlying3 t1
    simp at e1
    subst e1
    obtain ⟨i2, e2, _, w2⟩ := DataW.trod_int Tryz.underlying3 t2
    simp at e2
    subst e2
    obtain ⟨i3, e3, _, w3⟩ := DataW.trod_int Tryz.underlying3 t3
    simp at e3
    subst e3
    obtain ⟨i4, e4, _, w4⟩ := DataW.trod_int Tryz.underlying3 t4
    simp at e4
    subst e4
    obtain ⟨i5, e5, _, w5⟩ := DataW.trod_int Tryz.underlying3 t5
    simp at e5
    subst e5
    obtain ⟨nid, item, frs, ear, lat, book, oa, an, ac, al, e6, h1, h2, h3, h4⟩ := open_entryC rfl t6
    obtain ⟨c, e7⟩ := open_clauseC rfl t7
    obtain ⟨qi, qf, qt, qp, s, e8, h5⟩ := open_cueC rfl t8
    simp only [List.cons.injEq, and_true] at e6
    obtain ⟨rfl, rfl, rfl, rfl, rfl, rfl, rfl⟩ := e6
    simp only [ClD.l, List.cons.injEq, and_true] at e7
    obtain ⟨rfl, rfl, rfl, rfl, rfl, rfl, rfl, rfl⟩ := e7
    simp only [cueL, List.cons.injEq, and_true] at e8
    obtain ⟨rfl, rfl, rfl, rfl, rfl⟩ := e8
    exact ⟨⟨i0, i1, i2, i3, i4, i5, nid, item, frs, ear, lat, book, oa, an, ac, c, qi, qf, qt, qp, s⟩, al, rfl, h1, h2, h3, h4, h5⟩
theorem open_messageC {n : Nat} {cs : List Value} {x : DataW H × List MemPlace} (hl : cs.length = 31) (hf : DataW.trod enc Tryz.prog W 0 (fun _ => true) true n 32 cs = some x) :
    ∃ (m : MOd) (al : List (Int × Int)), cs = m.l ∧ al.length = m.o.an ∧ m.o.an ≤ m.o.ac ∧ m.o.ac ≤ maxLen ∧ RdA W m.o.ao al ∧ m.o.txt.size ≤ maxLen := by
  match cs, hl with
  | [c0, c1, c2, c3, c4, c5, c6, c7, c8, c9, c10, c11, c12, c13, c14, c15, c16, c17, c18, c19, c20, c21, c22, c23, c24, c25, c26, c27, c28, c29, c30], _ =>
    obtain ⟨xs, n2, _, hx, _, hlen, hg⟩ := DataW.trod_struct Tryz.underlying32 hf
    replace hlen : xs.length = 6 := hlen
    have t0 : DataW.trod enc Tryz.prog W 0 (fun _ => true) true n2 3 ((List.drop 0 [c0, c1, c2, c3, c4, c5, c6, c7, c8, c9, c10, c11, c12, c13, c14, c15, c16, c17, c18, c19, c20, c21, c22, c23, c24, c25, c26, c27, c28, c29, c30]).take (Tryz.prog.cellsOf 3)) = xs[0]? := hg 0 _ rfl
    rw [cInt] at t0
    simp only [List.drop_zero, List.drop_succ_cons, List.take_succ_cons, List.take_zero, List.drop_nil] at t0
    rw [List.getElem?_eq_getElem (by omega)] at t0
    have t1 : DataW.trod enc Tryz.prog W 0 (fun _ => true) true n2 3 ((List.drop 1 [c0, c1, c2, c3, c4, c5, c6, c7, c8, c9, c10, c11, c12, c13, c14, c15, c16, c17, c18, c19, c20, c21, c22, c23, c24, c25, c26, c27, c28, c29, c30]).take (Tryz.prog.cellsOf 3)) = xs[1]? := hg 1 _ rfl
    rw [cInt] at t1
    simp only [List.drop_zero, List.drop_succ_cons, List.take_succ_cons, List.take_zero, List.drop_nil] at t1
    rw [List.getElem?_eq_getElem (by omega)] at t1
    have t2 : DataW.trod enc Tryz.prog W 0 (fun _ => true) true n2 3 ((List.drop 2 [c0, c1, c2, c3, c4, c5, c6, c7, c8, c9, c10, c11, c12, c13, c14, c15, c16, c17, c18, c19, c20, c21, c22, c23, c24, c25, c26, c27, c28, c29, c30]).take (Tryz.prog.cellsOf 3)) = xs[2]? := hg 2 _ rfl
    rw [cInt] at t2
    simp only [List.drop_zero, List.drop_succ_cons, List.take_succ_cons, List.take_zero, List.drop_nil] at t2
    rw [List.getElem?_eq_getElem (by omega)] at t2
    have t3 : DataW.trod enc Tryz.prog W 0 (fun _ => true) true n2 3 ((List.drop 3 [c0, c1, c2, c3, c4, c5, c6, c7, c8, c9, c10, c11, c12, c13, c14, c15, c16, c17, c18, c19, c20, c21, c22, c23, c24, c25, c26, c27, c28, c29, c30]).take (Tryz.prog.cellsOf 3)) = xs[3]? := hg 3 _ rfl
    rw [cInt] at t3
    simp only [List.drop_zero, List.drop_succ_cons, List.take_succ_cons, List.take_zero, List.drop_nil] at t3
    rw [List.getElem?_eq_getElem (by omega)] at t3
    have t4 : DataW.trod enc Tryz.prog W 0 (fun _ => true) true n2 3 ((List.drop 4 [c0, c1, c2, c3, c4, c5, c6, c7, c8, c9, c10, c11, c12, c13, c14, c15, c16, c17, c18, c19, c20, c21, c22, c23, c24, c25, c26, c27, c28, c29, c30]).take (Tryz.prog.cellsOf 3)) = xs[4]? := hg 4 _ rfl
    rw [cInt] at t4
    simp only [List.drop_zero, List.drop_succ_cons, List.take_succ_cons, List.take_zero, List.drop_nil] at t4
    rw [List.getElem?_eq_getElem (by omega)] at t4
    have t5 : DataW.trod enc Tryz.prog W 0 (fun _ => true) true n2 30 ((List.drop 5 [c0, c1, c2, c3, c4, c5, c6, c7, c8, c9, c10, c11, c12, c13, c14, c15, c16, c17, c18, c19, c20, c21, c22, c23, c24, c25, c26, c27, c28, c29, c30]).take (Tryz.prog.cellsOf 30)) = xs[5]? := hg 5 _ rfl
    rw [cOrd] at t5
    simp only [List.drop_zero, List.drop_succ_cons, List.take_succ_cons, List.take_zero, List.drop_nil] at t5
    rw [List.getElem?_eq_getElem (by omega)] at t5
    obtain ⟨i0, e0, _, w0⟩ := DataW.trod_int Tryz.underlying3 t0
    simp at e0
    subst e0
    obtain ⟨i1, e1, _, w1⟩ := DataW.trod_int Tryz.underlying3 t1
    simp at e1
    subst e1
    obtain ⟨i2, e2, _, w2⟩ := DataW.trod_int Tryz.underlying3 t2
    simp at e2
    subst e2
    obtain ⟨i3, e3, _, w3⟩ := DataW.trod_int Tryz.underlying3 t3
    simp at e3
    subst e3
    obtain ⟨i4, e4, _, w4⟩ := DataW.trod_int Tryz.underlying3 t4
    simp at e4
    subst e4
    obtain ⟨o, al, e5, h1, h2, h3, h4, h5⟩ := open_orderC rfl t5
    refine ⟨⟨i0, i1, i2, i3, i4, o⟩, al, ?_, h1, h2, h3, h4, h5⟩
    rw [e5]
    rfl
end
set_option maxRecDepth 100000 in
/-- A message that came in. -/
theorem open_msgG {H : Type} {enc : TypeId × Value → H} {W : World} {base : Nat} {v : Value} {d : DataW H} {ps : List MemPlace}
    (hv : Value.okWide Tryz.prog W .any base 32 v) (h : DataW.Trod enc Tryz.prog W 0 (fun _ => true) true 32 v d ps) :
    ∃ (m : MOd) (al : List (Int × Int)), v = .agg m.l.toArray ∧ al.length = m.o.an ∧ m.o.an ≤ m.o.ac ∧ m.o.ac ≤ maxLen ∧ RdA W m.o.ao al ∧ m.o.txt.size ≤ maxLen := by
  obtain ⟨cs, rfl, hsz⟩ := okWide_struct Tryz.underlying32 hv
  obtain ⟨fuel, hf⟩ := h
  have hl : cs.toList.length = 31 := Array.length_toList.trans (hsz.trans cMsg)
  obtain ⟨m, al, e, h1⟩ := open_messageC (cs := cs.toList) hl hf
  exact ⟨m, al, by rw [← e], h1⟩
end Go.Proofs.YtjkiidhnmljmbaaGreatDoor
