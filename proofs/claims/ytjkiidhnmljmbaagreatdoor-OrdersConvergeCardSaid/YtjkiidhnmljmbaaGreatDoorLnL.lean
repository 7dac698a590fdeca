/- The arguments of the laws: an order, a message. -/
import Derived.Lib.SmallJoins
import Derived.Deep.Slices
import Derived.Deep.Fields
import Derived.ChangeSame
import Derived.Test.YtjkiidhnmljmbaaGreatDoorLnF
import Derived.Test.YtjkiidhnmljmbaaGreatDoorLnG
import Derived.Test.YtjkiidhnmljmbaaGreatDoorLnH
import Derived.Deep.CutBlock
import Derived.Test.YtjkiidhnmljmbaaGreatDoorOrX
set_option linter.unusedVariables false
set_option linter.unusedSimpArgs false
namespace Go.Proofs.YtjkiidhnmljmbaaGreatDoor
open Go.RowKit Go.ChangeShapes Go.WideShapes Go.Deep Go.Joins
section
variable {H : Type} {enc : TypeId × Value → H} {P : Program} {w : World} {base : Nat} {spare : Nat → Bool} {held : Bool}
theorem open_slice_fields {t e : TypeId} {fs : Array Field} {fuel : Nat} {cs : List Value} {x : DataW H × List MemPlace} (ht : P.underlying t = some (.slice e)) (he : P.underlying e = some (.struct fs))
  (hone : oneCellFields P fs = true) (hC : P.cellsOf e = fs.size) (h : DataW.trod enc P w base spare held fuel t cs = some x) :
  (cs = [.slice none 0 0] ∧ x = (.nil, [])) ∨
  ∃ (a : Addr) (len cap m : Nat), cs = [.slice (some a) len cap] ∧ len ≤ cap ∧ cap ≤ maxLen ∧ m = (if spare a.block then cap else len) ∧
   ∀ i, i < m → ∃ (n : Nat), ∀ (j : Nat) (f : Field), fs[j]? = some f → ∃ (v : Value) (y : DataW H × List MemPlace), w.cell? (a.add (i * fs.size + j)) = some v ∧ DataW.trod enc P w base spare held n f.type [v] = some y := by
 rcases open_slice ht h with h0 | ⟨a, len, cap, m, n, D, Pl, hcs, hb, hl, hm, hmm, hx, hi⟩
 ·exact .inl h0
 ·refine .inr ⟨a, len, cap, m, hcs, hl, hm, hmm, fun i him => ?_⟩
  obtain ⟨cs', hc, ht'⟩ := hi i him
  rw [hC] at hc
  obtain ⟨ys, n', hn', hy, hlen, hyl, hf⟩ := DataW.trod_struct he ht'
  obtain ⟨_, hcl, hat⟩ := World.cells?_some hc
  refine ⟨n', fun j f hj => ?_⟩
  obtain ⟨ho, hk⟩ := hone_of hone j f hj
  have hjl : j < fs.size := (Array.getElem?_eq_some_iff.1 hj).1
  have hcell := hat j hjl
  have hv : cs'[j]? = some (cs'[j]'(by omega)) := List.getElem?_eq_getElem (by omega)
  have h1 := hf j f hj
  rw [ho, hk] at h1
  have hone' : (cs'.drop j).take 1 = [cs'[j]'(by omega)] := by
   rw [List.drop_eq_getElem_cons (by omega)]
   rfl
  rw [hone'] at h1
  have hys : ys[j]? = some (ys[j]'(by omega)) := List.getElem?_eq_getElem (by omega)
  refine ⟨_, _, ?_, h1.trans hys⟩
  rw [← Go.Deep.add_add, hcell, hv]
end
section
variable {H : Type} {enc : TypeId × Value → H} {W : World}
theorem open_altsA {n : Nat} {cs : List Value} {x : DataW H × List MemPlace} (hf : DataW.trod enc Tryz.prog W 0 (fun _ => true) true n 22 cs = some x) :
  ∃ (oa : Option Addr) (an ac : Nat) (al : List (Int × Int)), cs = [.slice oa an ac] ∧ al.length = an ∧ an ≤ ac ∧ ac ≤ maxLen ∧ RdA W oa al := by
 rcases open_slice_fields Tryz.underlying22 Tryz.underlying140 (by kernel_rfl) (by kernel_rfl) hf with ⟨hcs, _⟩ | ⟨a, len, cap, m, hcs, hl, hm, hmm, hi⟩
 ·exact ⟨none, 0, 0, [], hcs, rfl, Nat.le_refl _, Nat.zero_le _, .inl rfl⟩
 ·simp at hmm
  subst hmm
  have key2 : ∀ i : Nat, ∃ c : Int × Int, (i < m → W.cell? (a.add (i * 2)) = some (.int .i64 c.1) ∧ W.cell? (a.add (i * 2 + 1)) = some (.int .i64 c.2)) := by
   intro i
   by_cases hi' : i < m
   ·obtain ⟨n, hj⟩ := hi i (by omega)
    obtain ⟨v0, y0, c0, t0⟩ := hj 0 _ rfl
    obtain ⟨v1, y1, c1, t1⟩ := hj 1 _ rfl
    obtain ⟨i0, e0, _, w0⟩ := DataW.trod_int Tryz.underlying3 t0
    obtain ⟨i1, e1, _, w1⟩ := DataW.trod_int Tryz.underlying3 t1
    simp at e0 e1
    subst e0 e1
    exact ⟨(i0, i1), fun _ => ⟨c0, c1⟩⟩
   ·exact ⟨(0, 0), fun h => absurd h hi'⟩
  obtain ⟨F, hF⟩ := Classical.axiomOfChoice key2
  refine ⟨some a, len, m, (List.range len).map F, hcs, by simp, hl, hm, ?_⟩
  by_cases hp : 0 < len
  ·obtain ⟨b, off, spot⟩ := a
   have h0 := ((hF 0) (by omega)).1
   have hspot : spot = none := by simpa [Addr.add] using World.cell?_spot h0
   subst hspot
   refine .inr ⟨b, off, rfl, ?_, fun i c hi => ?_⟩
   ·exact block_lt (p := ⟨b, off + 0 * 2, none⟩) (by rw [Go.WideShapes.add_plain] at h0; exact h0)
   ·have hil : i < len := by
     have := (List.getElem?_eq_some_iff.1 hi).1
     simpa using this
    have e : F i = c := by
     rw [List.getElem?_map, List.getElem?_range hil] at hi
     simpa using hi
    have h3 := (hF i) (by omega)
    rw [Go.WideShapes.add_plain, Go.WideShapes.add_plain, e] at h3;exact h3
  ·exact .inl (by rw [show len = 0 by omega]; rfl)
theorem cInt : Tryz.prog.cellsOf 3 = 1 := by kernel_rfl
theorem cStrG : Tryz.prog.cellsOf 9 = 1 := by kernel_rfl
theorem cAlts : Tryz.prog.cellsOf 22 = 1 := by kernel_rfl
theorem cEnt : Tryz.prog.cellsOf 24 = 7 := by kernel_rfl
theorem cCla : Tryz.prog.cellsOf 26 = 8 := by kernel_rfl
theorem cCue : Tryz.prog.cellsOf 28 = 5 := by kernel_rfl
theorem cOrd : Tryz.prog.cellsOf 30 = 26 := by kernel_rfl
theorem cMsg : Tryz.prog.cellsOf 32 = 31 := by kernel_rfl
theorem open_entryC {n : Nat} {cs : List Value} {x : DataW H × List MemPlace} (hl : cs.length = 7) (hf : DataW.trod enc Tryz.prog W 0 (fun _ => true) true n 24 cs = some x) :
  ∃ (nid item frs ear lat book : Int) (oa : Option Addr) (an ac : Nat) (al : List (Int × Int)), cs = [.int .i64 nid, .int .i64 item, .int .i64 frs, .int .i64 ear, .int .i64 lat, .int .i64 book, .slice oa an ac] ∧ al.length = an ∧ an ≤ ac ∧ ac ≤ maxLen ∧ RdA W oa al := by
 match cs, hl with
 | [c0, c1, c2, c3, c4, c5, c6], _ =>
  obtain ⟨xs, n2, _, hx, _, hlen, hg⟩ := DataW.trod_struct Tryz.underlying24 hf
  replace hlen : xs.length = 7 := hlen
  have t0 : DataW.trod enc Tryz.prog W 0 (fun _ => true) true n2 3 ((List.drop 0 [c0, c1, c2, c3, c4, c5, c6]).take (Tryz.prog.cellsOf 3)) = xs[0]? := hg 0 _ rfl
  rw [cInt] at t0
  simp only [List.drop_zero, List.drop_succ_cons, List.take_succ_cons, List.take_zero, List.drop_nil] at t0
  rw [List.getElem?_eq_getElem (by omega)] at t0
  have t1 : DataW.trod enc Tryz.prog W 0 (fun _ => true) true n2 3 ((List.drop 1 [c0, c1, c2, c3, c4, c5, c6]).take (Tryz.prog.cellsOf 3)) = xs[1]? := hg 1 _ rfl
  rw [cInt] at t1
  simp only [List.drop_zero, List.drop_succ_cons, List.take_succ_cons, List.take_zero, List.drop_nil] at t1
  rw [List.getElem?_eq_getElem (by omega)] at t1
  have t2 : DataW.trod enc Tryz.prog W 0 (fun _ => true) true n2 3 ((List.drop 2 [c0, c1, c2, c3, c4, c5, c6]).take (Tryz.prog.cellsOf 3)) = xs[2]? := hg 2 _ rfl
  rw [cInt] at t2
  simp only [List.drop_zero, List.drop_succ_cons, List.take_succ_cons, List.take_zero, List.drop_nil] at t2
  rw [List.getElem?_eq_getElem (by omega)] at t2
  have t3 : DataW.trod enc Tryz.prog W 0 (fun _ => true) true n2 3 ((List.drop 3 [c0, c1, c2, c3, c4, c5, c6]).take (Tryz.prog.cellsOf 3)) = xs[3]? := hg 3 _ rfl
  rw [cInt] at t3
  simp only [List.drop_zero, List.drop_succ_cons, List.take_succ_cons, List.take_zero, List.drop_nil] at t3
  rw [List.getElem?_eq_getElem (by omega)] at t3
  have t4 : DataW.trod enc Tryz.prog W 0 (fun _ => true) true n2 3 ((List.drop 4 [c0, c1, c2, c3, c4, c5, c6]).take (Tryz.prog.cellsOf 3)) = xs[4]? := hg 4 _ rfl
  rw [cInt] at t4
  simp only [List.drop_zero, List.drop_succ_cons, List.take_succ_cons, List.take_zero, List.drop_nil] at t4
  rw [List.getElem?_eq_getElem (by omega)] at t4
  have t5 : DataW.trod enc Tryz.prog W 0 (fun _ => true) true n2 3 ((List.drop 5 [c0, c1, c2, c3, c4, c5, c6]).take (Tryz.prog.cellsOf 3)) = xs[5]? := hg 5 _ rfl
  rw [cInt] at t5
  simp only [List.drop_zero, List.drop_succ_cons, List.take_succ_cons, List.take_zero, List.drop_nil] at t5
  rw [List.getElem?_eq_getElem (by omega)] at t5
  have t6 : DataW.trod enc Tryz.prog W 0 (fun _ => true) true n2 22 ((List.drop 6 [c0, c1, c2, c3, c4, c5, c6]).take (Tryz.prog.cellsOf 22)) = xs[6]? := hg 6 _ rfl
  rw [cAlts] at t6
  simp only [List.drop_zero, List.drop_succ_cons, List.take_succ_cons, List.take_zero, List.drop_nil] at t6
  rw [List.getElem?_eq_getElem (by omega)] at t6
  obtain ⟨i0, e0, _, w0⟩ := DataW.trod_int Tryz.underlying3 t0
  simp at e0
  subst e0
  obtain ⟨i1, e1, _, w1⟩ := DataW.trod_int Tryz.underlying3 t1
  simp at e1
  subst e1
  obtain ⟨i2, e2, _, w2⟩ := DataW.trod_int Tryz.underlying3 t2
  simp at e2
  subst e2
  obtain ⟨i3, e3, _, w3⟩ := DataW.trod_int Tryz.underlying3 t3
  simp at e3
  subst e3
  obtain ⟨i4, e4, _, w4⟩ := DataW.trod_int Tryz.underlying3 t4
  simp at e4
  subst e4
  obtain ⟨i5, e5, _, w5⟩ := DataW.trod_int Tryz.underlying3 t5
  simp at e5
  subst e5
  obtain ⟨oa, an, ac, al, e6, h1, h2, h3, h4⟩ := open_altsA t6
  simp at e6
  subst e6;exact ⟨i0, i1, i2, i3, i4, i5, oa, an, ac, al, rfl, h1, h2, h3, h4⟩
theorem open_clauseC {n : Nat} {cs : List Value} {x : DataW H × List MemPlace} (hl : cs.length = 8) (hf : DataW.trod enc Tryz.prog W 0 (fun _ => true) true n 26 cs = some x) :
  ∃ c : ClD, cs = c.l := by
 match cs, hl with
 | [c0, c1, c2, c3, c4, c5, c6, c7], _ =>
  obtain ⟨xs, n2, _, hx, _, hlen, hg⟩ := DataW.trod_struct Tryz.underlying26 hf
  replace hlen : xs.length = 8 := hlen
  have t0 : DataW.trod enc Tryz.prog W 0 (fun _ => true) true n2 3 ((List.drop 0 [c0, c1, c2, c3, c4, c5, c6, c7]).take (Tryz.prog.cellsOf 3)) = xs[0]? := hg 0 _ rfl
  rw [cInt] at t0
  simp only [List.drop_zero, List.drop_succ_cons, List.take_succ_cons, List.take_zero, List.drop_nil] at t0
  rw [List.getElem?_eq_getElem (by omega)] at t0
  have t1 : DataW.trod enc Tryz.prog W 0 (fun _ => true) true n2 3 ((List.drop 1 [c0, c1, c2, c3, c4, c5, c6, c7]).take (Tryz.prog.cellsOf 3)) = xs[1]? := hg 1 _ rfl
  rw [cInt] at t1
  simp only [List.drop_zero, List.drop_succ_cons, List.take_succ_cons, List.take_zero, List.drop_nil] at t1
  rw [List.getElem?_eq_getElem (by omega)] at t1
  have t2 : DataW.trod enc Tryz.prog W 0 (fun _ => true) true n2 3 ((List.drop 2 [c0, c1, c2, c3, c4, c5, c6, c7]).take (Tryz.prog.cellsOf 3)) = xs[2]? := hg 2 _ rfl
  rw [cInt] at t2
  simp only [List.drop_zero, List.drop_succ_cons, List.take_succ_cons, List.take_zero, List.drop_nil] at t2
  rw [List.getElem?_eq_getElem (by omega)] at t2
  have t3 : DataW.trod enc Tryz.prog W 0 (fun _ => true) true n2 3 ((List.drop 3 [c0, c1, c2, c3, c4, c5, c6, c7]).take (Tryz.prog.cellsOf 3)) = xs[3]? := hg 3 _ rfl
  rw [cInt] at t3
  simp only [List.drop_zero, List.drop_succ_cons, List.take_succ_cons, List.take_zero, List.drop_nil] at t3
  rw [List.getElem?_eq_getElem (by omega)] at t3
  have t4 : DataW.trod enc Tryz.prog W 0 (fun _ => true) true n2 3 ((List.drop 4 [c0, c1, c2, c3, c4, c5, c6, c7]).take (Tryz.prog.cellsOf 3)) = xs[4]? := hg 4 _ rfl
  rw [cInt] at t4
  simp only [List.drop_zero, List.drop_succ_cons, List.take_succ_cons, List.take_zero, List.drop_nil] at t4
  rw [List.getElem?_eq_getElem (by omega)] at t4
  have t5 : DataW.trod enc Tryz.prog W 0 (fun _ => true) true n2 3 ((List.drop 5 [c0, c1, c2, c3, c4, c5, c6, c7]).take (Tryz.prog.cellsOf 3)) = xs[5]? := hg 5 _ rfl
  rw [cInt] at t5
  simp only [List.drop_zero, List.drop_succ_cons, List.take_succ_cons, List.take_zero, List.drop_nil] at t5
  rw [List.getElem?_eq_getElem (by omega)] at t5
  have t6 : DataW.trod enc Tryz.prog W 0 (fun _ => true) true n2 3 ((List.drop 6 [c0, c1, c2, c3, c4, c5, c6, c7]).take (Tryz.prog.cellsOf 3)) = xs[6]? := hg 6 _ rfl
  rw [cInt] at t6
  simp only [List.drop_zero, List.drop_succ_cons, List.take_succ_cons, List.take_zero, List.drop_nil] at t6
  rw [List.getElem?_eq_getElem (by omega)] at t6
  have t7 : DataW.trod enc Tryz.prog W 0 (fun _ => true) true n2 3 ((List.drop 7 [c0, c1, c2, c3, c4, c5, c6, c7]).take (Tryz.prog.cellsOf 3)) = xs[7]? := hg 7 _ rfl
  rw [cInt] at t7
  simp only [List.drop_zero, List.drop_succ_cons, List.take_succ_cons, List.take_zero, List.drop_nil] at t7
  rw [List.getElem?_eq_getElem (by omega)] at t7
  obtain ⟨i0, e0, _, w0⟩ := DataW.trod_int Tryz.underlying3 t0
  simp at e0
  subst e0
  obtain ⟨i1, e1, _, w1⟩ := DataW.trod_int Tryz.underlying3 t1
  simp at e1
  subst e1
  obtain ⟨i2, e2, _, w2⟩ := DataW.trod_int Tryz.underlying3 t2
  simp at e2
  subst e2
  obtain ⟨i3, e3, _, w3⟩ := DataW.trod_int Tryz.underlying3 t3
  simp at e3
  subst e3
  obtain ⟨i4, e4, _, w4⟩ := DataW.trod_int Tryz.underlying3 t4
  simp at e4
  subst e4
  obtain ⟨i5, e5, _, w5⟩ := DataW.trod_int Tryz.underlying3 t5
  simp at e5
  subst e5
  obtain ⟨i6, e6, _, w6⟩ := DataW.trod_int Tryz.underlying3 t6
  simp at e6
  subst e6
  obtain ⟨i7, e7, _, w7⟩ := DataW.trod_int Tryz.underlying3 t7
  simp at e7
  subst e7
  exact ⟨⟨i0, i1, i2, i3, i4, i5, i6, i7⟩, rfl⟩
theorem open_cueC {n : Nat} {cs : List Value} {x : DataW H × List MemPlace} (hl : cs.length = 5) (hf : DataW.trod enc Tryz.prog W 0 (fun _ => true) true n 28 cs = some x) :
  ∃ (i f t p : Int) (s : ByteArray), cs = cueL i f t p s ∧ s.size ≤ maxLen := by
 match cs, hl with
 | [c0, c1, c2, c3, c4], _ =>
  obtain ⟨xs, n2, _, hx, _, hlen, hg⟩ := DataW.trod_struct Tryz.underlying28 hf
  replace hlen : xs.length = 5 := hlen
  have t0 : DataW.trod enc Tryz.prog W 0 (fun _ => true) true n2 3 ((List.drop 0 [c0, c1, c2, c3, c4]).take (Tryz.prog.cellsOf 3)) = xs[0]? := hg 0 _ rfl
  rw [cInt] at t0
  simp only [List.drop_zero, List.drop_succ_cons, List.take_succ_cons, List.take_zero, List.drop_nil] at t0
  rw [List.getElem?_eq_getElem (by omega)] at t0
  have t1 : DataW.trod enc Tryz.prog W 0 (fun _ => true) true n2 3 ((List.drop 1 [c0, c1, c2, c3, c4]).take (Tryz.prog.cellsOf 3)) = xs[1]? := hg 1 _ rfl
  rw [cInt] at t1
  simp only [List.drop_zero, List.drop_succ_cons, List.take_succ_cons, List.take_zero, List.drop_nil] at t1
  rw [List.getElem?_eq_getElem (by omega)] at t1
  have t2 : DataW.trod enc Tryz.prog W 0 (fun _ => true) true n2 3 ((List.drop 2 [c0, c1, c2, c3, c4]).take (Tryz.prog.cellsOf 3)) = xs[2]? := hg 2 _ rfl
  rw [cInt] at t2
  simp only [List.drop_zero, List.drop_succ_cons, List.take_succ_cons, List.take_zero, List.drop_nil] at t2
  rw [List.getElem?_eq_getElem (by omega)] at t2
  have t3 : DataW.trod enc Tryz.prog W 0 (fun _ => true) true n2 3 ((List.drop 3 [c0, c1, c2, c3, c4]).take (Tryz.prog.cellsOf 3)) = xs[3]? := hg 3 _ rfl
  rw [cInt] at t3
  simp only [List.drop_zero, List.drop_succ_cons, List.take_succ_cons, List.take_zero, List.drop_nil] at t3
  rw [List.getElem?_eq_getElem (by omega)] at t3
  have t4 : DataW.trod enc Tryz.prog W 0 (fun _ => true) true n2 9 ((List.drop 4 [c0, c1, c2, c3, c4]).take (Tryz.prog.cellsOf 9)) = xs[4]? := hg 4 _ rfl
  rw [cStrG] at t4
  simp only [List.drop_zero, List.drop_succ_cons, List.take_succ_cons, List.take_zero, List.drop_nil] at t4
  rw [List.getElem?_eq_getElem (by omega)] at t4
  obtain ⟨i0, e0, _, w0⟩ := DataW.trod_int Tryz.underlying3 t0
  simp at e0
  subst e0
  obtain ⟨i1, e1, _, w1⟩ := DataW.trod_int Tryz.underlying3 t1
  simp at e1
  subst e1
  obtain ⟨i2, e2, _, w2⟩ := DataW.trod_int Tryz.underlying3 t2
  simp at e2
  subst e2
  obtain ⟨i3, e3, _, w3⟩ := DataW.trod_int Tryz.underlying3 t3
  simp at e3
  subst e3
  obtain ⟨s, e4, _, w4⟩ := DataW.trod_string Tryz.underlying9 t4
  simp at e4
  subst e4;exact ⟨i0, i1, i2, i3, s, rfl, w4⟩
theorem open_orderC {n : Nat} {cs : List Value} {x : DataW H × List MemPlace} (hl : cs.length = 26) (hf : DataW.trod enc Tryz.prog W 0 (fun _ => true) true n 30 cs = some x) :
  ∃ (o : GOd) (al : List (Int × Int)), cs = o.l ∧ al.length = o.an ∧ o.an ≤ o.ac ∧ o.ac ≤ maxLen ∧ RdA W o.ao al ∧ o.txt.size ≤ maxLen := by
 match cs, hl with
 | [c0, c1, c2, c3, c4, c5, c6, c7, c8, c9, c10, c11, c12, c13, c14, c15, c16, c17, c18, c19, c20, c21, c22, c23, c24, c25], _ =>
  obtain ⟨xs, n2, _, hx, _, hlen, hg⟩ := DataW.trod_struct Tryz.underlying30 hf
  replace hlen : xs.length = 9 := hlen
  have t0 : DataW.trod enc Tryz.prog W 0 (fun _ => true) true n2 3 ((List.drop 0 [c0, c1, c2, c3, c4, c5, c6, c7, c8, c9, c10, c11, c12, c13, c14, c15, c16, c17, c18, c19, c20, c21, c22, c23, c24, c25]).take (Tryz.prog.cellsOf 3)) = xs[0]? := hg 0 _ rfl
  rw [cInt] at t0
  simp only [List.drop_zero, List.drop_succ_cons, List.take_succ_cons, List.take_zero, List.drop_nil] at t0
  rw [List.getElem?_eq_getElem (by omega)] at t0
  have t1 : DataW.trod enc Tryz.prog W 0 (fun _ => true) true n2 3 ((List.drop 1 [c0, c1, c2, c3, c4, c5, c6, c7, c8, c9, c10, c11, c12, c13, c14, c15, c16, c17, c18, c19, c20, c21, c22, c23, c24, c25]).take (Tryz.prog.cellsOf 3)) = xs[1]? := hg 1 _ rfl
  rw [cInt] at t1
  simp only [List.drop_zero, List.drop_succ_cons, List.take_succ_cons, List.take_zero, List.drop_nil] at t1
  rw [List.getElem?_eq_getElem (by omega)] at t1
  have t2 : DataW.trod enc Tryz.prog W 0 (fun _ => true) true n2 3 ((List.drop 2 [c0, c1, c2, c3, c4, c5, c6, c7, c8, c9, c10, c11, c12, c13, c14, c15, c16, c17, c18, c19, c20, c21, c22, c23, c24, c25]).take (Tryz.prog.cellsOf 3)) = xs[2]? := hg 2 _ rfl
  rw [cInt] at t2
  simp only [List.drop_zero, List.drop_succ_cons, List.take_succ_cons, List.take_zero, List.drop_nil] at t2
  rw [List.getElem?_eq_getElem (by omega)] at t2
  have t3 : DataW.trod enc Tryz.prog W 0 (fun _ => true) true n2 3 ((List.drop 3 [c0, c1, c2, c3, c4, c5, c6, c7, c8, c9, c10, c11, c12, c13, c14, c15, c16, c17, c18, c19, c20, c21, c22, c23, c24, c25]).take (Tryz.prog.cellsOf 3)) = xs[3]? := hg 3 _ rfl
  rw [cInt] at t3
  simp only [List.drop_zero, List.drop_succ_cons, List.take_succ_cons, List.take_zero, List.drop_nil] at t3
  rw [List.getElem?_eq_getElem (by omega)] at t3
  have t4 : DataW.trod enc Tryz.prog W 0 (fun _ => true) true n2 3 ((List.drop 4 [c0, c1, c2, c3, c4, c5, c6, c7, c8, c9, c10, c11, c12, c13, c14, c15, c16, c17, c18, c19, c20, c21, c22, c23, c24, c25]).take (Tryz.prog.cellsOf 3)) = xs[4]? := hg 4 _ rfl
  rw [cInt] at t4
  simp only [List.drop_zero, List.drop_succ_cons, List.take_succ_cons, List.take_zero, List.drop_nil] at t4
  rw [List.getElem?_eq_getElem (by omega)] at t4
  have t5 : DataW.trod enc Tryz.prog W 0 (fun _ => true) true n2 3 ((List.drop 5 [c0, c1, c2, c3, c4, c5, c6, c7, c8, c9, c10, c11, c12, c13, c14, c15, c16, c17, c18, c19, c20, c21, c22, c23, c24, c25]).take (Tryz.prog.cellsOf 3)) = xs[5]? := hg 5 _ rfl
  rw [cInt] at t5
  simp only [List.drop_zero, List.drop_succ_cons, List.take_succ_cons, List.take_zero, List.drop_nil] at t5
  rw [List.getElem?_eq_getElem (by omega)] at t5
  have t6 : DataW.trod enc Tryz.prog W 0 (fun _ => true) true n2 24 ((List.drop 6 [c0, c1, c2, c3, c4, c5, c6, c7, c8, c9, c10, c11, c12, c13, c14, c15, c16, c17, c18, c19, c20, c21, c22, c23, c24, c25]).take (Tryz.prog.cellsOf 24)) = xs[6]? := hg 6 _ rfl
  rw [cEnt] at t6
  simp only [List.drop_zero, List.drop_succ_cons, List.take_succ_cons, List.take_zero, List.drop_nil] at t6
  rw [List.getElem?_eq_getElem (by omega)] at t6
  have t7 : DataW.trod enc Tryz.prog W 0 (fun _ => true) true n2 26 ((List.drop 13 [c0, c1, c2, c3, c4, c5, c6, c7, c8, c9, c10, c11, c12, c13, c14, c15, c16, c17, c18, c19, c20, c21, c22, c23, c24, c25]).take (Tryz.prog.cellsOf 26)) = xs[7]? := hg 7 _ rfl
  rw [cCla] at t7
  simp only [List.drop_zero, List.drop_succ_cons, List.take_succ_cons, List.take_zero, List.drop_nil] at t7
  rw [List.getElem?_eq_getElem (by omega)] at t7
  have t8 : DataW.trod enc Tryz.prog W 0 (fun _ => true) true n2 28 ((List.drop 21 [c0, c1, c2, c3, c4, c5, c6, c7, c8, c9, c10, c11, c12, c13, c14, c15, c16, c17, c18, c19, c20, c21, c22, c23, c24, c25]).take (Tryz.prog.cellsOf 28)) = xs[8]? := hg 8 _ rfl
  rw [cCue] at t8
  simp only [List.drop_zero, List.drop_succ_cons, List.take_succ_cons, List.take_zero, List.drop_nil] at t8
  rw [List.getElem?_eq_getElem (by omega)] at t8
  obtain ⟨i0, e0, _, w0⟩ := DataW.trod_int Tryz.underlying3 t0
  simp at e0
  subst e0
  obtain ⟨i1, e1, _, w1⟩ := DataW.trod_int Tryz.underlying3 t1
  simp at e1
  subst e1
  obtain ⟨i2, e2, _, w2⟩ := DataW.trod_int Tryz.underlying3 t2
  simp at e2
  subst e2
  obtain ⟨i3, e3, _, w3⟩ := DataW.trod_int Tryz.underlying3 t3
  simp at e3
  subst e3
  obtain ⟨i4, e4, _, w4⟩ := DataW.trod_int Tryz.underlying3 t4
  simp at e4
  subst e4
  obtain ⟨i5, e5, _, w5⟩ := DataW.trod_int Tryz.underlying3 t5
  simp at e5
  subst e5
  obtain ⟨nid, item, frs, ear, lat, book, oa, an, ac, al, e6, h1, h2, h3, h4⟩ := open_entryC rfl t6
  obtain ⟨c, e7⟩ := open_clauseC rfl t7
  obtain ⟨qi, qf, qt, qp, s, e8, h5⟩ := open_cueC rfl t8
  simp only [List.cons.injEq, and_true] at e6
  obtain ⟨rfl, rfl, rfl, rfl, rfl, rfl, rfl⟩ := e6
  simp only [ClD.l, List.cons.injEq, and_true] at e7
  obtain ⟨rfl, rfl, rfl, rfl, rfl, rfl, rfl, rfl⟩ := e7
  simp only [cueL, List.cons.injEq, and_true] at e8
  obtain ⟨rfl, rfl, rfl, rfl, rfl⟩ := e8
  exact ⟨⟨i0, i1, i2, i3, i4, i5, nid, item, frs, ear, lat, book, oa, an, ac, c, qi, qf, qt, qp, s⟩, al, rfl, h1, h2, h3, h4, h5⟩
theorem open_messageC {n : Nat} {cs : List Value} {x : DataW H × List MemPlace} (hl : cs.length = 31) (hf : DataW.trod enc Tryz.prog W 0 (fun _ => true) true n 32 cs = some x) :
  ∃ (m : MOd) (al : List (Int × Int)), cs = m.l ∧ al.length = m.o.an ∧ m.o.an ≤ m.o.ac ∧ m.o.ac ≤ maxLen ∧ RdA W m.o.ao al ∧ m.o.txt.size ≤ maxLen := by
 match cs, hl with
 | [c0, c1, c2, c3, c4, c5, c6, c7, c8, c9, c10, c11, c12, c13, c14, c15, c16, c17, c18, c19, c20, c21, c22, c23, c24, c25, c26, c27, c28, c29, c30], _ =>
  obtain ⟨xs, n2, _, hx, _, hlen, hg⟩ := DataW.trod_struct Tryz.underlying32 hf
  replace hlen : xs.length = 6 := hlen
  have t0 : DataW.trod enc Tryz.prog W 0 (fun _ => true) true n2 3 ((List.drop 0 [c0, c1, c2, c3, c4, c5, c6, c7, c8, c9, c10, c11, c12, c13, c14, c15, c16, c17, c18, c19, c20, c21, c22, c23, c24, c25, c26, c27, c28, c29, c30]).take (Tryz.prog.cellsOf 3)) = xs[0]? := hg 0 _ rfl
  rw [cInt] at t0
  simp only [List.drop_zero, List.drop_succ_cons, List.take_succ_cons, List.take_zero, List.drop_nil] at t0
  rw [List.getElem?_eq_getElem (by omega)] at t0
  have t1 : DataW.trod enc Tryz.prog W 0 (fun _ => true) true n2 3 ((List.drop 1 [c0, c1, c2, c3, c4, c5, c6, c7, c8, c9, c10, c11, c12, c13, c14, c15, c16, c17, c18, c19, c20, c21, c22, c23, c24, c25, c26, c27, c28, c29, c30]).take (Tryz.prog.cellsOf 3)) = xs[1]? := hg 1 _ rfl
  rw [cInt] at t1
  simp only [List.drop_zero, List.drop_succ_cons, List.take_succ_cons, List.take_zero, List.drop_nil] at t1
  rw [List.getElem?_eq_getElem (by omega)] at t1
  have t2 : DataW.trod enc Tryz.prog W 0 (fun _ => true) true n2 3 ((List.drop 2 [c0, c1, c2, c3, c4, c5, c6, c7, c8, c9, c10, c11, c12, c13, c14, c15, c16, c17, c18, c19, c20, c21, c22, c23, c24, c25, c26, c27, c28, c29, c30]).take (Tryz.prog.cellsOf 3)) = xs[2]? := hg 2 _ rfl
  rw [cInt] at t2
  simp only [List.drop_zero, List.drop_succ_cons, List.take_succ_cons, List.take_zero, List.drop_nil] at t2
  rw [List.getElem?_eq_getElem (by omega)] at t2
  have t3 : DataW.trod enc Tryz.prog W 0 (fun _ => true) true n2 3 ((List.drop 3 [c0, c1, c2, c3, c4, c5, c6, c7, c8, c9, c10, c11, c12, c13, c14, c15, c16, c17, c18, c19, c20, c21, c22, c23, c24, c25, c26, c27, c28, c29, c30]).take (Tryz.prog.cellsOf 3)) = xs[3]? := hg 3 _ rfl
  rw [cInt] at t3
  simp only [List.drop_zero, List.drop_succ_cons, List.take_succ_cons, List.take_zero, List.drop_nil] at t3
  rw [List.getElem?_eq_getElem (by omega)] at t3
  have t4 : DataW.trod enc Tryz.prog W 0 (fun _ => true) true n2 3 ((List.drop 4 [c0, c1, c2, c3, c4, c5, c6, c7, c8, c9, c10, c11, c12, c13, c14, c15, c16, c17, c18, c19, c20, c21, c22, c23, c24, c25, c26, c27, c28, c29, c30]).take (Tryz.prog.cellsOf 3)) = xs[4]? := hg 4 _ rfl
  rw [cInt] at t4
  simp only [List.drop_zero, List.drop_succ_cons, List.take_succ_cons, List.take_zero, List.drop_nil] at t4
  rw [List.getElem?_eq_getElem (by omega)] at t4
  have t5 : DataW.trod enc Tryz.prog W 0 (fun _ => true) true n2 30 ((List.drop 5 [c0, c1, c2, c3, c4, c5, c6, c7, c8, c9, c10, c11, c12, c13, c14, c15, c16, c17, c18, c19, c20, c21, c22, c23, c24, c25, c26, c27, c28, c29, c30]).take (Tryz.prog.cellsOf 30)) = xs[5]? := hg 5 _ rfl
  rw [cOrd] at t5
  simp only [List.drop_zero, List.drop_succ_cons, List.take_succ_cons, List.take_zero, List.drop_nil] at t5
  rw [List.getElem?_eq_getElem (by omega)] at t5
  obtain ⟨i0, e0, _, w0⟩ := DataW.trod_int Tryz.underlying3 t0
  simp at e0
  subst e0
  obtain ⟨i1, e1, _, w1⟩ := DataW.trod_int Tryz.underlying3 t1
  simp at e1
  subst e1
  obtain ⟨i2, e2, _, w2⟩ := DataW.trod_int Tryz.underlying3 t2
  simp at e2
  subst e2
  obtain ⟨i3, e3, _, w3⟩ := DataW.trod_int Tryz.underlying3 t3
  simp at e3
  subst e3
  obtain ⟨i4, e4, _, w4⟩ := DataW.trod_int Tryz.underlying3 t4
  simp at e4
  subst e4
  obtain ⟨o, al, e5, h1, h2, h3, h4, h5⟩ := open_orderC rfl t5
  refine ⟨⟨i0, i1, i2, i3, i4, o⟩, al, ?_, h1, h2, h3, h4, h5⟩
  rw [e5]
  rfl
end
open Go.RowKit
attribute [local go_sem] Oper.semAt_some
theorem does_any (W : World) (B : Nat) (id : Int) (p : LP) (h : LnM W B id p) (he : LnE p) (y : StD) (hy : StO W B y) (n m : Nat) (hok : Ok n m p.s) (hn : n < 50) (hm : m ≤ 150) (h0 : 0 ≤ id) (h1 : id < 3) :
  Calls Tryz.prog 15 #[.pointer (some ⟨p.x, 0, none⟩), .agg y.l.toArray, .int .i64 id] W (DoesP W B id p (pickO y.yc 7)) := by
 obtain ⟨b0, b1⟩ := pickO_bd y.yc 7 (by decide)
 rcases (show pickO y.yc 7 = 0 ∨ pickO y.yc 7 = 1 ∨ pickO y.yc 7 = 2 ∨ pickO y.yc 7 = 3 ∨ pickO y.yc 7 = 4 ∨ pickO y.yc 7 = 5 ∨ pickO y.yc 7 = 6 by omega) with hc | hc | hc | hc | hc | hc | hc
 ·rw [hc]; exact does_add W B id p h he y hy n m hok hn hm h0 h1 hc
 ·rw [hc]; exact does_tick W B id p h he y hy n m hok hn hm h0 h1 hc
 ·rw [hc]; exact does_one W B id p h he y hy n m hok hn hm h0 h1 hc
 ·rw [hc]; exact does_two W B id p h he y hy n m hok hn hm h0 h1 hc
 ·rw [hc]; exact does_ack W B id p h he y hy n m hok hn hm h0 h1 hc
 ·rw [hc]; exact does_fresh W B id p h he y hy n m hok hn hm h0 h1 hc
 ·rw [hc]; exact does_msg W B id p h he y hy n m hok hn hm h0 h1 hc
def s0 : PS := ⟨[], 0, [], [], [], 0⟩
theorem s0_ok : Ok 0 0 s0 := ⟨Nat.le_refl _, fun j q e => by simp [s0] at e, fun q e => absurd e (by simp [s0]), Nat.le_refl _, Nat.le_refl _, Nat.le_refl _, by decide, by decide⟩
set_option maxHeartbeats 4000000 in
theorem begin_any (id : Int) (W : World) (h0 : 0 ≤ id) (h1 : id < 3) :
  Calls Tryz.prog 14 #[.int .i64 id] W fun e w' => ∃ p : LP, e = .returned (.pointer (some ⟨p.x, 0, none⟩)) ∧ LnM w' W.heap.size id p ∧ LnE p ∧ p.s = s0 ∧ Below W.heap.size W w' := by
 go_enter Tryz.func14, Tryz.ntmps14
 go_wp2_with fail
 refine (newSender_ok id _ h0 h1).mono ?_
 rintro e w1 ⟨bs, rfl, hbs, g1, hb1⟩
 go_wp2_with fail
 refine (newReceiver_ok id _ h0 h1).mono ?_
 rintro e w2 ⟨br, m, rfl, hbr, hmm, g2, g3, hb2⟩
 go_wp2_with fail
 refine (refNewS id _).mono ?_
 rintro e w3 ⟨rfl, hw3⟩
 have hb3 : Below w2.heap.size w2 w3 := by rw [hw3]; exact (Below.refl _ w2).alloc (Nat.le_refl _) _
 have ha : Blk w3 w2.heap.size 67 [.int .i64 id, .slice none 0 0, .int .i64 0, .slice none 0 0] := by rw [hw3]; exact Blk.new w2 _ _
 have hsz3 : w3.heap.size = w2.heap.size + 1 := by rw [hw3, World.size_alloc]
 have HB3 := Lib.hid hb3;have HA := Lib.hid ha;have HS3 := Lib.hid hsz3;clear hw3 hb3 ha hsz3
 go_wp2_with fail
 refine (refNewR id _).mono ?_
 rintro e w4 ⟨rfl, hw4⟩
 have hb4 : Below w3.heap.size w3 w4 := by rw [hw4]; exact (Below.refl _ w3).alloc (Nat.le_refl _) _
 have hbb : Blk w4 w3.heap.size 60 [.int .i64 id, .slice none 0 0, .slice none 0 0] := by rw [hw4]; exact Blk.new w3 _ _
 have HB1 := Lib.hid hb1;have HB2 := Lib.hid hb2;have HB4 := Lib.hid hb4;have HBS := Lib.hid hbs;have HBR := Lib.hid hbr;have HMM := Lib.hid hmm;have HBB := Lib.hid hbb
 have HG := Lib.hid (And.intro g1 (And.intro g2 g3))
 have hsz4 : w4.heap.size = w3.heap.size + 1 := by rw [hw4, World.size_alloc]
 have HS := Lib.hid (And.intro HS3.out hsz4)
 clear hb1 hb2 hb4 hbs hbr hmm hbb g1 g2 g3 hw4 hsz4 HS3
 obtain ⟨w5, hw5⟩ : ∃ w5, w4.alloc (.cells #[.pointer (some ⟨bs, 0, none⟩), .pointer (some ⟨br, 0, none⟩), .pointer (some ⟨w2.heap.size, 0, none⟩), .pointer (some ⟨w3.heap.size, 0, none⟩), .int .i64 0, .slice none 0 0] 57) = w5 := ⟨_, rfl⟩
 have HW5 := Lib.hid hw5
 go_wp2_with fail
 go_ret
 have hb5 : Below w4.heap.size w4 w5 := by rw [← HW5.out]; exact (Below.refl _ w4).alloc (Nat.le_refl _) _
 have hx : Blk w5 w4.heap.size 57 [.pointer (some ⟨bs, 0, none⟩), .pointer (some ⟨br, 0, none⟩), .pointer (some ⟨w2.heap.size, 0, none⟩), .pointer (some ⟨w3.heap.size, 0, none⟩), .int .i64 0, .slice none 0 0] := by rw [← HW5.out]; exact Blk.new w4 _ _
 have l1 := HBS.out.lt
 have l2 := HBR.out.lt
 have s1 := HB1.out.size
 have s2 := HB2.out.size
 have s3 := HS.out.1
 have s4 := HS.out.2
 have s5 := hb5.size
 have g1 := HG.out.1
 have g2 := HG.out.2.1
 have g3 := HG.out.2.2
 have b25 : Below w2.heap.size w2 w5 := (HB3.out.trans (HB4.out.mono (by omega))).trans (hb5.mono (by omega))
 have b15 : Below w1.heap.size w1 w5 := HB2.out.trans (b25.mono (by omega))
 have b05 : Below W.heap.size W w5 := HB1.out.trans (b15.mono (by omega))
 have kbs := HBS.out.kept (b15.block bs l1)
 have kbr := HBR.out.kept (b25.block br l2)
 have kmm : w5.heap[m]? = some (.map #[] 0) := (b25.block m (by omega)).trans HMM.out
 have ka := HA.out.kept ((HB4.out.trans (hb5.mono (by omega))).block w2.heap.size (by omega))
 have kb := HBB.out.kept (hb5.block w3.heap.size (by omega))
 have hx9 := hx.lt
 refine ⟨⟨w4.heap.size, bs, br, w2.heap.size, w3.heap.size, m, .slice none 0 0, .slice none 0 0, .slice none 0 0, .slice none 0 0, .slice none 0 0, .slice none 0 0, .slice none 0 0, [], 0, [], [], [], 0, [], [], [], 0, fun c => if c = bs then 1 else if c = br ∨ c = m then 2 else if c = w2.heap.size then 3 else if c = w3.heap.size then 4 else if c = w4.heap.size then 5 else 0⟩, rfl, ?_, ⟨rfl, rfl, rfl, rfl⟩, rfl, b05⟩
 refine ⟨hx, ?_, ?_, ?_, ?_, World.ownsRow_nil _ _ _ _, ?_, ?_, ?_, ?_, ?_, fun q hq => absurd hq (by simp), fun q hq => ?_, fun q hq => absurd hq (by simp), fun g e => by simp [Value.ownBlock] at e, fun c hc => ?_⟩
 ·exact ⟨kbs, World.ownsRow_nil _ _ _ _, g1, fun g e => by simp [Value.ownBlock] at e, fun q hq => absurd hq (by simp)⟩
 ·exact ⟨kbr, World.ownsRow_nil _ _ _ _, ⟨#[], 0, kmm, rfl⟩, by show W.heap.size ≤ br; omega, by show W.heap.size ≤ m; omega, fun g e => by simp [Value.ownBlock] at e, fun q hq => by
   rcases hq with hq | hq
   ·exact absurd hq (by simp)
   ·exact absurd hq (by simp)⟩
 ·exact ⟨ka, World.ownsRow_nil _ _ _ _, World.ownsRow_nil _ _ _ _, rfl, fun g e => by simp [Value.ownBlock] at e, fun g e => by simp [Value.ownBlock] at e, fun g e => by simp [Value.ownBlock] at e, fun q hq => absurd hq (by simp)⟩
 ·exact ⟨kb, World.ownsRow_nil _ _ _ _, World.ownsRow_nil _ _ _ _, fun g e => by simp [Value.ownBlock] at e, fun g e => by simp [Value.ownBlock] at e, fun g e => by simp [Value.ownBlock] at e, fun q hq => by
   rcases hq with hq | hq
   ·exact absurd hq (by simp)
   ·exact absurd hq (by simp)⟩
 ·rintro c (e | e | ⟨q, hq, _⟩)
  ·have e : c = bs := e
   refine ⟨by omega, by omega, ?_⟩
   show (if c = bs then 1 else _) = 1
   rw [if_pos e]
  ·simp [Value.ownBlock] at e
  ·exact absurd hq (by simp)
 ·rintro c (e | e | e | ⟨q, hq, _⟩)
  ·have e : c = br := e
   refine ⟨by omega, by omega, ?_⟩
   show (if c = bs then 1 else if c = br ∨ c = m then 2 else _) = 2
   rw [if_neg (by omega), if_pos (.inl e)]
  ·have e : c = m := e
   refine ⟨by omega, by omega, ?_⟩
   show (if c = bs then 1 else if c = br ∨ c = m then 2 else _) = 2
   rw [if_neg (by omega), if_pos (.inr e)]
  ·simp [Value.ownBlock] at e
  ·rcases hq with hq | hq
   ·exact absurd hq (by simp)
   ·exact absurd hq (by simp)
 ·rintro c (e | e | e)
  ·have e : c = w2.heap.size := e
   refine ⟨by omega, by omega, ?_⟩
   show (if c = bs then 1 else if c = br ∨ c = m then 2 else if c = w2.heap.size then 3 else _) = 3
   rw [if_neg (by omega), if_neg (by omega), if_pos e]
  ·simp [Value.ownBlock] at e
  ·simp [Value.ownBlock] at e
 ·rintro c (e | e | e)
  ·have e : c = w3.heap.size := e
   refine ⟨by omega, by omega, ?_⟩
   show (if c = bs then 1 else if c = br ∨ c = m then 2 else if c = w2.heap.size then 3 else if c = w3.heap.size then 4 else _) = 4
   rw [if_neg (by omega), if_neg (by omega), if_neg (by omega), if_pos e]
  ·simp [Value.ownBlock] at e
  ·simp [Value.ownBlock] at e
 ·rintro c (e | e)
  ·have e : c = w4.heap.size := e
   refine ⟨by omega, by omega, ?_⟩
   show (if c = bs then 1 else if c = br ∨ c = m then 2 else if c = w2.heap.size then 3 else if c = w3.heap.size then 4 else if c = w4.heap.size then 5 else 0) = 5
   rw [if_neg (by omega), if_neg (by omega), if_neg (by omega), if_neg (by omega), if_pos e]
  ·simp [Value.ownBlock] at e
 ·rcases hq with hq | hq
  ·exact absurd hq (by simp)
  ·exact absurd hq (by simp)
 ·show (if c = bs then 1 else if c = br ∨ c = m then 2 else if c = w2.heap.size then 3 else if c = w3.heap.size then 4 else if c = w4.heap.size then 5 else 0) = 0
  rw [if_neg (by omega), if_neg (by omega), if_neg (by omega), if_neg (by omega), if_neg (by omega)]
open Go.ChangeShapes Go.WideShapes Go.ChangeAt Go.WideMaps Go.WideElems Go.RowKit Onair
structure RdT (W : World) (oa : Option Addr) (l : List StD) : Prop where
 row : l = [] ∨ ∃ b o, oa = some ⟨b, o, none⟩ ∧ b < W.heap.size ∧ ∀ (i : Nat) y, l[i]? = some y → W.rangeAt b (o + i * 60) y.l
 ok : ∀ y ∈ l, StO W W.heap.size y
section
variable {H : Type} {enc : TypeId × Value → H} {W : World}
theorem cStp : Tryz.prog.cellsOf 48 = 60 := by kernel_rfl
theorem cut60 (cs : List Value) (hl : cs.length = 60) : cs = (cs.drop 0).take 1 ++ ((cs.drop 1).take 1 ++ ((cs.drop 2).take 1 ++ ((cs.drop 3).take 26 ++ (cs.drop 29).take 31))) := by
 have h4 : (cs.drop 29).take 31 = cs.drop 29 := List.take_of_length_le (by rw [List.length_drop]; omega)
 have h3 : (cs.drop 3).take 26 ++ cs.drop 29 = cs.drop 3 := by
  have := List.take_append_drop 26 (cs.drop 3)
  rw [List.drop_drop] at this;exact this
 have h2 : (cs.drop 2).take 1 ++ cs.drop 3 = cs.drop 2 := by
  have := List.take_append_drop 1 (cs.drop 2)
  rw [List.drop_drop] at this;exact this
 have h1 : (cs.drop 1).take 1 ++ cs.drop 2 = cs.drop 1 := by
  have := List.take_append_drop 1 (cs.drop 1)
  rw [List.drop_drop] at this;exact this
 have h0 : (cs.drop 0).take 1 ++ cs.drop 1 = cs.drop 0 := by
  have := List.take_append_drop 1 (cs.drop 0)
  rw [List.drop_drop] at this;exact this
 rw [h4, h3, h2, h1, h0]
 rfl
theorem open_stepC {n : Nat} {cs : List Value} {x : DataW H × List MemPlace} (hl : cs.length = 60) (hf : DataW.trod enc Tryz.prog W 0 (fun _ => true) true n 48 cs = some x) :
  ∃ y : StD, cs = y.l ∧ StO W W.heap.size y := by
 obtain ⟨xs, n2, _, hx, _, hlen, hg⟩ := DataW.trod_struct Tryz.underlying48 hf
 replace hlen : xs.length = 5 := hlen
 have t0 : DataW.trod enc Tryz.prog W 0 (fun _ => true) true n2 3 ((cs.drop 0).take (Tryz.prog.cellsOf 3)) = xs[0]? := hg 0 _ rfl
 have t1 : DataW.trod enc Tryz.prog W 0 (fun _ => true) true n2 3 ((cs.drop 1).take (Tryz.prog.cellsOf 3)) = xs[1]? := hg 1 _ rfl
 have t2 : DataW.trod enc Tryz.prog W 0 (fun _ => true) true n2 3 ((cs.drop 2).take (Tryz.prog.cellsOf 3)) = xs[2]? := hg 2 _ rfl
 have t3 : DataW.trod enc Tryz.prog W 0 (fun _ => true) true n2 30 ((cs.drop 3).take (Tryz.prog.cellsOf 30)) = xs[3]? := hg 3 _ rfl
 have t4 : DataW.trod enc Tryz.prog W 0 (fun _ => true) true n2 32 ((cs.drop 29).take (Tryz.prog.cellsOf 32)) = xs[4]? := hg 4 _ rfl
 rw [cInt, List.getElem?_eq_getElem (by omega)] at t0 t1 t2;rw [cOrd, List.getElem?_eq_getElem (by omega)] at t3;rw [cMsg, List.getElem?_eq_getElem (by omega)] at t4
 obtain ⟨i0, e0, _, w0⟩ := DataW.trod_int Tryz.underlying3 t0
 obtain ⟨i1, e1, _, w1⟩ := DataW.trod_int Tryz.underlying3 t1
 obtain ⟨i2, e2, _, w2⟩ := DataW.trod_int Tryz.underlying3 t2
 obtain ⟨o, al, e3, a1, a2, a3, a4, a5⟩ := open_orderC (by rw [List.length_take, List.length_drop]; omega) t3
 obtain ⟨m, ml, e4, b1, b2, b3, b4, b5⟩ := open_messageC (by rw [List.length_take, List.length_drop]; omega) t4
 refine ⟨⟨i0, i1, i2, o, al, m, ml⟩, ?_, ⟨⟨(bounds_i64 w0).1, (bounds_i64 w0).2⟩, ⟨(bounds_i64 w1).1, (bounds_i64 w1).2⟩, ⟨(bounds_i64 w2).1, (bounds_i64 w2).2⟩, a1, a2, a3, a4, a5, fun hn a e => a4.lt hn a e, b1, b2, b3, b4, b5, fun hn a e => b4.lt hn a e⟩⟩
 rw [cut60 cs hl, e0, e1, e2, e3, e4]
 rfl
set_option maxRecDepth 100000 in
theorem open_steps {base : Nat} {v : Value} {d : DataW H} {ps : List MemPlace}
  (hv : Value.okWide Tryz.prog W .any base 42 v) (h : DataW.Trod enc Tryz.prog W 0 (fun _ => true) true 42 v d ps) :
  ∃ (oa : Option Addr) (cap : Nat) (l : List StD), v = .slice oa l.length cap ∧ l.length ≤ maxLen ∧ RdT W oa l := by
 obtain ⟨a0, len, cap, rfl⟩ := okWide_slice Tryz.underlying42 hv
 obtain ⟨fuel, hf⟩ := h
 rcases Go.Deep.open_slice Tryz.underlying42 hf with ⟨hcs, _⟩ | ⟨a, len', cap', m, n, D, Pl, hcs, hb, hl, hm, hmm, hx, hi⟩
 ·simp [Value.cells] at hcs
  obtain ⟨rfl, rfl, rfl⟩ := hcs
  exact ⟨none, 0, [], rfl, Nat.zero_le _, ⟨.inl rfl, fun y hy => absurd hy (by simp)⟩⟩
 ·simp [Value.cells] at hcs
  obtain ⟨rfl, rfl, rfl⟩ := hcs
  simp at hmm
  subst hmm
  have key2 : ∀ i : Nat, ∃ y : StD, (i < len → StO W W.heap.size y ∧ ∀ j, j < 60 → W.cell? (a.add (i * 60 + j)) = y.l[j]?) := by
   intro i
   by_cases hi' : i < len
   ·obtain ⟨cs', hc, ht⟩ := hi i (by omega)
    rw [cStp] at hc
    obtain ⟨_, hcl, hat⟩ := World.cells?_some hc
    obtain ⟨y, e, hy⟩ := open_stepC hcl ht
    refine ⟨y, fun _ => ⟨hy, fun j hj => ?_⟩⟩
    have h1 := hat j hj
    rw [← Go.Deep.add_add, h1, e]
   ·exact ⟨⟨0, 0, 0, zG.o, [], ⟨0, 0, 0, 0, 0, zG.o⟩, []⟩, fun h => absurd h hi'⟩
  obtain ⟨F, hF⟩ := Classical.axiomOfChoice key2
  refine ⟨some a, m, (List.range len).map F, by simp, by simp; omega, ⟨?_, ?_⟩⟩
  ·by_cases hp : 0 < len
   ·obtain ⟨b, off, spot⟩ := a
    have h0 := ((hF 0) hp).2 0 (by decide)
    have h0 : W.cell? ((⟨b, off, spot⟩ : Addr).add (0 * 60 + 0)) = some (.int .i64 (F 0).yc) := h0
    have hspot : spot = none := by simpa [Addr.add] using World.cell?_spot h0
    subst hspot
    refine .inr ⟨b, off, rfl, block_lt (p := ⟨b, off + (0 * 60 + 0), none⟩) (by rw [Go.WideShapes.add_plain] at h0; exact h0), fun i y hi => ?_⟩
    have hil : i < len := by
     have := (List.getElem?_eq_some_iff.1 hi).1
     simpa using this
    have e : F i = y := by
     rw [List.getElem?_map, List.getElem?_range hil] at hi
     simpa using hi
    rw [← e]
    intro j u hj
    have hjl : j < 60 := (List.getElem?_eq_some_iff.1 hj).1
    have h1 := ((hF i) hil).2 j hjl
    rw [Go.WideShapes.add_plain] at h1;rw [Nat.add_assoc];exact h1.trans hj
   ·left
    have : len = 0 := by omega
    rw [this]
    rfl
  ·intro y hy
   rw [List.mem_map] at hy
   obtain ⟨i, hi, rfl⟩ := hy
   exact ((hF i) (by simpa using hi)).1
end
open Go.RowKit
def LnI (W0 : World) (B : Nat) (id : Int) (x i : Nat) (W : World) : Prop := (∃ p : LP, LnM W B id p ∧ LnE p ∧ p.x = x ∧ Ok i (2 * i) p.s) ∧ Below B W0 W
theorem LnI.next {W0 : World} {B : Nat} {id k : Int} {x i : Nat} {W W' : World} {p : LP} (hl : LnM W B id p) (hx : p.x = x) (hok : Ok i (2 * i) p.s) (hi : i < 50) (hb : Below B W0 W) (hB : B ≤ W0.heap.size) {e : Ending} (h : DoesP W B id p k e W') : e = .returned (.bool true) ∧ LnI W0 B id x (i + 1) W' := by
 obtain ⟨he, p', h1, h2, h3, h4, h5⟩ := h
 refine ⟨he, ⟨p', h1, h2, h3.trans hx, (h5 i (2 * i) hok hi).1.mono (Nat.le_refl _) (by omega)⟩, hb.trans ?_⟩
 exact h4.fr.below B (Nat.le_trans hB hb.size) (fun c hc => Nat.le_of_not_lt (fun hlt => hc (hl.lo c hlt)))
theorem StO.keptB {W W' : World} {B b : Nat} {y : StD} (h : StO W B y) (hb : Below b W W') (hB : B ≤ b) : StO W' B y := by
 have k : ∀ (al : List (Int × Int)) (ao : Option Addr), RdA W ao al → (al ≠ [] → ∀ a, ao = some a → a.block < B) → RdA W' ao al := fun al ao hr hw => by
  by_cases hn : al = []
  ·exact .inl hn
  ·exact hr.keptB hb.size (fun b9 o9 e hlt => hb.block b9 (by have : b9 < B := hw hn _ e; omega))
 exact ⟨h.c, h.a, h.b, h.ol, h.oc, h.om, k _ _ h.or h.ow, h.ot, h.ow, h.ml, h.mc, h.mm, k _ _ h.mr h.mw, h.mt, h.mw⟩
theorem StO.wide {W : World} {B B' : Nat} {y : StD} (h : StO W B y) (hB : B ≤ B') : StO W B' y :=
 ⟨h.c, h.a, h.b, h.ol, h.oc, h.om, h.or, h.ot, fun hn a e => Nat.lt_of_lt_of_le (h.ow hn a e) hB, h.ml, h.mc, h.mm, h.mr, h.mt, fun hn a e => Nat.lt_of_lt_of_le (h.mw hn a e) hB⟩
end Go.Proofs.YtjkiidhnmljmbaaGreatDoor
