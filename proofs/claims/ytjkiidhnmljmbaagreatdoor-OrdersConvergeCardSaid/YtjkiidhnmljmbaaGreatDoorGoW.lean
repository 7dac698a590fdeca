/- Orders: the reading of an order out of any string: (*input).order. -/
import Derived.Test.YtjkiidhnmljmbaaGreatDoorGoPQ
import Derived.Test.YtjkiidhnmljmbaaGreatDoorOrTV
import Derived.Test.YtjkiidhnmljmbaaGreatDoorGoY
set_option linter.unusedVariables false
set_option linter.unusedSimpArgs false
namespace Go.Proofs.YtjkiidhnmljmbaaGreatDoor
open Go.RowKit Onair
attribute [local go_sem] Oper.semAt_some
def pE (a : Addr) : PanicEntry := { v := .iface 196 (.pointer (some a)), recovered := false }
def OrdPost (W : World) (ib : Nat) (er eb : Addr) (R : OutO) (e : Ending) (w' : World) : Prop :=
 Fr (fun c => c = ib) W w' ∧ match R with
 | .wire => e = .panicked [pE er]
 | .bad => e = .panicked [pE eb]
 | .ok o al => ∃ oa ac, e = .returned (.agg (o.withA oa ac).l.toArray) ∧ RdA w' oa al ∧ o.an = al.length ∧ ∀ a, oa = some a → W.heap.size ≤ a.block
theorem OrdPost.w {W w' : World} {ib : Nat} {er eb : Addr} {R : OutO} (h : R = .wire) (hf : Fr (fun c => c = ib) W w') : OrdPost W ib er eb R (.panicked [pE er]) w' := by subst h; exact ⟨hf, rfl⟩
theorem OrdPost.b {W w' : World} {ib : Nat} {er eb : Addr} {R : OutO} (h : R = .bad) (hf : Fr (fun c => c = ib) W w') : OrdPost W ib er eb R (.panicked [pE eb]) w' := by subst h; exact ⟨hf, rfl⟩
def GOd.withR (o : GOd) (oa : Option Addr) (n c : Nat) : GOd := { o with ao := oa, an := n, ac := c }
open Go.RowKit Go.Extern.Stop Go.Stop Go.Extern Onair
structure Apart (W : World) (a b : Addr) : Prop where
 ne : a ≠ b
 ha : ∃ ca ta, W.heap[a.block]? = some (.cells ca ta (0, 0))
 hb : ∃ cb tb, W.heap[b.block]? = some (.cells cb tb (0, 0))
theorem Apart.below {W W' : World} {a b : Addr} (h : Apart W a b) (hb : Below W.heap.size W W') : Apart W' a b := by
 obtain ⟨h1, ⟨ca, ta, h2⟩, ⟨cb, tb, h3⟩⟩ := h
 exact ⟨h1, ⟨ca, ta, (hb.block _ (Array.getElem?_eq_some_iff.1 h2).1).trans h2⟩, ⟨cb, tb, (hb.block _ (Array.getElem?_eq_some_iff.1 h3).1).trans h3⟩⟩
def decR (l : List UInt8) : OutO :=
 match ordR l with
 | .ok o al => if okB o al = true then .ok o al else .bad
 | r => r
def DecPost (W : World) (R : OutO) (e : Ending) (w' : World) : Prop :=
 Below W.heap.size W w' ∧ match R with
 | .wire => e = .returned (.tuple #[.agg zeroO.l.toArray, .int .i64 10])
 | .bad => e = .returned (.tuple #[.agg zeroO.l.toArray, .int .i64 110])
 | .ok o al => ∃ oa ac, e = .returned (.tuple #[.agg (o.withA oa ac).l.toArray, .int .i64 0]) ∧ RdA w' oa al ∧ ∀ a, oa = some a → W.heap.size ≤ a.block
theorem DecPost.w {W w' : World} {R : OutO} (h : R = .wire) (hb : Below W.heap.size W w') : DecPost W R (.returned (.tuple #[.agg zeroO.l.toArray, .int .i64 10])) w' := by subst h; exact ⟨hb, rfl⟩
theorem DecPost.b {W w' : World} {R : OutO} (h : R = .bad) (hb : Below W.heap.size W w') : DecPost W R (.returned (.tuple #[.agg zeroO.l.toArray, .int .i64 110])) w' := by subst h; exact ⟨hb, rfl⟩
open Go.RowKit Onair
inductive OutM where
 | short
 | mean
 | ok (m : MOd) (al : List (Int × Int))
def m5 (kd : Int) (vs : List Int) (o : GOd) : MOd := ⟨kd, vs.getD 0 0, vs.getD 1 0, vs.getD 2 0, vs.getD 3 0, o⟩
def zeroM : MOd := ⟨0, 0, 0, 0, 0, zeroO⟩
def okR (m : MOd) (al : List (Int × Int)) : OutM := if okM m al = true then .ok m al else .mean
def msgO (kd : Int) (vs : List Int) (R : OutO) : OutM :=
 match R with
 | .ok o al => okR (m5 kd vs o) al
 | _ => .mean
def msgF (l : List UInt8) (kd : Int) (vs : List Int) (a : Int) (t : List UInt8) : OutM :=
 if a = (l.length : Int) then
  if kd = 1 then msgO kd vs (decR t) else okR (m5 kd vs zeroO) []
 else .short
def msgT (l : List UInt8) (kd : Int) (vs : List Int) (a : Int) : OutM :=
 if kd = 1 then
  if (strR l a).2.2 = 0 then msgF l kd vs (strR l a).2.1 (strR l a).1 else .short
 else msgF l kd vs a []
def msgR (l : List UInt8) : OutM :=
 if (intR l 0).2.2 = 0 then
  if 1 ≤ (intR l 0).1 ∧ (intR l 0).1 ≤ 3 then
   match readN l 4 (intR l 0).2.1 with
   | none => .short
   | some r => msgT l (intR l 0).1 r.1 r.2
  else .mean
 else .short
structure Sent (W : World) (es em er eb : Addr) : Prop where
 s : W.cell? ⟨0, 0, none⟩ = some (.iface 196 (.pointer (some es)))
 m : W.cell? ⟨1, 0, none⟩ = some (.iface 196 (.pointer (some em)))
 w : W.cell? ⟨2, 0, none⟩ = some (.iface 196 (.pointer (some er)))
 r : W.cell? ⟨3, 0, none⟩ = some (.iface 196 (.pointer (some eb)))
 am : Apart W em es
 ar : Apart W eb er
theorem Sent.below {W W' : World} {es em er eb : Addr} (h : Sent W es em er eb) (hb : Below W.heap.size W W') : Sent W' es em er eb :=
 ⟨(hb.cell (p := ⟨0, 0, none⟩) (block_lt h.s)).trans h.s, (hb.cell (p := ⟨1, 0, none⟩) (block_lt h.m)).trans h.m, (hb.cell (p := ⟨2, 0, none⟩) (block_lt h.w)).trans h.w, (hb.cell (p := ⟨3, 0, none⟩) (block_lt h.r)).trans h.r, h.am.below hb, h.ar.below hb⟩
def MOd.withA (m : MOd) (oa : Option Addr) (ac : Nat) : MOd := { m with o := m.o.withA oa ac }
def MDecPost (W : World) (R : OutM) (e : Ending) (w' : World) : Prop :=
 Below W.heap.size W w' ∧ match R with
 | .short => e = .returned (.tuple #[.agg zeroM.l.toArray, .int .i64 10])
 | .mean => e = .returned (.tuple #[.agg zeroM.l.toArray, .int .i64 200])
 | .ok m al => ∃ oa ac, e = .returned (.tuple #[.agg (m.withA oa ac).l.toArray, .int .i64 0]) ∧ RdA w' oa al ∧ ∀ a, oa = some a → W.heap.size ≤ a.block
theorem MDecPost.s {W w' : World} {R : OutM} (h : R = .short) (hb : Below W.heap.size W w') : MDecPost W R (.returned (.tuple #[.agg zeroM.l.toArray, .int .i64 10])) w' := by subst h; exact ⟨hb, rfl⟩
theorem MDecPost.m {W w' : World} {R : OutM} (h : R = .mean) (hb : Below W.heap.size W w') : MDecPost W R (.returned (.tuple #[.agg zeroM.l.toArray, .int .i64 200])) w' := by subst h; exact ⟨hb, rfl⟩
open Go.RowKit Onair
theorem sameOB_iff (o p : GOd) (al bl : List (Int × Int)) (h1 : al.length = o.an) (h2 : bl.length = p.an) : sameOB o al p bl = true ↔ (o.withA none 0 = p.withA none 0 ∧ al = bl) := by
 obtain ⟨s, ch, f, k, e, n, nid, item, frs, ear, lat, book, ao, an, ac, cl, qid, qf, qt, qp, txt⟩ := o
 obtain ⟨s', ch', f', k', e', n', nid', item', frs', ear', lat', book', ao', an', ac', cl', qid', qf', qt', qp', txt'⟩ := p
 unfold sameOB sameE cueEq GOd.withA
 simp only [Bool.and_eq_true, decide_eq_true_eq, ClD.eqB_iff, beq_iff_eq, GOd.mk.injEq] at *
 constructor
 ·rintro ⟨⟨rfl, rfl, rfl, rfl, rfl, rfl, rfl⟩, rfl, rfl, rfl, rfl, rfl, rfl, rfl, rfl, rfl, rfl, rfl, rfl⟩
  exact ⟨⟨rfl, rfl, rfl, rfl, rfl, rfl, rfl, rfl, rfl, rfl, rfl, rfl, trivial, h1.symm.trans h2, trivial, rfl, rfl, rfl, rfl, rfl, rfl⟩, rfl⟩
 ·rintro ⟨⟨rfl, rfl, rfl, rfl, rfl, rfl, rfl, rfl, rfl, rfl, rfl, rfl, -, -, -, rfl, rfl, rfl, rfl, rfl, rfl⟩, rfl⟩
  exact ⟨⟨rfl, rfl, rfl, rfl, rfl, rfl, rfl⟩, rfl, rfl, rfl, rfl, rfl, rfl, rfl, rfl, rfl, rfl, rfl, rfl⟩
theorem sameMB_iff (m k : MOd) (al bl : List (Int × Int)) (h1 : al.length = m.o.an) (h2 : bl.length = k.o.an) : sameMB m al k bl = true ↔ (m.withA none 0 = k.withA none 0 ∧ al = bl) := by
 obtain ⟨kd, tn, sq, fr, n, o⟩ := m
 obtain ⟨kd', tn', sq', fr', n', o'⟩ := k
 unfold sameMB MOd.withA
 simp only [Bool.and_eq_true, beq_iff_eq, MOd.mk.injEq]
 rw [sameOB_iff o o' al bl h1 h2]
 constructor
 ·rintro ⟨⟨h, rfl⟩, rfl, rfl, rfl, rfl, rfl⟩
  exact ⟨⟨rfl, rfl, rfl, rfl, rfl, h⟩, rfl⟩
 ·rintro ⟨⟨rfl, rfl, rfl, rfl, rfl, h⟩, rfl⟩
  exact ⟨⟨h, rfl⟩, rfl, rfl, rfl, rfl, rfl⟩
end Go.Proofs.YtjkiidhnmljmbaaGreatDoor
