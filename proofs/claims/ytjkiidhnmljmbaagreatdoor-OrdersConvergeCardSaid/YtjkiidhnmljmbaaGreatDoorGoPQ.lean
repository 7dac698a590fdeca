/- Orders of every kind: the places of the numbers (replan.numbers). -/
import Derived.Test.YtjkiidhnmljmbaaGreatDoorGoL
import Derived.Test.YtjkiidhnmljmbaaGreatDoorOrPQ
set_option linter.unusedVariables false
set_option linter.unusedSimpArgs false
namespace Go.Proofs.YtjkiidhnmljmbaaGreatDoor
open Go.RowKit
def ofsK (k : Int) : List Nat := if k = 1 then [4, 5] else if k = 2 then [4] else if k = 3 then [6, 7, 8, 9, 10, 11] else if k = 4 then [13, 14, 15, 16, 17, 18, 19, 20] else if k = 5 then [21, 22, 23, 24] else []
def ptrK (g : Nat) (k : Int) : List Value := (ofsK k).map fun o => .pointer (some ⟨g, o, none⟩)
def numsG (o : GOd) : List Int := if o.k = 1 then [o.e, o.n] else if o.k = 2 then [o.e] else if o.k = 3 then [o.nid, o.item, o.frs, o.ear, o.lat, o.book] else if o.k = 4 then [o.cl.kind, o.cl.item, o.cl.frm, o.cl.til, o.cl.regs, o.cl.n, o.cl.a, o.cl.b] else if o.k = 5 then [o.qid, o.qf, o.qt, o.qp] else []
open Go.RowKit Onair
def altI (al : List (Int × Int)) : List Int := al.flatMap fun p => [p.1, p.2]
def tailG (o : GOd) (al : List (Int × Int)) : List UInt8 := if o.k = 3 then encI [(al.length : Int)] ++ encI (altI al) else if o.k = 5 then putSL o.txt.data.toList else []
def encG (o : GOd) (al : List (Int × Int)) : List UInt8 := encI [o.s, o.ch, o.f, o.k] ++ encI (numsG o) ++ tailG o al
def encM (m : MOd) (al : List (Int × Int)) : List UInt8 := encI [m.kd, m.tn, m.sq, m.fr, m.n] ++ (if m.kd = 1 then putSL (encG m.o al) else [])
def readN (l : List UInt8) : Nat → Int → Option (List Int × Int)
 | 0, a => some ([], a)
 | n + 1, a => if (intR l a).2.2 = 0 then (readN l n (intR l a).2.1).map fun r => ((intR l a).1 :: r.1, r.2) else none
def RdSt (l : List UInt8) (n : Nat) (a0 : Int) (j : Nat) (vs : List Int) (a : Int) : Prop := vs.length = j ∧ readN l n a0 = (readN l (n - j) a).map fun r => (vs ++ r.1, r.2)
theorem RdSt.next {l : List UInt8} {n : Nat} {a0 : Int} {j : Nat} {vs : List Int} {a : Int} (h : RdSt l n a0 j vs a) (hj : j < n) (h0 : (intR l a).2.2 = 0) : RdSt l n a0 (j + 1) (vs ++ [(intR l a).1]) (intR l a).2.1 := by
 refine ⟨by rw [List.length_append, h.1]; rfl, ?_⟩
 rw [h.2, show n - j = (n - (j + 1)) + 1 by omega, readN, if_pos h0, Option.map_map]
 congr 1
 funext r
 simp
theorem RdSt.bad {l : List UInt8} {n : Nat} {a0 : Int} {j : Nat} {vs : List Int} {a : Int} (h : RdSt l n a0 j vs a) (hj : j < n) (h0 : (intR l a).2.2 ≠ 0) : readN l n a0 = none := by
 rw [h.2, show n - j = (n - (j + 1)) + 1 by omega, readN, if_neg h0]
 rfl
theorem RdSt.done {l : List UInt8} {n : Nat} {a0 : Int} {vs : List Int} {a : Int} (h : RdSt l n a0 n vs a) : readN l n a0 = some (vs, a) := by
 rw [h.2, Nat.sub_self, readN]
 simp
def setL : List Value → List Nat → List Int → List Value
 | cs, f :: fs, x :: xs => setL (cs.set f (.int .i64 x)) fs xs
 | cs, _, _ => cs
def o4 (vs : List Int) : GOd := ⟨vs.getD 0 0, vs.getD 1 0, vs.getD 2 0, vs.getD 3 0, 0, 0, 0, 0, 0, 0, 0, 0, none, 0, 0, ⟨0, 0, 0, 0, 0, 0, 0, 0⟩, 0, 0, 0, 0, ⟨#[]⟩⟩
def zeroO : GOd := o4 []
def GOd.withN (o : GOd) (vs : List Int) : GOd :=
 if o.k = 1 then { o with e := vs.getD 0 0, n := vs.getD 1 0 }
 else if o.k = 2 then { o with e := vs.getD 0 0 }
 else if o.k = 3 then { o with nid := vs.getD 0 0, item := vs.getD 1 0, frs := vs.getD 2 0, ear := vs.getD 3 0, lat := vs.getD 4 0, book := vs.getD 5 0 }
 else if o.k = 4 then { o with cl := ⟨vs.getD 0 0, vs.getD 1 0, vs.getD 2 0, vs.getD 3 0, vs.getD 4 0, vs.getD 5 0, vs.getD 6 0, vs.getD 7 0⟩ }
 else if o.k = 5 then { o with qid := vs.getD 0 0, qf := vs.getD 1 0, qt := vs.getD 2 0, qp := vs.getD 3 0 }
 else o
def pairsL : List Int → List (Int × Int)
 | x :: y :: r => (x, y) :: pairsL r
 | _ => []
inductive OutO where
 | wire
 | bad
 | ok (o : GOd) (al : List (Int × Int))
def finO (l : List UInt8) (o : GOd) (al : List (Int × Int)) (a : Int) : OutO := if a = (l.length : Int) then .ok o al else .wire
def GOd.withL (o : GOd) (n : Nat) : GOd := { o with an := n }
def GOd.withT (o : GOd) (t : List UInt8) : GOd := { o with txt := ⟨t.toArray⟩ }
def ordC (l : List UInt8) (o : GOd) (a : Int) : OutO :=
 if o.k = 3 then
  if (intR l a).2.2 = 0 then
   if (intR l a).1 < 0 ∨ 7 < (intR l a).1 then .bad else
   match readN l (2 * (intR l a).1.toNat) (intR l a).2.1 with
   | none => .wire
   | some r => finO l (o.withL (intR l a).1.toNat) (pairsL r.1) r.2
  else .wire
 else if o.k = 5 then
  if (strR l a).2.2 = 0 then finO l (o.withT (strR l a).1) [] (strR l a).2.1 else .wire
 else finO l o [] a
def ordB (l : List UInt8) (o : GOd) (a : Int) : OutO :=
 if 1 ≤ o.k ∧ o.k ≤ 5 then
  match readN l (ofsK o.k).length a with
  | none => .wire
  | some r => ordC l (o.withN r.1) r.2
 else .bad
def ordR (l : List UInt8) : OutO :=
 match readN l 4 0 with
 | none => .wire
 | some r => ordB l (o4 r.1) r.2
open Go.RowKit Onair
theorem whole {x l : List UInt8} (h : x <+: l.drop 0) (hl : (x.length : Int) = (l.length : Int)) : x = l := by
 rw [List.drop_zero] at h
 exact h.eq_of_length (by omega)
end Go.Proofs.YtjkiidhnmljmbaaGreatDoor
