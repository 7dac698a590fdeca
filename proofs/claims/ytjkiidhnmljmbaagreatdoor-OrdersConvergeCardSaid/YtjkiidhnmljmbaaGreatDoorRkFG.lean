/- The walks of the reference implementation of package wire: zigzag, PutInt. -/
import Derived.WalkKit
import Derived.LoopTactic
import Derived.OwnWalk
import Derived.WalkSpells
import Derived.WalkLawsBesides
import Derived.Laws.BitsAllLaws
import Derived.Laws.OwnMore
import Derived.Laws.IdiomStrings
import Derived.Maps.AppendAt
import Derived.RangeFuncBox
import Derived.Lib.Hide
import Derived.IntWalk
import Derived.Test.YtjkiidhnmljmbaaGreatDoorGoW
import Derived.Test.YtjkiidhnmljmbaaGreatDoorGqDF
set_option linter.unusedVariables false
set_option linter.unusedSimpArgs false
namespace Go.Proofs.YtjkiidhnmljmbaaGreatDoor
open Go.RowKit Onair
open Go.RowKit Onair
open Go.RowKit Onair
def rkN (l : List UInt8) (s : Int × Int) : Int × Int × Int :=
 if s.2 = 0 then (if (intR l s.1).2.2 = 0 then ((intR l s.1).1, (intR l s.1).2.1, 0) else (0, s.1, 10)) else (0, s.1, s.2)
def rkL (l : List UInt8) : Nat → Int × Int → List Int × Int × Int
 | 0, s => ([], s)
 | n + 1, s => ((rkN l s).1 :: (rkL l n (rkN l s).2).1, (rkL l n (rkN l s).2).2)
def InAt (W : World) (b : Nat) (s : ByteArray) (q : Int × Int) : Prop := Blk W b 103 [.string s, .int .i64 q.1, .int .i64 q.2]
def rkT (l : List UInt8) (s : Int × Int) : List UInt8 × Int × Int :=
 if s.2 = 0 then (if (strR l s.1).2.2 = 0 then ((strR l s.1).1, (strR l s.1).2.1, 0) else ([], s.1, 10)) else ([], s.1, s.2)
open Go.RowKit Onair
def rkC (l : List UInt8) (s : Int × Int) : Int × Int × Int :=
 if (rkN l s).2.2 = 0 then (if (rkN l s).1 < 0 ∨ 7 < (rkN l s).1 then (0, (rkN l s).2.1, 110) else rkN l s) else (0, (rkN l s).2)
def RdIn (W : World) (oa : Option Addr) (vs : List Int) : Prop := vs = [] ∨ ∃ b o, oa = some ⟨b, o, none⟩ ∧ b < W.heap.size ∧ ∀ (i : Nat) x, vs[i]? = some x → W.cell? ⟨b, o + i, none⟩ = some (.int .i64 x)
theorem RdIn.kept {W W' : World} {oa : Option Addr} {l : List Int} (h : RdIn W oa l) (hb : Below W.heap.size W W') : RdIn W' oa l := by
 rcases h with rfl | ⟨b, o, e, hlt, hc⟩
 ·exact .inl rfl
 ·exact .inr ⟨b, o, e, Nat.lt_of_lt_of_le hlt hb.size, fun j v hj => (hb.cell (p := ⟨b, o + j, none⟩) hlt).trans (hc j v hj)⟩
open Go.RowKit Onair
def clauseOf (vs : List Int) : ClD := ⟨vs.getD 0 0, vs.getD 1 0, vs.getD 2 0, vs.getD 3 0, vs.getD 4 0, vs.getD 5 0, vs.getD 6 0, vs.getD 7 0⟩
structure RkS (W z : World) (b N M : Nat) (s : ByteArray) (q : Int × Int) (t : TypeId) (cN cM : List Value) : Prop where
 i : InAt z b s q
 kn : Blk z N t cN
 km : Blk z M t cM
 fr : Fr (fun c => c = b) W z
 n1 : b ≠ N
 n2 : b ≠ M
 n3 : N ≠ M
 g1 : W.heap.size ≤ N
 g2 : W.heap.size ≤ M
section
variable {W z z' : World} {b N M : Nat} {s : ByteArray} {q q' : Int × Int} {t : TypeId} {cN cM : List Value}
theorem RkS.num (h : RkS W z b N M s q t cN cM) (hk : InAt z' b s q') (hf : Fr (fun c => c = b) z z') : RkS W z' b N M s q' t cN cM :=
 ⟨hk, h.kn.kept (hf.block N h.kn.lt (fun e => h.n1 e.symm)), h.km.kept (hf.block M h.km.lt (fun e => h.n2 e.symm)), h.fr.trans hf (fun _ _ e => e), h.n1, h.n2, h.n3, h.g1, h.g2⟩
theorem RkS.put (h : RkS W z b N M s q t cN cM) (i : Nat) (v : Value) : RkS W (z.setCell ⟨M, i, none⟩ v) b N M s q t cN (cM.set i v) :=
 ⟨Blk.other h.i ⟨M, i, none⟩ h.n2.symm v, h.kn.other ⟨M, i, none⟩ h.n3.symm v, h.km.set i v, h.fr.setCell ⟨M, i, none⟩ v (.inr h.g2), h.n1, h.n2, h.n3, h.g1, h.g2⟩
theorem RkS.below (h : RkS W z b N M s q t cN cM) (hb : Below z.heap.size z z') : RkS W z' b N M s q t cN cM :=
 ⟨Blk.kept h.i (hb.block b h.i.lt), h.kn.kept (hb.block N h.kn.lt), h.km.kept (hb.block M h.km.lt), h.fr.trans (Fr.under (fun c => c = b) hb) (fun _ _ e => e), h.n1, h.n2, h.n3, h.g1, h.g2⟩
theorem RkS.turn (h : RkS W z b N M s q t cN cM) {S : Nat → Prop} (hf : Fr S z z') (hS : ∀ c, S c → c ≠ b ∧ c ≠ N ∧ c ≠ M ∧ W.heap.size ≤ c) : RkS W z' b N M s q t cN cM :=
 ⟨Blk.kept h.i (hf.block b h.i.lt (fun e => (hS _ e).1 rfl)), h.kn.kept (hf.block N h.kn.lt (fun e => (hS _ e).2.1 rfl)), h.km.kept (hf.block M h.km.lt (fun e => (hS _ e).2.2.1 rfl)), h.fr.trans hf (fun c hc e => absurd (hS c e).2.2.2 (by omega)), h.n1, h.n2, h.n3, h.g1, h.g2⟩
end
def EntryPost (W : World) (b : Nat) (s : ByteArray) (a e : Int) (en : Ending) (w' : World) : Prop := ∃ (vs : List Int) (q6 : Int × Int) (i : Nat) (ws : List Int) (q : Int × Int) (oa : Option Addr) (cap : Nat), rkL s.data.toList 6 (a, e) = (vs, q6) ∧ rkL s.data.toList (2 * i) (rkC s.data.toList q6).2 = (ws, q) ∧ (q.2 = 0 → (i : Int) = (rkC s.data.toList q6).1) ∧ (i : Int) ≤ (rkC s.data.toList q6).1 ∧ i ≤ 7 ∧ en = .returned (.agg #[.int .i64 (vs.getD 0 0), .int .i64 (vs.getD 1 0), .int .i64 (vs.getD 2 0), .int .i64 (vs.getD 3 0), .int .i64 (vs.getD 4 0), .int .i64 (vs.getD 5 0), .slice oa i cap]) ∧ RdA w' oa (pairsL ws) ∧ (∀ x, oa = some x → W.heap.size ≤ x.block) ∧ InAt w' b s q ∧ Fr (fun c => c = b) W w'
attribute [local go_sem] Oper.semAt_some
def iC (l : List Int) : List Value := l.map fun x => .int .i64 x
theorem iC_len (l : List Int) : (iC l).length = l.length := List.length_map _
theorem iC_app (a b : List Int) : iC (a ++ b) = iC a ++ iC b := List.map_append
theorem iC_one (l : List Int) : ∀ u ∈ iC l, u.oneCell' = true := fun u hu => by
 obtain ⟨x, _, rfl⟩ := List.mem_map.1 hu
 rfl
theorem Tryz.infoIntR : (Tryz.prog.info? 3).map (fun i => (i.zero, i.size, i.bytes)) = some (some (.int .i64 0), 1, 8) := by kernel_rfl
theorem app_intsN (wr : World) (B : Nat) (v : Value) (n k : Nat) (xs ys : List Int) (hown : wr.ownsRow B 3 1 v n (iC xs)) (hn : n ≤ 1000) (hk : ys.length = k) (hk9 : k ≤ 1000) (hB : B ≤ wr.heap.size) (ty : TypeId) :
  ∃ oa cap w', (Builtin.append_ #[65, 65] ty #[v, .slice (some ⟨wr.heap.size, 0, none⟩) k k]).run Tryz.prog (wr.alloc (.cells (iC ys).toArray 3)) = .ok (.slice oa (n + k) cap) w' ∧ w'.ownsRow B 3 1 (.slice oa (n + k) cap) (n + k) (iC (xs ++ ys)) ∧ Fr (fun c => v.ownBlock = some c) wr w' ∧ (∀ c, (Value.slice oa (n + k) cap).ownBlock = some c → v.ownBlock = some c ∨ wr.heap.size ≤ c) := by
 obtain ⟨i0, hi, hz0, hz1, hz2⟩ := info_parts Tryz.infoIntR
 have hnew : Blk (wr.alloc (.cells (iC ys).toArray 3)) wr.heap.size 3 (iC ys) := Blk.new wr _ _
 obtain ⟨v', w', hrun, h1, h2, h3⟩ := app_own (P := Tryz.prog) (W := wr.alloc (.cells (iC ys).toArray 3)) B 65 ty 3 i0 (.int .i64 0) 1 8 Tryz.underlying65 hi hz0 hz1 hz2 rfl (by decide) v n (iC xs) (hown.alloc _) ⟨wr.heap.size, 0, none⟩ k k (iC ys) (by rw [iC_len, hk, Nat.mul_one]) (fun j u hj => by
   rw [show ((⟨wr.heap.size, 0, none⟩ : Addr).add j) = ⟨wr.heap.size, j, none⟩ from by unfold Addr.add; split <;> simp_all, hnew.cell]
   exact hj) (iC_one ys) (by unfold maxLen; omega) (by omega) (by simp; omega)
 obtain ⟨oa, cap, rfl⟩ := own_slice h1
 refine ⟨oa, cap, w', hrun, by rw [iC_app]; exact h1, ((Fr.refl _ wr).alloc _).trans h2 (fun k _ hk => hk), fun c hc => (h3 c hc).imp_right (fun h => ?_)⟩
 rw [World.size_alloc] at h
 omega
def ClD.nums (c : ClD) : List Int := [c.kind, c.item, c.frm, c.til, c.regs, c.n, c.a, c.b]
def eN (o : GOd) : List Int := [o.nid, o.item, o.frs, o.ear, o.lat, o.book, (o.an : Int)]
def EnI (W wr : World) (N B : Nat) (o : GOd) (al : List (Int × Int)) (vl vi : Value) : Prop := ∃ (i cl : Nat) (ol : Option Addr), i ≤ o.an ∧ vi = .int .i64 i ∧ vl = .slice ol (7 + 2 * i) cl ∧ Hid (Blk wr N 24 [.int .i64 o.nid, .int .i64 o.item, .int .i64 o.frs, .int .i64 o.ear, .int .i64 o.lat, .int .i64 o.book, .slice o.ao o.an o.ac]) ∧ Hid (wr.ownsRow B 3 1 (.slice ol (7 + 2 * i) cl) (7 + 2 * i) (iC (eN o ++ altI (al.take i)))) ∧ Hid (Below N W wr) ∧ Hid (B ≤ wr.heap.size)
def EnPost (W : World) (o : GOd) (al : List (Int × Int)) (e : Ending) (w' : World) : Prop := ∃ oa cap, e = .returned (.slice oa (7 + 2 * o.an) cap) ∧ RdIn w' oa (eN o ++ altI al) ∧ Below W.heap.size W w'

open Go.RowKit Onair
end Go.Proofs.YtjkiidhnmljmbaaGreatDoor
