/-
  The helpers of the laws of package digest: few, hex, binary, left, collide.
  What the laws of package digest share: a list that is read, binary.
  Helpers of the laws of package digest: append of a list, left, way, collide.
  Plain laws of two proofs of one root; the walk of collide.
  The walk of the law DigestBinding.
  Plain laws of Verify: two accepted proofs of one place bind the record and the salt, or two strings collide.
-/
import Derived.WalkKit
import Derived.LoopTactic
import Derived.WalkSpells
import Derived.WalkLawsBesides
import Derived.IntWalk
import Derived.Outline
import Derived.Deep.QuietTactic
import Derived.BigQuiet
import Derived.Deep.RegionLaw
import Derived.Deep.RegionHeld3
import Derived.Deep.DrawnRows
import Derived.Deep.AppendLies
import Derived.Laws.EntriesVeiled
import Derived.Lib.Hide
import Derived.Laws.OwnMore
import Derived.Test.YtfpcdlpfmlaakaaGreatDoorDgG
import Derived.Test.YtfpcdlpfmlaakaaGreatDoorDgI
import Derived.Test.YtfpcdlpfmlaakaaGreatDoorDgK
import Derived.Test.YtfpcdlpfmlaakaaGreatDoorDkB
set_option linter.unusedVariables false
set_option linter.unusedSimpArgs false
namespace Go.Proofs.YtfpcdlpfmlaakaaGreatDoor
open Go.RowKit Onair
attribute [local go_sem ↓] Go.wp_at_zero Go.wp_at_succ
theorem Fr.cell {S : Nat → Prop} {A B : World} (h : Fr S A B) (p : Addr) (hp : p.block < A.heap.size) (hs : ¬ S p.block) : B.cell? p = A.cell? p := by
  have e := h.block p.block hp hs
  obtain ⟨b, o, s⟩ := p
  cases s <;> simp only [World.cell?, e] <;> rfl
/-- A list of strings of the call's own. -/
def OwnS (B : Nat) (v : Value) (xs : List ByteArray) (W : World) : Prop := W.ownsRow B 9 1 v xs.length (xs.map Value.string) ∧ B ≤ W.heap.size
theorem OwnS.kept {B : Nat} {v : Value} {xs : List ByteArray} {W W' : World} (h : OwnS B v xs W) (hb : Below W.heap.size W W') : OwnS B v xs W' :=
  ⟨ownsRow_keptF h.1 (fun k hk => hb.block _ (own_lt h.1 k hk)), Nat.le_trans h.2 hb.size⟩
end Go.Proofs.YtfpcdlpfmlaakaaGreatDoor
namespace Go.Proofs.YtfpcdlpfmlaakaaGreatDoor
open Go.RowKit Onair
attribute [local go_sem ↓] Go.wp_at_zero Go.wp_at_succ
/-- A list of strings that a law reads. -/
structure LW (w : World) (oa : Option Addr) (L : List ByteArray) (W : World) : Prop where
  rd : RdS W oa L
  tab : TabAt W
  bel : Below w.heap.size w W
theorem LW.next {w : World} {oa : Option Addr} {L : List ByteArray} {W W' : World} (h : LW w oa L W) (hb : Below W.heap.size W W') : LW w oa L W' := ⟨h.rd.kept hb, h.tab.below hb, h.bel.trans (hb.mono h.bel.size)⟩
theorem LW.drewN {w : World} {oa : Option Addr} {L : List ByteArray} {W : World} (h : LW w oa L W) (n : Nat) : LW w oa L (W.drewN n) := h.next (drewN_below (Below.refl _ _) n)
theorem LW.drew {w : World} {oa : Option Addr} {L : List ByteArray} {W : World} (h : LW w oa L W) : LW w oa L W.drew := h.next (Below.refl _ _).drew
theorem RdS.take {W : World} {oa : Option Addr} {l : List ByteArray} (h : RdS W oa l) (k : Nat) : RdS W oa (l.take k) := by
  rcases h with rfl | ⟨b, o, e, h⟩
  · exact .inl (by simp)
  · exact .inr ⟨b, o, e, h.take k⟩
theorem SzB.mono {m n : Nat} {l : List ByteArray} (h : SzB m l) (hmn : m ≤ n) : SzB n l := fun x hx => Nat.le_trans (h x hx) hmn
def extP (l : List ByteArray) (m : Nat) : List ByteArray := if m = 0 then [] else extL l m true
end Go.Proofs.YtfpcdlpfmlaakaaGreatDoor
namespace Go.Proofs.YtfpcdlpfmlaakaaGreatDoor
open Go.RowKit Onair
attribute [local go_sem ↓] Go.wp_at_zero Go.wp_at_succ
theorem run_append_none (W : World) (B : Nat) (v : Value) (n : Nat) (xs : List Value) (hown : W.ownsRow B 9 1 v n xs) (c : Nat) (ty : TypeId) : (Builtin.append_ #[63, 63] ty #[v, .slice none 0 c]).run Tryz.prog W = .ok v W := by
  obtain ⟨i0, hi, hz0, hz1, hz2⟩ := info_parts Tryz.infoStr
  rcases hown.2 with ⟨rfl, rfl⟩ | ⟨g, cap, cur, rfl, _, _, hnc, _⟩
  · simp [Builtin.append_, run_underlying Tryz.underlying63, sizeOf, typeInfo, hi, Builtin.lenOf, Builtin.firstCells]
  · simp [Builtin.append_, run_underlying Tryz.underlying63, sizeOf, typeInfo, hi, Builtin.lenOf, Builtin.firstCells, hnc, storeCells]
/-- append of a list to a row of the call's own. -/
theorem app_list (W : World) (B : Nat) (v : Value) (xs ys : List ByteArray) (oa : Option Addr) (c : Nat) (ho : OwnS B v xs W) (hr : RdS W oa ys) (hc : oa = none → ys = [] → True) (hxl : xs.length ≤ 1000000) (hyl : ys.length ≤ 1000000) (ty : TypeId) :
    ∃ ob cb w', (Builtin.append_ #[63, 63] ty #[v, .slice oa ys.length c]).run Tryz.prog W = .ok (.slice ob (xs ++ ys).length cb) w' ∧ OwnS B (.slice ob (xs ++ ys).length cb) (xs ++ ys) w' ∧ Fr (fun k => B ≤ k) W w' := by
  obtain ⟨i0, hi, hz0, hz1, hz2⟩ := info_parts Tryz.infoStr
  have hge := own_ge ho.1
  cases oa with
  | none =>
    have hy : ys = [] := by
      rcases hr with h | ⟨b, o, e, _⟩
      · exact h
      · cases e
    subst hy
    obtain ⟨ob, cb, rfl⟩ := own_slice ho.1
    rw [List.append_nil]
    exact ⟨ob, cb, W, run_append_none W B _ _ _ ho.1 c ty, ho, Fr.refl _ _⟩
  | some a =>
    have hnews : ∀ j u, (ys.map Value.string)[j]? = some u → W.cell? (a.add j) = some u := fun j u hj => by
      rcases hr with h | ⟨b, o, e, h⟩
      · subst h; simp at hj
      · obtain rfl := Option.some.inj e
        rw [List.getElem?_map] at hj
        obtain ⟨x, hx, rfl⟩ := Option.map_eq_some_iff.1 hj
        rw [show ((⟨b, o, none⟩ : Addr).add j) = ⟨b, o + j, none⟩ from by unfold Addr.add; split <;> simp_all]
        exact h.cell j x hx
    obtain ⟨v', w', hrun, h1, h2, h3⟩ := app_own (P := Tryz.prog) (W := W) B 63 ty 9 i0 (.string ⟨#[]⟩) 1 16 Tryz.underlying63 hi hz0 hz1 hz2 rfl (by decide) v xs.length (xs.map Value.string) ho.1 a ys.length c (ys.map Value.string) (by simp) hnews (by
      intro u hu
      rw [List.mem_map] at hu
      obtain ⟨x, _, rfl⟩ := hu
      rfl) (by unfold maxLen; omega) (by omega) ho.2
    obtain ⟨ob, cb, rfl⟩ := own_slice h1
    refine ⟨ob, cb, w', by rw [List.length_append]; exact hrun, ⟨by rw [List.length_append, List.map_append]; exact h1, Nat.le_trans ho.2 h2.size⟩, h2.mono (fun k hk => hge k hk)⟩
/-- The strings of which the digest is computed for a proof that was accepted. -/
def wayR : List ByteArray → Nat → Nat → ByteArray → List ByteArray
  | [], _, _, s => [leafS s]
  | x :: q, n, i, s => if i < splitN n then nodeS (valR q (splitN n) i s).1 x :: wayR q (splitN n) i s else nodeS x (valR q (n - splitN n) (i - splitN n) s).1 :: wayR q (n - splitN n) (i - splitN n) s
theorem nodeS_cat (a b : ByteArray) : (⟨#[1]⟩ : ByteArray) ++ a ++ b = nodeS a b := by
  apply ByteArray.ext
  simp [nodeS]
theorem leafS_cat (s : ByteArray) : (⟨#[0]⟩ : ByteArray) ++ s = leafS s := by
  apply ByteArray.ext
  simp [leafS]
end Go.Proofs.YtfpcdlpfmlaakaaGreatDoor
namespace Go.Proofs.YtfpcdlpfmlaakaaGreatDoor
open Go.RowKit Onair
attribute [local go_sem ↓] Go.wp_at_zero Go.wp_at_succ
def collB : List ByteArray → List ByteArray → Bool
  | x :: a, y :: b => (decide (x ≠ y) && decide (shaB x = shaB y)) || collB a b
  | _, _ => false
theorem neq_dec (a b : ByteArray) : (a.toList != b.toList) = decide (a ≠ b) := by
  rw [bne, beq_dec]
  by_cases h : a = b
  · rw [decide_eq_true h, decide_eq_false (fun n => n h)]; rfl
  · rw [decide_eq_false h, decide_eq_true h]; rfl
end Go.Proofs.YtfpcdlpfmlaakaaGreatDoor
namespace Go.Proofs.YtfpcdlpfmlaakaaGreatDoor
open Go.RowKit Onair
attribute [local go_sem ↓] Go.wp_at_zero Go.wp_at_succ
def verI (root : ByteArray) (n i : Int) (s : ByteArray) (p : List ByteArray) : Bool := decide (0 ≤ i ∧ i < n) && verB root n.toNat i.toNat s p
theorem verify_all (root : ByteArray) (n i : Int) (s : ByteArray) (oa : Option Addr) (p : List ByteArray) (cap : Nat) (w : World) (hn : n ≤ 9223372036854775807) (hs : s.size ≤ 900000000) (hp : p.length ≤ 1000000) (hpc : p.length ≤ cap) (hcc : cap ≤ 9223372036854775807) (hr : RdS w oa p) (ht : TabAt w) :
    Calls Tryz.prog 79 #[.string root, .int .i64 n, .int .i64 i, .string s, .slice oa p.length cap] w fun e w' => e = .returned (.bool (verI root n i s p)) ∧ Below w.heap.size w w' := by
  unfold verI
  by_cases h : 0 ≤ i ∧ i < n
  · rw [decide_eq_true h, Bool.true_and]
    have := verify_in root n.toNat i.toNat s oa p cap w (by omega) (by omega) hs hp hpc hcc hr ht
    rw [show ((n.toNat : Nat) : Int) = n by omega, show ((i.toNat : Nat) : Int) = i by omega] at this
    exact this
  · rw [decide_eq_false h, Bool.false_and]
    exact verify_out root n i s oa p.length cap w (by omega)
end Go.Proofs.YtfpcdlpfmlaakaaGreatDoor
namespace Go.Proofs.YtfpcdlpfmlaakaaGreatDoor
open Go.RowKit Onair
def verA (root : ByteArray) (r : Rec) (i n : Int) (salt : ByteArray) (p : List ByteArray) : Bool := validR r && (salt.size == 32) && verI root n i (salt ++ encB r) p
/-- The strings that are hashed, from the entry upwards. -/
def preL (s : ByteArray) (n i : Nat) (p : List ByteArray) : List ByteArray := (wayR p.reverse n i s).reverse
end Go.Proofs.YtfpcdlpfmlaakaaGreatDoor
