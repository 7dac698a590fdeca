/-
  Steps of drawn regions: a part of a block is read, a part of a block is written.
-/
import Derived.Test.YtjkiidhnmljmbaaDoorGoZ
import Derived.Test.YtjkiidhnmljmbaaDoorOrK
set_option linter.unusedVariables false
set_option linter.unusedSimpArgs false
namespace Go.Proofs.YtjkiidhnmljmbaaDoor
open Go.RowKit
theorem step_storeMid {ops : Array Oper} {o : Oper} {a : Act} {K : Act → World → Prop} {Q : Exit → Act → World → Prop} {E : Prop} {W : World} (hgd : o.guard = none) (ty : TypeId) (x y : Operand) (ho : o.op = .store ty x y)
    (g f : Nat) (cells : Array Value) (hx : a.eval x = .pointer (some ⟨g, f, none⟩)) (hy : a.eval y = .agg cells) (ht : W.there g f cells.size) (hi : (Tryd.prog.info? ty).map (·.size) = some cells.size) (h1 : cells.all (·.oneCell') = true)
    (hK : K (a.put o.dst undef) (W.setCells g f cells.toList)) :
    if Region.wanted o (yielded ops a.tmps) = true then Oper.wp Tryd.prog o a W K Q else E := by
  have hw : Region.wanted o (yielded ops a.tmps) = true := by simp [Region.wanted, hgd]
  rw [if_pos hw]
  exact wp_store_mid ty x y ho g f cells hx hy ht hi h1 hK
theorem step_loadMid {ops : Array Oper} {o : Oper} {a : Act} {K : Act → World → Prop} {Q : Exit → Act → World → Prop} {E : Prop} {W : World} (hgd : o.guard = none) (ty : TypeId) (x : Operand) (ho : o.op = .load ty x)
    (b f : Nat) (hx : a.eval x = .pointer (some ⟨b, f, none⟩)) (cs : List Value) (d : TypeDesc) (hc : W.rangeAt b f cs)
    (hu : Tryd.prog.underlying ty = some d) (hd : d.isRow = true) (hi : (Tryd.prog.info? ty).map (·.size) = some cs.length)
    (hK : K (a.put o.dst (.agg cs.toArray)) W) :
    if Region.wanted o (yielded ops a.tmps) = true then Oper.wp Tryd.prog o a W K Q else E := by
  have hw : Region.wanted o (yielded ops a.tmps) = true := by simp [Region.wanted, hgd]
  rw [if_pos hw]
  exact wp_load_mid ty x ho b f hx cs d hc hu hd hi hK
theorem below_setCells {B : Nat} {W A : World} (h : Below B W A) (hB : B ≤ A.heap.size) (g f : Nat) (cs : List Value) (hg : B ≤ g) : Below B W (A.setCells g f cs) :=
  h.trans ((Fr.setCells (S := fun c => c = g) g cs f (Fr.refl _ A) (.inl rfl)).below B hB (fun c e => by omega))
end Go.Proofs.YtjkiidhnmljmbaaDoor
