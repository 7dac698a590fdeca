/-
  Orders: errors.Is between the sentinels, and of a fault for another reason.
-/
import Derived.Test.YtjkiidhnmljmbaaDoorOrV
set_option linter.unusedVariables false
set_option linter.unusedSimpArgs false
namespace Go.Proofs.YtjkiidhnmljmbaaDoor
open Go.RowKit Go.Extern.Stop Go.Stop Go.Extern Onair
/-- Two sentinels that lie apart. -/
structure Apart (W : World) (a b : Addr) : Prop where
  ne : a ≠ b
  ha : ∃ ca ta, W.heap[a.block]? = some (.cells ca ta (0, 0))
  hb : ∃ cb tb, W.heap[b.block]? = some (.cells cb tb (0, 0))
theorem Apart.below {W W' : World} {a b : Addr} (h : Apart W a b) (hb : Below W.heap.size W W') : Apart W' a b := by
  obtain ⟨h1, ⟨ca, ta, h2⟩, ⟨cb, tb, h3⟩⟩ := h
  exact ⟨h1, ⟨ca, ta, (hb.block _ (Array.getElem?_eq_some_iff.1 h2).1).trans h2⟩, ⟨cb, tb, (hb.block _ (Array.getElem?_eq_some_iff.1 h3).1).trans h3⟩⟩
theorem Apart.flip {W : World} {a b : Addr} (h : Apart W a b) : Apart W b a := ⟨fun e => h.ne e.symm, h.hb, h.ha⟩
theorem Tryd.noIsE (v : Value) (xT : TypeId) (w : World) : (Instr.typeAssert (.iface 169 v) xT 155 true).run Tryd.prog w = .ok (.tuple #[.nilIface, .bool false]) w := run_typeAssert_lacksB Tryd.underlying155 (by kernel_rfl) (by kernel_rfl) v xT w
theorem Tryd.noUnwrapE (v : Value) (xT : TypeId) (w : World) : (Instr.typeAssert (.iface 169 v) xT 158 true).run Tryd.prog w = .ok (.tuple #[.nilIface, .bool false]) w := run_typeAssert_lacksB Tryd.underlying158 (by kernel_rfl) (by kernel_rfl) v xT w
theorem Tryd.noUnwrapsE (v : Value) (xT : TypeId) (w : World) : (Instr.typeAssert (.iface 169 v) xT 160 true).run Tryd.prog w = .ok (.tuple #[.nilIface, .bool false]) w := run_typeAssert_lacksB Tryd.underlying160 (by kernel_rfl) (by kernel_rfl) v xT w
set_option maxHeartbeats 2000000 in
set_option maxRecDepth 100000 in
theorem is_es_same (b : Addr) (w : World) :
    Calls Tryd.prog 35 #[.iface 169 (.pointer (some b)), .iface 169 (.pointer (some b))] w fun e w' => e = .returned (.bool true) ∧ Below w.heap.size w w' := by
  obtain ⟨i, hi, hcmp⟩ := Option.map_eq_some_iff.1 Tryd.isComp
  obtain ⟨j, hj, hjs⟩ := Option.map_eq_some_iff.1 Tryd.isSize
  have h8 := @run_callFunc_extern Tryd.prog 60 _ Extern.ReflectliteType.typeOf Tryd.func60 (by kernel_rfl) (by kernel_rfl) (by kernel_rfl) (by kernel_rfl)
  have h32 := @run_callFunc_extern Tryd.prog 110 _ compE Tryd.func110 (by kernel_rfl) (by kernel_rfl) (by kernel_rfl) (by kernel_rfl)
  have tT := Tryd.isTypeOf
  have cT := Tryd.isComparable
  have mR := Tryd.isMethodComparable
  have heq := fun w => run_eql_iface_ptr_same (P := Tryd.prog) w b Tryd.underlying72 Tryd.underlying169 hi hcmp hj
  go_enter Tryd.func35, Tryd.ntmps35
  go_wp2
  refine wp_loop_rounds 1 ?_
  rw [rounds_succ]
  go_wp2
  go_ret
  exact ⟨rfl, Below.refl _ _⟩
set_option maxHeartbeats 2000000 in
set_option maxRecDepth 100000 in
theorem is_es_other (a b : Addr) (w : World) (hab : Apart w a b) :
    Calls Tryd.prog 35 #[.iface 169 (.pointer (some a)), .iface 169 (.pointer (some b))] w fun e w' => e = .returned (.bool false) ∧ Below w.heap.size w w' := by
  obtain ⟨hne, ⟨ca, ta, ha⟩, ⟨cb, tb, hb⟩⟩ := hab
  obtain ⟨i, hi, hcmp⟩ := Option.map_eq_some_iff.1 Tryd.isComp
  obtain ⟨j, hj, hjs⟩ := Option.map_eq_some_iff.1 Tryd.isSize
  have h8 := @run_callFunc_extern Tryd.prog 60 _ Extern.ReflectliteType.typeOf Tryd.func60 (by kernel_rfl) (by kernel_rfl) (by kernel_rfl) (by kernel_rfl)
  have h32 := @run_callFunc_extern Tryd.prog 110 _ compE Tryd.func110 (by kernel_rfl) (by kernel_rfl) (by kernel_rfl) (by kernel_rfl)
  have tT := Tryd.isTypeOf
  have cT := Tryd.isComparable
  have mR := Tryd.isMethodComparable
  have nW := Tryd.noIsE
  have uW := Tryd.noUnwrapE
  have uS := Tryd.noUnwrapsE
  have heq := run_eql_iface_ptr_other (P := Tryd.prog) w (ti := 72) (tp := 169) Tryd.underlying72 Tryd.underlying169 hi hcmp hj (by rw [hjs]; decide) hne ha hb
  go_enter Tryd.func35, Tryd.ntmps35
  go_wp2
  refine wp_loop_rounds 1 ?_
  rw [rounds_succ]
  go_wp2
  go_ret
  exact ⟨rfl, Below.refl _ _⟩
set_option maxHeartbeats 2000000 in
set_option maxRecDepth 100000 in
theorem is_fault_other (x : Int) (a b : Addr) (w : World) (hab : Apart w a b) :
    Calls Tryd.prog 35 #[.iface 79 (.agg #[.int .i64 x, .iface 169 (.pointer (some a))]), .iface 169 (.pointer (some b))] w fun e w' => e = .returned (.bool false) ∧ Below w.heap.size w w' := by
  have hab2 := hab.below ((Below.refl w.heap.size w).alloc (Nat.le_refl _) (.cells #[.int .i64 x, .iface 169 (.pointer (some a))] 79))
  obtain ⟨hne, ⟨ca, ta, ha⟩, ⟨cb, tb, hb⟩⟩ := hab2
  obtain ⟨i, hi, hcmp⟩ := Option.map_eq_some_iff.1 Tryd.isComp
  obtain ⟨j, hj, hjs⟩ := Option.map_eq_some_iff.1 Tryd.isSize
  have h8 := @run_callFunc_extern Tryd.prog 60 _ Extern.ReflectliteType.typeOf Tryd.func60 (by kernel_rfl) (by kernel_rfl) (by kernel_rfl) (by kernel_rfl)
  have h32 := @run_callFunc_extern Tryd.prog 110 _ compE Tryd.func110 (by kernel_rfl) (by kernel_rfl) (by kernel_rfl) (by kernel_rfl)
  have tT := Tryd.isTypeOf
  have cT := Tryd.isComparable
  have mR := Tryd.isMethodComparable
  have nW := Tryd.noIsW
  have nE := Tryd.noIsE
  have uW := Tryd.hasUnwrapW
  have uE := Tryd.noUnwrapE
  have uS := Tryd.noUnwrapsE
  have mU := Tryd.methodUnwrap
  have heq := run_eql_iface_ptr_other (P := Tryd.prog) (w.alloc (.cells #[.int .i64 x, .iface 169 (.pointer (some a))] 79)) (ti := 72) (tp := 169) Tryd.underlying72 Tryd.underlying169 hi hcmp hj (by rw [hjs]; decide) hne ha hb
  have hty := fun w => run_eql_iface_types (P := Tryd.prog) 79 169 (.agg #[.int .i64 x, .iface 169 (.pointer (some a))]) (.pointer (some b)) Tryd.underlying72 (by decide) w
  go_enter Tryd.func35, Tryd.ntmps35
  go_wp2
  refine wp_loop_rounds 2 ?_
  rw [rounds_succ]
  go_wp2
  rw [rounds_succ]
  go_wp2
  go_ret
  exact ⟨rfl, (Below.refl _ _).alloc (Nat.le_refl _) _⟩
end Go.Proofs.YtjkiidhnmljmbaaDoor
