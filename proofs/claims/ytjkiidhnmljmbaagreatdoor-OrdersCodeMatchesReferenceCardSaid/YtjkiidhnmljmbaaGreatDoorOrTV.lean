/-
  Orders: replan.Decode of a fixed drop order.
  Orders: the decoding of a fixed message.
  Orders: errors.Is of a fault and its reason; the decoding of the empty string.
-/
import Derived.Defers
import Derived.Recover
import Derived.LaidEql
import Derived.Stop.Asserts
import Derived.RowKitTokens
import Derived.Laws.Externs
import Derived.Test.YtjkiidhnmljmbaaGreatDoorOrRS
import Derived.Test.YtjkiidhnmljmbaaGreatDoorOrPQ
import Derived.Test.YtjkiidhnmljmbaaGreatDoorOrJK
set_option linter.unusedVariables false
set_option linter.unusedSimpArgs false
namespace Go.Proofs.YtjkiidhnmljmbaaGreatDoor
open Go.RowKit Onair
theorem res_two {P : Program} {f : Func} {i j a b : Nat} {t1 t2 : TypeId} (hres : f.results = #[.cell i t1, .cell j t2]) {tmps : Array Value} {w : World} {v1 v2 : Value} (h2 : tmps[i]?.getD undef = .pointer (some ⟨a, 0, none⟩)) (h3 : tmps[j]?.getD undef = .pointer (some ⟨b, 0, none⟩))
    (l1 : (loadVar t1 ⟨a, 0, none⟩).run P w = .ok v1 w) (l2 : (loadVar t2 ⟨b, 0, none⟩).run P w = .ok v2 w) : (results f tmps).run P w = .ok (.tuple #[v1, v2]) w := by
  simp [results, hres, h2, h3, asAddr, l1, l2, Result.andThen]
set_option maxRecDepth 100000 in
theorem icatch_idle (r1 r2 : Nat) (w : World) :
    CallsD Tryz.prog 77 #[.pointer (some ⟨r1, 0, none⟩), .pointer (some ⟨r2, 0, none⟩)] .returning w fun e u' w' => e = .returned (.tuple #[]) ∧ u' = .returning ∧ w' = w := by
  refine callsD_of_wpS Tryz.func77 rfl fun c₀ cs hu => ?_
  apply wpS_seq
  apply wpS_region
  simp [wpOpsS, go_sem, recoverD, hu, Tryz.ntmps77, Exit.thenS]
  refine wpS_of_wp ?_
  simp only [Array.replicate, List.replicate, List.setIfInBounds_toArray, List.set_cons_zero, List.set_cons_succ, List.append_toArray, List.cons_append, List.nil_append]
  go_wp2
  refine ⟨rfl, _, by rw [← hu], _, by simp [results, Tryz.results77, go_sem], rfl, rfl, rfl⟩
set_option maxRecDepth 100000 in
theorem ocatch_idle (r1 r2 : Nat) (w : World) :
    CallsD Tryz.prog 38 #[.pointer (some ⟨r1, 0, none⟩), .pointer (some ⟨r2, 0, none⟩)] .returning w fun e u' w' => e = .returned (.tuple #[]) ∧ u' = .returning ∧ w' = w := by
  refine callsD_of_wpS Tryz.func38 rfl fun c₀ cs hu => ?_
  apply wpS_seq
  apply wpS_region
  simp [wpOpsS, go_sem, recoverD, hu, Tryz.ntmps38, Exit.thenS]
  refine wpS_of_wp ?_
  simp only [Array.replicate, List.replicate, List.setIfInBounds_toArray, List.set_cons_zero, List.set_cons_succ, List.append_toArray, List.cons_append, List.nil_append]
  go_wp2
  refine ⟨rfl, _, by rw [← hu], _, by simp [results, Tryz.results38, go_sem], rfl, rfl, rfl⟩
theorem load_errno {w : World} {b : Nat} {c : Int} (h : Blk w b 35 [.int .i64 c]) : (loadVar 35 ⟨b, 0, none⟩).run Tryz.prog w = .ok (.int .i64 c) w := by
  have c0 := h.cell 0
  simp only [List.getElem?_cons_zero] at c0
  simp [go_sem, c0]
theorem load_order {w : World} {b : Nat} {l : List Value} (hl : l.length = 26) (h : Blk w b 30 l) : (loadVar 30 ⟨b, 0, none⟩).run Tryz.prog w = .ok (.agg l.toArray) w :=
  run_loadVar_mid w b 0 30 l _ h.range Tryz.underlying30 rfl (by rw [hl]; kernel_rfl)
theorem load_msg {w : World} {b : Nat} {l : List Value} (hl : l.length = 31) (h : Blk w b 32 l) : (loadVar 32 ⟨b, 0, none⟩).run Tryz.prog w = .ok (.agg l.toArray) w :=
  run_loadVar_mid w b 0 32 l _ h.range Tryz.underlying32 rfl (by rw [hl]; kernel_rfl)
end Go.Proofs.YtjkiidhnmljmbaaGreatDoor
namespace Go.Proofs.YtjkiidhnmljmbaaGreatDoor
open Go.RowKit Onair
/-- The encoding of the message with that order for machine 1. -/
def SL : List UInt8 := [2, 2, 2, 0, 0, 10, 2, 1, 10, 4, 2]
/-- The cells of the message of which the first j numbers are read. -/
def msgJ (j : Nat) : List Value := (([1, 1, 1, 0, 0] : List Int).take j ++ ([0, 0, 0, 0, 0] : List Int).drop j).map (fun x => Value.int .i64 x) ++ (ordA 0 0 0 0 0).toList
/-- Behind the reading of j numbers of the message. -/
structure DcS (W : World) (N : Nat) (s : ByteArray) (a : Int) (l : List Value) (A : World) : Prop where
  ka : Blk A N 32 (msgJ 0)
  kb : Blk A (N + 1) 35 [.int .i64 0]
  ki : Blk A (N + 2) 94 [.string s, .int .i64 a]
  km : Blk A (N + 3) 32 l
  bel : Below N W A
theorem DcS.num {W A A' : World} {N : Nat} {s : ByteArray} {a a' : Int} {l : List Value} (h : DcS W N s a l A) (hk : Blk A' (N + 2) 94 [.string s, .int .i64 a']) (hf : Fr (fun c => c = N + 2) A A') : DcS W N s a' l A' :=
  ⟨h.ka.kept (hf.block _ h.ka.lt (by omega)), h.kb.kept (hf.block _ h.kb.lt (by omega)), hk, h.km.kept (hf.block _ h.km.lt (by omega)), h.bel.trans (hf.below N (by have := h.ka.lt; omega) (fun c e => by omega))⟩
theorem DcS.set {W A : World} {N : Nat} {s : ByteArray} {a : Int} {l : List Value} (h : DcS W N s a l A) (j : Nat) (v : Value) : DcS W N s a (l.set j v) (A.setCell ⟨N + 3, j, none⟩ v) :=
  ⟨h.ka.other _ (show N + 3 ≠ N by omega) _, h.kb.other _ (show N + 3 ≠ N + 1 by omega) _, h.ki.other _ (show N + 3 ≠ N + 2 by omega) _, h.km.set j v, h.bel.setCell (p := ⟨N + 3, j, none⟩) (show N ≤ N + 3 by omega) v⟩
theorem DcS.below {W A A' : World} {N : Nat} {s : ByteArray} {a : Int} {l : List Value} (h : DcS W N s a l A) (hb : Below A.heap.size A A') : DcS W N s a l A' :=
  ⟨h.ka.kept (hb.block _ h.ka.lt), h.kb.kept (hb.block _ h.kb.lt), h.ki.kept (hb.block _ h.ki.lt), h.km.kept (hb.block _ h.km.lt), h.bel.trans (hb.mono (by have := h.ka.lt; omega))⟩
theorem dcs_new (W : World) (N : Nat) (s : ByteArray) (hN : W.heap.size = N) : DcS W N s 0 (msgJ 0) ((((W.alloc (.cells #[.int .i64 0, .int .i64 0, .int .i64 0, .int .i64 0, .int .i64 0, .int .i64 0, .int .i64 0, .int .i64 0, .int .i64 0, .int .i64 0, .int .i64 0, .int .i64 0, .int .i64 0, .int .i64 0, .int .i64 0, .int .i64 0, .int .i64 0, .slice none 0 0, .int .i64 0, .int .i64 0, .int .i64 0, .int .i64 0, .int .i64 0, .int .i64 0, .int .i64 0, .int .i64 0, .int .i64 0, .int .i64 0, .int .i64 0, .int .i64 0, .string ⟨#[]⟩] 32)).alloc (.cells #[.int .i64 0] 35)).alloc (.cells #[.string s, .int .i64 0] 94)).alloc (.cells #[.int .i64 0, .int .i64 0, .int .i64 0, .int .i64 0, .int .i64 0, .int .i64 0, .int .i64 0, .int .i64 0, .int .i64 0, .int .i64 0, .int .i64 0, .int .i64 0, .int .i64 0, .int .i64 0, .int .i64 0, .int .i64 0, .int .i64 0, .slice none 0 0, .int .i64 0, .int .i64 0, .int .i64 0, .int .i64 0, .int .i64 0, .int .i64 0, .int .i64 0, .int .i64 0, .int .i64 0, .int .i64 0, .int .i64 0, .int .i64 0, .string ⟨#[]⟩] 32)) := by
  obtain ⟨w1, hw1⟩ : ∃ w1, W.alloc (.cells #[.int .i64 0, .int .i64 0, .int .i64 0, .int .i64 0, .int .i64 0, .int .i64 0, .int .i64 0, .int .i64 0, .int .i64 0, .int .i64 0, .int .i64 0, .int .i64 0, .int .i64 0, .int .i64 0, .int .i64 0, .int .i64 0, .int .i64 0, .slice none 0 0, .int .i64 0, .int .i64 0, .int .i64 0, .int .i64 0, .int .i64 0, .int .i64 0, .int .i64 0, .int .i64 0, .int .i64 0, .int .i64 0, .int .i64 0, .int .i64 0, .string ⟨#[]⟩] 32) = w1 := ⟨_, rfl⟩
  obtain ⟨w2, hw2⟩ : ∃ w2, w1.alloc (.cells #[.int .i64 0] 35) = w2 := ⟨_, rfl⟩
  obtain ⟨w3, hw3⟩ : ∃ w3, w2.alloc (.cells #[.string s, .int .i64 0] 94) = w3 := ⟨_, rfl⟩
  have hz1 : w1.heap.size = N + 1 := by rw [← hw1, World.size_alloc, hN]
  have hz2 : w2.heap.size = N + 2 := by rw [← hw2, World.size_alloc, hz1]
  have hz3 : w3.heap.size = N + 3 := by rw [← hw3, World.size_alloc, hz2]
  have ka := Blk.new W 32 [.int .i64 0, .int .i64 0, .int .i64 0, .int .i64 0, .int .i64 0, .int .i64 0, .int .i64 0, .int .i64 0, .int .i64 0, .int .i64 0, .int .i64 0, .int .i64 0, .int .i64 0, .int .i64 0, .int .i64 0, .int .i64 0, .int .i64 0, .slice none 0 0, .int .i64 0, .int .i64 0, .int .i64 0, .int .i64 0, .int .i64 0, .int .i64 0, .int .i64 0, .int .i64 0, .int .i64 0, .int .i64 0, .int .i64 0, .int .i64 0, .string ⟨#[]⟩]
  rw [hN, hw1] at ka
  have kb := Blk.new w1 35 [.int .i64 0]
  rw [hz1, hw2] at kb
  have kc := Blk.new w2 94 [.string s, .int .i64 0]
  rw [hz2, hw3] at kc
  have kd := Blk.new w3 32 [.int .i64 0, .int .i64 0, .int .i64 0, .int .i64 0, .int .i64 0, .int .i64 0, .int .i64 0, .int .i64 0, .int .i64 0, .int .i64 0, .int .i64 0, .int .i64 0, .int .i64 0, .int .i64 0, .int .i64 0, .int .i64 0, .int .i64 0, .slice none 0 0, .int .i64 0, .int .i64 0, .int .i64 0, .int .i64 0, .int .i64 0, .int .i64 0, .int .i64 0, .int .i64 0, .int .i64 0, .int .i64 0, .int .i64 0, .int .i64 0, .string ⟨#[]⟩]
  rw [hz3] at kd
  rw [hw1, hw2, hw3]
  have ka3 : Blk w3 N 32 [.int .i64 0, .int .i64 0, .int .i64 0, .int .i64 0, .int .i64 0, .int .i64 0, .int .i64 0, .int .i64 0, .int .i64 0, .int .i64 0, .int .i64 0, .int .i64 0, .int .i64 0, .int .i64 0, .int .i64 0, .int .i64 0, .int .i64 0, .slice none 0 0, .int .i64 0, .int .i64 0, .int .i64 0, .int .i64 0, .int .i64 0, .int .i64 0, .int .i64 0, .int .i64 0, .int .i64 0, .int .i64 0, .int .i64 0, .int .i64 0, .string ⟨#[]⟩] := by rw [← hw3, ← hw2]; exact (ka.alloc _).alloc _
  have kb3 : Blk w3 (N + 1) 35 [.int .i64 0] := by rw [← hw3]; exact kb.alloc _
  have hb3 : Below N W w3 := by
    rw [← hw3, ← hw2, ← hw1, ← hN]
    exact (((Below.refl _ W).alloc (Nat.le_refl _) _).alloc (by simp) _).alloc (by simp; omega) _
  exact ⟨ka3.alloc _, kb3.alloc _, kc.alloc _, kd, hb3.alloc (by omega) _⟩
end Go.Proofs.YtjkiidhnmljmbaaGreatDoor
namespace Go.Proofs.YtjkiidhnmljmbaaGreatDoor
open Go.RowKit Go.Extern.Stop Go.Stop Go.Extern Onair
theorem Tryz.isTypeOf (v : Value) (w : World) : (Extern.ReflectliteType.typeOf #[.iface 196 v]).run Tryz.prog w = .ok (.iface 172 (.agg #[.pointer (some ⟨4, 196, none⟩)])) w := by kernel_rfl
/-- The model's entry for (rtype).Comparable. -/
def compE : Array Value → Sem Value := Extern.ReflectliteType.method fun t => do Go.Extern.Rtype.noPackHeld "Comparable" t; pure (.bool (← typeInfo t).comparable)
theorem Tryz.isComparable (w : World) : (compE #[.agg #[.pointer (some ⟨4, 196, none⟩)]]).run Tryz.prog w = .ok (.bool true) w := by kernel_rfl
theorem Tryz.isMethodComparable (v : Value) (w : World) : (Go.method 330 172 v "Comparable").run Tryz.prog w = .ok (136, v) w := by kernel_rfl
theorem Tryz.isComp : (Tryz.prog.info? 196).map (·.comparable) = some true := by kernel_rfl
theorem Tryz.isSize : (Tryz.prog.info? 219).map (·.size) = some 1 := by kernel_rfl
theorem Tryz.noIsW (v : Value) (xT : TypeId) (w : World) : (Instr.typeAssert (.iface 89 v) xT 174 true).run Tryz.prog w = .ok (.tuple #[.nilIface, .bool false]) w := run_typeAssert_lacksB Tryz.underlying174 (by kernel_rfl) (by kernel_rfl) v xT w
theorem Tryz.hasUnwrapW (v : Value) (xT : TypeId) (w : World) : (Instr.typeAssert (.iface 89 v) xT 177 true).run Tryz.prog w = .ok (.tuple #[.iface 89 v, .bool true]) w := run_typeAssert_hasB Tryz.underlying177 (by kernel_rfl) v xT w
theorem Tryz.methodUnwrap (v : Value) (w : World) : (Go.method 330 89 v "Unwrap").run Tryz.prog w = .ok (132, v) w := by kernel_rfl
set_option maxHeartbeats 2000000 in
set_option maxRecDepth 100000 in
/-- errors.Is(f, x), f a fault for the reason x: one Unwrap, then equal. -/
theorem is_fault (a : Int) (b : Addr) (w : World) :
    Calls Tryz.prog 39 #[.iface 89 (.agg #[.int .i64 a, .iface 196 (.pointer (some b))]), .iface 196 (.pointer (some b))] w fun e w' => e = .returned (.bool true) ∧ Below w.heap.size w w' := by
  obtain ⟨i, hi, hcmp⟩ := Option.map_eq_some_iff.1 Tryz.isComp
  obtain ⟨j, hj, hjs⟩ := Option.map_eq_some_iff.1 Tryz.isSize
  have h8 := @run_callFunc_extern Tryz.prog 73 _ Extern.ReflectliteType.typeOf Tryz.func73 (by kernel_rfl) (by kernel_rfl) (by kernel_rfl) (by kernel_rfl)
  have h32 := @run_callFunc_extern Tryz.prog 136 _ compE Tryz.func136 (by kernel_rfl) (by kernel_rfl) (by kernel_rfl) (by kernel_rfl)
  have tT := Tryz.isTypeOf
  have cT := Tryz.isComparable
  have mR := Tryz.isMethodComparable
  have nW := Tryz.noIsW
  have uW := Tryz.hasUnwrapW
  have mU := Tryz.methodUnwrap
  have heq := fun w => run_eql_iface_ptr_same (P := Tryz.prog) w b Tryz.underlying81 Tryz.underlying196 hi hcmp hj
  have hty := fun w => run_eql_iface_types (P := Tryz.prog) 89 196 (.agg #[.int .i64 a, .iface 196 (.pointer (some b))]) (.pointer (some b)) Tryz.underlying81 (by decide) w
  go_enter Tryz.func39, Tryz.ntmps39
  go_wp2
  refine wp_loop_rounds 2 ?_
  rw [rounds_succ]
  go_wp2
  rw [rounds_succ]
  go_wp2
  go_ret
  exact ⟨rfl, (Below.refl _ _).alloc (Nat.le_refl _) _⟩
set_option maxHeartbeats 4000000 in
set_option maxRecDepth 100000 in
/-- The deferred call of Decode behind a fault for want of bytes. -/
theorem ocatch_short (r1 r2 : Nat) (a c : Int) (er : Addr) (l : List Value) (w : World) (hl : l.length = 31) (h1 : Blk w r1 32 l) (h2 : Blk w r2 35 [.int .i64 c]) (hne : r1 ≠ r2) (hg : w.cell? ⟨0, 0, none⟩ = some (.iface 196 (.pointer (some er)))) (hg1 : 0 ≠ r1) (hg2 : 0 ≠ r2) :
    CallsD Tryz.prog 38 #[.pointer (some ⟨r1, 0, none⟩), .pointer (some ⟨r2, 0, none⟩)] (.panicking [faultE a (.iface 196 (.pointer (some er)))]) w fun e u' w' =>
      e = .returned (.tuple #[]) ∧ u' = .panicking [{ faultE a (.iface 196 (.pointer (some er))) with recovered := true }] ∧ Blk w' r1 32 (msgJ 0) ∧ Blk w' r2 35 [.int .i64 10] ∧ Fr (fun k => k = r1 ∨ k = r2) w w' := by
  refine callsD_of_wpS Tryz.func38 rfl fun c₀ cs hu => ?_
  have hta : ∀ w : World, (Instr.typeAssert (.iface 89 (.agg #[.int .i64 a, .iface 196 (.pointer (some er))])) 20 89 true).run Tryz.prog w = .ok (.tuple #[.agg #[.int .i64 a, .iface 196 (.pointer (some er))], .bool true]) w := fun w => by kernel_rfl
  obtain ⟨w1, hw1⟩ : ∃ w1, w.setRow r1 #[.int .i64 0, .int .i64 0, .int .i64 0, .int .i64 0, .int .i64 0, .int .i64 0, .int .i64 0, .int .i64 0, .int .i64 0, .int .i64 0, .int .i64 0, .int .i64 0, .int .i64 0, .int .i64 0, .int .i64 0, .int .i64 0, .int .i64 0, .slice none 0 0, .int .i64 0, .int .i64 0, .int .i64 0, .int .i64 0, .int .i64 0, .int .i64 0, .int .i64 0, .int .i64 0, .int .i64 0, .int .i64 0, .int .i64 0, .int .i64 0, .string ⟨#[]⟩] = w1 := ⟨_, rfl⟩
  have a1 : Blk w1 r1 32 [.int .i64 0, .int .i64 0, .int .i64 0, .int .i64 0, .int .i64 0, .int .i64 0, .int .i64 0, .int .i64 0, .int .i64 0, .int .i64 0, .int .i64 0, .int .i64 0, .int .i64 0, .int .i64 0, .int .i64 0, .int .i64 0, .int .i64 0, .slice none 0 0, .int .i64 0, .int .i64 0, .int .i64 0, .int .i64 0, .int .i64 0, .int .i64 0, .int .i64 0, .int .i64 0, .int .i64 0, .int .i64 0, .int .i64 0, .int .i64 0, .string ⟨#[]⟩] := by rw [← hw1]; exact h1.setRow [.int .i64 0, .int .i64 0, .int .i64 0, .int .i64 0, .int .i64 0, .int .i64 0, .int .i64 0, .int .i64 0, .int .i64 0, .int .i64 0, .int .i64 0, .int .i64 0, .int .i64 0, .int .i64 0, .int .i64 0, .int .i64 0, .int .i64 0, .slice none 0 0, .int .i64 0, .int .i64 0, .int .i64 0, .int .i64 0, .int .i64 0, .int .i64 0, .int .i64 0, .int .i64 0, .int .i64 0, .int .i64 0, .int .i64 0, .int .i64 0, .string ⟨#[]⟩]
  have b1 : Blk w1 r2 35 [.int .i64 c] := by rw [← hw1]; exact h2.kept (heap_setRow_other _ _ _ _ (fun e => hne e.symm))
  have hf1 : Fr (fun k => k = r1 ∨ k = r2) w w1 := by rw [← hw1]; exact (Fr.refl _ w).setRow r1 _ (.inl (.inl rfl))
  have g1 : w1.cell? ⟨0, 0, none⟩ = some (.iface 196 (.pointer (some er))) := by
    rw [← hw1]
    unfold World.cell? at hg ⊢
    rw [heap_setRow_other _ _ _ _ hg1]
    exact hg
  have c1 := b1.cell 0
  have f1 := b1.frozen 0
  simp only [List.getElem?_cons_zero] at c1
  have HK1 := Lib.hid h1
  have HW1 := Lib.hid hw1
  have HSG := Lib.hid (show (Tryz.prog.info? 32).map (·.size) = some 31 from by kernel_rfl)
  have HO1 : Hid ((#[.int .i64 0, .int .i64 0, .int .i64 0, .int .i64 0, .int .i64 0, .int .i64 0, .int .i64 0, .int .i64 0, .int .i64 0, .int .i64 0, .int .i64 0, .int .i64 0, .int .i64 0, .int .i64 0, .int .i64 0, .int .i64 0, .int .i64 0, .slice none 0 0, .int .i64 0, .int .i64 0, .int .i64 0, .int .i64 0, .int .i64 0, .int .i64 0, .int .i64 0, .int .i64 0, .int .i64 0, .int .i64 0, .int .i64 0, .int .i64 0, .string ⟨#[]⟩] : Array Value).all (·.oneCell') = true) := (by simp [Value.oneCell'] : (#[.int .i64 0, .int .i64 0, .int .i64 0, .int .i64 0, .int .i64 0, .int .i64 0, .int .i64 0, .int .i64 0, .int .i64 0, .int .i64 0, .int .i64 0, .int .i64 0, .int .i64 0, .int .i64 0, .int .i64 0, .int .i64 0, .int .i64 0, .slice none 0 0, .int .i64 0, .int .i64 0, .int .i64 0, .int .i64 0, .int .i64 0, .int .i64 0, .int .i64 0, .int .i64 0, .int .i64 0, .int .i64 0, .int .i64 0, .int .i64 0, .string ⟨#[]⟩] : Array Value).all (·.oneCell') = true)
  have HO2 : Hid (l.toArray.size = (#[.int .i64 0, .int .i64 0, .int .i64 0, .int .i64 0, .int .i64 0, .int .i64 0, .int .i64 0, .int .i64 0, .int .i64 0, .int .i64 0, .int .i64 0, .int .i64 0, .int .i64 0, .int .i64 0, .int .i64 0, .int .i64 0, .int .i64 0, .slice none 0 0, .int .i64 0, .int .i64 0, .int .i64 0, .int .i64 0, .int .i64 0, .int .i64 0, .int .i64 0, .int .i64 0, .int .i64 0, .int .i64 0, .int .i64 0, .int .i64 0, .string ⟨#[]⟩] : Array Value).size) := (by rw [List.size_toArray, hl]; rfl : l.toArray.size = (#[.int .i64 0, .int .i64 0, .int .i64 0, .int .i64 0, .int .i64 0, .int .i64 0, .int .i64 0, .int .i64 0, .int .i64 0, .int .i64 0, .int .i64 0, .int .i64 0, .int .i64 0, .int .i64 0, .int .i64 0, .int .i64 0, .int .i64 0, .slice none 0 0, .int .i64 0, .int .i64 0, .int .i64 0, .int .i64 0, .int .i64 0, .int .i64 0, .int .i64 0, .int .i64 0, .int .i64 0, .int .i64 0, .int .i64 0, .int .i64 0, .string ⟨#[]⟩] : Array Value).size)
  have HA2 := Lib.hid (a1.other ⟨r2, 0, none⟩ (fun e => hne e.symm) (.int .i64 200))
  have HB2 := Lib.hid (b1.set 0 (.int .i64 200))
  have HF2 := Lib.hid (hf1.setCell ⟨r2, 0, none⟩ (.int .i64 200) (.inl (.inr rfl)))
  have HG2 : Hid ((w1.setCell ⟨r2, 0, none⟩ (.int .i64 200)).cell? ⟨0, 0, none⟩ = some (.iface 196 (.pointer (some er)))) := (World.cell?_setCell_far _ _ _ _ (fun e => hg2 e.symm)).trans g1
  have HNE := Lib.hid hne
  clear h1 h2 hne hg hg1 hg2 hw1 a1 b1 hf1 g1 hl
  unfold faultE at hu ⊢
  apply wpS_seq
  apply wpS_region
  simp [wpOpsS, go_sem, recoverD, hu, Tryz.ntmps38, Exit.thenS]
  refine wpS_of_wp ?_
  simp only [Array.replicate, List.replicate, List.setIfInBounds_toArray, List.set_cons_zero, List.set_cons_succ, List.append_toArray, List.cons_append, List.nil_append]
  go_upto_region 3 with (refine wpList_store_row rfl 32 (.tmp 0) (.tmp 8) rfl r1 #[.int .i64 0, .int .i64 0, .int .i64 0, .int .i64 0, .int .i64 0, .int .i64 0, .int .i64 0, .int .i64 0, .int .i64 0, .int .i64 0, .int .i64 0, .int .i64 0, .int .i64 0, .int .i64 0, .int .i64 0, .int .i64 0, .int .i64 0, .slice none 0 0, .int .i64 0, .int .i64 0, .int .i64 0, .int .i64 0, .int .i64 0, .int .i64 0, .int .i64 0, .int .i64 0, .int .i64 0, .int .i64 0, .int .i64 0, .int .i64 0, .string ⟨#[]⟩] rfl rfl 32 _ HK1.out HSG.out HO2.out HO1.out ?_; rw [HW1.out])
  generalize World.setCell _ _ _ = w2 at HA2 HB2 HF2 HG2 ⊢
  obtain ⟨w3, hw3⟩ : ∃ w3, w2.alloc (.cells #[.int .i64 a, .iface 196 (.pointer (some er))] 89) = w3 := ⟨_, rfl⟩
  have hb3 : Below w2.heap.size w2 w3 := by rw [← hw3]; exact (Below.refl _ w2).alloc (Nat.le_refl _) _
  have g3 : w3.cell? ⟨0, 0, none⟩ = some (.iface 196 (.pointer (some er))) := (hb3.cell (p := ⟨0, 0, none⟩) (block_lt HG2.out)).trans HG2.out
  have HA3 := Lib.hid (HA2.out.kept (hb3.block _ HA2.out.lt))
  have HB3 := Lib.hid (HB2.out.kept (hb3.block _ HB2.out.lt))
  have HF3 := Lib.hid (HF2.out.trans (Fr.under (fun _ => False) hb3) (fun _ _ e => e.elim))
  have kx : Blk w3 w2.heap.size 89 [.int .i64 a, .iface 196 (.pointer (some er))] := by rw [← hw3]; exact Blk.new w2 _ _
  have x0 := kx.cell 0
  have x1 := kx.cell 1
  simp only [List.getElem?_cons_zero, List.getElem?_cons_succ] at x0 x1
  clear c1 f1 hb3 kx
  go_wp2_with fail
  clear x0 x1
  refine (is_fault a er _).mono ?_
  rintro e w4 ⟨rfl, hb4⟩
  have HA4 := Lib.hid (HA3.out.kept (hb4.block _ HA3.out.lt))
  have hb44 := HB3.out.kept (hb4.block _ HB3.out.lt)
  have HF4 := Lib.hid (HF3.out.trans (Fr.under (fun _ => False) hb4) (fun _ _ e => e.elim))
  have c4 := hb44.cell 0
  have f4 := hb44.frozen 0
  simp only [List.set_cons_zero, List.getElem?_cons_zero] at c4
  have HB5 := Lib.hid (hb44.set 0 (.int .i64 10))
  have HA5 := Lib.hid (HA4.out.other ⟨r2, 0, none⟩ (fun e => HNE.out e.symm) (.int .i64 10))
  have HF5 := Lib.hid (HF4.out.setCell ⟨r2, 0, none⟩ (.int .i64 10) (.inl (.inr rfl)))
  clear hb4 hb44 g3
  go_wp2_with fail
  exact ⟨rfl, _, rfl, _, by simp [results, Tryz.results38, go_sem], rfl, rfl, HA5.out, HB5.out, HF5.out⟩
end Go.Proofs.YtjkiidhnmljmbaaGreatDoor
