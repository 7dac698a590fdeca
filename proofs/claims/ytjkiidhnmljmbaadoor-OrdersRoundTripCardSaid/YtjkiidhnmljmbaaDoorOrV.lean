/-
  Orders: errors.Is of a fault and its reason; the decoding of the empty string.
-/
import Derived.LaidEql
import Derived.Stop.Asserts
import Derived.RowKitTokens
import Derived.Laws.Externs
import Derived.Test.YtjkiidhnmljmbaaDoorOrU
set_option linter.unusedVariables false
set_option linter.unusedSimpArgs false
namespace Go.Proofs.YtjkiidhnmljmbaaDoor
open Go.RowKit Go.Extern.Stop Go.Stop Go.Extern Onair
theorem Tryd.isTypeOf (v : Value) (w : World) : (Extern.ReflectliteType.typeOf #[.iface 169 v]).run Tryd.prog w = .ok (.iface 153 (.agg #[.pointer (some ⟨4, 169, none⟩)])) w := by kernel_rfl
/-- The model's entry for (rtype).Comparable. -/
def compE : Array Value → Sem Value := Extern.ReflectliteType.method fun t => do Go.Extern.Rtype.noPackHeld "Comparable" t; pure (.bool (← typeInfo t).comparable)
theorem Tryd.isComparable (w : World) : (compE #[.agg #[.pointer (some ⟨4, 169, none⟩)]]).run Tryd.prog w = .ok (.bool true) w := by kernel_rfl
theorem Tryd.isMethodComparable (v : Value) (w : World) : (Go.method 303 153 v "Comparable").run Tryd.prog w = .ok (110, v) w := by kernel_rfl
theorem Tryd.isComp : (Tryd.prog.info? 169).map (·.comparable) = some true := by kernel_rfl
theorem Tryd.isSize : (Tryd.prog.info? 192).map (·.size) = some 1 := by kernel_rfl
theorem Tryd.noIsW (v : Value) (xT : TypeId) (w : World) : (Instr.typeAssert (.iface 79 v) xT 155 true).run Tryd.prog w = .ok (.tuple #[.nilIface, .bool false]) w := run_typeAssert_lacksB Tryd.underlying155 (by kernel_rfl) (by kernel_rfl) v xT w
theorem Tryd.hasUnwrapW (v : Value) (xT : TypeId) (w : World) : (Instr.typeAssert (.iface 79 v) xT 158 true).run Tryd.prog w = .ok (.tuple #[.iface 79 v, .bool true]) w := run_typeAssert_hasB Tryd.underlying158 (by kernel_rfl) v xT w
theorem Tryd.methodUnwrap (v : Value) (w : World) : (Go.method 303 79 v "Unwrap").run Tryd.prog w = .ok (106, v) w := by kernel_rfl
set_option maxHeartbeats 1000000 in
set_option maxRecDepth 100000 in
theorem unwrap_any (a : Int) (v : Value) (w : World) : Calls Tryd.prog 106 #[.agg #[.int .i64 a, .iface 169 v]] w fun e w' => e = .returned (.iface 169 v) ∧ w' = w.alloc (.cells #[.int .i64 a, .iface 169 v] 79) := by
  go_enter Tryd.func106, Tryd.ntmps106
  go_wp2
  go_ret
  exact ⟨rfl, rfl⟩
set_option maxHeartbeats 2000000 in
set_option maxRecDepth 100000 in
/-- errors.Is(f, x), f a fault for the reason x: one Unwrap, then equal. -/
theorem is_fault (a : Int) (b : Addr) (w : World) :
    Calls Tryd.prog 35 #[.iface 79 (.agg #[.int .i64 a, .iface 169 (.pointer (some b))]), .iface 169 (.pointer (some b))] w fun e w' => e = .returned (.bool true) ∧ Below w.heap.size w w' := by
  obtain ⟨i, hi, hcmp⟩ := Option.map_eq_some_iff.1 Tryd.isComp
  obtain ⟨j, hj, hjs⟩ := Option.map_eq_some_iff.1 Tryd.isSize
  have h8 := @run_callFunc_extern Tryd.prog 60 _ Extern.ReflectliteType.typeOf Tryd.func60 (by kernel_rfl) (by kernel_rfl) (by kernel_rfl) (by kernel_rfl)
  have h32 := @run_callFunc_extern Tryd.prog 110 _ compE Tryd.func110 (by kernel_rfl) (by kernel_rfl) (by kernel_rfl) (by kernel_rfl)
  have tT := Tryd.isTypeOf
  have cT := Tryd.isComparable
  have mR := Tryd.isMethodComparable
  have nW := Tryd.noIsW
  have uW := Tryd.hasUnwrapW
  have mU := Tryd.methodUnwrap
  have heq := fun w => run_eql_iface_ptr_same (P := Tryd.prog) w b Tryd.underlying72 Tryd.underlying169 hi hcmp hj
  have hty := fun w => run_eql_iface_types (P := Tryd.prog) 79 169 (.agg #[.int .i64 a, .iface 169 (.pointer (some b))]) (.pointer (some b)) Tryd.underlying72 (by decide) w
  go_enter Tryd.func35, Tryd.ntmps35
  go_wp2
  refine wp_loop_rounds 2 ?_
  rw [rounds_succ]
  go_wp2
  rw [rounds_succ]
  go_wp2
  go_ret
  exact ⟨rfl, (Below.refl _ _).alloc (Nat.le_refl _) _⟩
set_option maxHeartbeats 4000000 in
set_option maxRecDepth 100000 in
/-- The deferred call of Decode behind a fault for want of bytes. -/
theorem ocatch_short (r1 r2 : Nat) (a c : Int) (er : Addr) (l : List Value) (w : World) (hl : l.length = 31) (h1 : Blk w r1 32 l) (h2 : Blk w r2 35 [.int .i64 c]) (hne : r1 ≠ r2) (hg : w.cell? ⟨0, 0, none⟩ = some (.iface 169 (.pointer (some er)))) (hg1 : 0 ≠ r1) (hg2 : 0 ≠ r2) :
    CallsD Tryd.prog 34 #[.pointer (some ⟨r1, 0, none⟩), .pointer (some ⟨r2, 0, none⟩)] (.panicking [faultE a (.iface 169 (.pointer (some er)))]) w fun e u' w' =>
      e = .returned (.tuple #[]) ∧ u' = .panicking [{ faultE a (.iface 169 (.pointer (some er))) with recovered := true }] ∧ Blk w' r1 32 (msgJ 0) ∧ Blk w' r2 35 [.int .i64 10] ∧ Fr (fun k => k = r1 ∨ k = r2) w w' := by
  refine callsD_of_wpS Tryd.func34 rfl fun c₀ cs hu => ?_
  have hta : ∀ w : World, (Instr.typeAssert (.iface 79 (.agg #[.int .i64 a, .iface 169 (.pointer (some er))])) 20 79 true).run Tryd.prog w = .ok (.tuple #[.agg #[.int .i64 a, .iface 169 (.pointer (some er))], .bool true]) w := fun w => by kernel_rfl
  obtain ⟨w1, hw1⟩ : ∃ w1, w.setRow r1 #[.int .i64 0, .int .i64 0, .int .i64 0, .int .i64 0, .int .i64 0, .int .i64 0, .int .i64 0, .int .i64 0, .int .i64 0, .int .i64 0, .int .i64 0, .int .i64 0, .int .i64 0, .int .i64 0, .int .i64 0, .int .i64 0, .int .i64 0, .slice none 0 0, .int .i64 0, .int .i64 0, .int .i64 0, .int .i64 0, .int .i64 0, .int .i64 0, .int .i64 0, .int .i64 0, .int .i64 0, .int .i64 0, .int .i64 0, .int .i64 0, .string ⟨#[]⟩] = w1 := ⟨_, rfl⟩
  have a1 : Blk w1 r1 32 [.int .i64 0, .int .i64 0, .int .i64 0, .int .i64 0, .int .i64 0, .int .i64 0, .int .i64 0, .int .i64 0, .int .i64 0, .int .i64 0, .int .i64 0, .int .i64 0, .int .i64 0, .int .i64 0, .int .i64 0, .int .i64 0, .int .i64 0, .slice none 0 0, .int .i64 0, .int .i64 0, .int .i64 0, .int .i64 0, .int .i64 0, .int .i64 0, .int .i64 0, .int .i64 0, .int .i64 0, .int .i64 0, .int .i64 0, .int .i64 0, .string ⟨#[]⟩] := by rw [← hw1]; exact h1.setRow [.int .i64 0, .int .i64 0, .int .i64 0, .int .i64 0, .int .i64 0, .int .i64 0, .int .i64 0, .int .i64 0, .int .i64 0, .int .i64 0, .int .i64 0, .int .i64 0, .int .i64 0, .int .i64 0, .int .i64 0, .int .i64 0, .int .i64 0, .slice none 0 0, .int .i64 0, .int .i64 0, .int .i64 0, .int .i64 0, .int .i64 0, .int .i64 0, .int .i64 0, .int .i64 0, .int .i64 0, .int .i64 0, .int .i64 0, .int .i64 0, .string ⟨#[]⟩]
  have b1 : Blk w1 r2 35 [.int .i64 c] := by rw [← hw1]; exact h2.kept (heap_setRow_other _ _ _ _ (fun e => hne e.symm))
  have hf1 : Fr (fun k => k = r1 ∨ k = r2) w w1 := by rw [← hw1]; exact (Fr.refl _ w).setRow r1 _ (.inl (.inl rfl))
  have g1 : w1.cell? ⟨0, 0, none⟩ = some (.iface 169 (.pointer (some er))) := by
    rw [← hw1]
    unfold World.cell? at hg ⊢
    rw [heap_setRow_other _ _ _ _ hg1]
    exact hg
  have c1 := b1.cell 0
  have f1 := b1.frozen 0
  simp only [List.getElem?_cons_zero] at c1
  have HK1 := Lib.hid h1
  have HW1 := Lib.hid hw1
  have HSG := Lib.hid (show (Tryd.prog.info? 32).map (·.size) = some 31 from by kernel_rfl)
  have HO1 : Hid ((#[.int .i64 0, .int .i64 0, .int .i64 0, .int .i64 0, .int .i64 0, .int .i64 0, .int .i64 0, .int .i64 0, .int .i64 0, .int .i64 0, .int .i64 0, .int .i64 0, .int .i64 0, .int .i64 0, .int .i64 0, .int .i64 0, .int .i64 0, .slice none 0 0, .int .i64 0, .int .i64 0, .int .i64 0, .int .i64 0, .int .i64 0, .int .i64 0, .int .i64 0, .int .i64 0, .int .i64 0, .int .i64 0, .int .i64 0, .int .i64 0, .string ⟨#[]⟩] : Array Value).all (·.oneCell') = true) := (by simp [Value.oneCell'] : (#[.int .i64 0, .int .i64 0, .int .i64 0, .int .i64 0, .int .i64 0, .int .i64 0, .int .i64 0, .int .i64 0, .int .i64 0, .int .i64 0, .int .i64 0, .int .i64 0, .int .i64 0, .int .i64 0, .int .i64 0, .int .i64 0, .int .i64 0, .slice none 0 0, .int .i64 0, .int .i64 0, .int .i64 0, .int .i64 0, .int .i64 0, .int .i64 0, .int .i64 0, .int .i64 0, .int .i64 0, .int .i64 0, .int .i64 0, .int .i64 0, .string ⟨#[]⟩] : Array Value).all (·.oneCell') = true)
  have HO2 : Hid (l.toArray.size = (#[.int .i64 0, .int .i64 0, .int .i64 0, .int .i64 0, .int .i64 0, .int .i64 0, .int .i64 0, .int .i64 0, .int .i64 0, .int .i64 0, .int .i64 0, .int .i64 0, .int .i64 0, .int .i64 0, .int .i64 0, .int .i64 0, .int .i64 0, .slice none 0 0, .int .i64 0, .int .i64 0, .int .i64 0, .int .i64 0, .int .i64 0, .int .i64 0, .int .i64 0, .int .i64 0, .int .i64 0, .int .i64 0, .int .i64 0, .int .i64 0, .string ⟨#[]⟩] : Array Value).size) := (by rw [List.size_toArray, hl]; rfl : l.toArray.size = (#[.int .i64 0, .int .i64 0, .int .i64 0, .int .i64 0, .int .i64 0, .int .i64 0, .int .i64 0, .int .i64 0, .int .i64 0, .int .i64 0, .int .i64 0, .int .i64 0, .int .i64 0, .int .i64 0, .int .i64 0, .int .i64 0, .int .i64 0, .slice none 0 0, .int .i64 0, .int .i64 0, .int .i64 0, .int .i64 0, .int .i64 0, .int .i64 0, .int .i64 0, .int .i64 0, .int .i64 0, .int .i64 0, .int .i64 0, .int .i64 0, .string ⟨#[]⟩] : Array Value).size)
  have HA2 := Lib.hid (a1.other ⟨r2, 0, none⟩ (fun e => hne e.symm) (.int .i64 200))
  have HB2 := Lib.hid (b1.set 0 (.int .i64 200))
  have HF2 := Lib.hid (hf1.setCell ⟨r2, 0, none⟩ (.int .i64 200) (.inl (.inr rfl)))
  have HG2 : Hid ((w1.setCell ⟨r2, 0, none⟩ (.int .i64 200)).cell? ⟨0, 0, none⟩ = some (.iface 169 (.pointer (some er)))) := (World.cell?_setCell_far _ _ _ _ (fun e => hg2 e.symm)).trans g1
  have HNE := Lib.hid hne
  clear h1 h2 hne hg hg1 hg2 hw1 a1 b1 hf1 g1 hl
  unfold faultE at hu ⊢
  apply wpS_seq
  apply wpS_region
  simp [wpOpsS, go_sem, recoverD, hu, Tryd.ntmps34, Exit.thenS]
  refine wpS_of_wp ?_
  simp only [Array.replicate, List.replicate, List.setIfInBounds_toArray, List.set_cons_zero, List.set_cons_succ, List.append_toArray, List.cons_append, List.nil_append]
  go_upto_region 3 with (refine wpList_store_row rfl 32 (.tmp 0) (.tmp 8) rfl r1 #[.int .i64 0, .int .i64 0, .int .i64 0, .int .i64 0, .int .i64 0, .int .i64 0, .int .i64 0, .int .i64 0, .int .i64 0, .int .i64 0, .int .i64 0, .int .i64 0, .int .i64 0, .int .i64 0, .int .i64 0, .int .i64 0, .int .i64 0, .slice none 0 0, .int .i64 0, .int .i64 0, .int .i64 0, .int .i64 0, .int .i64 0, .int .i64 0, .int .i64 0, .int .i64 0, .int .i64 0, .int .i64 0, .int .i64 0, .int .i64 0, .string ⟨#[]⟩] rfl rfl 32 _ HK1.out HSG.out HO2.out HO1.out ?_; rw [HW1.out])
  generalize World.setCell _ _ _ = w2 at HA2 HB2 HF2 HG2 ⊢
  obtain ⟨w3, hw3⟩ : ∃ w3, w2.alloc (.cells #[.int .i64 a, .iface 169 (.pointer (some er))] 79) = w3 := ⟨_, rfl⟩
  have hb3 : Below w2.heap.size w2 w3 := by rw [← hw3]; exact (Below.refl _ w2).alloc (Nat.le_refl _) _
  have g3 : w3.cell? ⟨0, 0, none⟩ = some (.iface 169 (.pointer (some er))) := (hb3.cell (p := ⟨0, 0, none⟩) (block_lt HG2.out)).trans HG2.out
  have HA3 := Lib.hid (HA2.out.kept (hb3.block _ HA2.out.lt))
  have HB3 := Lib.hid (HB2.out.kept (hb3.block _ HB2.out.lt))
  have HF3 := Lib.hid (HF2.out.trans (Fr.under (fun _ => False) hb3) (fun _ _ e => e.elim))
  have kx : Blk w3 w2.heap.size 79 [.int .i64 a, .iface 169 (.pointer (some er))] := by rw [← hw3]; exact Blk.new w2 _ _
  have x0 := kx.cell 0
  have x1 := kx.cell 1
  simp only [List.getElem?_cons_zero, List.getElem?_cons_succ] at x0 x1
  clear c1 f1 hb3 kx
  go_wp2_with fail
  clear x0 x1
  refine (is_fault a er _).mono ?_
  rintro e w4 ⟨rfl, hb4⟩
  have HA4 := Lib.hid (HA3.out.kept (hb4.block _ HA3.out.lt))
  have hb44 := HB3.out.kept (hb4.block _ HB3.out.lt)
  have HF4 := Lib.hid (HF3.out.trans (Fr.under (fun _ => False) hb4) (fun _ _ e => e.elim))
  have c4 := hb44.cell 0
  have f4 := hb44.frozen 0
  simp only [List.set_cons_zero, List.getElem?_cons_zero] at c4
  have HB5 := Lib.hid (hb44.set 0 (.int .i64 10))
  have HA5 := Lib.hid (HA4.out.other ⟨r2, 0, none⟩ (fun e => HNE.out e.symm) (.int .i64 10))
  have HF5 := Lib.hid (HF4.out.setCell ⟨r2, 0, none⟩ (.int .i64 10) (.inl (.inr rfl)))
  clear hb4 hb44 g3
  go_wp2_with fail
  exact ⟨rfl, _, rfl, _, by simp [results, Tryd.results34, go_sem], rfl, rfl, HA5.out, HB5.out, HF5.out⟩
set_option maxHeartbeats 4000000 in
set_option maxRecDepth 100000 in
/-- The empty string is no encoding. -/
theorem decode_empty (er : Addr) (W : World) (hg : W.cell? ⟨0, 0, none⟩ = some (.iface 169 (.pointer (some er)))) :
    Calls Tryd.prog 12 #[.string ⟨#[]⟩] W fun e w' => e = .returned (.tuple #[.agg (msgJ 0).toArray, .int .i64 10]) ∧ Below W.heap.size W w' := by
  have hmf : ∀ (fn : Fn) (first cap : Array Value) (w : World), (Instr.makeFunc fn first cap).run Tryd.prog w = .ok (.func fn first cap) w := fun _ _ _ _ => rfl
  obtain ⟨N, hN⟩ : ∃ N, W.heap.size = N := ⟨_, rfl⟩
  have HD0 := Lib.hid (dcs_new W N ⟨#[]⟩ hN)
  have HNN := Lib.hid hN
  have HGL : Hid (0 < N) := (by rw [← hN]; exact block_lt hg : 0 < N)
  have HG := Lib.hid hg
  clear hN hg
  go_enter_defers Tryd.func12, Tryd.ntmps12
  go_wp2_with fail
  rw [HNN.out]
  generalize World.alloc _ _ = x0 at HD0 ⊢
  have g0 : x0.cell? ⟨0, 0, none⟩ = some (.iface 169 (.pointer (some er))) := (HD0.out.bel.cell (p := ⟨0, 0, none⟩) HGL.out).trans HG.out
  refine (num_bad (N + 2) ⟨#[]⟩ 0 x0 er g0 (by decide) HD0.out.ki (by decide)).mono ?_
  rintro e w1 ⟨rfl, hb1⟩
  have hd1 := HD0.out.below hb1
  have g1 : w1.cell? ⟨0, 0, none⟩ = some (.iface 169 (.pointer (some er))) := (hb1.cell (p := ⟨0, 0, none⟩) (block_lt g0)).trans g0
  go_wp2_with fail
  have h0 := HGL.out
  refine leaves_cons (f := 34) (args := #[.pointer (some ⟨N, 0, none⟩), .pointer (some ⟨N + 1, 0, none⟩)]) (by simp) (by simp [go_sem]) ?_
  refine (ocatch_short N (N + 1) 0 0 er (msgJ 0) w1 rfl hd1.ka hd1.kb (by omega) g1 (by omega) (by omega)).mono ?_
  rintro e u' w2 ⟨rfl, rfl, k1, k2, hf⟩
  exact ⟨_, res_two Tryd.results12 rfl rfl (load_msg rfl k1) (load_errno k2), rfl, by rw [HNN.out]; exact hd1.bel.trans (hf.below N (by have := hd1.ka.lt; omega) (fun k e => by omega))⟩
end Go.Proofs.YtjkiidhnmljmbaaDoor
