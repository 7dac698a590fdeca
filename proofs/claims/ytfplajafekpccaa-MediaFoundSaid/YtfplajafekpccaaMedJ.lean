/-
  Assets in memory; the walks of slices.IndexFunc and media.Find.
-/
import Derived.WalkKit
import Derived.LoopTactic
import Derived.WalkSpells
import Derived.WalkLawsBesides
import Derived.RegionTactic
import Derived.BigRegion
import Derived.Deep.QuietTactic
import Derived.Deep.RegionHeld3
import Derived.BigQuiet
import Derived.IntWalk
import Derived.Outline
import Derived.Test.YtfplajafekpccaaMedI
set_option linter.unusedVariables false
set_option linter.unusedSimpArgs false
namespace Go.Proofs.Ytfplajafekpccaa
open Go.RowKit Onair
/-- An asset in memory: its item, where its pictures lie, the pictures. -/
structure Ast where
  item : Int
  o : Option Addr
  c : Nat
  ps : List Pic
/-- A slice of assets that can be read. -/
def RdA (W : World) (oa : Option Addr) (l : List Ast) : Prop :=
  l = [] ∨ ∃ g off, oa = some ⟨g, off, none⟩ ∧ g < W.heap.size ∧ ∀ i (a : Ast), l[i]? = some a →
    W.cell? ⟨g, off + i * 2, none⟩ = some (.int .i64 a.item) ∧ W.cell? ⟨g, off + i * 2 + 1, none⟩ = some (.slice a.o a.ps.length a.c)
theorem RdA.kept {W W' : World} {oa : Option Addr} {l : List Ast} (h : RdA W oa l) (hb : Below W.heap.size W W') : RdA W' oa l := by
  rcases h with h | ⟨g, off, rfl, hg, hc⟩
  · exact .inl h
  · refine .inr ⟨g, off, rfl, Nat.lt_of_lt_of_le hg hb.size, fun i c hi => ?_⟩
    obtain ⟨c0, c1⟩ := hc i c hi
    exact ⟨(hb.cell (p := ⟨g, _, none⟩) hg).trans c0, (hb.cell (p := ⟨g, _, none⟩) hg).trans c1⟩
theorem RdA.at {W : World} {oa : Option Addr} {l : List Ast} (h : RdA W oa l) (i : Nat) (c : Ast) (hi : l[i]? = some c) : ∃ g off, oa = some ⟨g, off, none⟩ ∧ W.cell? ⟨g, off + i * 2, none⟩ = some (.int .i64 c.item) ∧ W.cell? ⟨g, off + i * 2 + 1, none⟩ = some (.slice c.o c.ps.length c.c) := by
  rcases h with rfl | ⟨g, off, rfl, hg, hc⟩
  · simp at hi
  · exact ⟨g, off, rfl, hc i _ hi⟩
/-- The place of the first asset with an item. -/
def idxA (l : List Ast) (x : Int) : Nat := l.findIdx fun a => a.item == x
def idxI (l : List Ast) (x : Int) : Int := if idxA l x < l.length then (idxA l x : Int) else -1
theorem idx_hit (l : List Ast) (x : Int) (k : Nat) (c : Ast) (h : l[k]? = some c) (hc : c.item = x) (hb : ∀ j, j < k → ∀ d, l[j]? = some d → d.item ≠ x) : idxI l x = (k : Int) := by
  have hk : k < l.length := (List.getElem?_eq_some_iff.1 h).1
  have : idxA l x = k := by
    unfold idxA
    rw [List.findIdx_eq hk]
    refine ⟨?_, fun j hj => ?_⟩
    · rw [(List.getElem?_eq_some_iff.1 h).2, hc]
      simp
    · have := hb j hj _ (List.getElem?_eq_getElem (by omega))
      simpa using this
  unfold idxI
  rw [this, if_pos hk]
theorem idx_miss (l : List Ast) (x : Int) (hb : ∀ j, j < l.length → ∀ d, l[j]? = some d → d.item ≠ x) : idxI l x = -1 := by
  have : idxA l x = l.length := by
    unfold idxA
    rw [List.findIdx_eq_length]
    intro d hd
    obtain ⟨j, hj⟩ := List.mem_iff_getElem?.1 hd
    have := hb j (List.getElem?_eq_some_iff.1 hj).1 d hj
    simpa using this
  unfold idxI
  rw [this, if_neg (Nat.lt_irrefl _)]
set_option maxRecDepth 100000 in
theorem find1_any (a : Ast) (x : Int) (kp : Nat) (w : World) (hk : Blk w kp 3 [.int .i64 x]) :
    Calls Try.prog 53 #[.agg #[.int .i64 a.item, .slice a.o a.ps.length a.c], .pointer (some ⟨kp, 0, none⟩)] w fun e w' => e = .returned (.bool (a.item == x)) ∧ Below w.heap.size w w' := by
  have HB : Hid (Below w.heap.size w (w.alloc (.cells #[.int .i64 a.item, .slice a.o a.ps.length a.c] 24))) := (Below.refl _ w).alloc (Nat.le_refl _) _
  have c0 := (hk.alloc (.cells #[.int .i64 a.item, .slice a.o a.ps.length a.c] 24)).cell 0
  simp only [List.getElem?_cons_zero] at c0
  have hlt := hk.lt
  clear hk
  go_enter Try.func53, Try.ntmps53
  go_wp2
  go_ret
  exact ⟨rfl, HB.out⟩
set_option maxHeartbeats 2000000 in
set_option maxRecDepth 100000 in
theorem index_any (w : World) (oa : Option Addr) (cap : Nat) (l : List Ast) (x : Int) (kp : Nat) (hl : l.length ≤ 1000000) (hr : RdA w oa l) (hk : Blk w kp 3 [.int .i64 x]) :
    Calls Try.prog 52 #[.slice oa l.length cap, .func (.func 53) #[] #[.pointer (some ⟨kp, 0, none⟩)]] w fun e w' => e = .returned (.int .i64 (idxI l x)) ∧ Below w.heap.size w w' := by
  have HR := Lib.hid hr
  have HK := Lib.hid hk
  obtain ⟨n, hn⟩ : ∃ n, l.length = n := ⟨_, rfl⟩
  have HN := Lib.hid hn
  rw [hn] at hl ⊢
  clear hr hk hn
  go_enter Try.func52, Try.ntmps52
  go_wp2_with fail
  go_loopw [8] (fun i wr => ∃ k : Nat, k ≤ n ∧ i = .int .i64 k ∧ Hid (∀ j, j < k → ∀ d, l[j]? = some d → d.item ≠ x) ∧ Hid (Below w.heap.size w wr)) (fun i _ => n - (intOf i).toNat)
  case atStart => exact ⟨0, Nat.zero_le _, rfl, fun j hj => absurd hj (by omega), Below.refl _ _⟩
  case round =>
    obtain ⟨k, hk, rfl, HF, HW⟩ := hrel
    by_cases hkn : k = n
    · have q1 : ¬ (k : Int) < n := by omega
      have HE : Hid (idxI l x = -1) := idx_miss l x (by rw [HN.out, ← hkn]; exact HF.out)
      clear hkn
      go_wp2_with fail
      go_ret
      rw [HE.out]
      exact ⟨rfl, HW.out⟩
    · have q1 : (k : Int) < n := by omega
      obtain ⟨c, hc⟩ : ∃ c, l[k]? = some c := ⟨_, List.getElem?_eq_getElem (by rw [HN.out]; omega)⟩
      obtain ⟨g, off, e', d0, d1⟩ := (HR.out.kept HW.out).at k c hc
      subst e'
      have HC := Lib.hid hc
      have HKW := Lib.hid (HK.out.kept (HW.out.block _ HK.out.lt))
      clear hkn hc
      go_wp2_with fail
      refine (find1_any c x kp wr HKW.out).mono ?_
      rintro e w2 ⟨rfl, hb2⟩
      have HW2 := Lib.hid (bstep HW.out hb2)
      clear hb2 d0 d1
      by_cases hcx : c.item = x
      · have hcx' : (c.item == x) = true := by rw [hcx]; simp
        have HE : Hid (idxI l x = (k : Int)) := idx_hit l x k c HC.out hcx HF.out
        clear hcx
        go_wp2_with fail
        go_ret
        rw [HE.out]
        exact ⟨rfl, HW2.out⟩
      · have hcx' : (c.item == x) = false := by rw [beq_eq_false_iff_ne]; exact hcx
        have HF2 : Hid (∀ j, j < k + 1 → ∀ d, l[j]? = some d → d.item ≠ x) := fun j hj d hd => by
          rcases Nat.lt_or_ge j k with h | h
          · exact HF.out j h d hd
          · have : j = k := by omega
            subst this
            rw [HC.out] at hd
            cases hd
            exact hcx
        clear hcx
        go_wp2_with fail
        go_roundw
        case rel => exact ⟨k + 1, by omega, by go_num, HF2, HW2⟩
        case measure => simp [intOf]; omega
theorem pcells_split (l : List Pic) (j : Nat) (u : Value) (h : (pcells l)[j]? = some u) : ∃ (i k : Nat) (c : Pic), j = i * 3 + k ∧ k < 3 ∧ l[i]? = some c ∧ (pcs c)[k]? = some u := by
  have hj : j < l.length * 3 := by rw [← pcells_len]; exact (List.getElem?_eq_some_iff.1 h).1
  have hi : j / 3 < l.length := by omega
  refine ⟨j / 3, j % 3, l[j / 3], by omega, by omega, List.getElem?_eq_getElem hi, ?_⟩
  rw [← pcells_at l (j / 3) (j % 3) _ (List.getElem?_eq_getElem hi) (by omega), show j / 3 * 3 + j % 3 = j by omega]
  exact h
/-- append([]Picture(nil), ps...): a copy of the call's own. -/
theorem copy_run (W : World) (oa : Option Addr) (cap : Nat) (l : List Pic) (hl : l.length ≤ 1000000) (hr : RdP W oa l) (ty : TypeId) :
    ∃ ob cb w', (Builtin.append_ #[22, 22] ty #[.slice none 0 0, .slice oa l.length cap]).run Try.prog W = .ok (.slice ob l.length cb) w' ∧ w'.ownsRow W.heap.size 42 3 (.slice ob l.length cb) l.length (pcells l) ∧ Below W.heap.size W w' := by
  obtain ⟨i0, hi, hz0, hz1, hz2⟩ := info_parts Try.infoPic
  cases oa with
  | none =>
    have hl0 : l = [] := by
      rcases hr with h | ⟨g, off, e, _⟩
      · exact h
      · cases e
    subst hl0
    refine ⟨none, 0, W, ?_, World.ownsRow_nil _ _ _ _, Below.refl _ _⟩
    simp [Builtin.append_, go_sem, Try.underlying22, hi]
  | some a =>
    have hcells : ∀ j u, (pcells l)[j]? = some u → W.cell? (a.add j) = some u := fun j u hj => by
      obtain ⟨i, k, c, e, hk, hc, hu⟩ := pcells_split l j u hj
      obtain ⟨g, off, e', c0, c1, c2⟩ := hr.at i c hc
      cases e'
      rw [show (⟨g, off, none⟩ : Addr).add j = ⟨g, off + j, none⟩ from by unfold Addr.add; split <;> simp_all, e]
      match k, hk with
      | 0, _ => simp only [pcs, List.getElem?_cons_zero, Option.some.injEq] at hu; subst hu; rw [Nat.add_zero]; exact c0
      | 1, _ => simp only [pcs, List.getElem?_cons_zero, List.getElem?_cons_succ, Option.some.injEq] at hu; subst hu; rw [← Nat.add_assoc]; exact c1
      | 2, _ => simp only [pcs, List.getElem?_cons_zero, List.getElem?_cons_succ, Option.some.injEq] at hu; subst hu; rw [← Nat.add_assoc]; exact c2
    obtain ⟨v', w', hrun, h1, h2, h3⟩ := app_own (P := Try.prog) (W := W) W.heap.size 22 ty 42 i0 _ 3 32 Try.underlying22 hi hz0 hz1 hz2 rfl (by decide) (.slice none 0 0) 0 [] (World.ownsRow_nil _ _ _ _) a l.length cap (pcells l) (pcells_len l) hcells
      (by
        intro u hu
        obtain ⟨j, hj⟩ := List.mem_iff_getElem?.1 hu
        obtain ⟨i, k, c, e, hk, hc, hu'⟩ := pcells_split l j u hj
        have hm := List.mem_of_getElem? hu'
        simp [pcs] at hm
        rcases hm with rfl | rfl | rfl <;> rfl) (by unfold maxLen; omega) (by omega) (Nat.le_refl _)
    rw [Nat.zero_add, List.nil_append] at h1
    obtain ⟨ob, cb, rfl⟩ := own_slice h1
    exact ⟨ob, cb, w', hrun, h1, h2.below _ (Nat.le_refl _) (fun k e => by simp [Value.ownBlock] at e)⟩
/-- 'append' at a step of a drawn region, its run known. -/
theorem step_append_run {P : Program} (w : World) {ops : Array Oper} {o : Oper} {a : Act} {K : Act → World → Prop} {Q : Exit → Act → World → Prop} {E : Prop} (hgd : o.guard = none) (s x : Operand) (t : TypeId)
    (ho : o.op = .call { callee := .builtin .append, args := #[s, x], argTypes := #[t, t] }) (v y v' : Value) (w' : World) (hs : a.eval s = v) (hx : a.eval x = y) (hrun : (Builtin.append_ #[t, t] o.type #[v, y]).run P w = .ok v' w') (h : K (a.put o.dst v') w') :
    if Region.wanted o (yielded ops a.tmps) = true then Oper.wp P o a w K Q else E := by
  have hw : Region.wanted o (yielded ops a.tmps) = true := by simp [Region.wanted, hgd]
  rw [if_pos hw]
  unfold Oper.wp
  simp [execOp, ho, resolve, invoke, builtin, hs, hx, hrun, Result.andThen]
  exact h
end Go.Proofs.Ytfplajafekpccaa
