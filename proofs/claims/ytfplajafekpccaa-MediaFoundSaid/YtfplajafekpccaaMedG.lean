/-
  Rows of values of one cell; the walks of media.column, Keys, Sizes, Powers. (Printed by mkmedg.py.)
-/
import Derived.WalkKit
import Derived.LoopTactic
import Derived.WalkSpells
import Derived.WalkLawsBesides
import Derived.RegionTactic
import Derived.BigRegion
import Derived.Deep.QuietTactic
import Derived.BigQuiet
import Derived.IntWalk
import Derived.Outline
import Derived.OwnWalk
import Derived.Laws.MakeOwn
import Derived.Test.YtfplajafekpccaaMedB
set_option linter.unusedVariables false
set_option linter.unusedSimpArgs false
namespace Go.Proofs.Ytfplajafekpccaa
open Go.RowKit Onair
/-- A slice of values of one cell that can be read. -/
def RdV (W : World) (oa : Option Addr) (xs : List Value) : Prop :=
  xs = [] ∨ ∃ g off, oa = some ⟨g, off, none⟩ ∧ g < W.heap.size ∧ ∀ i (u : Value), xs[i]? = some u → W.cell? ⟨g, off + i, none⟩ = some u
theorem RdV.kept {W W' : World} {oa : Option Addr} {xs : List Value} (h : RdV W oa xs) (hb : Below W.heap.size W W') : RdV W' oa xs := by
  rcases h with h | ⟨g, off, rfl, hg, hc⟩
  · exact .inl h
  · exact .inr ⟨g, off, rfl, Nat.lt_of_lt_of_le hg hb.size, fun i u hi => (hb.cell (p := ⟨g, _, none⟩) hg).trans (hc i u hi)⟩
theorem RdV.at {W : World} {oa : Option Addr} {xs : List Value} (h : RdV W oa xs) (i : Nat) (u : Value) (hi : xs[i]? = some u) : ∃ g off, oa = some ⟨g, off, none⟩ ∧ W.cell? ⟨g, off + i, none⟩ = some u := by
  rcases h with rfl | ⟨g, off, rfl, hg, hc⟩
  · simp at hi
  · exact ⟨g, off, rfl, hc i _ hi⟩
theorem own_rdv {W : World} {B : Nat} {t : TypeId} {oa : Option Addr} {n cap : Nat} {xs : List Value} (h : W.ownsRow B t 1 (.slice oa n cap) xs.length xs) : n = xs.length ∧ RdV W oa xs := by
  have h' := h
  rcases h.2 with ⟨he, h0⟩ | ⟨g, cap', cur, he, q1, q2, q3⟩
  · simp at he
    exact ⟨by rw [he.2.1, h0], .inl (List.eq_nil_of_length_eq_zero h0)⟩
  · simp at he
    obtain ⟨rfl, rfl, rfl⟩ := he
    refine ⟨rfl, .inr ⟨g, 0, rfl, (Array.getElem?_eq_some_iff.1 q2).1, fun i u hi => ?_⟩⟩
    have hil : i < xs.length := (List.getElem?_eq_some_iff.1 hi).1
    rw [Nat.zero_add, h'.cellAt _ (by omega)]
    exact hi
/-- A row of the call's own that grows. -/
structure LV (w wr : World) (t : TypeId) (v : Value) (xs : List Value) : Prop where
  own : wr.ownsRow w.heap.size t 1 v xs.length xs
  bel : Below w.heap.size w wr
theorem ownsRow_kept' {W W' : World} {B : Nat} {e : TypeId} {size : Nat} {v : Value} {n : Nat} {xs : List Value} (h : W.ownsRow B e size v n xs) (hk : ∀ g, v.ownBlock = some g → W'.heap[g]? = W.heap[g]?) : W'.ownsRow B e size v n xs := by
  refine ⟨h.1, ?_⟩
  rcases h.2 with h2 | ⟨g, cap, cur, q1, q2, q3, q4⟩
  · exact .inl h2
  · exact .inr ⟨g, cap, cur, q1, q2, (hk g (by rw [q1]; rfl)).trans q3, q4⟩
theorem LV.below {w wr w' : World} {t : TypeId} {v : Value} {xs : List Value} (h : LV w wr t v xs) (hb : Below wr.heap.size wr w') : LV w w' t v xs :=
  ⟨ownsRow_kept' h.own (fun g hg => hb.block g (h.own.lt g hg).2), bstep h.bel hb⟩
theorem LV.alloc {w wr : World} {t : TypeId} {v : Value} {xs : List Value} (h : LV w wr t v xs) (o : Obj) : LV w (wr.alloc o) t v xs := ⟨h.own.alloc o, h.bel.alloc h.bel.size o⟩
theorem LV.app {w wr w' : World} {t : TypeId} {v v' : Value} {xs xs' : List Value} (h : LV w wr t v xs) (ho : w'.ownsRow w.heap.size t 1 v' xs'.length xs') (hf : Fr (fun k => v.ownBlock = some k) wr w') : LV w w' t v' xs' :=
  ⟨ho, h.bel.trans (hf.below w.heap.size h.bel.size (fun k e => own_ge h.own k e))⟩
theorem Try.infoI64 : (Try.prog.info? 3).map (fun i => (i.zero, i.size, i.bytes)) = some (some (.int .i64 0), 1, 8) := by kernel_rfl
theorem Try.infoBool : (Try.prog.info? 4).map (fun i => (i.zero, i.size, i.bytes)) = some (some (.bool false), 1, 1) := by kernel_rfl
theorem app_i (wr : World) (B : Nat) (v : Value) (xs : List Value) (x : Int) (hown : wr.ownsRow B 3 1 v xs.length xs) (hn : xs.length ≤ 1000000) (hB : B ≤ wr.heap.size) (ty : TypeId) :
    ∃ oa cap w', (Builtin.append_ #[30, 30] ty #[v, .slice (some ⟨wr.heap.size, 0, none⟩) 1 1]).run Try.prog (wr.alloc (.cells #[Value.int .i64 x] 3)) = .ok (.slice oa (xs.length + 1) cap) w' ∧ w'.ownsRow B 3 1 (.slice oa (xs.length + 1) cap) (xs ++ [Value.int .i64 x]).length (xs ++ [Value.int .i64 x]) ∧ Fr (fun k => v.ownBlock = some k) wr w' := by
  obtain ⟨i0, hi, hz0, hz1, hz2⟩ := info_parts Try.infoI64
  have hnew : Blk (wr.alloc (.cells #[Value.int .i64 x] 3)) wr.heap.size 3 [Value.int .i64 x] := Blk.new wr _ _
  obtain ⟨v', w', hrun, h1, h2, h3⟩ := app_own (P := Try.prog) (W := wr.alloc (.cells #[Value.int .i64 x] 3)) B 30 ty 3 i0 (.int .i64 0) 1 8 Try.underlying30 hi hz0 hz1 hz2 rfl (by decide) v xs.length xs (hown.alloc _) ⟨wr.heap.size, 0, none⟩ 1 1 [Value.int .i64 x] rfl (fun j u hj => by
      rw [show ((⟨wr.heap.size, 0, none⟩ : Addr).add j) = ⟨wr.heap.size, j, none⟩ from by unfold Addr.add; split <;> simp_all, hnew.cell]
      exact hj) (by intro u hu; simp at hu; subst hu; rfl) (by unfold maxLen; omega) (by omega) (by simp; omega)
  obtain ⟨oa, cap, rfl⟩ := own_slice h1
  exact ⟨oa, cap, w', hrun, by rw [List.length_append]; exact h1, ((Fr.refl _ wr).alloc _).trans h2 (fun _ _ h => h)⟩
theorem app_b (wr : World) (B : Nat) (v : Value) (xs : List Value) (x : Bool) (hown : wr.ownsRow B 4 1 v xs.length xs) (hn : xs.length ≤ 1000000) (hB : B ≤ wr.heap.size) (ty : TypeId) :
    ∃ oa cap w', (Builtin.append_ #[47, 47] ty #[v, .slice (some ⟨wr.heap.size, 0, none⟩) 1 1]).run Try.prog (wr.alloc (.cells #[Value.bool x] 4)) = .ok (.slice oa (xs.length + 1) cap) w' ∧ w'.ownsRow B 4 1 (.slice oa (xs.length + 1) cap) (xs ++ [Value.bool x]).length (xs ++ [Value.bool x]) ∧ Fr (fun k => v.ownBlock = some k) wr w' := by
  obtain ⟨i0, hi, hz0, hz1, hz2⟩ := info_parts Try.infoBool
  have hnew : Blk (wr.alloc (.cells #[Value.bool x] 4)) wr.heap.size 4 [Value.bool x] := Blk.new wr _ _
  obtain ⟨v', w', hrun, h1, h2, h3⟩ := app_own (P := Try.prog) (W := wr.alloc (.cells #[Value.bool x] 4)) B 47 ty 4 i0 (.bool false) 1 1 Try.underlying47 hi hz0 hz1 hz2 rfl (by decide) v xs.length xs (hown.alloc _) ⟨wr.heap.size, 0, none⟩ 1 1 [Value.bool x] rfl (fun j u hj => by
      rw [show ((⟨wr.heap.size, 0, none⟩ : Addr).add j) = ⟨wr.heap.size, j, none⟩ from by unfold Addr.add; split <;> simp_all, hnew.cell]
      exact hj) (by intro u hu; simp at hu; subst hu; rfl) (by unfold maxLen; omega) (by omega) (by simp; omega)
  obtain ⟨oa, cap, rfl⟩ := own_slice h1
  exact ⟨oa, cap, w', hrun, by rw [List.length_append]; exact h1, ((Fr.refl _ wr).alloc _).trans h2 (fun _ _ h => h)⟩
set_option maxRecDepth 100000 in
theorem key_of (p : Pic) (w : World) (hp : p.data.size ≤ maxLen) : Calls Try.prog 32 #[.agg #[.bool p.key, .string p.data, .int .i64 p.power]] w fun e w' => e = .returned (.bool p.key) ∧ Below w.heap.size w w' := by
  have HB : Hid (Below w.heap.size w (w.alloc (.cells #[.bool p.key, .string p.data, .int .i64 p.power] 42))) := (Below.refl _ w).alloc (Nat.le_refl _) _
  unfold maxLen at hp
  obtain ⟨k, d, x⟩ := p
  dsimp only at *
  go_enter Try.func32, Try.ntmps32
  go_wp2
  go_ret
  exact ⟨rfl, HB.out⟩
set_option maxRecDepth 100000 in
theorem size_of (p : Pic) (w : World) (hp : p.data.size ≤ maxLen) : Calls Try.prog 34 #[.agg #[.bool p.key, .string p.data, .int .i64 p.power]] w fun e w' => e = .returned (.int .i64 (p.data.size : Int)) ∧ Below w.heap.size w w' := by
  have HB : Hid (Below w.heap.size w (w.alloc (.cells #[.bool p.key, .string p.data, .int .i64 p.power] 42))) := (Below.refl _ w).alloc (Nat.le_refl _) _
  unfold maxLen at hp
  obtain ⟨k, d, x⟩ := p
  dsimp only at *
  go_enter Try.func34, Try.ntmps34
  go_wp2
  go_ret
  exact ⟨rfl, HB.out⟩
set_option maxRecDepth 100000 in
theorem power_of (p : Pic) (w : World) (hp : p.data.size ≤ maxLen) : Calls Try.prog 35 #[.agg #[.bool p.key, .string p.data, .int .i64 p.power]] w fun e w' => e = .returned (.int .i64 p.power) ∧ Below w.heap.size w w' := by
  have HB : Hid (Below w.heap.size w (w.alloc (.cells #[.bool p.key, .string p.data, .int .i64 p.power] 42))) := (Below.refl _ w).alloc (Nat.le_refl _) _
  unfold maxLen at hp
  obtain ⟨k, d, x⟩ := p
  dsimp only at *
  go_enter Try.func35, Try.ntmps35
  go_wp2
  go_ret
  exact ⟨rfl, HB.out⟩
set_option maxHeartbeats 4000000 in
set_option maxRecDepth 100000 in
theorem col_key (w : World) (oa : Option Addr) (cap : Nat) (l : List Pic) (hl : l.length ≤ 1000000) (hok : ∀ p ∈ l, POk p) (hr : RdP w oa l) :
    Calls Try.prog 31 #[.slice oa l.length cap, .func (.func 32) #[] #[]] w fun e w' => ∃ oa' cap', e = .returned (.slice oa' l.length cap') ∧ RdV w' oa' (l.map fun x => Value.bool (x.key)) ∧ Below w.heap.size w w' := by
  obtain ⟨i0, hi, hz0, hz1, hz2⟩ := info_parts Try.infoBool
  have HR := Lib.hid hr
  have HOK := Lib.hid hok
  have HI := Lib.hid hi
  have HI0 := Lib.hid hz0
  have HI1 := Lib.hid hz1
  have HI2 := Lib.hid hz2
  obtain ⟨n, hn⟩ : ∃ n, l.length = n := ⟨_, rfl⟩
  have HN := Lib.hid hn
  rw [hn] at hl ⊢
  clear hr hok hi hz0 hz1 hz2 hn
  go_enter Try.func31, Try.ntmps31
  go_wp2_with (refine wpList_make_own _ rfl _ _ 47 rfl w.heap.size 4 i0 (.bool false) 1 Try.underlying47 HI.out HI0.out HI1.out .i64 .i64 n n rfl rfl rfl ?c1 ?c2 ?c3 ?_)
  case c1 => rw [HI2.out]; omega
  case c2 => unfold maxLen; omega
  case c3 => exact Nat.le_refl _
  intro w1 ho1 hg1
  have HL1 : Hid (LV w w1 4 (.slice (some ⟨w.heap.size, 0, none⟩) 0 n) []) := ⟨ho1, (Below.refl _ w).grown hg1 (Nat.le_refl _) (fun k e => by cases e)⟩
  clear ho1 hg1
  go_wp2_with fail
  go_loopw [5, 13] (fun v i wr => ∃ (k : Nat) (X : List Value), k ≤ n ∧ i = .int .i64 k ∧ X.length = k ∧ Hid (((l.take k).map fun x => Value.bool (x.key)) = X) ∧ Hid (LV w wr 4 v X)) (fun _ i _ => n - (intOf i).toNat)
  case atStart => exact ⟨0, [], Nat.zero_le _, rfl, rfl, rfl, HL1⟩
  case round =>
    clear HL1
    obtain ⟨k, X, hk, rfl, rfl, HX, HL⟩ := hrel
    obtain ⟨oL, cL, rfl⟩ := own_slice HL.out.own
    by_cases hkn : X.length = n
    · have q1 : ¬ (X.length : Int) < n := by omega
      have HE : Hid ((l.map fun x => Value.bool (x.key)) = X) := by
        have := HX.out
        rw [hkn, ← HN.out, List.take_length] at this
        exact this
      have HXN : Hid (X.length = n) := hkn
      clear hkn
      go_wp2_with fail
      go_ret
      refine ⟨oL, ⟨cL, by rw [HXN.out]; rfl⟩, ?_, HL.out.bel⟩
      rw [HE.out]
      exact (own_rdv HL.out.own).2
    · have q1 : (X.length : Int) < n := by omega
      obtain ⟨c, hc⟩ : ∃ c, l[X.length]? = some c := ⟨_, List.getElem?_eq_getElem (by rw [HN.out]; omega)⟩
      obtain ⟨g, off, e', d0, d1, d2⟩ := (HR.out.kept HL.out.bel).at X.length c hc
      have hp := (HOK.out c (List.mem_of_getElem? hc)).sz
      have HP := Lib.hid hp
      have HS : Hid (((l.take (X.length + 1)).map fun x => Value.bool (x.key)) = X ++ [Value.bool ((fun x : Pic => x.key) c)]) := by
        show _ = _
        rw [List.take_add_one, hc, List.map_append, HX.out]
        rfl
      subst e'
      unfold maxLen at hp
      have HL2 := Lib.hid (HL.out.alloc (.cells #[.bool c.key, .string c.data, .int .i64 c.power] 42))
      clear hkn hc
      go_wp2_with fail
      refine (key_of c _ HP.out).mono ?_
      rintro e w3 ⟨rfl, hb3⟩
      have HL3 := Lib.hid (HL2.out.below hb3)
      obtain ⟨oM, cM, w4, hrun, ho4, hf4⟩ := app_b w3 w.heap.size _ X ((fun x : Pic => x.key) c) HL3.out.own (by omega) HL3.out.bel.size 47
      have HL4 := Lib.hid (HL3.out.app ho4 hf4)
      dsimp only at hrun
      clear hb3 ho4 hf4 HL2
      go_wp2_with (at_builtin; refine wpList_append_run _ rfl _ _ 47 rfl _ _ _ _ rfl rfl hrun ?_)
      go_roundw
      case rel => exact ⟨X.length + 1, _, by omega, by go_num, by rw [List.length_append]; rfl, HS, HL4⟩
      case measure => simp [intOf]; omega
set_option maxHeartbeats 4000000 in
set_option maxRecDepth 100000 in
theorem col_size (w : World) (oa : Option Addr) (cap : Nat) (l : List Pic) (hl : l.length ≤ 1000000) (hok : ∀ p ∈ l, POk p) (hr : RdP w oa l) :
    Calls Try.prog 33 #[.slice oa l.length cap, .func (.func 34) #[] #[]] w fun e w' => ∃ oa' cap', e = .returned (.slice oa' l.length cap') ∧ RdV w' oa' (l.map fun x => Value.int .i64 ((x.data.size : Int))) ∧ Below w.heap.size w w' := by
  obtain ⟨i0, hi, hz0, hz1, hz2⟩ := info_parts Try.infoI64
  have HR := Lib.hid hr
  have HOK := Lib.hid hok
  have HI := Lib.hid hi
  have HI0 := Lib.hid hz0
  have HI1 := Lib.hid hz1
  have HI2 := Lib.hid hz2
  obtain ⟨n, hn⟩ : ∃ n, l.length = n := ⟨_, rfl⟩
  have HN := Lib.hid hn
  rw [hn] at hl ⊢
  clear hr hok hi hz0 hz1 hz2 hn
  go_enter Try.func33, Try.ntmps33
  go_wp2_with (refine wpList_make_own _ rfl _ _ 30 rfl w.heap.size 3 i0 (.int .i64 0) 1 Try.underlying30 HI.out HI0.out HI1.out .i64 .i64 n n rfl rfl rfl ?c1 ?c2 ?c3 ?_)
  case c1 => rw [HI2.out]; omega
  case c2 => unfold maxLen; omega
  case c3 => exact Nat.le_refl _
  intro w1 ho1 hg1
  have HL1 : Hid (LV w w1 3 (.slice (some ⟨w.heap.size, 0, none⟩) 0 n) []) := ⟨ho1, (Below.refl _ w).grown hg1 (Nat.le_refl _) (fun k e => by cases e)⟩
  clear ho1 hg1
  go_wp2_with fail
  go_loopw [5, 13] (fun v i wr => ∃ (k : Nat) (X : List Value), k ≤ n ∧ i = .int .i64 k ∧ X.length = k ∧ Hid (((l.take k).map fun x => Value.int .i64 ((x.data.size : Int))) = X) ∧ Hid (LV w wr 3 v X)) (fun _ i _ => n - (intOf i).toNat)
  case atStart => exact ⟨0, [], Nat.zero_le _, rfl, rfl, rfl, HL1⟩
  case round =>
    clear HL1
    obtain ⟨k, X, hk, rfl, rfl, HX, HL⟩ := hrel
    obtain ⟨oL, cL, rfl⟩ := own_slice HL.out.own
    by_cases hkn : X.length = n
    · have q1 : ¬ (X.length : Int) < n := by omega
      have HE : Hid ((l.map fun x => Value.int .i64 ((x.data.size : Int))) = X) := by
        have := HX.out
        rw [hkn, ← HN.out, List.take_length] at this
        exact this
      have HXN : Hid (X.length = n) := hkn
      clear hkn
      go_wp2_with fail
      go_ret
      refine ⟨oL, ⟨cL, by rw [HXN.out]; rfl⟩, ?_, HL.out.bel⟩
      rw [HE.out]
      exact (own_rdv HL.out.own).2
    · have q1 : (X.length : Int) < n := by omega
      obtain ⟨c, hc⟩ : ∃ c, l[X.length]? = some c := ⟨_, List.getElem?_eq_getElem (by rw [HN.out]; omega)⟩
      obtain ⟨g, off, e', d0, d1, d2⟩ := (HR.out.kept HL.out.bel).at X.length c hc
      have hp := (HOK.out c (List.mem_of_getElem? hc)).sz
      have HP := Lib.hid hp
      have HS : Hid (((l.take (X.length + 1)).map fun x => Value.int .i64 ((x.data.size : Int))) = X ++ [Value.int .i64 ((fun x : Pic => (x.data.size : Int)) c)]) := by
        show _ = _
        rw [List.take_add_one, hc, List.map_append, HX.out]
        rfl
      subst e'
      unfold maxLen at hp
      have HL2 := Lib.hid (HL.out.alloc (.cells #[.bool c.key, .string c.data, .int .i64 c.power] 42))
      clear hkn hc
      go_wp2_with fail
      refine (size_of c _ HP.out).mono ?_
      rintro e w3 ⟨rfl, hb3⟩
      have HL3 := Lib.hid (HL2.out.below hb3)
      obtain ⟨oM, cM, w4, hrun, ho4, hf4⟩ := app_i w3 w.heap.size _ X ((fun x : Pic => (x.data.size : Int)) c) HL3.out.own (by omega) HL3.out.bel.size 30
      have HL4 := Lib.hid (HL3.out.app ho4 hf4)
      dsimp only at hrun
      clear hb3 ho4 hf4 HL2
      go_wp2_with (at_builtin; refine wpList_append_run _ rfl _ _ 30 rfl _ _ _ _ rfl rfl hrun ?_)
      go_roundw
      case rel => exact ⟨X.length + 1, _, by omega, by go_num, by rw [List.length_append]; rfl, HS, HL4⟩
      case measure => simp [intOf]; omega
set_option maxHeartbeats 4000000 in
set_option maxRecDepth 100000 in
theorem col_power (w : World) (oa : Option Addr) (cap : Nat) (l : List Pic) (hl : l.length ≤ 1000000) (hok : ∀ p ∈ l, POk p) (hr : RdP w oa l) :
    Calls Try.prog 33 #[.slice oa l.length cap, .func (.func 35) #[] #[]] w fun e w' => ∃ oa' cap', e = .returned (.slice oa' l.length cap') ∧ RdV w' oa' (l.map fun x => Value.int .i64 (x.power)) ∧ Below w.heap.size w w' := by
  obtain ⟨i0, hi, hz0, hz1, hz2⟩ := info_parts Try.infoI64
  have HR := Lib.hid hr
  have HOK := Lib.hid hok
  have HI := Lib.hid hi
  have HI0 := Lib.hid hz0
  have HI1 := Lib.hid hz1
  have HI2 := Lib.hid hz2
  obtain ⟨n, hn⟩ : ∃ n, l.length = n := ⟨_, rfl⟩
  have HN := Lib.hid hn
  rw [hn] at hl ⊢
  clear hr hok hi hz0 hz1 hz2 hn
  go_enter Try.func33, Try.ntmps33
  go_wp2_with (refine wpList_make_own _ rfl _ _ 30 rfl w.heap.size 3 i0 (.int .i64 0) 1 Try.underlying30 HI.out HI0.out HI1.out .i64 .i64 n n rfl rfl rfl ?c1 ?c2 ?c3 ?_)
  case c1 => rw [HI2.out]; omega
  case c2 => unfold maxLen; omega
  case c3 => exact Nat.le_refl _
  intro w1 ho1 hg1
  have HL1 : Hid (LV w w1 3 (.slice (some ⟨w.heap.size, 0, none⟩) 0 n) []) := ⟨ho1, (Below.refl _ w).grown hg1 (Nat.le_refl _) (fun k e => by cases e)⟩
  clear ho1 hg1
  go_wp2_with fail
  go_loopw [5, 13] (fun v i wr => ∃ (k : Nat) (X : List Value), k ≤ n ∧ i = .int .i64 k ∧ X.length = k ∧ Hid (((l.take k).map fun x => Value.int .i64 (x.power)) = X) ∧ Hid (LV w wr 3 v X)) (fun _ i _ => n - (intOf i).toNat)
  case atStart => exact ⟨0, [], Nat.zero_le _, rfl, rfl, rfl, HL1⟩
  case round =>
    clear HL1
    obtain ⟨k, X, hk, rfl, rfl, HX, HL⟩ := hrel
    obtain ⟨oL, cL, rfl⟩ := own_slice HL.out.own
    by_cases hkn : X.length = n
    · have q1 : ¬ (X.length : Int) < n := by omega
      have HE : Hid ((l.map fun x => Value.int .i64 (x.power)) = X) := by
        have := HX.out
        rw [hkn, ← HN.out, List.take_length] at this
        exact this
      have HXN : Hid (X.length = n) := hkn
      clear hkn
      go_wp2_with fail
      go_ret
      refine ⟨oL, ⟨cL, by rw [HXN.out]; rfl⟩, ?_, HL.out.bel⟩
      rw [HE.out]
      exact (own_rdv HL.out.own).2
    · have q1 : (X.length : Int) < n := by omega
      obtain ⟨c, hc⟩ : ∃ c, l[X.length]? = some c := ⟨_, List.getElem?_eq_getElem (by rw [HN.out]; omega)⟩
      obtain ⟨g, off, e', d0, d1, d2⟩ := (HR.out.kept HL.out.bel).at X.length c hc
      have hp := (HOK.out c (List.mem_of_getElem? hc)).sz
      have HP := Lib.hid hp
      have HS : Hid (((l.take (X.length + 1)).map fun x => Value.int .i64 (x.power)) = X ++ [Value.int .i64 ((fun x : Pic => x.power) c)]) := by
        show _ = _
        rw [List.take_add_one, hc, List.map_append, HX.out]
        rfl
      subst e'
      unfold maxLen at hp
      have HL2 := Lib.hid (HL.out.alloc (.cells #[.bool c.key, .string c.data, .int .i64 c.power] 42))
      clear hkn hc
      go_wp2_with fail
      refine (power_of c _ HP.out).mono ?_
      rintro e w3 ⟨rfl, hb3⟩
      have HL3 := Lib.hid (HL2.out.below hb3)
      obtain ⟨oM, cM, w4, hrun, ho4, hf4⟩ := app_i w3 w.heap.size _ X ((fun x : Pic => x.power) c) HL3.out.own (by omega) HL3.out.bel.size 30
      have HL4 := Lib.hid (HL3.out.app ho4 hf4)
      dsimp only at hrun
      clear hb3 ho4 hf4 HL2
      go_wp2_with (at_builtin; refine wpList_append_run _ rfl _ _ 30 rfl _ _ _ _ rfl rfl hrun ?_)
      go_roundw
      case rel => exact ⟨X.length + 1, _, by omega, by go_num, by rw [List.length_append]; rfl, HS, HL4⟩
      case measure => simp [intOf]; omega
set_option maxRecDepth 100000 in
theorem sizes_any (w : World) (i : Int) (oa : Option Addr) (cap : Nat) (l : List Pic) (hl : l.length ≤ 1000000) (hok : ∀ p ∈ l, POk p) (hr : RdP w oa l) :
    Calls Try.prog 20 #[.agg #[.int .i64 i, .slice oa l.length cap]] w fun e w' => ∃ oa' cap', e = .returned (.slice oa' l.length cap') ∧ RdV w' oa' (l.map fun x => Value.int .i64 ((x.data.size : Int))) ∧ Below w.heap.size w w' := by
  have HB : Hid (Below w.heap.size w (w.alloc (.cells #[.int .i64 i, .slice oa l.length cap] 24))) := (Below.refl _ w).alloc (Nat.le_refl _) _
  have HR := Lib.hid (hr.kept HB.out)
  have HOK := Lib.hid hok
  clear hr hok
  go_enter Try.func20, Try.ntmps20
  go_wp2_with fail
  refine (col_size _ oa cap l hl HOK.out HR.out).mono ?_
  rintro e w' ⟨oa', cap', rfl, h1, h2⟩
  have H1 := Lib.hid h1
  have H2 := Lib.hid (bstep HB.out h2)
  clear h1 h2
  go_wp2_with fail
  go_ret
  exact ⟨oa', cap', rfl, H1.out, H2.out⟩
set_option maxRecDepth 100000 in
theorem powers_any (w : World) (i : Int) (oa : Option Addr) (cap : Nat) (l : List Pic) (hl : l.length ≤ 1000000) (hok : ∀ p ∈ l, POk p) (hr : RdP w oa l) :
    Calls Try.prog 22 #[.agg #[.int .i64 i, .slice oa l.length cap]] w fun e w' => ∃ oa' cap', e = .returned (.slice oa' l.length cap') ∧ RdV w' oa' (l.map fun x => Value.int .i64 (x.power)) ∧ Below w.heap.size w w' := by
  have HB : Hid (Below w.heap.size w (w.alloc (.cells #[.int .i64 i, .slice oa l.length cap] 24))) := (Below.refl _ w).alloc (Nat.le_refl _) _
  have HR := Lib.hid (hr.kept HB.out)
  have HOK := Lib.hid hok
  clear hr hok
  go_enter Try.func22, Try.ntmps22
  go_wp2_with fail
  refine (col_power _ oa cap l hl HOK.out HR.out).mono ?_
  rintro e w' ⟨oa', cap', rfl, h1, h2⟩
  have H1 := Lib.hid h1
  have H2 := Lib.hid (bstep HB.out h2)
  clear h1 h2
  go_wp2_with fail
  go_ret
  exact ⟨oa', cap', rfl, H1.out, H2.out⟩
end Go.Proofs.Ytfplajafekpccaa
