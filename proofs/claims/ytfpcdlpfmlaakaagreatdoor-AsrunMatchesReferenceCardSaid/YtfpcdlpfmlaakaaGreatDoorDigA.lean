/-
  The walks of math/bits.RotateLeft32 and digest.expand.
-/
import Derived.WalkKit
import Derived.LoopTactic
import Derived.WalkSpells
import Derived.WalkLawsBesides
import Derived.RegionTactic
import Derived.BigRegion
import Derived.Deep.QuietTactic
import Derived.Deep.RegionHeld3
import Derived.BigQuiet
import Derived.IntWalk
import Derived.Outline
import Derived.Laws.BitsAllLaws
import Derived.Laws.Rows
import Derived.Laws.Tables
import Derived.Laws.CopyOwn
import Derived.Deep.Cut
import Derived.Test.YtfpcdlpfmlaakaaGreatDoorBas
import Derived.Test.YtfpcdlpfmlaakaaGreatDoorPlD
import Derived.Test.YtfpcdlpfmlaakaaGreatDoorProg
set_option linter.unusedVariables false
set_option linter.unusedSimpArgs false
namespace Go.Proofs.YtfpcdlpfmlaakaaGreatDoor
open Go.RowKit Onair
set_option maxHeartbeats 4000000 in
set_option maxRecDepth 100000 in
theorem rot_any (x : Nat) (k : Int) (s : Nat) (w : World) (hx : x < 4294967296) (hs : bits .and .u64 (IntKind.u64.wrap k) 31 = (s : Int)) (h1 : 0 < s) (h2 : s < 32) :
    Calls Tryz.prog 129 #[.int .u32 x, .int .i64 k] w fun e w' => e = .returned (.int .u32 (rotl x s : Nat)) ∧ w = w' := by
  have HE : Hid (bits BinOp.or IntKind.u32 ((x : Int) * 2 ^ s % 4294967296) ((x : Int) / 2 ^ (32 - s)) = (rotl x s : Nat)) := by
    show _ = _
    have e1 : ((x : Int) * 2 ^ s % 4294967296) = ((x * 2 ^ s % 4294967296 : Nat) : Int) := by simp
    have e2 : ((x : Int) / 2 ^ (32 - s)) = ((x / 2 ^ (32 - s) : Nat) : Int) := by simp
    rw [e1, e2, u32_or_nat _ _ (Nat.mod_lt _ (by decide)) (Nat.lt_of_le_of_lt (Nat.div_le_self _ _) hx)]
    rfl
  go_enter Tryz.func129, Tryz.ntmps129
  go_wp2_with fail
  go_ret
  exact ⟨ret_int HE.out, rfl⟩
/-- The cells of words. -/
def w32 (l : List Nat) : List Value := l.map fun (x : Nat) => Value.int .u32 (x : Int)
theorem w32_len (l : List Nat) : (w32 l).length = l.length := by simp [w32]
theorem w32_at (l : List Nat) (i : Nat) (h : i < l.length) : (w32 l)[i]? = some (.int .u32 (wAt l i : Nat)) := by
  simp [w32, wAt, List.getD_eq_getElem?_getD, List.getElem?_eq_getElem h]
theorem w32_set (l : List Nat) (i x : Nat) : (w32 l).set i (.int .u32 (x : Int)) = w32 (l.set i x) := by simp [w32, List.map_set]
theorem set_end (l : List Nat) (n x y : Nat) : (l ++ List.replicate (n + 1) y).set l.length x = (l ++ [x]) ++ List.replicate n y := by
  rw [List.set_append_right _ _ (Nat.le_refl _), Nat.sub_self, List.replicate_succ]
  simp
theorem wAt_left (l m : List Nat) (i : Nat) (h : i < l.length) : wAt (l ++ m) i = wAt l i := by
  unfold wAt
  rw [List.getD_eq_getElem?_getD, List.getD_eq_getElem?_getD, List.getElem?_append_left h]
/-- The blocks of a run of expand: the block, the result, the words. -/
structure EX (W : World) (r : Nat) (bs : List UInt8) (ws : List Nat) (w : World) : Prop where
  b0 : Blk w r 175 (cellsB bs)
  b1 : Blk w (r + 1) 190 (w32 (List.replicate 64 0))
  b2 : Blk w (r + 2) 190 (w32 ws)
  hr : W.heap.size = r
  bel : Below W.heap.size W w
theorem EX.set {W : World} {r : Nat} {bs : List UInt8} {ws : List Nat} {w : World} (h : EX W r bs ws w) (i x : Nat) : EX W r bs (ws.set i x) (w.setCell ⟨r + 2, i, none⟩ (.int .u32 (x : Int))) := by
  have hr := h.hr
  refine ⟨h.b0.other _ (by show r + 2 ≠ r; omega) _, h.b1.other _ (by show r + 2 ≠ r + 1; omega) _, ?_, h.hr, h.bel.setCell (p := ⟨r + 2, i, none⟩) (by show _ ≤ r + 2; omega) _⟩
  rw [← w32_set]
  exact h.b2.set i _
theorem EX.drew {W : World} {r : Nat} {bs : List UInt8} {ws : List Nat} {w : World} (h : EX W r bs ws w) : EX W r bs ws w.drew := ⟨h.b0, h.b1, h.b2, h.hr, h.bel.drew⟩
theorem EX.drewN {W : World} {r : Nat} {bs : List UInt8} {ws : List Nat} {w : World} (h : EX W r bs ws w) (n : Nat) : EX W r bs ws (w.drewN n) := ⟨h.b0, h.b1, h.b2, h.hr, h.bel.trans ⟨rfl, rfl, rfl, Nat.le_refl _, fun _ _ => rfl⟩⟩
theorem wAt_mid (l m : List Nat) (x : Nat) : wAt (l ++ x :: m) l.length = x := by
  unfold wAt
  rw [List.getD_eq_getElem?_getD, List.getElem?_append_right (Nat.le_refl _), Nat.sub_self]
  rfl
theorem set_mid (l m : List Nat) (x y : Nat) : (l ++ x :: m).set l.length y = l ++ y :: m := by
  rw [List.set_append_right _ _ (Nat.le_refl _), Nat.sub_self]
  rfl
theorem or32 (a b c : Nat) (ha : a < 4294967296) (hb : b < 4294967296) (h : (a * 256 % 4294967296) ||| b = c) : bits BinOp.or IntKind.u32 ((a : Int) * 256 % 4294967296) (b : Int) = (c : Int) := by
  have e1 : ((a : Int) * 256 % 4294967296) = ((a * 256 % 4294967296 : Nat) : Int) := by omega
  rw [e1, u32_or_nat _ _ (Nat.mod_lt _ (by decide)) hb, h]
theorem Tryz.size64 : (Tryz.prog.info? 190).map (·.size) = some 64 := by kernel_rfl
theorem w32_one (l : List Nat) : (w32 l).toArray.all (·.oneCell') = true := by
  rw [Array.all_eq_true_iff_forall_mem]
  intro v hv
  simp [w32] at hv
  obtain ⟨x, _, rfl⟩ := hv
  rfl
set_option maxHeartbeats 8000000 in
set_option maxRecDepth 100000 in
theorem expand_any (bs : List UInt8) (w : World) (hb : bs.length = 64) :
    Calls Tryz.prog 128 #[.agg (cellsB bs).toArray] w fun e w' => e = .returned (.agg (w32 (wexp bs)).toArray) ∧ Below w.heap.size w w' := by
  obtain ⟨r, hr⟩ : ∃ r, w.heap.size = r := ⟨_, rfl⟩
  have h0 : EX w r bs (List.replicate 64 0) (((w.alloc (.cells (cellsB bs).toArray 175)).alloc (.cells #[.int .u32 0, .int .u32 0, .int .u32 0, .int .u32 0, .int .u32 0, .int .u32 0, .int .u32 0, .int .u32 0, .int .u32 0, .int .u32 0, .int .u32 0, .int .u32 0, .int .u32 0, .int .u32 0, .int .u32 0, .int .u32 0, .int .u32 0, .int .u32 0, .int .u32 0, .int .u32 0, .int .u32 0, .int .u32 0, .int .u32 0, .int .u32 0, .int .u32 0, .int .u32 0, .int .u32 0, .int .u32 0, .int .u32 0, .int .u32 0, .int .u32 0, .int .u32 0, .int .u32 0, .int .u32 0, .int .u32 0, .int .u32 0, .int .u32 0, .int .u32 0, .int .u32 0, .int .u32 0, .int .u32 0, .int .u32 0, .int .u32 0, .int .u32 0, .int .u32 0, .int .u32 0, .int .u32 0, .int .u32 0, .int .u32 0, .int .u32 0, .int .u32 0, .int .u32 0, .int .u32 0, .int .u32 0, .int .u32 0, .int .u32 0, .int .u32 0, .int .u32 0, .int .u32 0, .int .u32 0, .int .u32 0, .int .u32 0, .int .u32 0, .int .u32 0] 190)).alloc (.cells #[.int .u32 0, .int .u32 0, .int .u32 0, .int .u32 0, .int .u32 0, .int .u32 0, .int .u32 0, .int .u32 0, .int .u32 0, .int .u32 0, .int .u32 0, .int .u32 0, .int .u32 0, .int .u32 0, .int .u32 0, .int .u32 0, .int .u32 0, .int .u32 0, .int .u32 0, .int .u32 0, .int .u32 0, .int .u32 0, .int .u32 0, .int .u32 0, .int .u32 0, .int .u32 0, .int .u32 0, .int .u32 0, .int .u32 0, .int .u32 0, .int .u32 0, .int .u32 0, .int .u32 0, .int .u32 0, .int .u32 0, .int .u32 0, .int .u32 0, .int .u32 0, .int .u32 0, .int .u32 0, .int .u32 0, .int .u32 0, .int .u32 0, .int .u32 0, .int .u32 0, .int .u32 0, .int .u32 0, .int .u32 0, .int .u32 0, .int .u32 0, .int .u32 0, .int .u32 0, .int .u32 0, .int .u32 0, .int .u32 0, .int .u32 0, .int .u32 0, .int .u32 0, .int .u32 0, .int .u32 0, .int .u32 0, .int .u32 0, .int .u32 0, .int .u32 0] 190)) := by
    refine ⟨((by rw [← hr]; exact Blk.new w _ _ : Blk _ r _ _).alloc _).alloc _, ?_, ?_, hr, ((((Below.refl _ w).alloc (Nat.le_refl _) _).alloc (by simp) _).alloc (by simp; omega) _)⟩
    · have := (Blk.new (w.alloc (.cells (cellsB bs).toArray 175)) 190 (w32 (List.replicate 64 0))).alloc (.cells #[.int .u32 0, .int .u32 0, .int .u32 0, .int .u32 0, .int .u32 0, .int .u32 0, .int .u32 0, .int .u32 0, .int .u32 0, .int .u32 0, .int .u32 0, .int .u32 0, .int .u32 0, .int .u32 0, .int .u32 0, .int .u32 0, .int .u32 0, .int .u32 0, .int .u32 0, .int .u32 0, .int .u32 0, .int .u32 0, .int .u32 0, .int .u32 0, .int .u32 0, .int .u32 0, .int .u32 0, .int .u32 0, .int .u32 0, .int .u32 0, .int .u32 0, .int .u32 0, .int .u32 0, .int .u32 0, .int .u32 0, .int .u32 0, .int .u32 0, .int .u32 0, .int .u32 0, .int .u32 0, .int .u32 0, .int .u32 0, .int .u32 0, .int .u32 0, .int .u32 0, .int .u32 0, .int .u32 0, .int .u32 0, .int .u32 0, .int .u32 0, .int .u32 0, .int .u32 0, .int .u32 0, .int .u32 0, .int .u32 0, .int .u32 0, .int .u32 0, .int .u32 0, .int .u32 0, .int .u32 0, .int .u32 0, .int .u32 0, .int .u32 0, .int .u32 0] 190)
      rw [World.size_alloc, hr] at this
      exact this
    · have := Blk.new ((w.alloc (.cells (cellsB bs).toArray 175)).alloc (.cells #[.int .u32 0, .int .u32 0, .int .u32 0, .int .u32 0, .int .u32 0, .int .u32 0, .int .u32 0, .int .u32 0, .int .u32 0, .int .u32 0, .int .u32 0, .int .u32 0, .int .u32 0, .int .u32 0, .int .u32 0, .int .u32 0, .int .u32 0, .int .u32 0, .int .u32 0, .int .u32 0, .int .u32 0, .int .u32 0, .int .u32 0, .int .u32 0, .int .u32 0, .int .u32 0, .int .u32 0, .int .u32 0, .int .u32 0, .int .u32 0, .int .u32 0, .int .u32 0, .int .u32 0, .int .u32 0, .int .u32 0, .int .u32 0, .int .u32 0, .int .u32 0, .int .u32 0, .int .u32 0, .int .u32 0, .int .u32 0, .int .u32 0, .int .u32 0, .int .u32 0, .int .u32 0, .int .u32 0, .int .u32 0, .int .u32 0, .int .u32 0, .int .u32 0, .int .u32 0, .int .u32 0, .int .u32 0, .int .u32 0, .int .u32 0, .int .u32 0, .int .u32 0, .int .u32 0, .int .u32 0, .int .u32 0, .int .u32 0, .int .u32 0, .int .u32 0] 190)) 190 (w32 (List.replicate 64 0))
      rw [World.size_alloc, World.size_alloc, hr] at this
      exact this
  have H0 := Lib.hid h0
  have HR := Lib.hid hr
  have HBL := Lib.hid hb
  clear h0 hr hb
  go_enter Tryz.func128, Tryz.ntmps128
  go_wp2_with fail
  rw [HR.out]
  generalize ((w.alloc (.cells (cellsB bs).toArray 175)).alloc (.cells #[.int .u32 0, .int .u32 0, .int .u32 0, .int .u32 0, .int .u32 0, .int .u32 0, .int .u32 0, .int .u32 0, .int .u32 0, .int .u32 0, .int .u32 0, .int .u32 0, .int .u32 0, .int .u32 0, .int .u32 0, .int .u32 0, .int .u32 0, .int .u32 0, .int .u32 0, .int .u32 0, .int .u32 0, .int .u32 0, .int .u32 0, .int .u32 0, .int .u32 0, .int .u32 0, .int .u32 0, .int .u32 0, .int .u32 0, .int .u32 0, .int .u32 0, .int .u32 0, .int .u32 0, .int .u32 0, .int .u32 0, .int .u32 0, .int .u32 0, .int .u32 0, .int .u32 0, .int .u32 0, .int .u32 0, .int .u32 0, .int .u32 0, .int .u32 0, .int .u32 0, .int .u32 0, .int .u32 0, .int .u32 0, .int .u32 0, .int .u32 0, .int .u32 0, .int .u32 0, .int .u32 0, .int .u32 0, .int .u32 0, .int .u32 0, .int .u32 0, .int .u32 0, .int .u32 0, .int .u32 0, .int .u32 0, .int .u32 0, .int .u32 0, .int .u32 0] 190)).alloc (.cells #[.int .u32 0, .int .u32 0, .int .u32 0, .int .u32 0, .int .u32 0, .int .u32 0, .int .u32 0, .int .u32 0, .int .u32 0, .int .u32 0, .int .u32 0, .int .u32 0, .int .u32 0, .int .u32 0, .int .u32 0, .int .u32 0, .int .u32 0, .int .u32 0, .int .u32 0, .int .u32 0, .int .u32 0, .int .u32 0, .int .u32 0, .int .u32 0, .int .u32 0, .int .u32 0, .int .u32 0, .int .u32 0, .int .u32 0, .int .u32 0, .int .u32 0, .int .u32 0, .int .u32 0, .int .u32 0, .int .u32 0, .int .u32 0, .int .u32 0, .int .u32 0, .int .u32 0, .int .u32 0, .int .u32 0, .int .u32 0, .int .u32 0, .int .u32 0, .int .u32 0, .int .u32 0, .int .u32 0, .int .u32 0, .int .u32 0, .int .u32 0, .int .u32 0, .int .u32 0, .int .u32 0, .int .u32 0, .int .u32 0, .int .u32 0, .int .u32 0, .int .u32 0, .int .u32 0, .int .u32 0, .int .u32 0, .int .u32 0, .int .u32 0, .int .u32 0] 190) = w0 at H0 ⊢
  go_loopw [11] (fun x wr => ∃ i : Nat, i ≤ 16 ∧ x = .int .i64 i ∧ Hid (EX w r bs (words16 bs i ++ List.replicate (64 - i) 0) wr)) (fun x _ => 16 - (intOf x).toNat)
  case atStart => exact ⟨0, Nat.zero_le _, rfl, H0⟩
  case round =>
    clear H0
    obtain ⟨i, hi, rfl, HE⟩ := hrel
    by_cases hi16 : i = 16
    · have q1 : ¬ (i : Int) < 16 := by omega
      obtain rfl := hi16
      have HS : Hid (EX w r bs (schedN bs 0 ++ List.replicate 48 0) wr) := HE
      clear HE hi
      go_wp2_with fail
      go_loopw [6] (fun x wr => ∃ k : Nat, 16 ≤ k ∧ k ≤ 64 ∧ x = .int .i64 (k : Int) ∧ Hid (EX w r bs (schedN bs (k - 16) ++ List.replicate (64 - k) 0) wr)) (fun x _ => 64 - (intOf x).toNat)
      case atStart => exact ⟨16, Nat.le_refl _, by decide, rfl, HS⟩
      case round =>
        clear HS
        obtain ⟨k, hk1, hk2, rfl, HE⟩ := hrel
        by_cases hk64 : k = 64
        · obtain rfl := hk64
          have HE2 : Hid (EX w r bs (wexp bs) wr) := by
            have := HE.out
            rw [show 64 - 64 = 0 from rfl, List.replicate_zero, List.append_nil] at this
            exact this
          obtain ⟨ws, hws⟩ : ∃ ws, wexp bs = ws := ⟨_, rfl⟩
          have hwl : ws.length = 64 := by rw [← hws]; exact wexp_len bs
          obtain ⟨zs, hzs⟩ : ∃ zs, w32 (List.replicate 64 0) = zs := ⟨_, rfl⟩
          have hzl : zs.length = 64 := by rw [← hzs, w32_len, List.length_replicate]
          have B1 := HE2.out.b1
          rw [hzs] at B1
          have B2 := HE2.out.b2
          rw [hws] at B2
          have HB := Lib.hid HE2.out.bel
          have hrl : w.heap.size ≤ r + 1 := by rw [HR.out]; omega
          clear HE HE2 hzs hk1 hk2
          obtain ⟨cs, hcs⟩ : ∃ cs, (w32 ws).toArray = cs := ⟨_, rfl⟩
          obtain ⟨zc, hzc⟩ : ∃ zc, zs.toArray = zc := ⟨_, rfl⟩
          have B1' : wr.heap[r + 1]? = some (.cells zc 190 (0, 0)) := by rw [← hzc]; exact B1
          have B2' : wr.heap[r + 1 + 1]? = some (.cells cs 190 (0, 0)) := by rw [← hcs]; exact B2
          have hsz : (Tryz.prog.info? 190).map (·.size) = some cs.size := by rw [Tryz.size64, ← hcs, List.size_toArray, w32_len, hwl]
          have hone : cs.all (·.oneCell') = true := by rw [← hcs]; exact w32_one ws
          have hold : zc.size = cs.size := by rw [← hcs, ← hzc, List.size_toArray, List.size_toArray, w32_len, hwl, hzl]
          have HCS : Hid ((w32 (wexp bs)).toArray = cs) := by show _ = _; rw [hws]; exact hcs
          have HB1 := Lib.hid B1'
          have HB2 := Lib.hid B2'
          have HSZ := Lib.hid hsz
          have HONE := Lib.hid hone
          have HOLD := Lib.hid hold
          clear B1 B2 B1' B2' hsz hone hold hcs hzc hwl hzl hws
          go_upto_region 18 with (fail)
          refine wp_region_lit ?_
          refine wpList_load_row (o := ⟨some 76, _, _, _, _, _⟩) rfl 190 _ rfl (r + 1 + 1) rfl 190 cs (0, 0) _ HB2.out Tryz.underlying190 rfl HSZ.out ?_
          try simp only [Act.put, List.setIfInBounds_toArray, List.set_cons_zero, List.set_cons_succ]
          refine wpList_store_row (o := ⟨none, _, _, _, _, _⟩) rfl 190 _ _ rfl (r + 1) cs rfl rfl 190 zc HB1.out HSZ.out HOLD.out HONE.out ?_
          go_wp2_with fail
          refine bodyPost_ret (results_cell_row Tryz.results128 _ _ (r + 1) 190 cs (0, 0) _ rfl (setRow_heap _ _ _ _ _ _ HB1.out) Tryz.underlying190 rfl HSZ.out) rfl ?_
          rw [HCS.out]
          exact ⟨rfl, below_setRow HB.out hrl _⟩
        · have q2 : (k : Int) < 64 := by omega
          have hln := schedN_len bs (k - 16)
          have hlt := schedN_lt bs (k - 16)
          have hnx : schedN bs (k + 1 - 16) = schedN bs (k - 16) ++ [nextW (schedN bs (k - 16))] := by
            rw [show k + 1 - 16 = (k - 16) + 1 by omega]
            rfl
          obtain ⟨ws, hws⟩ : ∃ ws, schedN bs (k - 16) = ws := ⟨_, rfl⟩
          rw [hws] at hln hlt hnx HE
          rw [show 16 + (k - 16) = k by omega] at hln
          obtain ⟨z, hz⟩ : ∃ z, 64 - k = z + 1 := ⟨63 - k, by omega⟩
          rw [hz] at HE
          have cel : ∀ j, j < k → wr.cell? ⟨r + 2, j, none⟩ = some (.int .u32 (wAt ws j : Nat)) := fun j hj => by
            rw [HE.out.b2.cell, w32_at _ _ (by simp; omega), wAt_left _ _ _ (by omega)]
          have cp := cel (k - 15) (by omega)
          have cq := cel (k - 2) (by omega)
          have ca := cel (k - 16) (by omega)
          have cb := cel (k - 7) (by omega)
          obtain ⟨p, hp⟩ : ∃ p, wAt ws (k - 15) = p := ⟨_, rfl⟩
          obtain ⟨q, hq⟩ : ∃ q, wAt ws (k - 2) = q := ⟨_, rfl⟩
          obtain ⟨a, ha⟩ : ∃ a, wAt ws (k - 16) = a := ⟨_, rfl⟩
          obtain ⟨b, hb⟩ : ∃ b, wAt ws (k - 7) = b := ⟨_, rfl⟩
          have lp : p < 4294967296 := hp ▸ wAt_lt hlt _
          have lq : q < 4294967296 := hq ▸ wAt_lt hlt _
          have la : a < 4294967296 := ha ▸ wAt_lt hlt _
          have lb : b < 4294967296 := hb ▸ wAt_lt hlt _
          rw [hp] at cp
          rw [hq] at cq
          rw [ha] at ca
          rw [hb] at cb
          have hnw : nextW ws = add32 (add32 (add32 a (sig0 p)) b) (sig1 q) := by
            unfold nextW
            rw [hln, hp, hq, ha, hb]
          have ck := HE.out.b2.cell k
          rw [w32_at _ _ (by simp; omega)] at ck
          obtain ⟨old, hold⟩ : ∃ old, wAt (ws ++ List.replicate (z + 1) 0) k = old := ⟨_, rfl⟩
          rw [hold] at ck
          have fk := HE.out.b2.frozen k
          have hset : (ws ++ List.replicate (z + 1) 0).set k (nextW ws) = schedN bs (k + 1 - 16) ++ List.replicate (64 - (k + 1)) 0 := by
            have := set_end ws z (nextW ws) 0
            rw [hln] at this
            rw [this, hnx, show 64 - (k + 1) = z by omega]
          obtain ⟨r1, hr1⟩ : ∃ r1, rotl p 25 = r1 := ⟨_, rfl⟩
          obtain ⟨r2, hr2⟩ : ∃ r2, rotl p 14 = r2 := ⟨_, rfl⟩
          obtain ⟨r3, hr3⟩ : ∃ r3, rotl q 15 = r3 := ⟨_, rfl⟩
          obtain ⟨r4, hr4⟩ : ∃ r4, rotl q 13 = r4 := ⟨_, rfl⟩
          have l1 : r1 < 4294967296 := hr1 ▸ rotl_lt p 25 lp
          have l2 : r2 < 4294967296 := hr2 ▸ rotl_lt p 14 lp
          have l3 : r3 < 4294967296 := hr3 ▸ rotl_lt q 15 lq
          have l4 : r4 < 4294967296 := hr4 ▸ rotl_lt q 13 lq
          have x1 := u32_xor_nat r1 r2 l1 l2
          have x2 := u32_xor_nat (r1 ^^^ r2) (p / 8) (xor_lt32 l1 l2) (by omega)
          have y1 := u32_xor_nat r3 r4 l3 l4
          have y2 := u32_xor_nat (r3 ^^^ r4) (q / 1024) (xor_lt32 l3 l4) (by omega)
          obtain ⟨m1, hm1⟩ : ∃ m1, r1 ^^^ r2 = m1 := ⟨_, rfl⟩
          obtain ⟨m2, hm2⟩ : ∃ m2, r3 ^^^ r4 = m2 := ⟨_, rfl⟩
          have hs0 : sig0 p = m1 ^^^ p / 8 := by unfold sig0; rw [hr1, hr2, hm1]
          have hs1 : sig1 q = m2 ^^^ q / 1024 := by unfold sig1; rw [hr3, hr4, hm2]
          rw [hm1] at x1 x2
          rw [hm2] at y1 y2
          rw [← hs0] at x2
          rw [← hs1] at y2
          have ls0 : sig0 p < 4294967296 := by rw [hs0, ← hm1]; exact xor_lt32 (xor_lt32 l1 l2) (by omega)
          have ls1 : sig1 q < 4294967296 := by rw [hs1, ← hm2]; exact xor_lt32 (xor_lt32 l3 l4) (by omega)
          clear hs0 hs1
          obtain ⟨s0, h0⟩ : ∃ s0, sig0 p = s0 := ⟨_, rfl⟩
          obtain ⟨s1, h1⟩ : ∃ s1, sig1 q = s1 := ⟨_, rfl⟩
          rw [h0] at x2 ls0
          rw [h1] at y2 ls1
          rw [show ((p / 8 : Nat) : Int) = (p : Int) / 8 from by omega] at x2
          rw [show ((q / 1024 : Nat) : Int) = (q : Int) / 1024 from by omega] at y2
          have HFA : Hid (∀ wn : World, EX w r bs (ws ++ List.replicate (z + 1) 0) wn → wn.cell? ⟨r + 2, k - 16, none⟩ = some (.int .u32 (a : Int)) ∧ wn.cell? ⟨r + 2, k - 7, none⟩ = some (.int .u32 (b : Int)) ∧ wn.cell? ⟨r + 2, k, none⟩ = some (.int .u32 (old : Int)) ∧ wn.frozen? ⟨r + 2, k, none⟩ = false ∧ EX w r bs (schedN bs (k + 1 - 16) ++ List.replicate (64 - (k + 1)) 0) (wn.setCell ⟨r + 2, k, none⟩ (.int .u32 ((add32 (add32 (add32 a s0) b) s1 : Nat) : Int)))) := fun wn hn => by
            have cel : ∀ j, j < k → wn.cell? ⟨r + 2, j, none⟩ = some (.int .u32 (wAt ws j : Nat)) := fun j hj => by
              rw [hn.b2.cell, w32_at _ _ (by simp; omega), wAt_left _ _ _ (by omega)]
            have ck := hn.b2.cell k
            rw [w32_at _ _ (by simp; omega), hold] at ck
            have he := hn.set k (nextW ws)
            rw [hset, hnw, h0, h1] at he
            refine ⟨?_, ?_, ck, hn.b2.frozen k, he⟩
            · have := cel (k - 16) (by omega)
              rw [ha] at this
              exact this
            · have := cel (k - 7) (by omega)
              rw [hb] at this
              exact this
          have HR1 := Lib.hid hr1
          have HR2 := Lib.hid hr2
          have HR3 := Lib.hid hr3
          have HR4 := Lib.hid hr4
          have a1 : ((a : Int) + s0) % 4294967296 = ((add32 a s0 : Nat) : Int) := by unfold add32; omega
          have a2 : (((add32 a s0 : Nat) : Int) + b) % 4294967296 = ((add32 (add32 a s0) b : Nat) : Int) := by unfold add32; omega
          have a3 : (((add32 (add32 a s0) b : Nat) : Int) + s1) % 4294967296 = ((add32 (add32 (add32 a s0) b) s1 : Nat) : Int) := by unfold add32; omega
          have hrl : r + 2 < wr.heap.size := HE.out.b2.lt
          have j1 : IntKind.i64.wrap ((k : Int) - 15) = ((k - 15 : Nat) : Int) := by rw [IntWalk.i64_in _ (by omega)]; omega
          have j2 : IntKind.i64.wrap ((k : Int) - 2) = ((k - 2 : Nat) : Int) := by rw [IntWalk.i64_in _ (by omega)]; omega
          clear hws hlt hnx hz cel hp hq ha hb hnw hold hset hr1 hr2 hr3 hr4 hm1 hm2 h0 h1 hk64 hln ca cb ck fk
          have k1 : ((k - 15 : Nat) : Int) < 64 := by omega
          have k2 : ((k - 2 : Nat) : Int) < 64 := by omega
          go_wp2_with fail
          go_quiet (fail)
          have HN := Lib.hid (HE.out.drewN nq)
          generalize wr.drewN nq = wn at HN ⊢
          clear cp cq j1 j2 k1 k2 HE hrl
          go_wp2_with fail
          refine (rot_any p (-7) 25 _ lp (by kernel_rfl) (by decide) (by decide)).mono ?_
          rintro e w' ⟨rfl, rfl⟩
          rw [HR1.out]
          go_wp2_with fail
          refine (rot_any p (-18) 14 _ lp (by kernel_rfl) (by decide) (by decide)).mono ?_
          rintro e w' ⟨rfl, rfl⟩
          rw [HR2.out]
          go_wp2_with fail
          refine (rot_any q (-17) 15 _ lq (by kernel_rfl) (by decide) (by decide)).mono ?_
          rintro e w' ⟨rfl, rfl⟩
          rw [HR3.out]
          go_wp2_with fail
          refine (rot_any q (-19) 13 _ lq (by kernel_rfl) (by decide) (by decide)).mono ?_
          rintro e w' ⟨rfl, rfl⟩
          rw [HR4.out]
          obtain ⟨ca, cb, ck, fk, he⟩ := HFA.out wn HN.out
          have HE2 := Lib.hid he.drew
          have hrl : r + 2 < wn.heap.size := HN.out.b2.lt
          have j1 : IntKind.i64.wrap ((k : Int) - 16) = ((k - 16 : Nat) : Int) := by rw [IntWalk.i64_in _ (by omega)]; omega
          have j2 : IntKind.i64.wrap ((k : Int) - 7) = ((k - 7 : Nat) : Int) := by rw [IntWalk.i64_in _ (by omega)]; omega
          have k1 : ((k - 16 : Nat) : Int) < 64 := by omega
          have k2 : ((k - 7 : Nat) : Int) < 64 := by omega
          clear he
          go_wp2_with fail
          go_region
          clear a1 a2 a3 x1 x2 y1 y2 j1 j2 ca cb ck fk
          go_wp2_with fail
          go_roundw
          case rel => exact ⟨k + 1, by omega, by omega, by go_num, HE2⟩
          case measure => simp [intOf]; omega
    · have q1 : (i : Int) < 16 := by omega
      obtain ⟨z, hz⟩ : ∃ z, 64 - i = z + 1 := ⟨63 - i, by omega⟩
      have HS : Hid (EX w r bs (words16 bs i ++ wordP bs i 0 :: List.replicate z 0) wr) := by
        have := HE.out
        rw [hz, List.replicate_succ] at this
        exact this
      have HZ : Hid (64 - (i + 1) = z) := by show _ = _; omega
      clear HE hz hi16
      go_wp2_with fail
      obtain ⟨wo, rfl⟩ : ∃ wo : World, wo = wr := ⟨_, rfl⟩
      go_loopw [14] (fun x wr => ∃ j : Nat, j ≤ 4 ∧ x = .int .i64 j ∧ Hid (EX w r bs (words16 bs i ++ wordP bs i j :: List.replicate z 0) wr)) (fun x _ => 4 - (intOf x).toNat)
      case atStart => exact ⟨0, Nat.zero_le _, rfl, HS⟩
      case round =>
        clear HS
        obtain ⟨j, hj, rfl, HE⟩ := hrel
        by_cases hj4 : j = 4
        · have q2 : ¬ (j : Int) < 4 := by omega
          obtain rfl := hj4
          have HE2 : Hid (EX w r bs (words16 bs (i + 1) ++ List.replicate (64 - (i + 1)) 0) wr) := by
            show EX _ _ _ _ _
            rw [words16_succ, HZ.out, List.append_assoc]
            exact HE.out
          go_wp2_with fail
          go_roundw
          case rel => exact ⟨i + 1, by omega, by go_num, HE2⟩
          case measure => simp [intOf]; omega
        · have q2 : (j : Int) < 4 := by omega
          have h1 := words16_len bs i
          have c2 := HE.out.b2.cell i
          rw [w32_at _ _ (by simp [h1])] at c2
          have e1 : wAt (words16 bs i ++ wordP bs i j :: List.replicate z 0) i = wordP bs i j := by
            have := wAt_mid (words16 bs i) (List.replicate z 0) (wordP bs i j)
            rwa [h1] at this
          rw [e1] at c2
          have f2 := HE.out.b2.frozen i
          have hbl : 4 * i + j < bs.length := by rw [HBL.out]; omega
          have c0 := HE.out.b0.cell (4 * i + j)
          rw [cellsB_get bs _ hbl] at c0
          have hgd : bs.getD (4 * i + j) 0 = bs[4 * i + j] := by rw [List.getD_eq_getElem?_getD, List.getElem?_eq_getElem hbl]; rfl
          obtain ⟨v, hv⟩ : ∃ v, wordP bs i j = v := ⟨_, rfl⟩
          obtain ⟨b, hb⟩ : ∃ b : Nat, bs[4 * i + j].toNat = b := ⟨_, rfl⟩
          obtain ⟨v2, hv2⟩ : ∃ v2, wordP bs i (j + 1) = v2 := ⟨_, rfl⟩
          have hvl : v < 4294967296 := hv ▸ wordP_lt bs i j
          have hbl2 : b < 256 := hb ▸ bs[4 * i + j].toNat_lt
          have hor := or32 v b v2 hvl (by omega) (by rw [← hv2, ← hv, ← hb, ← hgd]; rfl)
          have HE2 := Lib.hid (HE.out.set i v2).drew
          have e2 : (words16 bs i ++ wordP bs i j :: List.replicate z 0).set i v2 = words16 bs i ++ wordP bs i (j + 1) :: List.replicate z 0 := by
            have := set_mid (words16 bs i) (List.replicate z 0) (wordP bs i j) v2
            rw [h1] at this
            rw [this, hv2]
          rw [e2] at HE2
          rw [hv] at c2
          rw [hb] at c0
          have hrl : r + 2 < wr.heap.size := HE.out.b2.lt
          clear e1 e2 hgd h1 hbl hv hb hv2 hj4
          have i1 : IntKind.i64.wrap (4 * (i : Int)) = 4 * (i : Int) := IntWalk.i64_in _ (by omega)
          have i2 : IntKind.i64.wrap (4 * (i : Int) + j) = ((4 * i + j : Nat) : Int) := by rw [IntWalk.i64_in _ (by omega)]; omega
          have i3 : (0 : Int) ≤ ((4 * i + j : Nat) : Int) := by omega
          have i4 : ((4 * i + j : Nat) : Int) < 64 := by omega
          have i5 : (i : Int) < 64 := by omega
          go_wp2_with fail
          go_region
          clear hor i1 i2
          go_wp2_with fail
          go_roundw
          case rel => exact ⟨j + 1, by omega, by go_num, HE2⟩
          case measure => simp [intOf]; omega
end Go.Proofs.YtfpcdlpfmlaakaaGreatDoor
