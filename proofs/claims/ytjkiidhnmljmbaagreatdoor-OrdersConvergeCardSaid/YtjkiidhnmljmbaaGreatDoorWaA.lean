/- The walk of wire.PutInt: the iterator 'groups' has its contract, PutInt its own. -/
import Derived.RangeFuncNested
import Derived.RangeFuncBound
import Derived.RangeFuncCalls
import Derived.RangeFuncLeaves
import Derived.Shelf.Abstract
import Derived.Shelf.RegionOpen
import Derived.WalkKit
import Derived.OwnWalkIn
import Derived.TacticsInMore
import Derived.LoopNIn
import Derived.LoopIn
import Derived.Laws.BitsAllLaws
import Derived.Lib.Hide
import Derived.LoopTactic
import Derived.OwnWalk
import Derived.Lib.VarintBits
import Derived.WalkSpells
import Derived.WalkLawsBesides
import Derived.IntWalk
import Derived.Lib.Bytes
import Derived.Test.YtjkiidhnmljmbaaGreatDoorPlW
import Derived.Test.YtjkiidhnmljmbaaGreatDoorProg
set_option linter.unusedVariables false
set_option linter.unusedSimpArgs false
set_option maxRecDepth 100000
set_option maxHeartbeats 1000000
namespace Go.Proofs.YtjkiidhnmljmbaaGreatDoor
open Go.RowKit Go.Shelf Onair
attribute [local go_sem] Oper.semAt_some

abbrev gEncs (x : Fin 128 × Bool) : Array Value := #[.int .u8 (x.1.val : Int), .bool x.2]

theorem and127 (zz : Nat) (h : zz < 9223372036854775808) : ((zz % 128 : Nat) : Int) = bits BinOp.and IntKind.u64 (zz : Int) 127 % 256 := by
 have h1 := u64_and_nat zz 127 (by omega) (by omega)
 rw [show ((127 : Nat) : Int) = 127 from rfl] at h1;rw [h1, Nat.and_two_pow_sub_one_eq_mod zz 7]
 omega

theorem groups_stops (F : Fence) (n : Nat) (h25 : F.fn 91) (hro : F.round = none) (hn : 1 ≤ n) (Bn : Nat) (z : Nat) (w : World) (hBn : Bn < w.heap.size) (hz : z < 9223372036854775808)
 (hc : w.cell? ⟨Bn, 0, none⟩ = some (.int .u64 z)) :
  SeqStopsK F n Tryz.prog 91 #[.pointer (some ⟨Bn, 0, none⟩)] gEncs KeepsWalks (fun xs => xs = gF 8 z) (fun _ => True) 9 w := fun l J Jx W hW hJ hJx hY h0 => by
 have hcW : W.cell? ⟨Bn, 0, none⟩ = some (.int .u64 z) := (hW.cell (p := ⟨Bn, 0, none⟩) hBn).trans hc
 refine callsIn_of_wp Tryz.func91 rfl h25 ?_ hro
 simp only [Tryz.ntmps91, List.size_toArray, List.length_cons, List.length_nil, Nat.reduceAdd, Nat.reduceSub, Array.replicate_succ, Array.replicate_zero, List.push_toArray, List.append_toArray, List.nil_append, List.cons_append]
 gi_wp2
 gi_loopw [3] (fun r wr => ∃ (pre : List (Fin 128 × Bool)) (k zz : Nat), r = .int .u64 zz ∧ gF 8 z = pre ++ gF k zz ∧ J pre wr ∧ pre.length + k = 8 ∧ zz < 128 ^ (k + 1) ∧ zz < 9223372036854775808) (fun r _ => (intOf r).toNat)
 case atStart =>
  exact ⟨[], 8, z, rfl, rfl, h0, rfl, by omega, hz⟩
 case round =>
  obtain ⟨pre, k, zz, rfl, hx, hJs, hk, hzk, hz9⟩ := hrel
  clear hz hcW hc
  by_cases hlt : zz < 128
  ·obtain ⟨fn, tmps, assign, body, hy, hR⟩ := hY pre (⟨zz % 128, Nat.mod_lt _ (by decide)⟩, false) wr hJs (by omega)
   dsimp only [gEncs] at hy
   have hlt' : ¬ (128 : Int) ≤ (zz : Int) := by omega
   have hmod : ((zz % 128 : Nat) : Int) = (zz : Int) := by omega
   rw [hmod] at hy;clear hmod
   gi_wp2
   refine hR.mono ?_
   have HX := Lib.hid hx;clear hx
   rintro e W2 (⟨rfl, hJ2, _⟩ | ⟨rfl, hx2⟩)
   ·gi_wp2
    go_end0
    refine ⟨⟨_, rfl⟩, .inl ⟨_, ?_, hJ2⟩⟩
    rw [HX.out]
    cases k with
    | zero => rfl
    | succ k => rw [gF, if_pos hlt]
   ·gi_wp2
    go_end0
    exact ⟨⟨_, rfl⟩, .inr ⟨_, trivial, hx2⟩⟩
  ·obtain ⟨fn, tmps, assign, body, hy, hR⟩ := hY pre (⟨zz % 128, Nat.mod_lt _ (by decide)⟩, true) wr hJs (by omega)
   dsimp only [gEncs] at hy
   have hlt' : (128 : Int) ≤ (zz : Int) := by omega
   rw [and127 zz hz9] at hy
   gi_wp2
   refine hR.mono ?_
   have HX := Lib.hid hx;clear hx
   rintro e W2 (⟨rfl, hJ2, _⟩ | ⟨rfl, hx2⟩)
   ·gi_wp2
    go_roundw
    case rel =>
     cases k with
     | zero => exact absurd hzk hlt
     | succ k => exact ⟨_, k, zz / 128, by go_num, by rw [HX.out, gF, if_neg hlt]; simp, hJ2, by simp; omega, by rw [Nat.pow_succ] at hzk; exact Nat.div_lt_of_lt_mul (by rw [Nat.mul_comm]; exact hzk), by omega⟩
    case measure => simp [intOf]; omega
   ·gi_wp2
    refine bodyPost_ret (results_none rfl _ _ _) rfl ?_
    exact ⟨⟨_, rfl⟩, .inr ⟨_, trivial, hx2⟩⟩

theorem groups_in (F : Fence) (n : Nat) (h23 : F.fn 65) (hro : F.round = none) (z : Int) (w : World) :
  CallsIn F n Tryz.prog 65 #[.int .u64 z] w fun e w' => e = .returned (.func (.func 91) #[] #[.pointer (some ⟨w.heap.size, 0, none⟩)]) ∧ w' = w.alloc (.cells #[.int .u64 z] 130) := by
 refine callsIn_of_wp Tryz.func65 rfl h23 ?_ hro
 simp only [Tryz.ntmps65, List.size_toArray, List.length_cons, List.length_nil, Nat.reduceAdd, Nat.reduceSub, Array.replicate_succ, Array.replicate_zero, List.push_toArray, List.append_toArray, List.nil_append, List.cons_append]
 gi_wp2
 go_ret;exact ⟨rfl, rfl⟩

def CodeAt (W : World) (B : Nat) (l : List UInt8) : Prop := (∀ j, j < 9 → W.cell? ⟨B, j, none⟩ = some (.int .u8 ((l[j]?.getD 0).toNat : Int))) ∧ (∀ j, j < 9 → W.frozen? ⟨B, j, none⟩ = false)
theorem codeAt_own (B : Nat) (f : List (Fin 128 × Bool) → List UInt8) : Own (fun pre W => CodeAt W B (f pre)) := fun _ _ _ _ hs hg hr =>
 ⟨fun j hj => cell_kept (hs.1 j hj) hg hr, fun j hj => (frozen_kept (hs.1 j hj) hg hr).trans (hs.2 j hj)⟩
theorem codeAt_put {W : World} {B : Nat} {l : List UInt8} (h : CodeAt W B l) (b : UInt8) (hl : l.length < 9) : CodeAt (W.setCell ⟨B, l.length, none⟩ (.int .u8 (b.toNat : Int))) B (l ++ [b]) := by
 refine ⟨fun j hj => ?_, fun j hj => by rw [World.frozen?_setCell]; exact h.2 j hj⟩
 by_cases e : j = l.length
 ·subst e
  rw [World.cell?_setCell_same' _ _ _ (by rw [h.1 _ hj]; rfl)]
  simp
 ·rw [World.cell?_setCell_other _ _ _ _ (by intro h'; cases h'; exact e rfl), h.1 j hj]
  by_cases h2 : j < l.length
  ·rw [List.getElem?_append_left h2]
  ·rw [List.getElem?_eq_none (by omega), List.getElem?_eq_none (by simp; omega)]
theorem codeAt_other {W : World} {B : Nat} {l : List UInt8} (h : CodeAt W B l) (p : Addr) (hp : p.block ≠ B) (v : Value) : CodeAt (W.setCell p v) B l :=
 ⟨fun j hj => (World.cell?_setCell_other _ _ _ _ (by intro h'; subst h'; exact hp rfl)).trans (h.1 j hj), fun j hj => by rw [World.frozen?_setCell]; exact h.2 j hj⟩
theorem toNat_gByte (x : Fin 128 × Bool) : ((UInt8.ofNat (gByte x)).toNat : Int) = (gByte x : Int) := by
 have := gByte_lt x
 rw [UInt8.toNat_ofNat_of_lt' (by omega)]
theorem putL_of (x : Int) (z : Nat) (h : -4611686018427387903 ≤ x ∧ x ≤ 4611686018427387903) (hz : zig x = z) : putL x = (gF 8 z).map (fun x => UInt8.ofNat (gByte x)) := by
 unfold putL; rw [if_pos ((okInt_iff x).2 h), hz]; rfl
def gBytes (l : List (Fin 128 × Bool)) : List UInt8 := l.map (fun x => UInt8.ofNat (gByte x))
theorem gBytes_snoc (l : List (Fin 128 × Bool)) (x : Fin 128 × Bool) : gBytes (l ++ [x]) = gBytes l ++ [UInt8.ofNat (gByte x)] := by simp [gBytes]

theorem putInt_ok (F : Fence) (n : Nat) (h12 : F.fn 29) (h23 : F.fn 65) (h25 : F.fn 91) (hro : F.round = none) (hn : 3 ≤ n) (x : Int) (w : World) (hx0 : 0 ≤ x) (hx1 : x ≤ 4611686018427387903) :
  CallsIn F n Tryz.prog 29 #[.int .i64 x] w fun e w' => e = .returned (.tuple #[.string ⟨(putL x).toArray⟩, .int .i64 0]) ∧ Below w.heap.size w w' := by
 have h1 : 1 ≤ n := by omega
 obtain ⟨z, hz⟩ : ∃ z : Nat, x * 2 = (z : Int) := ⟨(x * 2).toNat, by omega⟩
 have hzp : zig x = z := by unfold zig; rw [if_neg (by omega)]; omega
 have HZ := Lib.hid hz
 have HZP : Hid (zig x = z) := Lib.hid hzp
 clear hz hzp
 refine callsIn_of_wp_marks Tryz.func29 rfl h12 ?_ hro
 simp only [Tryz.ntmps29, List.size_toArray, List.length_cons, List.length_nil, Nat.reduceAdd, Nat.reduceSub, Array.replicate_succ, Array.replicate_zero, List.push_toArray, List.append_toArray, List.nil_append, List.cons_append]
 gi_wp2_with (gi_at_call 65; refine (groups_in F (n - 1) h23 hro _ _).mono ?_; rintro e w' ⟨rfl, rfl⟩)
 rw [HZ.out]
 generalize Value.bool (decide (x < -4611686018427387903)) = b0
 generalize Value.bool (decide (4611686018427387903 < x)) = b1
 generalize Value.bool (decide (x < -4611686018427387903) || decide (4611686018427387903 < x)) = b2
 generalize Value.bool (decide (x < 0)) = b3
 have hzl : z < 9223372036854775808 := by have := HZ.out; omega
 have hB0 : Below w.heap.size w (((w.alloc (.cells #[.int .u8 0, .int .u8 0, .int .u8 0, .int .u8 0, .int .u8 0, .int .u8 0, .int .u8 0, .int .u8 0, .int .u8 0] 131)).alloc (.cells #[.int .i64 0] 3)).alloc (.cells #[.int .u64 (z : Int)] 130)) := (((Below.refl _ w).alloc (Nat.le_refl _) _).alloc (by simp) _).alloc (by simp; omega) _
 have hcap : (((w.alloc (.cells #[.int .u8 0, .int .u8 0, .int .u8 0, .int .u8 0, .int .u8 0, .int .u8 0, .int .u8 0, .int .u8 0, .int .u8 0] 131)).alloc (.cells #[.int .i64 0] 3)).alloc (.cells #[.int .u64 (z : Int)] 130)).cell? ⟨w.heap.size + 1 + 1, 0, none⟩ = some (.int .u64 (z : Int)) := by
  go_simp
 have hcode : CodeAt (((w.alloc (.cells #[.int .u8 0, .int .u8 0, .int .u8 0, .int .u8 0, .int .u8 0, .int .u8 0, .int .u8 0, .int .u8 0, .int .u8 0] 131)).alloc (.cells #[.int .i64 0] 3)).alloc (.cells #[.int .u64 (z : Int)] 130)) w.heap.size (gBytes []) := by
  refine ⟨fun j hj => ?_, fun j hj => ?_⟩
  ·match j, hj with
   | 0, _ => go_simp; rfl
   | 1, _ => go_simp; rfl
   | 2, _ => go_simp; rfl
   | 3, _ => go_simp; rfl
   | 4, _ => go_simp; rfl
   | 5, _ => go_simp; rfl
   | 6, _ => go_simp; rfl
   | 7, _ => go_simp; rfl
   | 8, _ => go_simp; rfl
  ·go_simp
 have hsz0 : (((w.alloc (.cells #[.int .u8 0, .int .u8 0, .int .u8 0, .int .u8 0, .int .u8 0, .int .u8 0, .int .u8 0, .int .u8 0, .int .u8 0] 131)).alloc (.cells #[.int .i64 0] 3)).alloc (.cells #[.int .u64 (z : Int)] 130)).cell? ⟨w.heap.size + 1, 0, none⟩ = some (.int .i64 0) := by go_simp
 have hsz1 : (((w.alloc (.cells #[.int .u8 0, .int .u8 0, .int .u8 0, .int .u8 0, .int .u8 0, .int .u8 0, .int .u8 0, .int .u8 0, .int .u8 0] 131)).alloc (.cells #[.int .i64 0] 3)).alloc (.cells #[.int .u64 (z : Int)] 130)).frozen? ⟨w.heap.size + 1, 0, none⟩ = false := by go_simp
 have hszz : (((w.alloc (.cells #[.int .u8 0, .int .u8 0, .int .u8 0, .int .u8 0, .int .u8 0, .int .u8 0, .int .u8 0, .int .u8 0, .int .u8 0] 131)).alloc (.cells #[.int .i64 0] 3)).alloc (.cells #[.int .u64 (z : Int)] 130)).heap.size = w.heap.size + 3 := by simp
 obtain ⟨W0, hW0⟩ : ∃ W0, (((w.alloc (.cells #[.int .u8 0, .int .u8 0, .int .u8 0, .int .u8 0, .int .u8 0, .int .u8 0, .int .u8 0, .int .u8 0, .int .u8 0] 131)).alloc (.cells #[.int .i64 0] 3)).alloc (.cells #[.int .u64 (z : Int)] 130)) = W0 := ⟨_, rfl⟩
 rw [hW0] at hB0 hcap hcode hsz0 hsz1 hszz ⊢
 clear hW0;have HS0 := Lib.hid hsz0;have HS1 := Lib.hid hsz1;have HCP := Lib.hid hcap;have HZZ := Lib.hid hszz
 have hszz' : w.heap.size + 3 ≤ W0.heap.size := by omega
 clear hsz0 hsz1 hcap hszz
 refine wpIn_rangeFunc_ownF hro h1 (gf := 91) (lb := #[.pointer (some ⟨w.heap.size + 1 + 1, 0, none⟩)]) rfl h25 (enters_of Tryz.func91 (by kernel_rfl) rfl)
  (groups_stops F (n - 1) h25 hro (by omega) (w.heap.size + 1 + 1) z W0 (by omega) hzl HCP.out) (fun h k => walksK_t h k) walksK_b (Below.refl _ _) (fun _ => rfl)
  (fun pre W => (CodeAt W w.heap.size (gBytes pre) ∧ W.cell? ⟨w.heap.size + 1, 0, none⟩ = some (.int .i64 (pre.length : Int)) ∧ W.frozen? ⟨w.heap.size + 1, 0, none⟩ = false) ∧ Below w.heap.size w W)
  (fun _ _ _ => False)
  (OwnFrom.and (Own.from (fun s A B row hs hg hr => ⟨codeAt_own w.heap.size gBytes s A B row hs.1 hg hr, cell_kept hs.2.1 hg hr, (frozen_kept hs.2.1 hg hr).trans hs.2.2⟩) _) (ownFrom_below (Nat.le_refl _) (by omega)))
  (fun _ _ _ _ _ hs _ _ => hs)
  ⟨⟨hcode, HS0.out, HS1.out⟩, hB0⟩
  (fun g => { tmps := #[.int .i64 x, undef, .string { data := #[] }, .int .i64 0, .int .u64 (z : Int), .pointer (some ⟨w.heap.size, 0, none⟩), .pointer (some ⟨w.heap.size + 1, 0, none⟩), .int .u8 (g.1.val : Int), .bool g.2, .int .i64 x, b0, b0, .int .i64 x, b1, b2, .int .i64 x, .int .u64 x, .int .u64 (z : Int), .int .i64 x, b3, undef, undef, undef, undef, undef, .int .u64 (z : Int), .func (.func 91) #[] #[.pointer (some ⟨w.heap.size + 1 + 1, 0, none⟩)], .int .u8 (g.1.val : Int), .bool g.2, undef, undef, undef, undef, undef, undef, undef, undef, undef, undef, undef], defers := [] }) ?assign ?body ?done ?stop
 case assign =>
  intro l x W K hK
  gi_wp2
  exact hK
 case body =>
  rintro l pre g W ⟨⟨hcd, hc, hf⟩, hB⟩ hlen
  have hk : (gBytes pre).length = pre.length := by simp [gBytes]
  have hlen' : (pre.length : Int) < 9 := by omega
  have hce := hcd.1 pre.length hlen
  have hfe := hcd.2 pre.length hlen
  obtain ⟨g1, g2⟩ := g
  have hg1 := g1.isLt
  cases g2
  ·gi_wp2
   refine ⟨?_, ?_, ⟨?_, ?_, ?_⟩, ?_⟩
   ·exact (KeepsOthers.setCell _ _ _).trans (KeepsOthers.setCell _ _ _)
   ·exact ((KeepsOthers.setCell _ _ _).trans (KeepsOthers.setCell _ _ _)).walks
   ·have h := codeAt_put hcd (UInt8.ofNat (gByte (g1, false))) (by rw [hk]; exact hlen)
    rw [hk, toNat_gByte, show ((gByte (g1, false) : Nat) : Int) = (g1.val : Int) from rfl, ← gBytes_snoc] at h
    exact codeAt_other h _ (by simp) _
   ·rw [World.cell?_setCell_same' _ _ _ (by rw [World.cell?_setCell_other _ _ _ _ (by intro h'; have := congrArg Addr.block h'; simp at this), hc]; rfl)]
    simp
   ·rw [World.frozen?_setCell, World.frozen?_setCell]; exact hf
   ·exact (hB.setCell (p := ⟨w.heap.size, pre.length, none⟩) (Nat.le_refl _) _).setCell (p := ⟨w.heap.size + 1, 0, none⟩) (by simp) _
  ·gi_wp2
   refine ⟨?_, ?_, ⟨?_, ?_, ?_⟩, ?_⟩
   ·exact (KeepsOthers.setCell _ _ _).trans (KeepsOthers.setCell _ _ _)
   ·exact ((KeepsOthers.setCell _ _ _).trans (KeepsOthers.setCell _ _ _)).walks
   ·have h := codeAt_put hcd (UInt8.ofNat (gByte (g1, true))) (by rw [hk]; exact hlen)
    rw [hk, toNat_gByte, show ((gByte (g1, true) : Nat) : Int) = (g1.val : Int) + 128 from rfl, ← gBytes_snoc] at h
    exact codeAt_other h _ (by simp) _
   ·rw [World.cell?_setCell_same' _ _ _ (by rw [World.cell?_setCell_other _ _ _ _ (by intro h'; have := congrArg Addr.block h'; simp at this), hc]; rfl)]
    simp
   ·rw [World.frozen?_setCell, World.frozen?_setCell]; exact hf
   ·exact (hB.setCell (p := ⟨w.heap.size, pre.length, none⟩) (Nat.le_refl _) _).setCell (p := ⟨w.heap.size + 1, 0, none⟩) (by simp) _
 case done =>
  rintro D ys W hD rfl ⟨⟨hcd, hc, hf⟩, hB⟩ hK
  have hlz := gF_len 8 z
  have hul : (gBytes (gF 8 z)).length = (gF 8 z).length := by simp [gBytes]
  have hconv := run_convert_bytes_back (P := Tryz.prog) W 75 9 5 ⟨w.heap.size, 0, none⟩ 9 (gBytes (gF 8 z)) Tryz.underlying75 Tryz.underlying5 Tryz.underlying9 (fun j hj => by
   have h := hcd.1 j (by omega)
   rw [List.getElem?_eq_getElem hj] at h
   rw [show ((⟨w.heap.size, 0, none⟩ : Addr).add j) = ⟨w.heap.size, j, none⟩ from by unfold Addr.add; split <;> simp_all]; simpa using h)
  rw [hul] at hconv
  obtain ⟨k, HK⟩ : ∃ k, Hid ((gF 8 z).length = k) := ⟨_, Lib.hid rfl⟩
  rw [HK.out] at hc hlz hconv
  obtain ⟨hl1, hl2⟩ := hlz
  have hl1' : (k : Int) ≤ 9 := by omega
  clear hul
  gi_wp2
  refine ⟨by simp, .inl ⟨_, _, rfl, run_takeDeferred hK, ?_⟩⟩
  refine ⟨_, by simp [results, Tryz.f29, go_sem]; rfl, ?_, hB.trans (belowK_b (w := w) (Nat.le_refl _) W D _ _ (by omega) hK rfl rfl)⟩
  rw [putL_of x z (by have := HZ.out; omega) HZP]
  rfl
 case stop =>
  rintro D c pre W _ _ h _;exact h.elim
theorem putInt_neg (F : Fence) (n : Nat) (h12 : F.fn 29) (h23 : F.fn 65) (h25 : F.fn 91) (hro : F.round = none) (hn : 3 ≤ n) (x : Int) (w : World) (hx0 : -4611686018427387903 ≤ x) (hx1 : x < 0) :
  CallsIn F n Tryz.prog 29 #[.int .i64 x] w fun e w' => e = .returned (.tuple #[.string ⟨(putL x).toArray⟩, .int .i64 0]) ∧ Below w.heap.size w w' := by
 have h1 : 1 ≤ n := by omega
 obtain ⟨z, hz⟩ : ∃ z : Nat, -x * 2 - 1 = (z : Int) := ⟨(-x * 2 - 1).toNat, by omega⟩
 have hzp : zig x = z := by unfold zig; rw [if_pos (by omega)]; omega
 have HZ := Lib.hid hz
 have HZP : Hid (zig x = z) := Lib.hid hzp
 clear hz hzp
 refine callsIn_of_wp_marks Tryz.func29 rfl h12 ?_ hro
 simp only [Tryz.ntmps29, List.size_toArray, List.length_cons, List.length_nil, Nat.reduceAdd, Nat.reduceSub, Array.replicate_succ, Array.replicate_zero, List.push_toArray, List.append_toArray, List.nil_append, List.cons_append]
 gi_wp2_with (gi_at_call 65; refine (groups_in F (n - 1) h23 hro _ _).mono ?_; rintro e w' ⟨rfl, rfl⟩)
 rw [HZ.out]
 generalize Value.bool (decide (x < -4611686018427387903)) = b0
 generalize Value.bool (decide (4611686018427387903 < x)) = b1
 generalize Value.bool (decide (x < -4611686018427387903) || decide (4611686018427387903 < x)) = b2
 have hzl : z < 9223372036854775808 := by have := HZ.out; omega
 have hB0 : Below w.heap.size w (((w.alloc (.cells #[.int .u8 0, .int .u8 0, .int .u8 0, .int .u8 0, .int .u8 0, .int .u8 0, .int .u8 0, .int .u8 0, .int .u8 0] 131)).alloc (.cells #[.int .i64 0] 3)).alloc (.cells #[.int .u64 (z : Int)] 130)) := (((Below.refl _ w).alloc (Nat.le_refl _) _).alloc (by simp) _).alloc (by simp; omega) _
 have hcap : (((w.alloc (.cells #[.int .u8 0, .int .u8 0, .int .u8 0, .int .u8 0, .int .u8 0, .int .u8 0, .int .u8 0, .int .u8 0, .int .u8 0] 131)).alloc (.cells #[.int .i64 0] 3)).alloc (.cells #[.int .u64 (z : Int)] 130)).cell? ⟨w.heap.size + 1 + 1, 0, none⟩ = some (.int .u64 (z : Int)) := by
  go_simp
 have hcode : CodeAt (((w.alloc (.cells #[.int .u8 0, .int .u8 0, .int .u8 0, .int .u8 0, .int .u8 0, .int .u8 0, .int .u8 0, .int .u8 0, .int .u8 0] 131)).alloc (.cells #[.int .i64 0] 3)).alloc (.cells #[.int .u64 (z : Int)] 130)) w.heap.size (gBytes []) := by
  refine ⟨fun j hj => ?_, fun j hj => ?_⟩
  ·match j, hj with
   | 0, _ => go_simp; rfl
   | 1, _ => go_simp; rfl
   | 2, _ => go_simp; rfl
   | 3, _ => go_simp; rfl
   | 4, _ => go_simp; rfl
   | 5, _ => go_simp; rfl
   | 6, _ => go_simp; rfl
   | 7, _ => go_simp; rfl
   | 8, _ => go_simp; rfl
  ·go_simp
 have hsz0 : (((w.alloc (.cells #[.int .u8 0, .int .u8 0, .int .u8 0, .int .u8 0, .int .u8 0, .int .u8 0, .int .u8 0, .int .u8 0, .int .u8 0] 131)).alloc (.cells #[.int .i64 0] 3)).alloc (.cells #[.int .u64 (z : Int)] 130)).cell? ⟨w.heap.size + 1, 0, none⟩ = some (.int .i64 0) := by go_simp
 have hsz1 : (((w.alloc (.cells #[.int .u8 0, .int .u8 0, .int .u8 0, .int .u8 0, .int .u8 0, .int .u8 0, .int .u8 0, .int .u8 0, .int .u8 0] 131)).alloc (.cells #[.int .i64 0] 3)).alloc (.cells #[.int .u64 (z : Int)] 130)).frozen? ⟨w.heap.size + 1, 0, none⟩ = false := by go_simp
 have hszz : (((w.alloc (.cells #[.int .u8 0, .int .u8 0, .int .u8 0, .int .u8 0, .int .u8 0, .int .u8 0, .int .u8 0, .int .u8 0, .int .u8 0] 131)).alloc (.cells #[.int .i64 0] 3)).alloc (.cells #[.int .u64 (z : Int)] 130)).heap.size = w.heap.size + 3 := by simp
 obtain ⟨W0, hW0⟩ : ∃ W0, (((w.alloc (.cells #[.int .u8 0, .int .u8 0, .int .u8 0, .int .u8 0, .int .u8 0, .int .u8 0, .int .u8 0, .int .u8 0, .int .u8 0] 131)).alloc (.cells #[.int .i64 0] 3)).alloc (.cells #[.int .u64 (z : Int)] 130)) = W0 := ⟨_, rfl⟩
 rw [hW0] at hB0 hcap hcode hsz0 hsz1 hszz ⊢
 clear hW0;have HS0 := Lib.hid hsz0;have HS1 := Lib.hid hsz1;have HCP := Lib.hid hcap;have HZZ := Lib.hid hszz
 have hszz' : w.heap.size + 3 ≤ W0.heap.size := by omega
 clear hsz0 hsz1 hcap hszz
 refine wpIn_rangeFunc_ownF hro h1 (gf := 91) (lb := #[.pointer (some ⟨w.heap.size + 1 + 1, 0, none⟩)]) rfl h25 (enters_of Tryz.func91 (by kernel_rfl) rfl)
  (groups_stops F (n - 1) h25 hro (by omega) (w.heap.size + 1 + 1) z W0 (by omega) hzl HCP.out) (fun h k => walksK_t h k) walksK_b (Below.refl _ _) (fun _ => rfl)
  (fun pre W => (CodeAt W w.heap.size (gBytes pre) ∧ W.cell? ⟨w.heap.size + 1, 0, none⟩ = some (.int .i64 (pre.length : Int)) ∧ W.frozen? ⟨w.heap.size + 1, 0, none⟩ = false) ∧ Below w.heap.size w W)
  (fun _ _ _ => False)
  (OwnFrom.and (Own.from (fun s A B row hs hg hr => ⟨codeAt_own w.heap.size gBytes s A B row hs.1 hg hr, cell_kept hs.2.1 hg hr, (frozen_kept hs.2.1 hg hr).trans hs.2.2⟩) _) (ownFrom_below (Nat.le_refl _) (by omega)))
  (fun _ _ _ _ _ hs _ _ => hs)
  ⟨⟨hcode, HS0.out, HS1.out⟩, hB0⟩
  (fun g => { tmps := #[.int .i64 x, undef, .string { data := #[] }, .int .i64 0, .int .u64 (z : Int), .pointer (some ⟨w.heap.size, 0, none⟩), .pointer (some ⟨w.heap.size + 1, 0, none⟩), .int .u8 (g.1.val : Int), .bool g.2, .int .i64 x, b0, b0, .int .i64 x, b1, b2, .int .i64 x, .int .u64 (IntKind.u64.wrap x), .int .u64 (IntKind.u64.wrap (IntKind.u64.wrap x * 2)), .int .i64 x, .bool true, .int .i64 x, .int .i64 (-x), .int .u64 (-x), .int .u64 (-x * 2), .int .u64 (z : Int), .int .u64 (z : Int), .func (.func 91) #[] #[.pointer (some ⟨w.heap.size + 1 + 1, 0, none⟩)], .int .u8 (g.1.val : Int), .bool g.2, undef, undef, undef, undef, undef, undef, undef, undef, undef, undef, undef], defers := [] }) ?assign ?body ?done ?stop
 case assign =>
  intro l x W K hK
  gi_wp2
  exact hK
 case body =>
  rintro l pre g W ⟨⟨hcd, hc, hf⟩, hB⟩ hlen
  have hk : (gBytes pre).length = pre.length := by simp [gBytes]
  have hlen' : (pre.length : Int) < 9 := by omega
  have hce := hcd.1 pre.length hlen
  have hfe := hcd.2 pre.length hlen
  obtain ⟨g1, g2⟩ := g
  have hg1 := g1.isLt
  cases g2
  ·gi_wp2
   refine ⟨?_, ?_, ⟨?_, ?_, ?_⟩, ?_⟩
   ·exact (KeepsOthers.setCell _ _ _).trans (KeepsOthers.setCell _ _ _)
   ·exact ((KeepsOthers.setCell _ _ _).trans (KeepsOthers.setCell _ _ _)).walks
   ·have h := codeAt_put hcd (UInt8.ofNat (gByte (g1, false))) (by rw [hk]; exact hlen)
    rw [hk, toNat_gByte, show ((gByte (g1, false) : Nat) : Int) = (g1.val : Int) from rfl, ← gBytes_snoc] at h
    exact codeAt_other h _ (by simp) _
   ·rw [World.cell?_setCell_same' _ _ _ (by rw [World.cell?_setCell_other _ _ _ _ (by intro h'; have := congrArg Addr.block h'; simp at this), hc]; rfl)]
    simp
   ·rw [World.frozen?_setCell, World.frozen?_setCell]; exact hf
   ·exact (hB.setCell (p := ⟨w.heap.size, pre.length, none⟩) (Nat.le_refl _) _).setCell (p := ⟨w.heap.size + 1, 0, none⟩) (by simp) _
  ·gi_wp2
   refine ⟨?_, ?_, ⟨?_, ?_, ?_⟩, ?_⟩
   ·exact (KeepsOthers.setCell _ _ _).trans (KeepsOthers.setCell _ _ _)
   ·exact ((KeepsOthers.setCell _ _ _).trans (KeepsOthers.setCell _ _ _)).walks
   ·have h := codeAt_put hcd (UInt8.ofNat (gByte (g1, true))) (by rw [hk]; exact hlen)
    rw [hk, toNat_gByte, show ((gByte (g1, true) : Nat) : Int) = (g1.val : Int) + 128 from rfl, ← gBytes_snoc] at h
    exact codeAt_other h _ (by simp) _
   ·rw [World.cell?_setCell_same' _ _ _ (by rw [World.cell?_setCell_other _ _ _ _ (by intro h'; have := congrArg Addr.block h'; simp at this), hc]; rfl)]
    simp
   ·rw [World.frozen?_setCell, World.frozen?_setCell]; exact hf
   ·exact (hB.setCell (p := ⟨w.heap.size, pre.length, none⟩) (Nat.le_refl _) _).setCell (p := ⟨w.heap.size + 1, 0, none⟩) (by simp) _
 case done =>
  rintro D ys W hD rfl ⟨⟨hcd, hc, hf⟩, hB⟩ hK
  have hlz := gF_len 8 z
  have hul : (gBytes (gF 8 z)).length = (gF 8 z).length := by simp [gBytes]
  have hconv := run_convert_bytes_back (P := Tryz.prog) W 75 9 5 ⟨w.heap.size, 0, none⟩ 9 (gBytes (gF 8 z)) Tryz.underlying75 Tryz.underlying5 Tryz.underlying9 (fun j hj => by
   have h := hcd.1 j (by omega)
   rw [List.getElem?_eq_getElem hj] at h
   rw [show ((⟨w.heap.size, 0, none⟩ : Addr).add j) = ⟨w.heap.size, j, none⟩ from by unfold Addr.add; split <;> simp_all]; simpa using h)
  rw [hul] at hconv
  obtain ⟨k, HK⟩ : ∃ k, Hid ((gF 8 z).length = k) := ⟨_, Lib.hid rfl⟩
  rw [HK.out] at hc hlz hconv
  obtain ⟨hl1, hl2⟩ := hlz
  have hl1' : (k : Int) ≤ 9 := by omega
  clear hul
  gi_wp2
  refine ⟨by simp, .inl ⟨_, _, rfl, run_takeDeferred hK, ?_⟩⟩
  refine ⟨_, by simp [results, Tryz.f29, go_sem]; rfl, ?_, hB.trans (belowK_b (w := w) (Nat.le_refl _) W D _ _ (by omega) hK rfl rfl)⟩
  rw [putL_of x z (by have := HZ.out; omega) HZP]
  rfl
 case stop =>
  rintro D c pre W _ _ h _;exact h.elim

theorem putInt_lo (F : Fence) (n : Nat) (h12 : F.fn 29) (hro : F.round = none) (x : Int) (w : World) (hx : x < -4611686018427387903) :
  CallsIn F n Tryz.prog 29 #[.int .i64 x] w fun e w' => e = .returned (.tuple #[.string ⟨#[]⟩, .int .i64 10]) ∧ w = w' := by
 refine callsIn_of_wp Tryz.func29 rfl h12 ?_ hro
 simp only [Tryz.ntmps29, List.size_toArray, List.length_cons, List.length_nil, Nat.reduceAdd, Nat.reduceSub, Array.replicate_succ, Array.replicate_zero, List.push_toArray, List.append_toArray, List.nil_append, List.cons_append]
 gi_wp2
 go_ret2
 exact ⟨rfl, rfl⟩
theorem putInt_hi (F : Fence) (n : Nat) (h12 : F.fn 29) (hro : F.round = none) (x : Int) (w : World) (hx : 4611686018427387903 < x) :
  CallsIn F n Tryz.prog 29 #[.int .i64 x] w fun e w' => e = .returned (.tuple #[.string ⟨#[]⟩, .int .i64 10]) ∧ w = w' := by
 refine callsIn_of_wp Tryz.func29 rfl h12 ?_ hro
 simp only [Tryz.ntmps29, List.size_toArray, List.length_cons, List.length_nil, Nat.reduceAdd, Nat.reduceSub, Array.replicate_succ, Array.replicate_zero, List.push_toArray, List.append_toArray, List.nil_append, List.cons_append]
 gi_wp2
 go_ret2
 exact ⟨rfl, rfl⟩
theorem putInt_in (F : Fence) (n : Nat) (h12 : F.fn 29) (h23 : F.fn 65) (h25 : F.fn 91) (hro : F.round = none) (hn : 3 ≤ n) (x : Int) (w : World) :
  CallsIn F n Tryz.prog 29 #[.int .i64 x] w fun e w' => e = .returned (.tuple #[.string ⟨(putL x).toArray⟩, .int .i64 (putE x)]) ∧ Below w.heap.size w w' := by
 by_cases hok : -4611686018427387903 ≤ x ∧ x ≤ 4611686018427387903
 ·have he : putE x = 0 := by unfold putE; rw [if_pos ((okInt_iff x).2 hok)]
  rw [he]
  by_cases h0 : 0 ≤ x
  ·exact putInt_ok F n h12 h23 h25 hro hn x w h0 hok.2
  ·exact putInt_neg F n h12 h23 h25 hro hn x w hok.1 (by omega)
 ·have hok' : okInt x = false := by rw [Bool.eq_false_iff]; intro h; exact hok ((okInt_iff x).1 h)
  have he : putE x = 10 := by unfold putE; rw [hok']; rfl
  have hl : putL x = [] := by unfold putL; rw [hok']; rfl
  rw [he, hl]
  by_cases h0 : x < -4611686018427387903
  ·exact (putInt_lo F n h12 hro x w h0).mono fun e w' ⟨he, hw⟩ => ⟨he, hw ▸ Below.refl _ _⟩
  ·exact (putInt_hi F n h12 hro x w (by omega)).mono fun e w' ⟨he, hw⟩ => ⟨he, hw ▸ Below.refl _ _⟩
theorem putInt_any (x : Int) (w : World) :
  Calls Tryz.prog 29 #[.int .i64 x] w fun e w' => e = .returned (.tuple #[.string ⟨(putL x).toArray⟩, .int .i64 (putE x)]) ∧ Below w.heap.size w w' :=
 callsIn_wide.1 (putInt_in Fence.wide 3 trivial trivial trivial rfl (Nat.le_refl _) x w)
open Go.RowKit Onair
theorem or_bits (k zz b zn : Nat) (hk : k < 9) (hb : b < 256) (hz : zz < 128 ^ k) (hzn : zz + b % 128 * 128 ^ k = zn) :
  bits BinOp.or IntKind.u64 (zz : Int) (IntKind.u64.wrap (IntKind.u64.wrap (bits BinOp.and IntKind.u8 (b : Int) 127) * 2 ^ (7 * k))) = (zn : Int) := by
 have hp := pow_bound (b := b) hk hz
 rw [u8_and127 (x := (b : Int)) (by omega) (by omega)]
 have e : (128 : Nat) ^ k = 2 ^ (7 * k) := by rw [Nat.pow_mul]
 have w1 : IntKind.u64.wrap ((b : Int) % 128) = ((b % 128 : Nat) : Int) := by
  rw [IntWalk.u64_in _ (by omega)]; omega
 rw [w1]
 have w2 : (((b % 128 : Nat) : Int) * 2 ^ (7 * k)) = ((b % 128 * 2 ^ (7 * k) : Nat) : Int) := by
  simp
 rw [w2, IntWalk.u64_in _ (by rw [← e]; omega)]
 rw [u64_or_nat _ _ (by omega) (by rw [← e]; omega), or_add hz, hzn]
theorem ret3_int {k1 k2 k3 : IntKind} {a a' b b' c c' : Int} (h1 : a = a') (h2 : b = b') (h3 : c = c') : Ending.returned (.tuple #[.int k1 a, .int k2 b, .int k3 c]) = .returned (.tuple #[.int k1 a', .int k2 b', .int k3 c']) := by rw [h1, h2, h3]
theorem drop_cons (s : ByteArray) (j : Nat) (h : j < s.size) : s.data.toList.drop j = s[j] :: s.data.toList.drop (j + 1) := by
 rw [List.drop_eq_getElem_cons (by simpa using h)]; rfl
theorem len_data (s : ByteArray) : s.data.toList.length = s.size := by simp
theorem int_at (s : ByteArray) (a : Nat) (w : World) (hs : s.size ≤ maxLen) (ha : a ≤ s.size) :
  Calls Tryz.prog 75 #[.string s, .int .i64 a] w fun e w' => e = .returned (.tuple #[.int .i64 (intR s.data.toList a).1, .int .i64 (intR s.data.toList a).2.1, .int .i64 (intR s.data.toList a).2.2]) ∧ w = w' := by
 unfold maxLen at hs
 have hal : a ≤ s.data.toList.length := by rw [len_data]; exact ha
 have hd1 : decide ((a : Int) < 0) = false := by simp
 have hd2 : decide (s.size < a) = false := by simp; omega
 go_enter Tryz.func75, Tryz.ntmps75
 go_wp2
 go_loop [7, 8] (fun z i => ∃ k zz : Nat, k ≤ 9 ∧ a + k ≤ s.size ∧ i = .int .i64 k ∧ z = .int .u64 zz ∧ zz < 128 ^ k ∧ Hid (decI (9 - k) k zz (s.data.toList.drop (a + k)) = decI 9 0 0 (s.data.toList.drop a))) (fun _ i => 9 - (intOf i).toNat)
 case atStart => exact ⟨0, 0, by omega, by omega, rfl, rfl, by omega, Lib.hid rfl⟩
 case round =>
  obtain ⟨k, zz, hk, hak, rfl, rfl, hz, HD⟩ := hrel
  by_cases h9 : k = 9
  ·subst h9
   go_wp2
   go_ret3
   rw [intR_none hal (by rw [← HD.out]; rfl)]
   exact ⟨rfl, rfl⟩
  ·by_cases he : a + k = s.size
   ·have he' : ¬ ((a : Int) + k < s.size) := by omega
    have hk9 : (k : Int) < 9 := by omega
    have HN : Hid (intR s.data.toList a = (0, 0, 10)) := intR_none hal (by rw [← HD.out, he, List.drop_of_length_le (by simp), show 9 - k = (8 - k) + 1 from by omega, decI])
    clear he
    go_wp2
    go_ret3
    rw [HN.out];exact ⟨rfl, rfl⟩
   ·have he' : ((a : Int) + k < s.size) := by omega
    have hk9 : (k : Int) < 9 := by omega
    have hk9' : k < 9 := by omega
    have hlt : a + k < s.size := by omega
    obtain ⟨zn, hzn⟩ : ∃ zn, zz + s[a + k].toNat % 128 * 128 ^ k = zn := ⟨_, rfl⟩
    have hb := s[a + k].toNat_lt
    have hp := pow_bound (b := s[a + k].toNat) hk9' hz
    rw [hzn] at hp
    obtain ⟨hp1, hp2⟩ := hp
    have hor := or_bits k zz s[a + k].toNat zn hk9' (by omega) hz hzn
    have hd2 := decI_step k zz hk9' s[a + k] (s.data.toList.drop (a + k + 1)) zn hzn
    rw [← drop_cons s (a + k) hlt, HD.out] at hd2;have HD2 := Lib.hid hd2;clear hd2;clear hzn HD hz
    by_cases hb1 : 128 ≤ s[a + k].toNat
    ·go_wp2
     go_round
     case rel => exact ⟨k + 1, zn, by omega, by omega, by go_num, rfl, hp1, by have := HD2.out; rw [if_pos hb1] at this; exact this.symm⟩
     case measure => simp [intOf]; omega
    ·by_cases hb0 : s[a + k].toNat = 0 ∧ 0 < k
     ·have HN : Hid (intR s.data.toList a = (0, 0, 10)) := intR_none hal (by rw [HD2.out, if_neg hb1, if_pos hb0])
      obtain ⟨hb0, hk0⟩ := hb0
      go_wp2
      go_ret3
      rw [HN.out];exact ⟨rfl, rfl⟩
     ·by_cases hlo : unzig zn < -4611686018427387903
      ·have HN : Hid (intR s.data.toList a = (0, 0, 10)) := intR_none hal (by rw [HD2.out, if_neg hb1, if_neg hb0, if_pos hlo])
       have hb0' : ¬ (((s[a + k].toNat : Int) = 0) ∧ 0 < (k : Int)) := by omega
       have hodd : zn % 2 = 1 := by
        rcases Nat.mod_two_eq_zero_or_one zn with h | h
        ·rw [unzig_even h] at hlo; omega
        ·exact h
       rw [unzig_odd hodd] at hlo
       by_cases hbz : s[a + k].toNat = 0
       ·rw [hbz, show ((0 : Nat) : Int) = 0 from rfl] at hor
        go_wp2
        go_ret3
        rw [HN.out];exact ⟨rfl, rfl⟩
       ·go_wp2
        go_ret3
        rw [HN.out];exact ⟨rfl, rfl⟩
      ·have HN : Hid (intR s.data.toList a = (unzig zn, (a : Int) + ((k + 1 : Nat) : Int), 0)) := intR_some hal (by rw [HD2.out, if_neg hb1, if_neg hb0, if_neg hlo])
       have hb0' : ¬ (((s[a + k].toNat : Int) = 0) ∧ 0 < (k : Int)) := by omega
       rcases Nat.mod_two_eq_zero_or_one zn with h | h
       ·rw [unzig_even h] at hlo HN
        by_cases hbz : s[a + k].toNat = 0
        ·rw [hbz, show ((0 : Nat) : Int) = 0 from rfl] at hor
         go_wp2
         go_ret3
         rw [HN.out]
         exact ⟨ret3_int (by simp) (by simp; omega) rfl, rfl⟩
        ·go_wp2
         go_ret3
         rw [HN.out]
         exact ⟨ret3_int (by simp) (by simp; omega) rfl, rfl⟩
       ·rw [unzig_odd h] at hlo HN
        by_cases hbz : s[a + k].toNat = 0
        ·rw [hbz, show ((0 : Nat) : Int) = 0 from rfl] at hor
         go_wp2
         go_ret3
         rw [HN.out]
         exact ⟨ret3_int (by simp) (by simp; omega) rfl, rfl⟩
        ·go_wp2
         go_ret3
         rw [HN.out]
         exact ⟨ret3_int (by simp) (by simp; omega) rfl, rfl⟩

theorem int_arg (s : ByteArray) (a : Int) (w : World) (hs : s.size ≤ maxLen) (ha : a < 0 ∨ (s.size : Int) < a) :
  Calls Tryz.prog 75 #[.string s, .int .i64 a] w fun e w' => e = .returned (.tuple #[.int .i64 0, .int .i64 0, .int .i64 2]) ∧ w = w' := by
 unfold maxLen at hs
 by_cases h0 : a < 0
 ·clear ha
  go_enter Tryz.func75, Tryz.ntmps75
  go_wp2
  go_ret3
  exact ⟨rfl, rfl⟩
 ·have h1 : (s.size : Int) < a := by omega
  clear ha
  go_enter Tryz.func75, Tryz.ntmps75
  go_wp2
  go_ret3
  exact ⟨rfl, rfl⟩
theorem int_any (s : ByteArray) (a : Int) (w : World) (hs : s.size ≤ maxLen) :
  Calls Tryz.prog 75 #[.string s, .int .i64 a] w fun e w' => e = .returned (.tuple #[.int .i64 (intR s.data.toList a).1, .int .i64 (intR s.data.toList a).2.1, .int .i64 (intR s.data.toList a).2.2]) ∧ w = w' := by
 by_cases h : a < 0 ∨ (s.size : Int) < a
 ·rw [intR_arg (by rw [len_data]; exact h)]
  exact int_arg s a w hs h
 ·obtain ⟨n, rfl⟩ : ∃ n : Nat, a = n := ⟨a.toNat, by omega⟩
  exact int_at s n w hs (by omega)
open Go.RowKit Onair
theorem putString_any (s : ByteArray) (w : World) (hs : s.size ≤ maxLen) :
  Calls Tryz.prog 32 #[.string s] w fun e w' => e = .returned (.tuple #[.string ⟨(putSL s.data.toList).toArray⟩, .int .i64 (putSE s.data.toList)]) ∧ Below w.heap.size w w' := by
 unfold maxLen at hs
 have hl := len_data s
 by_cases h : 65536 < s.size
 ·have e1 : putSL s.data.toList = [] := by unfold putSL; rw [hl, if_pos h]
  have e2 : putSE s.data.toList = 10 := by unfold putSE; rw [hl, if_pos h]
  rw [e1, e2];clear e1 e2 hl
  go_enter Tryz.func32, Tryz.ntmps32
  go_wp2
  go_ret2
  exact ⟨rfl, Below.refl _ _⟩
 ·have e1 : putSL s.data.toList = putL (s.size : Int) ++ s.data.toList := by unfold putSL; rw [hl, if_neg h]
  have e2 : putSE s.data.toList = 0 := by unfold putSE; rw [hl, if_neg h]
  have e3 := putE_len s.size (by omega)
  have hpl := putL_len (s.size : Int)
  rw [e1, e2];clear e1 e2 hl;have E3 := Lib.hid e3;clear e3
  go_enter Tryz.func32, Tryz.ntmps32
  go_wp2_with (go_at_call 29; refine (putInt_any _ _).mono ?_; rw [E3.out]; rintro e w' ⟨rfl, hb⟩)
  go_ret2
  exact ⟨by rw [append_list]; rfl, hb⟩
theorem string_any (s : ByteArray) (a : Int) (w : World) (hs : s.size ≤ maxLen) :
  Calls Tryz.prog 76 #[.string s, .int .i64 a] w fun e w' => e = .returned (.tuple #[.string ⟨(strR s.data.toList a).1.toArray⟩, .int .i64 (strR s.data.toList a).2.1, .int .i64 (strR s.data.toList a).2.2]) ∧ w = w' := by
 have hs' := hs
 unfold maxLen at hs
 have hl := len_data s
 obtain ⟨n, x, e, hr⟩ : ∃ n x e, intR s.data.toList a = (n, x, e) := ⟨_, _, _, rfl⟩
 have hok : e = 0 → 0 ≤ a ∧ a < x ∧ x ≤ s.size ∧ -4611686018427387903 ≤ n ∧ n ≤ 4611686018427387903 := by
  have := intR_ok (l := s.data.toList) (a := a); rw [hr, hl] at this; exact this
 by_cases he : e = 0
 ·subst he
  obtain ⟨h0, h1, h2, h3, h4⟩ := hok rfl
  by_cases hb : n < 0 ∨ 65536 < n ∨ (s.size : Int) - x < n
  ·have e1 := strR_bad (l := s.data.toList) (a := a) (by rw [hr]) (by rw [hr, hl]; exact hb)
   rw [e1];clear e1 hl hok;have HR := Lib.hid hr;clear hr
   by_cases hb1 : n < 0
   ·clear hb
    go_enter Tryz.func76, Tryz.ntmps76
    go_wp2_with (go_at_call 75; refine (int_any _ _ _ hs').mono ?_; rw [HR.out]; rintro e w' ⟨rfl, rfl⟩)
    go_ret3
    exact ⟨rfl, rfl⟩
   ·by_cases hb2 : 65536 < n
    ·clear hb
     go_enter Tryz.func76, Tryz.ntmps76
     go_wp2_with (go_at_call 75; refine (int_any _ _ _ hs').mono ?_; rw [HR.out]; rintro e w' ⟨rfl, rfl⟩)
     go_ret3
     exact ⟨rfl, rfl⟩
    ·have hb3 : (s.size : Int) - x < n := by omega
     clear hb
     go_enter Tryz.func76, Tryz.ntmps76
     go_wp2_with (go_at_call 75; refine (int_any _ _ _ hs').mono ?_; rw [HR.out]; rintro e w' ⟨rfl, rfl⟩)
     go_ret3
     exact ⟨rfl, rfl⟩
  ·have e1 := strR_good (l := s.data.toList) (a := a) (by rw [hr]) (by rw [hr, hl]; exact hb)
   rw [hr] at e1
   obtain ⟨nn, rfl⟩ : ∃ m : Nat, n = m := ⟨n.toNat, by omega⟩
   obtain ⟨xx, rfl⟩ : ∃ m : Nat, x = m := ⟨x.toNat, by omega⟩
   have hb1 : (nn : Int) ≤ 65536 := by omega
   have hb2 : (nn : Int) ≤ (s.size : Int) - xx := by omega
   have hb3 : (xx : Int) + nn ≤ (s.size : Int) := by omega
   simp only [Int.toNat_natCast] at e1
   rw [e1];clear e1 hl hok hb;have HR := Lib.hid hr;clear hr
   go_enter Tryz.func76, Tryz.ntmps76
   go_wp2_with (go_at_call 75; refine (int_any _ _ _ hs').mono ?_; rw [HR.out]; rintro e w' ⟨rfl, rfl⟩)
   go_ret3
   exact ⟨by rw [extract_list]; rfl, rfl⟩
 ·rw [strR_err (by rw [hr]; exact he), hr]
  clear hok hl;have HR := Lib.hid hr;clear hr
  go_enter Tryz.func76, Tryz.ntmps76
  go_wp2_with (go_at_call 75; refine (int_any _ _ _ hs').mono ?_; rw [HR.out]; rintro e w' ⟨rfl, rfl⟩)
  go_ret3
  exact ⟨rfl, rfl⟩
end Go.Proofs.YtjkiidhnmljmbaaGreatDoor
