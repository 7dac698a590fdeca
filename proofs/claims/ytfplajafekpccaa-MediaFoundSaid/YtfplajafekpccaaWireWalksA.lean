/-
  The walk of wire.PutInt: the iterator 'groups' has its contract, PutInt its own.
-/
import Derived.RangeFuncNested
import Derived.RangeFuncBound
import Derived.RangeFuncCalls
import Derived.RangeFuncLeaves
import Derived.Shelf.Abstract
import Derived.Shelf.RegionOpen
import Derived.WalkKit
import Derived.OwnWalkIn
import Derived.TacticsInMore
import Derived.LoopNIn
import Derived.LoopIn
import Derived.Laws.BitsAllLaws
import Derived.Lib.Hide
import Derived.Test.YtfplajafekpccaaWirePlain
import Derived.Test.YtfplajafekpccaaProg
set_option linter.unusedVariables false
set_option linter.unusedSimpArgs false
namespace Go.Proofs.Ytfplajafekpccaa
open Go.RowKit Go.Shelf Onair
attribute [local go_sem] Oper.semAt_some

abbrev gEncs (x : Fin 128 × Bool) : Array Value := #[.int .u8 (x.1.val : Int), .bool x.2]

theorem and127 (zz : Nat) (h : zz < 9223372036854775808) : ((zz % 128 : Nat) : Int) = bits BinOp.and IntKind.u64 (zz : Int) 127 % 256 := by
  have h1 := u64_and_nat zz 127 (by omega) (by omega)
  rw [show ((127 : Nat) : Int) = 127 from rfl] at h1
  rw [h1, Nat.and_two_pow_sub_one_eq_mod zz 7]
  omega

set_option maxHeartbeats 400000 in
theorem groups_stops (F : Fence) (n : Nat) (h25 : F.fn 57) (hro : F.round = none) (hn : 1 ≤ n) (Bn : Nat) (z : Nat) (w : World) (hBn : Bn < w.heap.size) (hz : z < 9223372036854775808)
   (hc : w.cell? ⟨Bn, 0, none⟩ = some (.int .u64 z)) :
    SeqStopsK F n Try.prog 57 #[.pointer (some ⟨Bn, 0, none⟩)] gEncs KeepsWalks (fun xs => xs = gF 8 z) (fun _ => True) 9 w := fun l J Jx W hW hJ hJx hY h0 => by
  have hcW : W.cell? ⟨Bn, 0, none⟩ = some (.int .u64 z) := (hW.cell (p := ⟨Bn, 0, none⟩) hBn).trans hc
  refine callsIn_of_wp Try.func57 rfl h25 ?_ hro
  simp only [Try.ntmps57, List.size_toArray, List.length_cons, List.length_nil, Nat.reduceAdd, Nat.reduceSub, Array.replicate_succ, Array.replicate_zero, List.push_toArray, List.append_toArray, List.nil_append, List.cons_append]
  gi_wp2
  gi_loopw [3] (fun r wr => ∃ (pre : List (Fin 128 × Bool)) (k zz : Nat), r = .int .u64 zz ∧ gF 8 z = pre ++ gF k zz ∧ J pre wr ∧ pre.length + k = 8 ∧ zz < 128 ^ (k + 1) ∧ zz < 9223372036854775808) (fun r _ => (intOf r).toNat)
  case atStart =>
    exact ⟨[], 8, z, rfl, rfl, h0, rfl, by omega, hz⟩
  case round =>
    obtain ⟨pre, k, zz, rfl, hx, hJs, hk, hzk, hz9⟩ := hrel
    clear hz hcW hc
    by_cases hlt : zz < 128
    · obtain ⟨fn, tmps, assign, body, hy, hR⟩ := hY pre (⟨zz % 128, Nat.mod_lt _ (by decide)⟩, false) wr hJs (by omega)
      dsimp only [gEncs] at hy
      have hlt' : ¬ (128 : Int) ≤ (zz : Int) := by omega
      have hmod : ((zz % 128 : Nat) : Int) = (zz : Int) := by omega
      rw [hmod] at hy
      clear hmod
      gi_wp2
      refine hR.mono ?_
      have HX := Lib.hid hx
      clear hx
      rintro e W2 (⟨rfl, hJ2, _⟩ | ⟨rfl, hx2⟩)
      · gi_wp2
        go_end0
        refine ⟨⟨_, rfl⟩, .inl ⟨_, ?_, hJ2⟩⟩
        rw [HX.out]
        cases k with
        | zero => rfl
        | succ k => rw [gF, if_pos hlt]
      · gi_wp2
        go_end0
        exact ⟨⟨_, rfl⟩, .inr ⟨_, trivial, hx2⟩⟩
    · obtain ⟨fn, tmps, assign, body, hy, hR⟩ := hY pre (⟨zz % 128, Nat.mod_lt _ (by decide)⟩, true) wr hJs (by omega)
      dsimp only [gEncs] at hy
      have hlt' : (128 : Int) ≤ (zz : Int) := by omega
      rw [and127 zz hz9] at hy
      gi_wp2
      refine hR.mono ?_
      have HX := Lib.hid hx
      clear hx
      rintro e W2 (⟨rfl, hJ2, _⟩ | ⟨rfl, hx2⟩)
      · gi_wp2
        go_roundw
        case rel =>
          cases k with
          | zero => exact absurd hzk hlt
          | succ k => exact ⟨_, k, zz / 128, by go_num, by rw [HX.out, gF, if_neg hlt]; simp, hJ2, by simp; omega, by rw [Nat.pow_succ] at hzk; exact Nat.div_lt_of_lt_mul (by rw [Nat.mul_comm]; exact hzk), by omega⟩
        case measure => simp [intOf]; omega
      · gi_wp2
        refine bodyPost_ret (results_none rfl _ _ _) rfl ?_
        exact ⟨⟨_, rfl⟩, .inr ⟨_, trivial, hx2⟩⟩

theorem groups_in (F : Fence) (n : Nat) (h23 : F.fn 54) (hro : F.round = none) (z : Int) (w : World) :
    CallsIn F n Try.prog 54 #[.int .u64 z] w fun e w' => e = .returned (.func (.func 57) #[] #[.pointer (some ⟨w.heap.size, 0, none⟩)]) ∧ w' = w.alloc (.cells #[.int .u64 z] 77) := by
  refine callsIn_of_wp Try.func54 rfl h23 ?_ hro
  simp only [Try.ntmps54, List.size_toArray, List.length_cons, List.length_nil, Nat.reduceAdd, Nat.reduceSub, Array.replicate_succ, Array.replicate_zero, List.push_toArray, List.append_toArray, List.nil_append, List.cons_append]
  gi_wp2
  go_ret
  exact ⟨rfl, rfl⟩

/-- The nine cells of 'code': the bytes so far, then zeros; none is frozen. -/
def CodeAt (W : World) (B : Nat) (l : List UInt8) : Prop := (∀ j, j < 9 → W.cell? ⟨B, j, none⟩ = some (.int .u8 ((l[j]?.getD 0).toNat : Int))) ∧ (∀ j, j < 9 → W.frozen? ⟨B, j, none⟩ = false)
theorem codeAt_own (B : Nat) (f : List (Fin 128 × Bool) → List UInt8) : Own (fun pre W => CodeAt W B (f pre)) := fun _ _ _ _ hs hg hr =>
  ⟨fun j hj => cell_kept (hs.1 j hj) hg hr, fun j hj => (frozen_kept (hs.1 j hj) hg hr).trans (hs.2 j hj)⟩
theorem codeAt_put {W : World} {B : Nat} {l : List UInt8} (h : CodeAt W B l) (b : UInt8) (hl : l.length < 9) : CodeAt (W.setCell ⟨B, l.length, none⟩ (.int .u8 (b.toNat : Int))) B (l ++ [b]) := by
  refine ⟨fun j hj => ?_, fun j hj => by rw [World.frozen?_setCell]; exact h.2 j hj⟩
  by_cases e : j = l.length
  · subst e
    rw [World.cell?_setCell_same' _ _ _ (by rw [h.1 _ hj]; rfl)]
    simp
  · rw [World.cell?_setCell_other _ _ _ _ (by intro h'; cases h'; exact e rfl), h.1 j hj]
    by_cases h2 : j < l.length
    · rw [List.getElem?_append_left h2]
    · rw [List.getElem?_eq_none (by omega), List.getElem?_eq_none (by simp; omega)]
theorem codeAt_other {W : World} {B : Nat} {l : List UInt8} (h : CodeAt W B l) (p : Addr) (hp : p.block ≠ B) (v : Value) : CodeAt (W.setCell p v) B l :=
  ⟨fun j hj => (World.cell?_setCell_other _ _ _ _ (by intro h'; subst h'; exact hp rfl)).trans (h.1 j hj), fun j hj => by rw [World.frozen?_setCell]; exact h.2 j hj⟩
theorem toNat_gByte (x : Fin 128 × Bool) : ((UInt8.ofNat (gByte x)).toNat : Int) = (gByte x : Int) := by
  have := gByte_lt x
  rw [UInt8.toNat_ofNat_of_lt' (by omega)]
theorem putL_of (x : Int) (z : Nat) (h : -4611686018427387903 ≤ x ∧ x ≤ 4611686018427387903) (hz : zig x = z) : putL x = (gF 8 z).map (fun x => UInt8.ofNat (gByte x)) := by
  unfold putL; rw [if_pos ((okInt_iff x).2 h), hz]; rfl
def gBytes (l : List (Fin 128 × Bool)) : List UInt8 := l.map (fun x => UInt8.ofNat (gByte x))
theorem gBytes_snoc (l : List (Fin 128 × Bool)) (x : Fin 128 × Bool) : gBytes (l ++ [x]) = gBytes l ++ [UInt8.ofNat (gByte x)] := by simp [gBytes]

set_option maxRecDepth 100000 in
set_option maxHeartbeats 1000000 in
theorem putInt_ok (F : Fence) (n : Nat) (h12 : F.fn 37) (h23 : F.fn 54) (h25 : F.fn 57) (hro : F.round = none) (hn : 3 ≤ n) (x : Int) (w : World) (hx0 : 0 ≤ x) (hx1 : x ≤ 4611686018427387903) :
    CallsIn F n Try.prog 37 #[.int .i64 x] w fun e w' => e = .returned (.tuple #[.string ⟨(putL x).toArray⟩, .int .i64 0]) ∧ Below w.heap.size w w' := by
  have h1 : 1 ≤ n := by omega
  obtain ⟨z, hz⟩ : ∃ z : Nat, x * 2 = (z : Int) := ⟨(x * 2).toNat, by omega⟩
  have hzp : zig x = z := by unfold zig; rw [if_neg (by omega)]; omega
  have HZ := Lib.hid hz
  have HZP : Hid (zig x = z) := Lib.hid hzp
  clear hz hzp
  refine callsIn_of_wp_marks Try.func37 rfl h12 ?_ hro
  simp only [Try.ntmps37, List.size_toArray, List.length_cons, List.length_nil, Nat.reduceAdd, Nat.reduceSub, Array.replicate_succ, Array.replicate_zero, List.push_toArray, List.append_toArray, List.nil_append, List.cons_append]
  gi_wp2_with (gi_at_call 54; refine (groups_in F (n - 1) h23 hro _ _).mono ?_; rintro e w' ⟨rfl, rfl⟩)
  rw [HZ.out]
  generalize Value.bool (decide (x < -4611686018427387903)) = b0
  generalize Value.bool (decide (4611686018427387903 < x)) = b1
  generalize Value.bool (decide (x < -4611686018427387903) || decide (4611686018427387903 < x)) = b2
  generalize Value.bool (decide (x < 0)) = b3
  have hzl : z < 9223372036854775808 := by have := HZ.out; omega
  have hB0 : Below w.heap.size w (((w.alloc (.cells #[.int .u8 0, .int .u8 0, .int .u8 0, .int .u8 0, .int .u8 0, .int .u8 0, .int .u8 0, .int .u8 0, .int .u8 0] 78)).alloc (.cells #[.int .i64 0] 3)).alloc (.cells #[.int .u64 (z : Int)] 77)) := (((Below.refl _ w).alloc (Nat.le_refl _) _).alloc (by simp) _).alloc (by simp; omega) _
  have hcap : (((w.alloc (.cells #[.int .u8 0, .int .u8 0, .int .u8 0, .int .u8 0, .int .u8 0, .int .u8 0, .int .u8 0, .int .u8 0, .int .u8 0] 78)).alloc (.cells #[.int .i64 0] 3)).alloc (.cells #[.int .u64 (z : Int)] 77)).cell? ⟨w.heap.size + 1 + 1, 0, none⟩ = some (.int .u64 (z : Int)) := by
    go_simp
  have hcode : CodeAt (((w.alloc (.cells #[.int .u8 0, .int .u8 0, .int .u8 0, .int .u8 0, .int .u8 0, .int .u8 0, .int .u8 0, .int .u8 0, .int .u8 0] 78)).alloc (.cells #[.int .i64 0] 3)).alloc (.cells #[.int .u64 (z : Int)] 77)) w.heap.size (gBytes []) := by
    refine ⟨fun j hj => ?_, fun j hj => ?_⟩
    · match j, hj with
      | 0, _ => go_simp; rfl
      | 1, _ => go_simp; rfl
      | 2, _ => go_simp; rfl
      | 3, _ => go_simp; rfl
      | 4, _ => go_simp; rfl
      | 5, _ => go_simp; rfl
      | 6, _ => go_simp; rfl
      | 7, _ => go_simp; rfl
      | 8, _ => go_simp; rfl
    · go_simp
  have hsz0 : (((w.alloc (.cells #[.int .u8 0, .int .u8 0, .int .u8 0, .int .u8 0, .int .u8 0, .int .u8 0, .int .u8 0, .int .u8 0, .int .u8 0] 78)).alloc (.cells #[.int .i64 0] 3)).alloc (.cells #[.int .u64 (z : Int)] 77)).cell? ⟨w.heap.size + 1, 0, none⟩ = some (.int .i64 0) := by go_simp
  have hsz1 : (((w.alloc (.cells #[.int .u8 0, .int .u8 0, .int .u8 0, .int .u8 0, .int .u8 0, .int .u8 0, .int .u8 0, .int .u8 0, .int .u8 0] 78)).alloc (.cells #[.int .i64 0] 3)).alloc (.cells #[.int .u64 (z : Int)] 77)).frozen? ⟨w.heap.size + 1, 0, none⟩ = false := by go_simp
  have hszz : (((w.alloc (.cells #[.int .u8 0, .int .u8 0, .int .u8 0, .int .u8 0, .int .u8 0, .int .u8 0, .int .u8 0, .int .u8 0, .int .u8 0] 78)).alloc (.cells #[.int .i64 0] 3)).alloc (.cells #[.int .u64 (z : Int)] 77)).heap.size = w.heap.size + 3 := by simp
  obtain ⟨W0, hW0⟩ : ∃ W0, (((w.alloc (.cells #[.int .u8 0, .int .u8 0, .int .u8 0, .int .u8 0, .int .u8 0, .int .u8 0, .int .u8 0, .int .u8 0, .int .u8 0] 78)).alloc (.cells #[.int .i64 0] 3)).alloc (.cells #[.int .u64 (z : Int)] 77)) = W0 := ⟨_, rfl⟩
  rw [hW0] at hB0 hcap hcode hsz0 hsz1 hszz ⊢
  clear hW0
  have HS0 := Lib.hid hsz0
  have HS1 := Lib.hid hsz1
  have HCP := Lib.hid hcap
  have HZZ := Lib.hid hszz
  have hszz' : w.heap.size + 3 ≤ W0.heap.size := by omega
  clear hsz0 hsz1 hcap hszz
  refine wpIn_rangeFunc_ownF hro h1 (gf := 57) (lb := #[.pointer (some ⟨w.heap.size + 1 + 1, 0, none⟩)]) rfl h25 (enters_of Try.func57 (by kernel_rfl) rfl)
    (groups_stops F (n - 1) h25 hro (by omega) (w.heap.size + 1 + 1) z W0 (by omega) hzl HCP.out) (fun h k => walksK_t h k) walksK_b (Below.refl _ _) (fun _ => rfl)
    (fun pre W => (CodeAt W w.heap.size (gBytes pre) ∧ W.cell? ⟨w.heap.size + 1, 0, none⟩ = some (.int .i64 (pre.length : Int)) ∧ W.frozen? ⟨w.heap.size + 1, 0, none⟩ = false) ∧ Below w.heap.size w W)
    (fun _ _ _ => False)
    (OwnFrom.and (Own.from (fun s A B row hs hg hr => ⟨codeAt_own w.heap.size gBytes s A B row hs.1 hg hr, cell_kept hs.2.1 hg hr, (frozen_kept hs.2.1 hg hr).trans hs.2.2⟩) _) (ownFrom_below (Nat.le_refl _) (by omega)))
    (fun _ _ _ _ _ hs _ _ => hs)
    ⟨⟨hcode, HS0.out, HS1.out⟩, hB0⟩
    (fun g => { tmps := #[.int .i64 x, undef, .string { data := #[] }, .int .i64 0, .int .u64 (z : Int), .pointer (some ⟨w.heap.size, 0, none⟩), .pointer (some ⟨w.heap.size + 1, 0, none⟩), .int .u8 (g.1.val : Int), .bool g.2, .int .i64 x, b0, b0, .int .i64 x, b1, b2, .int .i64 x, .int .u64 x, .int .u64 (z : Int), .int .i64 x, b3, undef, undef, undef, undef, undef, .int .u64 (z : Int), .func (.func 57) #[] #[.pointer (some ⟨w.heap.size + 1 + 1, 0, none⟩)], .int .u8 (g.1.val : Int), .bool g.2, undef, undef, undef, undef, undef, undef, undef, undef, undef, undef, undef], defers := [] }) ?assign ?body ?done ?stop
  case assign =>
    intro l x W K hK
    gi_wp2
    exact hK
  case body =>
    rintro l pre g W ⟨⟨hcd, hc, hf⟩, hB⟩ hlen
    have hk : (gBytes pre).length = pre.length := by simp [gBytes]
    have hlen' : (pre.length : Int) < 9 := by omega
    have hce := hcd.1 pre.length hlen
    have hfe := hcd.2 pre.length hlen
    obtain ⟨g1, g2⟩ := g
    have hg1 := g1.isLt
    cases g2
    · gi_wp2
      refine ⟨?_, ?_, ⟨?_, ?_, ?_⟩, ?_⟩
      · exact (KeepsOthers.setCell _ _ _).trans (KeepsOthers.setCell _ _ _)
      · exact ((KeepsOthers.setCell _ _ _).trans (KeepsOthers.setCell _ _ _)).walks
      · have h := codeAt_put hcd (UInt8.ofNat (gByte (g1, false))) (by rw [hk]; exact hlen)
        rw [hk, toNat_gByte, show ((gByte (g1, false) : Nat) : Int) = (g1.val : Int) from rfl, ← gBytes_snoc] at h
        exact codeAt_other h _ (by simp) _
      · rw [World.cell?_setCell_same' _ _ _ (by rw [World.cell?_setCell_other _ _ _ _ (by intro h'; have := congrArg Addr.block h'; simp at this), hc]; rfl)]
        simp
      · rw [World.frozen?_setCell, World.frozen?_setCell]; exact hf
      · exact (hB.setCell (p := ⟨w.heap.size, pre.length, none⟩) (Nat.le_refl _) _).setCell (p := ⟨w.heap.size + 1, 0, none⟩) (by simp) _
    · gi_wp2
      refine ⟨?_, ?_, ⟨?_, ?_, ?_⟩, ?_⟩
      · exact (KeepsOthers.setCell _ _ _).trans (KeepsOthers.setCell _ _ _)
      · exact ((KeepsOthers.setCell _ _ _).trans (KeepsOthers.setCell _ _ _)).walks
      · have h := codeAt_put hcd (UInt8.ofNat (gByte (g1, true))) (by rw [hk]; exact hlen)
        rw [hk, toNat_gByte, show ((gByte (g1, true) : Nat) : Int) = (g1.val : Int) + 128 from rfl, ← gBytes_snoc] at h
        exact codeAt_other h _ (by simp) _
      · rw [World.cell?_setCell_same' _ _ _ (by rw [World.cell?_setCell_other _ _ _ _ (by intro h'; have := congrArg Addr.block h'; simp at this), hc]; rfl)]
        simp
      · rw [World.frozen?_setCell, World.frozen?_setCell]; exact hf
      · exact (hB.setCell (p := ⟨w.heap.size, pre.length, none⟩) (Nat.le_refl _) _).setCell (p := ⟨w.heap.size + 1, 0, none⟩) (by simp) _
  case done =>
    rintro D ys W hD rfl ⟨⟨hcd, hc, hf⟩, hB⟩ hK
    have hlz := gF_len 8 z
    have hul : (gBytes (gF 8 z)).length = (gF 8 z).length := by simp [gBytes]
    have hconv := run_convert_bytes_back (P := Try.prog) W 53 9 5 ⟨w.heap.size, 0, none⟩ 9 (gBytes (gF 8 z)) Try.underlying53 Try.underlying5 Try.underlying9 (fun j hj => by
      have h := hcd.1 j (by omega)
      rw [List.getElem?_eq_getElem hj] at h
      rw [show ((⟨w.heap.size, 0, none⟩ : Addr).add j) = ⟨w.heap.size, j, none⟩ from by unfold Addr.add; split <;> simp_all]; simpa using h)
    rw [hul] at hconv
    obtain ⟨k, HK⟩ : ∃ k, Hid ((gF 8 z).length = k) := ⟨_, Lib.hid rfl⟩
    rw [HK.out] at hc hlz hconv
    obtain ⟨hl1, hl2⟩ := hlz
    have hl1' : (k : Int) ≤ 9 := by omega
    clear hul
    gi_wp2
    refine ⟨by simp, .inl ⟨_, _, rfl, run_takeDeferred hK, ?_⟩⟩
    refine ⟨_, by simp [results, Try.f37, go_sem]; rfl, ?_, hB.trans (belowK_b (w := w) (Nat.le_refl _) W D _ _ (by omega) hK rfl rfl)⟩
    rw [putL_of x z (by have := HZ.out; omega) HZP]
    rfl
  case stop =>
    rintro D c pre W _ _ h _
    exact h.elim
set_option maxRecDepth 100000 in
set_option maxHeartbeats 1000000 in
theorem putInt_neg (F : Fence) (n : Nat) (h12 : F.fn 37) (h23 : F.fn 54) (h25 : F.fn 57) (hro : F.round = none) (hn : 3 ≤ n) (x : Int) (w : World) (hx0 : -4611686018427387903 ≤ x) (hx1 : x < 0) :
    CallsIn F n Try.prog 37 #[.int .i64 x] w fun e w' => e = .returned (.tuple #[.string ⟨(putL x).toArray⟩, .int .i64 0]) ∧ Below w.heap.size w w' := by
  have h1 : 1 ≤ n := by omega
  obtain ⟨z, hz⟩ : ∃ z : Nat, -x * 2 - 1 = (z : Int) := ⟨(-x * 2 - 1).toNat, by omega⟩
  have hzp : zig x = z := by unfold zig; rw [if_pos (by omega)]; omega
  have HZ := Lib.hid hz
  have HZP : Hid (zig x = z) := Lib.hid hzp
  clear hz hzp
  refine callsIn_of_wp_marks Try.func37 rfl h12 ?_ hro
  simp only [Try.ntmps37, List.size_toArray, List.length_cons, List.length_nil, Nat.reduceAdd, Nat.reduceSub, Array.replicate_succ, Array.replicate_zero, List.push_toArray, List.append_toArray, List.nil_append, List.cons_append]
  gi_wp2_with (gi_at_call 54; refine (groups_in F (n - 1) h23 hro _ _).mono ?_; rintro e w' ⟨rfl, rfl⟩)
  rw [HZ.out]
  generalize Value.bool (decide (x < -4611686018427387903)) = b0
  generalize Value.bool (decide (4611686018427387903 < x)) = b1
  generalize Value.bool (decide (x < -4611686018427387903) || decide (4611686018427387903 < x)) = b2
  have hzl : z < 9223372036854775808 := by have := HZ.out; omega
  have hB0 : Below w.heap.size w (((w.alloc (.cells #[.int .u8 0, .int .u8 0, .int .u8 0, .int .u8 0, .int .u8 0, .int .u8 0, .int .u8 0, .int .u8 0, .int .u8 0] 78)).alloc (.cells #[.int .i64 0] 3)).alloc (.cells #[.int .u64 (z : Int)] 77)) := (((Below.refl _ w).alloc (Nat.le_refl _) _).alloc (by simp) _).alloc (by simp; omega) _
  have hcap : (((w.alloc (.cells #[.int .u8 0, .int .u8 0, .int .u8 0, .int .u8 0, .int .u8 0, .int .u8 0, .int .u8 0, .int .u8 0, .int .u8 0] 78)).alloc (.cells #[.int .i64 0] 3)).alloc (.cells #[.int .u64 (z : Int)] 77)).cell? ⟨w.heap.size + 1 + 1, 0, none⟩ = some (.int .u64 (z : Int)) := by
    go_simp
  have hcode : CodeAt (((w.alloc (.cells #[.int .u8 0, .int .u8 0, .int .u8 0, .int .u8 0, .int .u8 0, .int .u8 0, .int .u8 0, .int .u8 0, .int .u8 0] 78)).alloc (.cells #[.int .i64 0] 3)).alloc (.cells #[.int .u64 (z : Int)] 77)) w.heap.size (gBytes []) := by
    refine ⟨fun j hj => ?_, fun j hj => ?_⟩
    · match j, hj with
      | 0, _ => go_simp; rfl
      | 1, _ => go_simp; rfl
      | 2, _ => go_simp; rfl
      | 3, _ => go_simp; rfl
      | 4, _ => go_simp; rfl
      | 5, _ => go_simp; rfl
      | 6, _ => go_simp; rfl
      | 7, _ => go_simp; rfl
      | 8, _ => go_simp; rfl
    · go_simp
  have hsz0 : (((w.alloc (.cells #[.int .u8 0, .int .u8 0, .int .u8 0, .int .u8 0, .int .u8 0, .int .u8 0, .int .u8 0, .int .u8 0, .int .u8 0] 78)).alloc (.cells #[.int .i64 0] 3)).alloc (.cells #[.int .u64 (z : Int)] 77)).cell? ⟨w.heap.size + 1, 0, none⟩ = some (.int .i64 0) := by go_simp
  have hsz1 : (((w.alloc (.cells #[.int .u8 0, .int .u8 0, .int .u8 0, .int .u8 0, .int .u8 0, .int .u8 0, .int .u8 0, .int .u8 0, .int .u8 0] 78)).alloc (.cells #[.int .i64 0] 3)).alloc (.cells #[.int .u64 (z : Int)] 77)).frozen? ⟨w.heap.size + 1, 0, none⟩ = false := by go_simp
  have hszz : (((w.alloc (.cells #[.int .u8 0, .int .u8 0, .int .u8 0, .int .u8 0, .int .u8 0, .int .u8 0, .int .u8 0, .int .u8 0, .int .u8 0] 78)).alloc (.cells #[.int .i64 0] 3)).alloc (.cells #[.int .u64 (z : Int)] 77)).heap.size = w.heap.size + 3 := by simp
  obtain ⟨W0, hW0⟩ : ∃ W0, (((w.alloc (.cells #[.int .u8 0, .int .u8 0, .int .u8 0, .int .u8 0, .int .u8 0, .int .u8 0, .int .u8 0, .int .u8 0, .int .u8 0] 78)).alloc (.cells #[.int .i64 0] 3)).alloc (.cells #[.int .u64 (z : Int)] 77)) = W0 := ⟨_, rfl⟩
  rw [hW0] at hB0 hcap hcode hsz0 hsz1 hszz ⊢
  clear hW0
  have HS0 := Lib.hid hsz0
  have HS1 := Lib.hid hsz1
  have HCP := Lib.hid hcap
  have HZZ := Lib.hid hszz
  have hszz' : w.heap.size + 3 ≤ W0.heap.size := by omega
  clear hsz0 hsz1 hcap hszz
  refine wpIn_rangeFunc_ownF hro h1 (gf := 57) (lb := #[.pointer (some ⟨w.heap.size + 1 + 1, 0, none⟩)]) rfl h25 (enters_of Try.func57 (by kernel_rfl) rfl)
    (groups_stops F (n - 1) h25 hro (by omega) (w.heap.size + 1 + 1) z W0 (by omega) hzl HCP.out) (fun h k => walksK_t h k) walksK_b (Below.refl _ _) (fun _ => rfl)
    (fun pre W => (CodeAt W w.heap.size (gBytes pre) ∧ W.cell? ⟨w.heap.size + 1, 0, none⟩ = some (.int .i64 (pre.length : Int)) ∧ W.frozen? ⟨w.heap.size + 1, 0, none⟩ = false) ∧ Below w.heap.size w W)
    (fun _ _ _ => False)
    (OwnFrom.and (Own.from (fun s A B row hs hg hr => ⟨codeAt_own w.heap.size gBytes s A B row hs.1 hg hr, cell_kept hs.2.1 hg hr, (frozen_kept hs.2.1 hg hr).trans hs.2.2⟩) _) (ownFrom_below (Nat.le_refl _) (by omega)))
    (fun _ _ _ _ _ hs _ _ => hs)
    ⟨⟨hcode, HS0.out, HS1.out⟩, hB0⟩
    (fun g => { tmps := #[.int .i64 x, undef, .string { data := #[] }, .int .i64 0, .int .u64 (z : Int), .pointer (some ⟨w.heap.size, 0, none⟩), .pointer (some ⟨w.heap.size + 1, 0, none⟩), .int .u8 (g.1.val : Int), .bool g.2, .int .i64 x, b0, b0, .int .i64 x, b1, b2, .int .i64 x, .int .u64 (IntKind.u64.wrap x), .int .u64 (IntKind.u64.wrap (IntKind.u64.wrap x * 2)), .int .i64 x, .bool true, .int .i64 x, .int .i64 (-x), .int .u64 (-x), .int .u64 (-x * 2), .int .u64 (z : Int), .int .u64 (z : Int), .func (.func 57) #[] #[.pointer (some ⟨w.heap.size + 1 + 1, 0, none⟩)], .int .u8 (g.1.val : Int), .bool g.2, undef, undef, undef, undef, undef, undef, undef, undef, undef, undef, undef], defers := [] }) ?assign ?body ?done ?stop
  case assign =>
    intro l x W K hK
    gi_wp2
    exact hK
  case body =>
    rintro l pre g W ⟨⟨hcd, hc, hf⟩, hB⟩ hlen
    have hk : (gBytes pre).length = pre.length := by simp [gBytes]
    have hlen' : (pre.length : Int) < 9 := by omega
    have hce := hcd.1 pre.length hlen
    have hfe := hcd.2 pre.length hlen
    obtain ⟨g1, g2⟩ := g
    have hg1 := g1.isLt
    cases g2
    · gi_wp2
      refine ⟨?_, ?_, ⟨?_, ?_, ?_⟩, ?_⟩
      · exact (KeepsOthers.setCell _ _ _).trans (KeepsOthers.setCell _ _ _)
      · exact ((KeepsOthers.setCell _ _ _).trans (KeepsOthers.setCell _ _ _)).walks
      · have h := codeAt_put hcd (UInt8.ofNat (gByte (g1, false))) (by rw [hk]; exact hlen)
        rw [hk, toNat_gByte, show ((gByte (g1, false) : Nat) : Int) = (g1.val : Int) from rfl, ← gBytes_snoc] at h
        exact codeAt_other h _ (by simp) _
      · rw [World.cell?_setCell_same' _ _ _ (by rw [World.cell?_setCell_other _ _ _ _ (by intro h'; have := congrArg Addr.block h'; simp at this), hc]; rfl)]
        simp
      · rw [World.frozen?_setCell, World.frozen?_setCell]; exact hf
      · exact (hB.setCell (p := ⟨w.heap.size, pre.length, none⟩) (Nat.le_refl _) _).setCell (p := ⟨w.heap.size + 1, 0, none⟩) (by simp) _
    · gi_wp2
      refine ⟨?_, ?_, ⟨?_, ?_, ?_⟩, ?_⟩
      · exact (KeepsOthers.setCell _ _ _).trans (KeepsOthers.setCell _ _ _)
      · exact ((KeepsOthers.setCell _ _ _).trans (KeepsOthers.setCell _ _ _)).walks
      · have h := codeAt_put hcd (UInt8.ofNat (gByte (g1, true))) (by rw [hk]; exact hlen)
        rw [hk, toNat_gByte, show ((gByte (g1, true) : Nat) : Int) = (g1.val : Int) + 128 from rfl, ← gBytes_snoc] at h
        exact codeAt_other h _ (by simp) _
      · rw [World.cell?_setCell_same' _ _ _ (by rw [World.cell?_setCell_other _ _ _ _ (by intro h'; have := congrArg Addr.block h'; simp at this), hc]; rfl)]
        simp
      · rw [World.frozen?_setCell, World.frozen?_setCell]; exact hf
      · exact (hB.setCell (p := ⟨w.heap.size, pre.length, none⟩) (Nat.le_refl _) _).setCell (p := ⟨w.heap.size + 1, 0, none⟩) (by simp) _
  case done =>
    rintro D ys W hD rfl ⟨⟨hcd, hc, hf⟩, hB⟩ hK
    have hlz := gF_len 8 z
    have hul : (gBytes (gF 8 z)).length = (gF 8 z).length := by simp [gBytes]
    have hconv := run_convert_bytes_back (P := Try.prog) W 53 9 5 ⟨w.heap.size, 0, none⟩ 9 (gBytes (gF 8 z)) Try.underlying53 Try.underlying5 Try.underlying9 (fun j hj => by
      have h := hcd.1 j (by omega)
      rw [List.getElem?_eq_getElem hj] at h
      rw [show ((⟨w.heap.size, 0, none⟩ : Addr).add j) = ⟨w.heap.size, j, none⟩ from by unfold Addr.add; split <;> simp_all]; simpa using h)
    rw [hul] at hconv
    obtain ⟨k, HK⟩ : ∃ k, Hid ((gF 8 z).length = k) := ⟨_, Lib.hid rfl⟩
    rw [HK.out] at hc hlz hconv
    obtain ⟨hl1, hl2⟩ := hlz
    have hl1' : (k : Int) ≤ 9 := by omega
    clear hul
    gi_wp2
    refine ⟨by simp, .inl ⟨_, _, rfl, run_takeDeferred hK, ?_⟩⟩
    refine ⟨_, by simp [results, Try.f37, go_sem]; rfl, ?_, hB.trans (belowK_b (w := w) (Nat.le_refl _) W D _ _ (by omega) hK rfl rfl)⟩
    rw [putL_of x z (by have := HZ.out; omega) HZP]
    rfl
  case stop =>
    rintro D c pre W _ _ h _
    exact h.elim

set_option maxRecDepth 100000 in
theorem putInt_lo (F : Fence) (n : Nat) (h12 : F.fn 37) (hro : F.round = none) (x : Int) (w : World) (hx : x < -4611686018427387903) :
    CallsIn F n Try.prog 37 #[.int .i64 x] w fun e w' => e = .returned (.tuple #[.string ⟨#[]⟩, .int .i64 10]) ∧ w = w' := by
  refine callsIn_of_wp Try.func37 rfl h12 ?_ hro
  simp only [Try.ntmps37, List.size_toArray, List.length_cons, List.length_nil, Nat.reduceAdd, Nat.reduceSub, Array.replicate_succ, Array.replicate_zero, List.push_toArray, List.append_toArray, List.nil_append, List.cons_append]
  gi_wp2
  go_ret2
  exact ⟨rfl, rfl⟩
set_option maxRecDepth 100000 in
theorem putInt_hi (F : Fence) (n : Nat) (h12 : F.fn 37) (hro : F.round = none) (x : Int) (w : World) (hx : 4611686018427387903 < x) :
    CallsIn F n Try.prog 37 #[.int .i64 x] w fun e w' => e = .returned (.tuple #[.string ⟨#[]⟩, .int .i64 10]) ∧ w = w' := by
  refine callsIn_of_wp Try.func37 rfl h12 ?_ hro
  simp only [Try.ntmps37, List.size_toArray, List.length_cons, List.length_nil, Nat.reduceAdd, Nat.reduceSub, Array.replicate_succ, Array.replicate_zero, List.push_toArray, List.append_toArray, List.nil_append, List.cons_append]
  gi_wp2
  go_ret2
  exact ⟨rfl, rfl⟩
/-- PutInt, inside any fence that holds the three functions. -/
theorem putInt_in (F : Fence) (n : Nat) (h12 : F.fn 37) (h23 : F.fn 54) (h25 : F.fn 57) (hro : F.round = none) (hn : 3 ≤ n) (x : Int) (w : World) :
    CallsIn F n Try.prog 37 #[.int .i64 x] w fun e w' => e = .returned (.tuple #[.string ⟨(putL x).toArray⟩, .int .i64 (putE x)]) ∧ Below w.heap.size w w' := by
  by_cases hok : -4611686018427387903 ≤ x ∧ x ≤ 4611686018427387903
  · have he : putE x = 0 := by unfold putE; rw [if_pos ((okInt_iff x).2 hok)]
    rw [he]
    by_cases h0 : 0 ≤ x
    · exact putInt_ok F n h12 h23 h25 hro hn x w h0 hok.2
    · exact putInt_neg F n h12 h23 h25 hro hn x w hok.1 (by omega)
  · have hok' : okInt x = false := by rw [Bool.eq_false_iff]; intro h; exact hok ((okInt_iff x).1 h)
    have he : putE x = 10 := by unfold putE; rw [hok']; rfl
    have hl : putL x = [] := by unfold putL; rw [hok']; rfl
    rw [he, hl]
    by_cases h0 : x < -4611686018427387903
    · exact (putInt_lo F n h12 hro x w h0).mono fun e w' ⟨he, hw⟩ => ⟨he, hw ▸ Below.refl _ _⟩
    · exact (putInt_hi F n h12 hro x w (by omega)).mono fun e w' ⟨he, hw⟩ => ⟨he, hw ▸ Below.refl _ _⟩
/-- PutInt. -/
theorem putInt_any (x : Int) (w : World) :
    Calls Try.prog 37 #[.int .i64 x] w fun e w' => e = .returned (.tuple #[.string ⟨(putL x).toArray⟩, .int .i64 (putE x)]) ∧ Below w.heap.size w w' :=
  callsIn_wide.1 (putInt_in Fence.wide 3 trivial trivial trivial rfl (Nat.le_refl _) x w)
end Go.Proofs.Ytfplajafekpccaa
