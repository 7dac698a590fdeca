/-
  The walk of digest.compress.
-/
import Derived.WalkKit
import Derived.LoopTactic
import Derived.WalkSpells
import Derived.WalkLawsBesides
import Derived.RegionTactic
import Derived.BigRegion
import Derived.Deep.QuietTactic
import Derived.Deep.RegionHeld3
import Derived.BigQuiet
import Derived.IntWalk
import Derived.Outline
import Derived.Laws.CopyOwn
import Derived.Deep.Cut
import Derived.Test.YtfpcdlpfmlaakaaGreatDoorDigA
set_option linter.unusedVariables false
set_option linter.unusedSimpArgs false
namespace Go.Proofs.YtfpcdlpfmlaakaaGreatDoor
open Go.RowKit Onair
/-- The table of constants lies where it lies. -/
def TabAt (w : World) : Prop := ∀ i, i < 64 → w.cell? ⟨0, i, none⟩ = some (.int .u32 (kAt i : Int))
theorem TabAt.lt {w : World} (h : TabAt w) : 0 < w.heap.size := block_lt (h 0 (by decide))
theorem TabAt.below {w w' : World} (h : TabAt w) (hb : Below w.heap.size w w') : TabAt w' := fun i hi => (hb.cell (p := ⟨0, i, none⟩) h.lt).trans (h i hi)
theorem Tryz.sizeA8 : (Tryz.prog.info? 171).map (·.size) = some 8 := by kernel_rfl
theorem Tryz.sizeB64 : (Tryz.prog.info? 175).map (·.size) = some 64 := by kernel_rfl
/-- The blocks of a run of compress: the words, the result, the expanded block. -/
structure CW (W : World) (r kw : Nat) (l ws : List Nat) (w : World) : Prop where
  b0 : Blk w r 171 (w32 l)
  b2 : Blk w (r + 1 + 1) 171 (w32 (List.replicate 8 0))
  bw : Blk w kw 190 (w32 ws)
  tab : TabAt w
  hr : W.heap.size = r
  hk : r + 1 + 1 < kw
  hg : 0 < r
  bel : Below W.heap.size W w
theorem CW.drewN {W : World} {r kw : Nat} {l ws : List Nat} {w : World} (h : CW W r kw l ws w) (n : Nat) : CW W r kw l ws (w.drewN n) := ⟨h.b0, h.b2, h.bw, h.tab, h.hr, h.hk, h.hg, h.bel.trans ⟨rfl, rfl, rfl, Nat.le_refl _, fun _ _ => rfl⟩⟩
theorem CW.set {W : World} {r kw : Nat} {l ws : List Nat} {w : World} (h : CW W r kw l ws w) (i x : Nat) : CW W r kw (l.set i x) ws (w.setCell ⟨r, i, none⟩ (.int .u32 (x : Int))) := by
  have hr := h.hr
  have hk := h.hk
  have hg := h.hg
  refine ⟨?_, h.b2.other _ (by show r ≠ r + 1 + 1; omega) _, h.bw.other _ (by show r ≠ kw; omega) _, fun j hj => ?_, h.hr, h.hk, h.hg, h.bel.setCell (p := ⟨r, i, none⟩) (by show _ ≤ r; omega) _⟩
  · rw [← w32_set]
    exact h.b0.set i _
  · rw [World.cell?_setCell_other _ _ _ _ (by intro e; have e2 : r = 0 := congrArg Addr.block e; omega)]
    exact h.tab j hj
theorem not32 (a : Nat) (ha : a < 4294967296) : bits BinOp.xor IntKind.u32 IntKind.u32.max (a : Int) = ((4294967295 - a : Nat) : Int) := by
  rw [show IntKind.u32.max = ((4294967295 : Nat) : Int) from rfl, u32_xor_nat _ _ (by decide) ha]
  congr 1
  have h : BitVec.ofNat 32 4294967295 ^^^ BitVec.ofNat 32 a = ~~~ (BitVec.ofNat 32 a) := by
    rw [show (BitVec.ofNat 32 4294967295) = BitVec.allOnes 32 from by decide, BitVec.allOnes_xor]
  have h2 := congrArg BitVec.toNat h
  rw [BitVec.toNat_xor, BitVec.toNat_not, BitVec.toNat_ofNat, BitVec.toNat_ofNat, Nat.mod_eq_of_lt (show 4294967295 < 2 ^ 32 by decide), Nat.mod_eq_of_lt (show a < 2 ^ 32 from ha)] at h2
  omega
theorem add32_eq (a b : Nat) : ((a : Int) + (b : Int)) % 4294967296 = ((add32 a b : Nat) : Int) := by unfold add32; omega
set_option maxRecDepth 100000 in
theorem idx8 (i : Nat) (h : i < 8) (a b c d e f g h' : Nat) : ∀ w : World, (Instr.index 171 (.agg #[.int .u32 (a : Int), .int .u32 (b : Int), .int .u32 (c : Int), .int .u32 (d : Int), .int .u32 (e : Int), .int .u32 (f : Int), .int .u32 (g : Int), .int .u32 (h' : Int)]) (.int .i64 (i : Int))).run Tryz.prog w = .ok (.int .u32 (wAt [a, b, c, d, e, f, g, h'] i : Nat)) w := by
  intro w
  match i, h with
  | 0, _ => rfl
  | 1, _ => rfl
  | 2, _ => rfl
  | 3, _ => rfl
  | 4, _ => rfl
  | 5, _ => rfl
  | 6, _ => rfl
  | 7, _ => rfl
set_option maxHeartbeats 8000000 in
set_option maxRecDepth 100000 in
theorem compress_any (s : S8) (bs : List UInt8) (w : World) (hs : s.Ok) (hb : bs.length = 64) (ht : TabAt w) :
    Calls Tryz.prog 115 #[.agg #[.int .u32 (s.a : Nat), .int .u32 (s.b : Nat), .int .u32 (s.c : Nat), .int .u32 (s.d : Nat), .int .u32 (s.e : Nat), .int .u32 (s.f : Nat), .int .u32 (s.g : Nat), .int .u32 (s.h : Nat)], .agg (cellsB bs).toArray] w fun e w' => e = .returned (.agg (w32 (compr s bs).list).toArray) ∧ Below w.heap.size w w' := by
  obtain ⟨r, hr⟩ : ∃ r, w.heap.size = r := ⟨_, rfl⟩
  obtain ⟨cs, hcs⟩ : ∃ cs, (cellsB bs).toArray = cs := ⟨_, rfl⟩
  rw [hcs]
  have HR := Lib.hid hr
  have HT := Lib.hid ht
  have HCS := Lib.hid hcs
  have HBL := Lib.hid hb
  have HSO := Lib.hid hs
  have hszb : (Tryz.prog.info? 175).map (·.size) = some cs.size := by rw [Tryz.sizeB64, ← hcs, List.size_toArray, cellsB_len, hb]
  have HSB := Lib.hid hszb
  clear hr hcs hb ht hs hszb
  go_enter Tryz.func115, Tryz.ntmps115
  go_upto_region 1 with (fail)
  have hXP : ∀ w : World, Calls Tryz.prog 128 #[.agg cs] w fun e w' => e = .returned (.agg (w32 (wexp bs)).toArray) ∧ Below w.heap.size w w' := fun w => by
    rw [← HCS.out]
    exact expand_any bs w HBL.out
  have HXP := Lib.hid hXP
  have HCM : Hid (compr s bs = s.add (rounds s (wexp bs) 64)) := rfl
  have hwl := wexp_len bs
  have hwt := schedN_lt bs 48
  change ∀ x ∈ wexp bs, x < 4294967296 at hwt
  clear hXP
  generalize wexp bs = ws at HXP HCM hwl hwt
  obtain ⟨wc, hwc⟩ : ∃ wc, (w32 ws).toArray = wc := ⟨_, rfl⟩
  rw [hwc] at HXP
  have hsw : (Tryz.prog.info? 190).map (·.size) = some wc.size := by rw [Tryz.size64, ← hwc, List.size_toArray, w32_len, hwl]
  have hone : wc.all (·.oneCell') = true := by rw [← hwc]; exact w32_one ws
  have hw64 : wc.size = 64 := by rw [← hwc, List.size_toArray, w32_len, hwl]
  have hold : (#[.int .u32 0, .int .u32 0, .int .u32 0, .int .u32 0, .int .u32 0, .int .u32 0, .int .u32 0, .int .u32 0, .int .u32 0, .int .u32 0, .int .u32 0, .int .u32 0, .int .u32 0, .int .u32 0, .int .u32 0, .int .u32 0, .int .u32 0, .int .u32 0, .int .u32 0, .int .u32 0, .int .u32 0, .int .u32 0, .int .u32 0, .int .u32 0, .int .u32 0, .int .u32 0, .int .u32 0, .int .u32 0, .int .u32 0, .int .u32 0, .int .u32 0, .int .u32 0, .int .u32 0, .int .u32 0, .int .u32 0, .int .u32 0, .int .u32 0, .int .u32 0, .int .u32 0, .int .u32 0, .int .u32 0, .int .u32 0, .int .u32 0, .int .u32 0, .int .u32 0, .int .u32 0, .int .u32 0, .int .u32 0, .int .u32 0, .int .u32 0, .int .u32 0, .int .u32 0, .int .u32 0, .int .u32 0, .int .u32 0, .int .u32 0, .int .u32 0, .int .u32 0, .int .u32 0, .int .u32 0, .int .u32 0, .int .u32 0, .int .u32 0, .int .u32 0] : Array Value).size = wc.size := Eq.trans rfl hw64.symm
  have HSW := Lib.hid hsw
  have HONE := Lib.hid hone
  have HOLD := Lib.hid hold
  have HWC := Lib.hid hwc
  have HWL := Lib.hid hwl
  have HWT := Lib.hid hwt
  clear hsw hone hold hwc hwl hwt hw64
  have h3 : Hid (Blk (((w.alloc (.cells #[.int .u32 (s.a : Nat), .int .u32 (s.b : Nat), .int .u32 (s.c : Nat), .int .u32 (s.d : Nat), .int .u32 (s.e : Nat), .int .u32 (s.f : Nat), .int .u32 (s.g : Nat), .int .u32 (s.h : Nat)] 171)).alloc (.cells cs 175)).alloc (.cells #[.int .u32 0, .int .u32 0, .int .u32 0, .int .u32 0, .int .u32 0, .int .u32 0, .int .u32 0, .int .u32 0] 171)) r 171 (w32 s.list) ∧ (((w.alloc (.cells #[.int .u32 (s.a : Nat), .int .u32 (s.b : Nat), .int .u32 (s.c : Nat), .int .u32 (s.d : Nat), .int .u32 (s.e : Nat), .int .u32 (s.f : Nat), .int .u32 (s.g : Nat), .int .u32 (s.h : Nat)] 171)).alloc (.cells cs 175)).alloc (.cells #[.int .u32 0, .int .u32 0, .int .u32 0, .int .u32 0, .int .u32 0, .int .u32 0, .int .u32 0, .int .u32 0] 171)).heap[r + 1]? = some (.cells cs 175 (0, 0)) ∧ Blk (((w.alloc (.cells #[.int .u32 (s.a : Nat), .int .u32 (s.b : Nat), .int .u32 (s.c : Nat), .int .u32 (s.d : Nat), .int .u32 (s.e : Nat), .int .u32 (s.f : Nat), .int .u32 (s.g : Nat), .int .u32 (s.h : Nat)] 171)).alloc (.cells cs 175)).alloc (.cells #[.int .u32 0, .int .u32 0, .int .u32 0, .int .u32 0, .int .u32 0, .int .u32 0, .int .u32 0, .int .u32 0] 171)) (r + 1 + 1) 171 (w32 (List.replicate 8 0)) ∧ Below w.heap.size w (((w.alloc (.cells #[.int .u32 (s.a : Nat), .int .u32 (s.b : Nat), .int .u32 (s.c : Nat), .int .u32 (s.d : Nat), .int .u32 (s.e : Nat), .int .u32 (s.f : Nat), .int .u32 (s.g : Nat), .int .u32 (s.h : Nat)] 171)).alloc (.cells cs 175)).alloc (.cells #[.int .u32 0, .int .u32 0, .int .u32 0, .int .u32 0, .int .u32 0, .int .u32 0, .int .u32 0, .int .u32 0] 171))) := by
    refine ⟨((by rw [← HR.out]; exact Blk.new w _ (w32 s.list) : Blk _ r _ _).alloc _).alloc _, ?_, ?_, ((((Below.refl _ w).alloc (Nat.le_refl _) _).alloc (by simp) _).alloc (by simp; omega) _)⟩
    · rw [Below.heap_alloc _ _ _ (by simp; rw [HR.out]; omega)]
      have := heap_alloc_new (w.alloc (.cells #[.int .u32 (s.a : Nat), .int .u32 (s.b : Nat), .int .u32 (s.c : Nat), .int .u32 (s.d : Nat), .int .u32 (s.e : Nat), .int .u32 (s.f : Nat), .int .u32 (s.g : Nat), .int .u32 (s.h : Nat)] 171)) (.cells cs 175)
      rw [World.size_alloc, HR.out] at this
      exact this
    · have := Blk.new ((w.alloc (.cells #[.int .u32 (s.a : Nat), .int .u32 (s.b : Nat), .int .u32 (s.c : Nat), .int .u32 (s.d : Nat), .int .u32 (s.e : Nat), .int .u32 (s.f : Nat), .int .u32 (s.g : Nat), .int .u32 (s.h : Nat)] 171)).alloc (.cells cs 175)) 171 (w32 (List.replicate 8 0))
      rw [World.size_alloc, World.size_alloc, HR.out] at this
      exact this
  rw [HR.out]
  have HT3 : Hid (TabAt (((w.alloc (.cells #[.int .u32 (s.a : Nat), .int .u32 (s.b : Nat), .int .u32 (s.c : Nat), .int .u32 (s.d : Nat), .int .u32 (s.e : Nat), .int .u32 (s.f : Nat), .int .u32 (s.g : Nat), .int .u32 (s.h : Nat)] 171)).alloc (.cells cs 175)).alloc (.cells #[.int .u32 0, .int .u32 0, .int .u32 0, .int .u32 0, .int .u32 0, .int .u32 0, .int .u32 0, .int .u32 0] 171))) := HT.out.below h3.out.2.2.2
  generalize ((w.alloc (.cells #[.int .u32 (s.a : Nat), .int .u32 (s.b : Nat), .int .u32 (s.c : Nat), .int .u32 (s.d : Nat), .int .u32 (s.e : Nat), .int .u32 (s.f : Nat), .int .u32 (s.g : Nat), .int .u32 (s.h : Nat)] 171)).alloc (.cells cs 175)).alloc (.cells #[.int .u32 0, .int .u32 0, .int .u32 0, .int .u32 0, .int .u32 0, .int .u32 0, .int .u32 0, .int .u32 0] 171) = w3 at h3 HT3 ⊢
  refine wp_region_lit ?_
  refine wpList_load_row (o := ⟨some 19, _, _, _, _, _⟩) rfl 175 _ rfl (r + 1) rfl 175 cs (0, 0) _ h3.out.2.1 Tryz.underlying175 rfl HSB.out ?_
  try simp only [Act.put, List.setIfInBounds_toArray, List.set_cons_zero, List.set_cons_succ]
  go_wp2_with fail
  refine (HXP.out w3).mono ?_
  rintro e w4 ⟨rfl, hb4⟩
  have HBK := Lib.hid (heap_alloc_new w4 (.cells #[.int .u32 0, .int .u32 0, .int .u32 0, .int .u32 0, .int .u32 0, .int .u32 0, .int .u32 0, .int .u32 0, .int .u32 0, .int .u32 0, .int .u32 0, .int .u32 0, .int .u32 0, .int .u32 0, .int .u32 0, .int .u32 0, .int .u32 0, .int .u32 0, .int .u32 0, .int .u32 0, .int .u32 0, .int .u32 0, .int .u32 0, .int .u32 0, .int .u32 0, .int .u32 0, .int .u32 0, .int .u32 0, .int .u32 0, .int .u32 0, .int .u32 0, .int .u32 0, .int .u32 0, .int .u32 0, .int .u32 0, .int .u32 0, .int .u32 0, .int .u32 0, .int .u32 0, .int .u32 0, .int .u32 0, .int .u32 0, .int .u32 0, .int .u32 0, .int .u32 0, .int .u32 0, .int .u32 0, .int .u32 0, .int .u32 0, .int .u32 0, .int .u32 0, .int .u32 0, .int .u32 0, .int .u32 0, .int .u32 0, .int .u32 0, .int .u32 0, .int .u32 0, .int .u32 0, .int .u32 0, .int .u32 0, .int .u32 0, .int .u32 0, .int .u32 0] 190 (0, 0)))
  obtain ⟨kw, hkw⟩ : ∃ kw, w4.heap.size = kw := ⟨_, rfl⟩
  have hk3 := h3.out.2.2.1.lt
  have hk4 := hb4.size
  have hbz : Below w3.heap.size w3 ((w4.alloc (.cells #[.int .u32 0, .int .u32 0, .int .u32 0, .int .u32 0, .int .u32 0, .int .u32 0, .int .u32 0, .int .u32 0, .int .u32 0, .int .u32 0, .int .u32 0, .int .u32 0, .int .u32 0, .int .u32 0, .int .u32 0, .int .u32 0, .int .u32 0, .int .u32 0, .int .u32 0, .int .u32 0, .int .u32 0, .int .u32 0, .int .u32 0, .int .u32 0, .int .u32 0, .int .u32 0, .int .u32 0, .int .u32 0, .int .u32 0, .int .u32 0, .int .u32 0, .int .u32 0, .int .u32 0, .int .u32 0, .int .u32 0, .int .u32 0, .int .u32 0, .int .u32 0, .int .u32 0, .int .u32 0, .int .u32 0, .int .u32 0, .int .u32 0, .int .u32 0, .int .u32 0, .int .u32 0, .int .u32 0, .int .u32 0, .int .u32 0, .int .u32 0, .int .u32 0, .int .u32 0, .int .u32 0, .int .u32 0, .int .u32 0, .int .u32 0, .int .u32 0, .int .u32 0, .int .u32 0, .int .u32 0, .int .u32 0, .int .u32 0, .int .u32 0, .int .u32 0] 190 (0, 0))).setRow kw wc) := below_setRow (hb4.alloc hb4.size _) (by omega) _
  have hCW : CW w r kw s.list ws ((w4.alloc (.cells #[.int .u32 0, .int .u32 0, .int .u32 0, .int .u32 0, .int .u32 0, .int .u32 0, .int .u32 0, .int .u32 0, .int .u32 0, .int .u32 0, .int .u32 0, .int .u32 0, .int .u32 0, .int .u32 0, .int .u32 0, .int .u32 0, .int .u32 0, .int .u32 0, .int .u32 0, .int .u32 0, .int .u32 0, .int .u32 0, .int .u32 0, .int .u32 0, .int .u32 0, .int .u32 0, .int .u32 0, .int .u32 0, .int .u32 0, .int .u32 0, .int .u32 0, .int .u32 0, .int .u32 0, .int .u32 0, .int .u32 0, .int .u32 0, .int .u32 0, .int .u32 0, .int .u32 0, .int .u32 0, .int .u32 0, .int .u32 0, .int .u32 0, .int .u32 0, .int .u32 0, .int .u32 0, .int .u32 0, .int .u32 0, .int .u32 0, .int .u32 0, .int .u32 0, .int .u32 0, .int .u32 0, .int .u32 0, .int .u32 0, .int .u32 0, .int .u32 0, .int .u32 0, .int .u32 0, .int .u32 0, .int .u32 0, .int .u32 0, .int .u32 0, .int .u32 0] 190 (0, 0))).setRow kw wc) := by
    refine ⟨h3.out.1.kept (hbz.block _ h3.out.1.lt), h3.out.2.2.1.kept (hbz.block _ h3.out.2.2.1.lt), ?_, HT3.out.below hbz, HR.out, by omega, by have := HT.out.lt; rw [← HR.out]; exact this, bstep h3.out.2.2.2 hbz⟩
    have hz : Blk (w4.alloc (.cells #[.int .u32 0, .int .u32 0, .int .u32 0, .int .u32 0, .int .u32 0, .int .u32 0, .int .u32 0, .int .u32 0, .int .u32 0, .int .u32 0, .int .u32 0, .int .u32 0, .int .u32 0, .int .u32 0, .int .u32 0, .int .u32 0, .int .u32 0, .int .u32 0, .int .u32 0, .int .u32 0, .int .u32 0, .int .u32 0, .int .u32 0, .int .u32 0, .int .u32 0, .int .u32 0, .int .u32 0, .int .u32 0, .int .u32 0, .int .u32 0, .int .u32 0, .int .u32 0, .int .u32 0, .int .u32 0, .int .u32 0, .int .u32 0, .int .u32 0, .int .u32 0, .int .u32 0, .int .u32 0, .int .u32 0, .int .u32 0, .int .u32 0, .int .u32 0, .int .u32 0, .int .u32 0, .int .u32 0, .int .u32 0, .int .u32 0, .int .u32 0, .int .u32 0, .int .u32 0, .int .u32 0, .int .u32 0, .int .u32 0, .int .u32 0, .int .u32 0, .int .u32 0, .int .u32 0, .int .u32 0, .int .u32 0, .int .u32 0, .int .u32 0, .int .u32 0] 190 (0, 0))) kw 190 (w32 (List.replicate 64 0)) := by rw [← hkw]; exact Blk.new w4 _ (w32 (List.replicate 64 0))
    have := hz.setRow (w32 ws)
    rw [HWC.out] at this
    exact this
  have HCW := Lib.hid hCW
  have HKW := Lib.hid hkw
  clear hb4 hkw hbz hCW hk3 hk4
  go_wp2_with (refine wpList_store_row (o := ⟨none, _, _, _, _, _⟩) rfl 190 _ _ rfl w4.heap.size wc rfl rfl 190 #[.int .u32 0, .int .u32 0, .int .u32 0, .int .u32 0, .int .u32 0, .int .u32 0, .int .u32 0, .int .u32 0, .int .u32 0, .int .u32 0, .int .u32 0, .int .u32 0, .int .u32 0, .int .u32 0, .int .u32 0, .int .u32 0, .int .u32 0, .int .u32 0, .int .u32 0, .int .u32 0, .int .u32 0, .int .u32 0, .int .u32 0, .int .u32 0, .int .u32 0, .int .u32 0, .int .u32 0, .int .u32 0, .int .u32 0, .int .u32 0, .int .u32 0, .int .u32 0, .int .u32 0, .int .u32 0, .int .u32 0, .int .u32 0, .int .u32 0, .int .u32 0, .int .u32 0, .int .u32 0, .int .u32 0, .int .u32 0, .int .u32 0, .int .u32 0, .int .u32 0, .int .u32 0, .int .u32 0, .int .u32 0, .int .u32 0, .int .u32 0, .int .u32 0, .int .u32 0, .int .u32 0, .int .u32 0, .int .u32 0, .int .u32 0, .int .u32 0, .int .u32 0, .int .u32 0, .int .u32 0, .int .u32 0, .int .u32 0, .int .u32 0, .int .u32 0] HBK.out HSW.out HOLD.out HONE.out ?_; try simp only [Act.put, List.setIfInBounds_toArray, List.set_cons_zero, List.set_cons_succ])
  rw [HKW.out]
  generalize (w4.alloc (.cells #[.int .u32 0, .int .u32 0, .int .u32 0, .int .u32 0, .int .u32 0, .int .u32 0, .int .u32 0, .int .u32 0, .int .u32 0, .int .u32 0, .int .u32 0, .int .u32 0, .int .u32 0, .int .u32 0, .int .u32 0, .int .u32 0, .int .u32 0, .int .u32 0, .int .u32 0, .int .u32 0, .int .u32 0, .int .u32 0, .int .u32 0, .int .u32 0, .int .u32 0, .int .u32 0, .int .u32 0, .int .u32 0, .int .u32 0, .int .u32 0, .int .u32 0, .int .u32 0, .int .u32 0, .int .u32 0, .int .u32 0, .int .u32 0, .int .u32 0, .int .u32 0, .int .u32 0, .int .u32 0, .int .u32 0, .int .u32 0, .int .u32 0, .int .u32 0, .int .u32 0, .int .u32 0, .int .u32 0, .int .u32 0, .int .u32 0, .int .u32 0, .int .u32 0, .int .u32 0, .int .u32 0, .int .u32 0, .int .u32 0, .int .u32 0, .int .u32 0, .int .u32 0, .int .u32 0, .int .u32 0, .int .u32 0, .int .u32 0, .int .u32 0, .int .u32 0] 190 (0, 0))).setRow kw wc = w5 at HCW ⊢
  clear HBK h3 HT3 HXP HKW HSW HONE HOLD HSB
  have c0 := HCW.out.b0.cell 0
  have c1 := HCW.out.b0.cell 1
  have c2 := HCW.out.b0.cell 2
  have c3 := HCW.out.b0.cell 3
  have c4 := HCW.out.b0.cell 4
  have c5 := HCW.out.b0.cell 5
  have c6 := HCW.out.b0.cell 6
  have c7 := HCW.out.b0.cell 7
  simp only [w32, S8.list, List.map_cons, List.map_nil, List.getElem?_cons_zero, List.getElem?_cons_succ] at c0 c1 c2 c3 c4 c5 c6 c7
  go_quiet (fail)
  have HC1 := Lib.hid (HCW.out.drewN nq)
  generalize w5.drewN nq = w6 at HC1 ⊢
  clear c0 c1 c2 c3 c4 c5 c6 c7
  have c4 := HC1.out.b0.cell 4
  have c5 := HC1.out.b0.cell 5
  have c6 := HC1.out.b0.cell 6
  have c7 := HC1.out.b0.cell 7
  simp only [w32, S8.list, List.map_cons, List.map_nil, List.getElem?_cons_zero, List.getElem?_cons_succ] at c4 c5 c6 c7
  go_wp2_with fail
  go_quiet (fail)
  have HC0 := Lib.hid (HC1.out.drewN nq)
  generalize w6.drewN nq = w7 at HC0 ⊢
  clear c4 c5 c6 c7
  go_wp2_with fail
  go_loopw [6, 7, 8, 9, 10, 11, 12, 13, 37] (fun va vb vc vd ve vf vg vh x wr => ∃ (n a b c d e f g h : Nat), n ≤ 64 ∧ x = .int .i64 n ∧ va = .int .u32 (a : Int) ∧ vb = .int .u32 (b : Int) ∧ vc = .int .u32 (c : Int) ∧ vd = .int .u32 (d : Int) ∧ ve = .int .u32 (e : Int) ∧ vf = .int .u32 (f : Int) ∧ vg = .int .u32 (g : Int) ∧ vh = .int .u32 (h : Int) ∧ Hid (rounds s ws n = ⟨a, b, c, d, e, f, g, h⟩) ∧ Hid (S8.Ok ⟨a, b, c, d, e, f, g, h⟩) ∧ Hid (CW w r kw s.list ws wr)) (fun _ _ _ _ _ _ _ _ x _ => 64 - (intOf x).toNat)
  case atStart => exact ⟨0, s.a, s.b, s.c, s.d, s.e, s.f, s.g, s.h, Nat.zero_le _, rfl, rfl, rfl, rfl, rfl, rfl, rfl, rfl, rfl, rfl, HSO, HC0⟩
  case round =>
    obtain ⟨n, a, b, c, d, e, f, g, h, hn, rfl, rfl, rfl, rfl, rfl, rfl, rfl, rfl, rfl, HRD, HOK, HC⟩ := hrel
    by_cases hn64 : n = 64
    · obtain rfl := hn64
      have HAD : Hid (compr s bs = s.add ⟨a, b, c, d, e, f, g, h⟩) := by show _ = _; rw [HCM.out, HRD.out]
      obtain ⟨sl, hsl⟩ : ∃ sl, s.list = sl := ⟨_, rfl⟩
      obtain ⟨tl, htl⟩ : ∃ tl : List Nat, [a, b, c, d, e, f, g, h] = tl := ⟨_, rfl⟩
      have hsll : sl.length = 8 := by rw [← hsl]; rfl
      have htll : tl.length = 8 := by rw [← htl]; rfl
      have HFI : Hid ((compr s bs).list = (List.range 8).map fun i => add32 (wAt sl i) (wAt tl i)) := by show _ = _; rw [HAD.out, ← hsl, ← htl]; rfl
      rw [hsl] at HC
      have hidx := fun (i : Nat) (hi : i < 8) => idx8 i hi a b c d e f g h
      rw [htl] at hidx
      have HIX := Lib.hid hidx
      have HSL := Lib.hid hsll
      have HTL := Lib.hid htll
      have hslt : ∀ i, wAt sl i < 4294967296 := fun i => by
        obtain ⟨o1, o2, o3, o4, o5, o6, o7, o8⟩ := HSO.out
        refine wAt_lt ?_ i
        rw [← hsl]
        intro x hx
        simp only [S8.list, List.mem_cons, List.not_mem_nil, or_false] at hx
        rcases hx with rfl | rfl | rfl | rfl | rfl | rfl | rfl | rfl <;> assumption
      clear hidx hsll htll hn HRD HOK HCM HAD hsl htl hslt
      go_wp2_with fail
      go_loopw [112] (fun x wr => ∃ i : Nat, i ≤ 8 ∧ x = .int .i64 i ∧ Hid (CW w r kw (((List.range i).map fun i => add32 (wAt sl i) (wAt tl i)) ++ sl.drop i) ws wr)) (fun x _ => 8 - (intOf x).toNat)
      case atStart => exact ⟨0, Nat.zero_le _, rfl, HC⟩
      case round =>
        clear HC
        obtain ⟨i, hi, rfl, HE⟩ := hrel
        by_cases hi8 : i = 8
        · obtain rfl := hi8
          have HE2 : Hid (CW w r kw (compr s bs).list ws wr) := by
            have := HE.out
            rw [List.drop_of_length_le (by rw [HSL.out]; exact Nat.le_refl _), List.append_nil, ← HFI.out] at this
            exact this
          have hll : (compr s bs).list.length = 8 := by rw [HFI.out]; simp
          obtain ⟨fc, hfc⟩ : ∃ fc, (w32 (compr s bs).list).toArray = fc := ⟨_, rfl⟩
          have B1 : wr.heap[r]? = some (.cells fc 171 (0, 0)) := by rw [← hfc]; exact HE2.out.b0
          obtain ⟨zc, hzc⟩ : ∃ zc, (w32 (List.replicate 8 0)).toArray = zc := ⟨_, rfl⟩
          have B2 : wr.heap[r + 1 + 1]? = some (.cells zc 171 (0, 0)) := by rw [← hzc]; exact HE2.out.b2
          have hsz : (Tryz.prog.info? 171).map (·.size) = some fc.size := by rw [Tryz.sizeA8, ← hfc, List.size_toArray, w32_len, hll]
          have hone : fc.all (·.oneCell') = true := by rw [← hfc]; exact w32_one _
          have hold : zc.size = fc.size := by rw [← hfc, ← hzc, List.size_toArray, List.size_toArray, w32_len, w32_len, hll]; rfl
          have HFC := Lib.hid hfc
          have HB1 := Lib.hid B1
          have HB2 := Lib.hid B2
          have HSZ := Lib.hid hsz
          have HONE := Lib.hid hone
          have HOLD := Lib.hid hold
          have HBE := Lib.hid HE2.out.bel
          have hrl : w.heap.size ≤ r + 1 + 1 := by rw [HR.out]; omega
          clear HE HE2 hll hfc B1 hzc B2 hsz hone hold hi HIX HFI
          go_upto_region 20 with (fail)
          refine wp_region_lit ?_
          refine wpList_load_row (o := ⟨some 123, _, _, _, _, _⟩) rfl 171 _ rfl r rfl 171 fc (0, 0) _ HB1.out Tryz.underlying171 rfl HSZ.out ?_
          try simp only [Act.put, List.setIfInBounds_toArray, List.set_cons_zero, List.set_cons_succ]
          refine wpList_store_row (o := ⟨none, _, _, _, _, _⟩) rfl 171 _ _ rfl (r + 1 + 1) fc rfl rfl 171 zc HB2.out HSZ.out HOLD.out HONE.out ?_
          go_wp2_with fail
          refine bodyPost_ret (results_cell_row Tryz.results115 _ _ (r + 1 + 1) 171 fc (0, 0) _ rfl (setRow_heap _ _ _ _ _ _ HB2.out) Tryz.underlying171 rfl HSZ.out) rfl ?_
          rw [HFC.out]
          exact ⟨rfl, below_setRow HBE.out hrl _⟩
        · have q1 : (i : Int) < 8 := by omega
          have hi7 : i < 8 := by omega
          have hix := HIX.out i hi7
          have hml : ((List.range i).map fun i => add32 (wAt sl i) (wAt tl i)).length = i := by simp
          have hdl : i < sl.length := by rw [HSL.out]; exact hi7
          have hdr : sl.drop i = wAt sl i :: sl.drop (i + 1) := by
            rw [List.drop_eq_getElem_cons hdl]
            unfold wAt
            rw [List.getD_eq_getElem?_getD, List.getElem?_eq_getElem hdl]
            rfl
          have c0 := HE.out.b0.cell i
          rw [hdr, w32_at _ _ (by rw [List.length_append, hml, List.length_cons]; omega)] at c0
          have e1 : wAt (((List.range i).map fun i => add32 (wAt sl i) (wAt tl i)) ++ wAt sl i :: sl.drop (i + 1)) i = wAt sl i := by
            have := wAt_mid ((List.range i).map fun i => add32 (wAt sl i) (wAt tl i)) (sl.drop (i + 1)) (wAt sl i)
            rwa [hml] at this
          rw [e1] at c0
          have f0 := HE.out.b0.frozen i
          have e2 : (((List.range i).map fun i => add32 (wAt sl i) (wAt tl i)) ++ sl.drop i).set i (add32 (wAt sl i) (wAt tl i)) = ((List.range (i + 1)).map fun i => add32 (wAt sl i) (wAt tl i)) ++ sl.drop (i + 1) := by
            have := set_mid ((List.range i).map fun i => add32 (wAt sl i) (wAt tl i)) (sl.drop (i + 1)) (wAt sl i) (add32 (wAt sl i) (wAt tl i))
            rw [hml] at this
            rw [hdr, this, List.range_succ, List.map_append]
            simp
          have he2 := HE.out.set i (add32 (wAt sl i) (wAt tl i))
          rw [e2] at he2
          have qa := add32_eq (wAt sl i) (wAt tl i)
          generalize add32 (wAt sl i) (wAt tl i) = z at he2 qa
          generalize wAt sl i = x1 at c0 qa
          generalize wAt tl i = x2 at hix qa
          have HE2 := Lib.hid he2
          have hrl : r < wr.heap.size := HE.out.b0.lt
          clear he2 e1 e2 hdr hdl hml HE hi8
          go_wp2_with fail
          go_roundw
          case rel => exact ⟨i + 1, by omega, by go_num, by first | exact HE2 | (rw [qa]; exact HE2)⟩
          case measure => simp [intOf]; omega
    · have hn1 : n < 64 := by omega
      obtain ⟨la, lb, lc, ld, le, lf, lg, lh⟩ := HOK.out
      dsimp only at la lb lc ld le lf lg lh
      clear hn64
      obtain ⟨r1, hr1⟩ : ∃ r1, rotl e 26 = r1 := ⟨_, rfl⟩
      have lr1 : r1 < 4294967296 := hr1 ▸ rotl_lt e 26 le
      obtain ⟨r2, hr2⟩ : ∃ r2, rotl e 21 = r2 := ⟨_, rfl⟩
      have lr2 : r2 < 4294967296 := hr2 ▸ rotl_lt e 21 le
      obtain ⟨x1, hx1⟩ : ∃ x1, r1 ^^^ r2 = x1 := ⟨_, rfl⟩
      have lx1 : x1 < 4294967296 := hx1 ▸ xor_lt32 lr1 lr2
      have qx1 := u32_xor_nat r1 r2 lr1 lr2
      rw [hx1] at qx1
      obtain ⟨r3, hr3⟩ : ∃ r3, rotl e 7 = r3 := ⟨_, rfl⟩
      have lr3 : r3 < 4294967296 := hr3 ▸ rotl_lt e 7 le
      obtain ⟨x2, hx2⟩ : ∃ x2, x1 ^^^ r3 = x2 := ⟨_, rfl⟩
      have lx2 : x2 < 4294967296 := hx2 ▸ xor_lt32 lx1 lr3
      have qx2 := u32_xor_nat x1 r3 lx1 lr3
      rw [hx2] at qx2
      obtain ⟨t1, ht1⟩ : ∃ t1, add32 h x2 = t1 := ⟨_, rfl⟩
      have lt1 : t1 < 4294967296 := ht1 ▸ add32_lt h x2
      have qt1 := add32_eq h x2
      rw [ht1] at qt1
      obtain ⟨a1, ha1⟩ : ∃ a1, e &&& f = a1 := ⟨_, rfl⟩
      have la1 : a1 < 4294967296 := ha1 ▸ and_lt32 lf
      have qa1 := u32_and_nat e f le lf
      rw [ha1] at qa1
      obtain ⟨ne, hne⟩ : ∃ ne, 4294967295 - e = ne := ⟨_, rfl⟩
      have lne : ne < 4294967296 := by omega
      have qne := not32 e le
      rw [hne] at qne
      obtain ⟨a2, ha2⟩ : ∃ a2, ne &&& g = a2 := ⟨_, rfl⟩
      have la2 : a2 < 4294967296 := ha2 ▸ and_lt32 lg
      have qa2 := u32_and_nat ne g lne lg
      rw [ha2] at qa2
      obtain ⟨x3, hx3⟩ : ∃ x3, a1 ^^^ a2 = x3 := ⟨_, rfl⟩
      have lx3 : x3 < 4294967296 := hx3 ▸ xor_lt32 la1 la2
      have qx3 := u32_xor_nat a1 a2 la1 la2
      rw [hx3] at qx3
      obtain ⟨t2, ht2⟩ : ∃ t2, add32 t1 x3 = t2 := ⟨_, rfl⟩
      have lt2 : t2 < 4294967296 := ht2 ▸ add32_lt t1 x3
      have qt2 := add32_eq t1 x3
      rw [ht2] at qt2
      obtain ⟨kk, hkk⟩ : ∃ kk, kAt n = kk := ⟨_, rfl⟩
      have lkk : kk < 4294967296 := hkk ▸ kAt_lt n
      obtain ⟨wn, hwn⟩ : ∃ wn, wAt ws n = wn := ⟨_, rfl⟩
      have lwn : wn < 4294967296 := hwn ▸ wAt_lt HWT.out n
      obtain ⟨t3, ht3⟩ : ∃ t3, add32 kk wn = t3 := ⟨_, rfl⟩
      have lt3 : t3 < 4294967296 := ht3 ▸ add32_lt kk wn
      have qt3 := add32_eq kk wn
      rw [ht3] at qt3
      obtain ⟨t, ht⟩ : ∃ t, add32 t2 t3 = t := ⟨_, rfl⟩
      have lt : t < 4294967296 := ht ▸ add32_lt t2 t3
      have qt := add32_eq t2 t3
      rw [ht] at qt
      obtain ⟨r4, hr4⟩ : ∃ r4, rotl a 30 = r4 := ⟨_, rfl⟩
      have lr4 : r4 < 4294967296 := hr4 ▸ rotl_lt a 30 la
      obtain ⟨r5, hr5⟩ : ∃ r5, rotl a 19 = r5 := ⟨_, rfl⟩
      have lr5 : r5 < 4294967296 := hr5 ▸ rotl_lt a 19 la
      obtain ⟨x4, hx4⟩ : ∃ x4, r4 ^^^ r5 = x4 := ⟨_, rfl⟩
      have lx4 : x4 < 4294967296 := hx4 ▸ xor_lt32 lr4 lr5
      have qx4 := u32_xor_nat r4 r5 lr4 lr5
      rw [hx4] at qx4
      obtain ⟨r6, hr6⟩ : ∃ r6, rotl a 10 = r6 := ⟨_, rfl⟩
      have lr6 : r6 < 4294967296 := hr6 ▸ rotl_lt a 10 la
      obtain ⟨x5, hx5⟩ : ∃ x5, x4 ^^^ r6 = x5 := ⟨_, rfl⟩
      have lx5 : x5 < 4294967296 := hx5 ▸ xor_lt32 lx4 lr6
      have qx5 := u32_xor_nat x4 r6 lx4 lr6
      rw [hx5] at qx5
      obtain ⟨ab, hab⟩ : ∃ ab, a &&& b = ab := ⟨_, rfl⟩
      have lab : ab < 4294967296 := hab ▸ and_lt32 lb
      have qab := u32_and_nat a b la lb
      rw [hab] at qab
      obtain ⟨ac, hac⟩ : ∃ ac, a &&& c = ac := ⟨_, rfl⟩
      have lac : ac < 4294967296 := hac ▸ and_lt32 lc
      have qac := u32_and_nat a c la lc
      rw [hac] at qac
      obtain ⟨x6, hx6⟩ : ∃ x6, ab ^^^ ac = x6 := ⟨_, rfl⟩
      have lx6 : x6 < 4294967296 := hx6 ▸ xor_lt32 lab lac
      have qx6 := u32_xor_nat ab ac lab lac
      rw [hx6] at qx6
      obtain ⟨bc, hbc⟩ : ∃ bc, b &&& c = bc := ⟨_, rfl⟩
      have lbc : bc < 4294967296 := hbc ▸ and_lt32 lc
      have qbc := u32_and_nat b c lb lc
      rw [hbc] at qbc
      obtain ⟨x7, hx7⟩ : ∃ x7, x6 ^^^ bc = x7 := ⟨_, rfl⟩
      have lx7 : x7 < 4294967296 := hx7 ▸ xor_lt32 lx6 lbc
      have qx7 := u32_xor_nat x6 bc lx6 lbc
      rw [hx7] at qx7
      obtain ⟨u, hu⟩ : ∃ u, add32 x5 x7 = u := ⟨_, rfl⟩
      have lu : u < 4294967296 := hu ▸ add32_lt x5 x7
      have qu := add32_eq x5 x7
      rw [hu] at qu
      obtain ⟨e2, he2⟩ : ∃ e2, add32 d t = e2 := ⟨_, rfl⟩
      have le2 : e2 < 4294967296 := he2 ▸ add32_lt d t
      have qe2 := add32_eq d t
      rw [he2] at qe2
      obtain ⟨a3, ha3⟩ : ∃ a3, add32 t u = a3 := ⟨_, rfl⟩
      have la3 : a3 < 4294967296 := ha3 ▸ add32_lt t u
      have qa3 := add32_eq t u
      rw [ha3] at qa3
      have HRN : Hid (rounds s ws (n + 1) = ⟨a3, a, b, c, e2, e, f, g⟩) := by
        show _ = _
        simp only [rounds, HRD.out, round8, tOf, uOf]
        rw [hr1, hr2, hx1, hr3, hx2, ht1, ha1, hne, ha2, hx3, ht2, hkk, hwn, ht3, ht, hr4, hr5, hx4, hr6, hx5, hab, hac, hx6, hbc, hx7, hu, he2, ha3]
      have Hr1 := Lib.hid hr1
      have Hr2 := Lib.hid hr2
      have Hr3 := Lib.hid hr3
      have Hr4 := Lib.hid hr4
      have Hr5 := Lib.hid hr5
      have Hr6 := Lib.hid hr6
      have ckk := HC.out.tab n (by omega)
      rw [hkk] at ckk
      have cwn := HC.out.bw.cell n
      rw [w32_at _ _ (by rw [HWL.out]; omega), hwn] at cwn
      have hkl : kw < wr.heap.size := HC.out.bw.lt
      have hgl : 0 < wr.heap.size := HC.out.tab.lt
      have hn64 : (n : Int) < 64 := by omega
      clear hr1 hr2 hx1 hr3 hx2 ht1 ha1 hne ha2 hx3 ht2 hkk hwn ht3 ht hr4 hr5 hx4 hr6 hx5 hab hac hx6 hbc hx7 hu he2 ha3 HRD
      go_wp2_with fail
      refine (rot_any e (-6) 26 _ le (by kernel_rfl) (by decide) (by decide)).mono ?_
      rintro e' w' ⟨rfl, rfl⟩
      rw [Hr1.out]
      go_wp2_with fail
      refine (rot_any e (-11) 21 _ le (by kernel_rfl) (by decide) (by decide)).mono ?_
      rintro e' w' ⟨rfl, rfl⟩
      rw [Hr2.out]
      go_wp2_with fail
      refine (rot_any e (-25) 7 _ le (by kernel_rfl) (by decide) (by decide)).mono ?_
      rintro e' w' ⟨rfl, rfl⟩
      rw [Hr3.out]
      go_wp2_with fail
      go_quiet (fail)
      have HC2 := Lib.hid (HC.out.drewN nq)
      go_wp2_with fail
      refine (rot_any a (-2) 30 _ la (by kernel_rfl) (by decide) (by decide)).mono ?_
      rintro e' w' ⟨rfl, rfl⟩
      rw [Hr4.out]
      go_wp2_with fail
      refine (rot_any a (-13) 19 _ la (by kernel_rfl) (by decide) (by decide)).mono ?_
      rintro e' w' ⟨rfl, rfl⟩
      rw [Hr5.out]
      go_wp2_with fail
      refine (rot_any a (-22) 10 _ la (by kernel_rfl) (by decide) (by decide)).mono ?_
      rintro e' w' ⟨rfl, rfl⟩
      rw [Hr6.out]
      go_wp2_with fail
      go_roundw
      case rel => exact ⟨n + 1, a3, a, b, c, e2, e, f, g, by omega, by go_num, (by first | rfl | rw [qa3]), rfl, rfl, rfl, (by first | rfl | rw [qe2]), rfl, rfl, rfl, HRN, ⟨la3, la, lb, lc, le2, le, lf, lg⟩, HC2⟩
      case measure => simp [intOf]; omega
end Go.Proofs.YtfpcdlpfmlaakaaGreatDoor
