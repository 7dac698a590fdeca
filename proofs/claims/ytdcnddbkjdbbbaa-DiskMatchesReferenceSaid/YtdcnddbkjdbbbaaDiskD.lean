/-
  The walks of disk.New and of settle.
-/
import Derived.WalkKit
import Derived.LoopTactic
import Derived.WalkSpells
import Derived.WalkLawsBesides
import Derived.RegionTactic
import Derived.BigRegion
import Derived.IntWalk
import Derived.Laws.MakeOwn
import Derived.Test.YtdcnddbkjdbbbaaDiskC
set_option linter.unusedVariables false
set_option linter.unusedSimpArgs false
namespace Go.Proofs.Ytdcnddbkjdbbbaa
open Go.RowKit
theorem Try.infoU8 : (Try.prog.info? 5).map (fun i => (i.zero, i.size, i.bytes)) = some (some (.int .u8 0), 1, 1) := by kernel_rfl
/-- n zero bytes. -/
def zeroL (n : Nat) : List UInt8 := List.replicate n 0
theorem zeroL_len (n : Nat) : (zeroL n).length = n := by simp [zeroL]
def zcells (n : Nat) : Array Value := (cellsB (zeroL n)).toArray
theorem made_zero (n : Nat) : madeCells (Value.int .u8 0).cells (n * 1) = zcells n := by
  apply Array.ext
  · simp [madeCells, zcells, cellsB, zeroL]
  · intro i h1 h2
    simp [madeCells, zcells, cellsB, zeroL, Value.cells, Nat.mod_one]
theorem run_make_bytes (n : Nat) (hn : n ≤ 16777216) (W : World) : (Instr.makeSlice 40 (.int .i64 (n : Int)) (.int .i64 (n : Int))).run Try.prog W = .ok (.slice (some ⟨W.heap.size, 0, none⟩) n n) (W.alloc (.cells (zcells n) 5)) := by
  obtain ⟨i0, hi, hz0, hz1, hz2⟩ := info_parts Try.infoU8
  have hr := run_make (P := Try.prog) W 40 5 i0 (.int .u8 0) Try.underlying40 hi hz0 .i64 .i64 n n (by omega) (Int.le_refl _) (by rw [hz2]; omega) (by omega)
  rw [Int.toNat_natCast, hz1, made_zero] at hr
  exact hr
def newD (n : Nat) : DS := { lost := false, cut := 0, dur := zeroL n, vis := zeroL n, pend := [] }
theorem newAt (W : World) (B n bd bv : Nat) (hB : B ≤ W.heap.size) (h1 : 1 ≤ n) (h2 : n ≤ 4194304) (h : (bd = W.heap.size ∧ bv = W.heap.size + 1) ∨ (bd = W.heap.size + 1 ∧ bv = W.heap.size)) :
    DkAt ((((W.alloc (.cells (zcells n) 5)).alloc (.cells (zcells n) 5)).alloc (.cells #[.bool false, .int .i64 0, .slice (some ⟨bd, 0, none⟩) n n, .slice (some ⟨bv, 0, none⟩) n n, .slice none 0 0] 65)).drew) B (W.heap.size + 1 + 1) bd bv (.slice none 0 0) (newD n) ∧
    Below W.heap.size W ((((W.alloc (.cells (zcells n) 5)).alloc (.cells (zcells n) 5)).alloc (.cells #[.bool false, .int .i64 0, .slice (some ⟨bd, 0, none⟩) n n, .slice (some ⟨bv, 0, none⟩) n n, .slice none 0 0] 65)).drew) ∧ W.heap.size ≤ W.heap.size + 1 + 1 ∧ W.heap.size ≤ bd ∧ W.heap.size ≤ bv := by
  have hA : Blk (W.alloc (.cells (zcells n) 5)) W.heap.size 5 (cellsB (zeroL n)) := Blk.new W 5 (cellsB (zeroL n))
  have hB' : Blk ((W.alloc (.cells (zcells n) 5)).alloc (.cells (zcells n) 5)) (W.heap.size + 1) 5 (cellsB (zeroL n)) := by
    have := Blk.new (W.alloc (.cells (zcells n) 5)) 5 (cellsB (zeroL n))
    rwa [World.size_alloc] at this
  have hC : Blk (((W.alloc (.cells (zcells n) 5)).alloc (.cells (zcells n) 5)).alloc (.cells #[.bool false, .int .i64 0, .slice (some ⟨bd, 0, none⟩) n n, .slice (some ⟨bv, 0, none⟩) n n, .slice none 0 0] 65)) (W.heap.size + 1 + 1) 65 [.bool false, .int .i64 0, .slice (some ⟨bd, 0, none⟩) n n, .slice (some ⟨bv, 0, none⟩) n n, .slice none 0 0] := by
    have := Blk.new ((W.alloc (.cells (zcells n) 5)).alloc (.cells (zcells n) 5)) 65 [.bool false, .int .i64 0, .slice (some ⟨bd, 0, none⟩) n n, .slice (some ⟨bv, 0, none⟩) n n, .slice none 0 0]
    rwa [World.size_alloc, World.size_alloc] at this
  have hl : (newD n).vis.length = n := zeroL_len n
  refine ⟨⟨?_, ?_, ?_, World.ownsRow_nil _ _ _ _, rfl, by omega, by omega, by omega, by omega, by omega, by omega, by omega, by omega, fun g hg => by simp [Value.ownBlock] at hg⟩, ?_, by omega, by omega, by omega⟩
  · rw [hl]
    exact hC.drew
  · rcases h with ⟨rfl, rfl⟩ | ⟨rfl, rfl⟩
    · exact ((hA.alloc _).alloc _).drew
    · exact (hB'.alloc _).drew
  · rcases h with ⟨rfl, rfl⟩ | ⟨rfl, rfl⟩
    · exact (hB'.alloc _).drew
    · exact ((hA.alloc _).alloc _).drew
  · exact ((((Below.refl _ W).alloc (Nat.le_refl _) _).alloc (by simp) _).alloc (by simp; omega) _).drew
set_option maxRecDepth 100000 in
theorem new_ok (n : Nat) (W : World) (B : Nat) (hB : B ≤ W.heap.size) (h1 : 1 ≤ n) (h2 : n ≤ 4194304) :
    Calls Try.prog 13 #[.int .i64 n] W fun e w' => ∃ b bd bv, e = .returned (.tuple #[.pointer (some ⟨b, 0, none⟩), .int .i64 0]) ∧ DkAt w' B b bd bv (.slice none 0 0) (newD n) ∧ Below W.heap.size W w' ∧ W.heap.size ≤ b ∧ W.heap.size ≤ bd ∧ W.heap.size ≤ bv := by
  have hmk := run_make_bytes n (by omega)
  have d1 : decide ((n : Int) < 1) = false := by simp; omega
  have d2 : decide ((4194304 : Int) < (n : Int)) = false := by simp; omega
  go_enter Try.func13, Try.ntmps13
  go_wp2_with fail
  go_region
  · go_wp2_with fail
    go_ret2
    exact ⟨_, _, _, rfl, newAt W B n W.heap.size (W.heap.size + 1) hB h1 h2 (.inl ⟨rfl, rfl⟩)⟩
  · go_wp2_with fail
    go_ret2
    exact ⟨_, _, _, rfl, newAt W B n (W.heap.size + 1) W.heap.size hB h1 h2 (.inr ⟨rfl, rfl⟩)⟩
theorem new_bad (n : Int) (W : World) (h : n < 1 ∨ 4194304 < n) :
    Calls Try.prog 13 #[.int .i64 n] W fun e w' => e = .returned (.tuple #[.pointer none, .int .i64 2]) ∧ W = w' := by
  by_cases h0 : n < 1
  · clear h
    go_enter Try.func13, Try.ntmps13
    go_wp2
    go_ret2
    exact ⟨rfl, rfl⟩
  · have h1 : 4194304 < n := by omega
    clear h
    go_enter Try.func13, Try.ntmps13
    go_wp2
    go_ret2
    exact ⟨rfl, rfl⟩
theorem zeroW (w : World) : (zeroValue 69).run Try.prog w = .ok (.agg #[.int .i64 0, .string ⟨#[]⟩]) w := by kernel_rfl
theorem zcells_len (n : Nat) : (Builtin.zeroCells (Value.agg #[.int .i64 0, .string ⟨#[]⟩]).cells n).toList.length = n * 2 := by simp [Builtin.zeroCells, Value.cells]
theorem zcells_one (n : Nat) : ∀ v ∈ (Builtin.zeroCells (Value.agg #[.int .i64 0, .string ⟨#[]⟩]).cells n).toList, v.oneCell' = true := by
  intro v hv
  simp only [Builtin.zeroCells, Array.toList_map, List.mem_map] at hv
  obtain ⟨i, _, rfl⟩ := hv
  have : i % 2 = 0 ∨ i % 2 = 1 := by omega
  rcases this with h | h <;> simp [Value.cells, h, Value.oneCell']
/-- 'clear' of the pending writes: the row stays the disk's own. -/
theorem clear_own {W : World} {B : Nat} {vp : Value} {n : Nat} {xs : List Value} (h : W.ownsRow B 69 2 vp n xs) : ∃ (w' : World) (ys : List Value), (∀ ty, (Builtin.clear_ #[63] ty #[vp]).run Try.prog W = .ok (.tuple #[]) w') ∧ w'.ownsRow B 69 2 vp n ys ∧ Fr (fun k => vp.ownBlock = some k) W w' := by
  rcases h.2 with ⟨rfl, rfl⟩ | ⟨g, cap, cur, rfl, h1, h2, h3, h4, h5, h6⟩
  · exact ⟨W, xs, fun ty => by simp [Builtin.clear_, run_underlying Try.underlying63], h, Fr.refl _ _⟩
  · cases n with
    | zero => exact ⟨W, xs, fun ty => by simp [Builtin.clear_, run_underlying Try.underlying63], h, Fr.refl _ _⟩
    | succ m =>
      obtain ⟨Z, hZ⟩ : ∃ Z, (Builtin.zeroCells (Value.agg #[.int .i64 0, .string ⟨#[]⟩]).cells (m + 1)).toList = Z := ⟨_, rfl⟩
      have hst := run_storeCells_at Try.prog g 0 69 (Builtin.zeroCells (Value.agg #[.int .i64 0, .string ⟨#[]⟩]).cells (m + 1)).toList 0 cur W h2 (by rw [zcells_len, h5]; have := Nat.mul_le_mul_right 2 h3; omega) (zcells_one _)
      have hzl := zcells_len (m + 1)
      rw [hZ] at hst hzl
      have hcz : (m + 1) * 2 ≤ cur.size := by rw [h5]; exact Nat.mul_le_mul_right 2 h3
      simp only [Nat.add_zero, Nat.zero_add, List.take_zero, List.nil_append] at hst
      refine ⟨W.setRow g (Z ++ cur.toList.drop Z.length).toArray, (Z ++ cur.toList.drop Z.length).take ((m + 1) * 2), fun ty => ?_, ⟨?_, .inr ⟨g, cap, (Z ++ cur.toList.drop Z.length).toArray, rfl, h1, Blk.setRow (l := cur.toList) (by unfold Blk; simpa using h2) _, h3, h4, ?_, rfl⟩⟩, (Fr.refl _ W).setRow g _ (.inl rfl)⟩
      · simp only [Builtin.clear_]
        simp [run_underlying Try.underlying63, zeroW]
        rw [hZ, hst]
        rfl
      · simp only [List.length_take, List.length_append, List.length_drop, Array.length_toList, hzl]
        omega
      · simp only [List.size_toArray, List.length_append, List.length_drop, Array.length_toList, hzl, h5]
        omega
/-- The pending slice is set. -/
theorem DkAt.setPend {W : World} {B b bd bv : Nat} {vp : Value} {D : DS} (h : DkAt W B b bd bv vp D) (vp' : Value) (pend : List (Nat × ByteArray)) (ho : W.ownsRow B 69 2 vp' pend.length (pcells pend)) (hnp : ∀ g, vp'.ownBlock = some g → g ≠ b ∧ g ≠ bd ∧ g ≠ bv) :
    DkAt (W.setCell ⟨b, 4, none⟩ vp') B b bd bv vp' { D with pend := pend } := by
  have e : ∀ k, k ≠ b → (W.setCell ⟨b, 4, none⟩ vp').heap[k]? = W.heap[k]? := fun k hk => by
    rw [Below.heap_setCell _ _ _ _ hk]
  exact ⟨h.blk.set 4 _, h.dur.kept (e _ h.ne1.symm), h.vis.kept (e _ h.ne2.symm), ownsRow_kept ho (fun g hg => e g (hnp g hg).1), h.len, h.pos, h.max, h.hb, h.hbd, h.hbv, h.ne1, h.ne2, h.ne3, hnp⟩
/-- A disk whose own blocks, but for the row of the pending writes, are as they were. -/
theorem DkAt.kept {W W' : World} {B b bd bv : Nat} {vp : Value} {D : DS} (h : DkAt W B b bd bv vp D) (hf : ∀ k, Foot b bd bv vp k → W'.heap[k]? = W.heap[k]?) : DkAt W' B b bd bv vp D :=
  ⟨h.blk.kept (hf _ (.inl rfl)), h.dur.kept (hf _ (.inr (.inl rfl))), h.vis.kept (hf _ (.inr (.inr (.inl rfl)))), ownsRow_kept h.own (fun g hg => hf g (.inr (.inr (.inr hg)))), h.len, h.pos, h.max, h.hb, h.hbd, h.hbv, h.ne1, h.ne2, h.ne3, h.np⟩
/-- A disk whose blocks are not among those that may have turned. -/
theorem DkAt.fr {W W' : World} {B b bd bv : Nat} {vp : Value} {D : DS} {S : Nat → Prop} (h : DkAt W B b bd bv vp D) (hf : Fr S W W') (hs : ∀ k, Foot b bd bv vp k → ¬ S k) : DkAt W' B b bd bv vp D :=
  h.kept (fun k hk => hf.block k (by
    rcases hk with rfl | rfl | rfl | hk
    · exact h.blk.lt
    · exact h.dur.lt
    · exact h.vis.lt
    · rcases h.own.2 with ⟨rfl, _⟩ | ⟨g, cap, cur, rfl, _, h2, _⟩
      · simp [Value.ownBlock] at hk
      · simp [Value.ownBlock] at hk
        subst hk
        exact (Array.getElem?_eq_some_iff.1 h2).1) (hs k hk))
set_option maxRecDepth 100000 in
theorem settle_any (W : World) (B b bd bv : Nat) (vp : Value) (D : DS) (h : DkAt W B b bd bv vp D) :
    Calls Try.prog 36 #[.pointer (some ⟨b, 0, none⟩)] W fun e w' => (∃ v, e = .returned v) ∧ ∃ vp', DkAt w' B b bd bv vp' { D with pend := [] } ∧ vp'.ownBlock = vp.ownBlock ∧ Fr (Foot b bd bv vp) W w' := by
  obtain ⟨w1, ys, hrun, hown, hfr⟩ := clear_own h.own
  have c4 := h.blk.cell 4
  simp only [List.getElem?_cons_zero, List.getElem?_cons_succ] at c4
  have hb1 : Blk w1 b 65 _ := h.blk.kept (hfr.block b h.blk.lt (fun e => (h.np b e).1 rfl))
  have c4' := hb1.cell 4
  have f4' := hb1.frozen 4
  simp only [List.getElem?_cons_zero, List.getElem?_cons_succ] at c4'
  have HFR : Hid (Fr (Foot b bd bv vp) W w1) := hfr.mono (fun k hk => .inr (.inr (.inr hk)))
  have H1 : Hid (∀ vp', w1.ownsRow B 69 2 vp' 0 [] → vp'.ownBlock = vp.ownBlock → DkAt (w1.setCell ⟨b, 4, none⟩ vp') B b bd bv vp' { D with pend := [] }) := by
    intro vp' ho he
    have e : ∀ k, k ≠ b → (w1.setCell ⟨b, 4, none⟩ vp').heap[k]? = w1.heap[k]? := fun k hk => by
      rw [Below.heap_setCell _ _ _ _ hk]
    have hnp : ∀ g, vp'.ownBlock = some g → g ≠ b ∧ g ≠ bd ∧ g ≠ bv := fun g hg => h.np g (by rw [← he]; exact hg)
    exact ⟨hb1.set 4 _, (h.dur.kept (hfr.block bd h.dur.lt (fun e => (h.np bd e).2.1 rfl))).kept (e _ h.ne1.symm), (h.vis.kept (hfr.block bv h.vis.lt (fun e => (h.np bv e).2.2 rfl))).kept (e _ h.ne2.symm), ownsRow_kept ho (fun g hg => e g (hnp g hg).1), h.len, h.pos, h.max, h.hb, h.hbd, h.hbv, h.ne1, h.ne2, h.ne3, hnp⟩
  have HO := Lib.hid hown
  clear h hb1 hfr hown
  rcases HO.out.2 with ⟨rfl, h0⟩ | ⟨g, cap, cur, rfl, p1, p2, p3, p4, p5, p6⟩
  · clear h0
    go_enter Try.func36, Try.ntmps36
    go_wp2_with fail
    go_end0
    exact ⟨⟨_, rfl⟩, _, H1.out _ (World.ownsRow_nil _ _ _ _) rfl, rfl, HFR.out.setCell ⟨b, 4, none⟩ _ (.inl (.inl rfl))⟩
  · have HO0 : Hid (w1.ownsRow B 69 2 (.slice (some ⟨g, 0, none⟩) 0 cap) 0 []) := ⟨rfl, .inr ⟨g, cap, cur, rfl, p1, p2, Nat.zero_le _, p4, p5, by simp⟩⟩
    clear p1 p2 p5 p6 HO
    go_enter Try.func36, Try.ntmps36
    go_wp2_with fail
    go_end0
    exact ⟨⟨_, rfl⟩, _, H1.out _ HO0.out rfl, rfl, HFR.out.setCell ⟨b, 4, none⟩ _ (.inl (.inl rfl))⟩
end Go.Proofs.Ytdcnddbkjdbbbaa
