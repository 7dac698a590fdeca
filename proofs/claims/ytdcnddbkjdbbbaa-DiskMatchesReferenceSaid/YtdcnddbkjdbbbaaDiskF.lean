/-
  The walk of the disk's method Write.
-/
import Derived.WalkKit
import Derived.LoopTactic
import Derived.WalkSpells
import Derived.WalkLawsBesides
import Derived.RegionTactic
import Derived.BigRegion
import Derived.IntWalk
import Derived.Lib.BufferWrite
import Derived.Test.YtdcnddbkjdbbbaaDiskE
set_option linter.unusedVariables false
set_option linter.unusedSimpArgs false
namespace Go.Proofs.Ytdcnddbkjdbbbaa
open Go.RowKit
theorem Try.infoW : (Try.prog.info? 69).map (fun i => (i.zero, i.size, i.bytes)) = some (some (.agg #[.int .i64 0, .string ⟨#[]⟩]), 2, 24) := by kernel_rfl
/-- s written at off. -/
def splice (l : List UInt8) (off : Nat) (s : List UInt8) : List UInt8 := l.take off ++ s ++ l.drop (off + s.length)
theorem splice_len (l : List UInt8) (off : Nat) (s : List UInt8) (h : off + s.length ≤ l.length) : (splice l off s).length = l.length := by
  simp [splice]; omega
theorem splice_nil (l : List UInt8) (off : Nat) : splice l off [] = l := by simp [splice]
theorem byteCells_eq (l : List UInt8) : Lib.byteCells l = cellsB l := rfl
/-- 'copy(dst[off:], s)', s a string. -/
theorem run_copy_str {W : World} {g : Nat} {a : List UInt8} (ha : Blk W g 5 (cellsB a)) (off n cap : Nat) (s : ByteArray) (hs : s.size ≤ n) (hf : off + s.size ≤ a.length) (ty : TypeId) :
    (Builtin.copy_ #[40, 9] ty #[.slice (some ⟨g, off, none⟩) n cap, .string s]).run Try.prog W = .ok (goInt s.size) (W.setRow g (cellsB (splice a off s.data.toList)).toArray) := by
  have h := Lib.run_copy_row_string (P := Try.prog) W 40 9 ty 5 g off n cap s (cellsB a).toArray 5 Try.underlying40 sizeU8 ha hs (by simp [cellsB_len]; exact hf)
  rw [h, byteCells_eq]
  congr 3
  simp only [splice, cellsB_append, cellsB_take, cellsB_drop, blen]
def writeE (D : DS) (off : Int) (s : ByteArray) : Int := if D.lost then 241 else if insB D off s.size then 0 else 240
def writeD (D : DS) (off : Int) (s : ByteArray) : DS := if D.lost then D else if insB D off s.size then wroteD { D with vis := splice D.vis off.toNat s.data.toList, pend := D.pend ++ [(off.toNat, s)] } else D
theorem pcells_snoc (l : List (Nat × ByteArray)) (o : Nat) (s : ByteArray) : pcells l ++ [.int .i64 (o : Int), .string s] = pcells (l ++ [(o, s)]) := by simp [pcells]
set_option maxHeartbeats 1000000 in
set_option maxRecDepth 100000 in
theorem write_ok (W : World) (B b bd bv : Nat) (vp : Value) (D : DS) (o : Nat) (s : ByteArray) (hB : B ≤ W.heap.size) (hl : D.lost = false) (hin : o + s.size ≤ D.vis.length) (hpl : D.pend.length ≤ 1000000) (hcut : D.cut ≤ 9223372036854775807) (h : DkAt W B b bd bv vp D) :
    Calls Try.prog 21 #[.pointer (some ⟨b, 0, none⟩), .int .i64 o, .string s] W fun e w' => e = .returned (.int .i64 0) ∧ ∃ vp', DkAt w' B b bd bv vp' (wroteD { D with vis := splice D.vis o s.data.toList, pend := D.pend ++ [(o, s)] }) ∧ (∀ k, vp'.ownBlock = some k → vp.ownBlock = some k ∨ W.heap.size ≤ k) ∧ Fr (Foot b bd bv vp) W w' := by
  have hm := h.max
  have hst : stE D = 0 := by unfold stE; rw [hl]; rfl
  have hii : insB D o s.size = true := decide_eq_true (by omega)
  have HST := Lib.hid hst
  have HII := Lib.hid hii
  obtain ⟨i0, hi, hz0, hz1, hz2⟩ := info_parts Try.infoW
  -- the append
  have hownA : (W.alloc (.cells #[.int .i64 (o : Int), .string s] 69)).ownsRow B 69 2 vp D.pend.length (pcells D.pend) := h.own.alloc _
  have hnew : Blk (W.alloc (.cells #[.int .i64 (o : Int), .string s] 69)) W.heap.size 69 [.int .i64 (o : Int), .string s] := Blk.new W _ _
  obtain ⟨v', w1, hrun, ho1, hf1, hk1⟩ := app_own (P := Try.prog) (W := W.alloc (.cells #[.int .i64 (o : Int), .string s] 69)) B 63 63 69 i0 (.agg #[.int .i64 0, .string ⟨#[]⟩]) 2 24 Try.underlying63 hi hz0 hz1 hz2 rfl (by decide) vp D.pend.length (pcells D.pend) hownA ⟨W.heap.size, 0, none⟩ 1 1 [.int .i64 (o : Int), .string s] rfl (fun j u hj => by
      rw [show ((⟨W.heap.size, 0, none⟩ : Addr).add j) = ⟨W.heap.size, j, none⟩ from by unfold Addr.add; split <;> simp_all, hnew.cell]
      exact hj) (by intro u hu; simp at hu; rcases hu with rfl | rfl <;> rfl) (by unfold maxLen; omega) (by omega) (by simp; omega)
  rw [pcells_snoc] at ho1
  have hW1 : Fr (Foot b bd bv vp) W w1 := ((Fr.refl _ W).alloc _).trans hf1 (fun k _ hk => .inr (.inr (.inr hk)))
  have hlt : ∀ k, k < W.heap.size → vp.ownBlock ≠ some k → w1.heap[k]? = W.heap[k]? := fun k hk hn => by
    rw [hf1.block k (by simp; omega) hn, Below.heap_alloc _ _ _ hk]
  have nv : ∀ k, k = b ∨ k = bd ∨ k = bv → vp.ownBlock ≠ some k := fun k hk e => by
    have := h.np k e
    rcases hk with rfl | rfl | rfl
    · exact this.1 rfl
    · exact this.2.1 rfl
    · exact this.2.2 rfl
  have hb1 : Blk w1 b 65 _ := h.blk.kept (hlt b h.blk.lt (nv b (.inl rfl)))
  have hd1 := h.dur.kept (hlt bd h.dur.lt (nv bd (.inr (.inl rfl))))
  have hv1 := h.vis.kept (hlt bv h.vis.lt (nv bv (.inr (.inr rfl))))
  have np1 : ∀ g, v'.ownBlock = some g → g ≠ b ∧ g ≠ bd ∧ g ≠ bv := fun g hg => by
    rcases hk1 g hg with hg' | hg'
    · exact h.np g hg'
    · have q1 := h.blk.lt
      have q2 := h.dur.lt
      have q3 := h.vis.lt
      simp at hg'
      omega
  have hD1 : DkAt (w1.setCell ⟨b, 4, none⟩ v') B b bd bv v' { D with pend := D.pend ++ [(o, s)] } := by
    have e : ∀ k, k ≠ b → (w1.setCell ⟨b, 4, none⟩ v').heap[k]? = w1.heap[k]? := fun k hk => by
      rw [Below.heap_setCell _ _ _ _ hk]
    exact ⟨hb1.set 4 _, hd1.kept (e _ h.ne1.symm), hv1.kept (e _ h.ne2.symm), ownsRow_kept (by rw [List.length_append]; exact ho1) (fun g hg => e g (np1 g hg).1), h.len, h.pos, h.max, h.hb, h.hbd, h.hbv, h.ne1, h.ne2, h.ne3, np1⟩
  obtain ⟨oa, nn, cap, rfl⟩ : ∃ oa nn cap, v' = .slice oa nn cap := by
    rcases ho1.2 with ⟨rfl, _⟩ | ⟨g, cap, _, rfl, _⟩
    · exact ⟨_, _, _, rfl⟩
    · exact ⟨_, _, _, rfl⟩
  have hF1 : Fr (Foot b bd bv vp) W (w1.setCell ⟨b, 4, none⟩ (.slice oa nn cap)) := hW1.setCell ⟨b, 4, none⟩ _ (.inl (.inl rfl))
  -- cells
  have c4 := h.blk.cell 4
  have c4' := hb1.cell 4
  have f4' := hb1.frozen 4
  have c3' := hD1.blk.cell 3
  simp only [List.getElem?_cons_zero, List.getElem?_cons_succ] at c4 c4' c3'
  have hD2 := hD1.setVis (splice D.vis o s.data.toList) (splice_len _ _ _ (by rw [blen]; exact hin))
  have HV := Lib.hid hD1.vis
  have HD1 := Lib.hid hD1
  have HD2 := Lib.hid hD2
  have HF1 := Lib.hid hF1
  have HK1 := Lib.hid hk1
  have H := Lib.hid h
  clear hownA hnew ho1 hf1 hW1 hlt nv hb1 hd1 hv1 np1 hD1 hD2 hF1 hk1 h hst hii hi hz0 hz1 hz2 hl
  go_enter Try.func21, Try.ntmps21
  go_wp2_with fail
  refine (state_any W B b bd bv vp D H.out).mono ?_
  rw [HST.out]
  rintro e w' ⟨rfl, rfl⟩
  go_wp2_with fail
  refine (inside_any W B b bd bv vp D _ _ (by omega) (by omega) (by omega) (by omega) H.out).mono ?_
  rw [HII.out]
  rintro e w' ⟨rfl, rfl⟩
  by_cases hs0 : s.size = 0
  · have hdl : s.data.toList = [] := List.eq_nil_of_length_eq_zero (by rw [blen]; exact hs0)
    have hce := fun (W : World) (d : Option Addr) (n c : Nat) (ty : TypeId) => Lib.run_copy_empty_string (P := Try.prog) W 40 9 ty 5 d n c s Try.underlying40 (by rw [sizeU8]; rfl) hs0
    have HD3 : Hid (DkAt (w1.setCell ⟨b, 4, none⟩ (.slice oa nn cap)) B b bd bv (.slice oa nn cap) { D with vis := splice D.vis o s.data.toList, pend := D.pend ++ [(o, s)] }) := by
      show DkAt _ _ _ _ _ _ _
      rw [hdl, splice_nil]
      exact HD1.out
    clear HD2 HD1 HV hdl hs0
    go_wp2_with (at_builtin; refine wpList_append_run _ rfl _ _ 63 rfl _ _ _ _ rfl rfl hrun ?_)
    all_goals
      refine (written_any _ B b bd bv _ _ HD3.out hcut).mono ?_
      rintro e w' ⟨⟨v, rfl⟩, hd', hf'⟩
      have HD' := Lib.hid hd'
      have HF' := Lib.hid hf'
      clear hd' hf'
      go_wp2_with fail
      go_ret
      exact ⟨rfl, _, HD'.out, fun k hk => (HK1.out k hk).imp_right (fun h => by simp at h; omega), HF1.out.trans HF'.out (fun _ _ h => .inl h)⟩
  · have hcp := run_copy_str HV.out o (D.vis.length - o) (D.vis.length - o) s (by omega) (by omega)
    have hol : (o : Int) < (D.vis.length : Int) := by omega
    go_wp2_with (at_builtin; refine wpList_append_run _ rfl _ _ 63 rfl _ _ _ _ rfl rfl hrun ?_)
    refine (written_any _ B b bd bv _ _ HD2.out hcut).mono ?_
    rintro e w' ⟨⟨v, rfl⟩, hd', hf'⟩
    have HD' := Lib.hid hd'
    have HF' := Lib.hid hf'
    clear hd' hf'
    go_wp2_with fail
    go_ret
    exact ⟨rfl, _, HD'.out, fun k hk => (HK1.out k hk).imp_right (fun h => by simp at h; omega), (HF1.out.setRow bv _ (.inl (.inr (.inr (.inl rfl))))).trans HF'.out (fun _ _ h => .inl h)⟩
set_option maxRecDepth 100000 in
theorem write_any (W : World) (B b bd bv : Nat) (vp : Value) (D : DS) (off : Int) (s : ByteArray) (ho : -9223372036854775808 ≤ off) (ho1 : off ≤ 9223372036854775807) (hs : s.size ≤ maxLen) (hB : B ≤ W.heap.size) (hpl : D.pend.length ≤ 1000000) (hcut : D.cut ≤ 9223372036854775807) (h : DkAt W B b bd bv vp D) :
    Calls Try.prog 21 #[.pointer (some ⟨b, 0, none⟩), .int .i64 off, .string s] W fun e w' => e = .returned (.int .i64 (writeE D off s)) ∧ ∃ vp', DkAt w' B b bd bv vp' (writeD D off s) ∧ (∀ k, vp'.ownBlock = some k → vp.ownBlock = some k ∨ W.heap.size ≤ k) ∧ Fr (Foot b bd bv vp) W w' := by
  unfold maxLen at hs
  cases hl : D.lost
  · cases hi : insB D off s.size
    · have e1 : writeE D off s = 240 := by unfold writeE; rw [hl, hi]; rfl
      have e2 : writeD D off s = D := by unfold writeD; rw [hl, hi]; rfl
      have hst : stE D = 0 := by unfold stE; rw [hl]; rfl
      rw [e1, e2]
      have H := Lib.hid h
      have HI := Lib.hid hi
      have HST := Lib.hid hst
      clear e1 e2 hl hi hst h
      go_enter Try.func21, Try.ntmps21
      go_wp2_with fail
      refine (state_any W B b bd bv vp D H.out).mono ?_
      rw [HST.out]
      rintro e w' ⟨rfl, rfl⟩
      go_wp2_with fail
      refine (inside_any W B b bd bv vp D _ _ ho ho1 (by omega) (by omega) H.out).mono ?_
      rw [HI.out]
      rintro e w' ⟨rfl, rfl⟩
      go_wp2_with fail
      go_ret
      exact ⟨rfl, vp, H.out, fun k hk => .inl hk, Fr.refl _ _⟩
    · have hii := of_decide_eq_true hi
      have e1 : writeE D off s = 0 := by unfold writeE; rw [hl, hi]; rfl
      have e2 : writeD D off s = wroteD { D with vis := splice D.vis off.toNat s.data.toList, pend := D.pend ++ [(off.toNat, s)] } := by unfold writeD; rw [hl, hi]; rfl
      rw [e1, e2]
      obtain ⟨o, rfl⟩ : ∃ o : Nat, off = o := ⟨off.toNat, by omega⟩
      rw [Int.toNat_natCast]
      exact write_ok W B b bd bv vp D o s hB hl (by omega) hpl hcut h
  · have e1 : writeE D off s = 241 := by unfold writeE; rw [hl]; rfl
    have e2 : writeD D off s = D := by unfold writeD; rw [hl]; rfl
    have hst : stE D = 241 := by unfold stE; rw [hl]; rfl
    rw [e1, e2]
    have H := Lib.hid h
    have HST := Lib.hid hst
    clear e1 e2 hl hst h
    go_enter Try.func21, Try.ntmps21
    go_wp2_with fail
    refine (state_any W B b bd bv vp D H.out).mono ?_
    rw [HST.out]
    rintro e w' ⟨rfl, rfl⟩
    go_wp2_with fail
    go_ret
    exact ⟨rfl, vp, H.out, fun k hk => .inl hk, Fr.refl _ _⟩
end Go.Proofs.Ytdcnddbkjdbbbaa
