/-
  The walks of the disk's methods: Sync, Write.
-/
import Derived.WalkKit
import Derived.LoopTactic
import Derived.WalkSpells
import Derived.WalkLawsBesides
import Derived.RegionTactic
import Derived.BigRegion
import Derived.IntWalk
import Derived.Laws.CopyRow
import Derived.Lib.BufferWrite
import Derived.Test.YtdcnddbkjdbbbaaDiskD
set_option linter.unusedVariables false
set_option linter.unusedSimpArgs false
namespace Go.Proofs.Ytdcnddbkjdbbbaa
open Go.RowKit
theorem sizeU8 : (Try.prog.info? 5).map (·.size) = some 1 := by kernel_rfl
theorem cellsB_one (l : List UInt8) : ∀ v ∈ cellsB l, v.oneCell' = true := by
  intro v hv
  obtain ⟨x, _, rfl⟩ := List.mem_map.1 hv
  rfl
/-- 'copy(dst, src)' of one block of bytes into another, whole. -/
theorem run_copy_blk {W : World} {g k : Nat} {a c : List UInt8} (ha : Blk W g 5 (cellsB a)) (hc : Blk W k 5 (cellsB c)) (hl : a.length = c.length) (ty : TypeId) :
    (Builtin.copy_ #[40, 40] ty #[.slice (some ⟨g, 0, none⟩) c.length c.length, .slice (some ⟨k, 0, none⟩) c.length c.length]).run Try.prog W = .ok (goInt c.length) (W.setRow g (cellsB c).toArray) := by
  have h := run_copy_row (P := Try.prog) W 40 40 ty 5 g 0 c.length c.length ⟨k, 0, none⟩ c.length c.length (cellsB a).toArray 5 (cellsB c) Try.underlying40 sizeU8 ha (by rw [cellsB_len]; simp) (fun j v hj => by
      rw [show ((⟨k, 0, none⟩ : Addr).add j) = ⟨k, j, none⟩ from by unfold Addr.add; split <;> simp_all, hc.cell]
      exact hj) (by rw [cellsB_len]; simp [cellsB_len, hl]) (cellsB_one c)
  rw [cellsB_len] at h
  rw [h]
  congr 3
  simp [cellsB_len, hl]
/-- The durable content is set. -/
theorem DkAt.setDur {W : World} {B b bd bv : Nat} {vp : Value} {D : DS} (h : DkAt W B b bd bv vp D) (l : List UInt8) (hl : l.length = D.vis.length) : DkAt (W.setRow bd (cellsB l).toArray) B b bd bv vp { D with dur := l } := by
  have e : ∀ k, k ≠ bd → (W.setRow bd (cellsB l).toArray).heap[k]? = W.heap[k]? := fun k hk => heap_setRow_other _ _ _ _ hk
  exact ⟨h.blk.kept (e _ h.ne1), h.dur.setRow _, h.vis.kept (e _ h.ne3.symm), ownsRow_kept h.own (fun g hg => e g (h.np g hg).2.1), hl, h.pos, h.max, h.hb, h.hbd, h.hbv, h.ne1, h.ne2, h.ne3, h.np⟩
/-- The visible content is set. -/
theorem DkAt.setVis {W : World} {B b bd bv : Nat} {vp : Value} {D : DS} (h : DkAt W B b bd bv vp D) (l : List UInt8) (hl : l.length = D.vis.length) : DkAt (W.setRow bv (cellsB l).toArray) B b bd bv vp { D with vis := l } := by
  have e : ∀ k, k ≠ bv → (W.setRow bv (cellsB l).toArray).heap[k]? = W.heap[k]? := fun k hk => heap_setRow_other _ _ _ _ hk
  exact ⟨by rw [show ({ D with vis := l } : DS).vis.length = D.vis.length from hl]; exact h.blk.kept (e _ h.ne2), h.dur.kept (e _ h.ne3), h.vis.setRow _, ownsRow_kept h.own (fun g hg => e g (h.np g hg).2.2), by show D.dur.length = l.length; rw [hl]; exact h.len, by show 1 ≤ l.length; rw [hl]; exact h.pos, by show l.length ≤ _; rw [hl]; exact h.max, h.hb, h.hbd, h.hbv, h.ne1, h.ne2, h.ne3, h.np⟩
theorem DkAt.drew {W : World} {B b bd bv : Nat} {vp : Value} {D : DS} (h : DkAt W B b bd bv vp D) : DkAt W.drew B b bd bv vp D := h.kept (fun _ _ => rfl)
def syncD (D : DS) : DS := if D.lost then D else { D with dur := D.vis, pend := [] }
set_option maxRecDepth 100000 in
theorem sync_any (W : World) (B b bd bv : Nat) (vp : Value) (D : DS) (h : DkAt W B b bd bv vp D) :
    Calls Try.prog 23 #[.pointer (some ⟨b, 0, none⟩)] W fun e w' => e = .returned (.int .i64 (stE D)) ∧ ∃ vp', DkAt w' B b bd bv vp' (syncD D) ∧ vp'.ownBlock = vp.ownBlock ∧ Fr (Foot b bd bv vp) W w' := by
  have c2 := h.blk.cell 2
  have c3 := h.blk.cell 3
  simp only [List.getElem?_cons_zero, List.getElem?_cons_succ] at c2 c3
  have H := Lib.hid h
  clear h
  cases hl : D.lost
  · have hst : stE D = 0 := by unfold stE; rw [hl]; rfl
    have e2 : syncD D = { D with dur := D.vis, pend := [] } := by unfold syncD; rw [hl]; rfl
    rw [e2, hst]
    have HST := Lib.hid hst
    have hcp := run_copy_blk H.out.dur.drew H.out.vis.drew H.out.len
    have HD := Lib.hid (H.out.drew.setDur D.vis rfl)
    clear hst e2 hl
    go_enter Try.func23, Try.ntmps23
    go_wp2_with fail
    refine (state_any W B b bd bv vp D H.out).mono ?_
    rw [HST.out]
    rintro e w' ⟨rfl, rfl⟩
    go_wp2_with fail
    go_region
    go_wp2_with fail
    refine (settle_any _ B b bd bv vp _ HD.out).mono ?_
    rintro e w' ⟨⟨v, rfl⟩, vp', hd', ho', hf'⟩
    have HD' := Lib.hid hd'
    have HF' := Lib.hid hf'
    clear hd' hf'
    go_wp2_with fail
    go_ret
    exact ⟨rfl, vp', HD'.out, ho', ((Fr.refl _ W).drew.setRow bd _ (.inl (.inr (.inl rfl)))).trans HF'.out (fun _ _ h => h)⟩
  · have hst : stE D = 241 := by unfold stE; rw [hl]; rfl
    have e2 : syncD D = D := by unfold syncD; rw [hl]; rfl
    rw [e2, hst]
    have HST := Lib.hid hst
    clear hst e2 hl
    go_enter Try.func23, Try.ntmps23
    go_wp2_with fail
    refine (state_any W B b bd bv vp D H.out).mono ?_
    rw [HST.out]
    rintro e w' ⟨rfl, rfl⟩
    go_wp2_with fail
    go_ret
    exact ⟨rfl, vp, H.out, rfl, Fr.refl _ _⟩
end Go.Proofs.Ytdcnddbkjdbbbaa
