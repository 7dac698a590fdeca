/- Clauses: rights.Valid of a clause that holds what its kind does not use: false. UNDER WAY. -/
import Derived.Test.YtjkiidhnmljmbaaGreatDoorGoAD
import Derived.Test.YtjkiidhnmljmbaaGreatDoorOrF
set_option linter.unusedVariables false
set_option linter.unusedSimpArgs false
set_option maxRecDepth 100000
set_option maxHeartbeats 4000000
namespace Go.Proofs.YtjkiidhnmljmbaaGreatDoor
open Go.RowKit
def ClD.eqB (a b : ClD) : Bool := (a.kind == b.kind && (a.item == b.item && (a.frm == b.frm && (a.til == b.til && (a.regs == b.regs && (a.n == b.n && (a.a == b.a && a.b == b.b)))))))
theorem ClD.eqB_iff (a b : ClD) : a.eqB b = true ↔ a = b := by
 obtain ⟨a1, a2, a3, a4, a5, a6, a7, a8⟩ := a
 obtain ⟨b1, b2, b3, b4, b5, b6, b7, b8⟩ := b
 simp [ClD.eqB]
theorem gRValid_bad (c : ClD) (W : World) (h : c.eqB c.used = false) : Calls Tryz.prog 89 #[.agg c.l.toArray] W fun e w' => e = .returned (.bool false) ∧ Below W.heap.size W w' := by
 have HU := Lib.hid (fun W => gUsed c W)
 have heq := fun V : World => (eqClause c c.used V).trans (show _ = Result.ok false V from congrArg (fun x => Result.ok x V) h)
 obtain ⟨u, hu⟩ : ∃ u, c.used = u := ⟨_, rfl⟩
 rw [hu] at HU heq;clear h hu
 obtain ⟨kind, item, frm, til, regs, n, a, b⟩ := c
 obtain ⟨u1, u2, u3, u4, u5, u6, u7, u8⟩ := u
 obtain ⟨N, w1, hN, hw1, hb1, hk1⟩ := bx W (aC kind item frm til regs n a b) (lC kind item frm til regs n a b) 26 rfl
 have HKP : Hid (∀ W, Below w1.heap.size w1 W → W.cell? ⟨N, 0, none⟩ = some (.int .i64 kind) ∧ W.cell? ⟨N, 1, none⟩ = some (.int .i64 item) ∧ W.cell? ⟨N, 2, none⟩ = some (.int .i64 frm) ∧ W.cell? ⟨N, 3, none⟩ = some (.int .i64 til) ∧ W.cell? ⟨N, 4, none⟩ = some (.int .i64 regs) ∧ W.cell? ⟨N, 5, none⟩ = some (.int .i64 n) ∧ W.cell? ⟨N, 6, none⟩ = some (.int .i64 a) ∧ W.cell? ⟨N, 7, none⟩ = some (.int .i64 b)) := fun W hW => by
  have hk := hk1.kept (hW.block N hk1.lt)
  exact ⟨hk.cell 0, hk.cell 1, hk.cell 2, hk.cell 3, hk.cell 4, hk.cell 5, hk.cell 6, hk.cell 7⟩
 have HQ : Hid (Below w1.heap.size w1 w1.drew) := (Below.refl _ _).drew
 have HN := Lib.hid hN;have HB1 := Lib.hid hb1
 dsimp only [ClD.l] at HU heq
 show Calls Tryz.prog 89 #[.agg (aC kind item frm til regs n a b)] W _
 clear hb1 hk1
 go_enter Tryz.func89, Tryz.ntmps89
 go_upto_region 1 with (fail)
 refine wp_region_held_drew (S := fun W => W.cell? ⟨N, 0, none⟩ = some (.int .i64 kind) ∧ W.cell? ⟨N, 1, none⟩ = some (.int .i64 item) ∧ W.cell? ⟨N, 2, none⟩ = some (.int .i64 frm) ∧ W.cell? ⟨N, 3, none⟩ = some (.int .i64 til) ∧ W.cell? ⟨N, 4, none⟩ = some (.int .i64 regs) ∧ W.cell? ⟨N, 5, none⟩ = some (.int .i64 n) ∧ W.cell? ⟨N, 6, none⟩ = some (.int .i64 a) ∧ W.cell? ⟨N, 7, none⟩ = some (.int .i64 b)) (by kernel_rfl) ?_ (fun hHeld => ?_)
 ·exact HKP.out _ HQ.out
 generalize World.drew _ = z0 at HQ hHeld ⊢
 refine tk 0 (some 4) ?_;refine tk 1 (some 5) ?_
 refine rd1 2 (some 6) (fun K hK => ?_)
 go_simp
 refine (HU.out _).mono ?_
 rintro e z ⟨rfl, hbz⟩
 have HQ := Lib.hid (HQ.out.trans (hbz.mono HQ.out.size))
 clear hbz;go_simp
 refine hK.out _ _ ?_ (fun hHeld2 => ?_)
 ·exact HKP.out _ HQ.out
 clear hK K hHeld;rename _ => hHeld
 refine tk 3 (some 7) (v := .bool true) ?_ (hy := by (intro w hSw; (try dsimp only at hSw); go_simp; (first | done | (with_reducible rfl) | exact rfl | simpa using rfl)))
 refine wpAnyH_done (by kernel_rfl) ?_ _;clear hHeld
 go_wp2_with fail
 go_ret
 exact ⟨rfl, by rw [HN.out]; exact HB1.out.trans (HQ.out.mono (bnl9 HN.out HB1.out))⟩
theorem gRValid1 (item frm til regs n a b : Int) (W : World) (h : (⟨1, item, frm, til, regs, n, a, b⟩ : ClD).eqB (⟨1, item, frm, til, regs, n, a, b⟩ : ClD).used = true) : Calls Tryz.prog 89 #[.agg (aC 1 item frm til regs n a b)] W fun e w' => e = .returned (.bool (decide (((1 ≤ item ∧ item ≤ 4611686018427387903) ∧ (1 ≤ regs ∧ regs ≤ 255)) ∧ (0 ≤ frm ∧ (frm < til ∧ til ≤ 10000000000))))) ∧ Below W.heap.size W w' := by
 have HU := Lib.hid (fun W => gUsed (⟨1, item, frm, til, regs, n, a, b⟩ : ClD) W)
 have heq := fun V : World => (eqClause (⟨1, item, frm, til, regs, n, a, b⟩ : ClD) (⟨1, item, frm, til, regs, n, a, b⟩ : ClD).used V).trans (show _ = Result.ok true V from congrArg (fun x => Result.ok x V) h)
 have HII := Lib.hid (fun W => gIsItem (⟨1, item, frm, til, regs, n, a, b⟩ : ClD) W)
 obtain ⟨u, hu⟩ : ∃ u, (⟨1, item, frm, til, regs, n, a, b⟩ : ClD).used = u := ⟨_, rfl⟩
 rw [hu] at HU heq;clear h hu
 obtain ⟨u1, u2, u3, u4, u5, u6, u7, u8⟩ := u
 obtain ⟨N, w1, hN, hw1, hb1, hk1⟩ := bx W (aC 1 item frm til regs n a b) (aC 1 item frm til regs n a b).toList 26 rfl
 have HKP : Hid (∀ W, Below w1.heap.size w1 W → W.cell? ⟨N, 0, none⟩ = some (.int .i64 1) ∧ W.cell? ⟨N, 1, none⟩ = some (.int .i64 item) ∧ W.cell? ⟨N, 2, none⟩ = some (.int .i64 frm) ∧ W.cell? ⟨N, 3, none⟩ = some (.int .i64 til) ∧ W.cell? ⟨N, 4, none⟩ = some (.int .i64 regs) ∧ W.cell? ⟨N, 5, none⟩ = some (.int .i64 n) ∧ W.cell? ⟨N, 6, none⟩ = some (.int .i64 a) ∧ W.cell? ⟨N, 7, none⟩ = some (.int .i64 b)) := fun W hW => by
  have hk := hk1.kept (hW.block N hk1.lt)
  exact ⟨hk.cell 0, hk.cell 1, hk.cell 2, hk.cell 3, hk.cell 4, hk.cell 5, hk.cell 6, hk.cell 7⟩
 have HQ : Hid (Below w1.heap.size w1 w1.drew) := (Below.refl _ _).drew
 have HN := Lib.hid hN;have HB1 := Lib.hid hb1
 dsimp only [ClD.l] at HU heq HII
 obtain ⟨sp, hsp⟩ : ∃ sp, (decide (((1 ≤ item ∧ item ≤ 4611686018427387903) ∧ (1 ≤ regs ∧ regs ≤ 255)) ∧ (0 ≤ frm ∧ (frm < til ∧ til ≤ 10000000000)))) = sp := ⟨_, rfl⟩
 rw [hsp];have HSP := Lib.hid hsp;clear hb1 hk1 hsp
 go_enter Tryz.func89, Tryz.ntmps89
 go_upto_region 1 with (fail)
 refine wp_region_held_drew (S := fun W => W.cell? ⟨N, 0, none⟩ = some (.int .i64 1) ∧ W.cell? ⟨N, 1, none⟩ = some (.int .i64 item) ∧ W.cell? ⟨N, 2, none⟩ = some (.int .i64 frm) ∧ W.cell? ⟨N, 3, none⟩ = some (.int .i64 til) ∧ W.cell? ⟨N, 4, none⟩ = some (.int .i64 regs) ∧ W.cell? ⟨N, 5, none⟩ = some (.int .i64 n) ∧ W.cell? ⟨N, 6, none⟩ = some (.int .i64 a) ∧ W.cell? ⟨N, 7, none⟩ = some (.int .i64 b)) (by kernel_rfl) ?_ (fun hHeld => ?_)
 ·exact HKP.out _ HQ.out
 generalize World.drew _ = z0 at HQ hHeld ⊢
 refine tk 0 (some 4) ?_;refine tk 1 (some 5) ?_
 refine rd1 2 (some 6) (fun K hK => ?_)
 go_simp
 refine (HU.out _).mono ?_
 rintro e z ⟨rfl, hbz⟩
 have HQ := Lib.hid (HQ.out.trans (hbz.mono HQ.out.size))
 clear hbz;go_simp
 refine hK.out _ _ ?_ (fun hHeld2 => ?_)
 ·exact HKP.out _ HQ.out
 clear hK K hHeld;rename _ => hHeld
 refine tk 3 (some 7) (v := .bool false) ?_ (hy := by (intro w hSw; (try dsimp only at hSw); go_simp; (first | done | (with_reducible rfl) | exact rfl | simpa using rfl)))
 refine wpAnyH_done (by kernel_rfl) ?_ _;clear hHeld
 obtain ⟨k0, k1, k2, k3, k4, k5, k6, k7⟩ := HKP.out _ HQ.out
 go_wp2_with fail
 refine (HII.out _).mono ?_
 rintro e z1 ⟨rfl, hb⟩
 have HQ := Lib.hid (HQ.out.trans (hb.mono HQ.out.size))
 clear hb k0 k1 k2 k3 k4 k5 k6 k7
 obtain ⟨k0, k1, k2, k3, k4, k5, k6, k7⟩ := HKP.out _ HQ.out
 by_cases hi : (1 ≤ item ∧ item ≤ 4611686018427387903) ∧ (1 ≤ regs ∧ regs ≤ 255)
 ·rw [decide_eq_true hi]; rcases (show ¬ 0 ≤ frm ∨ (0 ≤ frm ∧ ¬ frm < til) ∨ (0 ≤ frm ∧ frm < til ∧ ¬ til ≤ 10000000000) ∨ (0 ≤ frm ∧ frm < til ∧ til ≤ 10000000000) from by omega) with h1 | ⟨h1, h2⟩ | ⟨h1, h2, h3⟩ | ⟨h1, h2, h3⟩
  ·have HV : Hid (sp = false) := HSP.out.symm.trans (decide_eq_false (by omega)); clear hi; go_wp2_with fail; go_ret; exact ⟨by rw [HV.out]; first | rfl | (simp; done) | (simp; omega), by first | exact HB1.out.trans (HQ.out.mono (bnl9 HN.out HB1.out)) | (rw [HN.out]; exact HB1.out.trans (HQ.out.mono (bnl9 HN.out HB1.out)))⟩
  ·have HV : Hid (sp = false) := HSP.out.symm.trans (decide_eq_false (by omega)); clear hi; go_wp2_with fail; go_ret; exact ⟨by rw [HV.out]; first | rfl | (simp; done) | (simp; omega), by first | exact HB1.out.trans (HQ.out.mono (bnl9 HN.out HB1.out)) | (rw [HN.out]; exact HB1.out.trans (HQ.out.mono (bnl9 HN.out HB1.out)))⟩
  ·have HV : Hid (sp = false) := HSP.out.symm.trans (decide_eq_false (by omega)); clear hi; go_wp2_with fail; go_ret; exact ⟨by rw [HV.out]; first | rfl | (simp; done) | (simp; omega), by first | exact HB1.out.trans (HQ.out.mono (bnl9 HN.out HB1.out)) | (rw [HN.out]; exact HB1.out.trans (HQ.out.mono (bnl9 HN.out HB1.out)))⟩
  ·have HV : Hid (sp = true) := HSP.out.symm.trans (decide_eq_true (by omega)); clear hi; go_wp2_with fail; go_ret; exact ⟨by rw [HV.out]; first | rfl | (simp; done) | (simp; omega), by first | exact HB1.out.trans (HQ.out.mono (bnl9 HN.out HB1.out)) | (rw [HN.out]; exact HB1.out.trans (HQ.out.mono (bnl9 HN.out HB1.out)))⟩
 ·rw [decide_eq_false hi]; have HV : Hid (sp = false) := HSP.out.symm.trans (decide_eq_false (fun h => hi h.1)); clear hi; go_wp2_with fail; go_ret; exact ⟨by rw [HV.out]; first | rfl | (simp; done) | (simp; omega), by first | exact HB1.out.trans (HQ.out.mono (bnl9 HN.out HB1.out)) | (rw [HN.out]; exact HB1.out.trans (HQ.out.mono (bnl9 HN.out HB1.out)))⟩
theorem gRValid2 (item frm til regs n a b : Int) (W : World) (h : (⟨2, item, frm, til, regs, n, a, b⟩ : ClD).eqB (⟨2, item, frm, til, regs, n, a, b⟩ : ClD).used = true) : Calls Tryz.prog 89 #[.agg (aC 2 item frm til regs n a b)] W fun e w' => e = .returned (.bool (decide (((1 ≤ item ∧ item ≤ 4611686018427387903) ∧ (1 ≤ regs ∧ regs ≤ 255)) ∧ (0 ≤ frm ∧ (frm < til ∧ til ≤ 10000000000))))) ∧ Below W.heap.size W w' := by
 have HU := Lib.hid (fun W => gUsed (⟨2, item, frm, til, regs, n, a, b⟩ : ClD) W)
 have heq := fun V : World => (eqClause (⟨2, item, frm, til, regs, n, a, b⟩ : ClD) (⟨2, item, frm, til, regs, n, a, b⟩ : ClD).used V).trans (show _ = Result.ok true V from congrArg (fun x => Result.ok x V) h)
 have HII := Lib.hid (fun W => gIsItem (⟨2, item, frm, til, regs, n, a, b⟩ : ClD) W)
 obtain ⟨u, hu⟩ : ∃ u, (⟨2, item, frm, til, regs, n, a, b⟩ : ClD).used = u := ⟨_, rfl⟩
 rw [hu] at HU heq;clear h hu
 obtain ⟨u1, u2, u3, u4, u5, u6, u7, u8⟩ := u
 obtain ⟨N, w1, hN, hw1, hb1, hk1⟩ := bx W (aC 2 item frm til regs n a b) (aC 2 item frm til regs n a b).toList 26 rfl
 have HKP : Hid (∀ W, Below w1.heap.size w1 W → W.cell? ⟨N, 0, none⟩ = some (.int .i64 2) ∧ W.cell? ⟨N, 1, none⟩ = some (.int .i64 item) ∧ W.cell? ⟨N, 2, none⟩ = some (.int .i64 frm) ∧ W.cell? ⟨N, 3, none⟩ = some (.int .i64 til) ∧ W.cell? ⟨N, 4, none⟩ = some (.int .i64 regs) ∧ W.cell? ⟨N, 5, none⟩ = some (.int .i64 n) ∧ W.cell? ⟨N, 6, none⟩ = some (.int .i64 a) ∧ W.cell? ⟨N, 7, none⟩ = some (.int .i64 b)) := fun W hW => by
  have hk := hk1.kept (hW.block N hk1.lt)
  exact ⟨hk.cell 0, hk.cell 1, hk.cell 2, hk.cell 3, hk.cell 4, hk.cell 5, hk.cell 6, hk.cell 7⟩
 have HQ : Hid (Below w1.heap.size w1 w1.drew) := (Below.refl _ _).drew
 have HN := Lib.hid hN;have HB1 := Lib.hid hb1
 dsimp only [ClD.l] at HU heq HII
 obtain ⟨sp, hsp⟩ : ∃ sp, (decide (((1 ≤ item ∧ item ≤ 4611686018427387903) ∧ (1 ≤ regs ∧ regs ≤ 255)) ∧ (0 ≤ frm ∧ (frm < til ∧ til ≤ 10000000000)))) = sp := ⟨_, rfl⟩
 rw [hsp];have HSP := Lib.hid hsp;clear hb1 hk1 hsp
 go_enter Tryz.func89, Tryz.ntmps89
 go_upto_region 1 with (fail)
 refine wp_region_held_drew (S := fun W => W.cell? ⟨N, 0, none⟩ = some (.int .i64 2) ∧ W.cell? ⟨N, 1, none⟩ = some (.int .i64 item) ∧ W.cell? ⟨N, 2, none⟩ = some (.int .i64 frm) ∧ W.cell? ⟨N, 3, none⟩ = some (.int .i64 til) ∧ W.cell? ⟨N, 4, none⟩ = some (.int .i64 regs) ∧ W.cell? ⟨N, 5, none⟩ = some (.int .i64 n) ∧ W.cell? ⟨N, 6, none⟩ = some (.int .i64 a) ∧ W.cell? ⟨N, 7, none⟩ = some (.int .i64 b)) (by kernel_rfl) ?_ (fun hHeld => ?_)
 ·exact HKP.out _ HQ.out
 generalize World.drew _ = z0 at HQ hHeld ⊢
 refine tk 0 (some 4) ?_;refine tk 1 (some 5) ?_
 refine rd1 2 (some 6) (fun K hK => ?_)
 go_simp
 refine (HU.out _).mono ?_
 rintro e z ⟨rfl, hbz⟩
 have HQ := Lib.hid (HQ.out.trans (hbz.mono HQ.out.size))
 clear hbz;go_simp
 refine hK.out _ _ ?_ (fun hHeld2 => ?_)
 ·exact HKP.out _ HQ.out
 clear hK K hHeld;rename _ => hHeld
 refine tk 3 (some 7) (v := .bool false) ?_ (hy := by (intro w hSw; (try dsimp only at hSw); go_simp; (first | done | (with_reducible rfl) | exact rfl | simpa using rfl)))
 refine wpAnyH_done (by kernel_rfl) ?_ _;clear hHeld
 obtain ⟨k0, k1, k2, k3, k4, k5, k6, k7⟩ := HKP.out _ HQ.out
 go_wp2_with fail
 refine (HII.out _).mono ?_
 rintro e z1 ⟨rfl, hb⟩
 have HQ := Lib.hid (HQ.out.trans (hb.mono HQ.out.size))
 clear hb k0 k1 k2 k3 k4 k5 k6 k7
 obtain ⟨k0, k1, k2, k3, k4, k5, k6, k7⟩ := HKP.out _ HQ.out
 by_cases hi : (1 ≤ item ∧ item ≤ 4611686018427387903) ∧ (1 ≤ regs ∧ regs ≤ 255)
 ·rw [decide_eq_true hi]; rcases (show ¬ 0 ≤ frm ∨ (0 ≤ frm ∧ ¬ frm < til) ∨ (0 ≤ frm ∧ frm < til ∧ ¬ til ≤ 10000000000) ∨ (0 ≤ frm ∧ frm < til ∧ til ≤ 10000000000) from by omega) with h1 | ⟨h1, h2⟩ | ⟨h1, h2, h3⟩ | ⟨h1, h2, h3⟩
  ·have HV : Hid (sp = false) := HSP.out.symm.trans (decide_eq_false (by omega)); clear hi; go_wp2_with fail; go_ret; exact ⟨by rw [HV.out]; first | rfl | (simp; done) | (simp; omega), by first | exact HB1.out.trans (HQ.out.mono (bnl9 HN.out HB1.out)) | (rw [HN.out]; exact HB1.out.trans (HQ.out.mono (bnl9 HN.out HB1.out)))⟩
  ·have HV : Hid (sp = false) := HSP.out.symm.trans (decide_eq_false (by omega)); clear hi; go_wp2_with fail; go_ret; exact ⟨by rw [HV.out]; first | rfl | (simp; done) | (simp; omega), by first | exact HB1.out.trans (HQ.out.mono (bnl9 HN.out HB1.out)) | (rw [HN.out]; exact HB1.out.trans (HQ.out.mono (bnl9 HN.out HB1.out)))⟩
  ·have HV : Hid (sp = false) := HSP.out.symm.trans (decide_eq_false (by omega)); clear hi; go_wp2_with fail; go_ret; exact ⟨by rw [HV.out]; first | rfl | (simp; done) | (simp; omega), by first | exact HB1.out.trans (HQ.out.mono (bnl9 HN.out HB1.out)) | (rw [HN.out]; exact HB1.out.trans (HQ.out.mono (bnl9 HN.out HB1.out)))⟩
  ·have HV : Hid (sp = true) := HSP.out.symm.trans (decide_eq_true (by omega)); clear hi; go_wp2_with fail; go_ret; exact ⟨by rw [HV.out]; first | rfl | (simp; done) | (simp; omega), by first | exact HB1.out.trans (HQ.out.mono (bnl9 HN.out HB1.out)) | (rw [HN.out]; exact HB1.out.trans (HQ.out.mono (bnl9 HN.out HB1.out)))⟩
 ·rw [decide_eq_false hi]; have HV : Hid (sp = false) := HSP.out.symm.trans (decide_eq_false (fun h => hi h.1)); clear hi; go_wp2_with fail; go_ret; exact ⟨by rw [HV.out]; first | rfl | (simp; done) | (simp; omega), by first | exact HB1.out.trans (HQ.out.mono (bnl9 HN.out HB1.out)) | (rw [HN.out]; exact HB1.out.trans (HQ.out.mono (bnl9 HN.out HB1.out)))⟩
theorem gRValid3 (item frm til regs n a b : Int) (W : World) (h : (⟨3, item, frm, til, regs, n, a, b⟩ : ClD).eqB (⟨3, item, frm, til, regs, n, a, b⟩ : ClD).used = true) : Calls Tryz.prog 89 #[.agg (aC 3 item frm til regs n a b)] W fun e w' => e = .returned (.bool (decide (((1 ≤ item ∧ item ≤ 4611686018427387903) ∧ (1 ≤ regs ∧ regs ≤ 255)) ∧ (0 ≤ n ∧ n ≤ 1000)))) ∧ Below W.heap.size W w' := by
 have HU := Lib.hid (fun W => gUsed (⟨3, item, frm, til, regs, n, a, b⟩ : ClD) W)
 have heq := fun V : World => (eqClause (⟨3, item, frm, til, regs, n, a, b⟩ : ClD) (⟨3, item, frm, til, regs, n, a, b⟩ : ClD).used V).trans (show _ = Result.ok true V from congrArg (fun x => Result.ok x V) h)
 have HII := Lib.hid (fun W => gIsItem (⟨3, item, frm, til, regs, n, a, b⟩ : ClD) W)
 obtain ⟨u, hu⟩ : ∃ u, (⟨3, item, frm, til, regs, n, a, b⟩ : ClD).used = u := ⟨_, rfl⟩
 rw [hu] at HU heq;clear h hu
 obtain ⟨u1, u2, u3, u4, u5, u6, u7, u8⟩ := u
 obtain ⟨N, w1, hN, hw1, hb1, hk1⟩ := bx W (aC 3 item frm til regs n a b) (aC 3 item frm til regs n a b).toList 26 rfl
 have HKP : Hid (∀ W, Below w1.heap.size w1 W → W.cell? ⟨N, 0, none⟩ = some (.int .i64 3) ∧ W.cell? ⟨N, 1, none⟩ = some (.int .i64 item) ∧ W.cell? ⟨N, 2, none⟩ = some (.int .i64 frm) ∧ W.cell? ⟨N, 3, none⟩ = some (.int .i64 til) ∧ W.cell? ⟨N, 4, none⟩ = some (.int .i64 regs) ∧ W.cell? ⟨N, 5, none⟩ = some (.int .i64 n) ∧ W.cell? ⟨N, 6, none⟩ = some (.int .i64 a) ∧ W.cell? ⟨N, 7, none⟩ = some (.int .i64 b)) := fun W hW => by
  have hk := hk1.kept (hW.block N hk1.lt)
  exact ⟨hk.cell 0, hk.cell 1, hk.cell 2, hk.cell 3, hk.cell 4, hk.cell 5, hk.cell 6, hk.cell 7⟩
 have HQ : Hid (Below w1.heap.size w1 w1.drew) := (Below.refl _ _).drew
 have HN := Lib.hid hN;have HB1 := Lib.hid hb1
 dsimp only [ClD.l] at HU heq HII
 obtain ⟨sp, hsp⟩ : ∃ sp, (decide (((1 ≤ item ∧ item ≤ 4611686018427387903) ∧ (1 ≤ regs ∧ regs ≤ 255)) ∧ (0 ≤ n ∧ n ≤ 1000))) = sp := ⟨_, rfl⟩
 rw [hsp];have HSP := Lib.hid hsp;clear hb1 hk1 hsp
 go_enter Tryz.func89, Tryz.ntmps89
 go_upto_region 1 with (fail)
 refine wp_region_held_drew (S := fun W => W.cell? ⟨N, 0, none⟩ = some (.int .i64 3) ∧ W.cell? ⟨N, 1, none⟩ = some (.int .i64 item) ∧ W.cell? ⟨N, 2, none⟩ = some (.int .i64 frm) ∧ W.cell? ⟨N, 3, none⟩ = some (.int .i64 til) ∧ W.cell? ⟨N, 4, none⟩ = some (.int .i64 regs) ∧ W.cell? ⟨N, 5, none⟩ = some (.int .i64 n) ∧ W.cell? ⟨N, 6, none⟩ = some (.int .i64 a) ∧ W.cell? ⟨N, 7, none⟩ = some (.int .i64 b)) (by kernel_rfl) ?_ (fun hHeld => ?_)
 ·exact HKP.out _ HQ.out
 generalize World.drew _ = z0 at HQ hHeld ⊢
 refine tk 0 (some 4) ?_;refine tk 1 (some 5) ?_
 refine rd1 2 (some 6) (fun K hK => ?_)
 go_simp
 refine (HU.out _).mono ?_
 rintro e z ⟨rfl, hbz⟩
 have HQ := Lib.hid (HQ.out.trans (hbz.mono HQ.out.size))
 clear hbz;go_simp
 refine hK.out _ _ ?_ (fun hHeld2 => ?_)
 ·exact HKP.out _ HQ.out
 clear hK K hHeld;rename _ => hHeld
 refine tk 3 (some 7) (v := .bool false) ?_ (hy := by (intro w hSw; (try dsimp only at hSw); go_simp; (first | done | (with_reducible rfl) | exact rfl | simpa using rfl)))
 refine wpAnyH_done (by kernel_rfl) ?_ _;clear hHeld
 obtain ⟨k0, k1, k2, k3, k4, k5, k6, k7⟩ := HKP.out _ HQ.out
 go_wp2_with fail
 refine (HII.out _).mono ?_
 rintro e z1 ⟨rfl, hb⟩
 have HQ := Lib.hid (HQ.out.trans (hb.mono HQ.out.size))
 clear hb k0 k1 k2 k3 k4 k5 k6 k7
 obtain ⟨k0, k1, k2, k3, k4, k5, k6, k7⟩ := HKP.out _ HQ.out
 by_cases hi : (1 ≤ item ∧ item ≤ 4611686018427387903) ∧ (1 ≤ regs ∧ regs ≤ 255)
 ·rw [decide_eq_true hi]; have HV : Hid (sp = decide (0 ≤ n ∧ n ≤ 1000)) := HSP.out.symm.trans (by simp [hi]); clear hi; go_wp2_with fail; refine (gWithin n 0 1000 _).mono ?_; rintro e z2 ⟨rfl, rfl⟩; go_wp2_with fail; go_ret; exact ⟨by rw [HV.out]; first | rfl | (simp; done) | (simp; omega), by first | exact HB1.out.trans (HQ.out.mono (bnl9 HN.out HB1.out)) | (rw [HN.out]; exact HB1.out.trans (HQ.out.mono (bnl9 HN.out HB1.out)))⟩
 ·rw [decide_eq_false hi]; have HV : Hid (sp = false) := HSP.out.symm.trans (decide_eq_false (fun h => hi h.1)); clear hi; go_wp2_with fail; go_ret; exact ⟨by rw [HV.out]; first | rfl | (simp; done) | (simp; omega), by first | exact HB1.out.trans (HQ.out.mono (bnl9 HN.out HB1.out)) | (rw [HN.out]; exact HB1.out.trans (HQ.out.mono (bnl9 HN.out HB1.out)))⟩
theorem gRValid4 (item frm til regs n a b : Int) (W : World) (h : (⟨4, item, frm, til, regs, n, a, b⟩ : ClD).eqB (⟨4, item, frm, til, regs, n, a, b⟩ : ClD).used = true) : Calls Tryz.prog 89 #[.agg (aC 4 item frm til regs n a b)] W fun e w' => e = .returned (.bool (decide (((1 ≤ item ∧ item ≤ 4611686018427387903) ∧ (1 ≤ regs ∧ regs ≤ 255)) ∧ (0 ≤ n ∧ n ≤ 10000000000)))) ∧ Below W.heap.size W w' := by
 have HU := Lib.hid (fun W => gUsed (⟨4, item, frm, til, regs, n, a, b⟩ : ClD) W)
 have heq := fun V : World => (eqClause (⟨4, item, frm, til, regs, n, a, b⟩ : ClD) (⟨4, item, frm, til, regs, n, a, b⟩ : ClD).used V).trans (show _ = Result.ok true V from congrArg (fun x => Result.ok x V) h)
 have HII := Lib.hid (fun W => gIsItem (⟨4, item, frm, til, regs, n, a, b⟩ : ClD) W)
 obtain ⟨u, hu⟩ : ∃ u, (⟨4, item, frm, til, regs, n, a, b⟩ : ClD).used = u := ⟨_, rfl⟩
 rw [hu] at HU heq;clear h hu
 obtain ⟨u1, u2, u3, u4, u5, u6, u7, u8⟩ := u
 obtain ⟨N, w1, hN, hw1, hb1, hk1⟩ := bx W (aC 4 item frm til regs n a b) (aC 4 item frm til regs n a b).toList 26 rfl
 have HKP : Hid (∀ W, Below w1.heap.size w1 W → W.cell? ⟨N, 0, none⟩ = some (.int .i64 4) ∧ W.cell? ⟨N, 1, none⟩ = some (.int .i64 item) ∧ W.cell? ⟨N, 2, none⟩ = some (.int .i64 frm) ∧ W.cell? ⟨N, 3, none⟩ = some (.int .i64 til) ∧ W.cell? ⟨N, 4, none⟩ = some (.int .i64 regs) ∧ W.cell? ⟨N, 5, none⟩ = some (.int .i64 n) ∧ W.cell? ⟨N, 6, none⟩ = some (.int .i64 a) ∧ W.cell? ⟨N, 7, none⟩ = some (.int .i64 b)) := fun W hW => by
  have hk := hk1.kept (hW.block N hk1.lt)
  exact ⟨hk.cell 0, hk.cell 1, hk.cell 2, hk.cell 3, hk.cell 4, hk.cell 5, hk.cell 6, hk.cell 7⟩
 have HQ : Hid (Below w1.heap.size w1 w1.drew) := (Below.refl _ _).drew
 have HN := Lib.hid hN;have HB1 := Lib.hid hb1
 dsimp only [ClD.l] at HU heq HII
 obtain ⟨sp, hsp⟩ : ∃ sp, (decide (((1 ≤ item ∧ item ≤ 4611686018427387903) ∧ (1 ≤ regs ∧ regs ≤ 255)) ∧ (0 ≤ n ∧ n ≤ 10000000000))) = sp := ⟨_, rfl⟩
 rw [hsp];have HSP := Lib.hid hsp;clear hb1 hk1 hsp
 go_enter Tryz.func89, Tryz.ntmps89
 go_upto_region 1 with (fail)
 refine wp_region_held_drew (S := fun W => W.cell? ⟨N, 0, none⟩ = some (.int .i64 4) ∧ W.cell? ⟨N, 1, none⟩ = some (.int .i64 item) ∧ W.cell? ⟨N, 2, none⟩ = some (.int .i64 frm) ∧ W.cell? ⟨N, 3, none⟩ = some (.int .i64 til) ∧ W.cell? ⟨N, 4, none⟩ = some (.int .i64 regs) ∧ W.cell? ⟨N, 5, none⟩ = some (.int .i64 n) ∧ W.cell? ⟨N, 6, none⟩ = some (.int .i64 a) ∧ W.cell? ⟨N, 7, none⟩ = some (.int .i64 b)) (by kernel_rfl) ?_ (fun hHeld => ?_)
 ·exact HKP.out _ HQ.out
 generalize World.drew _ = z0 at HQ hHeld ⊢
 refine tk 0 (some 4) ?_;refine tk 1 (some 5) ?_
 refine rd1 2 (some 6) (fun K hK => ?_)
 go_simp
 refine (HU.out _).mono ?_
 rintro e z ⟨rfl, hbz⟩
 have HQ := Lib.hid (HQ.out.trans (hbz.mono HQ.out.size))
 clear hbz;go_simp
 refine hK.out _ _ ?_ (fun hHeld2 => ?_)
 ·exact HKP.out _ HQ.out
 clear hK K hHeld;rename _ => hHeld
 refine tk 3 (some 7) (v := .bool false) ?_ (hy := by (intro w hSw; (try dsimp only at hSw); go_simp; (first | done | (with_reducible rfl) | exact rfl | simpa using rfl)))
 refine wpAnyH_done (by kernel_rfl) ?_ _;clear hHeld
 obtain ⟨k0, k1, k2, k3, k4, k5, k6, k7⟩ := HKP.out _ HQ.out
 go_wp2_with fail
 refine (HII.out _).mono ?_
 rintro e z1 ⟨rfl, hb⟩
 have HQ := Lib.hid (HQ.out.trans (hb.mono HQ.out.size))
 clear hb k0 k1 k2 k3 k4 k5 k6 k7
 obtain ⟨k0, k1, k2, k3, k4, k5, k6, k7⟩ := HKP.out _ HQ.out
 by_cases hi : (1 ≤ item ∧ item ≤ 4611686018427387903) ∧ (1 ≤ regs ∧ regs ≤ 255)
 ·rw [decide_eq_true hi]; have HV : Hid (sp = decide (0 ≤ n ∧ n ≤ 10000000000)) := HSP.out.symm.trans (by simp [hi]); clear hi; go_wp2_with fail; refine (gWithin n 0 10000000000 _).mono ?_; rintro e z2 ⟨rfl, rfl⟩; go_wp2_with fail; go_ret; exact ⟨by rw [HV.out]; first | rfl | (simp; done) | (simp; omega), by first | exact HB1.out.trans (HQ.out.mono (bnl9 HN.out HB1.out)) | (rw [HN.out]; exact HB1.out.trans (HQ.out.mono (bnl9 HN.out HB1.out)))⟩
 ·rw [decide_eq_false hi]; have HV : Hid (sp = false) := HSP.out.symm.trans (decide_eq_false (fun h => hi h.1)); clear hi; go_wp2_with fail; go_ret; exact ⟨by rw [HV.out]; first | rfl | (simp; done) | (simp; omega), by first | exact HB1.out.trans (HQ.out.mono (bnl9 HN.out HB1.out)) | (rw [HN.out]; exact HB1.out.trans (HQ.out.mono (bnl9 HN.out HB1.out)))⟩
theorem gRValid5 (item frm til regs n a b : Int) (W : World) (h : (⟨5, item, frm, til, regs, n, a, b⟩ : ClD).eqB (⟨5, item, frm, til, regs, n, a, b⟩ : ClD).used = true) : Calls Tryz.prog 89 #[.agg (aC 5 item frm til regs n a b)] W fun e w' => e = .returned (.bool (decide (((1 ≤ a ∧ a ≤ 200) ∧ (1 ≤ b ∧ b ≤ 200)) ∧ (a ≠ b ∧ (0 ≤ n ∧ n ≤ 86400))))) ∧ Below W.heap.size W w' := by
 have HU := Lib.hid (fun W => gUsed (⟨5, item, frm, til, regs, n, a, b⟩ : ClD) W)
 have heq := fun V : World => (eqClause (⟨5, item, frm, til, regs, n, a, b⟩ : ClD) (⟨5, item, frm, til, regs, n, a, b⟩ : ClD).used V).trans (show _ = Result.ok true V from congrArg (fun x => Result.ok x V) h)
 have HII := Lib.hid (fun W => gIsItem (⟨5, item, frm, til, regs, n, a, b⟩ : ClD) W)
 obtain ⟨u, hu⟩ : ∃ u, (⟨5, item, frm, til, regs, n, a, b⟩ : ClD).used = u := ⟨_, rfl⟩
 rw [hu] at HU heq;clear h hu
 obtain ⟨u1, u2, u3, u4, u5, u6, u7, u8⟩ := u
 obtain ⟨N, w1, hN, hw1, hb1, hk1⟩ := bx W (aC 5 item frm til regs n a b) (aC 5 item frm til regs n a b).toList 26 rfl
 have HKP : Hid (∀ W, Below w1.heap.size w1 W → W.cell? ⟨N, 0, none⟩ = some (.int .i64 5) ∧ W.cell? ⟨N, 1, none⟩ = some (.int .i64 item) ∧ W.cell? ⟨N, 2, none⟩ = some (.int .i64 frm) ∧ W.cell? ⟨N, 3, none⟩ = some (.int .i64 til) ∧ W.cell? ⟨N, 4, none⟩ = some (.int .i64 regs) ∧ W.cell? ⟨N, 5, none⟩ = some (.int .i64 n) ∧ W.cell? ⟨N, 6, none⟩ = some (.int .i64 a) ∧ W.cell? ⟨N, 7, none⟩ = some (.int .i64 b)) := fun W hW => by
  have hk := hk1.kept (hW.block N hk1.lt)
  exact ⟨hk.cell 0, hk.cell 1, hk.cell 2, hk.cell 3, hk.cell 4, hk.cell 5, hk.cell 6, hk.cell 7⟩
 have HQ : Hid (Below w1.heap.size w1 w1.drew) := (Below.refl _ _).drew
 have HN := Lib.hid hN;have HB1 := Lib.hid hb1
 dsimp only [ClD.l] at HU heq HII
 obtain ⟨sp, hsp⟩ : ∃ sp, (decide (((1 ≤ a ∧ a ≤ 200) ∧ (1 ≤ b ∧ b ≤ 200)) ∧ (a ≠ b ∧ (0 ≤ n ∧ n ≤ 86400)))) = sp := ⟨_, rfl⟩
 rw [hsp];have HSP := Lib.hid hsp;clear hb1 hk1 hsp
 go_enter Tryz.func89, Tryz.ntmps89
 go_upto_region 1 with (fail)
 refine wp_region_held_drew (S := fun W => W.cell? ⟨N, 0, none⟩ = some (.int .i64 5) ∧ W.cell? ⟨N, 1, none⟩ = some (.int .i64 item) ∧ W.cell? ⟨N, 2, none⟩ = some (.int .i64 frm) ∧ W.cell? ⟨N, 3, none⟩ = some (.int .i64 til) ∧ W.cell? ⟨N, 4, none⟩ = some (.int .i64 regs) ∧ W.cell? ⟨N, 5, none⟩ = some (.int .i64 n) ∧ W.cell? ⟨N, 6, none⟩ = some (.int .i64 a) ∧ W.cell? ⟨N, 7, none⟩ = some (.int .i64 b)) (by kernel_rfl) ?_ (fun hHeld => ?_)
 ·exact HKP.out _ HQ.out
 generalize World.drew _ = z0 at HQ hHeld ⊢
 refine tk 0 (some 4) ?_;refine tk 1 (some 5) ?_
 refine rd1 2 (some 6) (fun K hK => ?_)
 go_simp
 refine (HU.out _).mono ?_
 rintro e z ⟨rfl, hbz⟩
 have HQ := Lib.hid (HQ.out.trans (hbz.mono HQ.out.size))
 clear hbz;go_simp
 refine hK.out _ _ ?_ (fun hHeld2 => ?_)
 ·exact HKP.out _ HQ.out
 clear hK K hHeld;rename _ => hHeld
 refine tk 3 (some 7) (v := .bool false) ?_ (hy := by (intro w hSw; (try dsimp only at hSw); go_simp; (first | done | (with_reducible rfl) | exact rfl | simpa using rfl)))
 refine wpAnyH_done (by kernel_rfl) ?_ _;clear hHeld
 obtain ⟨k0, k1, k2, k3, k4, k5, k6, k7⟩ := HKP.out _ HQ.out
 go_wp2_with fail
 refine (gWithin a 1 200 _).mono ?_
 rintro e z1 ⟨rfl, rfl⟩
 by_cases hi : 1 ≤ a ∧ a ≤ 200
 ·rw [decide_eq_true hi]; go_wp2_with fail; refine (gWithin b 1 200 _).mono ?_; rintro e z1 ⟨rfl, rfl⟩
  by_cases hj : 1 ≤ b ∧ b ≤ 200
  ·rw [decide_eq_true hj]
   by_cases hab : a = b
   ·have HV : Hid (sp = false) := HSP.out.symm.trans (decide_eq_false (fun h => h.2.1 hab)); clear hi hj; go_wp2_with fail; go_ret; exact ⟨by rw [HV.out]; first | rfl | (simp; done) | (simp; omega), by first | exact HB1.out.trans (HQ.out.mono (bnl9 HN.out HB1.out)) | (rw [HN.out]; exact HB1.out.trans (HQ.out.mono (bnl9 HN.out HB1.out)))⟩
   ·have hab2 : (a == b) = false := beq_eq_false_iff_ne.2 hab
    have HV : Hid (sp = decide (0 ≤ n ∧ n ≤ 86400)) := HSP.out.symm.trans (by simp [hi, hj, hab]); clear hi hj; go_wp2_with fail; refine (gWithin n 0 86400 _).mono ?_; rintro e z2 ⟨rfl, rfl⟩; go_wp2_with fail; go_ret; exact ⟨by rw [HV.out]; first | rfl | (simp; done) | (simp; omega), by first | exact HB1.out.trans (HQ.out.mono (bnl9 HN.out HB1.out)) | (rw [HN.out]; exact HB1.out.trans (HQ.out.mono (bnl9 HN.out HB1.out)))⟩
  ·rw [decide_eq_false hj]; have HV : Hid (sp = false) := HSP.out.symm.trans (decide_eq_false (fun h => hj h.1.2)); clear hi hj; go_wp2_with fail; go_ret; exact ⟨by rw [HV.out]; first | rfl | (simp; done) | (simp; omega), by first | exact HB1.out.trans (HQ.out.mono (bnl9 HN.out HB1.out)) | (rw [HN.out]; exact HB1.out.trans (HQ.out.mono (bnl9 HN.out HB1.out)))⟩
 ·rw [decide_eq_false hi]; have HV : Hid (sp = false) := HSP.out.symm.trans (decide_eq_false (fun h => hi h.1.1)); clear hi; go_wp2_with fail; go_ret; exact ⟨by rw [HV.out]; first | rfl | (simp; done) | (simp; omega), by first | exact HB1.out.trans (HQ.out.mono (bnl9 HN.out HB1.out)) | (rw [HN.out]; exact HB1.out.trans (HQ.out.mono (bnl9 HN.out HB1.out)))⟩
theorem gRValid6 (item frm til regs n a b : Int) (W : World) (h : (⟨6, item, frm, til, regs, n, a, b⟩ : ClD).eqB (⟨6, item, frm, til, regs, n, a, b⟩ : ClD).used = true) : Calls Tryz.prog 89 #[.agg (aC 6 item frm til regs n a b)] W fun e w' => e = .returned (.bool (decide ((1 ≤ a ∧ a ≤ 3) ∧ (((0 ≤ frm ∧ frm ≤ 86340) ∧ frm % 60 = 0) ∧ (((0 ≤ til ∧ til ≤ 86340) ∧ til % 60 = 0) ∧ frm ≠ til))))) ∧ Below W.heap.size W w' := by
 have HU := Lib.hid (fun W => gUsed (⟨6, item, frm, til, regs, n, a, b⟩ : ClD) W)
 have heq := fun V : World => (eqClause (⟨6, item, frm, til, regs, n, a, b⟩ : ClD) (⟨6, item, frm, til, regs, n, a, b⟩ : ClD).used V).trans (show _ = Result.ok true V from congrArg (fun x => Result.ok x V) h)
 have HII := Lib.hid (fun W => gIsItem (⟨6, item, frm, til, regs, n, a, b⟩ : ClD) W)
 obtain ⟨u, hu⟩ : ∃ u, (⟨6, item, frm, til, regs, n, a, b⟩ : ClD).used = u := ⟨_, rfl⟩
 rw [hu] at HU heq;clear h hu
 obtain ⟨u1, u2, u3, u4, u5, u6, u7, u8⟩ := u
 obtain ⟨N, w1, hN, hw1, hb1, hk1⟩ := bx W (aC 6 item frm til regs n a b) (aC 6 item frm til regs n a b).toList 26 rfl
 have HKP : Hid (∀ W, Below w1.heap.size w1 W → W.cell? ⟨N, 0, none⟩ = some (.int .i64 6) ∧ W.cell? ⟨N, 1, none⟩ = some (.int .i64 item) ∧ W.cell? ⟨N, 2, none⟩ = some (.int .i64 frm) ∧ W.cell? ⟨N, 3, none⟩ = some (.int .i64 til) ∧ W.cell? ⟨N, 4, none⟩ = some (.int .i64 regs) ∧ W.cell? ⟨N, 5, none⟩ = some (.int .i64 n) ∧ W.cell? ⟨N, 6, none⟩ = some (.int .i64 a) ∧ W.cell? ⟨N, 7, none⟩ = some (.int .i64 b)) := fun W hW => by
  have hk := hk1.kept (hW.block N hk1.lt)
  exact ⟨hk.cell 0, hk.cell 1, hk.cell 2, hk.cell 3, hk.cell 4, hk.cell 5, hk.cell 6, hk.cell 7⟩
 have HQ : Hid (Below w1.heap.size w1 w1.drew) := (Below.refl _ _).drew
 have HN := Lib.hid hN;have HB1 := Lib.hid hb1
 dsimp only [ClD.l] at HU heq HII
 obtain ⟨sp, hsp⟩ : ∃ sp, (decide ((1 ≤ a ∧ a ≤ 3) ∧ (((0 ≤ frm ∧ frm ≤ 86340) ∧ frm % 60 = 0) ∧ (((0 ≤ til ∧ til ≤ 86340) ∧ til % 60 = 0) ∧ frm ≠ til)))) = sp := ⟨_, rfl⟩
 rw [hsp];have HSP := Lib.hid hsp;clear hb1 hk1 hsp
 go_enter Tryz.func89, Tryz.ntmps89
 go_upto_region 1 with (fail)
 refine wp_region_held_drew (S := fun W => W.cell? ⟨N, 0, none⟩ = some (.int .i64 6) ∧ W.cell? ⟨N, 1, none⟩ = some (.int .i64 item) ∧ W.cell? ⟨N, 2, none⟩ = some (.int .i64 frm) ∧ W.cell? ⟨N, 3, none⟩ = some (.int .i64 til) ∧ W.cell? ⟨N, 4, none⟩ = some (.int .i64 regs) ∧ W.cell? ⟨N, 5, none⟩ = some (.int .i64 n) ∧ W.cell? ⟨N, 6, none⟩ = some (.int .i64 a) ∧ W.cell? ⟨N, 7, none⟩ = some (.int .i64 b)) (by kernel_rfl) ?_ (fun hHeld => ?_)
 ·exact HKP.out _ HQ.out
 generalize World.drew _ = z0 at HQ hHeld ⊢
 refine tk 0 (some 4) ?_;refine tk 1 (some 5) ?_
 refine rd1 2 (some 6) (fun K hK => ?_)
 go_simp
 refine (HU.out _).mono ?_
 rintro e z ⟨rfl, hbz⟩
 have HQ := Lib.hid (HQ.out.trans (hbz.mono HQ.out.size))
 clear hbz;go_simp
 refine hK.out _ _ ?_ (fun hHeld2 => ?_)
 ·exact HKP.out _ HQ.out
 clear hK K hHeld;rename _ => hHeld
 refine tk 3 (some 7) (v := .bool false) ?_ (hy := by (intro w hSw; (try dsimp only at hSw); go_simp; (first | done | (with_reducible rfl) | exact rfl | simpa using rfl)))
 refine wpAnyH_done (by kernel_rfl) ?_ _;clear hHeld
 obtain ⟨k0, k1, k2, k3, k4, k5, k6, k7⟩ := HKP.out _ HQ.out
 go_wp2_with fail
 refine (gWithin a 1 3 _).mono ?_
 rintro e z1 ⟨rfl, rfl⟩
 by_cases hi : 1 ≤ a ∧ a ≤ 3
 ·rw [decide_eq_true hi]; go_wp2_with fail; refine (gIsTime frm _).mono ?_; rintro e z1 ⟨rfl, rfl⟩
  by_cases hj : ((0 ≤ frm ∧ frm ≤ 86340) ∧ frm % 60 = 0)
  ·rw [decide_eq_true hj]; have HJ := Lib.hid hj; clear hj; go_wp2_with fail; refine (gIsTime til _).mono ?_; rintro e z1 ⟨rfl, rfl⟩
   by_cases hk : ((0 ≤ til ∧ til ≤ 86340) ∧ til % 60 = 0)
   ·rw [decide_eq_true hk]
    by_cases hab : frm = til
    ·have HV : Hid (sp = false) := HSP.out.symm.trans (decide_eq_false (fun h => h.2.2.2 hab)); clear hi hk; go_wp2_with fail; go_ret; exact ⟨by rw [HV.out]; first | rfl | (simp; done) | (simp; omega), by first | exact HB1.out.trans (HQ.out.mono (bnl9 HN.out HB1.out)) | (rw [HN.out]; exact HB1.out.trans (HQ.out.mono (bnl9 HN.out HB1.out)))⟩
    ·have hab2 : (frm == til) = false := beq_eq_false_iff_ne.2 hab
     have HV : Hid (sp = true) := HSP.out.symm.trans (decide_eq_true ⟨hi, HJ.out, hk, hab⟩); clear hi hk; go_wp2_with fail; go_ret; exact ⟨by rw [HV.out]; first | rfl | (simp; done) | (simp; omega), by first | exact HB1.out.trans (HQ.out.mono (bnl9 HN.out HB1.out)) | (rw [HN.out]; exact HB1.out.trans (HQ.out.mono (bnl9 HN.out HB1.out)))⟩
   ·rw [decide_eq_false hk]; have HV : Hid (sp = false) := HSP.out.symm.trans (decide_eq_false (fun h => hk h.2.2.1)); clear hi hk; go_wp2_with fail; go_ret; exact ⟨by rw [HV.out]; first | rfl | (simp; done) | (simp; omega), by first | exact HB1.out.trans (HQ.out.mono (bnl9 HN.out HB1.out)) | (rw [HN.out]; exact HB1.out.trans (HQ.out.mono (bnl9 HN.out HB1.out)))⟩
  ·rw [decide_eq_false hj]; have HV : Hid (sp = false) := HSP.out.symm.trans (decide_eq_false (fun h => hj h.2.1)); clear hi hj; go_wp2_with fail; go_ret; exact ⟨by rw [HV.out]; first | rfl | (simp; done) | (simp; omega), by first | exact HB1.out.trans (HQ.out.mono (bnl9 HN.out HB1.out)) | (rw [HN.out]; exact HB1.out.trans (HQ.out.mono (bnl9 HN.out HB1.out)))⟩
 ·rw [decide_eq_false hi]; have HV : Hid (sp = false) := HSP.out.symm.trans (decide_eq_false (fun h => hi h.1)); clear hi; go_wp2_with fail; go_ret; exact ⟨by rw [HV.out]; first | rfl | (simp; done) | (simp; omega), by first | exact HB1.out.trans (HQ.out.mono (bnl9 HN.out HB1.out)) | (rw [HN.out]; exact HB1.out.trans (HQ.out.mono (bnl9 HN.out HB1.out)))⟩
theorem gRValid0 (item frm til regs n a b : Int) (W : World) (h : (⟨0, item, frm, til, regs, n, a, b⟩ : ClD).eqB (⟨0, item, frm, til, regs, n, a, b⟩ : ClD).used = true) : Calls Tryz.prog 89 #[.agg (aC 0 item frm til regs n a b)] W fun e w' => e = .returned (.bool (false)) ∧ Below W.heap.size W w' := by
 have HU := Lib.hid (fun W => gUsed (⟨0, item, frm, til, regs, n, a, b⟩ : ClD) W)
 have heq := fun V : World => (eqClause (⟨0, item, frm, til, regs, n, a, b⟩ : ClD) (⟨0, item, frm, til, regs, n, a, b⟩ : ClD).used V).trans (show _ = Result.ok true V from congrArg (fun x => Result.ok x V) h)
 have HII := Lib.hid (fun W => gIsItem (⟨0, item, frm, til, regs, n, a, b⟩ : ClD) W)
 obtain ⟨u, hu⟩ : ∃ u, (⟨0, item, frm, til, regs, n, a, b⟩ : ClD).used = u := ⟨_, rfl⟩
 rw [hu] at HU heq;clear h hu
 obtain ⟨u1, u2, u3, u4, u5, u6, u7, u8⟩ := u
 obtain ⟨N, w1, hN, hw1, hb1, hk1⟩ := bx W (aC 0 item frm til regs n a b) (aC 0 item frm til regs n a b).toList 26 rfl
 have HKP : Hid (∀ W, Below w1.heap.size w1 W → W.cell? ⟨N, 0, none⟩ = some (.int .i64 0) ∧ W.cell? ⟨N, 1, none⟩ = some (.int .i64 item) ∧ W.cell? ⟨N, 2, none⟩ = some (.int .i64 frm) ∧ W.cell? ⟨N, 3, none⟩ = some (.int .i64 til) ∧ W.cell? ⟨N, 4, none⟩ = some (.int .i64 regs) ∧ W.cell? ⟨N, 5, none⟩ = some (.int .i64 n) ∧ W.cell? ⟨N, 6, none⟩ = some (.int .i64 a) ∧ W.cell? ⟨N, 7, none⟩ = some (.int .i64 b)) := fun W hW => by
  have hk := hk1.kept (hW.block N hk1.lt)
  exact ⟨hk.cell 0, hk.cell 1, hk.cell 2, hk.cell 3, hk.cell 4, hk.cell 5, hk.cell 6, hk.cell 7⟩
 have HQ : Hid (Below w1.heap.size w1 w1.drew) := (Below.refl _ _).drew
 have HN := Lib.hid hN;have HB1 := Lib.hid hb1
 dsimp only [ClD.l] at HU heq HII
 obtain ⟨sp, hsp⟩ : ∃ sp, (false) = sp := ⟨_, rfl⟩
 rw [hsp];have HSP := Lib.hid hsp;clear hb1 hk1 hsp
 go_enter Tryz.func89, Tryz.ntmps89
 go_upto_region 1 with (fail)
 refine wp_region_held_drew (S := fun W => W.cell? ⟨N, 0, none⟩ = some (.int .i64 0) ∧ W.cell? ⟨N, 1, none⟩ = some (.int .i64 item) ∧ W.cell? ⟨N, 2, none⟩ = some (.int .i64 frm) ∧ W.cell? ⟨N, 3, none⟩ = some (.int .i64 til) ∧ W.cell? ⟨N, 4, none⟩ = some (.int .i64 regs) ∧ W.cell? ⟨N, 5, none⟩ = some (.int .i64 n) ∧ W.cell? ⟨N, 6, none⟩ = some (.int .i64 a) ∧ W.cell? ⟨N, 7, none⟩ = some (.int .i64 b)) (by kernel_rfl) ?_ (fun hHeld => ?_)
 ·exact HKP.out _ HQ.out
 generalize World.drew _ = z0 at HQ hHeld ⊢
 refine tk 0 (some 4) ?_;refine tk 1 (some 5) ?_
 refine rd1 2 (some 6) (fun K hK => ?_)
 go_simp
 refine (HU.out _).mono ?_
 rintro e z ⟨rfl, hbz⟩
 have HQ := Lib.hid (HQ.out.trans (hbz.mono HQ.out.size))
 clear hbz;go_simp
 refine hK.out _ _ ?_ (fun hHeld2 => ?_)
 ·exact HKP.out _ HQ.out
 clear hK K hHeld;rename _ => hHeld
 refine tk 3 (some 7) (v := .bool false) ?_ (hy := by (intro w hSw; (try dsimp only at hSw); go_simp; (first | done | (with_reducible rfl) | exact rfl | simpa using rfl)))
 refine wpAnyH_done (by kernel_rfl) ?_ _;clear hHeld
 obtain ⟨k0, k1, k2, k3, k4, k5, k6, k7⟩ := HKP.out _ HQ.out
 have HV : Hid (sp = false) := HSP.out.symm
 go_wp2_with fail; go_ret; exact ⟨by rw [HV.out]; first | rfl | (simp; done) | (simp; omega), by first | exact HB1.out.trans (HQ.out.mono (bnl9 HN.out HB1.out)) | (rw [HN.out]; exact HB1.out.trans (HQ.out.mono (bnl9 HN.out HB1.out)))⟩
def ClD.ok (c : ClD) : Bool := c.eqB c.used && (
 if c.kind = 1 ∨ c.kind = 2 then (decide (((1 ≤ c.item ∧ c.item ≤ 4611686018427387903) ∧ (1 ≤ c.regs ∧ c.regs ≤ 255)) ∧ (0 ≤ c.frm ∧ (c.frm < c.til ∧ c.til ≤ 10000000000)))) else
 if c.kind = 3 then (decide (((1 ≤ c.item ∧ c.item ≤ 4611686018427387903) ∧ (1 ≤ c.regs ∧ c.regs ≤ 255)) ∧ (0 ≤ c.n ∧ c.n ≤ 1000))) else if c.kind = 4 then (decide (((1 ≤ c.item ∧ c.item ≤ 4611686018427387903) ∧ (1 ≤ c.regs ∧ c.regs ≤ 255)) ∧ (0 ≤ c.n ∧ c.n ≤ 10000000000))) else
 if c.kind = 5 then (decide (((1 ≤ c.a ∧ c.a ≤ 200) ∧ (1 ≤ c.b ∧ c.b ≤ 200)) ∧ (c.a ≠ c.b ∧ (0 ≤ c.n ∧ c.n ≤ 86400)))) else if c.kind = 6 then (decide ((1 ≤ c.a ∧ c.a ≤ 3) ∧ (((0 ≤ c.frm ∧ c.frm ≤ 86340) ∧ c.frm % 60 = 0) ∧ (((0 ≤ c.til ∧ c.til ≤ 86340) ∧ c.til % 60 = 0) ∧ c.frm ≠ c.til)))) else false)
theorem gRValid (c : ClD) (W : World) : Calls Tryz.prog 89 #[.agg c.l.toArray] W fun e w' => e = .returned (.bool c.ok) ∧ Below W.heap.size W w' := by
 by_cases h : c.eqB c.used = true
 ·have h' := h
  obtain ⟨kind, item, frm, til, regs, n, a, b⟩ := c
  rcases (show kind = 1 ∨ kind = 2 ∨ kind = 3 ∨ kind = 4 ∨ kind = 5 ∨ kind = 6 ∨ (kind ≠ 1 ∧ kind ≠ 2 ∧ kind ≠ 3 ∧ kind ≠ 4 ∧ kind ≠ 5 ∧ kind ≠ 6) from by omega) with rfl | rfl | rfl | rfl | rfl | rfl | ⟨h1, h2, h3, h4, h5, h6⟩
  ·refine (gRValid1 item frm til regs n a b W h).mono fun e w' ⟨he, hb⟩ => ⟨he.trans ?_, hb⟩
   simp [ClD.ok, h]
  ·refine (gRValid2 item frm til regs n a b W h).mono fun e w' ⟨he, hb⟩ => ⟨he.trans ?_, hb⟩
   simp [ClD.ok, h]
  ·refine (gRValid3 item frm til regs n a b W h).mono fun e w' ⟨he, hb⟩ => ⟨he.trans ?_, hb⟩
   simp [ClD.ok, h]
  ·refine (gRValid4 item frm til regs n a b W h).mono fun e w' ⟨he, hb⟩ => ⟨he.trans ?_, hb⟩
   simp [ClD.ok, h]
  ·refine (gRValid5 item frm til regs n a b W h).mono fun e w' ⟨he, hb⟩ => ⟨he.trans ?_, hb⟩
   simp [ClD.ok, h]
  ·refine (gRValid6 item frm til regs n a b W h).mono fun e w' ⟨he, hb⟩ => ⟨he.trans ?_, hb⟩
   simp [ClD.ok, h]
  ·have he : (⟨kind, item, frm, til, regs, n, a, b⟩ : ClD).used = ⟨0, 0, 0, 0, 0, 0, 0, 0⟩ := by
    unfold ClD.used
    simp only
    rw [if_neg (by omega), if_neg (by omega), if_neg (by omega), if_neg (by omega)]
   rw [he] at h
   have hz := (ClD.eqB_iff _ _).1 h
   cases hz
   refine (gRValid0 0 0 0 0 0 0 0 W h').mono fun e w' ⟨he, hb⟩ => ⟨he.trans ?_, hb⟩
   simp [ClD.ok]
 ·have h2 : c.eqB c.used = false := by simpa using h
  refine (gRValid_bad c W h2).mono fun e w' ⟨he, hb⟩ => ⟨he.trans ?_, hb⟩
  simp [ClD.ok, h2]

end Go.Proofs.YtjkiidhnmljmbaaGreatDoor
