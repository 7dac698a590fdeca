/-
  The walks of the steps of Open and Append.
  The walk of asrun.first at the steps of Open and of Append.
  The walk of asrun.first at the steps of Append.
  The group of stored records that Append builds: its cells, and the append of one more.
-/
import Derived.WalkKit
import Derived.LoopTactic
import Derived.WalkSpells
import Derived.WalkLawsBesides
import Derived.RegionTactic
import Derived.BigRegion
import Derived.IntWalk
import Derived.Outline
import Derived.Deep.QuietTactic
import Derived.BigQuiet
import Derived.Deep.RegionLaw
import Derived.Deep.RegionHeld3
import Derived.Lib.Hide
import Derived.Test.YtfpcdlpfmlaakaaGreatDoorAsGk
import Derived.Test.YtfpcdlpfmlaakaaGreatDoorDkB
import Derived.Test.YtfpcdlpfmlaakaaGreatDoorDgN
import Derived.Test.YtfpcdlpfmlaakaaGreatDoorDgG
import Derived.Test.YtfpcdlpfmlaakaaGreatDoorBlQ
set_option linter.unusedVariables false
set_option linter.unusedSimpArgs false
namespace Go.Proofs.YtfpcdlpfmlaakaaGreatDoor
open Go.RowKit Onair
/-- What a step leaves: the disk behind it. -/
def StepP (W : World) (B b bd bv : Nat) (vp : Value) (c : Int) (D' : DS) (e : Ending) (w' : World) : Prop :=
  e = .returned (.int .i64 c) ∧ ∃ vp', DkAt w' B b bd bv vp' D' ∧ (∀ k, vp'.ownBlock = some k → vp.ownBlock = some k ∨ W.heap.size ≤ k) ∧ Fr (Foot b bd bv vp) W w'
theorem step_fr {W w' : World} {B b bd bv : Nat} {vp : Value} {D' : DS} (h : ∃ vp', DkAt w' B b bd bv vp' D' ∧ (∀ k, vp'.ownBlock = some k → vp.ownBlock = some k ∨ W.drew.heap.size ≤ k) ∧ Fr (Foot b bd bv vp) W.drew w') : Fr (Foot b bd bv vp) W w' := by
  obtain ⟨_, _, _, h⟩ := h
  exact ⟨h.os, h.tape, h.output, h.size, h.block⟩
set_option maxHeartbeats 2000000 in
set_option maxRecDepth 100000 in
theorem open1_any (W : World) (B b bd bv : Nat) (vp : Value) (D : DS) (p1 p2 p3 bl E : Nat) (z : ByteArray) (c3 c2 c1 c5 : Value) (hB : B ≤ W.heap.size) (hz : z.size ≤ 4194304) (hE : E ≤ 4194304) (hpl : D.pend.length ≤ 1000000) (hcut : D.cut ≤ 9223372036854775807)
    (b1 : Blk W p1 24 [.pointer (some ⟨b, 0, none⟩)]) (b2 : Blk W p2 33 [.pointer (some ⟨bl, 0, none⟩)]) (b3 : Blk W p3 9 [.string z]) (bb : Blk W bl 87 [.pointer (some ⟨b, 0, none⟩), c1, c2, c3, .int .i64 (E : Int), c5]) (h : DkAt W B b bd bv vp D) (n1 : ¬ Foot b bd bv vp p1) (n2 : ¬ Foot b bd bv vp p2) (n3 : ¬ Foot b bd bv vp p3) (nb : ¬ Foot b bd bv vp bl) :
    Calls Tryz.prog 78 #[.pointer (some ⟨p1, 0, none⟩), .pointer (some ⟨p2, 0, none⟩), .pointer (some ⟨p3, 0, none⟩)] W (StepP W B b bd bv vp (writeE D E z) (writeD D E z)) := by
  have HW := Lib.hid (write_any W.drew B b bd bv vp D (E : Int) z (by omega) (by omega) (by unfold maxLen; omega) hB hpl hcut h.drew)
  obtain ⟨cw, hcw⟩ : ∃ cw, writeE D (E : Int) z = cw := ⟨_, rfl⟩
  rw [hcw] at HW
  rw [hcw]
  have d1 := b1.cell 0
  have d2 := b2.cell 0
  have d3 := b3.cell 0
  have d4 := bb.cell 4
  simp only [List.getElem?_cons_zero, List.getElem?_cons_succ] at d1 d2 d3 d4
  have l1 := b1.lt
  have l2 := b2.lt
  have l3 := b3.lt
  have lb := bb.lt
  clear b1 b2 b3 bb h hcw
  go_enter Tryz.func78, Tryz.ntmps78
  go_upto_region 1 with (fail)
  go_region_held3 (fun W => W.cell? ⟨p1, 0, none⟩ = some (.pointer (some ⟨b, 0, none⟩)) ∧ W.cell? ⟨p2, 0, none⟩ = some (.pointer (some ⟨bl, 0, none⟩)) ∧ W.cell? ⟨p3, 0, none⟩ = some (.string z) ∧ W.cell? ⟨bl, 4, none⟩ = some (.int .i64 (E : Int))) (first | go_keep | assumption) (((with_reducible refine HW.out.mono ?_); rintro e w' ⟨rfl, hd'⟩; have HD' := Lib.hid hd'; have HF' := Lib.hid (step_fr hd'); clear hd'; have e0 := (HF'.out.cell ⟨p1, 0, none⟩ l1 n1).trans d1; have e1 := (HF'.out.cell ⟨p2, 0, none⟩ l2 n2).trans d2; have e2 := (HF'.out.cell ⟨p3, 0, none⟩ l3 n3).trans d3; have e3 := (HF'.out.cell ⟨bl, 4, none⟩ lb nb).trans d4))
  all_goals
    go_wp2_with fail
    go_ret
    obtain ⟨vp', g1, g2, g3⟩ := HD'.out
    exact ⟨rfl, vp', g1, g2, ⟨g3.os, g3.tape, g3.output, g3.size, g3.block⟩⟩
set_option maxHeartbeats 2000000 in
set_option maxRecDepth 100000 in
theorem app2_any (W : World) (B b bd bv : Nat) (vp : Value) (D : DS) (p1 p3 bl E : Nat) (z T : ByteArray) (c3 c2 c1 c5 : Value) (hB : B ≤ W.heap.size) (hz : z.size ≤ 4194304) (h1 : 1 ≤ z.size) (hT : z.extract 1 z.size = T) (hE : E ≤ 4194304) (hpl : D.pend.length ≤ 1000000) (hcut : D.cut ≤ 9223372036854775807)
    (b1 : Blk W p1 33 [.pointer (some ⟨bl, 0, none⟩)]) (b3 : Blk W p3 9 [.string z]) (bb : Blk W bl 87 [.pointer (some ⟨b, 0, none⟩), c1, c2, c3, .int .i64 (E : Int), c5]) (h : DkAt W B b bd bv vp D) (n1 : ¬ Foot b bd bv vp p1) (n3 : ¬ Foot b bd bv vp p3) (nb : ¬ Foot b bd bv vp bl) :
    Calls Tryz.prog 47 #[.pointer (some ⟨p1, 0, none⟩), .pointer (some ⟨p3, 0, none⟩)] W (StepP W B b bd bv vp (writeE D ((E : Int) + 1) T) (writeD D ((E : Int) + 1) T)) := by
  have hTz : T.size ≤ 4194304 := by
    rw [← hT]
    simp
    omega
  have HW := Lib.hid (write_any W.drew B b bd bv vp D ((E : Int) + 1) T (by omega) (by omega) (by unfold maxLen; omega) hB hpl hcut h.drew)
  obtain ⟨cw, hcw⟩ : ∃ cw, writeE D ((E : Int) + 1) T = cw := ⟨_, rfl⟩
  obtain ⟨dw, hdw⟩ : ∃ dw, writeD D ((E : Int) + 1) T = dw := ⟨_, rfl⟩
  rw [hcw, hdw] at HW
  rw [hcw, hdw]
  have hs1 : IntKind.i64.wrap ((E : Int) + 1) = (E : Int) + 1 := IntWalk.i64_in _ (by omega)
  have hs2 : (0 : Int) ≤ (E : Int) + 1 := by omega
  have d1 := b1.cell 0
  have d3 := b3.cell 0
  have d0 := bb.cell 0
  have d4 := bb.cell 4
  simp only [List.getElem?_cons_zero, List.getElem?_cons_succ] at d0 d1 d3 d4
  have hz1 : (1 : Int) ≤ (z.size : Int) := by omega
  have l1 := b1.lt
  have l3 := b3.lt
  have lb := bb.lt
  clear b1 b3 bb h hcw hdw hTz
  go_enter Tryz.func47, Tryz.ntmps47
  go_upto_region 1 with (fail)
  go_region_held3 (fun W => W.cell? ⟨p1, 0, none⟩ = some (.pointer (some ⟨bl, 0, none⟩)) ∧ W.cell? ⟨p3, 0, none⟩ = some (.string z) ∧ W.cell? ⟨bl, 0, none⟩ = some (.pointer (some ⟨b, 0, none⟩)) ∧ W.cell? ⟨bl, 4, none⟩ = some (.int .i64 (E : Int))) (first | go_keep | assumption) (((with_reducible refine HW.out.mono ?_); rintro e w' ⟨rfl, hd'⟩; have HD' := Lib.hid hd'; have HF' := Lib.hid (step_fr hd'); clear hd'; have e0 := (HF'.out.cell ⟨p1, 0, none⟩ l1 n1).trans d1; have e1 := (HF'.out.cell ⟨p3, 0, none⟩ l3 n3).trans d3; have e2 := (HF'.out.cell ⟨bl, 0, none⟩ lb nb).trans d0; have e3 := (HF'.out.cell ⟨bl, 4, none⟩ lb nb).trans d4))
  all_goals
    go_wp2_with fail
    go_ret
    obtain ⟨vp', g1, g2, g3⟩ := HD'.out
    exact ⟨rfl, vp', g1, g2, ⟨g3.os, g3.tape, g3.output, g3.size, g3.block⟩⟩
set_option maxHeartbeats 2000000 in
set_option maxRecDepth 100000 in
theorem app3_any (W : World) (B b bd bv : Nat) (vp : Value) (D : DS) (p1 p3 bl E : Nat) (z T : ByteArray) (c3 c2 c1 c5 : Value) (hB : B ≤ W.heap.size) (hz : z.size ≤ 4194304) (h1 : 1 ≤ z.size) (hT : z.extract 0 1 = T) (hE : E ≤ 4194304) (hpl : D.pend.length ≤ 1000000) (hcut : D.cut ≤ 9223372036854775807)
    (b1 : Blk W p1 33 [.pointer (some ⟨bl, 0, none⟩)]) (b3 : Blk W p3 9 [.string z]) (bb : Blk W bl 87 [.pointer (some ⟨b, 0, none⟩), c1, c2, c3, .int .i64 (E : Int), c5]) (h : DkAt W B b bd bv vp D) (n1 : ¬ Foot b bd bv vp p1) (n3 : ¬ Foot b bd bv vp p3) (nb : ¬ Foot b bd bv vp bl) :
    Calls Tryz.prog 49 #[.pointer (some ⟨p1, 0, none⟩), .pointer (some ⟨p3, 0, none⟩)] W (StepP W B b bd bv vp (writeE D (E : Int) T) (writeD D (E : Int) T)) := by
  have hTz : T.size ≤ 4194304 := by
    rw [← hT]
    simp
    omega
  have HW := Lib.hid (write_any W.drew B b bd bv vp D (E : Int) T (by omega) (by omega) (by unfold maxLen; omega) hB hpl hcut h.drew)
  obtain ⟨cw, hcw⟩ : ∃ cw, writeE D (E : Int) T = cw := ⟨_, rfl⟩
  obtain ⟨dw, hdw⟩ : ∃ dw, writeD D (E : Int) T = dw := ⟨_, rfl⟩
  rw [hcw, hdw] at HW
  rw [hcw, hdw]
  have hs2 : (0 : Int) ≤ (E : Int) := by omega
  have d1 := b1.cell 0
  have d3 := b3.cell 0
  have d0 := bb.cell 0
  have d4 := bb.cell 4
  simp only [List.getElem?_cons_zero, List.getElem?_cons_succ] at d0 d1 d3 d4
  have hz1 : (1 : Int) ≤ (z.size : Int) := by omega
  have l1 := b1.lt
  have l3 := b3.lt
  have lb := bb.lt
  clear b1 b3 bb h hcw hdw hTz
  go_enter Tryz.func49, Tryz.ntmps49
  go_upto_region 1 with (fail)
  go_region_held3 (fun W => W.cell? ⟨p1, 0, none⟩ = some (.pointer (some ⟨bl, 0, none⟩)) ∧ W.cell? ⟨p3, 0, none⟩ = some (.string z) ∧ W.cell? ⟨bl, 0, none⟩ = some (.pointer (some ⟨b, 0, none⟩)) ∧ W.cell? ⟨bl, 4, none⟩ = some (.int .i64 (E : Int))) (first | go_keep | assumption) (((with_reducible refine HW.out.mono ?_); rintro e w' ⟨rfl, hd'⟩; have HD' := Lib.hid hd'; have HF' := Lib.hid (step_fr hd'); clear hd'; have e0 := (HF'.out.cell ⟨p1, 0, none⟩ l1 n1).trans d1; have e1 := (HF'.out.cell ⟨p3, 0, none⟩ l3 n3).trans d3; have e2 := (HF'.out.cell ⟨bl, 0, none⟩ lb nb).trans d0; have e3 := (HF'.out.cell ⟨bl, 4, none⟩ lb nb).trans d4))
  all_goals
    go_wp2_with fail
    go_ret
    obtain ⟨vp', g1, g2, g3⟩ := HD'.out
    exact ⟨rfl, vp', g1, g2, ⟨g3.os, g3.tape, g3.output, g3.size, g3.block⟩⟩
end Go.Proofs.YtfpcdlpfmlaakaaGreatDoor
namespace Go.Proofs.YtfpcdlpfmlaakaaGreatDoor
open Go.RowKit Onair
/-- What a row of steps leaves: the disk behind it. -/
def StepsP (W : World) (B b bd bv : Nat) (vp : Value) (D' : DS) (w' : World) : Prop :=
  ∃ vp', DkAt w' B b bd bv vp' D' ∧ (∀ k, vp'.ownBlock = some k → vp.ownBlock = some k ∨ W.heap.size ≤ k) ∧ Fr (Foot b bd bv vp) W w'
theorem foot_new {b bd bv : Nat} {vp vp' : Value} {n : Nat} (h : ∀ k, vp'.ownBlock = some k → vp.ownBlock = some k ∨ n ≤ k) (k : Nat) (hf : Foot b bd bv vp' k) : Foot b bd bv vp k ∨ n ≤ k := by
  rcases hf with e | e | e | e
  · exact .inl (.inl e)
  · exact .inl (.inr (.inl e))
  · exact .inl (.inr (.inr (.inl e)))
  · exact (h k e).imp_left (fun e => .inr (.inr (.inr e)))
/-- One step behind others. -/
theorem StepsP.next {W A A' : World} {B b bd bv : Nat} {vp vp1 vp2 : Value} {D' : DS} (h1 : ∀ k, vp1.ownBlock = some k → vp.ownBlock = some k ∨ W.heap.size ≤ k) (h2 : Fr (Foot b bd bv vp) W A) (hd : DkAt A' B b bd bv vp2 D') (hk : ∀ k, vp2.ownBlock = some k → vp1.ownBlock = some k ∨ A.heap.size ≤ k) (hf : Fr (Foot b bd bv vp1) A A') :
    StepsP W B b bd bv vp D' A' := by
  have hz := h2.size
  refine ⟨vp2, hd, fun k e => ?_, h2.trans hf (fun i hi e => Foot.mono h1 i hi e)⟩
  rcases hk k e with e1 | e1
  · exact h1 k e1
  · exact .inr (by omega)
/-- A sync behind other steps. -/
theorem sync_step (W A : World) (B b bd bv : Nat) (vp : Value) (D' : DS) (n : Nat) (J : Nat → World → Prop) (Z : Int → World → Prop) (h : StepsP W B b bd bv vp D' A)
    (hJ : ∀ A', stE D' = 0 → StepsP W B b bd bv vp (syncD D') A' → J n A') (hZ : ∀ A', stE D' ≠ 0 → StepsP W B b bd bv vp (syncD D') A' → Z (stE D') A') :
    Calls Tryz.prog 48 #[.pointer (some ⟨b, 0, none⟩)] A (FirstP n J Z) := by
  obtain ⟨vp1, hd, hk, hf⟩ := h
  refine (sync_any A B b bd bv vp1 D' hd).mono ?_
  rintro e w' ⟨rfl, vp2, hd2, ho, hf2⟩
  have hs := StepsP.next hk hf hd2 (fun k e => .inl (by rw [← ho]; exact e)) hf2
  refine ⟨stE D', rfl, ?_⟩
  by_cases h0 : stE D' = 0
  · exact .inl ⟨h0, hJ w' h0 hs⟩
  · exact .inr ⟨h0, hZ w' h0 hs⟩
theorem steps_cell {W A : World} {B b bd bv : Nat} {vp : Value} {D' : DS} (h : StepsP W B b bd bv vp D' A) {bs : Nat} {t : TypeId} {l : List Value} (hb : Blk W bs t l) (hn : ¬ Foot b bd bv vp bs) : Blk A bs t l := by
  obtain ⟨_, _, _, hf⟩ := h
  exact hb.kept (hf.block _ hb.lt hn)
theorem writeE_in (D : DS) (o : Nat) (s : ByteArray) (hl : D.lost = false) (h : o + s.size ≤ D.vis.length) : writeE D (o : Int) s = 0 := by
  unfold writeE
  rw [hl, insB_nat D o s.size h]
  rfl
theorem first_open (w7 : World) (B b bd bv N xb zb bl bs E : Nat) (vp : Value) (D : DS) (Z : ByteArray) (c1 c2 c3 c5 : Value) (ft : TypeId) (hB : B ≤ w7.heap.size) (hz : Z.size ≤ 4194304) (hE : E ≤ 4194304) (hl : D.lost = false) (hin : E + Z.size ≤ D.vis.length) (hpl : D.pend.length ≤ 1000000) (hcut : D.cut ≤ 9223372036854775807)
    (b1 : Blk w7 N 24 [.pointer (some ⟨b, 0, none⟩)]) (b2 : Blk w7 xb 33 [.pointer (some ⟨bl, 0, none⟩)]) (b3 : Blk w7 zb 9 [.string Z]) (bb : Blk w7 bl 87 [.pointer (some ⟨b, 0, none⟩), c1, c2, c3, .int .i64 (E : Int), c5])
    (bf : Blk w7 bs ft [.func (.func 78) #[] #[.pointer (some ⟨N, 0, none⟩), .pointer (some ⟨xb, 0, none⟩), .pointer (some ⟨zb, 0, none⟩)], .func (.func 48) #[.pointer (some ⟨b, 0, none⟩)] #[]])
    (h : DkAt w7 B b bd bv vp D) (n1 : ¬ Foot b bd bv vp N) (n2 : ¬ Foot b bd bv vp xb) (n3 : ¬ Foot b bd bv vp zb) (nb : ¬ Foot b bd bv vp bl) (nf : ¬ Foot b bd bv vp bs) :
    Calls Tryz.prog 46 #[.slice (some ⟨bs, 0, none⟩) 2 2] w7 fun e w' => e = .returned (.int .i64 (putE D E Z)) ∧ StepsP w7 B b bd bv vp (putD D E Z) w' := by
  have h0 : StepsP w7 B b bd bv vp D w7 := ⟨vp, h, fun k e => .inl e, Fr.refl _ _⟩
  have hc := first_any [.func (.func 78) #[] #[.pointer (some ⟨N, 0, none⟩), .pointer (some ⟨xb, 0, none⟩), .pointer (some ⟨zb, 0, none⟩)], .func (.func 48) #[.pointer (some ⟨b, 0, none⟩)] #[]] bs 2
    (fun k A => match k with
      | 0 => A = w7
      | 1 => StepsP w7 B b bd bv vp (writeD D (E : Int) Z) A
      | _ => putE D E Z = 0 ∧ StepsP w7 B b bd bv vp (putD D E Z) A)
    (fun c A => c = putE D E Z ∧ StepsP w7 B b bd bv vp (putD D E Z) A) w7 rfl (by decide) ?_ ?_ rfl
  · refine hc.mono ?_
    rintro e w' ⟨c, rfl, (⟨rfl, h1, h2⟩ | ⟨_, h1, h2⟩)⟩
    · exact ⟨by rw [h1], h2⟩
    · exact ⟨by rw [h1], h2⟩
  · intro k A hA j f hf
    rw [Nat.zero_add]
    have hb : Blk A bs ft [.func (.func 78) #[] #[.pointer (some ⟨N, 0, none⟩), .pointer (some ⟨xb, 0, none⟩), .pointer (some ⟨zb, 0, none⟩)], .func (.func 48) #[.pointer (some ⟨b, 0, none⟩)] #[]] := by
      match k, hA with
      | 0, hA => cases hA; exact bf
      | 1, hA => exact steps_cell hA bf nf
      | _ + 2, hA => exact steps_cell hA.2 bf nf
    rw [hb.cell]
    exact hf
  · intro k f A hf hA
    match k, hf, hA with
    | 0, hf, hA =>
      cases hA
      cases hf
      refine .inl ⟨_, _, _, rfl, (open1_any w7 B b bd bv vp D N xb zb bl E Z c3 c2 c1 c5 hB hz hE hpl hcut b1 b2 b3 bb h n1 n2 n3 nb).mono ?_⟩
      rintro e w' ⟨rfl, vp', h1, h2, h3⟩
      exact ⟨_, rfl, .inl ⟨writeE_in D E Z hl hin, vp', h1, h2, h3⟩⟩
    | 1, hf, hA =>
      cases hf
      refine .inr (.inl ⟨_, rfl, sync_step w7 A B b bd bv vp _ 2 _ _ hA (fun A' e1 e2 => ⟨e1, e2⟩) (fun A' e1 e2 => ⟨rfl, e2⟩)⟩)
    | k + 2, hf, hA => simp at hf
end Go.Proofs.YtfpcdlpfmlaakaaGreatDoor
namespace Go.Proofs.YtfpcdlpfmlaakaaGreatDoor
open Go.RowKit Onair
theorem pend_put (D : DS) (o : Nat) (s : ByteArray) (h : putE D o s = 0) : (putD D o s).pend = [] ∧ (putD D o s).lost = false := by
  have h1 := (stE_lost (writeD D o s)).1 h
  unfold putD syncD
  rw [h1]
  exact ⟨rfl, rfl⟩
theorem cut_write (D : DS) (o : Int) (s : ByteArray) (n : Nat) (h : D.cut ≤ n) : (writeD D o s).cut ≤ n := by
  unfold writeD
  split
  · exact h
  · split
    · unfold wroteD
      split
      · exact h
      · split
        · exact Nat.zero_le _
        · exact Nat.le_trans (Nat.sub_le _ _) h
    · exact h
theorem cut_put (D : DS) (o : Nat) (s : ByteArray) (n : Nat) (h : D.cut ≤ n) : (putD D o s).cut ≤ n := by
  unfold putD syncD
  split
  · exact cut_write _ _ _ _ h
  · exact cut_write _ _ _ _ h
/-- The closures of Append's steps. -/
def appFs (p1 p3 b : Nat) : List Value := [.func (.func 47) #[] #[.pointer (some ⟨p1, 0, none⟩), .pointer (some ⟨p3, 0, none⟩)], .func (.func 48) #[.pointer (some ⟨b, 0, none⟩)] #[], .func (.func 49) #[] #[.pointer (some ⟨p1, 0, none⟩), .pointer (some ⟨p3, 0, none⟩)], .func (.func 48) #[.pointer (some ⟨b, 0, none⟩)] #[]]
def Put2 (D : DS) (E : Nat) (T O : ByteArray) (c : Int) (D' : DS) : Prop :=
  (putE D (E + 1) T ≠ 0 ∧ c = putE D (E + 1) T ∧ D' = putD D (E + 1) T) ∨ (putE D (E + 1) T = 0 ∧ c = putE (putD D (E + 1) T) E O ∧ D' = putD (putD D (E + 1) T) E O)
theorem first_app (w7 : World) (B b bd bv p1 p3 bl bs E : Nat) (vp : Value) (D : DS) (z T O : ByteArray) (c1 c2 c3 c5 : Value) (ft : TypeId) (hB : B ≤ w7.heap.size) (hz : z.size ≤ 4194304) (h1z : 1 ≤ z.size) (hT : z.extract 1 z.size = T) (hO : z.extract 0 1 = O) (hE : E ≤ 4194304) (hl : D.lost = false) (hin : E + z.size ≤ D.vis.length) (hpl : D.pend.length ≤ 1000000) (hcut : D.cut ≤ 9223372036854775807)
    (b1 : Blk w7 p1 33 [.pointer (some ⟨bl, 0, none⟩)]) (b3 : Blk w7 p3 9 [.string z]) (bb : Blk w7 bl 87 [.pointer (some ⟨b, 0, none⟩), c1, c2, c3, .int .i64 (E : Int), c5])
    (bf : Blk w7 bs ft (appFs p1 p3 b))
    (h : DkAt w7 B b bd bv vp D) (n1 : ¬ Foot b bd bv vp p1) (n3 : ¬ Foot b bd bv vp p3) (nb : ¬ Foot b bd bv vp bl) (nf : ¬ Foot b bd bv vp bs) :
    Calls Tryz.prog 46 #[.slice (some ⟨bs, 0, none⟩) 4 4] w7 fun e w' => ∃ c D', e = .returned (.int .i64 c) ∧ Put2 D E T O c D' ∧ StepsP w7 B b bd bv vp D' w' := by
  have h0 : StepsP w7 B b bd bv vp D w7 := ⟨vp, h, fun k e => .inl e, Fr.refl _ _⟩
  have hTz : T.size + 1 = z.size := by
    rw [← hT]
    simp
    omega
  have hOz : O.size = 1 := by
    rw [← hO]
    simp
    omega
  have hc := first_any (appFs p1 p3 b) bs 4
    (fun k A => match k with
      | 0 => A = w7
      | 1 => StepsP w7 B b bd bv vp (writeD D ((E + 1 : Nat) : Int) T) A
      | 2 => putE D (E + 1) T = 0 ∧ StepsP w7 B b bd bv vp (putD D (E + 1) T) A
      | 3 => putE D (E + 1) T = 0 ∧ StepsP w7 B b bd bv vp (writeD (putD D (E + 1) T) (E : Int) O) A
      | _ => putE D (E + 1) T = 0 ∧ putE (putD D (E + 1) T) E O = 0 ∧ StepsP w7 B b bd bv vp (putD (putD D (E + 1) T) E O) A)
    (fun c A => ∃ D', Put2 D E T O c D' ∧ StepsP w7 B b bd bv vp D' A) w7 rfl (by decide) ?_ ?_ rfl
  · refine hc.mono ?_
    rintro e w' ⟨c, rfl, (⟨rfl, h1, h2, h3⟩ | ⟨_, D', h1, h2⟩)⟩
    · exact ⟨_, _, rfl, .inr ⟨h1, h2.symm, rfl⟩, h3⟩
    · exact ⟨_, _, rfl, h1, h2⟩
  · intro k A hA j f hf
    rw [Nat.zero_add]
    have hb : Blk A bs ft (appFs p1 p3 b) := by
      match k, hA with
      | 0, hA => cases hA; exact bf
      | 1, hA => exact steps_cell hA bf nf
      | 2, hA => exact steps_cell hA.2 bf nf
      | 3, hA => exact steps_cell hA.2 bf nf
      | _ + 4, hA => exact steps_cell hA.2.2 bf nf
    rw [hb.cell]
    exact hf
  · intro k f A hf hA
    match k, hf, hA with
    | 0, hf, hA =>
      cases hA
      cases hf
      have e1 : ((E + 1 : Nat) : Int) = (E : Int) + 1 := rfl
      refine .inr (.inr (.inl ⟨_, _, rfl, (app2_any w7 B b bd bv vp D p1 p3 bl E z T c3 c2 c1 c5 hB hz h1z hT hE hpl hcut b1 b3 bb h n1 n3 nb).mono ?_⟩))
      rw [← e1]
      rintro e w' ⟨rfl, vp', h1, h2, h3⟩
      exact ⟨_, rfl, .inl ⟨writeE_in D (E + 1) T hl (by omega), vp', h1, h2, h3⟩⟩
    | 1, hf, hA =>
      cases hf
      refine .inr (.inl ⟨_, rfl, sync_step w7 A B b bd bv vp (writeD D ((E + 1 : Nat) : Int) T) 2 _ _ hA (fun A' e1 e2 => ⟨e1, e2⟩) (fun A' e1 e2 => ⟨_, .inl ⟨e1, rfl, rfl⟩, e2⟩)⟩)
    | 2, hf, hA =>
      cases hf
      obtain ⟨hz1, hA⟩ := hA
      obtain ⟨q1, q2⟩ := pend_put D (E + 1) T hz1
      have hbA := fun {bs t l} (hb : Blk w7 bs t l) hn => steps_cell hA hb hn
      obtain ⟨vp1, hd, hk, hfr⟩ := hA
      have hsz := hfr.size
      have nn : ∀ {x}, x < w7.heap.size → ¬ Foot b bd bv vp x → ¬ Foot b bd bv vp1 x := fun hx hn hf => (foot_new hk _ hf).elim hn (fun h => by omega)
      refine .inr (.inr (.inr ⟨_, _, rfl, (app3_any A B b bd bv vp1 (putD D (E + 1) T) p1 p3 bl E z O c3 c2 c1 c5 (by omega) hz h1z hO hE (by rw [q1]; decide) (cut_put _ _ _ _ hcut) (hbA b1 n1) (hbA b3 n3) (hbA bb nb) hd (nn b1.lt n1) (nn b3.lt n3) (nn bb.lt nb)).mono ?_⟩))
      rintro e w' ⟨rfl, vp', h1, h2, h3⟩
      exact ⟨_, rfl, .inl ⟨writeE_in _ E O q2 (by rw [putD_len]; omega), hz1, StepsP.next hk hfr h1 h2 h3⟩⟩
    | 3, hf, hA =>
      cases hf
      refine .inr (.inl ⟨_, rfl, sync_step w7 A B b bd bv vp (writeD (putD D (E + 1) T) (E : Int) O) 4 _ _ hA.2 (fun A' e1 e2 => ⟨hA.1, e1, e2⟩) (fun A' e1 e2 => ⟨_, .inr ⟨hA.1, rfl, rfl⟩, e2⟩)⟩)
    | k + 4, hf, hA => simp [appFs] at hf
end Go.Proofs.YtfpcdlpfmlaakaaGreatDoor
namespace Go.Proofs.YtfpcdlpfmlaakaaGreatDoor
open Go.RowKit Onair
attribute [local go_sem ↓] Go.wp_at_zero Go.wp_at_succ
def stoA (R : List Rec) (r : Rec) : Array Value := stA r (encB r) (headR (R ++ [r])) ((endN (R ++ [r]) : Nat) : Int)
def gcells : List Rec → List Rec → List Value
  | _, [] => []
  | R, r :: l => (stoA R r).toList ++ gcells (R ++ [r]) l
theorem gcells_snoc : ∀ (l R : List Rec) (r : Rec), gcells R (l ++ [r]) = gcells R l ++ (stoA (R ++ l) r).toList
  | [], R, r => by simp [gcells]
  | x :: l, R, r => by simp only [List.cons_append, gcells, gcells_snoc l, List.append_assoc, List.nil_append]
theorem gcells_len : ∀ (l R : List Rec), (gcells R l).length = l.length * 9
  | [], R => rfl
  | x :: l, R => by
    show ((stoA R x).toList ++ gcells (R ++ [x]) l).length = _
    rw [List.length_append, gcells_len l]
    show 9 + _ = _
    rw [List.length_cons]
    omega
theorem gcells_at : ∀ (l R : List Rec) (k : Nat) (r : Rec) (j : Nat), l[k]? = some r → j < 9 → (gcells R l)[k * 9 + j]? = (stoA (R ++ l.take k) r).toList[j]?
  | [], R, k, r, j, h, _ => by simp at h
  | x :: l, R, 0, r, j, h, hj => by
    simp only [List.getElem?_cons_zero, Option.some.injEq] at h
    subst h
    show ((stoA R x).toList ++ gcells (R ++ [x]) l)[0 * 9 + j]? = _
    rw [List.getElem?_append_left (by show 0 * 9 + j < 9; omega)]
    simp
  | x :: l, R, k + 1, r, j, h, hj => by
    simp only [List.getElem?_cons_succ] at h
    show ((stoA R x).toList ++ gcells (R ++ [x]) l)[(k + 1) * 9 + j]? = _
    rw [List.getElem?_append_right (by show 9 ≤ _; omega), show (k + 1) * 9 + j - (stoA R x).toList.length = k * 9 + j from by show (k + 1) * 9 + j - 9 = _; omega, gcells_at l _ k r j h hj, List.take_succ_cons]
    simp
theorem outL'_snoc (R l : List Rec) (r : Rec) : outL' R (l ++ [r]) = outL' R l ++ storedL (headR (R ++ l)) r := by
  unfold outL' headR
  rw [logL_snoc, headF_append]
theorem headR_snoc (R : List Rec) (r : Rec) : headR (R ++ [r]) = chainB (headR R) (encB r) := by
  unfold headR
  rw [headF_append]
  rfl
theorem Tryz.infoSto : (Tryz.prog.info? 103).map (fun i => (i.zero, i.size, i.bytes)) = some (some (.agg #[.int .i64 0, .int .i64 0, .int .i64 0, .int .i64 0, .int .i64 0, .int .i64 0, .string ⟨#[]⟩, .string ⟨#[]⟩, .int .i64 0]), 9, 88) := by kernel_rfl
/-- append of one stored record to a row of the call's own. -/
theorem app_sto (W : World) (B : Nat) (v : Value) (n : Nat) (xs : List Value) (r : Rec) (enc h : ByteArray) (e : Int) (hown : W.ownsRow B 103 9 v n xs) (hn : n ≤ 1000000) (hB : B ≤ W.heap.size) (ty : TypeId) :
    ∃ oa cap w', (Builtin.append_ #[90, 90] ty #[v, .slice (some ⟨W.heap.size, 0, none⟩) 1 1]).run Tryz.prog (W.alloc (.cells (stA r enc h e) 103)) = .ok (.slice oa (n + 1) cap) w' ∧ w'.ownsRow B 103 9 (.slice oa (n + 1) cap) (n + 1) (xs ++ (stA r enc h e).toList) ∧ Fr (fun k => v.ownBlock = some k) W w' ∧ (∀ k, (Value.slice oa (n + 1) cap).ownBlock = some k → v.ownBlock = some k ∨ W.heap.size ≤ k) := by
  obtain ⟨i0, hi, hz0, hz1, hz2⟩ := info_parts Tryz.infoSto
  have hnew : Blk (W.alloc (.cells (stA r enc h e) 103)) W.heap.size 103 (stA r enc h e).toList := Blk.new W _ _
  obtain ⟨v', w1, hrun, ho1, hf1, hk1⟩ := app_own (P := Tryz.prog) (W := W.alloc (.cells (stA r enc h e) 103)) B 90 ty 103 i0 (.agg #[.int .i64 0, .int .i64 0, .int .i64 0, .int .i64 0, .int .i64 0, .int .i64 0, .string ⟨#[]⟩, .string ⟨#[]⟩, .int .i64 0]) 9 88 Tryz.underlying90 hi hz0 hz1 hz2 rfl (by decide) v n xs (hown.alloc _) ⟨W.heap.size, 0, none⟩ 1 1 (stA r enc h e).toList rfl (fun j u hj => by
      rw [show ((⟨W.heap.size, 0, none⟩ : Addr).add j) = ⟨W.heap.size, j, none⟩ from by unfold Addr.add; split <;> simp_all, hnew.cell]
      exact hj) (by intro u hu; simp [stA] at hu; rcases hu with rfl | rfl | rfl | rfl | rfl | rfl | rfl | rfl | rfl <;> rfl) (by unfold maxLen; omega) (by omega) (by simp; omega)
  obtain ⟨oa, nn, cap, rfl, hnn⟩ : ∃ oa nn cap, v' = .slice oa nn cap ∧ nn = n + 1 := by
    rcases ho1.2 with ⟨rfl, h0⟩ | ⟨g, cap, _, rfl, _⟩
    · omega
    · exact ⟨_, _, _, rfl, rfl⟩
  subst hnn
  exact ⟨oa, cap, w1, hrun, ho1, ((Fr.refl _ W).alloc _).trans hf1 (fun k _ hk => hk), fun k hk => (hk1 k hk).imp_right (fun h => by simp at h; omega)⟩
/-- The builder stays where a row of another type is appended to. -/
theorem own_block_ty {W : World} {B : Nat} {t : TypeId} {size : Nat} {v : Value} {n : Nat} {xs : List Value} (h : W.ownsRow B t size v n xs) {k : Nat} (hk : v.ownBlock = some k) : ∃ cs fz, W.heap[k]? = some (.cells cs t fz) := by
  rcases h.2 with ⟨rfl, _⟩ | ⟨g, cap, cur, rfl, _, hgb, _⟩
  · simp [Value.ownBlock] at hk
  · simp [Value.ownBlock] at hk
    subst hk
    exact ⟨_, _, hgb⟩
theorem BldAt.frt {T e t : TypeId} {B b B2 size n : Nat} {p v : Value} {bs xs : List Value} {w w' : World} (h : Lib.BuilderAt T e B b p bs w) (hown : w.ownsRow B2 t size v n xs) (h1 : t ≠ T) (h2 : t ≠ e) (hf : Fr (fun k => v.ownBlock = some k) w w') : Lib.BuilderAt T e B b p bs w' := by
  have hlt := h.lt
  obtain ⟨hB, u, hbk, ho, hne⟩ := h
  refine ⟨hB, u, (hf.block b hlt (fun hk => ?_)).trans hbk, ownsRow_keptF ho (fun k hk => hf.block k (own_lt ho k hk) (fun hk2 => ?_)), hne⟩
  · obtain ⟨cs, fz, hq⟩ := own_block_ty hown hk
    rw [hbk] at hq
    cases hq
    exact h1 rfl
  · obtain ⟨cs, fz, hq⟩ := own_block_ty hown hk2
    obtain ⟨cs', fz', hq'⟩ := own_block_ty ho hk
    rw [hq'] at hq
    cases hq
    exact h2 rfl
theorem Bld.frt {B b B2 size n : Nat} {l : List UInt8} {t : TypeId} {v : Value} {xs : List Value} {w w' : World} (h : Bld B b l w) (hown : w.ownsRow B2 t size v n xs) (h1 : t ≠ 93) (h2 : t ≠ 5) (hf : Fr (fun k => v.ownBlock = some k) w w') : Bld B b l w' := by
  rcases h with h | h
  · exact .inl (BldAt.frt h hown h1 h2 hf)
  · exact .inr (BldAt.frt h hown h1 h2 hf)
/-- A row stays where the builder writes. -/
theorem own_keeps {W W' : World} {b B size n : Nat} {t : TypeId} {v : Value} {xs : List Value} (h : W.ownsRow B t size v n xs) (hk : Keeps b W W') (ht : t ≠ 5) (hb : v.ownBlock ≠ some b) : W'.ownsRow B t size v n xs := by
  refine ⟨h.1, ?_⟩
  rcases h.2 with h2 | ⟨g, cap, cur, q1, q2, q3, q4⟩
  · exact .inl h2
  · refine .inr ⟨g, cap, cur, q1, q2, ?_, q4⟩
    have hg : g ≠ b := fun e => hb (by rw [q1, e]; rfl)
    have : Blk W g t cur.toList := by show _ = _; rw [q3]
    have h2 := hk g t cur.toList ht hg this
    show _ = _
    rw [h2]
theorem fr1 {A W : World} {g : Nat} {j : Nat} (h : Fr (fun k => k = g) A W) (x : Value) (_ : j = j) : Fr (fun k => k = g) A (W.setCell ⟨g, j, none⟩ x) := h.setCell ⟨g, j, none⟩ x (.inl rfl)
/-- The world of Append while the group is built: the variable x, the builder with the bytes L, the group of k stored records. -/
structure ApI (w : World) (N b1 bl : Nat) (L : List UInt8) (k : Nat) (xs : List Value) (oa : Option Addr) (cap : Nat) (W : World) : Prop where
  px : Blk W N 33 [.pointer (some ⟨bl, 0, none⟩)]
  bd : Bld b1 b1 L W
  gr : W.ownsRow (b1 + 1) 103 9 (.slice oa k cap) k xs
  bel : Below N w W
  n1 : N < b1
  n2 : b1 < W.heap.size
theorem ApI.below {w : World} {N b1 bl : Nat} {L : List UInt8} {k : Nat} {xs : List Value} {oa : Option Addr} {cap : Nat} {W W' : World} (h : ApI w N b1 bl L k xs oa cap W) (hb : Below W.heap.size W W') : ApI w N b1 bl L k xs oa cap W' :=
  ⟨h.px.kept (hb.block _ h.px.lt), h.bd.below hb, ownsRow_keptF h.gr (fun j e => hb.block j (own_lt h.gr j e)), h.bel.trans (hb.mono (by have := h.n1; have := h.n2; omega)), h.n1, Nat.lt_of_lt_of_le h.n2 hb.size⟩
theorem ApI.new {w W : World} {N bl : Nat} (px : Blk W N 33 [.pointer (some ⟨bl, 0, none⟩)]) (bel : Below N w W) : ApI w N W.heap.size bl [] 0 [] none 0 (W.alloc (.cells #[.pointer none, .slice none 0 0] 93)) :=
  ⟨px.alloc _, Lib.fresh_isBuilder _ _ W, World.ownsRow_nil _ _ _ _, bel.alloc (by have := px.lt; omega) _, px.lt, by simp⟩
theorem ApI.write {w : World} {N b1 bl : Nat} {L : List UInt8} {k : Nat} {xs : List Value} {oa : Option Addr} {cap : Nat} {W W' : World} {L' : List UInt8} (h : ApI w N b1 bl L k xs oa cap W) (hbd : Bld b1 b1 L' W') (hb : Below b1 W W') (hk : Keeps b1 W W') : ApI w N b1 bl L' k xs oa cap W' :=
  ⟨h.px.kept (hb.block _ h.n1), hbd, own_keeps h.gr hk (by decide) (fun e => by have := own_ge h.gr _ e; omega), h.bel.trans (hb.mono (by have := h.n1; omega)), h.n1, Nat.lt_of_lt_of_le h.n2 hb.size⟩
theorem ApI.app {w : World} {N b1 bl : Nat} {L : List UInt8} {k : Nat} {xs : List Value} {oa : Option Addr} {cap : Nat} {W : World} (h : ApI w N b1 bl L k xs oa cap W) (hk : k ≤ 1000000) (r : Rec) (enc hd : ByteArray) (e : Int) :
    ∃ oa' cap' w', (∀ ty, (Builtin.append_ #[90, 90] ty #[.slice oa k cap, .slice (some ⟨W.heap.size, 0, none⟩) 1 1]).run Tryz.prog (W.alloc (.cells (stA r enc hd e) 103)) = .ok (.slice oa' (k + 1) cap') w') ∧ ApI w N b1 bl L (k + 1) (xs ++ (stA r enc hd e).toList) oa' cap' w' ∧ Fr (fun j => (Value.slice oa k cap).ownBlock = some j) W w' := by
  have hn1 := h.n1
  have hn2 := h.n2
  obtain ⟨oa', cap', w', hrun, ho, hf, hnew⟩ := app_sto W (b1 + 1) (.slice oa k cap) k xs r enc hd e h.gr hk (by omega) 0
  have hge : ∀ j, (Value.slice oa k cap).ownBlock = some j → b1 + 1 ≤ j := fun j e => own_ge h.gr j e
  exact ⟨oa', cap', w', fun ty => hrun, ⟨h.px.kept (hf.block _ h.px.lt (fun e => by have := hge _ e; omega)), h.bd.frt h.gr (by decide) (by decide) hf, ho, h.bel.trans (hf.below N (by omega) (fun j e => by have := hge j e; omega)), hn1, Nat.lt_of_lt_of_le hn2 hf.size⟩, hf⟩
theorem step_sto {ops : Array Oper} {o : Oper} {a : Act} {K : Act → World → Prop} {Q : Exit → Act → World → Prop} {Ee : Prop} {w : World} {N b1 bl : Nat} {L : List UInt8} {k : Nat} {xs : List Value} {oa : Option Addr} {cap : Nat} {W : World} (r : Rec) (enc hd : ByteArray) (e : Int) (hgd : o.guard = none) (s y : Operand)
    (ho : o.op = .call { callee := .builtin .append, args := #[s, y], argTypes := #[90, 90] }) (hs : a.eval s = .slice oa k cap) (hx : a.eval y = .slice (some ⟨W.heap.size, 0, none⟩) 1 1)
    (h : Hid (ApI w N b1 bl L k xs oa cap W)) (hl : k ≤ 1000000)
    (hK : ∀ oa' cap' w', Hid (ApI w N b1 bl L (k + 1) (xs ++ (stA r enc hd e).toList) oa' cap' w') → Hid (Fr (fun j => (Value.slice oa k cap).ownBlock = some j) W w') → K (a.put o.dst (.slice oa' (k + 1) cap')) w') :
    if Region.wanted o (yielded ops a.tmps) = true then Oper.wp Tryz.prog o a (W.alloc (.cells #[.int .i64 r.ch, .int .i64 r.rg, .int .i64 r.fr, .int .i64 r.fs, .int .i64 r.it, .int .i64 r.ix, .string enc, .string hd, .int .i64 e] 103)) K Q else Ee := by
  obtain ⟨oa', cap', w', hrun, hm, hf⟩ := h.out.app hl r enc hd e
  exact step_run hgd s y ho hs hx hrun (hK oa' cap' w' hm hf)
theorem addr_at (g j : Nat) : ((⟨g, 0, none⟩ : Addr).add j) = ⟨g, j, none⟩ := by unfold Addr.add; split <;> simp_all
/-- The nine cells of a stored record. -/
theorem gcell {W : World} {B n cap : Nat} {oa : Option Addr} {R l : List Rec} (h : W.ownsRow B 103 9 (.slice oa n cap) n (gcells R l)) (k : Nat) (r : Rec) (hk : l[k]? = some r) :
    ∃ g, oa = some ⟨g, 0, none⟩ ∧ g < W.heap.size ∧ ∀ j v, j < 9 → (stoA (R ++ l.take k) r).toList[j]? = some v → W.cell? ⟨g, k * 9 + j, none⟩ = some v := by
  obtain ⟨g, hg⟩ : ∃ g, oa = some ⟨g, 0, none⟩ := by
    rcases h.2 with ⟨e, h0⟩ | ⟨g, cap', cur, e, _⟩
    · have h1 := h.1
      rw [gcells_len, h0] at h1
      have := (List.getElem?_eq_some_iff.1 hk).1
      omega
    · simp at e
      exact ⟨g, e.1⟩
  subst hg
  refine ⟨g, rfl, own_lt h g rfl, fun j v hj hv => ?_⟩
  rw [← addr_at]
  exact h.cells (g := g) rfl (k * 9 + j) v (by rw [gcells_at l R k r j hk hj]; exact hv)
theorem out_tail (R l : List Rec) (n : Nat) (hn : (outL' R l).length = n) : (⟨(outL' R l).toArray⟩ : ByteArray).extract 1 n = tailB R l := by
  unfold tailB
  apply ByteArray.ext
  rw [ByteArray.data_extract]
  apply Array.toList_inj.1
  rw [Array.toList_extract, List.extract_eq_take_drop]
  show ((outL' R l).drop 1).take (n - 1) = (outL' R l).drop 1
  exact List.take_of_length_le (by rw [List.length_drop]; omega)
theorem out_one (R l : List Rec) (h : l ≠ []) : (⟨(outL' R l).toArray⟩ : ByteArray).extract 0 1 = oneB := by
  obtain ⟨r, l', rfl⟩ : ∃ r l', l = r :: l' := by
    cases l with
    | nil => exact absurd rfl h
    | cons r l' => exact ⟨r, l', rfl⟩
  rw [outL'_one]
  apply ByteArray.ext
  rw [ByteArray.data_extract]
  apply Array.toList_inj.1
  rw [Array.toList_extract, List.extract_eq_take_drop]
  rfl
theorem put2_app {D D' : DS} {R l : List Rec} {T O : ByteArray} {c : Int} {E : Nat} (hT : T = tailB R l) (hO : O = oneB) (hE : E = endN R) (hnb : ¬ (false = true ∨ allV l = false)) (hnf : ¬ D.vis.length < endN R + (outL' R l).length) (hl0 : l ≠ []) (hp : Put2 D E T O c D') :
    appC ⟨D, R, false⟩ l = if c = 0 then (0, ⟨D', R ++ l, false⟩) else (c, ⟨D', R, true⟩) := by
  subst hT
  subst hO
  subst hE
  unfold appC
  rw [if_neg hnb, if_neg hnf, if_neg hl0]
  dsimp only
  have two : ∀ (D : DS) (o : Nat) (s : ByteArray), putE D o s ≠ 0 → putE D o s = 241 := fun D o s h => (stE_two (writeD D o s)).elim (fun e => absurd e h) (fun e => e)
  rcases hp with ⟨h1, rfl, rfl⟩ | ⟨h1, rfl, rfl⟩
  · rw [if_pos h1, if_neg h1, two _ _ _ h1]
  · rw [if_neg (fun h => h h1)]
    by_cases h2 : putE (putD D (endN R + 1) (tailB R l)) (endN R) oneB = 0
    · rw [if_neg (fun h => h h2), if_pos h2]
    · rw [if_pos h2, if_neg h2, two _ _ _ h2]
theorem LgAt.setbr {W : World} {B bl b : Nat} {vr ve : Value} {R : List Rec} {br : Bool} (h : LgAt W B bl b vr ve R br) (x : Bool) : LgAt (W.setCell ⟨bl, 5, none⟩ (.bool x)) B bl b vr ve R x := by
  have e : ∀ k, k ≠ bl → (W.setCell ⟨bl, 5, none⟩ (.bool x)).heap[k]? = W.heap[k]? := fun k hk => Below.heap_setCell _ _ _ _ hk
  exact ⟨h.blk.set 5 (.bool x), ownsRow_keptF h.recs (fun k ek => e k (h.nr k ek).1), ownsRow_keptF h.ents (fun k ek => e k (h.ne k ek)), h.ok, h.hb, h.nr, h.ne⟩
end Go.Proofs.YtfpcdlpfmlaakaaGreatDoor
