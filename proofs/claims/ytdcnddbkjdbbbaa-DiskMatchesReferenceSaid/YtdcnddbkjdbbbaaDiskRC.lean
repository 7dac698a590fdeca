/-
  The reference disk: Visible, Sync and Read.
-/
import Derived.WalkKit
import Derived.LoopTactic
import Derived.WalkSpells
import Derived.WalkLawsBesides
import Derived.RegionTactic
import Derived.BigRegion
import Derived.Deep.QuietTactic
import Derived.Deep.RegionHeld
import Derived.BigQuiet
import Derived.IntWalk
import Derived.Laws.MakeOwn
import Derived.Test.YtdcnddbkjdbbbaaDiskRB
set_option linter.unusedVariables false
set_option linter.unusedSimpArgs false
namespace Go.Proofs.Ytdcnddbkjdbbbaa
open Go.RowKit
/-- What is visible of a durable content and pending writes. -/
def visL (dur : List UInt8) (l : List (Nat × ByteArray)) : List UInt8 := l.foldl (fun a p => splice a p.1 p.2.data.toList) dur
theorem visL_snoc (dur : List UInt8) (l : List (Nat × ByteArray)) (p : Nat × ByteArray) : visL dur (l ++ [p]) = splice (visL dur l) p.1 p.2.data.toList := by simp [visL]
/-- A row of the call's own that is not empty is a block. -/
theorem own_blk {W : World} {B : Nat} {v : Value} {n : Nat} {l : List UInt8} (h : W.ownsRow B 5 1 v n (cellsB l)) (hn : 1 ≤ n) : ∃ g cap rest, v = .slice (some ⟨g, 0, none⟩) n cap ∧ Blk W g 5 (cellsB l ++ rest) ∧ n ≤ cap ∧ B ≤ g := by
  rcases h.2 with ⟨rfl, h0⟩ | ⟨g, cap, cur, rfl, q1, q2, q3, q4, q5, q6⟩
  · omega
  · refine ⟨g, cap, cur.toList.drop (n * 1), rfl, ?_, q3, q1⟩
    unfold Blk
    rw [q2, ← q6, List.take_append_drop]
/-- append of a byte slice to an empty one. -/
theorem app_bytes (W : World) (gs cs : Nat) (l : List UInt8) (rest : List Value) (hb : Blk W gs 5 (cellsB l ++ rest)) (h1 : 1 ≤ l.length) (h2 : l.length ≤ 4194304) (ty : TypeId) :
    ∃ g cap rest' w', (Builtin.append_ #[40, 40] ty #[.slice (some ⟨W.heap.size, 0, none⟩) 0 0, .slice (some ⟨gs, 0, none⟩) l.length cs]).run Try.prog (W.alloc (.cells #[] 5)) = .ok (.slice (some ⟨g, 0, none⟩) l.length cap) w' ∧ Blk w' g 5 (cellsB l ++ rest') ∧ l.length ≤ cap ∧ W.heap.size + 1 ≤ g ∧ Below W.heap.size W w' := by
  obtain ⟨i0, hi, hz0, hz1, hz2⟩ := info_parts Try.infoU8
  have hb1 := hb.alloc (.cells #[] 5)
  obtain ⟨v', w', hrun, ho, hg⟩ := run_append_arg_grows (P := Try.prog) (W.alloc (.cells #[] 5)) 40 ty 5 i0 (.int .u8 0) 1 1 Try.underlying40 hi hz0 hz1 hz2 rfl (by decide) ⟨W.heap.size, 0, none⟩ 0 0 [] rfl (fun j u hj => by simp at hj) ⟨gs, 0, none⟩ l.length cs (cellsB l) (by rw [cellsB_len]; omega) (fun j u hj => by
    rw [show ((⟨gs, 0, none⟩ : Addr).add j) = ⟨gs, j, none⟩ from by unfold Addr.add; split <;> simp_all, hb1.cell]
    rw [List.getElem?_append_left (List.getElem?_eq_some_iff.1 hj).1]
    exact hj) (by omega) (by unfold maxLen; omega) (by omega)
  rw [List.nil_append, Nat.zero_add] at ho
  obtain ⟨g, cap, rest', rfl, hb2, hc, hge⟩ := own_blk ho h1
  refine ⟨g, cap, rest', w', hrun, hb2, hc, by simpa using hge, ?_⟩
  have hfr : Fr (fun _ => False) (W.alloc (.cells #[] 5)) w' := (Fr.refl _ _).grown hg (fun k e => by cases e)
  exact ((Below.refl _ W).alloc (Nat.le_refl _) _).trans (hfr.below W.heap.size (by simp) (fun k hk => hk.elim))
theorem chg_slice {W : World} {B : Nat} {v : Value} {l : List (Nat × ByteArray)} (h : W.ownsRow B 71 2 v l.length (pcells l)) : ∃ ol cl, v = .slice ol l.length cl := by
  rcases h.2 with ⟨rfl, h0⟩ | ⟨g, cap, cur, rfl, _⟩
  · rw [h0]; exact ⟨_, _, rfl⟩
  · exact ⟨_, _, rfl⟩
theorem chg_at {W : World} {B : Nat} {ol : Option Addr} {n cl : Nat} {l : List (Nat × ByteArray)} (h : W.ownsRow B 71 2 (.slice ol n cl) l.length (pcells l)) (k : Nat) (hk : k < l.length) : ∃ gl, ol = some ⟨gl, 0, none⟩ ∧ W.cell? ⟨gl, k * 2, none⟩ = some (.int .i64 (l[k].1 : Int)) ∧ W.cell? ⟨gl, k * 2 + 1, none⟩ = some (.string l[k].2) := by
  have hp := pcell_at l k l[k].1 l[k].2 (List.getElem?_eq_getElem hk)
  rcases h.2 with ⟨e, h0⟩ | ⟨g, cap, cur, e, q⟩
  · omega
  · simp at e
    obtain ⟨rfl, rfl, rfl⟩ := e
    exact ⟨g, rfl, by rw [h.cellAt (k * 2) (by omega)]; exact hp.1, by rw [h.cellAt (k * 2 + 1) (by omega)]; exact hp.2⟩
theorem drew_below'' (w : World) (n : Nat) : Below n w w.drew := ⟨rfl, rfl, rfl, Nat.le_refl _, fun _ _ => rfl⟩
set_option maxHeartbeats 2000000 in
set_option maxRecDepth 100000 in
theorem visible_any (W : World) (B b gs cs : Nat) (rest : List Value) (vl : Value) (D : DS) (hB : B ≤ W.heap.size) (hpl : D.pend.length ≤ 1000000) (hfit : ∀ p ∈ D.pend, p.1 + p.2.size ≤ D.dur.length) (h : RkAt W B b gs cs rest vl D) :
    Calls Try.prog 34 #[.pointer (some ⟨b, 0, none⟩)] W fun e w' => ∃ gs' cs', e = .returned (.slice (some ⟨gs', 0, none⟩) D.dur.length cs') ∧ (∃ rest', Blk w' gs' 5 (cellsB (visL D.dur D.pend) ++ rest')) ∧ D.dur.length ≤ cs' ∧ W.heap.size ≤ gs' ∧ Below W.heap.size W w' := by
  obtain ⟨ol, cl, rfl⟩ := chg_slice h.own
  have hm := h.max
  have hp := h.pos
  obtain ⟨g, cg, rest', w1, hrun, hb1, hcg, hg1, hbel1⟩ := app_bytes W gs cs D.dur rest h.sure hp hm 40
  have hblk := h.blk.alloc (.cells #[] 5)
  have c0 := hblk.cell 0
  simp only [List.getElem?_cons_zero, List.getElem?_cons_succ] at c0
  have H := Lib.hid h
  have HFIT := Lib.hid hfit
  have HB1 := Lib.hid hb1
  have HL1 := Lib.hid hbel1
  clear h hfit hblk hb1 hbel1
  go_enter Try.func34, Try.ntmps34
  go_wp2_with (at_builtin; refine wpList_append_run _ rfl _ _ 40 rfl _ _ _ _ rfl rfl hrun ?_)
  clear c0 hrun
  go_loopw [4] (fun i wr => ∃ k : Nat, k ≤ D.pend.length ∧ i = .int .i64 k ∧ Hid (Blk wr g 5 (cellsB (visL D.dur (D.pend.take k)) ++ rest')) ∧ Hid ((visL D.dur (D.pend.take k)).length = D.dur.length) ∧ Hid (Below W.heap.size W wr)) (fun i _ => D.pend.length - (intOf i).toNat)
  case atStart => exact ⟨0, Nat.zero_le _, rfl, HB1.out, rfl, HL1.out⟩
  case round =>
    obtain ⟨k, hk, rfl, HB, HLN, HL⟩ := hrel
    have HR := Lib.hid (H.out.below HL.out)
    have c1 := HR.out.blk.cell 1
    simp only [List.getElem?_cons_zero, List.getElem?_cons_succ] at c1
    by_cases hend : k = D.pend.length
    · have HE : Hid (Blk wr g 5 (cellsB (visL D.dur D.pend) ++ rest')) := by
        have := HB.out
        rw [hend, List.take_length] at this
        exact this
      have q1 : ¬ (k : Int) < D.pend.length := by omega
      clear hend
      go_wp2_with fail
      go_ret
      exact ⟨g, cg, rfl, ⟨rest', HE.out⟩, hcg, by omega, HL.out⟩
    · have hk1 : (k : Int) < D.pend.length := by omega
      have hk3 : k < D.pend.length := by omega
      obtain ⟨gl, rfl, d0, d1⟩ := chg_at HR.out.own k hk3
      have HS := Lib.hid (visL_snoc D.dur (D.pend.take k) D.pend[k])
      rw [← List.take_succ_eq_append_getElem hk3] at HS
      have HF := Lib.hid (HFIT.out _ (List.getElem_mem hk3))
      obtain ⟨⟨o, t⟩, hx⟩ : ∃ x, D.pend[k] = x := ⟨_, rfl⟩
      rw [hx] at d0 d1 HS HF
      have HXE := Lib.hid hx
      dsimp only at d0 d1
      clear hx hend
      go_wp2_with fail
      refine wp_region_held_drew (S := fun w' => w'.cell? ⟨b, 1, none⟩ = some (.slice (some ⟨gl, 0, none⟩) D.pend.length cl) ∧ w'.cell? ⟨gl, k * 2, none⟩ = some (.int .i64 (o : Int)) ∧ w'.cell? ⟨gl, k * 2 + 1, none⟩ = some (.string t)) (by kernel_rfl) ?_ (fun hHeld => ?_)
      · exact ⟨c1, d0, d1⟩
      clear c1 d0 d1
      refine wpAnyH_take (i := 0) (oi := ⟨some 20, _, _, _, _, _⟩) (v := ?va0) rfl (by kernel_rfl) (by kernel_rfl) (by kernel_rfl) (fun _ _ _ h => h) (Or.inl ⟨by rfl, ?ya0⟩) (by assumption) ?ra0
      case ya0 => (intro w hSw; (try dsimp only at hSw); go_simp; (try (with_reducible rfl)))
      try simp only [Act.put, List.setIfInBounds_toArray, List.set_cons_zero, List.set_cons_succ]
      refine wpAnyH_take (i := 1) (oi := ⟨some 21, _, _, _, _, _⟩) (v := ?va1) rfl (by kernel_rfl) (by kernel_rfl) (by kernel_rfl) (fun _ _ _ h => h) (Or.inl ⟨by rfl, ?ya1⟩) (by assumption) ?ra1
      case ya1 => (intro w hSw; (try dsimp only at hSw); go_simp; (try (with_reducible rfl)))
      try simp only [Act.put, List.setIfInBounds_toArray, List.set_cons_zero, List.set_cons_succ]
      refine wpAnyH_take (i := 2) (oi := ⟨some 22, _, _, _, _, _⟩) (v := ?va2) rfl (by kernel_rfl) (by kernel_rfl) (by kernel_rfl) (fun _ _ _ h => h) (Or.inl ⟨by rfl, ?ya2⟩) (by assumption) ?ra2
      case ya2 => (intro w hSw; (try dsimp only at hSw); go_simp; (try (with_reducible rfl)))
      try simp only [Act.put, List.setIfInBounds_toArray, List.set_cons_zero, List.set_cons_succ]
      refine wpAnyH_take (i := 3) (oi := ⟨some 23, _, _, _, _, _⟩) (v := ?va3) rfl (by kernel_rfl) (by kernel_rfl) (by kernel_rfl) (fun _ _ _ h => h) (Or.inl ⟨by rfl, ?ya3⟩) (by assumption) ?ra3
      case ya3 => (intro w hSw; (try dsimp only at hSw); go_simp; (try (with_reducible rfl)))
      try simp only [Act.put, List.setIfInBounds_toArray, List.set_cons_zero, List.set_cons_succ]
      refine wpAnyH_take (i := 4) (oi := ⟨some 24, _, _, _, _, _⟩) (v := ?va4) rfl (by kernel_rfl) (by kernel_rfl) (by kernel_rfl) (fun _ _ _ h => h) (Or.inl ⟨by rfl, ?ya4⟩) (by assumption) ?ra4
      case ya4 => (intro w hSw; (try dsimp only at hSw); go_simp; (try (with_reducible rfl)))
      try simp only [Act.put, List.setIfInBounds_toArray, List.set_cons_zero, List.set_cons_succ]
      refine wpAnyH_take (i := 5) (oi := ⟨some 25, _, _, _, _, _⟩) (v := ?va5) rfl (by kernel_rfl) (by kernel_rfl) (by kernel_rfl) (fun _ _ _ h => h) (Or.inl ⟨by rfl, ?ya5⟩) (by assumption) ?ra5
      case ya5 => (intro w hSw; (try dsimp only at hSw); go_simp; (try (with_reducible rfl)))
      try simp only [Act.put, List.setIfInBounds_toArray, List.set_cons_zero, List.set_cons_succ]
      refine wpAnyH_take (i := 6) (oi := ⟨some 26, _, _, _, _, _⟩) (v := ?va6) rfl (by kernel_rfl) (by kernel_rfl) (by kernel_rfl) (fun _ _ _ h => h) (Or.inl ⟨by rfl, ?ya6⟩) (by assumption) ?ra6
      case ya6 => (intro w hSw; (try dsimp only at hSw); go_simp; (try (with_reducible rfl)))
      try simp only [Act.put, List.setIfInBounds_toArray, List.set_cons_zero, List.set_cons_succ]
      refine wpAnyH_take (i := 7) (oi := ⟨some 27, _, _, _, _, _⟩) (v := ?va7) rfl (by kernel_rfl) (by kernel_rfl) (by kernel_rfl) (fun _ _ _ h => h) (Or.inl ⟨by rfl, ?ya7⟩) (by assumption) ?ra7
      case ya7 => (intro w hSw; (try dsimp only at hSw); go_simp; (try (with_reducible rfl)))
      try simp only [Act.put, List.setIfInBounds_toArray, List.set_cons_zero, List.set_cons_succ]
      refine wpAnyH_take (i := 8) (oi := ⟨some 28, _, _, _, _, _⟩) (v := ?va8) rfl (by kernel_rfl) (by kernel_rfl) (by kernel_rfl) (fun _ _ _ h => h) (Or.inl ⟨by rfl, ?ya8⟩) (by assumption) ?ra8
      case ya8 => (intro w hSw; (try dsimp only at hSw); go_simp; (try (with_reducible rfl)))
      try simp only [Act.put, List.setIfInBounds_toArray, List.set_cons_zero, List.set_cons_succ]
      refine wpAnyH_take (i := 9) (oi := ⟨some 29, _, _, _, _, _⟩) (v := ?va9) rfl (by kernel_rfl) (by kernel_rfl) (by kernel_rfl) (fun _ _ _ h => h) (Or.inl ⟨by rfl, ?ya9⟩) (by assumption) ?ra9
      case ya9 => (intro w hSw; (try dsimp only at hSw); go_simp; (try (with_reducible rfl)))
      try simp only [Act.put, List.setIfInBounds_toArray, List.set_cons_zero, List.set_cons_succ]
      refine wpAnyH_take (i := 10) (oi := ⟨some 30, _, _, _, _, _⟩) (v := ?va10) rfl (by kernel_rfl) (by kernel_rfl) (by kernel_rfl) (fun _ _ _ h => h) (Or.inl ⟨by rfl, ?ya10⟩) (by assumption) ?ra10
      case ya10 => (intro w hSw; (try dsimp only at hSw); go_simp; (try (with_reducible rfl)))
      try simp only [Act.put, List.setIfInBounds_toArray, List.set_cons_zero, List.set_cons_succ]
      refine wpAnyH_take (i := 11) (oi := ⟨some 31, _, _, _, _, _⟩) (v := ?va11) rfl (by kernel_rfl) (by kernel_rfl) (by kernel_rfl) (fun _ _ _ h => h) (Or.inl ⟨by rfl, ?ya11⟩) (by assumption) ?ra11
      case ya11 => (intro w hSw; (try dsimp only at hSw); go_simp; (try (with_reducible rfl)))
      try simp only [Act.put, List.setIfInBounds_toArray, List.set_cons_zero, List.set_cons_succ]
      refine wpAnyH_take (i := 12) (oi := ⟨some 32, _, _, _, _, _⟩) (v := ?va12) rfl (by kernel_rfl) (by kernel_rfl) (by kernel_rfl) (fun _ _ _ h => h) (Or.inl ⟨by rfl, ?ya12⟩) (by assumption) ?ra12
      case ya12 => (intro w hSw; (try dsimp only at hSw); go_simp; (try (with_reducible rfl)))
      try simp only [Act.put, List.setIfInBounds_toArray, List.set_cons_zero, List.set_cons_succ]
      refine wpAnyH_take (i := 13) (oi := ⟨some 33, _, _, _, _, _⟩) (v := ?va13) rfl (by kernel_rfl) (by kernel_rfl) (by kernel_rfl) (fun _ _ _ h => h) (Or.inl ⟨by rfl, ?ya13⟩) (by assumption) ?ra13
      case ya13 => (intro w hSw; (try dsimp only at hSw); go_simp; (try (with_reducible rfl)))
      try simp only [Act.put, List.setIfInBounds_toArray, List.set_cons_zero, List.set_cons_succ]
      refine wpAnyH_take (i := 14) (oi := ⟨some 34, _, _, _, _, _⟩) (v := ?va14) rfl (by kernel_rfl) (by kernel_rfl) (by kernel_rfl) (fun _ _ _ h => h) (Or.inl ⟨by rfl, ?ya14⟩) (by assumption) ?ra14
      case ya14 => (intro w hSw; (try dsimp only at hSw); go_simp; (try (with_reducible rfl)))
      try simp only [Act.put, List.setIfInBounds_toArray, List.set_cons_zero, List.set_cons_succ]
      refine wpAnyH_take (i := 15) (oi := ⟨some 35, _, _, _, _, _⟩) (v := ?va15) rfl (by kernel_rfl) (by kernel_rfl) (by kernel_rfl) (fun _ _ _ h => h) (Or.inl ⟨by rfl, ?ya15⟩) (by assumption) ?ra15
      case ya15 => (intro w hSw; (try dsimp only at hSw); go_simp; (try (with_reducible rfl)))
      try simp only [Act.put, List.setIfInBounds_toArray, List.set_cons_zero, List.set_cons_succ]
      refine wpAnyH_take (i := 16) (oi := ⟨some 36, _, _, _, _, _⟩) (v := ?va16) rfl (by kernel_rfl) (by kernel_rfl) (by kernel_rfl) (fun _ _ _ h => h) (Or.inl ⟨by rfl, ?ya16⟩) (by assumption) ?ra16
      case ya16 => (intro w hSw; (try dsimp only at hSw); go_simp; (try (with_reducible rfl)))
      try simp only [Act.put, List.setIfInBounds_toArray, List.set_cons_zero, List.set_cons_succ]
      refine wpAnyH_ready (rs := [17]) (by kernel_rfl) (by simp) (AllReadyH.cons (o := ⟨some 37, _, _, _, _, _⟩) rfl (fun K hK => ?_) AllReadyH.nil)
      go_simp
      refine (apply_any wr.drew g D.dur.length cg (visL D.dur (D.pend.take k)) rest' o t HB.out.drew HLN.out (by omega) (by rw [HLN.out]; exact HF.out)).mono ?_
      rintro e w5 ⟨⟨v, rfl⟩, hb5, hf5⟩
      have HB5 : Hid (Blk w5 g 5 (cellsB (visL D.dur (D.pend.take (k + 1))) ++ rest')) := by
        show Blk _ _ _ _
        rw [HS.out]
        exact hb5
      have HL5 : Hid (Below W.heap.size W w5) := (HL.out.trans (drew_below'' wr W.heap.size)).trans (hf5.below W.heap.size HL.out.size (fun k hk => by omega))
      have HN5 : Hid ((visL D.dur (D.pend.take (k + 1))).length = D.dur.length) := by
        show _ = _
        rw [HS.out, splice_len _ _ _ (by rw [HLN.out, blen]; exact HF.out), HLN.out]
      have HR5 := Lib.hid (H.out.below HL5.out)
      have c1 := HR5.out.blk.cell 1
      simp only [List.getElem?_cons_zero, List.getElem?_cons_succ] at c1
      go_simp
      refine hK.out _ _ ?_ (fun hHeld2 => ?_)
      · obtain ⟨gl', e', p0, p1⟩ := chg_at HR5.out.own k hk3
        simp at e'
        subst e'
        rw [HXE.out] at p0 p1
        exact ⟨c1, p0, p1⟩
      clear hK K hHeld
      rename _ => hHeld
      try simp only [Act.put, List.setIfInBounds_toArray, List.set_cons_zero, List.set_cons_succ]
      refine wpAnyH_done (by kernel_rfl) ?_ _
      clear hHeld
      go_wp2_with fail
      go_roundw
      case rel => exact ⟨k + 1, by omega, by go_num, HB5, HN5, HL5⟩
      case measure => simp [intOf]; omega
theorem Fr.shrink (S : Nat → Prop) {A C : World} (h : Below A.heap.size A C) : Fr S A C := ⟨h.os, h.tape, h.output, h.size, fun k hk _ => h.block k hk⟩
/-- A call leaves the reference disk as D', in blocks that it had or that are new. -/
def RkStep (W w' : World) (B b gs : Nat) (vl : Value) (D' : DS) : Prop := ∃ gs' cs' rest' vl', RkAt w' B b gs' cs' rest' vl' D' ∧ (∀ k, RFoot b gs' vl' k → RFoot b gs vl k ∨ W.heap.size ≤ k) ∧ Fr (RFoot b gs vl) W w'
/-- A new durable content, and no pending writes. -/
theorem RkAt.setSure {W : World} {B b gs cs : Nat} {rest : List Value} {vl : Value} {D : DS} (h : RkAt W B b gs cs rest vl D) (g cg : Nat) (rest' : List Value) (l : List UInt8) (hb : Blk W g 5 (cellsB l ++ rest')) (hl : l.length = D.dur.length) (hc : D.dur.length ≤ cg) (hB : B ≤ g) (hne : b ≠ g) :
    RkAt ((W.setCell ⟨b, 0, none⟩ (.slice (some ⟨g, 0, none⟩) D.dur.length cg)).setCell ⟨b, 1, none⟩ (.slice none 0 0)) B b g cg rest' (.slice none 0 0) { D with dur := l, pend := [] } := by
  have e : ∀ k, k ≠ b → ((W.setCell ⟨b, 0, none⟩ (.slice (some ⟨g, 0, none⟩) D.dur.length cg)).setCell ⟨b, 1, none⟩ (.slice none 0 0)).heap[k]? = W.heap[k]? := fun k hk => by rw [Below.heap_setCell _ _ _ _ hk, Below.heap_setCell _ _ _ _ hk]
  refine ⟨?_, hb.kept (e _ hne.symm), World.ownsRow_nil _ _ _ _, by show 1 ≤ l.length; rw [hl]; exact h.pos, by show l.length ≤ _; rw [hl]; exact h.max, by show l.length ≤ _; rw [hl]; exact hc, h.hb, hB, hne, fun g hg => by simp [Value.ownBlock] at hg⟩
  have := (h.blk.set 0 (.slice (some ⟨g, 0, none⟩) D.dur.length cg)).set 1 (.slice none 0 0)
  rw [← hl] at this ⊢
  exact this
set_option maxHeartbeats 2000000 in
set_option maxRecDepth 100000 in
theorem refSync_any (W : World) (B b gs cs : Nat) (rest : List Value) (vl : Value) (D : DS) (hB : B ≤ W.heap.size) (hvis : D.vis = visL D.dur D.pend) (hlen : D.dur.length = D.vis.length) (hpl : D.pend.length ≤ 1000000) (hfit : ∀ p ∈ D.pend, p.1 + p.2.size ≤ D.dur.length) (h : RkAt W B b gs cs rest vl D) :
    Calls Try.prog 31 #[.pointer (some ⟨b, 0, none⟩)] W fun e w' => e = .returned (.int .i64 (stE D)) ∧ RkStep W w' B b gs vl (syncD D) := by
  have c2 := h.blk.cell 2
  simp only [List.getElem?_cons_zero, List.getElem?_cons_succ] at c2
  have H := Lib.hid h
  have HV := Lib.hid hvis
  have HLE := Lib.hid hlen
  have HF := Lib.hid hfit
  clear h hvis hlen hfit
  cases hl : D.lost
  · have e1 : stE D = 0 := by unfold stE; rw [hl]; rfl
    have e2 : syncD D = { D with dur := D.vis, pend := [] } := by unfold syncD; rw [hl]; rfl
    rw [e1, e2]
    rw [hl] at c2
    clear e1 e2 hl
    go_enter Try.func31, Try.ntmps31
    go_wp2_with fail
    refine (visible_any W B b gs cs rest vl D hB hpl HF.out H.out).mono ?_
    rintro e w1 ⟨g, cg, rfl, ⟨rest', hb⟩, hcg, hge, hbel⟩
    have hR := H.out.below hbel
    have q := H.out.blk.lt
    rw [← HV.out] at hb
    have HS := Lib.hid (hR.setSure g cg rest' D.vis hb HLE.out.symm hcg (by omega) (by omega))
    have HFR : Hid (Fr (RFoot b gs vl) W ((w1.setCell ⟨b, 0, none⟩ (.slice (some ⟨g, 0, none⟩) D.dur.length cg)).setCell ⟨b, 1, none⟩ (.slice none 0 0))) := ((Fr.shrink (RFoot b gs vl) hbel).setCell ⟨b, 0, none⟩ _ (.inl (.inl rfl))).setCell ⟨b, 1, none⟩ _ (.inl (.inl rfl))
    have c0 := hR.blk.cell 0
    have c1 := hR.blk.cell 1
    have f0 := hR.blk.frozen 0
    have f1 := hR.blk.frozen 1
    simp only [List.getElem?_cons_zero, List.getElem?_cons_succ] at c0 c1
    clear hR hb hbel
    go_wp2_with fail
    go_ret
    exact ⟨rfl, _, _, _, _, HS.out, fun k hk => by
      rcases hk with rfl | rfl | hk
      · exact .inl (.inl rfl)
      · exact .inr hge
      · simp [Value.ownBlock] at hk, HFR.out⟩
  · have e1 : stE D = 241 := by unfold stE; rw [hl]; rfl
    have e2 : syncD D = D := by unfold syncD; rw [hl]; rfl
    rw [e1, e2]
    rw [hl] at c2
    clear e1 e2 hl
    go_enter Try.func31, Try.ntmps31
    go_wp2_with fail
    go_ret
    exact ⟨rfl, _, _, _, _, H.out, fun k hk => .inl hk, Fr.refl _ _⟩
end Go.Proofs.Ytdcnddbkjdbbbaa
