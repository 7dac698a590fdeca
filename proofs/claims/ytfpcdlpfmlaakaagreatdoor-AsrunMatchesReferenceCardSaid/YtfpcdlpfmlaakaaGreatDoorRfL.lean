/-
  The reference disk: Crash.
  The disk and the reference disk side by side: what every call keeps; the argument that is a list of steps.
  Plain: what Open and Append keep of a disk; the log as the reference scans it.
-/
import Derived.WalkKit
import Derived.Test.YtfpcdlpfmlaakaaGreatDoorTk
import Derived.LoopTactic
import Derived.WalkSpells
import Derived.WalkLawsBesides
import Derived.RegionTactic
import Derived.BigRegion
import Derived.Deep.QuietTactic
import Derived.Deep.RegionHeld
import Derived.BigQuiet
import Derived.IntWalk
import Derived.Laws.MakeOwn
import Derived.Test.YtfpcdlpfmlaakaaGreatDoorRfK
import Derived.Test.YtfpcdlpfmlaakaaGreatDoorDkB
set_option linter.unusedVariables false
set_option linter.unusedSimpArgs false
namespace Go.Proofs.YtfpcdlpfmlaakaaGreatDoor
open Go.RowKit
theorem IntsAt.below {W W' : World} {oa : Option Addr} {len : Nat} {ks : Nat → Int} {S : Nat → Prop} (h : IntsAt W oa len ks S) (hb : Below W.heap.size W W') : IntsAt W' oa len ks S := by
  rcases h with h0 | ⟨g, off, e, h1, h2, h3⟩
  · exact .inl h0
  · exact .inr ⟨g, off, e, Nat.lt_of_lt_of_le h1 hb.size, h2, fun i hi => (World.cell?_of_block (w := W) (hb.block g h1)).trans (h3 i hi)⟩
/-- The durable content has turned. -/
theorem RkAt.setDur {W W' : World} {B b gs cs : Nat} {rest : List Value} {vl : Value} {D : DS} (h : RkAt W B b gs cs rest vl D) (l : List UInt8) (hb : Blk W' gs 5 (cellsB l ++ rest)) (hl : l.length = D.dur.length) (hf : Fr (fun k => k = gs) W W') : RkAt W' B b gs cs rest vl { D with dur := l } := by
  have e : ∀ k, RFoot b gs vl k → k ≠ gs → W'.heap[k]? = W.heap[k]? := fun k hk hn => hf.block k (h.lt k hk) hn
  refine ⟨?_, hb, ownsRow_kept h.own (fun g hg => e g (.inr (.inr hg)) (h.np g hg).2), by show 1 ≤ l.length; rw [hl]; exact h.pos, by show l.length ≤ _; rw [hl]; exact h.max, by show l.length ≤ _; rw [hl]; exact h.cap, h.hb, h.hs, h.ne, h.np⟩
  have := h.blk.kept (e b (.inl rfl) h.ne)
  rw [← hl] at this
  exact this
theorem cutR_size (l : List (Nat × ByteArray)) (torn : Int) (i : Nat) (s : ByteArray) : (cutR l torn i s).size ≤ s.size := by
  unfold cutR; split
  · simp; omega
  · exact Nat.le_refl _
theorem keepL_mem (h : Nat → Bool) (pend : List (Nat × ByteArray)) (n : Nat) (hn : n ≤ pend.length) : ∀ p ∈ keepL h pend n, p ∈ pend := by
  induction n with
  | zero => intro p hp; cases hp
  | succ n ih =>
    intro p hp
    unfold keepL at hp
    split at hp
    · rcases List.mem_append.1 hp with hp | hp
      · exact ih (by omega) p hp
      · rw [List.getElem?_eq_getElem (show n < pend.length by omega), Option.getD_some, List.mem_singleton] at hp
        rw [hp]
        exact List.getElem_mem _
    · exact ih (by omega) p hp
theorem tornL_len (l : List (Nat × ByteArray)) (torn : Int) (dur : List UInt8) (hp : ∀ p ∈ l, p.1 + p.2.size ≤ dur.length) (j : Nat) (hj : j ≤ l.length) : (tornL l torn dur j).length = dur.length := by
  induction j with
  | zero => rfl
  | succ j ih =>
    have ih := ih (by omega)
    unfold tornL
    have hm := hp _ (List.getElem_mem (show j < l.length by omega))
    have hc := cutR_size l torn j l[j].2
    rw [List.getElem?_eq_getElem (by omega), Option.getD_some, splice_len _ _ _ (by rw [ih, blen]; omega), ih]
set_option maxHeartbeats 4000000 in
set_option maxRecDepth 100000 in
theorem refCrash_any (W : World) (B b gs cs : Nat) (rest : List Value) (vl : Value) (D : DS) (oa : Option Addr) (len cap : Nat) (ks : Nat → Int) (torn : Int) (hB : B ≤ W.heap.size) (hlc : len ≤ maxLen) (hpl : D.pend.length ≤ 1000000) (hfit : ∀ p ∈ D.pend, p.1 + p.2.size ≤ D.dur.length)
    (ht0 : -9223372036854775808 ≤ torn) (ht1 : torn ≤ 9223372036854775807) (hk : IntsAt W oa len ks (fun _ => False)) (h : RkAt W B b gs cs rest vl D) :
    Calls Tryz.prog 65 #[.pointer (some ⟨b, 0, none⟩), .slice oa len cap, .int .i64 torn] W fun e w' => (∃ v, e = .returned v) ∧ RkStep W w' B b gs vl (crashD D ks len torn) := by
  have hm := h.max
  obtain ⟨n, hn⟩ : ∃ n, D.pend.length = n := ⟨_, rfl⟩
  obtain ⟨ov, cv, rfl⟩ : ∃ oa cap, vl = .slice oa n cap := by
    rw [← hn]; exact chg_slice h.own
  obtain ⟨H, hH⟩ : ∃ H : Nat → Bool, (fun j : Nat => hasK ks len (j : Int)) = H := ⟨_, rfl⟩
  have HHQ := Lib.hid hH
  have HN := Lib.hid hn
  have HFIT := Lib.hid hfit
  have HK := Lib.hid hk
  have HR := Lib.hid h
  have hn1 : n ≤ 1000000 := by omega
  have HCR : Hid (crashL (survL ks D.pend.length len) (lastK ks D.pend.length len) torn D.pend D.dur D.pend.length = tornL (keepL H D.pend n) torn D.dur (keepL H D.pend n).length) := by
    have := crash_same ks len torn D.pend D.dur D.pend.length (Nat.le_refl _)
    rw [hH, hn] at this
    rw [hn]
    exact this
  clear hn hfit hk h hH hpl
  go_enter Tryz.func65, Tryz.ntmps65
  go_wp2_with fail
  go_loopw [6, 7] (fun l i wr => ∃ k : Nat, k ≤ n ∧ i = .int .i64 k ∧ ∃ o6 c6 m6, m6 ≤ k ∧ l = .slice o6 m6 c6 ∧ Hid ((keepL H D.pend k).length = m6) ∧ Hid (wr.ownsRow W.heap.size 115 2 (.slice o6 m6 c6) m6 (pcells (keepL H D.pend k))) ∧ Hid (Below W.heap.size W wr)) (fun _ i _ => n - (intOf i).toNat)
  case atStart => exact ⟨0, Nat.zero_le _, rfl, none, 0, 0, Nat.le_refl _, rfl, rfl, World.ownsRow_nil _ _ _ _, Below.refl _ _⟩
  case round =>
    obtain ⟨k, hk, rfl, o6, c6, m6, hm6, rfl, HM6, HO6, HL6⟩ := hrel
    have HRr := Lib.hid (HR.out.below HL6.out)
    have c1 := HRr.out.blk.cell 1
    simp only [List.getElem?_cons_zero, List.getElem?_cons_succ] at c1
    by_cases hend : k = n
    · subst hend
      have q1 : ¬ (k : Int) < k := by omega
      have HLK := Lib.hid (keepL_mem H D.pend k (by rw [HN.out]; exact Nat.le_refl _))
      have HFL : Hid (∀ p ∈ keepL H D.pend k, p.1 + p.2.size ≤ D.dur.length) := fun p hp => HFIT.out p (HLK.out p hp)
      obtain ⟨L, hL⟩ : ∃ L, keepL H D.pend k = L := ⟨_, rfl⟩
      rw [hL] at HM6 HO6 HFL HCR
      have HF6 : Hid (Fr (fun x => x = gs) W wr) := (Fr.shrink _ HL6.out)
      clear hL HLK
      go_wp2_with fail
      obtain ⟨wo, hwo⟩ : ∃ wo : World, wo = wr := ⟨_, rfl⟩
      rw [← hwo] at HO6 HRr HF6 ⊢
      clear hwo c1 HL6 q1
      go_loopw [8] (fun i wr => ∃ j : Nat, j ≤ m6 ∧ i = .int .i64 j ∧ Hid (RkAt wr B b gs cs rest (.slice ov k cv) { D with dur := tornL L torn D.dur j }) ∧ Hid (wr.ownsRow W.heap.size 115 2 (.slice o6 m6 c6) m6 (pcells L)) ∧ Hid (Fr (fun x => x = gs) W wr)) (fun i _ => m6 - (intOf i).toNat)
      case atStart => exact ⟨0, Nat.zero_le _, rfl, HRr, HO6, HF6⟩
      case round =>
        clear HO6 HRr HF6
        obtain ⟨j, hj, rfl, HRq, HOq, HFq⟩ := hrel
        by_cases hje : j = m6
        · subst hje
          have q1 : ¬ (j : Int) < j := by omega
          have hR1 := HRq.out.setL (.slice none 0 0) [] (World.ownsRow_nil _ _ _ _) (fun g hg => by simp [Value.ownBlock] at hg)
          have c1 := HRq.out.blk.cell 1
          have f1 := HRq.out.blk.frozen 1
          have hR2 := hR1.setDown false
          have c2 := hR1.blk.cell 2
          have f2 := hR1.blk.frozen 2
          have hR3 := hR2.setLeft 0
          have c3 := hR2.blk.cell 3
          have f3 := hR2.blk.frozen 3
          simp only [List.getElem?_cons_zero, List.getElem?_cons_succ] at c1 c2 c3
          have hR4 := hR3.vis (tornL L torn D.dur j)
          have HR4 := Lib.hid hR4
          have HF4 : Hid (Fr (RFoot b gs (.slice ov k cv)) W (((wr.setCell ⟨b, 1, none⟩ (.slice none 0 0)).setCell ⟨b, 2, none⟩ (.bool false)).setCell ⟨b, 3, none⟩ (.int .i64 ((0 : Nat) : Int)))) := (((HFq.out.mono (fun x hx => show RFoot b gs (.slice ov k cv) x from .inr (.inl hx))).setCell ⟨b, 1, none⟩ _ (.inl (.inl rfl))).setCell ⟨b, 2, none⟩ _ (.inl (.inl rfl))).setCell ⟨b, 3, none⟩ _ (.inl (.inl rfl))
          clear hR1 hR2 hR3 hR4
          go_wp2_with fail
          go_end0
          refine ⟨⟨_, rfl⟩, gs, cs, rest, .slice none 0 0, ?_, fun x hx => ?_, HF4.out⟩
          · have e : crashD D ks len torn = { lost := false, cut := 0, dur := tornL L torn D.dur j, vis := tornL L torn D.dur j, pend := [] } := by
              unfold crashD
              rw [HCR.out, HM6.out]
            rw [e]
            exact HR4.out
          · rcases hx with rfl | rfl | hx
            · exact .inl (.inl rfl)
            · exact .inl (.inr (.inl rfl))
            · simp [Value.ownBlock] at hx
        · have hj1 : (j : Int) < m6 := by omega
          have hjL : j < L.length := by rw [HM6.out]; omega
          obtain ⟨gl, rfl, d0, d1⟩ := chg_at (cl := c6) (n := m6) (by rw [HM6.out]; exact HOq.out) j hjL
          have hmem := HFL.out _ (List.getElem_mem hjL)
          have hln := tornL_len L torn D.dur HFL.out j (by omega)
          have hstep : tornL L torn D.dur (j + 1) = splice (tornL L torn D.dur j) L[j].1 (cutR L torn j L[j].2).data.toList := by
            rw [tornL, List.getElem?_eq_getElem hjL, Option.getD_some]
          obtain ⟨⟨o, s⟩, hx⟩ : ∃ x, L[j] = x := ⟨_, rfl⟩
          rw [hx] at d0 d1 hmem hstep
          have HXE := Lib.hid hx
          dsimp only at d0 d1 hmem hstep
          obtain ⟨T, hT⟩ : ∃ T, cutR L torn j s = T := ⟨_, rfl⟩
          have hTs : T.size ≤ s.size := by rw [← hT]; exact cutR_size _ _ _ _
          have hsm : s.size ≤ 4194304 := by omega
          have hoT : o + T.size ≤ D.dur.length := by omega
          rw [hT] at hstep
          have HST := Lib.hid hstep
          have HLN := Lib.hid hln
          have HT := Lib.hid hT
          have c0 := HRq.out.blk.cell 0
          simp only [List.getElem?_cons_zero, List.getElem?_cons_succ] at c0
          rw [hln] at c0
          have hgl : W.heap.size ≤ gl := by
            rcases HOq.out.2 with ⟨e, _⟩ | ⟨g, cap, cur, e, q1, _⟩
            · simp at e
            · simp at e
              rw [e.1]
              exact q1
          have hgsl := HR.out.sure.lt
          have hwb : IntKind.i64.wrap ((m6 : Int) - 1) = (m6 : Int) - 1 := IntWalk.i64_in _ (by omega)
          clear hx hstep hT hln hje
          have fin : ∀ w5, Blk w5 gs 5 (cellsB (splice (tornL L torn D.dur j) o T.data.toList) ++ rest) → Fr (fun x => x = gs) wr w5 → Hid (RkAt w5 B b gs cs rest (.slice ov k cv) { D with dur := tornL L torn D.dur (j + 1) }) ∧ Hid (w5.ownsRow W.heap.size 115 2 (.slice (some ⟨gl, 0, none⟩) m6 c6) m6 (pcells L)) ∧ Hid (Fr (fun x => x = gs) W w5) ∧ Hid (w5.cell? ⟨b, 0, none⟩ = some (.slice (some ⟨gs, 0, none⟩) D.dur.length cs)) ∧ Hid (w5.cell? ⟨gl, j * 2, none⟩ = some (.int .i64 (o : Int))) := by
            intro w5 hb5 hf5
            have hfl : Fr (fun x => x = gs) wr w5 := hf5
            have hR5 := HRq.out.setDur _ hb5 (by show _ = (tornL L torn D.dur j).length; rw [splice_len _ _ _ (by rw [HLN.out, blen]; exact hoT)]) hfl
            have hO5 := ownsRow_kept HOq.out (fun g hg => hfl.block g (by
              rcases HOq.out.2 with ⟨e, _⟩ | ⟨g', cap, cur, e, q1, q2, _⟩
              · simp at e
              · simp at e
                simp [Value.ownBlock] at hg
                rw [← hg, e.1]
                exact (Array.getElem?_eq_some_iff.1 q2).1) (by
              simp [Value.ownBlock] at hg
              omega))
            have hc0 := hR5.blk.cell 0
            simp only [List.getElem?_cons_zero, List.getElem?_cons_succ] at hc0
            refine ⟨?_, hO5, HFq.out.trans hfl (fun _ _ e => e), ?_, ?_⟩
            · show RkAt _ _ _ _ _ _ _ _
              rw [HST.out]
              exact hR5
            · show _ = _
              rw [hc0]
              rw [splice_len _ _ _ (by rw [HLN.out, blen]; exact hoT), HLN.out]
            · obtain ⟨gl', e', p0, p1⟩ := chg_at (cl := c6) (n := m6) (by rw [HM6.out]; exact hO5) j (by rw [HM6.out]; omega)
              simp at e'
              subst e'
              rw [HXE.out] at p0
              exact p0
          have HFIN := Lib.hid fin
          clear fin
          by_cases hcond : (j : Int) = (m6 : Int) - 1 ∧ 0 ≤ torn ∧ torn < s.size
          · have hTx : s.extract 0 torn.toNat = T := by rw [← HT.out]; unfold cutR; rw [HM6.out, if_pos hcond]
            obtain ⟨h1, h2, h3⟩ := hcond
            have hil : ((j : Int) == (m6 : Int) - 1) = true := by rw [beq_iff_eq]; exact h1
            obtain ⟨tt, rfl⟩ : ∃ tt : Nat, torn = tt := ⟨torn.toNat, by omega⟩
            rw [Int.toNat_natCast] at hTx
            clear h1 HT
            go_wp2_with fail
            refine wp_region_held_drew (S := fun w' => w'.cell? ⟨b, 0, none⟩ = some (.slice (some ⟨gs, 0, none⟩) D.dur.length cs) ∧ w'.cell? ⟨gl, j * 2, none⟩ = some (.int .i64 (o : Int))) (by kernel_rfl) ?_ (fun hHeld => ?_)
            · exact ⟨c0, d0⟩
            refine tk 0 (some 61) ?_
            refine tk 1 (some 62) ?_
            refine tk 2 (some 63) ?_
            refine tk 3 (some 64) ?_
            refine tk 4 (some 65) ?_
            refine tk 5 (some 66) ?_
            refine tk 6 (some 67) ?_
            refine tk 7 (some 68) ?_
            refine tk 8 (some 69) ?_
            refine tk 9 (some 70) ?_
            refine rd1 10 (some 71) (fun K hK => ?_)
            go_simp
            refine (apply_any _ gs D.dur.length cs (tornL L (tt : Int) D.dur j) rest o T HRq.out.sure.drew HLN.out (by omega) (by rw [HLN.out]; exact hoT)).mono ?_
            rintro e w5 ⟨⟨v, rfl⟩, hb5, hf5⟩
            obtain ⟨HR5, HO5, HF5, HC5, HD5⟩ := HFIN.out w5 hb5 ((Fr.refl (fun x => x = gs) wr).drew.trans hf5 (fun _ _ e => e))
            clear hb5 hf5
            go_simp
            refine hK.out _ _ ?_ (fun hHeld2 => ?_)
            · exact ⟨HC5.out, HD5.out⟩
            clear hK K hHeld
            rename _ => hHeld
            try simp only [Act.put, List.setIfInBounds_toArray, List.set_cons_zero, List.set_cons_succ]
            refine wpAnyH_done (by kernel_rfl) ?_ _
            clear hHeld
            go_wp2_with fail
            go_roundw
            case rel => exact ⟨j + 1, by omega, by go_num, HR5, HO5, HF5⟩
            case measure => simp [intOf]; omega
          · have hTx : s = T := by rw [← HT.out]; unfold cutR; rw [HM6.out, if_neg hcond]
            subst hTx
            clear HT
            by_cases h1 : (j : Int) = (m6 : Int) - 1
            · have hil : ((j : Int) == (m6 : Int) - 1) = true := by rw [beq_iff_eq]; exact h1
              by_cases h2 : 0 ≤ torn
              · have h3 : ¬ torn < s.size := fun h => hcond ⟨h1, h2, h⟩
                clear hcond h1
                go_wp2_with fail
                refine wp_region_held_drew (S := fun w' => w'.cell? ⟨b, 0, none⟩ = some (.slice (some ⟨gs, 0, none⟩) D.dur.length cs) ∧ w'.cell? ⟨gl, j * 2, none⟩ = some (.int .i64 (o : Int))) (by kernel_rfl) ?_ (fun hHeld => ?_)
                · exact ⟨c0, d0⟩
                refine tk 0 (some 61) ?_
                refine tk 1 (some 62) ?_
                refine tk 2 (some 63) ?_
                refine tk 3 (some 64) ?_
                refine tk 4 (some 65) ?_
                refine tk 5 (some 66) ?_
                refine tk 6 (some 67) ?_
                refine tk 7 (some 68) ?_
                refine tk 8 (some 69) ?_
                refine tk 9 (some 70) ?_
                refine rd1 10 (some 71) (fun K hK => ?_)
                go_simp
                refine (apply_any _ gs D.dur.length cs (tornL L torn D.dur j) rest o s HRq.out.sure.drew HLN.out (by omega) (by rw [HLN.out]; exact hoT)).mono ?_
                rintro e w5 ⟨⟨v, rfl⟩, hb5, hf5⟩
                obtain ⟨HR5, HO5, HF5, HC5, HD5⟩ := HFIN.out w5 hb5 ((Fr.refl (fun x => x = gs) wr).drew.trans hf5 (fun _ _ e => e))
                clear hb5 hf5
                go_simp
                refine hK.out _ _ ?_ (fun hHeld2 => ?_)
                · exact ⟨HC5.out, HD5.out⟩
                clear hK K hHeld
                rename _ => hHeld
                try simp only [Act.put, List.setIfInBounds_toArray, List.set_cons_zero, List.set_cons_succ]
                refine wpAnyH_done (by kernel_rfl) ?_ _
                clear hHeld
                go_wp2_with fail
                go_roundw
                case rel => exact ⟨j + 1, by omega, by go_num, HR5, HO5, HF5⟩
                case measure => simp [intOf]; omega
              · clear hcond h1
                go_wp2_with fail
                refine wp_region_held_drew (S := fun w' => w'.cell? ⟨b, 0, none⟩ = some (.slice (some ⟨gs, 0, none⟩) D.dur.length cs) ∧ w'.cell? ⟨gl, j * 2, none⟩ = some (.int .i64 (o : Int))) (by kernel_rfl) ?_ (fun hHeld => ?_)
                · exact ⟨c0, d0⟩
                refine tk 0 (some 61) ?_
                refine tk 1 (some 62) ?_
                refine tk 2 (some 63) ?_
                refine tk 3 (some 64) ?_
                refine tk 4 (some 65) ?_
                refine tk 5 (some 66) ?_
                refine tk 6 (some 67) ?_
                refine tk 7 (some 68) ?_
                refine tk 8 (some 69) ?_
                refine tk 9 (some 70) ?_
                refine rd1 10 (some 71) (fun K hK => ?_)
                go_simp
                refine (apply_any _ gs D.dur.length cs (tornL L torn D.dur j) rest o s HRq.out.sure.drew HLN.out (by omega) (by rw [HLN.out]; exact hoT)).mono ?_
                rintro e w5 ⟨⟨v, rfl⟩, hb5, hf5⟩
                obtain ⟨HR5, HO5, HF5, HC5, HD5⟩ := HFIN.out w5 hb5 ((Fr.refl (fun x => x = gs) wr).drew.trans hf5 (fun _ _ e => e))
                clear hb5 hf5
                go_simp
                refine hK.out _ _ ?_ (fun hHeld2 => ?_)
                · exact ⟨HC5.out, HD5.out⟩
                clear hK K hHeld
                rename _ => hHeld
                try simp only [Act.put, List.setIfInBounds_toArray, List.set_cons_zero, List.set_cons_succ]
                refine wpAnyH_done (by kernel_rfl) ?_ _
                clear hHeld
                go_wp2_with fail
                go_roundw
                case rel => exact ⟨j + 1, by omega, by go_num, HR5, HO5, HF5⟩
                case measure => simp [intOf]; omega
            · have hil : ((j : Int) == (m6 : Int) - 1) = false := by rw [beq_eq_false_iff_ne]; exact h1
              clear hcond h1
              go_wp2_with fail
              refine wp_region_held_drew (S := fun w' => w'.cell? ⟨b, 0, none⟩ = some (.slice (some ⟨gs, 0, none⟩) D.dur.length cs) ∧ w'.cell? ⟨gl, j * 2, none⟩ = some (.int .i64 (o : Int))) (by kernel_rfl) ?_ (fun hHeld => ?_)
              · exact ⟨c0, d0⟩
              refine tk 0 (some 61) ?_
              refine tk 1 (some 62) ?_
              refine tk 2 (some 63) ?_
              refine tk 3 (some 64) ?_
              refine tk 4 (some 65) ?_
              refine tk 5 (some 66) ?_
              refine tk 6 (some 67) ?_
              refine tk 7 (some 68) ?_
              refine tk 8 (some 69) ?_
              refine tk 9 (some 70) ?_
              refine rd1 10 (some 71) (fun K hK => ?_)
              go_simp
              refine (apply_any _ gs D.dur.length cs (tornL L torn D.dur j) rest o s HRq.out.sure.drew HLN.out (by omega) (by rw [HLN.out]; exact hoT)).mono ?_
              rintro e w5 ⟨⟨v, rfl⟩, hb5, hf5⟩
              obtain ⟨HR5, HO5, HF5, HC5, HD5⟩ := HFIN.out w5 hb5 ((Fr.refl (fun x => x = gs) wr).drew.trans hf5 (fun _ _ e => e))
              clear hb5 hf5
              go_simp
              refine hK.out _ _ ?_ (fun hHeld2 => ?_)
              · exact ⟨HC5.out, HD5.out⟩
              clear hK K hHeld
              rename _ => hHeld
              try simp only [Act.put, List.setIfInBounds_toArray, List.set_cons_zero, List.set_cons_succ]
              refine wpAnyH_done (by kernel_rfl) ?_ _
              clear hHeld
              go_wp2_with fail
              go_roundw
              case rel => exact ⟨j + 1, by omega, by go_num, HR5, HO5, HF5⟩
              case measure => simp [intOf]; omega
    · have hk1 : (k : Int) < n := by omega
      have hk3 : k < D.pend.length := by rw [HN.out]; omega
      have hx : D.pend[k]?.getD (0, ⟨#[]⟩) = D.pend[k] := by rw [List.getElem?_eq_getElem hk3, Option.getD_some]
      have HKP : Hid (keepL H D.pend (k + 1) = if H k then keepL H D.pend k ++ [D.pend[k]] else keepL H D.pend k) := by
        show _ = _
        rw [keepL, hx]
      obtain ⟨gl, rfl, d0, d1⟩ := chg_at (cl := cv) (n := n) HRr.out.own k hk3
      obtain ⟨⟨o, s⟩, hxx⟩ : ∃ x, D.pend[k] = x := ⟨_, rfl⟩
      rw [hxx] at d0 d1 HKP
      dsimp only at d0 d1
      have HHk : Hid (hasK ks len (k : Int) = H k) := by
        have := congrFun HHQ.out k
        exact this
      clear hx hxx hend
      go_wp2_with fail
      refine (has_any wr oa len cap ks (k : Int) (fun _ => False) hlc (HK.out.below HL6.out)).mono ?_
      rintro e w' ⟨rfl, rfl⟩
      rw [HHk.out]
      cases hh : H k
      · rw [hh] at HKP
        have HKP' : Hid (keepL H D.pend (k + 1) = keepL H D.pend k) := HKP.out
        have HM7 : Hid ((keepL H D.pend (k + 1)).length = m6) := by show _ = _; rw [HKP'.out]; exact HM6.out
        have HO7 : Hid (wr.ownsRow W.heap.size 115 2 (.slice o6 m6 c6) m6 (pcells (keepL H D.pend (k + 1)))) := by show World.ownsRow _ _ _ _ _ _ _; rw [HKP'.out]; exact HO6.out
        clear hh HKP HKP'
        go_wp2_with fail
        go_roundw
        case rel => exact ⟨k + 1, by omega, by go_num, o6, c6, m6, by omega, rfl, HM7, HO7, HL6⟩
        case measure => simp [intOf]; omega
      · rw [hh] at HKP
        have HKP' : Hid (keepL H D.pend (k + 1) = keepL H D.pend k ++ [(o, s)]) := HKP.out
        obtain ⟨o7, c7, w7, hrun, ho7, hf7, hk7⟩ := app_ch wr W.heap.size (.slice o6 m6 c6) (keepL H D.pend k) o s (by rw [HM6.out]; exact HO6.out) (by rw [HM6.out]; omega) HL6.out.size 56
        rw [HM6.out, ← HKP'.out] at ho7
        rw [HM6.out] at hrun
        have HM7 : Hid ((keepL H D.pend (k + 1)).length = m6 + 1) := by show _ = _; rw [HKP'.out, List.length_append, HM6.out]; rfl
        have HO7 := Lib.hid ho7
        have HL7 : Hid (Below W.heap.size W w7) := HL6.out.trans (hf7.below W.heap.size HL6.out.size (own_ge HO6.out))
        clear hh HKP HKP' ho7 hf7 hk7
        go_wp2_with (at_builtin; refine wpList_append_run _ rfl _ _ 56 rfl _ _ _ _ rfl rfl hrun ?_)
        go_roundw
        case rel => exact ⟨k + 1, by omega, by go_num, o7, c7, m6 + 1, by omega, rfl, HM7, HO7, HL7⟩
        case measure => simp [intOf]; omega
end Go.Proofs.YtfpcdlpfmlaakaaGreatDoor
namespace Go.Proofs.YtfpcdlpfmlaakaaGreatDoor
open Go.RowKit
/-- What every call keeps of the plain disk. -/
structure Inv (D : DS) (n i : Nat) : Prop where
  vis : D.vis = visL D.dur D.pend
  len : D.vis.length = n
  lend : D.dur.length = n
  fit : ∀ p ∈ D.pend, p.1 + p.2.size ≤ n
  pl : D.pend.length ≤ i
  cut : D.cut ≤ 9223372036854775807
theorem Inv.up {D : DS} {n i : Nat} (h : Inv D n i) : Inv D n (i + 1) := ⟨h.vis, h.len, h.lend, h.fit, Nat.le_succ_of_le h.pl, h.cut⟩
theorem Inv.wrote {D : DS} {n i : Nat} (h : Inv D n i) : Inv (wroteD D) n i := by
  have hc := h.cut
  unfold wroteD
  split
  · exact h
  · split
    · exact ⟨h.vis, h.len, h.lend, h.fit, h.pl, by show (0 : Nat) ≤ _; omega⟩
    · exact ⟨h.vis, h.len, h.lend, h.fit, h.pl, by show D.cut - 1 ≤ _; omega⟩
theorem Inv.write {D : DS} {n i : Nat} (h : Inv D n i) (off : Int) (s : ByteArray) : Inv (writeD D off s) n (i + 1) := by
  unfold writeD
  split
  · exact h.up
  · split
    · rename_i _ hi
      have hi2 := of_decide_eq_true hi
      rw [h.len] at hi2
      apply Inv.wrote
      refine ⟨?_, ?_, h.lend, ?_, ?_, h.cut⟩
      · show splice D.vis off.toNat s.data.toList = visL D.dur (D.pend ++ [(off.toNat, s)])
        rw [visL_snoc, ← h.vis]
      · show (splice D.vis off.toNat s.data.toList).length = n
        rw [splice_len _ _ _ (by rw [blen, h.len]; omega), h.len]
      · intro p hp
        rcases List.mem_append.1 hp with hp | hp
        · exact h.fit p hp
        · simp at hp
          subst hp
          show off.toNat + s.size ≤ n
          omega
      · show (D.pend ++ [(off.toNat, s)]).length ≤ i + 1
        have := h.pl
        simp
        exact this
    · exact h.up
theorem Inv.sync {D : DS} {n i : Nat} (h : Inv D n i) : Inv (syncD D) n (i + 1) := by
  unfold syncD
  split
  · exact h.up
  · exact ⟨rfl, h.len, h.len, fun p hp => (List.not_mem_nil hp).elim, Nat.zero_le _, h.cut⟩
theorem Inv.cutn {D : DS} {n i : Nat} (h : Inv D n i) (k : Int) (hk : k ≤ 9223372036854775807) : Inv (if D.lost then D else cutD D k) n (i + 1) := by
  split
  · exact h.up
  · unfold cutD
    split
    · exact h.up
    · split
      · exact ⟨h.vis, h.len, h.lend, h.fit, Nat.le_succ_of_le h.pl, by show (0 : Nat) ≤ _; omega⟩
      · exact ⟨h.vis, h.len, h.lend, h.fit, Nat.le_succ_of_le h.pl, by show k.toNat ≤ _; omega⟩
theorem Inv.crash {D : DS} {n i : Nat} (h : Inv D n i) (ks : Nat → Int) (len : Nat) (torn : Int) : Inv (crashD D ks len torn) n (i + 1) := by
  have hl : (crashL (survL ks D.pend.length len) (lastK ks D.pend.length len) torn D.pend D.dur D.pend.length).length = n := by
    rw [crashL_len _ _ _ _ _ (fun p hp => by rw [h.lend]; exact h.fit p hp) _ (Nat.le_refl _), h.lend]
  exact ⟨rfl, hl, hl, fun p hp => (List.not_mem_nil hp).elim, Nat.zero_le _, by show (0 : Nat) ≤ _; omega⟩
theorem RkAt.ge {W : World} {B b gs cs : Nat} {rest : List Value} {vl : Value} {D : DS} (h : RkAt W B b gs cs rest vl D) : ∀ k, RFoot b gs vl k → B ≤ k := fun k hk => by
  rcases hk with rfl | rfl | hk
  · exact h.hb
  · exact h.hs
  · rcases h.own.2 with ⟨rfl, _⟩ | ⟨g, cap, cur, rfl, q, _⟩
    · simp [Value.ownBlock] at hk
    · simp [Value.ownBlock] at hk
      subst hk
      exact q
end Go.Proofs.YtfpcdlpfmlaakaaGreatDoor
namespace Go.Proofs.YtfpcdlpfmlaakaaGreatDoor
open Go.RowKit Onair
theorem Inv.mono {D : DS} {n i j : Nat} (h : Inv D n i) (hij : i ≤ j) : Inv D n j := ⟨h.vis, h.len, h.lend, h.fit, Nat.le_trans h.pl hij, h.cut⟩
theorem Inv.new (n : Nat) : Inv (newD n) n 0 := ⟨rfl, by simp [newD, zeroL], by simp [newD, zeroL], fun p hp => by simp [newD] at hp, by simp [newD], by simp [newD]⟩
theorem Inv.put {D : DS} {n i : Nat} (h : Inv D n i) (o : Nat) (s : ByteArray) : Inv (putD D o s) n (i + 2) := (h.write _ _).sync
theorem putE_ok {D : DS} {o : Nat} {s : ByteArray} (h : putE D o s = 0) : (putD D o s).lost = false := by
  have h1 := (stE_lost _).1 h
  unfold putD syncD
  split
  · exact h1
  · exact h1
/-- The log that Open returns. -/
def openO (D : DS) : Option (List Rec × Bool) := if openE D = 0 then some (openR D, false) else none
theorem Inv.opened {D : DS} {n i : Nat} (h : Inv D n i) : Inv (openD D) n (i + 2) := by
  unfold openD
  split
  · exact h.mono (by omega)
  · split
    · exact h.mono (by omega)
    · split
      · exact h.mono (by omega)
      · exact h.put _ _
theorem openE_lost {D : DS} (h : openE D = 0) : (openD D).lost = false := by
  unfold openE at h
  unfold openD
  split at h
  · cases h
  · rename_i hl
    have hl2 : D.lost = false := by simpa using hl
    rw [if_neg hl]
    split at h
    · cases h
    · rename_i h2
      rw [if_neg h2]
      split at h
      · rename_i h3
        rw [if_pos h3]
        exact hl2
      · rename_i h3
        rw [if_neg h3]
        exact putE_ok h
theorem openR_fit {D : DS} {n i : Nat} (h : Inv D n i) : endN (openR D) ≤ n := by
  have := (openR_back D).2.2
  rw [h.len] at this
  exact this
/-- What holds of a log beside its disk. -/
def OkO (D : DS) (n : Nat) (o : Option (List Rec × Bool)) : Prop := ∀ R br, o = some (R, br) → endN R ≤ n ∧ (br = false → D.lost = false) ∧ ∀ r ∈ R, validR r = true
theorem OkO.opened {D : DS} {n i : Nat} (h : Inv D n i) : OkO (openD D) n (openO D) := by
  intro R br e
  unfold openO at e
  split at e
  · rename_i h0
    cases e
    exact ⟨openR_fit h, fun _ => openE_lost h0, (openR_back D).1⟩
  · cases e
theorem OkO.app {D : DS} {R : List Rec} {br : Bool} {n i : Nat} (h : Inv D n i) (ho : OkO D n (some (R, br))) (l : List Rec) :
    Inv (appC ⟨D, R, br⟩ l).2.D n (i + 4) ∧ OkO (appC ⟨D, R, br⟩ l).2.D n (some ((appC ⟨D, R, br⟩ l).2.R, (appC ⟨D, R, br⟩ l).2.br)) := by
  obtain ⟨h1, h2, h3⟩ := ho R br rfl
  unfold appC
  split
  · exact ⟨h.mono (by omega), ho⟩
  · rename_i hv
    split
    · exact ⟨h.mono (by omega), ho⟩
    · rename_i hf
      split
      · exact ⟨h.mono (by omega), ho⟩
      · split
        · refine ⟨(h.put _ _).mono (by omega), fun R' br' e => ?_⟩
          cases e
          refine ⟨h1, ?_, h3⟩
          intro hc
          simp at hc
        · split
          · refine ⟨((h.put _ _).put _ _).mono (by omega), fun R' br' e => ?_⟩
            cases e
            refine ⟨h1, ?_, h3⟩
            intro hc
            simp at hc
          · rename_i hp
            refine ⟨((h.put _ _).put _ _).mono (by omega), fun R' br' e => ?_⟩
            cases e
            refine ⟨?_, fun _ => putE_ok (by simpa using hp), ?_⟩
            · show endN (R ++ l) ≤ n
              dsimp only at hf
              rw [h.len] at hf
              rw [endN_append]
              omega
            · intro r hr
              rcases List.mem_append.1 hr with hr | hr
              · exact h3 r hr
              · have : allV l = true := by
                  rcases Bool.eq_false_or_eq_true (allV l) with e | e
                  · exact e
                  · exact absurd (.inr e) hv
                exact (allV_iff l).1 this r hr
/-- The reference's scan: at offset a behind the records pre. -/
structure ScR (c : List UInt8) (a : Nat) (hd : ByteArray) (pre : List Rec) : Prop where
  res : ∃ f, c.length < a + f ∧ scanP c = (pre ++ (scanF f c a hd).1, (scanF f c a hd).2)
  at' : a = endN pre
  hd' : hd = headR pre
  le : a ≤ c.length
  ok : ∀ r ∈ pre, validR r = true
theorem ScR.start (c : List UInt8) : ScR c 0 zero32 [] := ⟨⟨c.length + 1, by omega, rfl⟩, rfl, rfl, Nat.zero_le _, fun r hr => by simp at hr⟩
theorem ScR.stop {c : List UInt8} {a : Nat} {hd : ByteArray} {pre : List Rec} (h : ScR c a hd pre) (h0 : c.getD a 0 = 0) : scanP c = (pre, false) := by
  obtain ⟨f, hf, hr⟩ := h.res
  have := h.le
  obtain ⟨f, rfl⟩ : ∃ g, f = g + 1 := ⟨f - 1, by omega⟩
  unfold scanF at hr
  rw [if_pos h0] at hr
  simpa using hr
theorem ScR.bad {c : List UInt8} {a : Nat} {hd : ByteArray} {pre : List Rec} (h : ScR c a hd pre) (h0 : ¬ c.getD a 0 = 0) (hr : readP c a hd = none) : (scanP c).2 = true := by
  obtain ⟨f, hf, hs⟩ := h.res
  have := h.le
  obtain ⟨f, rfl⟩ : ∃ g, f = g + 1 := ⟨f - 1, by omega⟩
  unfold scanF at hs
  rw [if_neg h0, hr] at hs
  rw [hs]
theorem ScR.next {c : List UInt8} {a : Nat} {hd : ByteArray} {pre : List Rec} (h : ScR c a hd pre) (h0 : ¬ c.getD a 0 = 0) {r : Rec} {h' : ByteArray} {e : Nat} (hr : readP c a hd = some (r, h', e)) : ScR c e h' (pre ++ [r]) := by
  obtain ⟨f, hf, hs⟩ := h.res
  have hle := h.le
  obtain ⟨b1, b2, b3, b4, b5⟩ := readP_back hr
  have hbd := storedL_bd hd r
  obtain ⟨f, rfl⟩ : ∃ g, f = g + 1 := ⟨f - 1, by omega⟩
  unfold scanF at hs
  rw [if_neg h0, hr] at hs
  refine ⟨⟨f, by omega, ?_⟩, ?_, ?_, b5, ?_⟩
  · rw [hs]
    simp
  · rw [b3, h.at', h.hd']
    unfold endN
    rw [logL_snoc, List.length_append]
    rfl
  · rw [b2, h.hd']
    unfold headR
    rw [headF_snoc]
  · intro x hx
    rcases List.mem_append.1 hx with hx | hx
    · exact h.ok x hx
    · simp at hx
      subst hx
      exact b1
end Go.Proofs.YtfpcdlpfmlaakaaGreatDoor
