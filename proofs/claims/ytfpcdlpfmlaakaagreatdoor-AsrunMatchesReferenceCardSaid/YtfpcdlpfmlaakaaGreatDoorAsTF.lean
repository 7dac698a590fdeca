/-
  The reference's Append.
-/
import Derived.WalkKit
import Derived.Test.YtfpcdlpfmlaakaaGreatDoorTk
import Derived.LoopTactic
import Derived.WalkSpells
import Derived.WalkLawsBesides
import Derived.RegionTactic
import Derived.BigRegion
import Derived.IntWalk
import Derived.Outline
import Derived.Deep.QuietTactic
import Derived.BigQuiet
import Derived.Deep.RegionLaw
import Derived.Deep.RegionHeld3
import Derived.Lib.Hide
import Derived.Test.YtfpcdlpfmlaakaaGreatDoorRfL
import Derived.Test.YtfpcdlpfmlaakaaGreatDoorAsTC
import Derived.Test.YtfpcdlpfmlaakaaGreatDoorAsApp
set_option linter.unusedVariables false
set_option linter.unusedSimpArgs false
namespace Go.Proofs.YtfpcdlpfmlaakaaGreatDoor
open Go.RowKit Onair
attribute [local go_sem ↓] Go.wp_at_zero Go.wp_at_succ
attribute [local go_sem] Oper.semAt_some
def RAppP (W : World) (N b bl : Nat) (F G : Nat → Prop) (s : LS) (l : List Rec) (e : Ending) (w' : World) : Prop :=
  e = .returned (.int .i64 (appC s l).1) ∧ ∃ F' G', RLX w' N b bl F' G' (appC s l).2 ∧ Fr (fun k => F k ∨ G k) W w' ∧ (∀ k, F' k → F k ∨ W.heap.size ≤ k) ∧ ∀ k, G' k → G k ∨ W.heap.size ≤ k
/-- A step of Append: the log as at W0, its disk as it is now. -/
structure RAcc (W0 w : World) (N b bl : Nat) (F G F' : Nat → Prop) (s : LS) : Prop where
  rl : RLX w N b bl F' G s
  sub : ∀ k, F' k → F k ∨ W0.heap.size ≤ k
  fr : Fr F W0 w
theorem RAcc.start {W0 : World} {N b bl : Nat} {F G : Nat → Prop} {s : LS} (h : RLX W0 N b bl F G s) : RAcc W0 W0 N b bl F G F s := ⟨h, fun k hk => .inl hk, Fr.refl _ _⟩
theorem RAcc.below {W0 w w' : World} {N b bl : Nat} {F G F' : Nat → Prop} {s : LS} (h : RAcc W0 w N b bl F G F' s) (hb : Below w.heap.size w w') : RAcc W0 w' N b bl F G F' s :=
  ⟨h.rl.below hb, h.sub, h.fr.trans (Fr.under (fun _ => False) hb) (fun _ _ e => e.elim)⟩
theorem RAcc.step {W0 w w' : World} {N b bl : Nat} {F G F' : Nat → Prop} {D D' : DS} {R : List Rec} {br : Bool} (h : RAcc W0 w N b bl F G F' ⟨D, R, br⟩) (hs : RDStep w w' N b F' D') : ∃ F'', RAcc W0 w' N b bl F G F'' ⟨D', R, br⟩ := by
  obtain ⟨F2, h1, h2, h3⟩ := hs
  obtain ⟨vr, q1, q2, q3⟩ := h.rl.ex
  refine ⟨F2, ⟨⟨vr, h1, q2.fr h3 (fun k hk hf => h.rl.sep k ((q3 k).2 hk) hf), q3⟩, ?_⟩, ?_, ?_⟩
  · intro k hk hf
    rcases h2 k hf with h4 | h4
    · exact h.rl.sep k hk h4
    · have := h.rl.ltG k hk
      omega
  · intro k hk
    rcases h2 k hk with h4 | h4
    · exact h.sub k h4
    · exact .inr (Nat.le_trans h.fr.size h4)
  · exact h.fr.trans h3 (fun k hk hf => by
      rcases h.sub k hf with h4 | h4
      · exact h4
      · omega)
theorem RAcc.done {W w : World} {N b bl : Nat} {F G F' : Nat → Prop} {s s' : LS} {l : List Rec} {c : Int} (h : RAcc W w N b bl F G F' s') (hc : appC s l = (c, s')) : RAppP W N b bl F G s l (.returned (.int .i64 c)) w := by
  unfold RAppP
  rw [hc]
  exact ⟨rfl, F', G, h.rl, h.fr.mono (fun k hk => .inl hk), h.sub, fun k hk => .inl hk⟩
theorem RAcc.broke {W w : World} {N b bl : Nat} {F G F' : Nat → Prop} {s : LS} {D' : DS} {R : List Rec} {br : Bool} {l : List Rec} {c : Int} (h : RAcc W w N b bl F G F' ⟨D', R, br⟩) (hc : appC s l = (c, ⟨D', R, true⟩)) : RAppP W N b bl F G s l (.returned (.int .i64 c)) (w.setCell ⟨bl, 3, none⟩ (.bool true)) := by
  unfold RAppP
  rw [hc]
  obtain ⟨vr, q1, q2, q3⟩ := h.rl.ex
  have hbl : G bl := (q3 bl).2 (.inl rfl)
  have hf : Fr (fun k => k = bl) w (w.setCell ⟨bl, 3, none⟩ (.bool true)) := (Fr.refl _ w).setCell ⟨bl, 3, none⟩ _ (.inl rfl)
  refine ⟨rfl, F', G, ⟨⟨vr, q1.fr hf (fun k hk e => ?_), q2.broke true, q3⟩, h.rl.sep⟩, ?_, h.sub, fun k hk => .inl hk⟩
  · subst e
    exact h.rl.sep k hbl hk
  · exact (h.fr.mono (fun k hk => .inl hk)).setCell ⟨bl, 3, none⟩ _ (.inl (.inr hbl))
theorem RAcc.put {W w w2 : World} {N b bl : Nat} {F G F' : Nat → Prop} {s : LS} {D' : DS} {R R' : List Rec} {br : Bool} {l : List Rec} {c : Int} {vr' : Value} {e : Nat} (h : RAcc W w N b bl F G F' ⟨D', R, br⟩) (hb : Below w.heap.size w w2) (ho : w2.ownsRow N 62 6 vr' R'.length (rcells R')) (hn : ∀ g, vr'.ownBlock = some g → w.heap.size ≤ g) (he : e = endN R') (hc : appC s l = (c, ⟨D', R', br⟩)) :
    RAppP W N b bl F G s l (.returned (.int .i64 c)) ((w2.setCell ⟨bl, 1, none⟩ vr').setCell ⟨bl, 2, none⟩ (.int .i64 (e : Int))) := by
  unfold RAppP
  rw [hc]
  obtain ⟨vr, q1, q2, q3⟩ := (h.rl.below hb).ex
  have hbl : G bl := (q3 bl).2 (.inl rfl)
  have hblw : bl < w.heap.size := h.rl.ltG bl hbl
  have hne : ∀ g, vr'.ownBlock = some g → g ≠ bl := fun g hg => by have := hn g hg; omega
  have hf : Fr (fun k => k = bl) w2 ((w2.setCell ⟨bl, 1, none⟩ vr').setCell ⟨bl, 2, none⟩ (.int .i64 (e : Int))) := Fr.setCell (S := fun k => k = bl) (Fr.setCell (S := fun k => k = bl) (Fr.refl _ w2) ⟨bl, 1, none⟩ _ (.inl rfl)) ⟨bl, 2, none⟩ _ (.inl rfl)
  have hF : ∀ k, F' k → k < w.heap.size := fun k hk => h.rl.disk.lt k hk
  refine ⟨rfl, F', CFoot bl vr', ⟨⟨vr', q1.fr hf (fun k hk e => ?_), LkAt.put (W := w2) q2.blk q2.hb he ho hne, fun k => Iff.rfl⟩, ?_⟩, ?_, h.sub, ?_⟩
  · subst e
    exact h.rl.sep k hbl hk
  · rintro k (rfl | hk) hf'
    · exact h.rl.sep _ hbl hf'
    · have := hn k hk
      have := hF k hf'
      omega
  · refine ((h.fr.mono (fun k hk => .inl hk)).trans (Fr.under (fun _ => False) hb) (fun _ _ e => e.elim)).trans hf ?_
    intro i hi e
    subst e
    exact .inr hbl
  · rintro k (rfl | hk)
    · exact .inl hbl
    · exact .inr (Nat.le_trans h.fr.size (hn k hk))
theorem RAcc.at {W w : World} {N b bl : Nat} {F G F' : Nat → Prop} {D' : DS} {R : List Rec} {br : Bool} {E : Nat} (h : RAcc W w N b bl F G F' ⟨D', R, br⟩) (hE : endN R = E) : w.cell? ⟨bl, 0, none⟩ = some (.pointer (some ⟨b, 0, none⟩)) ∧ w.cell? ⟨bl, 2, none⟩ = some (.int .i64 (E : Int)) := by
  obtain ⟨vr, q1, q2, q3⟩ := h.rl.ex
  have c0 := q2.blk.cell 0
  have c2 := q2.blk.cell 2
  simp only [List.getElem?_cons_zero, List.getElem?_cons_succ] at c0 c2
  rw [hE] at c2
  exact ⟨c0, c2⟩
theorem RAcc.fz {W w : World} {N b bl : Nat} {F G F' : Nat → Prop} {D' : DS} {R : List Rec} {br : Bool} (h : RAcc W w N b bl F G F' ⟨D', R, br⟩) : w.cell? ⟨bl, 3, none⟩ = some (.bool br) ∧ w.frozen? ⟨bl, 1, none⟩ = false ∧ w.frozen? ⟨bl, 2, none⟩ = false ∧ w.frozen? ⟨bl, 3, none⟩ = false := by
  obtain ⟨vr, q1, q2, q3⟩ := h.rl.ex
  exact ⟨q2.blk.cell 3, q2.blk.frozen 1, q2.blk.frozen 2, q2.blk.frozen 3⟩
theorem RAcc.sync {W w : World} {N b bl : Nat} {F G F' : Nat → Prop} {D' : DS} {R : List Rec} {br : Bool} {sz j : Nat} (h : RAcc W w N b bl F G F' ⟨D', R, br⟩) (hi : Inv D' sz j) (hj : j ≤ 1000000) :
    Calls Tryz.prog 54 #[.pointer (some ⟨b, 0, none⟩)] w fun e w' => e = .returned (.int .i64 (stE D')) ∧ ∃ F'', RAcc W w' N b bl F G F'' ⟨syncD D', R, br⟩ := by
  refine (refSync_x w N b F' D' sz j hi hj h.rl.disk).mono ?_
  rintro e w' ⟨he, hs⟩
  exact ⟨he, h.step hs⟩
theorem RAcc.write {W w : World} {N b bl : Nat} {F G F' : Nat → Prop} {D' : DS} {R : List Rec} {br : Bool} {sz j : Nat} (h : RAcc W w N b bl F G F' ⟨D', R, br⟩) (hi : Inv D' sz j) (hj : j ≤ 1000000) (hlo : D'.lost = false) (hsz : sz ≤ 4194304) (o : Nat) (s : ByteArray) (hin : o + s.size ≤ sz) :
    Calls Tryz.prog 15 #[.pointer (some ⟨b, 0, none⟩), .int .i64 (o : Int), .string s] w fun e w' => e = .returned (.int .i64 0) ∧ ∃ F'', RAcc W w' N b bl F G F'' ⟨writeD D' o s, R, br⟩ := by
  have hw := refWrite_x w N b F' D' sz j (o : Int) s (by omega) (by omega) (by unfold maxLen; omega) hi hj h.rl.disk
  have e0 : writeE D' (o : Int) s = 0 := by
    unfold writeE
    rw [hlo, insB_nat D' o s.size (by rw [hi.len]; exact hin)]
    rfl
  rw [e0] at hw
  refine hw.mono ?_
  rintro e w' ⟨he, hs⟩
  exact ⟨he, h.step hs⟩
theorem outS_snoc (R l : List Rec) (k : Nat) (r : Rec) (O S hd : ByteArray) (hO : O.data.toList = outL' R (l.take k)) (hr : l[k]? = some r) (hh : headR (R ++ l.take k) = hd) (hS : (⟨(storedL hd r).toArray⟩ : ByteArray) = S) : (O ++ S).data.toList = outL' R (l.take (k + 1)) ∧ headR (R ++ l.take (k + 1)) = chainB hd (encB r) := by
  have ht : l.take (k + 1) = l.take k ++ [r] := by rw [List.take_add_one, hr]; rfl
  rw [ht, outL'_snoc, ← List.append_assoc, headR_snoc, hh, ← hS, ByteArray.data_append, Array.toList_append, hO]
  exact ⟨rfl, rfl⟩
set_option maxHeartbeats 8000000 in
set_option maxRecDepth 100000 in
theorem refAppend_x (l : List Rec) (oa : Option Addr) (n c : Nat) (W : World) (N b bl : Nat) (F G : Nat → Prop) (D : DS) (R : List Rec) (br : Bool) (sz i : Nat) (hn : l.length = n) (hn1 : n ≤ 1000) (hI : ∀ r ∈ l, RecI r) (hR : R.length ≤ 100000) (hr : RdR W oa l) (hsp : l ≠ [] → ∀ b o, oa = some ⟨b, o, none⟩ → ¬ F b) (hi : Inv D sz i) (hib : i ≤ 900000) (hsz : sz ≤ 4194304) (hlost : br = false → D.lost = false) (h : RLX W N b bl F G ⟨D, R, br⟩) :
    Calls Tryz.prog 12 #[.pointer (some ⟨bl, 0, none⟩), .slice oa n c] W (RAppP W N b bl F G ⟨D, R, br⟩ l) := by
  obtain ⟨vr, hd, hk, hG⟩ := h.ex
  have hN : N ≤ W.heap.size := hd.1
  obtain ⟨M, hM⟩ : ∃ M, W.heap.size = M := ⟨_, rfl⟩
  have HM := Lib.hid hM
  have c0 := hk.blk.cell 0
  have c1 := hk.blk.cell 1
  have c2 := hk.blk.cell 2
  have c3 := hk.blk.cell 3
  simp only [List.getElem?_cons_zero, List.getElem?_cons_succ] at c0 c1 c2 c3
  have hE : endN R ≤ 9600000 := by
    have := (logL_bd zero32 R).1
    unfold endN
    omega
  have HN : Hid (N ≤ W.heap.size) := hN
  have HH := Lib.hid h
  have HK := Lib.hid hk
  have HL := Lib.hid hn
  have HR : Hid (∀ W', Below M W W' → RdR W' oa l) := fun W' hW => hr.kept (by rw [hM]; exact hW)
  have HI := Lib.hid hI
  have HINV := Lib.hid hi
  have HLOST := Lib.hid hlost
  have HRF : Hid (∀ W', Fr F W W' → RdR W' oa l) := fun W' hW => (Classical.em (l = [])).elim .inl (fun h0 => hr.fr hW (hsp h0))
  have hblM : bl < M := by rw [← hM]; exact hk.lt bl (.inl rfl)
  have HACC : Hid (∀ W', Below M W W' → RAcc W W' N b bl F G F ⟨D, R, br⟩) := fun W' hW => (RAcc.start h).below (by rw [hM]; exact hW)
  have HBLT : Hid (Below M W W) := Below.refl _ _
  cases br with
  | true =>
    have HF : Hid (∀ W', Below M W W' → RAppP W N b bl F G ⟨D, R, true⟩ l (.returned (.int .i64 250)) W') := fun W' hW => (HACC.out W' hW).done (by unfold appC; rw [if_pos (.inl rfl)])
    clear h hd hk hG hN hM hn hr hI hi hlost hsp
    go_enter Tryz.func12, Tryz.ntmps12
    go_wp2_with fail
    go_ret
    exact HF.out _ HBLT.out
  | false =>
    have hlo : D.lost = false := hlost rfl
    obtain ⟨or, nr, cr, hvr⟩ : ∃ or nr cr, vr = .slice or nr cr := by
      rcases hk.recs.2 with ⟨h1, h0⟩ | ⟨g, cap, _, h1, _⟩
      · exact ⟨none, 0, 0, h1⟩
      · exact ⟨_, _, _, h1⟩
    subst hvr
    obtain ⟨d0, d2, d3, d4⟩ := hk.rd
    have d1 : nr = R.length := d0
    clear d0
    have HHD : Hid (∀ W', Below M W W' → Calls Tryz.prog 25 #[.slice or nr cr] W' fun e w' => e = .returned (.string (headR R)) ∧ Below W'.heap.size W' w') := fun W' hW => refHead_any R or nr cr W' d1.symm (by omega) (d4.kept (by rw [hM]; exact hW))
    have HINVL : Hid (∀ k r, l[k]? = some r → validR r = false → ∀ W', Below M W W' → RAppP W N b bl F G ⟨D, R, false⟩ l (.returned (.int .i64 250)) W') := fun k r hk hv W' hW => (HACC.out W' hW).done (by
      have hv2 : allV l = false := by
        rcases Bool.eq_false_or_eq_true (allV l) with e | e
        · rw [(allV_iff l).1 e r (List.mem_of_getElem? hk)] at hv
          cases hv
        · exact e
      unfold appC
      rw [if_pos (.inr hv2)])
    have HD1 := Lib.hid d1
    have HDR : Hid (RdR W or R) := d4
    have HLO := Lib.hid hlo
    have hcapr : nr ≤ cr ∧ cr ≤ 9223372036854775807 := ⟨d2, d3⟩
    obtain ⟨h0, hh0⟩ : ∃ h0, headR R = h0 := ⟨_, rfl⟩
    have hz0 : h0.size = 32 := by rw [← hh0]; exact headF_size zero32 _ zero32_size
    rw [hh0] at HHD
    have HH0 : Hid (headR (R ++ l.take 0) = h0) := (show _ = _ from by rw [← hh0]; simp)
    have HO0 : Hid ((⟨#[]⟩ : ByteArray).data.toList = outL' R (l.take 0)) := (show _ = _ from by rw [List.take_zero]; rfl)
    have HV0 : Hid (∀ r ∈ l.take 0, validR r = true) := fun r hr => by simp at hr
    clear h hd hk hG hN hM hn hr hI hi hlost hsp hlo d1 d2 d3 d4 hh0
    go_enter Tryz.func12, Tryz.ntmps12
    go_wp2_with fail
    refine (HHD.out _ HBLT.out).mono ?_
    rintro e w2 ⟨rfl, hb2⟩
    have HB2 : Hid (Below M W w2) := HBLT.out.trans (hb2.mono (bnl HM.out HBLT.out))
    clear hb2 c0 c1 c2 c3 HBLT HHD
    go_wp2_with fail
    go_loopw [5, 6, 7] (fun ov hv iv wr => ∃ (k : Nat) (O hd : ByteArray), k ≤ n ∧ iv = .int .i64 k ∧ ov = .string O ∧ hv = .string hd ∧ hd.size = 32 ∧ O.size ≤ 96 * k ∧ Hid (O.data.toList = outL' R (l.take k)) ∧ Hid (headR (R ++ l.take k) = hd) ∧ Hid (∀ r ∈ l.take k, validR r = true) ∧ Hid (Below M W wr)) (fun _ _ i _ => n - (intOf i).toNat)
    case atStart => exact ⟨0, ⟨#[]⟩, h0, Nat.zero_le _, rfl, rfl, rfl, hz0, Nat.zero_le _, HO0, HH0, HV0, HB2⟩
    case round =>
      clear HB2 HH0 HO0 HV0 hz0
      obtain ⟨k, O, hd, hk, rfl, rfl, rfl, hz, hOz, HO, HHD, HV, HB⟩ := hrel
      by_cases hkn : k < n
      · have q1 : (k : Int) < (n : Int) := by omega
        have q2 : (0 : Int) ≤ (k : Int) := by omega
        obtain ⟨r, hr⟩ : ∃ r, l[k]? = some r := ⟨l[k]'(by rw [HL.out]; exact hkn), List.getElem?_eq_getElem _⟩
        have HVA := Lib.hid (fun W => refValid25_any r W (HI.out r (List.mem_of_getElem? hr)))
        have HST := Lib.hid (fun W => refStored_any hd r W (by omega))
        have hsl := storedL_bd hd r
        have HSN := Lib.hid (fun S hS => outS_snoc R l k r O S hd HO.out hr HHD.out hS)
        have HIV := Lib.hid (HINVL.out k r hr)
        have HTK : Hid (l.take (k + 1) = l.take k ++ [r]) := (show _ = _ from by rw [List.take_add_one, hr]; rfl)
        obtain ⟨C, hC⟩ : ∃ C, chainB hd (encB r) = C := ⟨_, rfl⟩
        have hCz : C.size = 32 := by rw [← hC]; exact chainB_size _ _
        obtain ⟨S, hS⟩ : ∃ S : ByteArray, (⟨(storedL hd r).toArray⟩ : ByteArray) = S := ⟨_, rfl⟩
        have hSz : S.size ≤ 96 := by
          rw [← hS]
          show (storedL hd r).toArray.size ≤ 96
          rw [List.size_toArray]
          exact hsl.2
        rw [hS, hC] at HST
        have HS2 := Lib.hid (HSN.out S hS)
        rw [hC] at HS2
        obtain ⟨V, hV⟩ : ∃ V, validR r = V := ⟨_, rfl⟩
        rw [hV] at HVA HIV
        have HVR := Lib.hid hV
        have HRK := Lib.hid hr
        obtain ⟨ba, xa, rfl, hba, a0, a1, a2, a3, a4, a5⟩ := (HR.out wr HB.out).at k r hr
        have hm1 : ¬ (O.size + S.size > 9223372036854775807) := by omega
        have hm2 : ¬ (9223372036854775807 < O.size + S.size) := by omega
        clear hC hS hV hr hsl HSN HO HHD
        obtain ⟨r0, r1, r2, r3, r4, r5⟩ := r
        dsimp only [recA] at HVA HST a0 a1 a2 a3 a4 a5
        go_wp2_with fail
        refine (HVA.out _).mono ?_
        rintro e w3 ⟨rfl, hb3⟩
        have HB3 : Hid (Below M W w3) := HB.out.trans (hb3.mono (bnl HM.out HB.out))
        clear hb3 HB HVA a0 a1 a2 a3 a4 a5 hba
        cases V with
        | false =>
          go_wp2_with fail
          go_ret
          exact HIV.out (by first | rfl | trivial) _ HB3.out
        | true =>
          obtain ⟨ba2, xa2, hoa2, hba, a0, a1, a2, a3, a4, a5⟩ := (HR.out w3 HB3.out).at k _ HRK.out
          cases hoa2
          dsimp only at a0 a1 a2 a3 a4 a5
          go_wp2_with fail
          refine (HST.out _).mono ?_
          rintro e w4 ⟨rfl, hb4⟩
          have HB4 : Hid (Below M W w4) := HB3.out.trans (hb4.mono (bnl HM.out HB3.out))
          clear hb4 HB3 HST a0 a1 a2 a3 a4 a5 hba
          go_wp2_with fail
          go_roundw
          case rel =>
            refine ⟨k + 1, O ++ S, C, by omega, by go_num, rfl, rfl, hCz, by rw [ByteArray.size_append]; omega, HS2.out.1, HS2.out.2, ?_, HB4⟩
            show ∀ r ∈ l.take (k + 1), validR r = true
            rw [HTK.out]
            intro r hr
            rcases List.mem_append.1 hr with hr | hr
            · exact HV.out r hr
            · simp at hr
              subst hr
              exact HVR.out
          case measure => simp [intOf]; omega
      · have hke : k = n := by omega
        subst hke
        have q1 : ¬ (k : Int) < (k : Int) := by omega
        have hOd : O.data.toList = outL' R l := by
          have := HO.out
          rwa [List.take_of_length_le (by rw [HL.out]; exact Nat.le_refl _)] at this
        have hVL : allV l = true := (allV_iff l).2 (by
          have := HV.out
          rwa [List.take_of_length_le (by rw [HL.out]; exact Nat.le_refl _)] at this)
        have hbd := outL'_bd R l
        rw [HL.out, ← hOd, blen] at hbd
        obtain ⟨m, hm⟩ : ∃ m, O.size = m := ⟨_, rfl⟩
        rw [hm] at hbd
        obtain ⟨E, hE0⟩ : ∃ E, endN R = E := ⟨_, rfl⟩
        have hlen : (outL' R l).length = m := by rw [← hOd, blen, hm]
        have hvis : D.vis.length = sz := HINV.out.len
        have HNB : Hid (¬ (false = true ∨ allV l = false)) := (show ¬ _ from fun e => e.elim (fun e => by cases e) (fun e => by rw [hVL] at e; cases e))
        have HROOM : Hid (∀ W', Below M W W' → Calls Tryz.prog 19 #[.pointer (some ⟨bl, 0, none⟩)] W' fun e w' => e = .returned (.int .i64 ((sz : Int) - (E : Int))) ∧ ∃ k, w' = W'.drewN k) := fun W' hW => by
          have ha := HACC.out W' hW
          obtain ⟨vr, q1, q2, q3⟩ := ha.rl.ex
          have := refRoom_any W' N b bl F vr D R false sz i HINV.out (by omega) q1 q2
          rw [hE0] at this
          exact this
        have HB9 := HB
        clear hkn HO HV HHD
        by_cases hfull : sz < E + m
        · have hcmp : (m : Int) > (sz : Int) - (E : Int) := by omega
          have hcmp' : (sz : Int) - (E : Int) < (m : Int) := by omega
          have HF : Hid (∀ W', Below M W W' → RAppP W N b bl F G ⟨D, R, false⟩ l (.returned (.int .i64 251)) W') := fun W' hW => (HACC.out W' hW).done (by
            unfold appC
            rw [if_neg HNB.out, if_pos (by show D.vis.length < endN R + (outL' R l).length; rw [hE0, hlen, hvis]; exact hfull)])
          clear hOd hVL hlen hvis hbd hE0
          go_wp2_with fail
          refine (HROOM.out _ HB.out).mono ?_
          rintro e w3 ⟨rfl, nq, rfl⟩
          go_wp2_with fail
          go_ret
          exact HF.out _ (HB.out.trans (drewN_below (Below.refl _ _) nq))
        · have hcmp : ¬ (m : Int) > (sz : Int) - (E : Int) := by omega
          have hcmp' : ¬ (sz : Int) - (E : Int) < (m : Int) := by omega
          have HNF : Hid (¬ D.vis.length < endN R + (outL' R l).length) := (show ¬ _ from by rw [hE0, hlen, hvis]; exact hfull)
          by_cases hk0 : k = 0
          · have hl0 : l = [] := List.eq_nil_of_length_eq_zero (HL.out.trans hk0)
            have hO0 : O = ⟨#[]⟩ := by
              apply ba_ext
              rw [hOd, hl0]
              rfl
            have e9 : (O.toList == ([] : List UInt8)) = true := by rw [hO0, ByteArray.toList_eq]; rfl
            have HF : Hid (∀ W', Below M W W' → RAppP W N b bl F G ⟨D, R, false⟩ l (.returned (.int .i64 0)) W') := fun W' hW => (HACC.out W' hW).done (by
              unfold appC
              rw [if_neg HNB.out, if_neg HNF.out, if_pos hl0])
            clear hOd hVL hlen hvis hbd hE0 hl0 hO0 hk0
            go_wp2_with fail
            refine (HROOM.out _ HB.out).mono ?_
            rintro e w3 ⟨rfl, nq, rfl⟩
            go_wp2_with fail
            go_ret
            exact HF.out _ (HB.out.trans (drewN_below (Below.refl _ _) nq))
          · have hm1 : 1 ≤ m := by omega
            have e9 : (O.toList == ([] : List UInt8)) = false := by
              rw [beq_eq_false_iff_ne]
              intro e
              have : O.toList.length = m := by rw [← hm, ByteArray.toList_eq]; exact blen O
              rw [e] at this
              simp at this
              omega
            have hl0 : ¬ l = [] := fun e => hk0 (by rw [← HL.out, e]; rfl)
            have qm : (1 : Int) ≤ (m : Int) := by omega
            have hwr : IntKind.i64.wrap ((E : Int) + 1) = (E : Int) + 1 := IntWalk.i64_in _ (by omega)
            obtain ⟨T, hT⟩ : ∃ T, tailB R l = T := ⟨_, rfl⟩
            have hx1 : O.extract 1 m = T := by
              have := extract_list O 1 (m - 1)
              rw [show 1 + (m - 1) = m by omega, List.take_of_length_le (by rw [List.length_drop, blen, hm]; omega)] at this
              rw [this, hOd]
              exact hT
            have hx0 : O.extract 0 1 = oneB := by
              have := extract_list O 0 1
              rw [this, hOd]
              cases hl : l with
              | nil => exact absurd hl hl0
              | cons r l => rw [outL'_one]; rfl
            have hTz : T.size = m - 1 := by rw [← hx1, ByteArray.size_extract, hm]; omega
            obtain ⟨Q, hQ⟩ : ∃ Q, oneB = Q := ⟨_, rfl⟩
            have hQz : Q.size = 1 := by rw [← hQ]; rfl
            rw [hQ] at hx0
            have hlo := HLO.out
            obtain ⟨D1, hD1⟩ : ∃ D1, writeD D ((E + 1 : Nat) : Int) T = D1 := ⟨_, rfl⟩
            obtain ⟨D3, hD3⟩ : ∃ D3, writeD (syncD D1) (E : Int) Q = D3 := ⟨_, rfl⟩
            have HI1 : Hid (Inv D1 sz (i + 1)) := by rw [← hD1]; exact HINV.out.write _ _
            have HI3 : Hid (Inv D3 sz (i + 3)) := by rw [← hD3]; exact HI1.out.sync.write _ _
            have HC1 : Hid (¬ stE D1 = 0 → appC ⟨D, R, false⟩ l = (stE D1, ⟨syncD D1, R, true⟩)) := fun he => by
              have e1 : putE D (endN R + 1) (tailB R l) = stE D1 := by unfold putE; rw [hE0, hT, hD1]
              have e2 : putD D (endN R + 1) (tailB R l) = syncD D1 := by unfold putD; rw [hE0, hT, hD1]
              unfold appC
              dsimp only
              rw [if_neg HNB.out, if_neg HNF.out, if_neg hl0, e1, e2, if_pos he]
              unfold stE at he ⊢
              split
              · rfl
              · rename_i hh; rw [if_neg hh] at he; exact absurd rfl he
            have HC2 : Hid (stE D1 = 0 → ¬ stE D3 = 0 → appC ⟨D, R, false⟩ l = (stE D3, ⟨syncD D3, R, true⟩)) := fun h1 he => by
              have e1 : putE D (endN R + 1) (tailB R l) = stE D1 := by unfold putE; rw [hE0, hT, hD1]
              have e2 : putD D (endN R + 1) (tailB R l) = syncD D1 := by unfold putD; rw [hE0, hT, hD1]
              have e3 : putE (syncD D1) (endN R) oneB = stE D3 := by unfold putE; rw [hE0, hQ, hD3]
              have e4 : putD (syncD D1) (endN R) oneB = syncD D3 := by unfold putD; rw [hE0, hQ, hD3]
              unfold appC
              dsimp only
              rw [if_neg HNB.out, if_neg HNF.out, if_neg hl0, e1, e2, if_neg (fun h => h h1), e3, e4, if_pos he]
              unfold stE at he ⊢
              split
              · rfl
              · rename_i hh; rw [if_neg hh] at he; exact absurd rfl he
            have HC3 : Hid (stE D1 = 0 → stE D3 = 0 → appC ⟨D, R, false⟩ l = (0, ⟨syncD D3, R ++ l, false⟩)) := fun h1 he => by
              have e1 : putE D (endN R + 1) (tailB R l) = stE D1 := by unfold putE; rw [hE0, hT, hD1]
              have e2 : putD D (endN R + 1) (tailB R l) = syncD D1 := by unfold putD; rw [hE0, hT, hD1]
              have e3 : putE (syncD D1) (endN R) oneB = stE D3 := by unfold putE; rw [hE0, hQ, hD3]
              have e4 : putD (syncD D1) (endN R) oneB = syncD D3 := by unfold putD; rw [hE0, hQ, hD3]
              unfold appC
              dsimp only
              rw [if_neg HNB.out, if_neg HNF.out, if_neg hl0, e1, e2, if_neg (fun h => h h1), e3, e4, if_neg (fun h => h he)]
            have HLO2 : Hid (stE D1 = 0 → (syncD D1).lost = false) := fun h1 => by
              have h2 := (stE_lost _).1 h1
              unfold syncD
              split
              · exact h2
              · exact h2
            have HWR1 : Hid (∀ W', Below M W W' → Calls Tryz.prog 15 #[.pointer (some ⟨b, 0, none⟩), .int .i64 ((E : Int) + 1), .string T] W' fun e w' => e = .returned (.int .i64 0) ∧ ∃ F'', RAcc W w' N b bl F G F'' ⟨D1, R, false⟩) := fun W' hW => by
              have := (HACC.out W' hW).write HINV.out (by omega) hlo hsz (E + 1) T (by rw [hTz]; omega)
              rw [hD1] at this
              exact this
            have HWR2 : Hid (stE D1 = 0 → ∀ W' F', RAcc W W' N b bl F G F' ⟨syncD D1, R, false⟩ → Calls Tryz.prog 15 #[.pointer (some ⟨b, 0, none⟩), .int .i64 (E : Int), .string Q] W' fun e w' => e = .returned (.int .i64 0) ∧ ∃ F'', RAcc W w' N b bl F G F'' ⟨D3, R, false⟩) := fun h1 W' F' hA => by
              have := hA.write HI1.out.sync (by omega) (HLO2.out h1) hsz E Q (by rw [hQz]; omega)
              rw [hD3] at this
              exact this
            have HEE := Lib.hid hE0
            have HLE : Hid (endN (R ++ l) = E + m) := (show _ = _ from by rw [endN_append, hE0, hlen])
            have HKC : Hid (∀ W', Below M W W' → W'.cell? ⟨bl, 0, none⟩ = some (.pointer (some ⟨b, 0, none⟩)) ∧ W'.cell? ⟨bl, 2, none⟩ = some (.int .i64 (E : Int))) := fun W' hW => (HACC.out W' hW).at HEE.out
            clear hOd hVL hlen hvis hbd hE0 hl0 hk0 hT hTz hQ hQz hlo hD1 hD3
            go_wp2_with fail
            refine (HROOM.out _ HB.out).mono ?_
            rintro e w3 ⟨rfl, nq, rfl⟩
            have hb3 := HB.out.trans (drewN_below (Below.refl _ wr) nq |>.mono (bnl HM.out HB.out))
            generalize wr.drewN nq = w3 at hb3 ⊢
            have HQ : Hid (Below M W w3.drew) := hb3.drew
            clear hb3 HROOM
            go_upto_region 18 with (fail)
            refine wp_region_held_drew (S := fun W => W.cell? ⟨bl, 0, none⟩ = some (.pointer (some ⟨b, 0, none⟩)) ∧ W.cell? ⟨bl, 2, none⟩ = some (.int .i64 (E : Int))) (by kernel_rfl) ?_ (fun hHeld => ?_)
            · exact HKC.out _ HQ.out
            refine tk 0 (some 55) ?_
            refine tk 1 (some 56) ?_
            refine tk 2 (some 57) ?_
            refine tk 3 (some 58) ?_
            refine tk 4 (some 59) ?_
            refine tk 5 (some 60) ?_
            refine tk 6 (some 61) ?_
            refine tk 7 (some 62) ?_
            refine tk 8 (some 63) ?_
            refine tk 9 (some 64) ?_
            refine tk 10 (some 65) ?_
            refine rd1 11 (some 66) (fun K hK => ?_)
            go_simp
            refine (HWR1.out _ HQ.out).mono ?_
            rintro e w4 ⟨rfl, F1, hA4⟩
            have HA := Lib.hid hA4
            clear hA4
            go_simp
            refine hK.out _ _ ?_ (fun hHeld2 => ?_)
            · exact HA.out.at HEE.out
            clear hK K hHeld
            rename _ => hHeld
            try simp only [Act.put, List.setIfInBounds_toArray, List.set_cons_zero, List.set_cons_succ]
            refine tk 12 (some 11) ?_
            have hA0 := HA.out.at HEE.out
            obtain ⟨c0, c2⟩ := hA0
            refine wpAnyH_done (by kernel_rfl) ?_ _
            clear hHeld
            go_wp2_with fail
            refine (HA.out.sync HI1.out (by omega)).mono ?_
            rintro e w5 ⟨rfl, F2, hA5⟩
            have HA5 := Lib.hid hA5
            clear hA5 HA
            obtain ⟨e1, he1⟩ : ∃ e1, stE D1 = e1 := ⟨_, rfl⟩
            rw [he1] at HC1 HC2 HC3 HLO2 HWR2
            rw [he1]
            clear he1
            by_cases h1 : e1 = 0
            · subst h1
              have HC2b := Lib.hid (HC2.out rfl)
              have HC3b := Lib.hid (HC3.out rfl)
              clear HC2 HC3
              have HW3 := Lib.hid (HWR2.out rfl w5.drew F2 (HA5.out.below (Below.refl _ _).drew))
              have hS0 : w5.drew.cell? ⟨bl, 0, none⟩ = some (.pointer (some ⟨b, 0, none⟩)) ∧ w5.drew.cell? ⟨bl, 2, none⟩ = some (.int .i64 (E : Int)) := HA5.out.at HEE.out
              have HS0 := Lib.hid hS0
              clear hS0 HWR2 HLO2 HC1
              go_upto_region 22 with (fail)
              refine wp_region_held_drew (S := fun W => W.cell? ⟨bl, 0, none⟩ = some (.pointer (some ⟨b, 0, none⟩)) ∧ W.cell? ⟨bl, 2, none⟩ = some (.int .i64 (E : Int))) (by kernel_rfl) ?_ (fun hHeld => ?_)
              · exact HS0.out
              refine tk 0 (some 76) ?_
              refine tk 1 (some 77) ?_
              refine tk 2 (some 78) ?_
              refine tk 3 (some 79) ?_
              refine tk 4 (some 80) ?_
              refine tk 5 (some 81) ?_
              refine tk 6 (some 82) ?_
              refine tk 7 (some 83) ?_
              refine tk 8 (some 84) ?_
              refine tk 9 (some 85) ?_
              refine rd1 10 (some 86) (fun K hK => ?_)
              go_simp
              refine HW3.out.mono ?_
              rintro e w6 ⟨rfl, F3, hA6⟩
              have HA := Lib.hid hA6
              clear hA6
              go_simp
              refine hK.out _ _ ?_ (fun hHeld2 => ?_)
              · exact HA.out.at HEE.out
              clear hK K hHeld
              rename _ => hHeld
              try simp only [Act.put, List.setIfInBounds_toArray, List.set_cons_zero, List.set_cons_succ]
              refine tk 11 (some 11) ?_
              have hA0 := HA.out.at HEE.out
              obtain ⟨c0, c2⟩ := hA0
              refine wpAnyH_done (by kernel_rfl) ?_ _
              clear hHeld
              go_wp2_with fail
              refine (HA.out.sync HI3.out (by omega)).mono ?_
              rintro e w7 ⟨rfl, F4, hA7⟩
              have HA7 := Lib.hid hA7
              clear hA7 HA
              obtain ⟨e2, he2⟩ : ∃ e2, stE D3 = e2 := ⟨_, rfl⟩
              rw [he2] at HC2b HC3b
              rw [he2]
              clear he2
              by_cases h2 : e2 = 0
              · subst h2
                have HC := Lib.hid (HC3b.out rfl)
                obtain ⟨vr, q1, q2, q3⟩ := HA7.out.rl.ex
                obtain ⟨or, nr, cr, hvr⟩ : ∃ or nr cr, vr = .slice or nr cr := by
                  rcases q2.recs.2 with ⟨h1, h0⟩ | ⟨g, cap, _, h1, _⟩
                  · exact ⟨none, 0, 0, h1⟩
                  · exact ⟨_, _, _, h1⟩
                subst hvr
                obtain ⟨d0, d2, d3, d4⟩ := q2.rd
                have d1 : nr = R.length := d0
                clear d0
                have hb7 : W.heap.size ≤ w7.heap.size := HA7.out.fr.size
                have hN7 : N ≤ w7.heap.size := Nat.le_trans HN.out hb7
                have hblt : bl < w7.heap.size := q2.blk.lt
                obtain ⟨oA, cA, w8, hrun1, ho1, hf1, hk1⟩ := app_recs w7 N (.slice none 0 0) [] R ⟨rfl, .inl ⟨rfl, rfl⟩⟩ or nr cr d1.symm d4 (by simp; omega) hN7 38
                simp only [List.nil_append] at hrun1 ho1 hk1
                have hbA : Below w7.heap.size w7 w8 := hf1.below w7.heap.size (Nat.le_refl _) (fun k e => by simp [Value.ownBlock] at e)
                rw [← d1] at hrun1 hk1
                have ho1' : w8.ownsRow N 62 6 (.slice oA nr cA) R.length (rcells R) := by rw [d1]; exact ho1
                obtain ⟨oB, cB, w9, hrun2, ho2, hf2, hk2⟩ := app_recs w8 N (.slice oA nr cA) R l ho1' oa k c HL.out ((HRF.out w7 HA7.out.fr).kept hbA) (by omega) (Nat.le_trans hN7 hbA.size) 38
                have hkA : ∀ g, (Value.slice oA nr cA).ownBlock = some g → w7.heap.size ≤ g := fun g hg => (hk1 g hg).elim (fun h => by simp [Value.ownBlock] at h) (fun h => h)
                have hbB : Below w7.heap.size w7 w9 := hbA.trans (hf2.below w7.heap.size hbA.size hkA)
                have hkB : ∀ g, (Value.slice oB (R ++ l).length cB).ownBlock = some g → w7.heap.size ≤ g := fun g hg => (hk2 g hg).elim (hkA g) (fun h => Nat.le_trans hbA.size h)
                have HFIN := Lib.hid (HA7.out.put hbB ho2 hkB HLE.out.symm HC.out)
                have hcast : ((E + m : Nat) : Int) = (E : Int) + (m : Int) := by omega
                rw [hcast] at HFIN
                have hk9 := q2.blk.kept (hbB.block bl hblt)
                rw [HEE.out] at hk9
                have g1 := hk9.frozen 1
                have g2 := hk9.frozen 2
                have c2 := hk9.cell 2
                have c19 := hk9.cell 1
                have c1 := q2.blk.cell 1
                simp only [List.getElem?_cons_zero, List.getElem?_cons_succ] at c1 c2 c19
                have hEm : E + m ≤ 5000000 := by omega
                obtain ⟨zl, hzl⟩ : ∃ zl, (R ++ l).length = zl := ⟨_, rfl⟩
                rw [hzl] at HFIN hrun2
                clear hzl q1 q2 q3 d1 d4 hb7 hN7 ho1 hf1 hk1 hbA ho1' ho2 hf2 hk2 hkA hbB hkB hcast hk9 HC HC2b HC3b
                go_upto_region 30 with (at_builtin; refine wpList_append_run _ rfl _ _ 38 rfl _ _ _ _ rfl rfl hrun1 ?_)
                clear hrun1 c1
                go_upto_region 31 with (at_builtin; refine wpList_append_run _ rfl _ _ 38 rfl _ _ _ _ rfl rfl hrun2 ?_)
                clear hrun2
                go_wp2_with fail
                go_ret
                exact HFIN.out
              · have qb1 : (e2 == 0) = false := by rw [beq_eq_false_iff_ne]; exact h2
                have qb2 : (e2 != 0) = true := by rw [bne_iff_ne]; exact h2
                have HC := Lib.hid (HC2b.out h2)
                obtain ⟨g3, _, _, f3⟩ := HA7.out.fz
                clear h2 HC2b HC3b
                go_wp2_with fail
                go_ret
                exact HA7.out.broke HC.out
            · have qb1 : (e1 == 0) = false := by rw [beq_eq_false_iff_ne]; exact h1
              have qb2 : (e1 != 0) = true := by rw [bne_iff_ne]; exact h1
              have HC := Lib.hid (HC1.out h1)
              obtain ⟨g3, _, _, f3⟩ := HA5.out.fz
              clear h1 HC1 HC2 HC3 HWR2 HLO2
              go_wp2_with fail
              go_ret
              exact HA5.out.broke HC.out
end Go.Proofs.YtfpcdlpfmlaakaaGreatDoor
