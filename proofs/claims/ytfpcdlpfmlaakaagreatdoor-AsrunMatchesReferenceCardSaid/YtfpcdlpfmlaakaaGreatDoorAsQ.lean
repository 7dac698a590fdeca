/-
  The walk of asrun.Append.
-/
import Derived.WalkKit
import Derived.Test.YtfpcdlpfmlaakaaGreatDoorTk
import Derived.LoopTactic
import Derived.WalkSpells
import Derived.WalkLawsBesides
import Derived.RegionTactic
import Derived.BigRegion
import Derived.IntWalk
import Derived.Outline
import Derived.Deep.QuietTactic
import Derived.BigQuiet
import Derived.Deep.RegionLaw
import Derived.Deep.RegionHeld3
import Derived.Deep.DeepCutAuto
import Derived.Lib.Hide
import Derived.Test.YtfpcdlpfmlaakaaGreatDoorAsGk
import Derived.Test.YtfpcdlpfmlaakaaGreatDoorAsHq
import Derived.Test.YtfpcdlpfmlaakaaGreatDoorBlQ
set_option linter.unusedVariables false
set_option linter.unusedSimpArgs false
namespace Go.Proofs.YtfpcdlpfmlaakaaGreatDoor
open Go.RowKit Onair
def AppP (W : World) (B B2 b bd bv bl : Nat) (vp vr ve : Value) (s : LS) (l : List Rec) (e : Ending) (w' : World) : Prop :=
  e = .returned (.int .i64 (appC s l).1) ∧ ∃ vp' vr' ve', DkAt w' B b bd bv vp' (appC s l).2.D ∧ LgAt w' B2 bl b vr' ve' (appC s l).2.R (appC s l).2.br ∧ (∀ k, vp'.ownBlock = some k → vp.ownBlock = some k ∨ W.heap.size ≤ k) ∧ (∀ k, LFoot bl vr' ve' k → LFoot bl vr ve k ∨ W.heap.size ≤ k) ∧ Fr (fun k => Foot b bd bv vp k ∨ LFoot bl vr ve k) W w' ∧ (∀ k, LFoot bl vr' ve' k → ¬ Foot b bd bv vp' k)
theorem appP_same {W w' : World} {B B2 b bd bv bl : Nat} {vp vr ve : Value} {s : LS} {l : List Rec} {c : Int} (hc : appC s l = (c, s)) (hd : DkAt W B b bd bv vp s.D) (hl : LgAt W B2 bl b vr ve s.R s.br) (hsep : ∀ k, LFoot bl vr ve k → ¬ Foot b bd bv vp k) (hb : Below W.heap.size W w') : AppP W B B2 b bd bv bl vp vr ve s l (.returned (.int .i64 c)) w' := by
  unfold AppP
  rw [hc]
  exact ⟨rfl, vp, vr, ve, hd.kept (fun k hk => hb.block k (hd.lt k hk)), hl.below hb, fun k hk => .inl hk, fun k hk => .inl hk, Fr.under _ hb, hsep⟩
theorem stored_bytes (h : ByteArray) (r : Rec) (hv : validR r = true) : ((⟨#[1]⟩ ++ ⟨(putSL (encB r).data.toList).toArray⟩ : ByteArray) ++ chainB h (encB r)).data.toList = storedL h r := by
  unfold storedL
  rw [encB_data, ByteArray.data_append, ByteArray.data_append, Array.toList_append, Array.toList_append]
  rfl
theorem putSL_size (s : ByteArray) (h : s.size ≤ 54) : ((⟨(putSL s.data.toList).toArray⟩ : ByteArray)).size ≤ 63 := by
  show (putSL s.data.toList).toArray.size ≤ 63
  rw [List.size_toArray]
  unfold putSL
  have := putL_len (s.data.toList.length : Int)
  have e : s.data.toList.length = s.size := len_data s
  split
  · simp
  · rw [List.length_append]
    omega
/-- The world of Append behind the builder. -/
structure ApG (w : World) (N bl k : Nat) (xs : List Value) (oa : Option Addr) (cap : Nat) (W : World) : Prop where
  px : Blk W N 33 [.pointer (some ⟨bl, 0, none⟩)]
  gr : W.ownsRow (N + 1) 103 9 (.slice oa k cap) k xs
  bel : Below N w W
theorem ApI.str {w : World} {N b1 bl : Nat} {L : List UInt8} {k : Nat} {xs : List Value} {oa : Option Addr} {cap : Nat} {W W' : World} (h : ApI w N b1 bl L k xs oa cap W) (hb : Below b1 W W') (hk : Keeps b1 W W') : ApG w N bl k xs oa cap W' :=
  ⟨h.px.kept (hb.block _ h.n1), own_base (own_keeps h.gr hk (by decide) (fun e => by have := own_ge h.gr _ e; omega)) (by have := h.n1; omega), h.bel.trans (hb.mono (by have := h.n1; omega))⟩
theorem ApG.below {w : World} {N bl k : Nat} {xs : List Value} {oa : Option Addr} {cap : Nat} {W W' : World} (h : ApG w N bl k xs oa cap W) (hb : Below W.heap.size W W') : ApG w N bl k xs oa cap W' :=
  ⟨h.px.kept (hb.block _ h.px.lt), ownsRow_keptF h.gr (fun j e => hb.block j (own_lt h.gr j e)), h.bel.trans (hb.mono (by have := h.px.lt; omega))⟩
set_option maxHeartbeats 8000000 in
set_option maxRecDepth 100000 in
theorem append_any (l : List Rec) (oa : Option Addr) (n c : Nat) (w : World) (B B2 b bd bv bl : Nat) (vp vr ve : Value) (D : DS) (R : List Rec) (br : Bool) (hn : l.length = n) (hn1 : n ≤ 1000) (hnc : n ≤ c) (hcm : c ≤ 9223372036854775807) (hI : ∀ r ∈ l, RecI r) (hR : R.length ≤ 100000) (hr : RdR w oa l) (hd : DkAt w B b bd bv vp D) (hl : LgAt w B2 bl b vr ve R br) (hsep : ∀ k, LFoot bl vr ve k → ¬ Foot b bd bv vp k) (hB : B ≤ w.heap.size) (hB2 : B2 ≤ w.heap.size) (ht : TabAt w) (hg : 0 < B2) (hgB : 0 < B) (hlost : br = false → D.lost = false) (hpl : D.pend.length ≤ 1000000) (hcut : D.cut ≤ 9223372036854775807) :
    Calls Tryz.prog 10 #[.pointer (some ⟨bl, 0, none⟩), .slice oa n c] w (AppP w B B2 b bd bv bl vp vr ve ⟨D, R, br⟩ l) := by
  obtain ⟨N, hN⟩ : ∃ N, w.heap.size = N := ⟨_, rfl⟩
  obtain ⟨w1, hw1⟩ : ∃ w1, w.alloc (.cells #[.pointer (some ⟨bl, 0, none⟩)] 33) = w1 := ⟨_, rfl⟩
  have hb1 : Below N w w1 := by rw [← hw1, ← hN]; exact (Below.refl _ w).alloc (Nat.le_refl _) _
  have k1 : Blk w1 N 33 [.pointer (some ⟨bl, 0, none⟩)] := by rw [← hw1, ← hN]; exact Blk.new w _ _
  have hl1 : LgAt w1 B2 bl b vr ve R br := hl.below (hN ▸ hb1)
  have HAB := Lib.hid (absent_no w1 B2 bl b vr ve R br hl1)
  have HCO := Lib.hid (contains_any l oa n c w1 hn hnc hcm hI (hr.kept (hN ▸ hb1)))
  have p0 := k1.cell 0
  have c5 := hl1.blk.cell 5
  simp only [List.getElem?_cons_zero, List.getElem?_cons_succ] at p0 c5
  have HB1 := Lib.hid hb1
  have HK1 := Lib.hid k1
  have HD := Lib.hid hd
  have HL := Lib.hid hl
  have HSEP := Lib.hid hsep
  have HT := Lib.hid ht
  have HN := Lib.hid hN
  have HR := Lib.hid hr
  have HLN := Lib.hid hn
  have HLOST := Lib.hid hlost
  have hblN : bl < N := by rw [← hN]; exact hl.lt bl (.inl rfl)
  have hne1 : ¬ bl = N := by omega
  clear hb1 k1 hl1 hr hd hl hsep ht hn hI hlost
  go_enter Tryz.func10, Tryz.ntmps10
  go_wp2_with fail
  refine HAB.out.mono ?_
  rintro e w' ⟨rfl, rfl⟩
  cases br with
  | true =>
    go_wp2_with fail
    go_ret
    refine appP_same (by unfold appC; rw [if_pos (.inl rfl)]) HD.out HL.out HSEP.out (by rw [HN.out]; exact HB1.out)
  | false =>
    go_wp2_with fail
    refine HCO.out.mono ?_
    rintro e w3 ⟨rfl, hb3⟩
    have HB3 : Hid (Below N w w3) := HB1.out.trans (hb3.mono (by have := HK1.out.lt; omega))
    have HK3 := Lib.hid (HK1.out.kept (hb3.block N HK1.out.lt))
    clear hb3 p0 c5 hw1 HB1 HK1 HCO HAB
    by_cases hv : allV l = true
    · have HV := Lib.hid hv
      have hv2 : (!allV l) = false := by rw [hv]; rfl
      clear hv
      rw [hv2]
      obtain ⟨b1, hb1⟩ : ∃ b1, w3.heap.size = b1 := ⟨_, rfl⟩
      have hAI := ApI.new HK3.out HB3.out
      obtain ⟨w4, hw4⟩ : ∃ w4, w3.alloc (.cells #[.pointer none, .slice none 0 0] 93) = w4 := ⟨_, rfl⟩
      rw [hw4, hb1] at hAI
      have p0 := hAI.px.cell 0
      have c3 : w4.cell? ⟨bl, 3, none⟩ = some (.string (headR R)) := (hAI.bel.cell (p := ⟨bl, 3, none⟩) hblN).trans (HL.out.blk.cell 3)
      simp only [List.getElem?_cons_zero, List.getElem?_cons_succ] at p0
      have HAI := Lib.hid hAI
      clear hAI HB3 HK3 hv2
      go_wp2_with fail
      obtain ⟨h0, hh0⟩ : ∃ h0, headR R = h0 := ⟨_, rfl⟩
      rw [hh0]
      have HH0 : Hid (headR (R ++ l.take 0) = h0) := (show headR (R ++ l.take 0) = h0 from by rw [← hh0]; simp)
      clear hh0 p0 c3 hw4 hb1
      go_loopw [5, 7, 33] (fun g h x wr => ∃ (k : Nat) (oa' : Option Addr) (cap' : Nat) (hd : ByteArray), k ≤ n ∧ x = .int .i64 k ∧ g = .slice oa' k cap' ∧ h = .string hd ∧ Hid (headR (R ++ l.take k) = hd) ∧ Hid (ApI w N b1 bl (outL' R (l.take k)) k (gcells R (l.take k)) oa' cap' wr)) (fun _ _ x _ => n - (intOf x).toNat)
      case atStart => exact ⟨0, none, 0, h0, Nat.zero_le _, rfl, rfl, rfl, HH0, HAI⟩
      case round =>
        clear HAI HH0
        obtain ⟨k, oa', cap', hd, hk, rfl, rfl, rfl, HH, HAI⟩ := hrel
        by_cases hkn : k = n
        · have q1 : ¬ (k : Int) < n := by omega
          have hAI2 : ApI w N b1 bl (outL' R l) n (gcells R l) oa' cap' wr := by
            have := HAI.out
            rwa [hkn, List.take_of_length_le (Nat.le_of_eq HLN.out)] at this
          subst hkn
          have HAI2 := Lib.hid hAI2
          clear HAI HH hAI2
          obtain ⟨L, hL⟩ : ∃ L, outL' R l = L := ⟨_, rfl⟩
          rw [hL] at HAI2
          obtain ⟨m, hm⟩ : ∃ m, L.length = m := ⟨_, rfl⟩
          have hmb : m ≤ 96 * k ∧ 33 * k ≤ m := by
            have := outL'_bd R l
            rw [hL, hm, HLN.out] at this
            exact this
          obtain ⟨E0, hE0⟩ : ∃ E0, endN R = E0 := ⟨_, rfl⟩
          have hEb : E0 ≤ 10000000 := by
            have h1 : endN R ≤ 96 * R.length := (logL_bd zero32 R).1
            omega
          obtain ⟨v, hvv⟩ : ∃ v, D.vis.length = v := ⟨_, rfl⟩
          have hvb : v ≤ 4194304 := by
            have := HD.out.max
            omega
          have hLg : LgAt wr B2 bl b vr ve R false := HL.out.below (by rw [HN.out]; exact HAI2.out.bel)
          have hDk : DkAt wr B b bd bv vp D := HD.out.kept (fun j hj => HAI2.out.bel.block j (by rw [← HN.out]; exact HD.out.lt j hj))
          have p0 := HAI2.out.px.cell 0
          simp only [List.getElem?_cons_zero, List.getElem?_cons_succ] at p0
          have HLEN : Hid (∀ j, Calls Tryz.prog 44 #[.pointer (some ⟨b1, 0, none⟩)] (wr.drewN j) fun e w' => e = .returned (.int .i64 (m : Int)) ∧ w' = wr.drewN j) := (show ∀ j, _ from fun j => by
            have := Tryz.Builder_Len b1 b1 (Lib.byteCells L) (wr.drewN j) (HAI2.out.bd.below (drewN_below (Below.refl _ _) j))
            rw [Lib.byteCells_length, hm] at this
            exact this)
          have HROOM : Hid (∀ j, Calls Tryz.prog 18 #[.pointer (some ⟨bl, 0, none⟩)] (wr.drewN j) fun e w' => e = .returned (.int .i64 ((v : Int) - (E0 : Int))) ∧ ∃ i, w' = (wr.drewN j).drewN i) := (show ∀ j, _ from fun j => by
            have := room_any (wr.drewN j) B B2 b bd bv bl vp vr ve D R false (by omega) (hDk.kept (fun _ _ => rfl)) (hLg.kept (fun _ _ => rfl))
            rw [hvv, hE0] at this
            exact this)
          have HLg := Lib.hid hLg
          have HDk := Lib.hid hDk
          have HM := Lib.hid hm
          have HE0 := Lib.hid hE0
          have HVV := Lib.hid hvv
          have HLL := Lib.hid hL
          clear hLg hDk hm hE0 hvv hL
          by_cases hfull : v < E0 + m
          · have hcmp : decide ((m : Int) > (v : Int) - (E0 : Int)) = true := decide_eq_true (by omega)
            have hcmp' : decide ((v : Int) - (E0 : Int) < (m : Int)) = true := decide_eq_true (by omega)
            go_wp2_with fail
            go_quiet ((first | (go_at_call 44; with_reducible exact Calls.quiet_of_same (HLEN.out _)) | (go_at_call 18; with_reducible exact Calls.quiet_of (HROOM.out _))))
            go_wp2_with fail
            go_ret
            refine appP_same (by
              unfold appC
              rw [if_neg (fun e => e.elim (fun e => by cases e) (fun e => by rw [HV.out] at e; cases e)), if_pos (by show D.vis.length < endN R + (outL' R l).length; rw [HVV.out, HE0.out, HLL.out, HM.out]; exact hfull)]) HD.out HL.out HSEP.out (by rw [HN.out]; exact HAI2.out.bel.trans (drewN_below (Below.refl _ _) _))
          · have hcmp : decide ((m : Int) > (v : Int) - (E0 : Int)) = false := decide_eq_false (by omega)
            have hcmp' : decide ((v : Int) - (E0 : Int) < (m : Int)) = false := decide_eq_false (by omega)
            go_wp2_with fail
            go_quiet ((first | (go_at_call 44; with_reducible exact Calls.quiet_of_same (HLEN.out _)) | (go_at_call 18; with_reducible exact Calls.quiet_of (HROOM.out _))))
            have HNF : Hid (¬ D.vis.length < endN R + (outL' R l).length) := (show ¬ _ from by rw [HVV.out, HE0.out, HLL.out, HM.out]; exact hfull)
            have HNB : Hid (¬ (false = true ∨ allV l = false)) := (show ¬ _ from fun e => e.elim (fun e => by cases e) (fun e => by rw [HV.out] at e; cases e))
            clear hcmp hcmp' HLEN HROOM
            by_cases hk0 : k = 0
            · subst hk0
              go_wp2_with fail
              go_ret
              refine appP_same (by
                unfold appC
                rw [if_neg HNB.out, if_neg HNF.out, if_pos (List.eq_nil_of_length_eq_zero HLN.out)]) HD.out HL.out HSEP.out (by rw [HN.out]; exact HAI2.out.bel.trans (drewN_below (Below.refl _ _) _))
            · have qb : ((k : Int) == 0) = false := beq_false_of_ne (by omega)
              have hm1 : 1 ≤ m := by omega
              have hln0 : L ≠ [] := fun e => by
                rw [e] at HM
                have := HM.out
                simp at this
                omega
              have HAI3 : Hid (ApI w N b1 bl L k (gcells R l) oa' cap' (wr.drewN nq)) := HAI2.out.below (drewN_below (Below.refl _ _) nq)
              obtain ⟨wq, hwq⟩ : ∃ wq, wr.drewN nq = wq := ⟨_, rfl⟩
              rw [hwq] at HAI3 ⊢
              have HSTR := Lib.hid (string_keeps b1 b1 L wq HAI3.out.bd hln0)
              obtain ⟨z, hz⟩ : ∃ z, (⟨L.toArray⟩ : ByteArray) = z := ⟨_, rfl⟩
              rw [hz] at HSTR
              have HZ := Lib.hid hz
              clear hz hwq HAI2 p0 hk0 HLg HDk
              go_wp2_with fail
              refine HSTR.out.mono ?_
              rintro e w8 ⟨rfl, hb8, hk8⟩
              have hAG := HAI3.out.str hb8 hk8
              have hAG9 := hAG.below ((Below.refl _ w8).alloc (Nat.le_refl _) (.cells #[.string z] 9))
              have hk9 := Blk.new w8 9 [.string z]
              obtain ⟨p3, hp3⟩ : ∃ p3, w8.heap.size = p3 := ⟨_, rfl⟩
              obtain ⟨w9, hw9⟩ : ∃ w9, w8.alloc (.cells #[.string z] 9) = w9 := ⟨_, rfl⟩
              have hk9' : Blk w9 p3 9 [.string z] := by rw [← hw9, ← hp3]; exact hk9
              rw [hw9] at hAG9
              have hNp3 : N < p3 := by rw [← hp3]; exact hAG.px.lt
              have HAG9 := Lib.hid hAG9
              have HK9 := Lib.hid hk9'
              clear hAG hAG9 hk9 hk9' hb8 hk8 HAI3 HSTR
              go_upto_region 22 with (fail)
              have hblp : bl < w9.heap.size := by
                have := HAG9.out.bel.size
                rw [HN.out] at this
                omega
              have p0 : w9.cell? ⟨N, 0, none⟩ = some (.pointer (some ⟨bl, 0, none⟩)) := HAG9.out.px.cell 0
              have c0 : w9.cell? ⟨bl, 0, none⟩ = some (.pointer (some ⟨b, 0, none⟩)) := (HAG9.out.bel.cell (p := ⟨bl, 0, none⟩) hblN).trans (HL.out.blk.cell 0)
              obtain ⟨bs, hbs⟩ : ∃ bs, w9.heap.size = bs := ⟨_, rfl⟩
              obtain ⟨wa, hwa⟩ : ∃ wa, w9.drew.alloc (.cells #[.func (.func 47) #[] #[.pointer (some ⟨N, 0, none⟩), .pointer (some ⟨p3, 0, none⟩)], .func (.func 48) #[.pointer (some ⟨b, 0, none⟩)] #[], .func (.func 49) #[] #[.pointer (some ⟨N, 0, none⟩), .pointer (some ⟨p3, 0, none⟩)], .func (.func 48) #[.pointer (some ⟨b, 0, none⟩)] #[]] 105) = wa := ⟨_, rfl⟩
              have hbA : Below w9.heap.size w9 wa := by rw [← hwa]; exact ((Below.refl _ w9).drew).alloc (Nat.le_refl _) _
              have hkf : Blk wa bs 105 (appFs N p3 b) := by
                rw [← hwa, ← hbs]
                exact Blk.new w9.drew 105 (appFs N p3 b)
              have hAGa := HAG9.out.below hbA
              have hK3 := HK9.out.kept (hbA.block p3 HK9.out.lt)
              have hLga : LgAt wa B2 bl b vr ve R false := HL.out.below (by rw [HN.out]; exact hAGa.bel)
              have hDka : DkAt wa B b bd bv vp D := HD.out.kept (fun j hj => hAGa.bel.block j (by rw [← HN.out]; exact HD.out.lt j hj))
              have HNF2 : Hid (∀ k, N ≤ k → ¬ Foot b bd bv vp k) := (show ∀ k, _ → _ from fun k hk hf => by
                have := HD.out.lt k hf
                rw [HN.out] at this
                omega)
              have hzz : z.size = m := by rw [← HZ.out, ← HM.out]; show L.toArray.size = _; simp
              have hTT : z.extract 1 z.size = tailB R l := by rw [hzz, ← HZ.out, ← HLL.out]; exact out_tail R l m (by rw [HLL.out]; exact HM.out)
              have hl0 : l ≠ [] := fun e => by
                have := HLN.out
                rw [e] at this
                have h2 := hmb.2
                simp at this
                have h3 := HM.out
                have : L ≠ [] := hln0
                rw [← HLL.out] at this
                rw [e] at this
                exact this rfl
              have hOO : z.extract 0 1 = oneB := by rw [← HZ.out, ← HLL.out]; exact out_one R l hl0
              have hbb := hLga.blk
              rw [HE0.out] at hbb
              have hwn : N ≤ wa.heap.size := by rw [← HN.out]; exact hAGa.bel.size
              have hbsN : N ≤ bs := by rw [← hbs]; exact Nat.le_of_lt HAG9.out.px.lt
              have HNF3 : ¬ v < E0 + m := by
                have := HNF.out
                rw [HVV.out, HE0.out, HLL.out, HM.out] at this
                exact this
              have hFO := first_app wa B b bd bv N p3 bl bs E0 vp D z (tailB R l) oneB vr ve (.string (headR R)) (.bool false) 105 (by have := HN.out; omega) (by omega) (by omega) hTT hOO (by have := HNF3; omega) (HLOST.out (by simp)) (by have := HNF3; rw [hzz, HVV.out]; omega) hpl hcut hAGa.px hK3 hbb hkf hDka (HNF2.out _ (Nat.le_refl _)) (HNF2.out _ (by omega)) (HSEP.out _ (.inl rfl)) (HNF2.out _ hbsN)
              have HFO := Lib.hid hFO
              have HAGa := Lib.hid hAGa
              have HLga := Lib.hid hLga
              have HDka := Lib.hid hDka
              have HL0 := Lib.hid hl0
              have HSP : Hid (∀ A1 D', StepsP wa B b bd bv vp D' A1 → A1.cell? ⟨N, 0, none⟩ = some (.pointer (some ⟨bl, 0, none⟩)) ∧ A1.cell? ⟨bl, 0, none⟩ = some (.pointer (some ⟨b, 0, none⟩))) := (show ∀ A1 D', _ → _ from fun A1 D' hS => ⟨(steps_cell hS HAGa.out.px (HNF2.out _ (Nat.le_refl _))).cell 0, (steps_cell hS HLga.out.blk (HSEP.out _ (.inl rfl))).cell 0⟩)
              have HS0 : Hid (w9.drew.cell? ⟨N, 0, none⟩ = some (.pointer (some ⟨bl, 0, none⟩)) ∧ w9.drew.cell? ⟨bl, 0, none⟩ = some (.pointer (some ⟨b, 0, none⟩))) := ⟨p0, c0⟩
              have HS1 : Hid (wa.cell? ⟨N, 0, none⟩ = some (.pointer (some ⟨bl, 0, none⟩)) ∧ wa.cell? ⟨bl, 0, none⟩ = some (.pointer (some ⟨b, 0, none⟩))) := ⟨(hbA.cell (p := ⟨N, 0, none⟩) HAG9.out.px.lt).trans p0, (hbA.cell (p := ⟨bl, 0, none⟩) hblp).trans c0⟩
              clear hFO hAGa hLga hDka hl0 hbb hTT hOO hbA hkf hK3 hwn hzz HAG9 HK9 hblp
              refine wp_region_held_drew (S := fun W' => W'.cell? ⟨N, 0, none⟩ = some (.pointer (some ⟨bl, 0, none⟩)) ∧ W'.cell? ⟨bl, 0, none⟩ = some (.pointer (some ⟨b, 0, none⟩))) (by kernel_rfl) ?_ (fun hHeld => ?_)
              · exact HS0.out
              refine tk 0 (some 74) ?_
              refine tk 1 (some 75) ?_
              refine tk 2 (some 76) ?_
              refine tk 3 (some 77) ?_
              refine tk 4 (some 78) ?_
              refine tk 5 (some 79) ?_
              refine tk 6 (some 80) ?_
              refine tk 7 (some 81) ?_
              refine tk 8 (some 82) ?_
              refine tk 9 (some 83) ?_
              refine tk 10 (some 84) ?_
              refine tk 11 (some 85) ?_
              refine rd1 12 (some 86) (fun K hK => ?_)
              go_simp
              refine hK.out _ _ ?_ (fun hHeld2 => ?_)
              · first | exact HS1.out | (rw [hwa]; exact HS1.out)
              clear hK K hHeld
              rename _ => hHeld
              try simp only [Act.put, List.setIfInBounds_toArray, List.set_cons_zero, List.set_cons_succ]
              refine rd1 13 (some 87) (fun K hK => ?_)
              go_simp
              refine HFO.out.mono ?_
              rintro e A1 ⟨cc, D', rfl, hput, hS⟩
              have HPUT := Lib.hid hput
              have HST := Lib.hid hS
              clear hput hS
              go_simp
              refine hK.out _ _ ?_ (fun hHeld2 => ?_)
              · exact HSP.out _ _ HST.out
              clear hK K hHeld
              rename _ => hHeld
              try simp only [Act.put, List.setIfInBounds_toArray, List.set_cons_zero, List.set_cons_succ]
              refine tk 14 (some 14) ?_
              refine wpAnyH_done (by kernel_rfl) ?_ _
              clear hHeld
              have HAPP : Hid (appC ⟨D, R, false⟩ l = if cc = 0 then (0, ⟨D', R ++ l, false⟩) else (cc, ⟨D', R, true⟩)) := put2_app rfl rfl HE0.out.symm HNB.out HNF.out HL0.out HPUT.out
              obtain ⟨vp', g1, g2, g3⟩ := HST.out
              have hlg1 : LgAt A1 B2 bl b vr ve R false := HLga.out.fr g3 (fun j hj => HSEP.out j hj)
              have hpx1 : Blk A1 N 33 [.pointer (some ⟨bl, 0, none⟩)] := HAGa.out.px.kept (g3.block N HAGa.out.px.lt (HNF2.out _ (Nat.le_refl _)))
              have hgr1 : A1.ownsRow (N + 1) 103 9 (.slice oa' k cap') k (gcells R l) := ownsRow_keptF HAGa.out.gr (fun j e => g3.block j (own_lt HAGa.out.gr j e) (HNF2.out _ (by have := own_ge HAGa.out.gr j e; omega)))
              have hFw : Fr (Foot b bd bv vp) w A1 := (Fr.under _ (by rw [HN.out]; exact HAGa.out.bel)).trans g3 (fun i _ e => e)
              have hNa : N ≤ A1.heap.size := Nat.le_trans (by rw [← HN.out]; exact HAGa.out.bel.size) g3.size
              have G1 := Lib.hid g1
              have G2 : Hid (∀ j, vp'.ownBlock = some j → vp.ownBlock = some j ∨ N ≤ j) := (show ∀ j, _ → _ from fun j e => (g2 j e).imp_right (fun h => by have := HAGa.out.bel.size; rw [HN.out] at this; omega))
              have HSEP2 : Hid (∀ j, j < N → LFoot bl vr ve j → ¬ Foot b bd bv vp' j) := (show ∀ j, _ → _ → _ from fun j hj h1 h2 => (foot_new G2.out j h2).elim (HSEP.out j h1) (fun h => by omega))
              have HLT : Hid (∀ j, LFoot bl vr ve j → j < N) := (show ∀ j, _ → _ from fun j h1 => by
                have := HL.out.lt j h1
                rwa [HN.out] at this)
              have p1 := hpx1.cell 0
              have f5 := hlg1.blk.frozen 5
              have l5 := hlg1.blk.cell 5
              simp only [List.getElem?_cons_zero, List.getElem?_cons_succ] at p1 l5
              have HLG1 := Lib.hid hlg1
              have HPX1 := Lib.hid hpx1
              have HGR1 := Lib.hid hgr1
              have HFW := Lib.hid hFw
              clear g1 g2 g3 hlg1 hpx1 hgr1 hFw HFO HSP HS0 HS1 hwa HST HPUT HAGa HLga HDka p0 c0 hm1
              by_cases hc0 : cc = 0
              · subst hc0
                have HA2 : Hid (appC ⟨D, R, false⟩ l = (0, ⟨D', R ++ l, false⟩)) := (show _ = _ from by rw [HAPP.out, if_pos rfl])
                have HAL : Hid (Fr (LFoot bl vr ve) A1 A1) := Fr.refl _ _
                have HLG1' : Hid (LgAt A1 B2 bl b vr ve (R ++ l.take 0) false) := (show LgAt _ _ _ _ _ _ _ _ from by rw [List.take_zero, List.append_nil]; exact HLG1.out)
                have HSB0 : Hid (∀ i, LFoot bl vr ve i → LFoot bl vr ve i ∨ A1.heap.size ≤ i) := (show ∀ i, _ → _ from fun i h => .inl h)
                clear HAPP f5 p1 l5
                go_wp2_with fail
                go_loopw [96] (fun x wr => ∃ (j : Nat) (vr' ve' : Value), j ≤ k ∧ x = .int .i64 j ∧ Hid (LgAt wr B2 bl b vr' ve' (R ++ l.take j) false) ∧ Hid (∀ i, LFoot bl vr' ve' i → LFoot bl vr ve i ∨ A1.heap.size ≤ i) ∧ Hid (Fr (LFoot bl vr ve) A1 wr)) (fun x _ => k - (intOf x).toNat)
                case atStart => exact ⟨0, vr, ve, Nat.zero_le _, rfl, HLG1', HSB0, HAL⟩
                case round =>
                  clear HLG1' HSB0 HAL
                  obtain ⟨j, vr', ve', hj, rfl, HLJ, HSB, HFJ⟩ := hrel
                  by_cases hjk : j = k
                  · subst hjk
                    have q9 : ¬ (j : Int) < (j : Int) := by omega
                    go_wp2_with fail
                    go_ret
                    show AppP _ _ _ _ _ _ _ _ _ _ _ _ _ _
                    unfold AppP
                    rw [HA2.out]
                    have hlj := HLJ.out
                    rw [List.take_of_length_le (Nat.le_of_eq HLN.out)] at hlj
                    refine ⟨rfl, vp', vr', ve', G1.out.fr HFJ.out (fun i hi h => ?_), hlj, fun i hi => by rw [HN.out]; exact G2.out i hi, fun i hi => (HSB.out i hi).imp_right (fun h => by rw [HN.out]; omega), ?_, fun i hi h => ?_⟩
                    · exact HSEP2.out i (HLT.out i h) h hi
                    · exact (HFW.out.mono (fun i h => .inl h)).trans (HFJ.out.mono (fun i h => .inr h)) (fun i _ h => h)
                    · rcases HSB.out i hi with h1 | h1
                      · exact HSEP2.out i (HLT.out i h1) h1 h
                      · have := G1.out.lt i h
                        omega
                  · have q9 : (j : Int) < (k : Int) := by omega
                    have q8 : (0 : Int) ≤ (j : Int) := by omega
                    obtain ⟨r, hrj⟩ : ∃ r, l[j]? = some r := ⟨_, List.getElem?_eq_getElem (by rw [HLN.out]; omega)⟩
                    have hgr2 : wr.ownsRow (N + 1) 103 9 (.slice oa' k cap') k (gcells R l) := ownsRow_keptF HGR1.out (fun i e => HFJ.out.block i (own_lt HGR1.out i e) (fun h => by have := HLT.out i h; have := own_ge HGR1.out i e; omega))
                    obtain ⟨g, hg2, hglt, hcells⟩ := gcell hgr2 j r hrj
                    subst hg2
                    have hvr : validR r = true := (allV_iff' l).1 HV.out r (List.mem_of_getElem? hrj)
                    have hp2 : wr.cell? ⟨N, 0, none⟩ = some (.pointer (some ⟨bl, 0, none⟩)) := (HFJ.out.cell ⟨N, 0, none⟩ HPX1.out.lt (fun h => by have := HLT.out N h; omega)).trans (HPX1.out.cell 0)
                    have htk : R ++ l.take (j + 1) = R ++ l.take j ++ [r] := by
                      rw [List.append_assoc, List.take_succ_eq_append_getElem (by rw [HLN.out]; omega)]
                      rw [List.getElem?_eq_getElem (by rw [HLN.out]; omega)] at hrj
                      rw [Option.some.inj hrj]
                    obtain ⟨ec, hec⟩ : ∃ ec, encB r = ec := ⟨_, rfl⟩
                    obtain ⟨h2, hh2⟩ : ∃ h2, headR (R ++ l.take j ++ [r]) = h2 := ⟨_, rfl⟩
                    obtain ⟨e2, he2⟩ : ∃ e2, ((endN (R ++ l.take j ++ [r]) : Nat) : Int) = e2 := ⟨_, rfl⟩
                    have hst : stoA (R ++ l.take j) r = stA r ec h2 e2 := by unfold stoA; rw [hec, hh2, he2]
                    rw [hst] at hcells
                    have hNw : N ≤ wr.heap.size := Nat.le_trans hNa HFJ.out.size
                    have HTB : Hid (∀ W9, Below wr.heap.size wr W9 → Calls Tryz.prog 50 #[.pointer (some ⟨bl, 0, none⟩), .agg (stA r ec h2 e2)] W9 (AddP W9 B2 bl b vr' ve' (R ++ l.take j) false r)) := (show ∀ W9, _ → _ from fun W9 hb9 => by
                      have htab : TabAt W9 := by
                        refine TabAt.below ?_ hb9
                        intro i hi
                        refine Eq.trans ?_ (HT.out i hi)
                        have hcw : 0 < w.heap.size := by omega
                        have e1 := HFW.out.block 0 hcw (fun h => by have := HD.out.ge _ h; omega)
                        have e2 := HFJ.out.block 0 (by omega) (fun h => by have := HL.out.ge _ h; omega)
                        simp only [World.cell?, e1, e2]
                      have := add_any W9 B2 bl b vr' ve' (R ++ l.take j) false r hvr (by rw [List.length_append]; have : (l.take j).length ≤ j := List.length_take_le _ _; omega) (by have := hb9.size; rw [HN.out] at hB2; omega) htab hg (HLJ.out.below hb9)
                      rw [hec, hh2, he2] at this
                      exact this)
                    have HTK := Lib.hid htk
                    obtain ⟨a0, a1, a2, a3, a4, a5⟩ := r
                    have c0 := hcells 0 _ (by decide) rfl
                    have c1 := hcells 1 _ (by decide) rfl
                    have c2 := hcells 2 _ (by decide) rfl
                    have c3 := hcells 3 _ (by decide) rfl
                    have c4 := hcells 4 _ (by decide) rfl
                    have c5 := hcells 5 _ (by decide) rfl
                    have c6 := hcells 6 _ (by decide) rfl
                    have c7 := hcells 7 _ (by decide) rfl
                    have c8 := hcells 8 _ (by decide) rfl
                    dsimp only at c0 c1 c2 c3 c4 c5 c6 c7 c8
                    rw [Nat.add_zero] at c0
                    clear hcells hst he2 hh2 hec hrj htk hgr2 hvr hjk
                    go_upto_region 29 with (fail)
                    refine gen_world (fun W9 => Blk W9 wr.heap.size 103 [.int .i64 a0, .int .i64 a1, .int .i64 a2, .int .i64 a3, .int .i64 a4, .int .i64 a5, .string ec, .string h2, .int .i64 e2] ∧ Fr (fun k => k = wr.heap.size) wr W9) ⟨?_, ?_⟩ ?_
                    · repeat (first | (with_reducible exact Blk.new _ _ _) | (with_reducible refine Blk.drew ?_) | (with_reducible refine blk9 ?_ _ _ _ _ _ _ _ _ _))
                    · repeat (first | (with_reducible exact Fr.refl _ _) | (with_reducible refine Fr.drew ?_) | (with_reducible refine fr1 ?_ _ rfl) | (with_reducible refine Fr.alloc ?_ _))
                    · rintro W9 ⟨hb9, hf9⟩
                      have hbl9 : Below wr.heap.size wr W9 := hf9.below wr.heap.size (Nat.le_refl _) (fun i e => by omega)
                      have hADD := HTB.out W9 hbl9
                      dsimp only [stA] at hADD
                      have HADD := Lib.hid hADD
                      have x0 := hb9.cell 0
                      have x1 := hb9.cell 1
                      have x2 := hb9.cell 2
                      have x3 := hb9.cell 3
                      have x4 := hb9.cell 4
                      have x5 := hb9.cell 5
                      have x6 := hb9.cell 6
                      have x7 := hb9.cell 7
                      have x8 := hb9.cell 8
                      have p9 : W9.cell? ⟨N, 0, none⟩ = some (.pointer (some ⟨bl, 0, none⟩)) := (hbl9.cell (p := ⟨N, 0, none⟩) (by have := HPX1.out.lt; have := HFJ.out.size; show N < _; omega)).trans hp2
                      simp only [List.getElem?_cons_zero, List.getElem?_cons_succ] at x0 x1 x2 x3 x4 x5 x6 x7 x8
                      have HBL9 := Lib.hid hbl9
                      clear hADD hb9 hf9 hbl9 hp2 c0 c1 c2 c3 c4 c5 c6 c7 c8 HTB
                      go_wp2_with fail
                      refine HADD.out.mono ?_
                      rintro e w4 ⟨⟨v4, rfl⟩, vr2, ve2, hl2, hk2, hf2⟩
                      have HLK : Hid (LgAt w4 B2 bl b vr2 ve2 (R ++ l.take (j + 1)) false) := (show LgAt _ _ _ _ _ _ _ _ from by rw [HTK.out]; exact hl2)
                      have HSK : Hid (∀ i, LFoot bl vr2 ve2 i → LFoot bl vr ve i ∨ A1.heap.size ≤ i) := (show ∀ i, _ → _ from fun i h => (hk2 i h).elim (HSB.out i) (fun h => .inr (by have := HBL9.out.size; have := HFJ.out.size; omega)))
                      have HFK : Hid (Fr (LFoot bl vr ve) A1 w4) := (show Fr _ _ _ from (HFJ.out.trans (Fr.under (fun _ => False) HBL9.out) (fun _ _ e => e.elim)).trans hf2 (fun i hi e => (HSB.out i e).elim (fun h => h) (fun h => by omega)))
                      clear hl2 hk2 hf2 HADD x0 x1 x2 x3 x4 x5 x6 x7 x8 p9
                      go_wp2_with fail
                      go_roundw
                      case rel => exact ⟨j + 1, vr2, ve2, by omega, by go_num, HLK, HSK, HFK⟩
                      case measure => simp [intOf] <;> omega
              · have hcb : (cc != 0) = true := by rw [bne_iff_ne]; exact hc0
                have HA2 : Hid (appC ⟨D, R, false⟩ l = (cc, ⟨D', R, true⟩)) := (show _ = _ from by rw [HAPP.out, if_neg hc0])
                clear HAPP hc0
                go_wp2_with fail
                go_ret
                show AppP _ _ _ _ _ _ _ _ _ _ _ _ _ _
                unfold AppP
                rw [HA2.out]
                have hne : ∀ i, i ≠ bl → (A1.setCell ⟨bl, 5, none⟩ (.bool true)).heap[i]? = A1.heap[i]? := fun i hi => Below.heap_setCell _ _ _ _ hi
                refine ⟨rfl, vp', vr, ve, G1.out.kept (fun i hi => hne i (fun e => ?_)), HLG1.out.setbr true, fun i hi => by rw [HN.out]; exact G2.out i hi, fun i hi => .inl hi, ?_, fun i hi h => HSEP2.out i (HLT.out i hi) hi h⟩
                · subst e
                  exact HSEP2.out i hblN (.inl rfl) hi
                · exact (HFW.out.mono (fun i h => .inl h)).setCell ⟨bl, 5, none⟩ (.bool true) (.inl (.inr (.inl rfl)))
        · have q1 : (k : Int) < n := by omega
          have q2 : (0 : Int) ≤ (k : Int) := by omega
          have hkl : k < l.length := by rw [HLN.out]; omega
          obtain ⟨r, hrk⟩ : ∃ r, l[k]? = some r := ⟨_, List.getElem?_eq_getElem hkl⟩
          obtain ⟨gb, go, hoa, glt, ra⟩ := (HR.out.kept (W' := wr) (by rw [HN.out]; exact HAI.out.bel)).at k r hrk
          subst hoa
          have hvr : validR r = true := (allV_iff' l).1 HV.out r (List.mem_of_getElem? hrk)
          have HTK : Hid (l.take (k + 1) = l.take k ++ [r]) := (show l.take (k + 1) = l.take k ++ [r] from by
            rw [List.take_succ_eq_append_getElem hkl]
            rw [List.getElem?_eq_getElem hkl] at hrk
            rw [Option.some.inj hrk])
          have HVR := Lib.hid hvr
          obtain ⟨G, hG⟩ : ∃ G, wr.heap.size = G := ⟨_, rfl⟩
          have hGb : b1 < G := by rw [← hG]; exact HAI.out.n2
          have HGO : Hid (∀ j, (Value.slice oa' k cap').ownBlock = some j → j < G ∧ b1 < j) := (show ∀ j, _ → _ from fun j e => ⟨by rw [← hG]; exact own_lt HAI.out.gr j e, own_ge HAI.out.gr j e⟩)
          obtain ⟨a0, a1, a2, a3, a4, a5⟩ := r
          obtain ⟨c0, c1, c2, c3, c4, c5⟩ := ra
          dsimp only at c0 c1 c2 c3 c4 c5
          clear hvr hrk hkl hkn
          go_upto_region 11 with (fail)
          refine gen_world (fun W9 => Blk W9 wr.heap.size 62 [.int .i64 a0, .int .i64 a1, .int .i64 a2, .int .i64 a3, .int .i64 a4, .int .i64 a5] ∧ Fr (fun k => k = wr.heap.size) wr W9) ⟨?_, ?_⟩ ?_
          · repeat (first | (with_reducible exact Blk.new _ _ _) | (with_reducible refine Blk.drew ?_) | (with_reducible refine blk6 ?_ _ _ _ _ _ _))
          · repeat (first | (with_reducible exact Fr.refl _ _) | (with_reducible refine Fr.drew ?_) | (with_reducible refine fr1 ?_ _ rfl) | (with_reducible refine Fr.alloc ?_ _))
          · rintro W9 ⟨hb9, hf9⟩
            have hAI9 := HAI.out.below (hf9.below wr.heap.size (Nat.le_refl _) (fun j e => by omega))
            rw [hG] at hb9
            have x0 := hb9.cell 0
            have x1 := hb9.cell 1
            have x2 := hb9.cell 2
            have x3 := hb9.cell 3
            have x4 := hb9.cell 4
            have x5 := hb9.cell 5
            simp only [List.getElem?_cons_zero, List.getElem?_cons_succ] at x0 x1 x2 x3 x4 x5
            have HAI9 := Lib.hid hAI9
            have HRB9 := Lib.hid hb9
            clear c0 c1 c2 c3 c4 c5 hf9 hb9 HAI hAI9 hG glt
            go_wp2_with fail
            refine (encode_any ⟨a0, a1, a2, a3, a4, a5⟩ W9).mono ?_
            rintro e w4 ⟨rfl, hb4⟩
            obtain ⟨ec, hec⟩ : ∃ ec, encB ⟨a0, a1, a2, a3, a4, a5⟩ = ec := ⟨_, rfl⟩
            rw [hec]
            have hez : ec.size ≤ 54 := hec ▸ encB_size _
            have HEC := Lib.hid hec
            have HAI4 := Lib.hid (HAI9.out.below hb4)
            have HRB4 := Lib.hid (HRB9.out.kept (hb4.block _ HRB9.out.lt))
            have hhz : hd.size = 32 := by rw [← HH.out]; exact headF_size zero32 _ zero32_size
            clear hb4 HAI9 HRB9 x0 x1 x2 x3 x4 x5 hec
            go_wp2_with fail
            refine (chain_any hd ec w4 (by omega) (by omega) (HT.out.below (by rw [HN.out]; exact HAI4.out.bel))).mono ?_
            rintro e w5 ⟨rfl, hb5⟩
            obtain ⟨h2, hh2⟩ : ∃ h2, chainB hd ec = h2 := ⟨_, rfl⟩
            rw [hh2]
            have hz2 : h2.size = 32 := hh2 ▸ chainB_size _ _
            have HH2 : Hid (headR (R ++ l.take (k + 1)) = h2) := (show _ = _ from by rw [HTK.out, ← List.append_assoc, headR_snoc, HH.out, HEC.out, hh2])
            have HCH := Lib.hid hh2
            have HAI5 := Lib.hid (HAI4.out.below hb5)
            have HRB5 := Lib.hid (HRB4.out.kept (hb5.block _ HRB4.out.lt))
            clear hb5 HAI4 HRB4 hhz hh2
            go_wp2_with fail
            refine (putString_any ec w5 (by unfold maxLen; omega)).mono ?_
            rintro e w6 ⟨rfl, hb6⟩
            obtain ⟨tx, htx⟩ : ∃ tx, (⟨(putSL ec.data.toList).toArray⟩ : ByteArray) = tx := ⟨_, rfl⟩
            obtain ⟨te, hte⟩ : ∃ te, putSE ec.data.toList = te := ⟨_, rfl⟩
            rw [htx, hte]
            have htz : tx.size ≤ 63 := htx ▸ putSL_size ec hez
            have HTX := Lib.hid htx
            have HAI6 := Lib.hid (HAI5.out.below hb6)
            have HRB6 := Lib.hid (HRB5.out.kept (hb6.block _ HRB5.out.lt))
            clear hb6 HAI5 HRB5 htx hte
            go_wp2_with fail
            have HTAKE : Hid ((l.take k).length ≤ 1000) := (show _ ≤ _ from Nat.le_trans (List.length_take_le _ _) (by omega))
            obtain ⟨z, hz⟩ : ∃ z, ((⟨#[1]⟩ : ByteArray) ++ tx ++ h2) = z := ⟨_, rfl⟩
            rw [hz]
            have hzs : z.size = 1 + tx.size + h2.size := by rw [← hz, ByteArray.size_append, ByteArray.size_append]; rfl
            have hlen : (outL' R (l.take k)).length + z.size ≤ 140737488355328 := by
              have h1 := (outL'_bd R (l.take k)).1
              have h3 := HTAKE.out
              omega
            have HWS := Lib.hid (writeString_any b1 b1 (outL' R (l.take k)) z w6 HAI6.out.bd hlen (Nat.le_of_lt HAI6.out.n2))
            refine HWS.out.mono ?_
            rintro e w7 ⟨⟨v7, rfl⟩, hl7, hb7, hk7⟩
            have hsb : outL' R (l.take k) ++ z.data.toList = outL' R (l.take (k + 1)) := by
              rw [HTK.out, outL'_snoc, HH.out, ← stored_bytes hd _ HVR.out, HEC.out, HTX.out, HCH.out, hz]
            rw [hsb] at hl7
            clear hzs hlen HWS
            have HAI7 := Lib.hid (HAI6.out.write hl7 hb7 hk7)
            have HRB7 := Lib.hid (hk7 G _ _ (by decide) (by omega) HRB6.out)
            clear hl7 hb7 hk7 hsb HAI6 HRB6
            go_upto_region 15 with (fail)
            obtain ⟨m, hm⟩ : ∃ m, (outL' R (l.take (k + 1))).length = m := ⟨_, rfl⟩
            have hmb : m ≤ 100000 := by
              have h1 := (outL'_bd R (l.take (k + 1))).1
              have h3 : (l.take (k + 1)).length ≤ 1000 := Nat.le_trans (List.length_take_le' _ _) (by rw [HLN.out]; omega)
              omega
            obtain ⟨E0, hE0⟩ : ∃ E0, endN R = E0 := ⟨_, rfl⟩
            have hEb : E0 ≤ 10000000 := by
              have h1 : endN R ≤ 96 * R.length := (logL_bd zero32 R).1
              omega
            have hwr : IntKind.i64.wrap ((E0 : Int) + (m : Int)) = (E0 : Int) + (m : Int) := IntWalk.i64_in _ (by omega)
            have x0 := HRB7.out.cell 0
            have x1 := HRB7.out.cell 1
            have x2 := HRB7.out.cell 2
            have x3 := HRB7.out.cell 3
            have x4 := HRB7.out.cell 4
            have x5 := HRB7.out.cell 5
            have p0 := HAI7.out.px.cell 0
            have l4 : w7.cell? ⟨bl, 4, none⟩ = some (.int .i64 ((endN R : Nat) : Int)) := (HAI7.out.bel.cell (p := ⟨bl, 4, none⟩) hblN).trans (HL.out.blk.cell 4)
            rw [hE0] at l4
            simp only [List.getElem?_cons_zero, List.getElem?_cons_succ] at x0 x1 x2 x3 x4 x5 p0
            have HLEN : Hid (Calls Tryz.prog 44 #[.pointer (some ⟨b1, 0, none⟩)] w7.drew fun e w' => e = .returned (.int .i64 (m : Int)) ∧ w' = w7.drew) := by
              have := Tryz.Builder_Len b1 b1 (Lib.byteCells (outL' R (l.take (k + 1)))) w7.drew (HAI7.out.bd.below (Below.refl _ _).drew)
              rw [Lib.byteCells_length, hm] at this
              exact this
            have HAI8 := Lib.hid (HAI7.out.below (Below.refl _ _).drew)
            have HM := Lib.hid hm
            have HE0 := Lib.hid hE0
            have hGlt : G < w7.drew.heap.size := HRB7.out.lt
            have hNlt : N < w7.drew.heap.size := HAI7.out.px.lt
            have HSW : Hid (∀ W', Fr (fun j => j < G ∧ b1 < j) w7.drew W' → W'.cell? ⟨G, 0, none⟩ = some (.int .i64 a0) ∧ W'.cell? ⟨G, 1, none⟩ = some (.int .i64 a1) ∧ W'.cell? ⟨G, 2, none⟩ = some (.int .i64 a2) ∧ W'.cell? ⟨G, 3, none⟩ = some (.int .i64 a3) ∧ W'.cell? ⟨G, 4, none⟩ = some (.int .i64 a4) ∧ W'.cell? ⟨G, 5, none⟩ = some (.int .i64 a5) ∧ W'.cell? ⟨N, 0, none⟩ = some (.pointer (some ⟨bl, 0, none⟩)) ∧ W'.cell? ⟨bl, 4, none⟩ = some (.int .i64 (E0 : Int))) := (show ∀ W', _ → _ from by
              intro W' hf
              have hn1 := HAI7.out.n1
              have g : ∀ (u : Nat), (W'.cell? ⟨G, u, none⟩ = w7.cell? ⟨G, u, none⟩) := fun u => hf.cell ⟨G, u, none⟩ hGlt (by show ¬ (G < G ∧ _); omega)
              exact ⟨(g 0).trans x0, (g 1).trans x1, (g 2).trans x2, (g 3).trans x3, (g 4).trans x4, (g 5).trans x5, (hf.cell ⟨N, 0, none⟩ hNlt (by show ¬ (N < G ∧ b1 < N); omega)).trans p0, (hf.cell ⟨bl, 4, none⟩ (by show bl < _; omega) (by show ¬ (bl < G ∧ b1 < bl); omega)).trans l4⟩)
            clear hm hE0 x0 x1 x2 x3 x4 x5 p0 l4 hGlt hNlt
            go_region_held3 (fun W' => W'.cell? ⟨G, 0, none⟩ = some (.int .i64 a0) ∧ W'.cell? ⟨G, 1, none⟩ = some (.int .i64 a1) ∧ W'.cell? ⟨G, 2, none⟩ = some (.int .i64 a2) ∧ W'.cell? ⟨G, 3, none⟩ = some (.int .i64 a3) ∧ W'.cell? ⟨G, 4, none⟩ = some (.int .i64 a4) ∧ W'.cell? ⟨G, 5, none⟩ = some (.int .i64 a5) ∧ W'.cell? ⟨N, 0, none⟩ = some (.pointer (some ⟨bl, 0, none⟩)) ∧ W'.cell? ⟨bl, 4, none⟩ = some (.int .i64 (E0 : Int))) (first | (with_reducible exact HSW.out _ (Fr.refl _ _)) | (with_reducible exact HSW.out _ ((Fr.refl _ _).alloc _)) | exact HSW.out _ (HFR9.out.mono (fun j e => HGO.out j e))) (first
              | (with_reducible refine HLEN.out.mono ?_; rintro e w9 ⟨rfl, rfl⟩)
              | (refine step_sto ⟨a0, a1, a2, a3, a4, a5⟩ ec h2 ((E0 : Int) + (m : Int)) (by rfl) _ _ (by rfl) (by rfl) (by rfl) HAI8 (by omega) ?_; intro oa3 cap3 w9 HAI9 HFR9))
            all_goals
              clear HAI7 HAI8 HRB7 HSW HLEN HGO HFR9
              go_wp2_with fail
              go_roundw
              case rel =>
                refine ⟨k + 1, oa3, cap3, h2, by omega, by go_num, rfl, rfl, HH2, ?_⟩
                show ApI _ _ _ _ _ _ (gcells R (l.take (k + 1))) _ _ _
                have hend : ((endN (R ++ l.take (k + 1)) : Nat) : Int) = (E0 : Int) + (m : Int) := by
                  rw [endN_append, HE0.out, HM.out]
                  exact Int.natCast_add _ _
                have hgc : gcells R (l.take (k + 1)) = gcells R (l.take k) ++ (stA ⟨a0, a1, a2, a3, a4, a5⟩ ec h2 ((E0 : Int) + (m : Int))).toList := by
                  rw [HTK.out, gcells_snoc]
                  unfold stoA
                  rw [HEC.out, List.append_assoc, ← HTK.out, HH2.out, hend]
                rw [hgc]
                exact HAI9.out
              case measure => simp [intOf] <;> omega
    · have hv2 : (!allV l) = true := by simpa using hv
      have HV := Lib.hid hv
      clear hv
      rw [hv2]
      clear hv2
      go_wp2_with fail
      go_ret
      refine appP_same (by unfold appC; rw [if_pos (.inr (by simpa using HV.out))]) HD.out HL.out HSEP.out (by rw [HN.out]; exact HB3.out)
end Go.Proofs.YtfpcdlpfmlaakaaGreatDoor
