/- The reference's sender: Tick; a list of postings says what both senders hold. -/
import Derived.Deep.CutBlock
import Derived.Test.YtjkiidhnmljmbaaGreatDoorRsAB
import Derived.Test.YtjkiidhnmljmbaaGreatDoorGtD
set_option linter.unusedVariables false
set_option linter.unusedSimpArgs false
set_option maxRecDepth 100000
set_option maxHeartbeats 8000000
namespace Go.Proofs.YtjkiidhnmljmbaaGreatDoor
open Go.RowKit
attribute [local go_sem] Oper.semAt_some
def tOf (q : PG) : Int := if q.sent then q.at_ else -1
def pOf (q : PG) : GP := q.p
theorem upd_p (q : PG) (now : Int) : (q.upd now).p = q.p := by
 unfold PG.upd
 split <;> rfl
theorem updG_p (R : List PG) (f j : Nat) (now : Int) : (updG R f j now).map pOf = R.map pOf := by
 refine List.ext_getElem? fun i => ?_
 rw [List.getElem?_map, List.getElem?_map, updG_get]
 cases R[i]? with
 | none => rfl
 | some q =>
  simp only [Option.map_some, pOf]
  split
  ·rw [upd_p]
  ·rfl
theorem updG_t (R : List PG) (f j : Nat) (now : Int) (q : PG) (hf : f ≤ j) (hq : R[j]? = some q) (hd : q.due now = true) : (updG R f (j + 1) now).map tOf = ((updG R f j now).map tOf).set j now := by
 rw [updG_succ R f j now q hf hq, List.map_set]
 congr 1
 unfold PG.upd
 rw [hd]
 rfl
theorem sentG_sub (L : List PG) (f : Nat) (now : Int) : ∀ j q, q ∈ sentG L f now j → ∃ p ∈ L, p.p = q
 | 0, q, h => absurd h (by simp [sentG])
 | j + 1, q, h => by
  simp only [sentG] at h
  rcases List.mem_append.1 h with h | h
  ·exact sentG_sub L f now j q h
  ·revert h
   cases hp : L[j]? with
   | none => intro h; exact absurd h (by simp)
   | some p =>
    dsimp only
    split
    ·intro h
     rw [List.mem_singleton] at h
     exact ⟨p, List.mem_of_getElem? hp, h.symm⟩
    ·intro h
     exact absurd h (by simp)
def RTickG (W : World) (ba : Nat) (tn : Int) (vL vS : Value) (R : List PG) (k : Nat) (now : Int) (e : Ending) (w' : World) : Prop :=
 ∃ vl, e = .returned vl ∧ w'.ownsRow W.heap.size 32 31 vl (sentG R (firstW k R.length) now R.length).length (gmCells tn (sentG R (firstW k R.length) now R.length)) ∧ SaG w' ba tn vL vS (R.map pOf) k ((updG R (firstW k R.length) R.length now).map tOf) ∧ Fr (fun c => vS.ownBlock = some c) W w'

theorem refTick_no (W : World) (ba : Nat) (tn : Int) (vL vS : Value) (L : List GP) (k : Nat) (T : List Int) (now : Int) (h : SaG W ba tn vL vS L k T) (hL : L.length ≤ 900) (hno : L = [] ∨ now < 0) :
  Calls Tryz.prog 51 #[.pointer (some ⟨ba, 0, none⟩), .int .i64 now] W fun e w' => e = .returned (.slice none 0 0) ∧ Below W.heap.size W w' := by
 obtain ⟨n, hn⟩ : ∃ n, L.length = n := ⟨_, rfl⟩
 obtain ⟨oL, cL, rfl⟩ := own_slice h.ownL
 have c1 := h.blk.cell 1
 simp only [gz, gs] at c1
 rw [hn] at c1 hL
 by_cases h0 : n = 0
 ·have q0 : ((n : Int) == 0) = true := by simp [h0]
  clear h hno hn h0
  go_enter Tryz.func51, Tryz.ntmps51
  go_wp2_with fail
  go_ret
  exact ⟨rfl, by first | exact Below.refl _ _ | exact (Below.refl _ _).drew⟩
 ·have q0 : ((n : Int) == 0) = false := by rw [beq_eq_false_iff_ne]; omega
  have q1 : now < 0 := by
   rcases hno with e | e
   ·rw [e] at hn
    exact absurd hn.symm h0
   ·exact e
  clear h hno hn h0
  go_enter Tryz.func51, Tryz.ntmps51
  go_wp2_with fail
  go_ret
  exact ⟨rfl, by first | exact Below.refl _ _ | exact (Below.refl _ _).drew⟩
theorem refTick_any (W : World) (ba : Nat) (tn : Int) (vL vS : Value) (R : List PG) (k : Nat) (now : Int) (h : SaG W ba tn vL vS (R.map pOf) k (R.map tOf)) (hk : k ≤ R.length) (hR : R.length ≤ 900) (h0 : 0 < R.length) (n0 : 0 ≤ now) (n1 : now ≤ 1000000000) (hat : ∀ p ∈ R, 0 ≤ p.at_ ∧ p.at_ ≤ 1000000000) (hsq : ∀ (j : Nat) p, R[j]? = some p → p.p.o.s = (j : Int) + 1) :
  Calls Tryz.prog 51 #[.pointer (some ⟨ba, 0, none⟩), .int .i64 now] W (RTickG W ba tn vL vS R k now) := by
 obtain ⟨n, hn⟩ : ∃ n, R.length = n := ⟨_, rfl⟩
 have hml : (R.map pOf).length = n := by rw [List.length_map, hn]
 have hmt : (R.map tOf).length = n := by rw [List.length_map, hn]
 obtain ⟨oL, cL, rfl⟩ := own_slice h.ownL
 obtain ⟨oS, cS, rfl⟩ := own_slice h.ownS
 have HML := Lib.hid hml
 obtain ⟨p0, hp0⟩ : ∃ p, (R.map tOf)[0]? = some p := ⟨(R.map tOf)[0]'(by omega), List.getElem?_eq_getElem _⟩
 obtain ⟨gS, rfl, -, -, -⟩ := h.tAt p0 hp0
 obtain ⟨q0, hq0⟩ : ∃ p, (R.map pOf)[0]? = some p := ⟨(R.map pOf)[0]'(by omega), List.getElem?_eq_getElem _⟩
 obtain ⟨gL, goL, rfl, -, -⟩ := h.rd.at 0 q0 hq0
 clear hp0 hq0 p0 q0;rw [hml, hmt]
 have HTL : Hid (∀ j, ((updG R (firstW k R.length) j now).map tOf).length = n) := fun j => by rw [List.length_map, updG_len, hn]
 have c1 := h.blk.cell 1
 have c2 := h.blk.cell 2
 simp only [gz, gs] at c1 c2
 rw [hml] at c1
 have HSZ := szO
 have HAT := Lib.hid hat;have HSQ := Lib.hid hsq;have HNN := Lib.hid hn;rw [hn] at hk hR h0
 obtain ⟨f, hf⟩ : ∃ f, firstW k n = f := ⟨_, rfl⟩
 have hfN : f ≤ n := by rw [← hf]; unfold firstW; split <;> omega
 have HF := Lib.hid hf
 have HFF : Hid (firstW k R.length = f) := (by rw [hn]; exact hf : firstW k R.length = f)
 have hST : SaG W ba tn (.slice (some ⟨gL, goL, none⟩) n cL) (.slice (some ⟨gS, 0, none⟩) n cS) (R.map pOf) k ((updG R f f now).map tOf) := by
  rw [updG_first];rw [hml, hmt] at h;exact h
 have HST := Lib.hid hST
 have HO0 : Hid (W.ownsRow W.heap.size 32 31 (.slice none 0 0) (sentG R f now f).length (gmCells tn (sentG R f now f))) := (by rw [sentG_start R f now f (Nat.le_refl _)]; exact World.ownsRow_nil _ _ _ _ : W.ownsRow W.heap.size 32 31 (.slice none 0 0) (sentG R f now f).length (gmCells tn (sentG R f now f)))
 have HS0 : Hid ((sentG R f now f).length = 0) := (by rw [sentG_start R f now f (Nat.le_refl _)]; rfl : (sentG R f now f).length = 0)
 have HFW : Hid (Fr (fun c => c = gS) W W) := Fr.refl _ _
 have q0 : ((n : Int) == 0) = false := by rw [beq_eq_false_iff_ne]; omega
 have q1 : ¬ now < 0 := by omega
 clear h hml hmt hat hsq hn hST
 unfold RTickG
 rw [HFF.out, HNN.out]
 have HLT : Hid (∀ c, SaS ba (.slice (some ⟨gL, goL, none⟩) n cL) (.slice (some ⟨gS, 0, none⟩) n cS) c → c < W.heap.size) := fun c e => HST.out.lt c e
 have HAL : Hid (∀ q ∈ R.map pOf, q.al ≠ [] → ∀ a, q.o.ao = some a → a.block < W.heap.size) := fun q hq hn a e => (HST.out.alts q hq).rd.lt hn a e
 rcases (show k < n ∨ k = n from by omega) with hc | hc
 ·have hfk : f = k := by rw [← HF.out]; unfold firstW; rw [if_neg (by omega)]
  subst hfk
  have q4 : ((f : Int) == (n : Int)) = false := by rw [beq_eq_false_iff_ne]; omega
  go_enter Tryz.func51, Tryz.ntmps51
  go_wp2_with fail
  clear c1 c2
  go_loopw [5, 7, 8] (fun vo vi vt wr => ∃ (i ns co : Nat) (oo : Option Addr), f ≤ i ∧ i ≤ n ∧ vi = .int .i64 i ∧ vo = .slice oo ns co ∧ Hid ((sentG R f now i).length = ns) ∧ Hid (wr.ownsRow W.heap.size 32 31 (.slice oo ns co) ns (gmCells tn (sentG R f now i))) ∧ Hid (SaG wr ba tn (.slice (some ⟨gL, goL, none⟩) n cL) (.slice (some ⟨gS, 0, none⟩) n cS) (R.map pOf) f ((updG R f i now).map tOf)) ∧ Hid (Fr (fun c => c = gS) W wr)) (fun _ v _ _ => n - (intOf v).toNat)
  case atStart => exact ⟨f, 0, 0, none, Nat.le_refl _, hfN, by first | rfl | (rw [← HF.out]; unfold firstW; go_num), rfl, HS0, by rw [HS0.out] at HO0; exact HO0, HST, HFW⟩
  case round =>
   clear HO0 HST HFW HS0
   obtain ⟨i, ns, co, oo, hi1, hi2, rfl, rfl, HNS, HOW, HS, HFR⟩ := hrel
   have c1 := HS.out.blk.cell 1
   have c3 := HS.out.blk.cell 3
   simp only [gz, gs] at c1 c3
   by_cases h : i < n
   ·have q2 : (i : Int) < (n : Int) := by omega
    have q3 : (0 : Int) ≤ (i : Int) := by omega
    obtain ⟨q, hq⟩ : ∃ q, R[i]? = some q := ⟨R[i]'(by rw [HNN.out]; exact h), List.getElem?_eq_getElem _⟩
    have HQ := Lib.hid hq
    have hqm : (R.map pOf)[i]? = some q.p := by rw [List.getElem?_map, hq]; rfl
    have htm : ((updG R f i now).map tOf)[i]? = some (tOf q) := by rw [List.getElem?_map, updG_at, hq]; rfl
    obtain ⟨gS', e1, -, x1, z1⟩ := HS.out.tAt (tOf q) htm
    cases e1
    obtain ⟨b', o', e2, hbl, hrg⟩ := HS.out.rd.at i q.p hqm
    cases e2
    have HRG := Lib.hid hrg
    have ha := HAT.out q (List.mem_of_getElem? hq)
    have hsq := HSQ.out i q hq
    have HQS : Hid (q.p.o.s = (i : Int) + 1) := hsq
    have hgn : (sentG R f now i).length ≤ i := sentG_len R f now i
    have HZ : Hid (gL < wr.heap.size) := hbl
    have hns9 : ns ≤ 1000 := by have := HNS.out; omega
    obtain ⟨t, ht⟩ : ∃ t, tOf q = t := ⟨_, rfl⟩
    rw [ht] at x1
    have hnl : IntKind.i64.wrap (now - t) = now - t := IntWalk.i64_in _ (by rw [← ht]; unfold tOf; split <;> omega)
    have hni : IntKind.i64.wrap ((i : Int) + 1) = (i : Int) + 1 := IntWalk.i64_in _ (by omega)
    have HT := Lib.hid ht
    have hd0 : q.due now = (decide (t < 0) || decide (now < t) || decide (now - t ≥ 6)) := by
     rw [← ht]
     unfold PG.due dueB tOf
     cases q.sent with
     | false => simp
     | true =>
      have h1 : ¬ q.at_ < 0 := by omega
      simp [h1]
    have HD := Lib.hid hd0;clear hd0;clear hq hqm htm hrg ht ha hsq hbl
    go_upto_region 11 with (fail)
    go_cut [61] from 49 to 62 (fun v wx => v = .bool (decide (t < 0) || decide (now < t) || decide (now - t ≥ 6)) ∧ wx = wr)
    case first =>
     clear c1 c3 x1 z1
     by_cases d1 : t < 0
     ·go_wp2_with fail
      go_meet
      exact ⟨by rw [decide_eq_true d1]; rfl, rfl⟩
     ·by_cases d2 : now < t
      ·go_wp2_with fail
       go_meet
       exact ⟨by rw [decide_eq_false (show ¬ t < 0 by omega), decide_eq_true d2]; rfl, rfl⟩
      ·go_wp2_with fail
       go_meet
       exact ⟨by rw [decide_eq_false (show ¬ t < 0 by omega), decide_eq_false (show ¬ now < t by omega)]; rfl, rfl⟩
    case rest =>
     obtain ⟨rfl, hwc⟩ := hcut
     have hwd := hwc.symm
     clear hwc;subst hwd;rw [← HD.out]
     cases hd : q.due now with
     | false =>
      have e1 := Lib.hid (updG_skip R f i now q hi1 HQ.out hd)
      have e2 := Lib.hid (sentG_no R f i now q HQ.out hd)
      clear hd c1 c3 x1 z1
      go_wp2_with fail
      go_roundw
      case rel => exact ⟨i + 1, ns, co, oo, by omega, by omega, by go_num, rfl, by rw [e2.out]; exact HNS, by rw [e2.out]; exact HOW, by rw [e1.out]; exact HS, HFR⟩
      case measure => simp [intOf]; omega
     | true =>
      have e1 := Lib.hid (updG_t R f i now q hi1 HQ.out hd)
      have e2 := Lib.hid (sentG_yes R f i now q hi1 HQ.out hd)
      have c0 := HS.out.blk.cell 0
      simp only [List.getElem?_cons_zero] at c0
      clear hd
      go_upto_region 12 with (fail)
      have hb0 : Below wr.heap.size wr wr.drew := (Below.refl _ _).drew
      have HS9 := HS.out.below hb0
      have HKP : Hid (∀ y, Below wr.drew.heap.size wr.drew y → y.cell? ⟨ba, 0, none⟩ = some (.int .i64 tn) ∧ y.cell? ⟨ba, 1, none⟩ = some (.slice (some ⟨gL, goL, none⟩) n cL) ∧ y.rangeAt gL (goL + i * 26) q.p.o.l) := fun y hy => by
       have h1 := HS9.below hy
       refine ⟨h1.blk.cell 0, h1.blk.cell 1, ?_⟩
       obtain ⟨b', o', e2, hbl, hrg⟩ := h1.rd.at i q.p (by rw [List.getElem?_map, HQ.out]; rfl)
       cases e2
       exact hrg
      have hoZ := ownsRow_keptF HOW.out (fun c e => (hb0.block c (own_lt HOW.out c e)))
      have hbZ : W.heap.size ≤ wr.drew.heap.size := HFR.out.size
      have hNew : ∀ c, (Value.slice oo ns co).ownBlock = some c → ¬ SaS ba (.slice (some ⟨gL, goL, none⟩) n cL) (.slice (some ⟨gS, 0, none⟩) n cS) c := fun c e hs => by
       have h1 := own_ge HOW.out c e
       have h2 := HLT.out c hs
       omega
      have HSF : Hid (∀ y, Fr (fun c => (Value.slice oo ns co).ownBlock = some c) wr.drew y → SaG y ba tn (.slice (some ⟨gL, goL, none⟩) n cL) (.slice (some ⟨gS, 0, none⟩) n cS) (R.map pOf) f ((updG R f i now).map tOf)) := fun y hy => HS9.turn hy (fun c e => hNew c e) (fun q' hq' hn a e hs => by
       have h1 := own_ge HOW.out _ hs
       have h2 := HAL.out q' hq' hn a e
       omega)
      have HKF : Hid (∀ y, Fr (fun c => (Value.slice oo ns co).ownBlock = some c) wr.drew y → y.cell? ⟨ba, 0, none⟩ = some (.int .i64 tn) ∧ y.cell? ⟨ba, 1, none⟩ = some (.slice (some ⟨gL, goL, none⟩) n cL) ∧ y.rangeAt gL (goL + i * 26) q.p.o.l) := fun y hy => by
       have h1 := HSF.out y hy
       refine ⟨h1.blk.cell 0, h1.blk.cell 1, ?_⟩
       obtain ⟨b', o', e2, hbl, hrg⟩ := h1.rd.at i q.p (by rw [List.getElem?_map, HQ.out]; rfl)
       cases e2
       exact hrg
      have HFE : Hid (∀ y, Fr (fun c => (Value.slice oo ns co).ownBlock = some c) wr.drew y → Fr (fun c => c = gS) W (y.setCell ⟨gS, i, none⟩ (.int .i64 now))) := fun y hy => ((HFR.out.drew).trans hy (fun c hc e => by have := own_ge HOW.out c e; omega)).setCell ⟨gS, i, none⟩ _ (.inl rfl)
      have HEND : Hid (∀ (oa : Option Addr) (cap : Nat) (y : World), y.ownsRow W.heap.size 32 31 (.slice oa (ns + 1) cap) (ns + 1) (gmCells tn (sentG R f now i) ++ (lT tn ((i : Int) + 1) q.p.o)) → Hid ((y.setCell ⟨gS, i, none⟩ (.int .i64 now)).ownsRow W.heap.size 32 31 (.slice oa (ns + 1) cap) (ns + 1) (gmCells tn (sentG R f now (i + 1))))) := fun oa cap y hy => by
       have h1 : (y.setCell ⟨gS, i, none⟩ (.int .i64 now)).ownsRow W.heap.size 32 31 (.slice oa (ns + 1) cap) (ns + 1) (gmCells tn (sentG R f now (i + 1))) := by
        rw [e2.out, ← gmCells_snoc, HQS.out]
        exact ownsRow_keptF hy (fun c e => Below.heap_setCell _ _ _ _ (fun (e' : c = gS) => by
         have h1 := own_ge hy c e
         have h2 := HLT.out gS (.inr (.inr rfl))
         omega))
       exact h1
      refine wp_region_held_drew (S := fun W => W.cell? ⟨ba, 0, none⟩ = some (.int .i64 tn) ∧ W.cell? ⟨ba, 1, none⟩ = some (.slice (some ⟨gL, goL, none⟩) n cL) ∧ W.rangeAt gL (goL + i * 26) q.p.o.l) (by kernel_rfl) ?_ (fun hHeld => ?_)
      ·exact HKP.out _ (Below.refl _ _)
      clear hb0 HS9 hNew;generalize wr.drew = z at hoZ hbZ HKP HSF HKF HFE hHeld ⊢;have HOZ := Lib.hid hoZ;have HBZ := Lib.hid hbZ;clear hoZ hbZ;refine tk 0 (some 62) ?_;refine tk 1 (some 63) ?_;refine tk 2 (some 64) ?_;refine tk 3 (some 65) ?_;refine tk 4 (some 66) ?_;refine tk 5 (some 67) ?_
      refine tk 6 (some 68) ?_;refine tk 7 (some 69) ?_;refine tk 8 (some 70) ?_;refine tk 9 (some 71) ?_;refine tk 10 (some 72) ?_;refine tk 11 (some 73) ?_;refine tk 12 (some 74) ?_
      refine tkL 13 (some 75) 30 (.tmp 74) gL (goL + i * 26) q.p.o.l (fun _ h => h.2.2) Tryz.underlying30 HSZ.out ?_
      simp only [GOd.l, ClD.l, List.cons_append, List.nil_append]
      refine tk 14 (some 76) ?_
      refine rd1 15 (some 77) (fun K hK => ?_)
      go_simp
      have hbz := (Below.refl z.heap.size z).alloc (Nat.le_refl _) (.cells (aT tn ((i : Int) + 1) q.p.o) 32)
      have HKQ := HKP.out _ hbz
      clear hbz
      refine hK.out _ _ ?_ (fun hHeld2 => ?_)
      ·exact HKQ
      clear hK K hHeld;rename _ => hHeld
      try simp only [Act.put, sa, sz, ss]
      refine rd1 16 (some 78) (fun K hK => ?_)
      obtain ⟨oa, cap, w5, hrun, ho5, hf5, hk5⟩ := app_msg z W.heap.size (.slice oo ns co) ns (gmCells tn (sentG R f now i)) (lT tn ((i : Int) + 1) q.p.o) HOZ.out (by omega) HBZ.out 55 rfl (by simp [Value.oneCell'])
      refine step_run (by rfl) _ _ (by rfl) (by rfl) (by rfl) (fun _ => hrun) ?_
      have HK5 := HKF.out _ hf5
      have HO5 := Lib.hid ho5;have HF5 := Lib.hid hf5;have HG5 := Lib.hid hk5;clear hrun ho5 hf5 hk5 HKQ
      refine hK.out _ _ ?_ (fun hHeld2 => ?_)
      ·exact HK5
      clear hK K hHeld;rename _ => hHeld;refine tk 17 (some 5) ?_;refine wpAnyH_done (by kernel_rfl) ?_ _;clear hHeld
      have HS5 : Hid (SaG w5 ba tn (.slice (some ⟨gL, goL, none⟩) n cL) (.slice (some ⟨gS, 0, none⟩) n cS) (R.map pOf) f ((updG R f i now).map tOf)) := HSF.out _ HF5.out
      have d3 := HS5.out.blk.cell 3
      simp only [gz, gs] at d3
      obtain ⟨gS', e3, -, y1, y2⟩ := HS5.out.tAt (tOf q) (by rw [List.getElem?_map, updG_at, HQ.out]; rfl)
      cases e3
      go_wp2_with fail
      go_roundw
      case rel => exact ⟨i + 1, ns + 1, cap, oa, by omega, by omega, by go_num, rfl, by rw [e2.out, List.length_append, HNS.out]; rfl, HEND.out oa cap w5 HO5.out, by rw [e1.out]; exact HS5.out.setT i now, HFE.out _ HF5.out⟩
      case measure => simp [intOf]; omega
   ·have e : i = n := by omega
    subst e
    have q2 : ¬ (i : Int) < (i : Int) := by omega
    clear h
    go_wp2_with fail
    go_ret
    exact ⟨_, rfl, by rw [HNS.out]; exact HOW.out, HS.out, HFR.out.mono (fun c e => by rw [e]; rfl)⟩
 ·have hfk : f = n - 1 := by rw [← HF.out]; unfold firstW; rw [if_pos hc]
  subst hc
  have q4 : ((k : Int) == (k : Int)) = true := by simp
  have q5 : IntKind.i64.wrap ((k : Int) - 1) = (f : Int) := by rw [IntWalk.i64_in _ (by omega)]; omega
  clear hfk
  go_enter Tryz.func51, Tryz.ntmps51
  go_wp2_with fail
  clear c1 c2
  go_loopw [5, 7, 8] (fun vo vi vt wr => ∃ (i ns co : Nat) (oo : Option Addr), f ≤ i ∧ i ≤ k ∧ vi = .int .i64 i ∧ vo = .slice oo ns co ∧ Hid ((sentG R f now i).length = ns) ∧ Hid (wr.ownsRow W.heap.size 32 31 (.slice oo ns co) ns (gmCells tn (sentG R f now i))) ∧ Hid (SaG wr ba tn (.slice (some ⟨gL, goL, none⟩) k cL) (.slice (some ⟨gS, 0, none⟩) k cS) (R.map pOf) k ((updG R f i now).map tOf)) ∧ Hid (Fr (fun c => c = gS) W wr)) (fun _ v _ _ => k - (intOf v).toNat)
  case atStart => exact ⟨f, 0, 0, none, Nat.le_refl _, hfN, by first | rfl | (rw [← HF.out]; unfold firstW; go_num), rfl, HS0, by rw [HS0.out] at HO0; exact HO0, HST, HFW⟩
  case round =>
   clear HO0 HST HFW HS0
   obtain ⟨i, ns, co, oo, hi1, hi2, rfl, rfl, HNS, HOW, HS, HFR⟩ := hrel
   have c1 := HS.out.blk.cell 1
   have c3 := HS.out.blk.cell 3
   simp only [gz, gs] at c1 c3
   by_cases h : i < k
   ·have q2 : (i : Int) < (k : Int) := by omega
    have q3 : (0 : Int) ≤ (i : Int) := by omega
    obtain ⟨q, hq⟩ : ∃ q, R[i]? = some q := ⟨R[i]'(by rw [HNN.out]; exact h), List.getElem?_eq_getElem _⟩
    have HQ := Lib.hid hq
    have hqm : (R.map pOf)[i]? = some q.p := by rw [List.getElem?_map, hq]; rfl
    have htm : ((updG R f i now).map tOf)[i]? = some (tOf q) := by rw [List.getElem?_map, updG_at, hq]; rfl
    obtain ⟨gS', e1, -, x1, z1⟩ := HS.out.tAt (tOf q) htm
    cases e1
    obtain ⟨b', o', e2, hbl, hrg⟩ := HS.out.rd.at i q.p hqm
    cases e2
    have HRG := Lib.hid hrg
    have ha := HAT.out q (List.mem_of_getElem? hq)
    have hsq := HSQ.out i q hq
    have HQS : Hid (q.p.o.s = (i : Int) + 1) := hsq
    have hgn : (sentG R f now i).length ≤ i := sentG_len R f now i
    have HZ : Hid (gL < wr.heap.size) := hbl
    have hns9 : ns ≤ 1000 := by have := HNS.out; omega
    obtain ⟨t, ht⟩ : ∃ t, tOf q = t := ⟨_, rfl⟩
    rw [ht] at x1
    have hnl : IntKind.i64.wrap (now - t) = now - t := IntWalk.i64_in _ (by rw [← ht]; unfold tOf; split <;> omega)
    have hni : IntKind.i64.wrap ((i : Int) + 1) = (i : Int) + 1 := IntWalk.i64_in _ (by omega)
    have HT := Lib.hid ht
    have hd0 : q.due now = (decide (t < 0) || decide (now < t) || decide (now - t ≥ 6)) := by
     rw [← ht]
     unfold PG.due dueB tOf
     cases q.sent with
     | false => simp
     | true =>
      have h1 : ¬ q.at_ < 0 := by omega
      simp [h1]
    have HD := Lib.hid hd0;clear hd0;clear hq hqm htm hrg ht ha hsq hbl
    go_upto_region 11 with (fail)
    go_cut [61] from 49 to 62 (fun v wx => v = .bool (decide (t < 0) || decide (now < t) || decide (now - t ≥ 6)) ∧ wx = wr)
    case first =>
     clear c1 c3 x1 z1
     by_cases d1 : t < 0
     ·go_wp2_with fail
      go_meet
      exact ⟨by rw [decide_eq_true d1]; rfl, rfl⟩
     ·by_cases d2 : now < t
      ·go_wp2_with fail
       go_meet
       exact ⟨by rw [decide_eq_false (show ¬ t < 0 by omega), decide_eq_true d2]; rfl, rfl⟩
      ·go_wp2_with fail
       go_meet
       exact ⟨by rw [decide_eq_false (show ¬ t < 0 by omega), decide_eq_false (show ¬ now < t by omega)]; rfl, rfl⟩
    case rest =>
     obtain ⟨rfl, hwc⟩ := hcut
     have hwd := hwc.symm
     clear hwc;subst hwd;rw [← HD.out]
     cases hd : q.due now with
     | false =>
      have e1 := Lib.hid (updG_skip R f i now q hi1 HQ.out hd)
      have e2 := Lib.hid (sentG_no R f i now q HQ.out hd)
      clear hd c1 c3 x1 z1
      go_wp2_with fail
      go_roundw
      case rel => exact ⟨i + 1, ns, co, oo, by omega, by omega, by go_num, rfl, by rw [e2.out]; exact HNS, by rw [e2.out]; exact HOW, by rw [e1.out]; exact HS, HFR⟩
      case measure => simp [intOf]; omega
     | true =>
      have e1 := Lib.hid (updG_t R f i now q hi1 HQ.out hd)
      have e2 := Lib.hid (sentG_yes R f i now q hi1 HQ.out hd)
      have c0 := HS.out.blk.cell 0
      simp only [List.getElem?_cons_zero] at c0
      clear hd
      go_upto_region 12 with (fail)
      have hb0 : Below wr.heap.size wr wr.drew := (Below.refl _ _).drew
      have HS9 := HS.out.below hb0
      have HKP : Hid (∀ y, Below wr.drew.heap.size wr.drew y → y.cell? ⟨ba, 0, none⟩ = some (.int .i64 tn) ∧ y.cell? ⟨ba, 1, none⟩ = some (.slice (some ⟨gL, goL, none⟩) k cL) ∧ y.rangeAt gL (goL + i * 26) q.p.o.l) := fun y hy => by
       have h1 := HS9.below hy
       refine ⟨h1.blk.cell 0, h1.blk.cell 1, ?_⟩
       obtain ⟨b', o', e2, hbl, hrg⟩ := h1.rd.at i q.p (by rw [List.getElem?_map, HQ.out]; rfl)
       cases e2
       exact hrg
      have hoZ := ownsRow_keptF HOW.out (fun c e => (hb0.block c (own_lt HOW.out c e)))
      have hbZ : W.heap.size ≤ wr.drew.heap.size := HFR.out.size
      have hNew : ∀ c, (Value.slice oo ns co).ownBlock = some c → ¬ SaS ba (.slice (some ⟨gL, goL, none⟩) k cL) (.slice (some ⟨gS, 0, none⟩) k cS) c := fun c e hs => by
       have h1 := own_ge HOW.out c e
       have h2 := HLT.out c hs
       omega
      have HSF : Hid (∀ y, Fr (fun c => (Value.slice oo ns co).ownBlock = some c) wr.drew y → SaG y ba tn (.slice (some ⟨gL, goL, none⟩) k cL) (.slice (some ⟨gS, 0, none⟩) k cS) (R.map pOf) k ((updG R f i now).map tOf)) := fun y hy => HS9.turn hy (fun c e => hNew c e) (fun q' hq' hn a e hs => by
       have h1 := own_ge HOW.out _ hs
       have h2 := HAL.out q' hq' hn a e
       omega)
      have HKF : Hid (∀ y, Fr (fun c => (Value.slice oo ns co).ownBlock = some c) wr.drew y → y.cell? ⟨ba, 0, none⟩ = some (.int .i64 tn) ∧ y.cell? ⟨ba, 1, none⟩ = some (.slice (some ⟨gL, goL, none⟩) k cL) ∧ y.rangeAt gL (goL + i * 26) q.p.o.l) := fun y hy => by
       have h1 := HSF.out y hy
       refine ⟨h1.blk.cell 0, h1.blk.cell 1, ?_⟩
       obtain ⟨b', o', e2, hbl, hrg⟩ := h1.rd.at i q.p (by rw [List.getElem?_map, HQ.out]; rfl)
       cases e2
       exact hrg
      have HFE : Hid (∀ y, Fr (fun c => (Value.slice oo ns co).ownBlock = some c) wr.drew y → Fr (fun c => c = gS) W (y.setCell ⟨gS, i, none⟩ (.int .i64 now))) := fun y hy => ((HFR.out.drew).trans hy (fun c hc e => by have := own_ge HOW.out c e; omega)).setCell ⟨gS, i, none⟩ _ (.inl rfl)
      have HEND : Hid (∀ (oa : Option Addr) (cap : Nat) (y : World), y.ownsRow W.heap.size 32 31 (.slice oa (ns + 1) cap) (ns + 1) (gmCells tn (sentG R f now i) ++ (lT tn ((i : Int) + 1) q.p.o)) → Hid ((y.setCell ⟨gS, i, none⟩ (.int .i64 now)).ownsRow W.heap.size 32 31 (.slice oa (ns + 1) cap) (ns + 1) (gmCells tn (sentG R f now (i + 1))))) := fun oa cap y hy => by
       have h1 : (y.setCell ⟨gS, i, none⟩ (.int .i64 now)).ownsRow W.heap.size 32 31 (.slice oa (ns + 1) cap) (ns + 1) (gmCells tn (sentG R f now (i + 1))) := by
        rw [e2.out, ← gmCells_snoc, HQS.out]
        exact ownsRow_keptF hy (fun c e => Below.heap_setCell _ _ _ _ (fun (e' : c = gS) => by
         have h1 := own_ge hy c e
         have h2 := HLT.out gS (.inr (.inr rfl))
         omega))
       exact h1
      refine wp_region_held_drew (S := fun W => W.cell? ⟨ba, 0, none⟩ = some (.int .i64 tn) ∧ W.cell? ⟨ba, 1, none⟩ = some (.slice (some ⟨gL, goL, none⟩) k cL) ∧ W.rangeAt gL (goL + i * 26) q.p.o.l) (by kernel_rfl) ?_ (fun hHeld => ?_)
      ·exact HKP.out _ (Below.refl _ _)
      clear hb0 HS9 hNew;generalize wr.drew = z at hoZ hbZ HKP HSF HKF HFE hHeld ⊢;have HOZ := Lib.hid hoZ;have HBZ := Lib.hid hbZ;clear hoZ hbZ;refine tk 0 (some 62) ?_;refine tk 1 (some 63) ?_;refine tk 2 (some 64) ?_;refine tk 3 (some 65) ?_;refine tk 4 (some 66) ?_;refine tk 5 (some 67) ?_
      refine tk 6 (some 68) ?_;refine tk 7 (some 69) ?_;refine tk 8 (some 70) ?_;refine tk 9 (some 71) ?_;refine tk 10 (some 72) ?_;refine tk 11 (some 73) ?_;refine tk 12 (some 74) ?_
      refine tkL 13 (some 75) 30 (.tmp 74) gL (goL + i * 26) q.p.o.l (fun _ h => h.2.2) Tryz.underlying30 HSZ.out ?_
      simp only [GOd.l, ClD.l, List.cons_append, List.nil_append]
      refine tk 14 (some 76) ?_
      refine rd1 15 (some 77) (fun K hK => ?_)
      go_simp
      have hbz := (Below.refl z.heap.size z).alloc (Nat.le_refl _) (.cells (aT tn ((i : Int) + 1) q.p.o) 32)
      have HKQ := HKP.out _ hbz
      clear hbz
      refine hK.out _ _ ?_ (fun hHeld2 => ?_)
      ·exact HKQ
      clear hK K hHeld;rename _ => hHeld
      try simp only [Act.put, sa, sz, ss]
      refine rd1 16 (some 78) (fun K hK => ?_)
      obtain ⟨oa, cap, w5, hrun, ho5, hf5, hk5⟩ := app_msg z W.heap.size (.slice oo ns co) ns (gmCells tn (sentG R f now i)) (lT tn ((i : Int) + 1) q.p.o) HOZ.out (by omega) HBZ.out 55 rfl (by simp [Value.oneCell'])
      refine step_run (by rfl) _ _ (by rfl) (by rfl) (by rfl) (fun _ => hrun) ?_
      have HK5 := HKF.out _ hf5
      have HO5 := Lib.hid ho5;have HF5 := Lib.hid hf5;have HG5 := Lib.hid hk5;clear hrun ho5 hf5 hk5 HKQ
      refine hK.out _ _ ?_ (fun hHeld2 => ?_)
      ·exact HK5
      clear hK K hHeld;rename _ => hHeld;refine tk 17 (some 5) ?_;refine wpAnyH_done (by kernel_rfl) ?_ _;clear hHeld
      have HS5 : Hid (SaG w5 ba tn (.slice (some ⟨gL, goL, none⟩) k cL) (.slice (some ⟨gS, 0, none⟩) k cS) (R.map pOf) k ((updG R f i now).map tOf)) := HSF.out _ HF5.out
      have d3 := HS5.out.blk.cell 3
      simp only [gz, gs] at d3
      obtain ⟨gS', e3, -, y1, y2⟩ := HS5.out.tAt (tOf q) (by rw [List.getElem?_map, updG_at, HQ.out]; rfl)
      cases e3
      go_wp2_with fail
      go_roundw
      case rel => exact ⟨i + 1, ns + 1, cap, oa, by omega, by omega, by go_num, rfl, by rw [e2.out, List.length_append, HNS.out]; rfl, HEND.out oa cap w5 HO5.out, by rw [e1.out]; exact HS5.out.setT i now, HFE.out _ HF5.out⟩
      case measure => simp [intOf]; omega
   ·have e : i = k := by omega
    subst e
    have q2 : ¬ (i : Int) < (i : Int) := by omega
    clear h
    go_wp2_with fail
    go_ret
    exact ⟨_, rfl, by rw [HNS.out]; exact HOW.out, HS.out, HFR.out.mono (fun c e => by rw [e]; rfl)⟩
end Go.Proofs.YtjkiidhnmljmbaaGreatDoor
