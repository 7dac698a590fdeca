/-
  The walk of the law AsrunSurvives.
-/
import Derived.Deep.DeepCutAuto
import Derived.Test.YtfpcdlpfmlaakaaDoorAsRg
import Derived.Test.YtfpcdlpfmlaakaaDoorAsOpen
import Derived.Test.YtfpcdlpfmlaakaaDoorAsSurv
import Derived.Test.YtfpcdlpfmlaakaaDoorAsApp
import Derived.Test.YtfpcdlpfmlaakaaDoorAsLawR
set_option linter.unusedVariables false
set_option linter.unusedSimpArgs false
namespace Go.Proofs.YtfpcdlpfmlaakaaDoor
open Go.RowKit Onair
attribute [local go_sem ↓] Go.wp_at_zero Go.wp_at_succ
/-- A list in memory that lies outside of the blocks X. -/
def Ls (W : World) (X : Nat → Prop) (o : Option Addr) (l : List Rec) : Prop := RdR W o l ∧ (l = [] ∨ ∃ b off, o = some ⟨b, off, none⟩ ∧ ¬ X b)
theorem Ls.rd {W W' : World} {X S : Nat → Prop} {o : Option Addr} {l : List Rec} (h : Ls W X o l) (hf : Fr S W W') (hs : ∀ k, S k → X k) : RdR W' o l := by
  rcases h.2 with h0 | ⟨b, off, e, hb⟩
  · exact .inl h0
  · exact h.1.fr hf (fun b' o' e' hS => hb (by rw [e] at e'; cases e'; exact hs _ hS))
theorem Ls.step {W W' : World} {X X' S : Nat → Prop} {o : Option Addr} {l : List Rec} (h : Ls W X o l) (hf : Fr S W W') (hs : ∀ k, S k → X k) (hX : ∀ k, X' k → X k ∨ W.heap.size ≤ k) : Ls W' X' o l := by
  refine ⟨h.rd hf hs, ?_⟩
  rcases h.1 with h0 | ⟨b, off, e, hlt, _⟩
  · exact .inl h0
  · rcases h.2 with h0 | ⟨b', off', e', hb⟩
    · exact .inl h0
    · rw [e] at e'
      cases e'
      exact .inr ⟨b, off, e, fun hx => (hX b hx).elim hb (fun h => by omega)⟩
theorem Ls.below {W W' : World} {X : Nat → Prop} {o : Option Addr} {l : List Rec} (h : Ls W X o l) (hb : Below W.heap.size W W') : Ls W' X o l := h.step (Fr.under (fun _ => False) hb) (fun _ e => e.elim) (fun _ e => .inl e)
theorem own_ls {W : World} {B n c : Nat} {X : Nat → Prop} {o : Option Addr} {l : List Rec} (h : W.ownsRow B 34 6 (.slice o n c) l.length (rcells l)) (hX : ∀ k, X k → k < B) : Ls W X o l := by
  refine ⟨(own_rdr h).2.2.2, ?_⟩
  by_cases hl : l = []
  · exact .inl hl
  · obtain ⟨g, e, hB, _, _⟩ := own_at h hl
    exact .inr ⟨g, 0, e, fun hx => by have := hX g hx; omega⟩
theorem crash_x (W : World) (N b bl : Nat) (F G : Nat → Prop) (D : DS) (R : List Rec) (br : Bool) (oa : Option Addr) (len cap : Nat) (ks : Nat → Int) (torn : Int) (hlc : len ≤ maxLen) (hpo : PendOk D 2) (hks : ∀ i, -9223372036854775808 ≤ ks i ∧ ks i ≤ 9223372036854775807) (ht0 : -9223372036854775808 ≤ torn) (ht1 : torn ≤ 9223372036854775807) (hk : IntsAt W oa len ks F) (h : LX W N b bl F G ⟨D, R, br⟩) :
    Calls Tryd.prog 40 #[.pointer (some ⟨b, 0, none⟩), .slice oa len cap, .int .i64 torn] W fun e w' => e = .returned (.int .i64 0) ∧ DX w' N b F (crashD D ks len torn) ∧ Fr F W w' := by
  obtain ⟨bd, bv, vp, vr, ve, h1, h2, h3, h4⟩ := h.ex
  have hmx := h1.max
  dsimp only at h1 hmx
  refine (crash_walk W N b bd bv vp D oa len cap ks torn h.le hlc (by have := hpo.1; omega) hpo.2 hks ht0 ht1 (fun p hp => by have := hpo.2 p hp; unfold maxLen; omega) ?_ h1).mono ?_
  · rcases hk with h0 | ⟨g, off, e, hlt, hg, hc⟩
    · exact .inl h0
    · exact .inr ⟨g, off, e, hlt, fun hf => hg ((h3 g).2 hf), hc⟩
  · rintro e w' ⟨q1, vp', q2, q3, q4⟩
    refine ⟨q1, ⟨Nat.le_trans h.le q4.size, bd, bv, vp', q2, fun k => (h3 k).trans ?_⟩, q4.mono (fun k hk => (h3 k).2 hk)⟩
    unfold Foot
    rw [q3]
theorem cutD_pos (D : DS) (c : Nat) : cutD D (1 + (c : Int)) = { D with cut := 1 + c } := by
  unfold cutD
  rw [if_neg (by omega), if_neg (by omega)]
  congr 1
theorem bn_le2 {N : Nat} {w W : World} (hN : w.heap.size = N) (hb : Below N w W) : N ≤ W.heap.size := hN ▸ hb.size
/-- The loop's world: the log, the list that there was, the list that is wanted. -/
structure SvI (w : World) (N b bl z n k : Nat) (o1 o2 : Option Addr) (a1 a2 : Nat) (W : World) : Prop where
  ex : ∃ (s : LS) (WA WT : List Rec) (F G : Nat → Prop), LX W N b bl F G s ∧ Ls W (fun j => F j ∨ G j) o1 WA ∧ Ls W (fun j => F j ∨ G j) o2 WT ∧ WA.length = a1 ∧ WT.length = a2 ∧ ((k < n ∧ k < 8) → Cln s.D s.R ∧ s.br = false ∧ s.R.length ≤ 6 * k) ∧ (¬ (k < n ∧ k < 8) → EndsIn s.D WA WT ∧ PendOk s.D 2) ∧ s.D.vis.length = z
  a1 : a1 ≤ 6 * k
  a2 : a2 ≤ 6 * k
  bel : Below N w W
set_option maxHeartbeats 16000000 in
set_option maxRecDepth 100000 in
theorem walkSurvives (w : World) (m : Int) (oa : Option Addr) (c : Nat) (GS : List Gp) (cut : Int) (ok : Option Addr) (lk ck : Nat) (ks : Nat → Int) (torn : Int) (m0 : -9223372036854775808 ≤ m) (m1 : m ≤ 9223372036854775807) (hlc : GS.length ≤ c) (hcm : c ≤ maxLen) (hI : ∀ g ∈ GS, GpI g) (hr : RdG w oa GS) (cu0 : -9223372036854775808 ≤ cut) (cu1 : cut ≤ 9223372036854775807) (hlk : lk ≤ ck) (hck : ck ≤ maxLen) (hks : ∀ i, -9223372036854775808 ≤ ks i ∧ ks i ≤ 9223372036854775807) (hkr : lk = 0 ∨ ∃ b off, ok = some ⟨b, off, none⟩ ∧ b < w.heap.size ∧ ∀ i, i < lk → w.cell? ⟨b, off + i, none⟩ = some (.int .i64 (ks i))) (to0 : -9223372036854775808 ≤ torn) (to1 : torn ≤ 9223372036854775807) (ht : TabAt w) :
    Calls Tryd.prog 9 #[.int .i64 m, .slice oa GS.length c, .int .i64 cut, .slice ok lk ck, .int .i64 torn] w fun e w' => e = .returned (.bool true) ∧ Below w.heap.size w w' := by
  unfold maxLen at hcm hck
  obtain ⟨N, hN⟩ : ∃ N, w.heap.size = N := ⟨_, rfl⟩
  have hg := ht.lt
  rw [hN] at hg
  have HTB : Hid (∀ W, Below N w W → TabAt W) := fun W hW => ht.below (by rw [hN]; exact hW)
  have HG := Lib.hid hg
  have HSN := Lib.hid (sane_any w ht ht.lt)
  have HNN := Lib.hid hN
  have HR := Lib.hid hr
  have HI := Lib.hid hI
  have HKS := Lib.hid hks
  have HKR := Lib.hid hkr
  obtain ⟨n, hn⟩ : ∃ n, GS.length = n := ⟨_, rfl⟩
  have HGN := Lib.hid hn
  have HSZ := Lib.hid (fun W => lawSize_any m W m0 m1)
  have hsz := sizeN_eq m
  obtain ⟨z, hz⟩ : ∃ z, sizeN m = z := ⟨_, rfl⟩
  rw [hz] at HSZ hsz
  obtain ⟨hz0, hz1, hz2⟩ := hsz
  clear hz0
  have hpk := pickI_bd cut 3 (by decide)
  obtain ⟨p, hp⟩ : ∃ p : Nat, pickI cut 3 = (p : Int) := ⟨(pickI cut 3).toNat, by omega⟩
  have HPK := Lib.hid (fun W => pick_any cut 3 W cu0 cu1 (by decide) (by decide))
  rw [hp] at HPK hpk
  have hp3 : p ≤ 2 := by omega
  obtain ⟨mk, hmk⟩ : ∃ mk, min lk 20 = mk := ⟨_, rfl⟩
  have hmk1 : mk ≤ lk := by omega
  have hmk2 : min (lk : Int) 20 = (mk : Int) := by omega
  have hmk3 : (mk : Int) ≤ (ck : Int) := by omega
  have hmk4 : (0 : Int) ≤ (mk : Int) := by omega
  rw [hn] at hlc ⊢
  clear hr hI hn ht hg hN hz hks hkr hp hpk hmk
  go_enter Tryd.func9, Tryd.ntmps9
  go_wp2_with fail
  refine HSN.out.mono ?_
  rintro e w1 ⟨rfl, hb1⟩
  have HB1 : Hid (Below N w w1) := by rw [← HNN.out]; exact hb1
  clear hb1 HSN
  go_wp2_with fail
  refine (HSZ.out _).mono ?_
  rintro e w' ⟨rfl, rfl⟩
  go_wp2_with fail
  refine (new_x z w1 N (bn_le2 HNN.out HB1.out) hz1 (by omega)).mono ?_
  rintro e w2 ⟨b, F, rfl, hd, hb, hF⟩
  have HD := Lib.hid hd
  have HB2 : Hid (Below N w w2) := HB1.out.trans (hb.mono (bn_le2 HNN.out HB1.out))
  clear hd hb hF HB1
  go_wp2_with fail
  refine (open_x w2 N b F (newD z) (HTB.out _ HB2.out) (Nat.zero_le _) (Nat.zero_le _) HD.out (Cln.new z).openE).mono ?_
  rw [(Cln.new z).openD, (Cln.new z).openR]
  rintro e w3 ⟨bl, F1, G1, rfl, hlx, hfr, hG, hF1⟩
  have HB3 : Hid (Below N w w3) := HB2.out.trans (HD.out.below' hfr)
  have HX := Lib.hid hlx
  clear hlx hfr hG hF1 HD HB2
  go_wp2_with fail
  go_loopw [16, 17, 18] (fun va vt i wr => ∃ (k : Nat) (o1 o2 : Option Addr) (a1 a2 c1 c2 : Nat), k ≤ n ∧ k ≤ 8 ∧ va = .slice o1 a1 c1 ∧ vt = .slice o2 a2 c2 ∧ i = .int .i64 k ∧ Hid (SvI w N b bl z n k o1 o2 a1 a2 wr)) (fun _ _ i _ => n - (intOf i).toNat)
  case atStart => exact ⟨0, none, none, 0, 0, 0, 0, Nat.zero_le _, Nat.zero_le _, rfl, rfl, rfl, ⟨⟨⟨newD z, [], false⟩, [], [], F1, G1, HX.out, ⟨.inl rfl, .inl rfl⟩, ⟨.inl rfl, .inl rfl⟩, rfl, rfl, fun _ => ⟨Cln.new z, rfl, Nat.zero_le _⟩, fun _ => ⟨EndsIn.clean (Cln.new z), Nat.zero_le _, fun p hp => absurd hp (by simp [newD])⟩, zeroL_len z⟩, Nat.zero_le _, Nat.zero_le _, HB3.out⟩⟩
  case round =>
    obtain ⟨k, o1, o2, a1, a2, c1, c2, hkn, hk8, rfl, rfl, rfl, HI0⟩ := hrel
    clear HX HB3
    by_cases h : k < n ∧ k < 8
    · obtain ⟨⟨D, R, br⟩, WA, WT, F, G, hX0, _, _, _, _, hc1, _, hDz⟩ := HI0.out.ex
      obtain ⟨hC, hbr, hRk⟩ := hc1 h
      dsimp only at hC hbr hRk hDz
      subst hbr
      have HXr := Lib.hid hX0
      have HCr := Lib.hid hC
      have HDZ := Lib.hid hDz
      have HBr : Hid (Below N w wr) := HI0.out.bel
      obtain ⟨h1, h2⟩ := h
      have q1 : (k : Int) < (n : Int) := by omega
      have q2 : (k : Int) < 8 := by omega
      have q3 : (0 : Int) ≤ (k : Int) := by omega
      obtain ⟨g, hg⟩ : ∃ g, GS[k]? = some g := ⟨GS[k]'(by rw [HGN.out]; exact h1), List.getElem?_eq_getElem _⟩
      obtain ⟨b', off, rfl, hb', hcg⟩ := (HR.out).resolve_left (by intro e; rw [e] at hg; simp at hg)
      obtain ⟨c0, hrq⟩ := hcg k g hg
      have hgI := HI.out g (List.mem_of_getElem? hg)
      have hfew : ∀ W, Below N w W → Calls Tryd.prog 15 #[.slice g.oa g.l.length g.cap] W (CloP W.heap.size W (fewL g.l)) := fun W hW => few_any g.oa g.cap g.l W (Nat.le_trans hgI.le hgI.max) hgI.ok (hrq.below (by rw [HNN.out]; exact hW))
      have hkp : ∀ W, Below N w W → W.cell? ⟨b', off + k, none⟩ = some (.slice g.oa g.l.length g.cap) := fun W hW => (hW.cell (p := ⟨b', off + k, none⟩) (by rw [← HNN.out]; exact hb')).trans c0
      have hlen := fewL_len g.l
      have hval := fewL_valid g.l
      obtain ⟨ga, gl, gc, e1, e2, e3⟩ : ∃ ga gl gc, g.oa = ga ∧ g.l.length = gl ∧ g.cap = gc := ⟨_, _, _, rfl, rfl, rfl⟩
      obtain ⟨L, hL⟩ : ∃ L, fewL g.l = L := ⟨_, rfl⟩
      rw [e1, e2, e3] at hkp
      simp only [e1, e2, e3, hL] at hfew
      rw [hL] at hlen hval
      have HFW := Lib.hid hfew
      have HKP := Lib.hid hkp
      have HV := Lib.hid hval
      have HRK := Lib.hid hRk
      have HLN := Lib.hid hlen
      clear hg hcg hrq hgI hfew hkp e1 e2 e3 hL hval c0 hX0 hC hc1 hDz hRk hlen HI0
      go_wp2_with fail
      refine (records_x wr N b bl F G ⟨D, R, false⟩ (by show R.length ≤ _; have := HRK.out; omega) HXr.out).mono ?_
      rintro e w4 ⟨oR, cR, rfl, how, hb4⟩
      have HOR := Lib.hid how
      have HB4 : Hid (Below N w w4) := HBr.out.trans (hb4.mono HXr.out.le)
      have HBR4 : Hid (Below wr.heap.size wr w4) := hb4
      clear how hb4
      go_upto_region 12 with (fail)
      go_cut [17] from 49 to 57 (fun v wx => ∃ (oT : Option Addr) (cT : Nat), v = .slice oT (R ++ L).length cT ∧ Hid (wx.ownsRow w4.heap.size 34 6 (.slice oT (R ++ L).length cT) (R ++ L).length (rcells (R ++ L))) ∧ Hid (Below w4.heap.size w4 wx))
      case first =>
        have hrR : RdR w4 oR R := (own_rdr HOR.out).2.2.2
        have HRR : Hid (∀ W, Below w4.heap.size w4 W → RdR W oR R) := fun W hW => hrR.kept hW
        have HB04 : Hid (∀ W, Below w4.heap.size w4 W → Below N w W) := fun W hW => HB4.out.trans (hW.mono (bn_le2 HNN.out HB4.out))
        have HQ : Hid (Below w4.heap.size w4 w4.drew) := (Below.refl _ _).drew
        have HRL : Hid (R.length + L.length ≤ 1000000) := by have := HRK.out; have := HLN.out; show _ ≤ _; omega
        clear hrR HXr HBr HBR4 HOR
        refine wp_region_held_drew (S := fun W => W.cell? ⟨b', off + k, none⟩ = some (.slice ga gl gc)) (by kernel_rfl) (HKP.out _ (HB04.out _ HQ.out)) (fun hHeld => ?_)
        generalize w4.drew = z0 at HQ hHeld ⊢
        refine wpAnyH_take (i := 1) (oi := ⟨some 50, _, _, _, _, _⟩) (v := ?va1) rfl (by kernel_rfl) (by kernel_rfl) (by kernel_rfl) (fun _ _ _ h => h) (Or.inl ⟨by rfl, ?ya1⟩) (by assumption) ?ra1
        case ya1 => (intro w hSw; (try dsimp only at hSw); go_simp; (try (with_reducible rfl)))
        try simp only [Act.put, List.setIfInBounds_toArray, List.set_cons_zero, List.set_cons_succ]
        refine wpAnyH_take (i := 3) (oi := ⟨some 52, _, _, _, _, _⟩) (v := ?va3) rfl (by kernel_rfl) (by kernel_rfl) (by kernel_rfl) (fun _ _ _ h => h) (Or.inl ⟨by rfl, ?ya3⟩) (by assumption) ?ra3
        case ya3 => (intro w hSw; (try dsimp only at hSw); go_simp; (try (with_reducible rfl)))
        try simp only [Act.put, List.setIfInBounds_toArray, List.set_cons_zero, List.set_cons_succ]
        refine wpAnyH_take (i := 4) (oi := ⟨some 53, _, _, _, _, _⟩) (v := ?va4) rfl (by kernel_rfl) (by kernel_rfl) (by kernel_rfl) (fun _ _ _ h => h) (Or.inl ⟨by rfl, ?ya4⟩) (by assumption) ?ra4
        case ya4 => (intro w hSw; (try dsimp only at hSw); go_simp; (try (with_reducible rfl)))
        try simp only [Act.put, List.setIfInBounds_toArray, List.set_cons_zero, List.set_cons_succ]
        refine wpAnyH_take (i := 5) (oi := ⟨some 54, _, _, _, _, _⟩) (v := ?va5) rfl (by kernel_rfl) (by kernel_rfl) (by kernel_rfl) (fun _ _ _ h => h) (Or.inl ⟨by rfl, ?ya5⟩) (by assumption) ?ra5
        case ya5 => (intro w hSw; (try dsimp only at hSw); go_simp; (try (with_reducible rfl)))
        try simp only [Act.put, List.setIfInBounds_toArray, List.set_cons_zero, List.set_cons_succ]
        refine wpAnyH_take (i := 6) (oi := ⟨some 55, _, _, _, _, _⟩) (v := ?va6) rfl (by kernel_rfl) (by kernel_rfl) (by kernel_rfl) (fun _ _ _ h => h) (Or.inl ⟨by rfl, ?ya6⟩) (by assumption) ?ra6
        case ya6 => (intro w hSw; (try dsimp only at hSw); go_simp; (try (with_reducible rfl)))
        try simp only [Act.put, List.setIfInBounds_toArray, List.set_cons_zero, List.set_cons_succ]
        refine wpAnyH_ready (rs := [0]) (by kernel_rfl) (by simp) (AllReadyH.cons (o := ⟨some 49, _, _, _, _, _⟩) rfl (fun K hK => ?_) AllReadyH.nil)
        have hmade : (z0.alloc (.cells #[] 34)).ownsRow z0.heap.size 34 6 (.slice (some ⟨z0.heap.size, 0, none⟩) 0 0) 0 [] := World.ownsRow_made z0 #[] 0 (Nat.le_refl _) (Nat.zero_le _) (by simp)
        have hbA : Below z0.heap.size z0 (z0.alloc (.cells #[] 34)) := (Below.refl _ _).alloc (Nat.le_refl _) _
        have hzA : (z0.alloc (.cells #[] 34)).heap.size = z0.heap.size + 1 := World.size_alloc _ _
        go_simp
        have hszM := HQ.out.size
        have HQ := Lib.hid (HQ.out.trans (hbA.mono HQ.out.size))
        obtain ⟨z1, hy⟩ : ∃ y, z0.alloc (.cells #[] 34) = y := ⟨_, rfl⟩
        rw [hy] at HQ hmade hbA hzA ⊢
        obtain ⟨M0, hM0⟩ : ∃ M0, z0.heap.size = M0 := ⟨_, rfl⟩
        rw [hM0] at hmade hzA hszM ⊢
        have HMA := Lib.hid hmade
        have HZA := Lib.hid hzA
        have HM0 : Hid (w4.heap.size ≤ M0) := hszM
        clear hmade hbA hzA hy hM0 hszM
        refine hK.out _ _ ?_ (fun hHeld2 => ?_)
        · exact HKP.out _ (HB04.out _ HQ.out)
        clear hK K hHeld
        rename _ => hHeld
        try simp only [Act.put, List.setIfInBounds_toArray, List.set_cons_zero, List.set_cons_succ]
        refine wpAnyH_ready (rs := [2]) (by kernel_rfl) (by simp) (AllReadyH.cons (o := ⟨some 51, _, _, _, _, _⟩) rfl (fun K hK => ?_) AllReadyH.nil)
        obtain ⟨oA, cA, z2, hrun, hoA, hfA, hkA⟩ := app_recs z1 w4.heap.size (.slice (some ⟨M0, 0, none⟩) 0 0) [] R (own_base HMA.out HM0.out) oR R.length cR rfl (HRR.out _ HQ.out) (by have := HRL.out; simp; omega) HQ.out.size 24
        simp only [List.nil_append] at hrun hoA hkA
        refine step_run (by rfl) _ _ (by rfl) (by rfl) (by rfl) (fun _ => hrun) ?_
        have HQ := Lib.hid (HQ.out.trans (hfA.below w4.heap.size HQ.out.size (fun j e => by simp [Value.ownBlock] at e; have := HM0.out; omega)))
        have HOA := Lib.hid hoA
        clear hrun hoA hfA hkA
        refine hK.out _ _ ?_ (fun hHeld2 => ?_)
        · exact HKP.out _ (HB04.out _ HQ.out)
        clear hK K hHeld
        rename _ => hHeld
        try simp only [Act.put, List.setIfInBounds_toArray, List.set_cons_zero, List.set_cons_succ]
        refine wpAnyH_ready (rs := [7]) (by kernel_rfl) (by simp) (AllReadyH.cons (o := ⟨some 56, _, _, _, _, _⟩) rfl (fun K hK => ?_) AllReadyH.nil)
        go_simp
        refine (HFW.out _ (HB04.out _ HQ.out)).mono ?_
        rintro e z3 ⟨oF, cF, rfl, howF, hbF⟩
        have HQ := Lib.hid (HQ.out.trans (hbF.mono HQ.out.size))
        have HOA : Hid _ := ownsRow_keptF HOA.out (fun j e => hbF.block j (own_lt HOA.out j e))
        have HRF : Hid (RdR z3 oF L) := (own_rdr howF).2.2.2
        clear howF hbF
        go_simp
        refine hK.out _ _ ?_ (fun hHeld2 => ?_)
        · exact HKP.out _ (HB04.out _ HQ.out)
        clear hK K hHeld
        rename _ => hHeld
        try simp only [Act.put, List.setIfInBounds_toArray, List.set_cons_zero, List.set_cons_succ]
        refine wpAnyH_ready (rs := [8]) (by kernel_rfl) (by simp) (AllReadyH.cons (o := ⟨some 57, _, _, _, _, _⟩) rfl (fun K hK => ?_) AllReadyH.nil)
        obtain ⟨oT, cT, zT, hrun, hoT, hfT, hkT⟩ := app_recs z3 w4.heap.size (.slice oA R.length cA) R L HOA.out oF L.length cF rfl HRF.out HRL.out HQ.out.size 24
        refine step_run (by rfl) _ _ (by rfl) (by rfl) (by rfl) (fun _ => hrun) ?_
        have HQ := Lib.hid (HQ.out.trans (hfT.below w4.heap.size HQ.out.size (fun j e => own_ge HOA.out j e)))
        have HOT := Lib.hid hoT
        clear hrun hoT hfT hkT
        refine hK.out _ _ ?_ (fun hHeld2 => ?_)
        · exact HKP.out _ (HB04.out _ HQ.out)
        clear hK K hHeld
        rename _ => hHeld
        try simp only [Act.put, List.setIfInBounds_toArray, List.set_cons_zero, List.set_cons_succ]
        refine wpAnyH_take (i := 9) (oi := ⟨some 17, _, _, _, _, _⟩) (v := ?vb9) rfl (by kernel_rfl) (by kernel_rfl) (by kernel_rfl) (fun _ _ _ h => h) (Or.inl ⟨by rfl, ?yb9⟩) (by assumption) ?rb9
        case yb9 => (intro w hSw; (try dsimp only at hSw); go_simp; (try (with_reducible rfl)))
        try simp only [Act.put, List.setIfInBounds_toArray, List.set_cons_zero, List.set_cons_succ]
        refine wpAnyH_done (by kernel_rfl) ?_ _
        clear hHeld
        go_wp2_with fail
        go_meet
        exact ⟨oT, cT, by rw [List.length_append], HOT, HQ⟩
      case rest =>
        obtain ⟨oT, cT, rfl, HOT, HBT⟩ := hcut
        obtain ⟨wq, rfl⟩ : ∃ wq : World, wq = wc := ⟨_, rfl⟩
        have hb1 : Below w4.heap.size w4 wq := HBT.out
        have hbr : Below wr.heap.size wr wq := HBR4.out.trans (hb1.mono HBR4.out.size)
        have HXq := Lib.hid (HXr.out.below hbr)
        have HBq : Hid (Below N w wq) := HB4.out.trans (hb1.mono (bn_le2 HNN.out HB4.out))
        have hltF : ∀ j, F j → j < wr.heap.size := HXr.out.ltF
        have hltG : ∀ j, G j → j < wr.heap.size := HXr.out.ltG
        have HLR : Hid (Ls wq (fun j => F j ∨ G j) oR R) := (own_ls HOR.out (fun j e => e.elim (hltF j) (hltG j))).below hb1
        have HLT : Hid (Ls wq (fun j => F j ∨ G j) oT (R ++ L)) := own_ls HOT.out (fun j e => Nat.lt_of_lt_of_le (e.elim (hltF j) (hltG j)) HBR4.out.size)
        obtain ⟨rl, hrl⟩ : ∃ rl, R.length = rl := ⟨_, rfl⟩
        obtain ⟨tl, htl⟩ : ∃ tl, (R ++ L).length = tl := ⟨_, rfl⟩
        have hrl6 : rl ≤ 6 * k := by rw [← hrl]; exact HRK.out
        have htl6 : tl ≤ 6 * (k + 1) := by
          have := HLN.out
          rw [List.length_append] at htl
          omega
        rw [htl]
        simp only [hrl]
        have HRL := Lib.hid hrl
        have HTL := Lib.hid htl
        have HR6 := Lib.hid hrl6
        have HT6 := Lib.hid htl6
        clear hb1 hbr hltF hltG hrl htl hrl6 htl6 HBT HOT HOR HXr HBr HB4 HBR4 HRK
        by_cases hlast : (k : Int) = (n : Int) - 1 ∨ (k : Int) = 7
        · have hnx : ¬ (k + 1 < n ∧ k + 1 < 8) := by omega
          obtain ⟨ee, s2, hA⟩ : ∃ ee s2, appC ⟨{ D with cut := 1 + p }, R, false⟩ L = (ee, s2) := ⟨_, _, rfl⟩
          have hends := ends_last HCr.out L HV.out (1 + p) (by omega) (by omega) ee s2 hA
          have hpo : PendOk s2.D 2 := by
            have := PendOk.app (D := { D with cut := 1 + p }) (n := 0) ⟨by show D.pend.length ≤ 0; rw [HCr.out.pend]; exact Nat.le_refl _, fun q hq => absurd hq (by show ¬ q ∈ D.pend; rw [HCr.out.pend]; simp)⟩ R L false
            rw [hA] at this
            exact this
          have hsl : s2.D.vis.length = z := by
            have := app_len { D with cut := 1 + p } R L false
            rw [hA] at this
            exact this.trans HDZ.out
          have hcut := cut_x wq N b bl F G D R false (1 + (p : Int)) HXq.out
          rw [if_neg (by rw [HCr.out.lost]; simp), cutD_pos] at hcut
          have HCUT := Lib.hid hcut
          have HE := Lib.hid hends
          have HPO := Lib.hid hpo
          have HSL := Lib.hid hsl
          have HA := Lib.hid hA
          have HNX := Lib.hid hnx
          clear hends hpo hsl hcut hA hnx
          rcases (show (((k : Int) == (n : Int) - 1) = true) ∨ (((k : Int) == (n : Int) - 1) = false ∧ ((k : Int) == 7) = true) from by
            rw [beq_iff_eq, beq_eq_false_iff_ne, beq_iff_eq]
            omega) with hl1 | ⟨hl1, hl2⟩
          all_goals
            clear hlast
            go_wp2_with fail
            refine (HPK.out _).mono ?_
            rintro e w' ⟨rfl, rfl⟩
            go_wp2_with fail
            refine HCUT.out.mono ?_
            rintro e w5 ⟨rfl, hlx, hfr⟩
            have HX5 := Lib.hid hlx
            have HB5 : Hid (Below N w w5) := HBq.out.trans (HXq.out.disk.below' hfr)
            have HLR5 : Hid (Ls w5 (fun j => F j ∨ G j) oR R) := HLR.out.step hfr (fun j e => .inl e) (fun j e => .inl e)
            have HLT5 : Hid (Ls w5 (fun j => F j ∨ G j) oT (R ++ L)) := HLT.out.step hfr (fun j e => .inl e) (fun j e => .inl e)
            have c0 := HKP.out w5 HB5.out
            clear hlx hfr HCUT HXq HBq HLR HLT
            go_wp2_with fail
            refine (HFW.out w5 HB5.out).mono ?_
            rintro e w6 ⟨oF, cF, rfl, how, hb6⟩
            obtain ⟨hkk, hkc, hcm6, hrd⟩ := own_rdr how
            have HX6 := Lib.hid (HX5.out.below hb6)
            have HB6 : Hid (Below N w w6) := HB5.out.trans (hb6.mono (bn_le2 HNN.out HB5.out))
            have HLR6 := Lib.hid (HLR5.out.below hb6)
            have HLT6 := Lib.hid (HLT5.out.below hb6)
            have hap := append_x L oF L.length cF w6 N b bl F G { D with cut := 1 + p } R false rfl (by have := HLN.out; omega) hkc hcm6 (valid_I HV.out) (by have := HR6.out; rw [HRL.out]; omega) hrd (HTB.out _ HB6.out) HG.out (fun _ => HCr.out.lost) (by show D.pend.length ≤ _; rw [HCr.out.pend]; exact Nat.zero_le _) (by show 1 + p ≤ _; omega) HX6.out
            rw [HA.out] at hap
            have HAP := Lib.hid hap
            clear how hb6 hkk hkc hcm6 hrd hap HX5 HB5 HLR5 HLT5 c0
            go_wp2_with fail
            refine HAP.out.mono ?_
            rintro e w7 ⟨rfl, F7, G7, hlx, hfr, hF7, hG7⟩
            have HX7 := Lib.hid hlx
            have HB7 : Hid (Below N w w7) := HB6.out.trans (HX6.out.below' hfr)
            have hstep : ∀ j, F7 j ∨ G7 j → (F j ∨ G j) ∨ w6.heap.size ≤ j := fun j e => e.elim (fun e => (hF7 j e).imp_left .inl) (fun e => (hG7 j e).imp_left .inr)
            have HLR7 : Hid (Ls w7 (fun j => F7 j ∨ G7 j) oR R) := HLR6.out.step hfr (fun j e => e) hstep
            have HLT7 : Hid (Ls w7 (fun j => F7 j ∨ G7 j) oT (R ++ L)) := HLT6.out.step hfr (fun j e => e) hstep
            clear hlx hfr hF7 hG7 hstep HAP HX6 HB6 HLR6 HLT6
            rcases HE.out with ⟨e0, hE⟩ | ⟨e0, hE⟩ | ⟨e0, hE⟩
            · have HSV : Hid (SvI w N b bl z n (k + 1) oT oT tl tl w7) := ⟨⟨s2, R ++ L, R ++ L, F7, G7, HX7.out, HLT7.out, HLT7.out, HTL.out, HTL.out, fun h => absurd h HNX.out, fun _ => ⟨hE, HPO.out⟩, HSL.out⟩, HT6.out, HT6.out, HB7.out⟩
              subst e0
              clear hE HE HX7 HLT7 HLR7 HB7 HA
              go_wp2_with fail
              go_roundw
              case rel => exact ⟨k + 1, oT, oT, tl, tl, cT, cT, by omega, by omega, rfl, rfl, by go_num, HSV⟩
              case measure => simp [intOf]; omega
            · have HSV : Hid (SvI w N b bl z n (k + 1) oR oR rl rl w7) := ⟨⟨s2, R, R, F7, G7, HX7.out, HLR7.out, HLR7.out, HRL.out, HRL.out, fun h => absurd h HNX.out, fun _ => ⟨hE, HPO.out⟩, HSL.out⟩, Nat.le_trans HR6.out (by omega), Nat.le_trans HR6.out (by omega), HB7.out⟩
              subst e0
              clear hE HE HX7 HLT7 HLR7 HB7 HA
              go_wp2_with fail
              go_roundw
              case rel => exact ⟨k + 1, oR, oR, rl, rl, cR, cR, by omega, by omega, rfl, rfl, by go_num, HSV⟩
              case measure => simp [intOf]; omega
            · have HSV : Hid (SvI w N b bl z n (k + 1) oR oT rl tl w7) := ⟨⟨s2, R, R ++ L, F7, G7, HX7.out, HLR7.out, HLT7.out, HRL.out, HTL.out, fun h => absurd h HNX.out, fun _ => ⟨hE, HPO.out⟩, HSL.out⟩, Nat.le_trans HR6.out (by omega), HT6.out, HB7.out⟩
              subst e0
              clear hE HE HX7 HLT7 HLR7 HB7 HA
              go_wp2_with fail
              go_roundw
              case rel => exact ⟨k + 1, oR, oT, rl, tl, cR, cT, by omega, by omega, rfl, rfl, by go_num, HSV⟩
              case measure => simp [intOf]; omega
        · have hnx : k + 1 < n ∧ k + 1 < 8 := by omega
          have hl1 : ((k : Int) == (n : Int) - 1) = false := by rw [beq_eq_false_iff_ne]; omega
          have hl2 : ((k : Int) == 7) = false := by rw [beq_eq_false_iff_ne]; omega
          have HNX := Lib.hid hnx
          have c0 := HKP.out wq HBq.out
          have happ := HCr.out.app L
          have HAPP := Lib.hid happ
          clear hlast hnx happ
          go_wp2_with fail
          refine (HFW.out wq HBq.out).mono ?_
          rintro e w6 ⟨oF, cF, rfl, how, hb6⟩
          obtain ⟨hkk, hkc, hcm6, hrd⟩ := own_rdr how
          have HX6 := Lib.hid (HXq.out.below hb6)
          have HB6 : Hid (Below N w w6) := HBq.out.trans (hb6.mono (bn_le2 HNN.out HBq.out))
          have HLR6 := Lib.hid (HLR.out.below hb6)
          have HLT6 := Lib.hid (HLT.out.below hb6)
          have hap := append_x L oF L.length cF w6 N b bl F G D R false rfl (by have := HLN.out; omega) hkc hcm6 (valid_I HV.out) (by have := HR6.out; rw [HRL.out]; omega) hrd (HTB.out _ HB6.out) HG.out (fun _ => HCr.out.lost) (by rw [HCr.out.pend]; exact Nat.zero_le _) (by rw [HCr.out.cut]; exact Nat.zero_le _) HX6.out
          have HAP := Lib.hid hap
          clear how hb6 hkk hkc hcm6 hrd hap HXq HBq HLR HLT c0
          go_wp2_with fail
          rcases HAPP.out with ⟨hv, _⟩ | ⟨_, _, hA⟩ | ⟨_, _, D2, hA, hC2, hD2⟩
          · exact absurd ((allV_iff L).2 HV.out) (by rw [hv]; simp)
          · have hap := HAP.out
            rw [hA] at hap
            refine hap.mono ?_
            clear hap hA HAPP HAP
            rintro e w7 ⟨rfl, F7, G7, hlx, hfr, hF7, hG7⟩
            have hstep : ∀ j, F7 j ∨ G7 j → (F j ∨ G j) ∨ w6.heap.size ≤ j := fun j e => e.elim (fun e => (hF7 j e).imp_left .inl) (fun e => (hG7 j e).imp_left .inr)
            have hLR7 : Ls w7 (fun j => F7 j ∨ G7 j) oR R := HLR6.out.step hfr (fun j e => e) hstep
            have HSV : Hid (SvI w N b bl z n (k + 1) oR oR rl rl w7) := ⟨⟨⟨D, R, false⟩, R, R, F7, G7, hlx, hLR7, hLR7, HRL.out, HRL.out, fun _ => ⟨HCr.out, rfl, by show R.length ≤ _; rw [HRL.out]; have := HR6.out; omega⟩, fun h => absurd HNX.out h, HDZ.out⟩, Nat.le_trans HR6.out (by omega), Nat.le_trans HR6.out (by omega), HB6.out.trans (HX6.out.below' hfr)⟩
            clear hlx hfr hF7 hG7 hstep hLR7 HX6 HB6 HLR6 HLT6
            go_wp2_with fail
            go_roundw
            case rel => exact ⟨k + 1, oR, oR, rl, rl, cR, cR, by omega, by omega, rfl, rfl, by go_num, HSV⟩
            case measure => simp [intOf]; omega
          · have hap := HAP.out
            rw [hA] at hap
            refine hap.mono ?_
            clear hap hA HAPP HAP
            rintro e w7 ⟨rfl, F7, G7, hlx, hfr, hF7, hG7⟩
            have hstep : ∀ j, F7 j ∨ G7 j → (F j ∨ G j) ∨ w6.heap.size ≤ j := fun j e => e.elim (fun e => (hF7 j e).imp_left .inl) (fun e => (hG7 j e).imp_left .inr)
            have hLT7 : Ls w7 (fun j => F7 j ∨ G7 j) oT (R ++ L) := HLT6.out.step hfr (fun j e => e) hstep
            have HSV : Hid (SvI w N b bl z n (k + 1) oT oT tl tl w7) := ⟨⟨⟨D2, R ++ L, false⟩, R ++ L, R ++ L, F7, G7, hlx, hLT7, hLT7, HTL.out, HTL.out, fun _ => ⟨hC2, rfl, by show (R ++ L).length ≤ _; rw [HTL.out]; exact HT6.out⟩, fun h => absurd HNX.out h, hD2.trans HDZ.out⟩, HT6.out, HT6.out, HB6.out.trans (HX6.out.below' hfr)⟩
            clear hlx hfr hF7 hG7 hstep hLT7 HX6 HB6 HLR6 HLT6 hC2 hD2
            go_wp2_with fail
            go_roundw
            case rel => exact ⟨k + 1, oT, oT, tl, tl, cT, cT, by omega, by omega, rfl, rfl, by go_num, HSV⟩
            case measure => simp [intOf]; omega
    · have HH := Lib.hid h
      rcases (show (¬ (k : Int) < (n : Int)) ∨ ((k : Int) < (n : Int) ∧ ¬ (k : Int) < 8) from by omega) with h1 | ⟨h1, h2⟩
      all_goals
        clear h
        obtain ⟨⟨D, R, br⟩, WA, WT, F, G, hX0, hLA, hLT, hla, hlt, _, hc2, hDz⟩ := HI0.out.ex
        obtain ⟨hE, hpo⟩ := hc2 HH.out
        dsimp only at hE hpo
        have HXr := Lib.hid hX0
        have HLA := Lib.hid hLA
        have HLT := Lib.hid hLT
        have HBr : Hid (Below N w wr) := HI0.out.bel
        have HA6 := Lib.hid HI0.out.a1
        have HT6 := Lib.hid HI0.out.a2
        have HEE := Lib.hid hE
        have HLAE := Lib.hid hla
        have HLTE := Lib.hid hlt
        have hints : IntsAt wr ok mk ks F := by
          rcases HKR.out with h0 | ⟨g, off, e, hlt', hc⟩
          · exact .inl (by omega)
          · rw [HNN.out] at hlt'
            exact .inr ⟨g, off, e, by have := bn_le2 HNN.out HBr.out; omega, fun hf => by have := HXr.out.geF g hf; omega, fun i hi => (HBr.out.cell (p := ⟨g, off + i, none⟩) hlt').trans (hc i (by omega))⟩
        have hcr := crash_x wr N b bl F G D R br ok mk ck ks torn (by unfold maxLen; omega) hpo HKS.out to0 to1 hints HXr.out
        have HCR := Lib.hid hcr
        clear hX0 hLA hLT hla hlt hc2 hDz hE hpo hints hcr HI0
        go_wp2_with fail
        refine HCR.out.mono ?_
        rintro e w5 ⟨rfl, hdx, hfr⟩
        have HD5 := Lib.hid hdx
        have HB5 : Hid (Below N w w5) := HBr.out.trans (HXr.out.disk.below' hfr)
        have HLA5 : Hid (Ls w5 (fun j => F j ∨ G j) o1 WA) := HLA.out.step hfr (fun j e => .inl e) (fun j e => .inl e)
        have HLT5 : Hid (Ls w5 (fun j => F j ∨ G j) o2 WT) := HLT.out.step hfr (fun j e => .inl e) (fun j e => .inl e)
        obtain ⟨hE0, hER⟩ := HEE.out ks mk torn
        have hop := open_x w5 N b F (crashD D ks mk torn) (HTB.out _ HB5.out) (Nat.zero_le _) (Nat.zero_le _) HD5.out hE0
        obtain ⟨R5, hR5⟩ : ∃ R5, openR (crashD D ks mk torn) = R5 := ⟨_, rfl⟩
        rw [hR5] at hop hER
        obtain ⟨D6, hD6⟩ : ∃ D6, openD (crashD D ks mk torn) = D6 := ⟨_, rfl⟩
        rw [hD6] at hop
        have HOP := Lib.hid hop
        have HER := Lib.hid hER
        clear hdx hfr hE0 hER hop hR5 hD6 HXr HBr HLA HLT HCR HEE
        have hR5l : R5.length ≤ 900000 := by
          have h1 := HA6.out
          have h2 := HT6.out
          rcases HER.out with e | e
          · rw [e, HLAE.out]; omega
          · rw [e, HLTE.out]; omega
        have HR5L := Lib.hid hR5l
        clear hR5l
        go_wp2_with fail
        refine HOP.out.mono ?_
        rintro e w6 ⟨bm, F6, G6, rfl, hly, hfr, _, _⟩
        have HY6 := Lib.hid hly
        have HB6 : Hid (Below N w w6) := HB5.out.trans (HD5.out.below' hfr)
        have HRA6 : Hid (RdR w6 o1 WA) := HLA5.out.rd hfr (fun j e => .inl e)
        have HRT6 : Hid (RdR w6 o2 WT) := HLT5.out.rd hfr (fun j e => .inl e)
        clear hly hfr HLA5 HLT5 HD5 HB5 HOP
        have hrc := records_x w6 N b bm F6 G6 _ (by show R5.length ≤ _; exact HR5L.out) HY6.out
        obtain ⟨l5, hl5⟩ : ∃ l5, R5.length = l5 := ⟨_, rfl⟩
        have HL5 := Lib.hid hl5
        have HRC := Lib.hid hrc
        clear hrc hl5
        go_wp2_with fail
        refine HRC.out.mono ?_
        rintro e w7 ⟨o7, c7, rfl, how, hb7⟩
        dsimp only
        rw [HL5.out]
        have hs1 := same25_any R5 WA o7 o1 l5 a1 c7 c1 w7 HL5.out HLAE.out (by rw [← HL5.out]; have := HR5L.out; unfold maxLen; omega) (by have := HA6.out; unfold maxLen; omega) (own_rdr how).2.2.2 (HRA6.out.kept hb7)
        have HS1 := Lib.hid hs1
        have HY7 := Lib.hid (HY6.out.below hb7)
        have HB7 : Hid (Below N w w7) := HB6.out.trans (hb7.mono (bn_le2 HNN.out HB6.out))
        have HRT7 : Hid (RdR w7 o2 WT) := HRT6.out.kept hb7
        clear how hb7 hs1 HY6 HB6 HRA6 HRT6 HRC
        go_wp2_with fail
        refine HS1.out.mono ?_
        rintro e w8 ⟨⟨t1, rfl, ht1⟩, hb8⟩
        have HT1 := Lib.hid ht1
        have HY8 := Lib.hid (HY7.out.below hb8)
        have HB8 : Hid (Below N w w8) := HB7.out.trans (hb8.mono (bn_le2 HNN.out HB7.out))
        have HRT8 : Hid (RdR w8 o2 WT) := HRT7.out.kept hb8
        clear hb8 ht1 HY7 HB7 HRT7 HS1
        cases t1 with
        | true =>
          go_wp2_with fail
          go_ret
          exact ⟨rfl, by rw [HNN.out]; exact HB8.out⟩
        | false =>
          have hne : ¬ R5 = WA := fun e => by have := HT1.out.2 e; cases this
          have hwt : R5 = WT := HER.out.resolve_left hne
          have hrc := records_x w8 N b bm F6 G6 _ (by show R5.length ≤ _; exact HR5L.out) HY8.out
          have HRC := Lib.hid hrc
          have HWT := Lib.hid hwt
          clear hne hwt hrc
          go_wp2_with fail
          refine HRC.out.mono ?_
          rintro e w9 ⟨o9, c9, rfl, how, hb9⟩
          dsimp only
          rw [HL5.out]
          have hla2 : l5 = a2 := by rw [← HL5.out, HWT.out]; exact HLTE.out
          have hs2 := same25_eq WT o9 o2 a2 c9 c2 w9 HLTE.out (by have := HT6.out; unfold maxLen; omega) (by rw [← HWT.out]; exact (own_rdr how).2.2.2) (HRT8.out.kept hb9)
          have HS2 := Lib.hid hs2
          have HB9 : Hid (Below N w w9) := HB8.out.trans (hb9.mono (bn_le2 HNN.out HB8.out))
          rw [hla2]
          clear how hb9 hs2 hla2 HY8 HB8 HRT8 HRC
          go_wp2_with fail
          refine HS2.out.mono ?_
          rintro e wz ⟨rfl, hbz⟩
          have HBz : Hid (Below N w wz) := HB9.out.trans (hbz.mono (bn_le2 HNN.out HB9.out))
          clear hbz HS2
          go_wp2_with fail
          go_ret
          exact ⟨rfl, by rw [HNN.out]; exact HBz.out⟩
end Go.Proofs.YtfpcdlpfmlaakaaDoor
