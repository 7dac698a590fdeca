/-
  The walk of the law AsrunExtendMatchesReference.
-/
import Derived.Deep.CutRange
import Derived.Test.YtfpcdlpfmlaakaaDoorAsRx
import Derived.Test.YtfpcdlpfmlaakaaDoorAsVa
import Derived.Test.YtfpcdlpfmlaakaaDoorAsRf
import Derived.Test.YtfpcdlpfmlaakaaDoorAsRc
import Derived.Test.YtfpcdlpfmlaakaaDoorAsOpenR
set_option linter.unusedVariables false
set_option linter.unusedSimpArgs false
namespace Go.Proofs.YtfpcdlpfmlaakaaDoor
open Go.RowKit Onair
attribute [local go_sem ↓] Go.wp_at_zero Go.wp_at_succ
theorem bn_le4 {N : Nat} {w W : World} (hN : w.heap.size = N) (hb : Below N w W) : N ≤ W.heap.size := hN ▸ hb.size
theorem extendL_len (l : List Rec) (ch rg fr it ix : Int) : (extendL l ch rg fr it ix).length ≤ l.length + 1 := by
  unfold extendL
  split
  · simp
  · split
    · simp
    · simp
theorem valid_S {r : Rec} (h : validR r = true) : RecS r := by
  have h := of_decide_eq_true h
  constructor <;> omega
/-- Both Extends, and Same of what they return. -/
theorem both_ext (L : List Rec) (oL : Option Addr) (n cL : Nat) (ch rg fr it ix vz : Int) (w : World) (hn : L.length = n) (hn6 : n ≤ 6) (hs : ∀ r ∈ L, validR r = true) (hr : ∀ W, Below w.heap.size w W → RdR W oL L) :
    ∃ X : List Rec, (∀ W, Below w.heap.size w W → Calls Tryd.prog 13 #[.slice oL n cL, .int .i64 ch, .int .i64 rg, .int .i64 fr, .agg #[.int .i64 it, .int .i64 ix, .int .i64 vz]] W (CloP W.heap.size W X)) ∧
      (∀ W, Below w.heap.size w W → Calls Tryd.prog 17 #[.slice oL n cL, .int .i64 ch, .int .i64 rg, .int .i64 fr, .agg #[.int .i64 it, .int .i64 ix, .int .i64 vz]] W (CloP W.heap.size W X)) ∧ X.length ≤ 1000 := by
  subst hn
  have h := extendL_len L ch rg fr it ix
  exact ⟨extendL L ch rg fr it ix, fun W hW => extend_any L oL cL ch rg fr it ix vz W (by omega) (fun r hr' => valid_S (hs r hr')) (hr W hW), fun W hW => refExtend25_any L oL cL ch rg fr it ix vz W (by omega) (fun r hr' => valid_S (hs r hr')) (hr W hW), by omega⟩
set_option maxHeartbeats 16000000 in
set_option maxRecDepth 100000 in
theorem walkExtendMatches (w : World) (oa : Option Addr) (c : Nat) (l : List Qd) (ob : Option Addr) (cb : Nat) (raw : List Rec) (ch rg fr s1 s2 s3 : Int) (hlc : l.length ≤ c) (hcm : c ≤ maxLen) (hI : ∀ q ∈ l, QdI q) (hr : RdQ w oa l) (hlb : raw.length ≤ cb) (hcb : cb ≤ maxLen) (hIb : ∀ r ∈ raw, RecI r) (hrb : RdR w ob raw)
    (ch0 : -9223372036854775808 ≤ ch) (ch1 : ch ≤ 9223372036854775807) (rg0 : -9223372036854775808 ≤ rg) (rg1 : rg ≤ 9223372036854775807) (fr0 : -9223372036854775808 ≤ fr) (fr1 : fr ≤ 9223372036854775807) (ht : TabAt w) :
    Calls Tryd.prog 4 #[.slice oa l.length c, .slice ob raw.length cb, .int .i64 ch, .int .i64 rg, .int .i64 fr, .agg #[.int .i64 s1, .int .i64 s2, .int .i64 s3]] w fun e w' => e = .returned (.bool true) ∧ Below w.heap.size w w' := by
  have hlm : l.length ≤ maxLen := Nat.le_trans hlc hcm
  unfold maxLen at hcm hcb
  obtain ⟨N, hN⟩ : ∃ N, w.heap.size = N := ⟨_, rfl⟩
  obtain ⟨w1, hw1⟩ : ∃ w1, w.alloc (.cells #[.int .i64 s1, .int .i64 s2, .int .i64 s3] 28) = w1 := ⟨_, rfl⟩
  have hb1 : Below N w w1 := by rw [← hw1, ← hN]; exact (Below.refl _ w).alloc (Nat.le_refl _) _
  have hz1 : w1.heap.size = N + 1 := by rw [← hw1, ← hN]; simp
  have k1 : Blk w1 N 28 [.int .i64 s1, .int .i64 s2, .int .i64 s3] := by rw [← hw1, ← hN]; exact Blk.new w _ _
  have ht1 := ht.below (hN.symm ▸ hb1)
  have HSN := Lib.hid (sane_any w1 ht1 ht1.lt)
  have HFW : Hid (∀ W, Below N w W → Calls Tryd.prog 15 #[.slice oa l.length c] W (CloP W.heap.size W (fewL l))) := fun W hW => few_any oa c l W hlm hI (hr.below (by rw [hN]; exact hW))
  have HRB : Hid (∀ W, Below N w W → RdR W ob raw) := fun W hW => hrb.kept (by rw [hN]; exact hW)
  have HIB := Lib.hid hIb
  have hfl := fewL_len l
  have hfv := fewL_valid l
  obtain ⟨L, hL⟩ : ∃ L, fewL l = L := ⟨_, rfl⟩
  simp only [hL] at HFW
  rw [hL] at hfl hfv
  obtain ⟨nl, hnl⟩ : ∃ nl, l.length = nl := ⟨_, rfl⟩
  obtain ⟨nr, hnr⟩ : ∃ nr, raw.length = nr := ⟨_, rfl⟩
  simp only [hnl] at HFW
  rw [hnl] at hlc ⊢
  rw [hnr] at hlb ⊢
  have HNR := Lib.hid hnr
  have HFV := Lib.hid hfv
  have HB1 := Lib.hid hb1
  have HK1 := Lib.hid k1
  obtain ⟨t, hlt⟩ : ∃ t, L.length = t := ⟨_, rfl⟩
  rw [hlt] at hfl
  have HLT := Lib.hid hlt
  have HP3 := Lib.hid (fun W => pick_any ch 3 W ch0 ch1 (by decide) (by decide))
  have HP8 := Lib.hid (fun W => pick_any rg 8 W rg0 rg1 (by decide) (by decide))
  have HPM := Lib.hid (fun W => pick_any fr 1000 W fr0 fr1 (by decide) (by decide))
  have HPF := Lib.hid (fun W => pick_any fr 3 W fr0 fr1 (by decide) (by decide))
  have HPT := Lib.hid (fun (h : 1 ≤ (t : Int)) W => pick_any fr t W fr0 fr1 h (by omega))
  have hbt := fun h : 0 < (t : Int) => pickI_bd fr t h
  generalize pickI ch 3 = x3 at HP3
  generalize pickI rg 8 = x8 at HP8
  generalize pickI fr 1000 = xm at HPM
  generalize pickI fr 3 = xf at HPF
  obtain ⟨xt, hxt⟩ : ∃ xt, pickI fr (t : Int) = xt := ⟨_, rfl⟩
  simp only [hxt] at HPT hbt
  clear hxt hlm hI hr hIb hrb hL hnl hnr hfv hb1 k1 ht1 ht hlt
  go_enter Tryd.func4, Tryd.ntmps4
  go_wp2_with fail
  refine HSN.out.mono ?_
  rintro e w2 ⟨rfl, hb2⟩
  have HB2 : Hid (Below N w w2) := HB1.out.trans (hb2.mono (by omega))
  have HK2 := Lib.hid (HK1.out.kept (hb2.block N (by omega)))
  have HN := Lib.hid hN
  clear hb2 HSN hw1 HB1 HK1
  go_wp2_with fail
  refine (HFW.out w2 HB2.out).mono ?_
  rintro e w3 ⟨oL, cL, rfl, how, hb3⟩
  rw [HLT.out]
  have HB3 : Hid (Below N w w3) := HB2.out.trans (hb3.mono (bn_le4 HN.out HB2.out))
  have HK3 := Lib.hid (HK2.out.kept (hb3.block N HK2.out.lt))
  have hrd := (own_rdr how).2.2.2
  have HRL : Hid (∀ W, Below w3.heap.size w3 W → RdR W oL L) := fun W hW => hrd.kept hW
  clear how hb3 HB2 HK2 hrd HFW hN hz1
  go_upto_if 23 with (fail)
  go_cut [15, 16] from 19 to 70 (fun v15 v16 wx => Hid (Below w3.heap.size w3 wx))
  case first =>
    by_cases h0 : t = 0
    · have q1 : ¬ ((t : Int) > 0) := by omega
      have q2 : (decide ((0 : Int) < (t : Int))) = false := decide_eq_false (by omega)
      have HBR : Hid (Below w3.heap.size w3 w3) := Below.refl _ _
      clear h0
      go_wp2_with fail
      go_meet
      exact HBR
    · have q1 : (t : Int) > 0 := by omega
      have q2 : (decide ((0 : Int) < (t : Int))) = true := decide_eq_true q1
      obtain ⟨b1, b2⟩ := hbt q1
      obtain ⟨i, hi⟩ : ∃ i : Nat, xt = (i : Int) := ⟨xt.toNat, by omega⟩
      subst hi
      have HPI := Lib.hid (HPT.out (by omega))
      have hit : i < t := by omega
      obtain ⟨r, hri⟩ : ∃ r, L[i]? = some r := ⟨L[i]'(by rw [HLT.out]; exact hit), List.getElem?_eq_getElem _⟩
      obtain ⟨gb, go, hoa, glt, ra⟩ := (HRL.out _ (Below.refl _ _)).at i r hri
      subst hoa
      have hvr := of_decide_eq_true (HFV.out r (List.mem_of_getElem? hri))
      obtain ⟨r0, r1, r2, r3, r4, r5⟩ := r
      obtain ⟨c0, c1, c2, c3, c4, c5⟩ := ra
      dsimp only at c0 c1 c2 c3 c4 c5 hvr
      obtain ⟨v1, v2, v3, v4, v5, v6, v7, v8, v9, v10, v11, v12, _⟩ := hvr
      obtain ⟨M, hM⟩ : ∃ M, w3.heap.size = M := ⟨_, rfl⟩
      have HM := Lib.hid hM
      have hglt : gb < M := hM ▸ glt
      clear hM h0 hri HPT hbt hit
      go_wp2_with fail
      refine (HPI.out _).mono ?_
      rintro e w' ⟨rfl, rfl⟩
      obtain ⟨t2, ht2⟩ : ∃ t2, (if r4 = 0 then xf else r5 + r3) = t2 := ⟨_, rfl⟩
      have HT2 := Lib.hid ht2
      clear ht2
      go_upto_if 41 with (fail)
      rw [HM.out]
      refine gen_world (fun W => Blk W M 34 [.int .i64 r0, .int .i64 r1, .int .i64 r2, .int .i64 r3, .int .i64 r4, .int .i64 r5] ∧ Blk W (M + 1) 28 [.int .i64 r4, .int .i64 (r5 + r3), .int .i64 0] ∧ Below M w3 W) ⟨?_, ?_, ?_⟩ ?_
      · have hk := Blk.new w3 34 [.int .i64 r0, .int .i64 r1, .int .i64 r2, .int .i64 r3, .int .i64 r4, .int .i64 r5]
        rw [HM.out] at hk
        exact hk.alloc _
      · have hk := Blk.new (w3.alloc (.cells #[.int .i64 r0, .int .i64 r1, .int .i64 r2, .int .i64 r3, .int .i64 r4, .int .i64 r5] 34)) 28 [.int .i64 r4, .int .i64 (r5 + r3), .int .i64 0]
        rw [World.size_alloc, HM.out] at hk
        exact hk
      · exact ((Below.refl M w3).alloc (Nat.le_of_eq HM.out.symm) _).alloc (by rw [World.size_alloc, HM.out]; omega) _
      rintro wa ⟨hka, hkb, hba⟩
      have ka4 := hka.cell 4
      have kb1 := hkb.cell 1
      have zb1 := hkb.frozen 1
      simp only [List.getElem?_cons_zero, List.getElem?_cons_succ] at ka4 kb1
      have HKA := Lib.hid hka
      have HKB := Lib.hid hkb
      have HBA := Lib.hid hba
      clear hka hkb hba c0 c1 c2 c3 c4 c5 glt
      go_upto_if 41 with (fail)
      go_cut [15] from 19 to 70 (fun v15 wx => v15 = .pointer (some ⟨M, 0, none⟩) ∧ Hid (Blk wx M 34 [.int .i64 r0, .int .i64 r1, .int .i64 r2, .int .i64 r3, .int .i64 r4, .int .i64 r5]) ∧ Hid (Blk wx (M + 1) 28 [.int .i64 r4, .int .i64 t2, .int .i64 0]) ∧ Hid (Below M w3 wx))
      case first =>
        by_cases hz : r4 = 0
        · have b4 : (r4 == 0) = true := by simp [hz]
          have hx : xf = t2 := by rw [← HT2.out, if_pos hz]
          have HA2 : Hid (Blk (wa.setCell ⟨M + 1, 1, none⟩ (.int .i64 xf)) M 34 [.int .i64 r0, .int .i64 r1, .int .i64 r2, .int .i64 r3, .int .i64 r4, .int .i64 r5]) := HKA.out.other ⟨M + 1, 1, none⟩ (by show M + 1 ≠ M; omega) _
          have HB2 : Hid (Blk (wa.setCell ⟨M + 1, 1, none⟩ (.int .i64 xf)) (M + 1) 28 [.int .i64 r4, .int .i64 t2, .int .i64 0]) := by rw [← hx]; exact HKB.out.set 1 _
          have HC2 : Hid (Below M w3 (wa.setCell ⟨M + 1, 1, none⟩ (.int .i64 xf))) := HBA.out.setCell (p := ⟨M + 1, 1, none⟩) (by show M ≤ M + 1; omega) _
          clear hz hx
          go_wp2_with fail
          refine (HPF.out _).mono ?_
          rintro e w' ⟨rfl, rfl⟩
          go_wp2_with fail
          go_meet
          exact ⟨rfl, HA2, HB2, HC2⟩
        · have b4 : (r4 == 0) = false := by simp [hz]
          have hx : r5 + r3 = t2 := by rw [← HT2.out, if_neg hz]
          have HB2 : Hid (Blk wa (M + 1) 28 [.int .i64 r4, .int .i64 t2, .int .i64 0]) := by rw [← hx]; exact HKB
          clear hz hx
          go_wp2_with fail
          go_meet
          exact ⟨rfl, HKA, HB2, HBA⟩
      case rest =>
        obtain ⟨rfl, HKD, HKE, HBD⟩ := hcut
        obtain ⟨wd, rfl⟩ : ∃ wd : World, wd = wc := ⟨_, rfl⟩
        clear HKA HKB HBA ka4 kb1 zb1 HT2
        have hb3d : Below w3.heap.size w3 wd := by rw [HM.out]; exact HBD.out
        obtain ⟨X, hE1, hE2, hXl⟩ := both_ext L (some ⟨gb, go, none⟩) t cL r0 r1 (r2 + r3) r4 t2 0 wd HLT.out hfl HFV.out (fun W hW => HRL.out W (hb3d.trans (hW.mono hb3d.size)))
        have E1 := Lib.hid hE1
        have E2 := Lib.hid hE2
        have HXL := Lib.hid hXl
        have HB3D := Lib.hid hb3d
        have HKP : Hid (∀ W, Below wd.heap.size wd W → W.cell? ⟨M, 0, none⟩ = some (.int .i64 r0) ∧ W.cell? ⟨M, 1, none⟩ = some (.int .i64 r1) ∧ W.cell? ⟨M, 2, none⟩ = some (.int .i64 r2) ∧ W.cell? ⟨M, 3, none⟩ = some (.int .i64 r3) ∧ W.cell? ⟨M + 1, 0, none⟩ = some (.int .i64 r4) ∧ W.cell? ⟨M + 1, 1, none⟩ = some (.int .i64 t2) ∧ W.cell? ⟨M + 1, 2, none⟩ = some (.int .i64 0)) := fun W hW => by
          have hp := HKD.out.kept (hW.block M HKD.out.lt)
          have hq := HKE.out.kept (hW.block (M + 1) HKE.out.lt)
          exact ⟨hp.cell 0, hp.cell 1, hp.cell 2, hp.cell 3, hq.cell 0, hq.cell 1, hq.cell 2⟩
        have HQ : Hid (Below wd.heap.size wd wd.drew) := (Below.refl _ _).drew
        clear hE1 hE2 hXl hb3d HKD HKE HBD
        have ws1 : IntKind.i64.wrap (r2 + r3) = r2 + r3 := IntWalk.i64_in _ (by omega)
        go_upto_region 8 with (fail)
        refine wp_region_held_drew (S := fun W => W.cell? ⟨M, 0, none⟩ = some (.int .i64 r0) ∧ W.cell? ⟨M, 1, none⟩ = some (.int .i64 r1) ∧ W.cell? ⟨M, 2, none⟩ = some (.int .i64 r2) ∧ W.cell? ⟨M, 3, none⟩ = some (.int .i64 r3) ∧ W.cell? ⟨M + 1, 0, none⟩ = some (.int .i64 r4) ∧ W.cell? ⟨M + 1, 1, none⟩ = some (.int .i64 t2) ∧ W.cell? ⟨M + 1, 2, none⟩ = some (.int .i64 0)) (by kernel_rfl) ?_ (fun hHeld => ?_)
        · exact HKP.out _ HQ.out
        refine wpAnyH_take (i := 0) (oi := ⟨some 45, _, _, _, _, _⟩) (v := ?vxa0) rfl (by kernel_rfl) (by kernel_rfl) (by kernel_rfl) (fun _ _ _ h => h) (Or.inl ⟨by rfl, ?yxa0⟩) (by assumption) ?rxa0
        case yxa0 => (intro w hSw; (try dsimp only at hSw); go_simp; (try (with_reducible rfl)))
        try simp only [Act.put, List.setIfInBounds_toArray, List.set_cons_zero, List.set_cons_succ]
        refine wpAnyH_take (i := 1) (oi := ⟨some 46, _, _, _, _, _⟩) (v := ?vxa1) rfl (by kernel_rfl) (by kernel_rfl) (by kernel_rfl) (fun _ _ _ h => h) (Or.inl ⟨by rfl, ?yxa1⟩) (by assumption) ?rxa1
        case yxa1 => (intro w hSw; (try dsimp only at hSw); go_simp; (try (with_reducible rfl)))
        try simp only [Act.put, List.setIfInBounds_toArray, List.set_cons_zero, List.set_cons_succ]
        refine wpAnyH_take (i := 2) (oi := ⟨some 47, _, _, _, _, _⟩) (v := ?vxa2) rfl (by kernel_rfl) (by kernel_rfl) (by kernel_rfl) (fun _ _ _ h => h) (Or.inl ⟨by rfl, ?yxa2⟩) (by assumption) ?rxa2
        case yxa2 => (intro w hSw; (try dsimp only at hSw); go_simp; (try (with_reducible rfl)))
        try simp only [Act.put, List.setIfInBounds_toArray, List.set_cons_zero, List.set_cons_succ]
        refine wpAnyH_take (i := 3) (oi := ⟨some 48, _, _, _, _, _⟩) (v := ?vxa3) rfl (by kernel_rfl) (by kernel_rfl) (by kernel_rfl) (fun _ _ _ h => h) (Or.inl ⟨by rfl, ?yxa3⟩) (by assumption) ?rxa3
        case yxa3 => (intro w hSw; (try dsimp only at hSw); go_simp; (try (with_reducible rfl)))
        try simp only [Act.put, List.setIfInBounds_toArray, List.set_cons_zero, List.set_cons_succ]
        refine wpAnyH_take (i := 4) (oi := ⟨some 49, _, _, _, _, _⟩) (v := ?vxa4) rfl (by kernel_rfl) (by kernel_rfl) (by kernel_rfl) (fun _ _ _ h => h) (Or.inl ⟨by rfl, ?yxa4⟩) (by assumption) ?rxa4
        case yxa4 => (intro w hSw; (try dsimp only at hSw); go_simp; (try (with_reducible rfl)))
        try simp only [Act.put, List.setIfInBounds_toArray, List.set_cons_zero, List.set_cons_succ]
        refine wpAnyH_take (i := 5) (oi := ⟨some 50, _, _, _, _, _⟩) (v := ?vxa5) rfl (by kernel_rfl) (by kernel_rfl) (by kernel_rfl) (fun _ _ _ h => h) (Or.inl ⟨by rfl, ?yxa5⟩) (by assumption) ?rxa5
        case yxa5 => (intro w hSw; (try dsimp only at hSw); go_simp; (try (with_reducible rfl)))
        try simp only [Act.put, List.setIfInBounds_toArray, List.set_cons_zero, List.set_cons_succ]
        refine wpAnyH_take (i := 6) (oi := ⟨some 51, _, _, _, _, _⟩) (v := ?vxa6) rfl (by kernel_rfl) (by kernel_rfl) (by kernel_rfl) (fun _ _ _ h => h) (Or.inl ⟨by rfl, ?yxa6⟩) (by assumption) ?rxa6
        case yxa6 => (intro w hSw; (try dsimp only at hSw); go_simp; (try (with_reducible rfl)))
        try simp only [Act.put, List.setIfInBounds_toArray, List.set_cons_zero, List.set_cons_succ]
        refine wpAnyH_take (i := 7) (oi := ⟨some 52, _, _, _, _, _⟩) (v := ?vxa7) rfl (by kernel_rfl) (by kernel_rfl) (by kernel_rfl) (fun _ _ _ h => h) (Or.inl ⟨by rfl, ?yxa7⟩) (by assumption) ?rxa7
        case yxa7 => (intro w hSw; (try dsimp only at hSw); go_simp; (try (with_reducible rfl)))
        try simp only [Act.put, List.setIfInBounds_toArray, List.set_cons_zero, List.set_cons_succ]
        refine wpAnyH_take (i := 8) (oi := ⟨some 53, _, _, _, _, _⟩) (v := ?vxa8) rfl (by kernel_rfl) (by kernel_rfl) (by kernel_rfl) (fun _ _ _ h => h) (Or.inl ⟨by rfl, ?yxa8⟩) (by assumption) ?rxa8
        case yxa8 => (intro w hSw; (try dsimp only at hSw); go_simp; (try (with_reducible rfl)))
        try simp only [Act.put, List.setIfInBounds_toArray, List.set_cons_zero, List.set_cons_succ]
        refine wpAnyH_take (i := 9) (oi := ⟨some 54, _, _, _, _, _⟩) (v := ?vxa9) rfl (by kernel_rfl) (by kernel_rfl) (by kernel_rfl) (fun _ _ _ h => h) (Or.inl ⟨by rfl, ?yxa9⟩) (by assumption) ?rxa9
        case yxa9 => (intro w hSw; (try dsimp only at hSw); go_simp; (try (with_reducible rfl)))
        try simp only [Act.put, List.setIfInBounds_toArray, List.set_cons_zero, List.set_cons_succ]
        refine wpAnyH_take (i := 10) (oi := ⟨some 55, _, _, _, _, _⟩) (v := ?vxa10) rfl (by kernel_rfl) (by kernel_rfl) (by kernel_rfl) (fun _ _ _ h => h) (Or.inl ⟨by rfl, ?yxa10⟩) (by assumption) ?rxa10
        case yxa10 => (intro w hSw; (try dsimp only at hSw); go_simp; (try (with_reducible rfl)))
        try simp only [Act.put, List.setIfInBounds_toArray, List.set_cons_zero, List.set_cons_succ]
        refine wpAnyH_take (i := 12) (oi := ⟨some 57, _, _, _, _, _⟩) (v := ?vxa12) rfl (by kernel_rfl) (by kernel_rfl) (by kernel_rfl) (fun _ _ _ h => h) (Or.inl ⟨by rfl, ?yxa12⟩) (by assumption) ?rxa12
        case yxa12 => (intro w hSw; (try dsimp only at hSw); go_simp; (try (with_reducible rfl)))
        try simp only [Act.put, List.setIfInBounds_toArray, List.set_cons_zero, List.set_cons_succ]
        refine wpAnyH_take (i := 13) (oi := ⟨some 58, _, _, _, _, _⟩) (v := ?vxa13) rfl (by kernel_rfl) (by kernel_rfl) (by kernel_rfl) (fun _ _ _ h => h) (Or.inl ⟨by rfl, ?yxa13⟩) (by assumption) ?rxa13
        case yxa13 => (intro w hSw; (try dsimp only at hSw); go_simp; (try (with_reducible rfl)))
        try simp only [Act.put, List.setIfInBounds_toArray, List.set_cons_zero, List.set_cons_succ]
        refine wpAnyH_take (i := 14) (oi := ⟨some 59, _, _, _, _, _⟩) (v := ?vxa14) rfl (by kernel_rfl) (by kernel_rfl) (by kernel_rfl) (fun _ _ _ h => h) (Or.inl ⟨by rfl, ?yxa14⟩) (by assumption) ?rxa14
        case yxa14 => (intro w hSw; (try dsimp only at hSw); go_simp; (try (with_reducible rfl)))
        try simp only [Act.put, List.setIfInBounds_toArray, List.set_cons_zero, List.set_cons_succ]
        refine wpAnyH_take (i := 15) (oi := ⟨some 60, _, _, _, _, _⟩) (v := ?vxa15) rfl (by kernel_rfl) (by kernel_rfl) (by kernel_rfl) (fun _ _ _ h => h) (Or.inl ⟨by rfl, ?yxa15⟩) (by assumption) ?rxa15
        case yxa15 => (intro w hSw; (try dsimp only at hSw); go_simp; (try (with_reducible rfl)))
        try simp only [Act.put, List.setIfInBounds_toArray, List.set_cons_zero, List.set_cons_succ]
        refine wpAnyH_take (i := 16) (oi := ⟨some 61, _, _, _, _, _⟩) (v := ?vxa16) rfl (by kernel_rfl) (by kernel_rfl) (by kernel_rfl) (fun _ _ _ h => h) (Or.inl ⟨by rfl, ?yxa16⟩) (by assumption) ?rxa16
        case yxa16 => (intro w hSw; (try dsimp only at hSw); go_simp; (try (with_reducible rfl)))
        try simp only [Act.put, List.setIfInBounds_toArray, List.set_cons_zero, List.set_cons_succ]
        refine wpAnyH_take (i := 17) (oi := ⟨some 62, _, _, _, _, _⟩) (v := ?vxa17) rfl (by kernel_rfl) (by kernel_rfl) (by kernel_rfl) (fun _ _ _ h => h) (Or.inl ⟨by rfl, ?yxa17⟩) (by assumption) ?rxa17
        case yxa17 => (intro w hSw; (try dsimp only at hSw); go_simp; (try (with_reducible rfl)))
        try simp only [Act.put, List.setIfInBounds_toArray, List.set_cons_zero, List.set_cons_succ]
        refine wpAnyH_take (i := 18) (oi := ⟨some 63, _, _, _, _, _⟩) (v := ?vxa18) rfl (by kernel_rfl) (by kernel_rfl) (by kernel_rfl) (fun _ _ _ h => h) (Or.inl ⟨by rfl, ?yxa18⟩) (by assumption) ?rxa18
        case yxa18 => (intro w hSw; (try dsimp only at hSw); go_simp; (try (with_reducible rfl)))
        try simp only [Act.put, List.setIfInBounds_toArray, List.set_cons_zero, List.set_cons_succ]
        refine wpAnyH_take (i := 19) (oi := ⟨some 64, _, _, _, _, _⟩) (v := ?vxa19) rfl (by kernel_rfl) (by kernel_rfl) (by kernel_rfl) (fun _ _ _ h => h) (Or.inl ⟨by rfl, ?yxa19⟩) (by assumption) ?rxa19
        case yxa19 => (intro w hSw; (try dsimp only at hSw); go_simp; (try (with_reducible rfl)))
        try simp only [Act.put, List.setIfInBounds_toArray, List.set_cons_zero, List.set_cons_succ]
        refine wpAnyH_take (i := 20) (oi := ⟨some 65, _, _, _, _, _⟩) (v := ?vxa20) rfl (by kernel_rfl) (by kernel_rfl) (by kernel_rfl) (fun _ _ _ h => h) (Or.inl ⟨by rfl, ?yxa20⟩) (by assumption) ?rxa20
        case yxa20 => (intro w hSw; (try dsimp only at hSw); go_simp; (try (with_reducible rfl)))
        try simp only [Act.put, List.setIfInBounds_toArray, List.set_cons_zero, List.set_cons_succ]
        refine wpAnyH_take (i := 21) (oi := ⟨some 66, _, _, _, _, _⟩) (v := ?vxa21) rfl (by kernel_rfl) (by kernel_rfl) (by kernel_rfl) (fun _ _ _ h => h) (Or.inl ⟨by rfl, ?yxa21⟩) (by assumption) ?rxa21
        case yxa21 => (intro w hSw; (try dsimp only at hSw); go_simp; (try (with_reducible rfl)))
        try simp only [Act.put, List.setIfInBounds_toArray, List.set_cons_zero, List.set_cons_succ]
        refine wpAnyH_take (i := 22) (oi := ⟨some 67, _, _, _, _, _⟩) (v := ?vxa22) rfl (by kernel_rfl) (by kernel_rfl) (by kernel_rfl) (fun _ _ _ h => h) (Or.inl ⟨by rfl, ?yxa22⟩) (by assumption) ?rxa22
        case yxa22 => (intro w hSw; (try dsimp only at hSw); go_simp; (try (with_reducible rfl)))
        try simp only [Act.put, List.setIfInBounds_toArray, List.set_cons_zero, List.set_cons_succ]
        refine wpAnyH_ready (rs := [11]) (by kernel_rfl) (by simp) (AllReadyH.cons (o := ⟨some 56, _, _, _, _, _⟩) rfl (fun K hK => ?_) AllReadyH.nil)
        go_simp
        refine (E1.out _ HQ.out).mono ?_
        rintro e z11 ⟨oX, coX, rfl, ho11, hb11⟩
        have HRoX : Hid (∀ W, Below z11.heap.size z11 W → RdR W oX X) := fun W hW => (own_rdr ho11).2.2.2.kept hW
        have HQ := Lib.hid (HQ.out.trans (hb11.mono HQ.out.size))
        have HB11 := Lib.hid hb11
        clear ho11 hb11
        go_simp
        refine hK.out _ _ ?_ (fun hHeld2 => ?_)
        · exact HKP.out _ HQ.out
        clear hK K hHeld
        rename _ => hHeld
        try simp only [Act.put, List.setIfInBounds_toArray, List.set_cons_zero, List.set_cons_succ]
        refine wpAnyH_ready (rs := [23]) (by kernel_rfl) (by simp) (AllReadyH.cons (o := ⟨some 68, _, _, _, _, _⟩) rfl (fun K hK => ?_) AllReadyH.nil)
        go_simp
        refine (E2.out _ HQ.out).mono ?_
        rintro e z23 ⟨oY, coY, rfl, ho23, hb23⟩
        have HRoY : Hid (∀ W, Below z23.heap.size z23 W → RdR W oY X) := fun W hW => (own_rdr ho23).2.2.2.kept hW
        have HQ := Lib.hid (HQ.out.trans (hb23.mono HQ.out.size))
        have HB23 := Lib.hid hb23
        clear ho23 hb23
        go_simp
        refine hK.out _ _ ?_ (fun hHeld2 => ?_)
        · exact HKP.out _ HQ.out
        clear hK K hHeld
        rename _ => hHeld
        try simp only [Act.put, List.setIfInBounds_toArray, List.set_cons_zero, List.set_cons_succ]
        refine wpAnyH_ready (rs := [24]) (by kernel_rfl) (by simp) (AllReadyH.cons (o := ⟨some 69, _, _, _, _, _⟩) rfl (fun K hK => ?_) AllReadyH.nil)
        go_simp
        refine (same25_eq X oX oY X.length coX coY _ rfl (by have := HXL.out; unfold maxLen; omega) (HRoX.out _ HB23.out) (HRoY.out _ (Below.refl _ _))).mono ?_
        rintro e z24 ⟨rfl, hb24⟩
        have HQ := Lib.hid (HQ.out.trans (hb24.mono HQ.out.size))
        clear hb24
        go_simp
        refine hK.out _ _ ?_ (fun hHeld2 => ?_)
        · exact HKP.out _ HQ.out
        clear hK K hHeld
        rename _ => hHeld
        try simp only [Act.put, List.setIfInBounds_toArray, List.set_cons_zero, List.set_cons_succ]
        refine wpAnyH_take (i := 25) (oi := ⟨some 70, _, _, _, _, _⟩) (v := ?vxa25) rfl (by kernel_rfl) (by kernel_rfl) (by kernel_rfl) (fun _ _ _ h => h) (Or.inl ⟨by rfl, ?yxa25⟩) (by assumption) ?rxa25
        case yxa25 => (intro w hSw; (try dsimp only at hSw); go_simp; (try (with_reducible rfl)))
        try simp only [Act.put, List.setIfInBounds_toArray, List.set_cons_zero, List.set_cons_succ]
        refine wpAnyH_done (by kernel_rfl) ?_ _
        clear hHeld
        have HOUT : Hid (Below w3.heap.size w3 z24) := HB3D.out.trans (HQ.out.mono HB3D.out.size)
        clear E1 E2 HKP HQ HB3D
        go_wp2_with fail
        go_meet
        exact HOUT
  case rest =>
    have HBC := hcut
    obtain ⟨we, rfl⟩ : ∃ we : World, we = wc := ⟨_, rfl⟩
    clear HPT hbt HPF
    have HK5 := Lib.hid (HK3.out.kept (HBC.out.block N HK3.out.lt))
    obtain ⟨X, hE1, hE2, hXl⟩ := both_ext L oL t cL x3 x8 xm s1 s2 s3 we HLT.out hfl HFV.out (fun W hW => HRL.out W (HBC.out.trans (hW.mono HBC.out.size)))
    have E1 := Lib.hid hE1
    have E2 := Lib.hid hE2
    have HXL := Lib.hid hXl
    have HKP : Hid (∀ W, Below we.heap.size we W → W.cell? ⟨N, 0, none⟩ = some (.int .i64 s1) ∧ W.cell? ⟨N, 1, none⟩ = some (.int .i64 s2) ∧ W.cell? ⟨N, 2, none⟩ = some (.int .i64 s3)) := fun W hW => by
      have hp := HK5.out.kept (hW.block N HK5.out.lt)
      exact ⟨hp.cell 0, hp.cell 1, hp.cell 2⟩
    have HQ : Hid (Below we.heap.size we we.drew) := (Below.refl _ _).drew
    have HBE : Hid (Below N w we) := HB3.out.trans (HBC.out.mono (bn_le4 HN.out HB3.out))
    clear hE1 hE2 hXl HBC HK3 hcut
    go_upto_region 10 with (fail)
    refine wp_region_held_drew (S := fun W => W.cell? ⟨N, 0, none⟩ = some (.int .i64 s1) ∧ W.cell? ⟨N, 1, none⟩ = some (.int .i64 s2) ∧ W.cell? ⟨N, 2, none⟩ = some (.int .i64 s3)) (by kernel_rfl) ?_ (fun hHeld => ?_)
    · exact HKP.out _ HQ.out
    refine wpAnyH_take (i := 0) (oi := ⟨some 71, _, _, _, _, _⟩) (v := ?vxb0) rfl (by kernel_rfl) (by kernel_rfl) (by kernel_rfl) (fun _ _ _ h => h) (Or.inl ⟨by rfl, ?yxb0⟩) (by assumption) ?rxb0
    case yxb0 => (intro w hSw; (try dsimp only at hSw); go_simp; (try (with_reducible rfl)))
    try simp only [Act.put, List.setIfInBounds_toArray, List.set_cons_zero, List.set_cons_succ]
    refine wpAnyH_take (i := 1) (oi := ⟨some 72, _, _, _, _, _⟩) (v := ?vxb1) rfl (by kernel_rfl) (by kernel_rfl) (by kernel_rfl) (fun _ _ _ h => h) (Or.inl ⟨by rfl, ?yxb1⟩) (by assumption) ?rxb1
    case yxb1 => (intro w hSw; (try dsimp only at hSw); go_simp; (try (with_reducible rfl)))
    try simp only [Act.put, List.setIfInBounds_toArray, List.set_cons_zero, List.set_cons_succ]
    refine wpAnyH_take (i := 3) (oi := ⟨some 74, _, _, _, _, _⟩) (v := ?vxb3) rfl (by kernel_rfl) (by kernel_rfl) (by kernel_rfl) (fun _ _ _ h => h) (Or.inl ⟨by rfl, ?yxb3⟩) (by assumption) ?rxb3
    case yxb3 => (intro w hSw; (try dsimp only at hSw); go_simp; (try (with_reducible rfl)))
    try simp only [Act.put, List.setIfInBounds_toArray, List.set_cons_zero, List.set_cons_succ]
    refine wpAnyH_take (i := 5) (oi := ⟨some 76, _, _, _, _, _⟩) (v := ?vxb5) rfl (by kernel_rfl) (by kernel_rfl) (by kernel_rfl) (fun _ _ _ h => h) (Or.inl ⟨by rfl, ?yxb5⟩) (by assumption) ?rxb5
    case yxb5 => (intro w hSw; (try dsimp only at hSw); go_simp; (try (with_reducible rfl)))
    try simp only [Act.put, List.setIfInBounds_toArray, List.set_cons_zero, List.set_cons_succ]
    refine wpAnyH_take (i := 7) (oi := ⟨some 78, _, _, _, _, _⟩) (v := ?vxb7) rfl (by kernel_rfl) (by kernel_rfl) (by kernel_rfl) (fun _ _ _ h => h) (Or.inl ⟨by rfl, ?yxb7⟩) (by assumption) ?rxb7
    case yxb7 => (intro w hSw; (try dsimp only at hSw); go_simp; (try (with_reducible rfl)))
    try simp only [Act.put, List.setIfInBounds_toArray, List.set_cons_zero, List.set_cons_succ]
    refine wpAnyH_take (i := 9) (oi := ⟨some 80, _, _, _, _, _⟩) (v := ?vxb9) rfl (by kernel_rfl) (by kernel_rfl) (by kernel_rfl) (fun _ _ _ h => h) (Or.inl ⟨by rfl, ?yxb9⟩) (by assumption) ?rxb9
    case yxb9 => (intro w hSw; (try dsimp only at hSw); go_simp; (try (with_reducible rfl)))
    try simp only [Act.put, List.setIfInBounds_toArray, List.set_cons_zero, List.set_cons_succ]
    refine wpAnyH_take (i := 10) (oi := ⟨some 81, _, _, _, _, _⟩) (v := ?vxb10) rfl (by kernel_rfl) (by kernel_rfl) (by kernel_rfl) (fun _ _ _ h => h) (Or.inl ⟨by rfl, ?yxb10⟩) (by assumption) ?rxb10
    case yxb10 => (intro w hSw; (try dsimp only at hSw); go_simp; (try (with_reducible rfl)))
    try simp only [Act.put, List.setIfInBounds_toArray, List.set_cons_zero, List.set_cons_succ]
    refine wpAnyH_take (i := 12) (oi := ⟨some 83, _, _, _, _, _⟩) (v := ?vxb12) rfl (by kernel_rfl) (by kernel_rfl) (by kernel_rfl) (fun _ _ _ h => h) (Or.inl ⟨by rfl, ?yxb12⟩) (by assumption) ?rxb12
    case yxb12 => (intro w hSw; (try dsimp only at hSw); go_simp; (try (with_reducible rfl)))
    try simp only [Act.put, List.setIfInBounds_toArray, List.set_cons_zero, List.set_cons_succ]
    refine wpAnyH_take (i := 14) (oi := ⟨some 85, _, _, _, _, _⟩) (v := ?vxb14) rfl (by kernel_rfl) (by kernel_rfl) (by kernel_rfl) (fun _ _ _ h => h) (Or.inl ⟨by rfl, ?yxb14⟩) (by assumption) ?rxb14
    case yxb14 => (intro w hSw; (try dsimp only at hSw); go_simp; (try (with_reducible rfl)))
    try simp only [Act.put, List.setIfInBounds_toArray, List.set_cons_zero, List.set_cons_succ]
    refine wpAnyH_take (i := 16) (oi := ⟨some 87, _, _, _, _, _⟩) (v := ?vxb16) rfl (by kernel_rfl) (by kernel_rfl) (by kernel_rfl) (fun _ _ _ h => h) (Or.inl ⟨by rfl, ?yxb16⟩) (by assumption) ?rxb16
    case yxb16 => (intro w hSw; (try dsimp only at hSw); go_simp; (try (with_reducible rfl)))
    try simp only [Act.put, List.setIfInBounds_toArray, List.set_cons_zero, List.set_cons_succ]
    refine wpAnyH_ready (rs := [2]) (by kernel_rfl) (by simp) (AllReadyH.cons (o := ⟨some 73, _, _, _, _, _⟩) rfl (fun K hK => ?_) AllReadyH.nil)
    go_simp
    refine (HP3.out _).mono ?_
    rintro e z2 ⟨rfl, rfl⟩
    go_simp
    refine hK.out _ _ ?_ (fun hHeld2 => ?_)
    · exact HKP.out _ HQ.out
    clear hK K hHeld
    rename _ => hHeld
    try simp only [Act.put, List.setIfInBounds_toArray, List.set_cons_zero, List.set_cons_succ]
    refine wpAnyH_ready (rs := [4]) (by kernel_rfl) (by simp) (AllReadyH.cons (o := ⟨some 75, _, _, _, _, _⟩) rfl (fun K hK => ?_) AllReadyH.nil)
    go_simp
    refine (HP8.out _).mono ?_
    rintro e z4 ⟨rfl, rfl⟩
    go_simp
    refine hK.out _ _ ?_ (fun hHeld2 => ?_)
    · exact HKP.out _ HQ.out
    clear hK K hHeld
    rename _ => hHeld
    try simp only [Act.put, List.setIfInBounds_toArray, List.set_cons_zero, List.set_cons_succ]
    refine wpAnyH_ready (rs := [6]) (by kernel_rfl) (by simp) (AllReadyH.cons (o := ⟨some 77, _, _, _, _, _⟩) rfl (fun K hK => ?_) AllReadyH.nil)
    go_simp
    refine (HPM.out _).mono ?_
    rintro e z6 ⟨rfl, rfl⟩
    go_simp
    refine hK.out _ _ ?_ (fun hHeld2 => ?_)
    · exact HKP.out _ HQ.out
    clear hK K hHeld
    rename _ => hHeld
    try simp only [Act.put, List.setIfInBounds_toArray, List.set_cons_zero, List.set_cons_succ]
    refine wpAnyH_ready (rs := [8]) (by kernel_rfl) (by simp) (AllReadyH.cons (o := ⟨some 79, _, _, _, _, _⟩) rfl (fun K hK => ?_) AllReadyH.nil)
    go_simp
    refine (E1.out _ HQ.out).mono ?_
    rintro e z8 ⟨oX, coX, rfl, ho8, hb8⟩
    have HRoX : Hid (∀ W, Below z8.heap.size z8 W → RdR W oX X) := fun W hW => (own_rdr ho8).2.2.2.kept hW
    have HQ := Lib.hid (HQ.out.trans (hb8.mono HQ.out.size))
    have HB8 := Lib.hid hb8
    clear ho8 hb8
    go_simp
    refine hK.out _ _ ?_ (fun hHeld2 => ?_)
    · exact HKP.out _ HQ.out
    clear hK K hHeld
    rename _ => hHeld
    try simp only [Act.put, List.setIfInBounds_toArray, List.set_cons_zero, List.set_cons_succ]
    refine wpAnyH_ready (rs := [11]) (by kernel_rfl) (by simp) (AllReadyH.cons (o := ⟨some 82, _, _, _, _, _⟩) rfl (fun K hK => ?_) AllReadyH.nil)
    go_simp
    refine (HP3.out _).mono ?_
    rintro e z11 ⟨rfl, rfl⟩
    go_simp
    refine hK.out _ _ ?_ (fun hHeld2 => ?_)
    · exact HKP.out _ HQ.out
    clear hK K hHeld
    rename _ => hHeld
    try simp only [Act.put, List.setIfInBounds_toArray, List.set_cons_zero, List.set_cons_succ]
    refine wpAnyH_ready (rs := [13]) (by kernel_rfl) (by simp) (AllReadyH.cons (o := ⟨some 84, _, _, _, _, _⟩) rfl (fun K hK => ?_) AllReadyH.nil)
    go_simp
    refine (HP8.out _).mono ?_
    rintro e z13 ⟨rfl, rfl⟩
    go_simp
    refine hK.out _ _ ?_ (fun hHeld2 => ?_)
    · exact HKP.out _ HQ.out
    clear hK K hHeld
    rename _ => hHeld
    try simp only [Act.put, List.setIfInBounds_toArray, List.set_cons_zero, List.set_cons_succ]
    refine wpAnyH_ready (rs := [15]) (by kernel_rfl) (by simp) (AllReadyH.cons (o := ⟨some 86, _, _, _, _, _⟩) rfl (fun K hK => ?_) AllReadyH.nil)
    go_simp
    refine (HPM.out _).mono ?_
    rintro e z15 ⟨rfl, rfl⟩
    go_simp
    refine hK.out _ _ ?_ (fun hHeld2 => ?_)
    · exact HKP.out _ HQ.out
    clear hK K hHeld
    rename _ => hHeld
    try simp only [Act.put, List.setIfInBounds_toArray, List.set_cons_zero, List.set_cons_succ]
    refine wpAnyH_ready (rs := [17]) (by kernel_rfl) (by simp) (AllReadyH.cons (o := ⟨some 88, _, _, _, _, _⟩) rfl (fun K hK => ?_) AllReadyH.nil)
    go_simp
    refine (E2.out _ HQ.out).mono ?_
    rintro e z17 ⟨oY, coY, rfl, ho17, hb17⟩
    have HRoY : Hid (∀ W, Below z17.heap.size z17 W → RdR W oY X) := fun W hW => (own_rdr ho17).2.2.2.kept hW
    have HQ := Lib.hid (HQ.out.trans (hb17.mono HQ.out.size))
    have HB17 := Lib.hid hb17
    clear ho17 hb17
    go_simp
    refine hK.out _ _ ?_ (fun hHeld2 => ?_)
    · exact HKP.out _ HQ.out
    clear hK K hHeld
    rename _ => hHeld
    try simp only [Act.put, List.setIfInBounds_toArray, List.set_cons_zero, List.set_cons_succ]
    refine wpAnyH_ready (rs := [18]) (by kernel_rfl) (by simp) (AllReadyH.cons (o := ⟨some 89, _, _, _, _, _⟩) rfl (fun K hK => ?_) AllReadyH.nil)
    go_simp
    refine (same25_eq X oX oY X.length coX coY _ rfl (by have := HXL.out; unfold maxLen; omega) (HRoX.out _ HB17.out) (HRoY.out _ (Below.refl _ _))).mono ?_
    rintro e z18 ⟨rfl, hb18⟩
    have HQ := Lib.hid (HQ.out.trans (hb18.mono HQ.out.size))
    clear hb18
    go_simp
    refine hK.out _ _ ?_ (fun hHeld2 => ?_)
    · exact HKP.out _ HQ.out
    clear hK K hHeld
    rename _ => hHeld
    try simp only [Act.put, List.setIfInBounds_toArray, List.set_cons_zero, List.set_cons_succ]
    refine wpAnyH_take (i := 19) (oi := ⟨some 90, _, _, _, _, _⟩) (v := ?vxb19) rfl (by kernel_rfl) (by kernel_rfl) (by kernel_rfl) (fun _ _ _ h => h) (Or.inl ⟨by rfl, ?yxb19⟩) (by assumption) ?rxb19
    case yxb19 => (intro w hSw; (try dsimp only at hSw); go_simp; (try (with_reducible rfl)))
    try simp only [Act.put, List.setIfInBounds_toArray, List.set_cons_zero, List.set_cons_succ]
    refine wpAnyH_done (by kernel_rfl) ?_ _
    clear hHeld
    have HBZ : Hid (Below N w z18) := HBE.out.trans (HQ.out.mono (bn_le4 HN.out HBE.out))
    clear E1 E2 HKP HQ HBE HK5 HRL HB3
    go_wp2_with fail
    go_loopw [17] (fun vi wr => ∃ (i : Nat), i ≤ nr ∧ i ≤ 4 ∧ vi = .int .i64 i ∧ Hid (Below N w wr)) (fun v _ => nr - (intOf v).toNat)
    case atStart => exact ⟨0, Nat.zero_le _, Nat.zero_le _, rfl, HBZ⟩
    case round =>
      clear HBZ
      obtain ⟨i, hin, hi4, rfl, HBI⟩ := hrel
      by_cases h : i < nr ∧ i < 4
      · obtain ⟨h1, h2⟩ := h
        have q1 : (i : Int) < (nr : Int) := by omega
        have q2 : (i : Int) < 4 := by omega
        have q3 : (0 : Int) ≤ (i : Int) := by omega
        obtain ⟨r, hri⟩ : ∃ r, raw[i]? = some r := ⟨raw[i]'(by rw [HNR.out]; exact h1), List.getElem?_eq_getElem _⟩
        obtain ⟨gb, go, hoa, glt, ra⟩ := (HRB.out _ HBI.out).at i r hri
        subst hoa
        have hrI := HIB.out r (List.mem_of_getElem? hri)
        have hv1 : ∀ W, Calls Tryd.prog 14 #[.agg (recA r)] W fun e w' => e = .returned (.bool (validR r)) ∧ Below W.heap.size W w' := fun W => (valid_any r W hrI).mono (fun e w' h => ⟨h.1, by rw [h.2]; exact (Below.refl _ _).alloc (Nat.le_refl _) _⟩)
        have hv2 := fun W => refValid25_any r W hrI
        obtain ⟨vb, hvb⟩ : ∃ vb, validR r = vb := ⟨_, rfl⟩
        simp only [hvb] at hv1 hv2
        obtain ⟨r0, r1, r2, r3, r4, r5⟩ := r
        obtain ⟨c0, c1, c2, c3, c4, c5⟩ := ra
        dsimp only [recA] at c0 c1 c2 c3 c4 c5 hv1 hv2
        have HV1 := Lib.hid hv1
        have HV2 := Lib.hid hv2
        have hvv : (vb != vb) = false := by cases vb <;> rfl
        have HKP : Hid (∀ W, Below wr.heap.size wr W → W.cell? ⟨gb, go + i * 6, none⟩ = some (.int .i64 r0) ∧ W.cell? ⟨gb, go + i * 6 + 1, none⟩ = some (.int .i64 r1) ∧ W.cell? ⟨gb, go + i * 6 + 2, none⟩ = some (.int .i64 r2) ∧ W.cell? ⟨gb, go + i * 6 + 3, none⟩ = some (.int .i64 r3) ∧ W.cell? ⟨gb, go + i * 6 + 4, none⟩ = some (.int .i64 r4) ∧ W.cell? ⟨gb, go + i * 6 + 5, none⟩ = some (.int .i64 r5)) := fun W hW => by
          have u := fun j => hW.cell (p := ⟨gb, j, none⟩) glt
          rw [u, u, u, u, u, u]
          exact ⟨c0, c1, c2, c3, c4, c5⟩
        have HQ : Hid (Below wr.heap.size wr wr.drew) := (Below.refl _ _).drew
        clear hri hrI hv1 hv2 hvb c0 c1 c2 c3 c4 c5
        go_upto_region 15 with (fail)
        refine wp_region_held_drew (S := fun W => W.cell? ⟨gb, go + i * 6, none⟩ = some (.int .i64 r0) ∧ W.cell? ⟨gb, go + i * 6 + 1, none⟩ = some (.int .i64 r1) ∧ W.cell? ⟨gb, go + i * 6 + 2, none⟩ = some (.int .i64 r2) ∧ W.cell? ⟨gb, go + i * 6 + 3, none⟩ = some (.int .i64 r3) ∧ W.cell? ⟨gb, go + i * 6 + 4, none⟩ = some (.int .i64 r4) ∧ W.cell? ⟨gb, go + i * 6 + 5, none⟩ = some (.int .i64 r5)) (by kernel_rfl) ?_ (fun hHeld => ?_)
        · exact HKP.out _ HQ.out
        refine wpAnyH_take (i := 0) (oi := ⟨some 101, _, _, _, _, _⟩) (v := ?vxc0) rfl (by kernel_rfl) (by kernel_rfl) (by kernel_rfl) (fun _ _ _ h => h) (Or.inl ⟨by rfl, ?yxc0⟩) (by assumption) ?rxc0
        case yxc0 => (intro w hSw; (try dsimp only at hSw); go_simp; (try (with_reducible rfl)))
        try simp only [Act.put, List.setIfInBounds_toArray, List.set_cons_zero, List.set_cons_succ]
        refine wpAnyH_take (i := 1) (oi := ⟨some 102, _, _, _, _, _⟩) (v := ?vxc1) rfl (by kernel_rfl) (by kernel_rfl) (by kernel_rfl) (fun _ _ _ h => h) (Or.inl ⟨by rfl, ?yxc1⟩) (by assumption) ?rxc1
        case yxc1 => (intro w hSw; (try dsimp only at hSw); go_simp; (try (with_reducible rfl)))
        try simp only [Act.put, List.setIfInBounds_toArray, List.set_cons_zero, List.set_cons_succ]
        refine wpAnyH_take (i := 2) (oi := ⟨some 103, _, _, _, _, _⟩) (v := ?vxc2) rfl (by kernel_rfl) (by kernel_rfl) (by kernel_rfl) (fun _ _ _ h => h) (Or.inl ⟨by rfl, ?yxc2⟩) (by assumption) ?rxc2
        case yxc2 => (intro w hSw; (try dsimp only at hSw); go_simp; (try (with_reducible rfl)))
        try simp only [Act.put, List.setIfInBounds_toArray, List.set_cons_zero, List.set_cons_succ]
        refine wpAnyH_take (i := 3) (oi := ⟨some 104, _, _, _, _, _⟩) (v := ?vxc3) rfl (by kernel_rfl) (by kernel_rfl) (by kernel_rfl) (fun _ _ _ h => h) (Or.inl ⟨by rfl, ?yxc3⟩) (by assumption) ?rxc3
        case yxc3 => (intro w hSw; (try dsimp only at hSw); go_simp; (try (with_reducible rfl)))
        try simp only [Act.put, List.setIfInBounds_toArray, List.set_cons_zero, List.set_cons_succ]
        refine wpAnyH_take (i := 5) (oi := ⟨some 106, _, _, _, _, _⟩) (v := ?vxc5) rfl (by kernel_rfl) (by kernel_rfl) (by kernel_rfl) (fun _ _ _ h => h) (Or.inl ⟨by rfl, ?yxc5⟩) (by assumption) ?rxc5
        case yxc5 => (intro w hSw; (try dsimp only at hSw); go_simp; (try (with_reducible rfl)))
        try simp only [Act.put, List.setIfInBounds_toArray, List.set_cons_zero, List.set_cons_succ]
        refine wpAnyH_take (i := 6) (oi := ⟨some 107, _, _, _, _, _⟩) (v := ?vxc6) rfl (by kernel_rfl) (by kernel_rfl) (by kernel_rfl) (fun _ _ _ h => h) (Or.inl ⟨by rfl, ?yxc6⟩) (by assumption) ?rxc6
        case yxc6 => (intro w hSw; (try dsimp only at hSw); go_simp; (try (with_reducible rfl)))
        try simp only [Act.put, List.setIfInBounds_toArray, List.set_cons_zero, List.set_cons_succ]
        refine wpAnyH_take (i := 7) (oi := ⟨some 108, _, _, _, _, _⟩) (v := ?vxc7) rfl (by kernel_rfl) (by kernel_rfl) (by kernel_rfl) (fun _ _ _ h => h) (Or.inl ⟨by rfl, ?yxc7⟩) (by assumption) ?rxc7
        case yxc7 => (intro w hSw; (try dsimp only at hSw); go_simp; (try (with_reducible rfl)))
        try simp only [Act.put, List.setIfInBounds_toArray, List.set_cons_zero, List.set_cons_succ]
        refine wpAnyH_take (i := 8) (oi := ⟨some 109, _, _, _, _, _⟩) (v := ?vxc8) rfl (by kernel_rfl) (by kernel_rfl) (by kernel_rfl) (fun _ _ _ h => h) (Or.inl ⟨by rfl, ?yxc8⟩) (by assumption) ?rxc8
        case yxc8 => (intro w hSw; (try dsimp only at hSw); go_simp; (try (with_reducible rfl)))
        try simp only [Act.put, List.setIfInBounds_toArray, List.set_cons_zero, List.set_cons_succ]
        refine wpAnyH_ready (rs := [4]) (by kernel_rfl) (by simp) (AllReadyH.cons (o := ⟨some 105, _, _, _, _, _⟩) rfl (fun K hK => ?_) AllReadyH.nil)
        go_simp
        refine (HV1.out _).mono ?_
        rintro e z4 ⟨rfl, hb4⟩
        have HQ := Lib.hid (HQ.out.trans (hb4.mono HQ.out.size))
        clear hb4
        go_simp
        refine hK.out _ _ ?_ (fun hHeld2 => ?_)
        · exact HKP.out _ HQ.out
        clear hK K hHeld
        rename _ => hHeld
        try simp only [Act.put, List.setIfInBounds_toArray, List.set_cons_zero, List.set_cons_succ]
        refine wpAnyH_ready (rs := [9]) (by kernel_rfl) (by simp) (AllReadyH.cons (o := ⟨some 110, _, _, _, _, _⟩) rfl (fun K hK => ?_) AllReadyH.nil)
        go_simp
        refine (HV2.out _).mono ?_
        rintro e z9 ⟨rfl, hb9⟩
        have HQ := Lib.hid (HQ.out.trans (hb9.mono HQ.out.size))
        clear hb9
        go_simp
        refine hK.out _ _ ?_ (fun hHeld2 => ?_)
        · exact HKP.out _ HQ.out
        clear hK K hHeld
        rename _ => hHeld
        try simp only [Act.put, List.setIfInBounds_toArray, List.set_cons_zero, List.set_cons_succ]
        refine wpAnyH_take (i := 10) (oi := ⟨some 111, _, _, _, _, _⟩) (v := .bool false) rfl (by kernel_rfl) (by kernel_rfl) (by kernel_rfl) (fun _ _ _ h => h) (Or.inl ⟨by rfl, ?yxc10⟩) (by assumption) ?rxc10
        case yxc10 => (intro w hSw; (try dsimp only at hSw); go_simp; (first | done | (with_reducible rfl) | exact hvv | simpa using hvv))
        try simp only [Act.put, List.setIfInBounds_toArray, List.set_cons_zero, List.set_cons_succ]
        refine wpAnyH_done (by kernel_rfl) ?_ _
        clear hHeld
        have HBJ : Hid (Below N w z9) := HBI.out.trans (HQ.out.mono (bn_le4 HN.out HBI.out))
        clear HKP HQ HV1 HV2 HBI
        go_wp2_with fail
        go_roundw
        case rel => exact ⟨i + 1, by omega, by omega, by go_num, HBJ⟩
        case measure => simp [intOf]; omega
      · rcases (show (¬ (i : Int) < (nr : Int)) ∨ ((i : Int) < (nr : Int) ∧ ¬ (i : Int) < 4) from by omega) with h1 | ⟨h1, h2⟩
        all_goals
          clear h
          go_wp2_with fail
          go_ret
          exact ⟨rfl, by rw [HN.out]; exact HBI.out⟩
end Go.Proofs.YtfpcdlpfmlaakaaDoor
