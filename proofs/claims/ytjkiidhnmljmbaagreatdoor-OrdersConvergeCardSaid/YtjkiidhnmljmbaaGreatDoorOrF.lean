/- Orders: Add of a drop order. -/
import Derived.Deep.CutBlock
import Derived.Test.YtjkiidhnmljmbaaGreatDoorOrE
set_option linter.unusedVariables false
set_option linter.unusedSimpArgs false
set_option maxRecDepth 100000
set_option maxHeartbeats 8000000
namespace Go.Proofs.YtjkiidhnmljmbaaGreatDoor
open Go.RowKit
attribute [local go_sem] Oper.semAt_some
theorem Fr.under (S : Nat → Prop) {A C : World} (h : Below A.heap.size A C) : Fr S A C := ⟨h.os, h.tape, h.output, h.size, fun k hk _ => h.block k hk⟩
theorem step_run {ops : Array Oper} {o : Oper} {a : Act} {K : Act → World → Prop} {Q : Exit → Act → World → Prop} {E : Prop} {W w' : World} {v y v' : Value} {t : TypeId} (hgd : o.guard = none) (s x : Operand)
  (ho : o.op = .call { callee := .builtin .append, args := #[s, x], argTypes := #[t, t] }) (hs : a.eval s = v) (hx : a.eval x = y) (hrun : ∀ ty, (Builtin.append_ #[t, t] ty #[v, y]).run Tryz.prog W = .ok v' w')
  (hK : K (a.put o.dst v') w') :
  if Region.wanted o (yielded ops a.tmps) = true then Oper.wp Tryz.prog o a W K Q else E := by
 have hw : Region.wanted o (yielded ops a.tmps) = true := by simp [Region.wanted, hgd]
 rw [if_pos hw]
 unfold Oper.wp
 simp [execOp, ho, resolve, invoke, builtin, hs, hx, hrun, Result.andThen]
 exact hK
theorem SnAt.cells {W : World} {B bs : Nat} {tn : Int} {vp : Value} {L : List Pst} {k j : Nat} {p : Pst} (h : SnAt W B bs tn vp L k) (hp : L[j]? = some p) :
  ∃ g cap, vp = .slice (some ⟨g, 0, none⟩) L.length cap ∧ g < W.heap.size ∧ B ≤ g ∧ ∀ t, t < 28 → W.cell? ⟨g, j * 28 + t, none⟩ = (pstC j p)[t]? := by
 have h' := h.own
 have hj : j < L.length := (List.getElem?_eq_some_iff.1 hp).1
 rcases h.own.2 with ⟨he, h0⟩ | ⟨g, cap', cur, he, q1, q2, q3⟩
 ·omega
 ·subst he
  refine ⟨g, cap', rfl, (Array.getElem?_eq_some_iff.1 q2).1, q1, fun t ht => ?_⟩
  have hlt : j * 28 + t < (pCells 0 L).length := by rw [pCells_len]; omega
  rw [h'.cellAt _ (by rw [pCells_len] at hlt; exact hlt)]
  have := pCells_at L 0 j p t hp ht
  rw [Nat.zero_add] at this;rw [← this]
theorem SnAt.below {W W' : World} {B bs : Nat} {tn : Int} {vp : Value} {L : List Pst} {k : Nat} (h : SnAt W B bs tn vp L k) (hb : Below W.heap.size W W') : SnAt W' B bs tn vp L k :=
 ⟨h.blk.kept (hb.block _ h.blk.lt), ownsRow_keptF h.own (fun g e => hb.block g (own_lt h.own g e)), h.ge, h.ne⟩
theorem add_ok (W : World) (B bs : Nat) (tn : Int) (vp : Value) (L : List Pst) (k : Nat) (f sq : Int) (h : SnAt W B bs tn vp L k) (hsq : sq = (L.length : Int) + 1) (hL : L.length ≤ 199) (f0 : 0 ≤ f) (f1 : f ≤ 100000000) (hlast : ∀ j p, L[j]? = some p → j + 1 = L.length → p.fr ≤ f) :
  Calls Tryz.prog 25 #[.pointer (some ⟨bs, 0, none⟩), .agg (drA sq f)] W fun e w' => e = .returned (.int .i64 0) ∧ ∃ vp', SnAt w' B bs tn vp' (L ++ [⟨f, false, 0⟩]) k ∧ Fr (fun c => c = bs ∨ vp.ownBlock = some c) W w' ∧ ∀ g, vp'.ownBlock = some g → vp.ownBlock = some g ∨ W.heap.size ≤ g := by
 obtain ⟨N, w1, hN, hw1, hb1, hk1⟩ := bx W (drA sq f) (drA sq f).toList 30 rfl
 have hs1 : SnAt w1 B bs tn vp L k := h.below (by rw [hN]; exact hb1)
 obtain ⟨n, hn⟩ : ∃ n, L.length = n := ⟨_, rfl⟩
 obtain ⟨ov, cv, rfl⟩ := own_slice h.own
 have HSZ := szO
 have HR1 := Lib.hid hk1.range;have HK1 := Lib.hid hk1;have HS1 := Lib.hid hs1;have HN := Lib.hid hN;have HB1 := Lib.hid hb1
 have HLV := Lib.hid (slives_any bs _ _ _ w1 hs1.blk)
 have HVL := Lib.hid (fun W' => valid_drop sq f W' (by omega) (by omega) f0 f1)
 have HLN := Lib.hid hn
 have HNO : Hid (∀ c, (Value.slice ov n cv).ownBlock = some c → c < N ∧ c ≠ bs) := fun c e => ⟨by have := own_lt h.own c (by rw [hn]; exact e); omega, h.ne c (by rw [hn]; exact e)⟩
 have HNB : Hid (bs < N) := (by rw [← hN]; exact h.blk.lt : bs < N)
 have c2 := hs1.blk.cell 2
 simp only [gz, gs] at c2
 rw [hn] at c2 hsq hL;have HSQ := Lib.hid hsq
 dsimp only [drA, ordA] at hw1
 dsimp only [drA, ordA]
 clear hb1 hk1 hs1 h hn hsq
 go_enter Tryz.func25, Tryz.ntmps25
 go_wp2_with fail
 refine HLV.out.mono ?_
 rintro e w' ⟨rfl, rfl⟩
 go_wp2_with (refine wpList_load_mid rfl 30 (.tmp 3) rfl N 0 rfl (drA sq f).toList _ HR1.out Tryz.underlying30 rfl HSZ.out ?_)
 refine (HVL.out _).mono ?_
 rintro e w2 ⟨rfl, hb2⟩
 have hs2 := HS1.out.below hb2
 have hk2 := HK1.out.kept (hb2.block N HK1.out.lt)
 have d0 := hk2.cell 0
 have d2 := hk2.cell 2
 have hb3 := hs2.blk.cell 2
 dsimp only [drA, ordA, Array.toList] at d0 d2
 simp only [gz, gs] at d0 d2 hb3
 rw [HLN.out] at hb3;have HS2 := Lib.hid hs2;have HK2 := Lib.hid hk2
 have HB2 : Hid (Below N W w2) := HB1.out.trans (hb2.mono (bnl9 HN.out HB1.out))
 rw [HSQ.out] at d0;clear hs2 hk2 hb2 HLV HVL c2
 go_upto_region 6 with (fail)
 go_cut [40] from 24 to 41 (fun v wx => v = .bool false ∧ wx = w2.drew)
 case first =>
  rcases Nat.eq_zero_or_pos n with h0 | h0
  ·subst h0
   refine wp_region_held_drew (S := fun W => W.cell? ⟨bs, 2, none⟩ = some (.slice ov 0 cv)) (by kernel_rfl) ?_ (fun hHeld => ?_)
   ·exact hb3
   refine tk 0 (some 24) ?_;refine tk 1 (some 25) ?_;refine tk 2 (some 26) ?_;refine tkU 3 (some 27) ?_;refine tkU 4 (some 28) ?_;refine tkU 5 (some 29) ?_;refine tkU 6 (some 30) ?_;refine tkU 7 (some 31) ?_;refine tkU 8 (some 32) ?_;refine tkU 9 (some 33) ?_;refine tkU 10 (some 34) ?_
   refine tkU 11 (some 35) ?_;refine tkU 12 (some 36) ?_;refine tkU 13 (some 37) ?_;refine tkU 14 (some 38) ?_;refine tkU 15 (some 39) ?_;refine tk 16 (some 40) ?_;refine wpAnyH_done (by kernel_rfl) ?_ _;clear hHeld
   go_wp2_with fail
   go_meet
   exact ⟨rfl, rfl⟩
  ·obtain ⟨j, hj⟩ : ∃ j, n = j + 1 := ⟨n - 1, by omega⟩
   obtain ⟨p, hp⟩ : ∃ p, L[j]? = some p := ⟨L[j]'(by rw [HLN.out]; omega), List.getElem?_eq_getElem _⟩
   obtain ⟨g, cap, hv, hg, hBg, hc⟩ := HS2.out.cells hp
   simp only [Value.slice.injEq] at hv
   obtain ⟨rfl, _, rfl⟩ := hv
   have hcl := hc 2 (by omega)
   have hle := hlast j p hp (by rw [HLN.out, hj])
   obtain ⟨pf, hpf⟩ : ∃ pf, p.fr = pf := ⟨_, rfl⟩
   have hcl : w2.cell? ⟨g, j * 28 + 2, none⟩ = some (.int .i64 pf) := by rw [← hpf]; exact hcl
   rw [hpf] at hle
   have hlt9 : ¬ f < pf := by omega
   have hwr : IntKind.i64.wrap ((n : Int) - 1) = (j : Int) := by rw [IntWalk.i64_in _ (by omega)]; omega
   have q1 : (0 : Int) ≤ (j : Int) := by omega
   have q2 : (j : Int) < (n : Int) := by omega
   have q3 : (n : Int) > 0 := by omega
   clear hp hc hpf hj hle
   refine wp_region_held_drew (S := fun W => W.cell? ⟨bs, 2, none⟩ = some (.slice (some ⟨g, 0, none⟩) n cv) ∧ W.cell? ⟨N, 2, none⟩ = some (.int .i64 f) ∧ W.cell? ⟨g, j * 28 + 2, none⟩ = some (.int .i64 pf)) (by kernel_rfl) ?_ (fun hHeld => ?_)
   ·exact ⟨hb3, d2, hcl⟩
   refine tk 0 (some 24) ?_;refine tk 1 (some 25) ?_;refine tk 2 (some 26) ?_;refine tk 3 (some 27) ?_;refine tk 4 (some 28) ?_;refine tk 5 (some 29) ?_;refine tk 6 (some 30) ?_;refine tk 7 (some 31) ?_;refine tk 8 (some 32) ?_;refine tk 9 (some 33) ?_;refine tk 10 (some 34) ?_
   refine tk 11 (some 35) ?_;refine tk 12 (some 36) ?_;refine tk 13 (some 37) ?_;refine tk 14 (some 38) ?_
   refine tk 15 (some 39) (v := .bool false) ?_ (hy := by (intro w hSw; (try dsimp only at hSw); go_simp; (first | done | (with_reducible rfl) | exact (decide_eq_false hlt9) | simpa using (decide_eq_false hlt9))))
   refine tk 16 (some 40) ?_;refine wpAnyH_done (by kernel_rfl) ?_ _;clear hHeld
   go_wp2_with fail
   go_meet
   exact ⟨rfl, rfl⟩
 case rest =>
  obtain ⟨rfl, hwc⟩ := hcut
  subst hwc
  go_upto_region 8 with (fail)
  have hbd : Below w2.heap.size w2 w2.drew.drew := (Below.refl _ _).drew.drew
  have HS := Lib.hid (HS2.out.below hbd)
  have HK := Lib.hid (HK2.out.drew.drew)
  have HQ : Hid (Below N W w2.drew.drew) := HB2.out.drew.drew
  clear hbd HS1 HS2 HK1 HK2 HB1 HB2 HR1 d0 d2 hb3
  refine wp_region_held_drew (S := fun W => W.rangeAt N 0 (drA sq f).toList) (by kernel_rfl) ?_ (fun hHeld => ?_)
  ·exact HK.out.range
  generalize w2.drew.drew = w3 at HS HK HQ hHeld ⊢;refine tk 0 (some 41) ?_;refine tk 1 (some 42) ?_;refine tk 2 (some 43) ?_;refine tk 3 (some 44) ?_
  refine wpAnyH_take (i := 5) (oi := ⟨some 46, _, _, _, _, _⟩) (v := .agg (drA sq f)) rfl (by kernel_rfl) (by kernel_rfl) (by kernel_rfl) (fun _ _ _ h => h) (yieldsIf_load_mid (by rfl) 30 (.tmp 3) rfl N 0 rfl (drA sq f).toList _ (fun _ h => h) Tryz.underlying30 rfl HSZ.out) (by assumption) ?_
  try simp only [Act.put, sa, sz, ss]
  refine wpAnyH_ready (rs := [4, 6]) (by kernel_rfl) (by simp) (AllReadyH.cons (o := ⟨some 45, _, _, _, _, _⟩) rfl (fun K hK => ?_) (AllReadyH.cons (o := ⟨some 47, _, _, _, _, _⟩) rfl (fun K hK => ?_) AllReadyH.nil))
  ·have c2 := HS.out.blk.cell 2
   simp only [gz, gs] at c2
   rw [HLN.out] at c2;go_simp;clear c2
   refine hK.out _ _ ?_ (fun hHeld2 => ?_)
   ·exact HK.out.range
   clear hK K hHeld;rename _ => hHeld
   try simp only [Act.put, sa, sz, ss]
   refine rd1 6 (some 47) (fun K hK => ?_)
   go_simp
   refine (own_any sq (-1) f 2 1 _).mono ?_
   rintro e w4 ⟨rfl, hb⟩
   have HS := Lib.hid (HS.out.below hb)
   have HS4 := HS
   have HK := Lib.hid (HK.out.kept (hb.block N HK.out.lt))
   have HQ : Hid (Below N W w4) := HQ.out.trans (hb.mono (bnl9 HN.out HQ.out))
   have HQ4 := HQ
   have HK4 := HK
   clear hb
   dsimp only [ordA]
   go_simp
   refine hK.out _ _ ?_ (fun hHeld2 => ?_)
   ·exact HK.out.range
   clear hK K hHeld;rename _ => hHeld;refine tk 7 (some 48) ?_
   refine rd1 8 (some 49) (fun K hK => ?_)
   go_simp
   have hb := (Below.refl w4.heap.size w4).alloc (Nat.le_refl _) (.cells #[.int .i64 sq, .int .i64 (-1), .int .i64 f, .int .i64 2, .int .i64 1, .int .i64 0, .int .i64 0, .int .i64 0, .int .i64 0, .int .i64 0, .int .i64 0, .int .i64 0, .slice none 0 0, .int .i64 0, .int .i64 0, .int .i64 0, .int .i64 0, .int .i64 0, .int .i64 0, .int .i64 0, .int .i64 0, .int .i64 0, .int .i64 0, .int .i64 0, .int .i64 0, .string ⟨#[]⟩, .bool false, .int .i64 0] 125)
   have HS := Lib.hid (HS.out.below hb)
   have HK := Lib.hid (HK.out.kept (hb.block N HK.out.lt))
   clear hb
   refine hK.out _ _ ?_ (fun hHeld2 => ?_)
   ·exact HK.out.range
   clear hK K hHeld;rename _ => hHeld
   try simp only [Act.put, sa, sz, ss]
   refine rd1 9 (some 50) (fun K hK => ?_)
   obtain ⟨oa, cap, w5, hrun, ho5, hf5, hk5⟩ := app_post w4 B (.slice ov n cv) n (pCells 0 L) [.int .i64 sq, .int .i64 (-1), .int .i64 f, .int .i64 2, .int .i64 1, .int .i64 0, .int .i64 0, .int .i64 0, .int .i64 0, .int .i64 0, .int .i64 0, .int .i64 0, .slice none 0 0, .int .i64 0, .int .i64 0, .int .i64 0, .int .i64 0, .int .i64 0, .int .i64 0, .int .i64 0, .int .i64 0, .int .i64 0, .int .i64 0, .int .i64 0, .int .i64 0, .string ⟨#[]⟩, .bool false, .int .i64 0] (by have := HS4.out.own; rw [HLN.out] at this; exact this) (by omega) (Nat.le_trans HS4.out.ge (Nat.le_of_lt HS4.out.blk.lt)) 116 rfl (by simp [Value.oneCell'])
   refine step_run (by rfl) _ _ (by rfl) (by rfl) (by rfl) (fun _ => hrun) ?_
   have HK := Lib.hid (HK4.out.kept (hf5.block N HK4.out.lt (fun e => by have := (HNO.out N e).1; omega)))
   have HB5 := Lib.hid (HS4.out.blk.kept (hf5.block bs HS4.out.blk.lt (fun e => (HNO.out bs e).2 rfl)))
   have HO5 := Lib.hid ho5;have HF5 := Lib.hid hf5;have HG5 := Lib.hid hk5;clear hrun ho5 hf5 hk5
   refine hK.out _ _ ?_ (fun hHeld2 => ?_)
   ·exact HK.out.range
   clear hK K hHeld;rename _ => hHeld;refine tk 10 (some 51) ?_;refine tk 11 (some 52) ?_
   refine rd1 12 none (fun K hK => ?_)
   have c2 := HB5.out.cell 2
   have z2 := HB5.out.frozen 2
   simp only [gz, gs] at c2
   go_simp;clear c2 z2
   have HK := Lib.hid (HK.out.other ⟨bs, 2, none⟩ (show bs ≠ N by have := HNB.out; omega) (.slice oa (n + 1) cap))
   refine hK.out _ _ ?_ (fun hHeld2 => ?_)
   ·exact HK.out.range
   clear hK K hHeld;rename _ => hHeld
   try simp only [Act.put, sa, sz, ss]
   refine wpAnyH_done (by kernel_rfl) ?_ _;clear hHeld
   go_wp2_with fail
   go_ret
   have hne : ∀ c, (Value.slice oa (n + 1) cap).ownBlock = some c → c ≠ bs := fun c e => (HG5.out c e).elim (fun h => (HNO.out c h).2) (fun h => by have := HS4.out.blk.lt; omega)
   have hpc : pCells 0 L ++ [.int .i64 sq, .int .i64 (-1), .int .i64 f, .int .i64 2, .int .i64 1, .int .i64 0, .int .i64 0, .int .i64 0, .int .i64 0, .int .i64 0, .int .i64 0, .int .i64 0, .slice none 0 0, .int .i64 0, .int .i64 0, .int .i64 0, .int .i64 0, .int .i64 0, .int .i64 0, .int .i64 0, .int .i64 0, .int .i64 0, .int .i64 0, .int .i64 0, .int .i64 0, .string ⟨#[]⟩, .bool false, .int .i64 0] = pCells 0 (L ++ [⟨f, false, 0⟩]) := by
    rw [← pCells_snoc, Nat.zero_add, HLN.out]
    unfold pstC
    rw [← HSQ.out]
    rfl
   have hln : (L ++ [(⟨f, false, 0⟩ : Pst)]).length = n + 1 := by rw [List.length_append, HLN.out]; rfl
   have ho := HO5.out
   rw [hpc] at ho
   refine ⟨rfl, .slice oa (n + 1) cap, ⟨HB5.out.set 2 _, ?_, HS4.out.ge, hne⟩, ?_, ?_⟩
   ·rw [hln]
    exact ownsRow_keptF ho (fun c e => Below.heap_setCell _ _ _ _ (fun h => hne c e h))
   ·rw [HLN.out]
    have h1 : Fr (fun c => c = bs ∨ (Value.slice ov n cv).ownBlock = some c) W w4 := Fr.under _ (by rw [HN.out]; exact HQ4.out)
    exact (h1.trans HF5.out (fun c _ h => .inr h)).setCell ⟨bs, 2, none⟩ _ (.inl (.inl rfl))
   ·intro c e
    rw [HLN.out]
    exact (HG5.out c e).imp_right (fun h => by have := HQ4.out.size; have := HN.out; omega)
  ·go_simp
   refine (own_any sq (-1) f 2 1 _).mono ?_
   rintro e w4 ⟨rfl, hb⟩
   have HS := Lib.hid (HS.out.below hb)
   have HS4 := HS
   have HK := Lib.hid (HK.out.kept (hb.block N HK.out.lt))
   have HQ : Hid (Below N W w4) := HQ.out.trans (hb.mono (bnl9 HN.out HQ.out))
   have HQ4 := HQ
   have HK4 := HK
   clear hb
   dsimp only [ordA]
   go_simp
   refine hK.out _ _ ?_ (fun hHeld2 => ?_)
   ·exact HK.out.range
   clear hK K hHeld;rename _ => hHeld;refine tk 7 (some 48) ?_
   refine wpAnyH_ready (rs := [4, 8]) (by kernel_rfl) (by simp) (AllReadyH.cons (o := ⟨some 45, _, _, _, _, _⟩) rfl (fun K hK => ?_) (AllReadyH.cons (o := ⟨some 49, _, _, _, _, _⟩) rfl (fun K hK => ?_) AllReadyH.nil))
   ·have c2 := HS.out.blk.cell 2
    simp only [gz, gs] at c2
    rw [HLN.out] at c2;go_simp;clear c2
    refine hK.out _ _ ?_ (fun hHeld2 => ?_)
    ·exact HK.out.range
    clear hK K hHeld;rename _ => hHeld
    try simp only [Act.put, sa, sz, ss]
    refine rd1 8 (some 49) (fun K hK => ?_)
    go_simp
    have hb := (Below.refl w4.heap.size w4).alloc (Nat.le_refl _) (.cells #[.int .i64 sq, .int .i64 (-1), .int .i64 f, .int .i64 2, .int .i64 1, .int .i64 0, .int .i64 0, .int .i64 0, .int .i64 0, .int .i64 0, .int .i64 0, .int .i64 0, .slice none 0 0, .int .i64 0, .int .i64 0, .int .i64 0, .int .i64 0, .int .i64 0, .int .i64 0, .int .i64 0, .int .i64 0, .int .i64 0, .int .i64 0, .int .i64 0, .int .i64 0, .string ⟨#[]⟩, .bool false, .int .i64 0] 125)
    have HS := Lib.hid (HS.out.below hb)
    have HK := Lib.hid (HK.out.kept (hb.block N HK.out.lt))
    clear hb
    refine hK.out _ _ ?_ (fun hHeld2 => ?_)
    ·exact HK.out.range
    clear hK K hHeld;rename _ => hHeld
    try simp only [Act.put, sa, sz, ss]
    refine rd1 9 (some 50) (fun K hK => ?_)
    obtain ⟨oa, cap, w5, hrun, ho5, hf5, hk5⟩ := app_post w4 B (.slice ov n cv) n (pCells 0 L) [.int .i64 sq, .int .i64 (-1), .int .i64 f, .int .i64 2, .int .i64 1, .int .i64 0, .int .i64 0, .int .i64 0, .int .i64 0, .int .i64 0, .int .i64 0, .int .i64 0, .slice none 0 0, .int .i64 0, .int .i64 0, .int .i64 0, .int .i64 0, .int .i64 0, .int .i64 0, .int .i64 0, .int .i64 0, .int .i64 0, .int .i64 0, .int .i64 0, .int .i64 0, .string ⟨#[]⟩, .bool false, .int .i64 0] (by have := HS4.out.own; rw [HLN.out] at this; exact this) (by omega) (Nat.le_trans HS4.out.ge (Nat.le_of_lt HS4.out.blk.lt)) 116 rfl (by simp [Value.oneCell'])
    refine step_run (by rfl) _ _ (by rfl) (by rfl) (by rfl) (fun _ => hrun) ?_
    have HK := Lib.hid (HK4.out.kept (hf5.block N HK4.out.lt (fun e => by have := (HNO.out N e).1; omega)))
    have HB5 := Lib.hid (HS4.out.blk.kept (hf5.block bs HS4.out.blk.lt (fun e => (HNO.out bs e).2 rfl)))
    have HO5 := Lib.hid ho5;have HF5 := Lib.hid hf5;have HG5 := Lib.hid hk5;clear hrun ho5 hf5 hk5
    refine hK.out _ _ ?_ (fun hHeld2 => ?_)
    ·exact HK.out.range
    clear hK K hHeld;rename _ => hHeld;refine tk 10 (some 51) ?_;refine tk 11 (some 52) ?_
    refine rd1 12 none (fun K hK => ?_)
    have c2 := HB5.out.cell 2
    have z2 := HB5.out.frozen 2
    simp only [gz, gs] at c2
    go_simp;clear c2 z2
    have HK := Lib.hid (HK.out.other ⟨bs, 2, none⟩ (show bs ≠ N by have := HNB.out; omega) (.slice oa (n + 1) cap))
    refine hK.out _ _ ?_ (fun hHeld2 => ?_)
    ·exact HK.out.range
    clear hK K hHeld;rename _ => hHeld
    try simp only [Act.put, sa, sz, ss]
    refine wpAnyH_done (by kernel_rfl) ?_ _;clear hHeld
    go_wp2_with fail
    go_ret
    have hne : ∀ c, (Value.slice oa (n + 1) cap).ownBlock = some c → c ≠ bs := fun c e => (HG5.out c e).elim (fun h => (HNO.out c h).2) (fun h => by have := HS4.out.blk.lt; omega)
    have hpc : pCells 0 L ++ [.int .i64 sq, .int .i64 (-1), .int .i64 f, .int .i64 2, .int .i64 1, .int .i64 0, .int .i64 0, .int .i64 0, .int .i64 0, .int .i64 0, .int .i64 0, .int .i64 0, .slice none 0 0, .int .i64 0, .int .i64 0, .int .i64 0, .int .i64 0, .int .i64 0, .int .i64 0, .int .i64 0, .int .i64 0, .int .i64 0, .int .i64 0, .int .i64 0, .int .i64 0, .string ⟨#[]⟩, .bool false, .int .i64 0] = pCells 0 (L ++ [⟨f, false, 0⟩]) := by
     rw [← pCells_snoc, Nat.zero_add, HLN.out]
     unfold pstC
     rw [← HSQ.out]
     rfl
    have hln : (L ++ [(⟨f, false, 0⟩ : Pst)]).length = n + 1 := by rw [List.length_append, HLN.out]; rfl
    have ho := HO5.out
    rw [hpc] at ho
    refine ⟨rfl, .slice oa (n + 1) cap, ⟨HB5.out.set 2 _, ?_, HS4.out.ge, hne⟩, ?_, ?_⟩
    ·rw [hln]
     exact ownsRow_keptF ho (fun c e => Below.heap_setCell _ _ _ _ (fun h => hne c e h))
    ·rw [HLN.out]
     have h1 : Fr (fun c => c = bs ∨ (Value.slice ov n cv).ownBlock = some c) W w4 := Fr.under _ (by rw [HN.out]; exact HQ4.out)
     exact (h1.trans HF5.out (fun c _ h => .inr h)).setCell ⟨bs, 2, none⟩ _ (.inl (.inl rfl))
    ·intro c e
     rw [HLN.out]
     exact (HG5.out c e).imp_right (fun h => by have := HQ4.out.size; have := HN.out; omega)
   ·go_simp
    have hb := (Below.refl w4.heap.size w4).alloc (Nat.le_refl _) (.cells #[.int .i64 sq, .int .i64 (-1), .int .i64 f, .int .i64 2, .int .i64 1, .int .i64 0, .int .i64 0, .int .i64 0, .int .i64 0, .int .i64 0, .int .i64 0, .int .i64 0, .slice none 0 0, .int .i64 0, .int .i64 0, .int .i64 0, .int .i64 0, .int .i64 0, .int .i64 0, .int .i64 0, .int .i64 0, .int .i64 0, .int .i64 0, .int .i64 0, .int .i64 0, .string ⟨#[]⟩, .bool false, .int .i64 0] 125)
    have HS := Lib.hid (HS.out.below hb)
    have HK := Lib.hid (HK.out.kept (hb.block N HK.out.lt))
    clear hb
    refine hK.out _ _ ?_ (fun hHeld2 => ?_)
    ·exact HK.out.range
    clear hK K hHeld;rename _ => hHeld
    try simp only [Act.put, sa, sz, ss]
    refine rd1 4 (some 45) (fun K hK => ?_)
    have c2 := HS.out.blk.cell 2
    simp only [gz, gs] at c2
    rw [HLN.out] at c2;go_simp;clear c2
    refine hK.out _ _ ?_ (fun hHeld2 => ?_)
    ·exact HK.out.range
    clear hK K hHeld;rename _ => hHeld
    try simp only [Act.put, sa, sz, ss]
    refine rd1 9 (some 50) (fun K hK => ?_)
    obtain ⟨oa, cap, w5, hrun, ho5, hf5, hk5⟩ := app_post w4 B (.slice ov n cv) n (pCells 0 L) [.int .i64 sq, .int .i64 (-1), .int .i64 f, .int .i64 2, .int .i64 1, .int .i64 0, .int .i64 0, .int .i64 0, .int .i64 0, .int .i64 0, .int .i64 0, .int .i64 0, .slice none 0 0, .int .i64 0, .int .i64 0, .int .i64 0, .int .i64 0, .int .i64 0, .int .i64 0, .int .i64 0, .int .i64 0, .int .i64 0, .int .i64 0, .int .i64 0, .int .i64 0, .string ⟨#[]⟩, .bool false, .int .i64 0] (by have := HS4.out.own; rw [HLN.out] at this; exact this) (by omega) (Nat.le_trans HS4.out.ge (Nat.le_of_lt HS4.out.blk.lt)) 116 rfl (by simp [Value.oneCell'])
    refine step_run (by rfl) _ _ (by rfl) (by rfl) (by rfl) (fun _ => hrun) ?_
    have HK := Lib.hid (HK4.out.kept (hf5.block N HK4.out.lt (fun e => by have := (HNO.out N e).1; omega)))
    have HB5 := Lib.hid (HS4.out.blk.kept (hf5.block bs HS4.out.blk.lt (fun e => (HNO.out bs e).2 rfl)))
    have HO5 := Lib.hid ho5;have HF5 := Lib.hid hf5;have HG5 := Lib.hid hk5;clear hrun ho5 hf5 hk5
    refine hK.out _ _ ?_ (fun hHeld2 => ?_)
    ·exact HK.out.range
    clear hK K hHeld;rename _ => hHeld;refine tk 10 (some 51) ?_;refine tk 11 (some 52) ?_
    refine rd1 12 none (fun K hK => ?_)
    have c2 := HB5.out.cell 2
    have z2 := HB5.out.frozen 2
    simp only [gz, gs] at c2
    go_simp;clear c2 z2
    have HK := Lib.hid (HK.out.other ⟨bs, 2, none⟩ (show bs ≠ N by have := HNB.out; omega) (.slice oa (n + 1) cap))
    refine hK.out _ _ ?_ (fun hHeld2 => ?_)
    ·exact HK.out.range
    clear hK K hHeld;rename _ => hHeld
    try simp only [Act.put, sa, sz, ss]
    refine wpAnyH_done (by kernel_rfl) ?_ _;clear hHeld
    go_wp2_with fail
    go_ret
    have hne : ∀ c, (Value.slice oa (n + 1) cap).ownBlock = some c → c ≠ bs := fun c e => (HG5.out c e).elim (fun h => (HNO.out c h).2) (fun h => by have := HS4.out.blk.lt; omega)
    have hpc : pCells 0 L ++ [.int .i64 sq, .int .i64 (-1), .int .i64 f, .int .i64 2, .int .i64 1, .int .i64 0, .int .i64 0, .int .i64 0, .int .i64 0, .int .i64 0, .int .i64 0, .int .i64 0, .slice none 0 0, .int .i64 0, .int .i64 0, .int .i64 0, .int .i64 0, .int .i64 0, .int .i64 0, .int .i64 0, .int .i64 0, .int .i64 0, .int .i64 0, .int .i64 0, .int .i64 0, .string ⟨#[]⟩, .bool false, .int .i64 0] = pCells 0 (L ++ [⟨f, false, 0⟩]) := by
     rw [← pCells_snoc, Nat.zero_add, HLN.out]
     unfold pstC
     rw [← HSQ.out]
     rfl
    have hln : (L ++ [(⟨f, false, 0⟩ : Pst)]).length = n + 1 := by rw [List.length_append, HLN.out]; rfl
    have ho := HO5.out
    rw [hpc] at ho
    refine ⟨rfl, .slice oa (n + 1) cap, ⟨HB5.out.set 2 _, ?_, HS4.out.ge, hne⟩, ?_, ?_⟩
    ·rw [hln]
     exact ownsRow_keptF ho (fun c e => Below.heap_setCell _ _ _ _ (fun h => hne c e h))
    ·rw [HLN.out]
     have h1 : Fr (fun c => c = bs ∨ (Value.slice ov n cv).ownBlock = some c) W w4 := Fr.under _ (by rw [HN.out]; exact HQ4.out)
     exact (h1.trans HF5.out (fun c _ h => .inr h)).setCell ⟨bs, 2, none⟩ _ (.inl (.inl rfl))
    ·intro c e
     rw [HLN.out]
     exact (HG5.out c e).imp_right (fun h => by have := HQ4.out.size; have := HN.out; omega)
theorem add_bad (W : World) (B bs : Nat) (tn : Int) (vp : Value) (L : List Pst) (k : Nat) (f sq : Int) (h : SnAt W B bs tn vp L k) (hsq : sq = (L.length : Int) + 1) (hL : L.length ≤ 199) (f0 : 0 ≤ f) (f1 : f ≤ 100000000) (j : Nat) (p : Pst) (hp : L[j]? = some p) (hj : j + 1 = L.length) (hlt : f < p.fr) :
  Calls Tryz.prog 25 #[.pointer (some ⟨bs, 0, none⟩), .agg (drA sq f)] W fun e w' => e = .returned (.int .i64 200) ∧ Below W.heap.size W w' := by
 obtain ⟨N, w1, hN, hw1, hb1, hk1⟩ := bx W (drA sq f) (drA sq f).toList 30 rfl
 have hs1 : SnAt w1 B bs tn vp L k := h.below (by rw [hN]; exact hb1)
 obtain ⟨n, hn⟩ : ∃ n, L.length = n := ⟨_, rfl⟩
 obtain ⟨ov, cv, rfl⟩ := own_slice h.own
 have HSZ := szO
 have HR1 := Lib.hid hk1.range;have HK1 := Lib.hid hk1;have HS1 := Lib.hid hs1;have HN := Lib.hid hN;have HB1 := Lib.hid hb1
 have HLV := Lib.hid (slives_any bs _ _ _ w1 hs1.blk)
 have HVL := Lib.hid (fun W' => valid_drop sq f W' (by omega) (by omega) f0 f1)
 have HLN := Lib.hid hn
 have HNO : Hid (∀ c, (Value.slice ov n cv).ownBlock = some c → c < N ∧ c ≠ bs) := fun c e => ⟨by have := own_lt h.own c (by rw [hn]; exact e); omega, h.ne c (by rw [hn]; exact e)⟩
 have HNB : Hid (bs < N) := (by rw [← hN]; exact h.blk.lt : bs < N)
 have c2 := hs1.blk.cell 2
 simp only [gz, gs] at c2
 rw [hn] at c2 hsq hL hj;have HSQ := Lib.hid hsq
 dsimp only [drA, ordA] at hw1
 dsimp only [drA, ordA]
 clear hb1 hk1 hs1 h hn hsq
 go_enter Tryz.func25, Tryz.ntmps25
 go_wp2_with fail
 refine HLV.out.mono ?_
 rintro e w' ⟨rfl, rfl⟩
 go_wp2_with (refine wpList_load_mid rfl 30 (.tmp 3) rfl N 0 rfl (drA sq f).toList _ HR1.out Tryz.underlying30 rfl HSZ.out ?_)
 refine (HVL.out _).mono ?_
 rintro e w2 ⟨rfl, hb2⟩
 have hs2 := HS1.out.below hb2
 have hk2 := HK1.out.kept (hb2.block N HK1.out.lt)
 have d0 := hk2.cell 0
 have d2 := hk2.cell 2
 have hb3 := hs2.blk.cell 2
 dsimp only [drA, ordA, Array.toList] at d0 d2
 simp only [gz, gs] at d0 d2 hb3
 rw [HLN.out] at hb3;have HS2 := Lib.hid hs2;have HK2 := Lib.hid hk2
 have HB2 : Hid (Below N W w2) := HB1.out.trans (hb2.mono (bnl9 HN.out HB1.out))
 rw [HSQ.out] at d0;clear hs2 hk2 hb2 HLV HVL c2
 go_upto_region 6 with (fail)
 obtain ⟨g, cap, hv, hg, hBg, hc⟩ := HS2.out.cells hp
 simp only [Value.slice.injEq] at hv
 obtain ⟨rfl, _, rfl⟩ := hv
 have hcl := hc 2 (by omega)
 obtain ⟨pf, hpf⟩ : ∃ pf, p.fr = pf := ⟨_, rfl⟩
 have hcl : w2.cell? ⟨g, j * 28 + 2, none⟩ = some (.int .i64 pf) := by rw [← hpf]; exact hcl
 rw [hpf] at hlt
 have hwr : IntKind.i64.wrap ((n : Int) - 1) = (j : Int) := by rw [IntWalk.i64_in _ (by omega)]; omega
 have q1 : (0 : Int) ≤ (j : Int) := by omega
 have q2 : (j : Int) < (n : Int) := by omega
 have h0 : 0 < n := by omega
 have q3 : (n : Int) > 0 := by omega
 clear hp hc hpf hj
 refine wp_region_held_drew (S := fun W => W.cell? ⟨bs, 2, none⟩ = some (.slice (some ⟨g, 0, none⟩) n cv) ∧ W.cell? ⟨N, 2, none⟩ = some (.int .i64 f) ∧ W.cell? ⟨g, j * 28 + 2, none⟩ = some (.int .i64 pf)) (by kernel_rfl) ?_ (fun hHeld => ?_)
 ·exact ⟨hb3, d2, hcl⟩
 refine tk 0 (some 24) ?_;refine tk 1 (some 25) ?_;refine tk 2 (some 26) ?_;refine tk 3 (some 27) ?_;refine tk 4 (some 28) ?_;refine tk 5 (some 29) ?_;refine tk 6 (some 30) ?_;refine tk 7 (some 31) ?_;refine tk 8 (some 32) ?_;refine tk 9 (some 33) ?_;refine tk 10 (some 34) ?_
 refine tk 11 (some 35) ?_;refine tk 12 (some 36) ?_;refine tk 13 (some 37) ?_;refine tk 14 (some 38) ?_
 refine tk 15 (some 39) (v := .bool true) ?_ (hy := by (intro w hSw; (try dsimp only at hSw); go_simp; (first | done | (with_reducible rfl) | exact (decide_eq_true hlt) | simpa using (decide_eq_true hlt))))
 refine tk 16 (some 40) ?_;refine wpAnyH_done (by kernel_rfl) ?_ _;clear hHeld
 go_wp2_with fail
 go_ret
 exact ⟨rfl, by rw [HN.out]; exact HB2.out.drew⟩
end Go.Proofs.YtjkiidhnmljmbaaGreatDoor
