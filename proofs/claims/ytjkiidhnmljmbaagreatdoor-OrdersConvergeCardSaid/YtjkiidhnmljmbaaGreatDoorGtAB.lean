/- Orders of every kind: a sender in memory. -/
import Derived.Test.YtjkiidhnmljmbaaGreatDoorGsAB
set_option linter.unusedVariables false
set_option linter.unusedSimpArgs false
set_option maxRecDepth 100000
set_option maxHeartbeats 8000000
namespace Go.Proofs.YtjkiidhnmljmbaaGreatDoor
open Go.RowKit
structure PG where
 p : GP
 sent : Bool
 at_ : Int
def pgC (q : PG) : List Value := q.p.o.l ++ [.bool q.sent, .int .i64 q.at_]
def gpCells (L : List PG) : List Value := L.flatMap pgC
theorem pgC_len (q : PG) : (pgC q).length = 28 := rfl
theorem gpCells_snoc (L : List PG) (q : PG) : gpCells (L ++ [q]) = gpCells L ++ pgC q := by simp [gpCells]
theorem gpCells_len (L : List PG) : (gpCells L).length = L.length * 28 := by
 induction L with
 | nil => rfl
 | cons p L ih =>
  have h : (gpCells (p :: L)).length = (pgC p).length + (gpCells L).length := by simp [gpCells]
  rw [h, ih, pgC_len, List.length_cons]
  omega
theorem gpCells_at : ∀ (L : List PG) (j : Nat) (q : PG) (t : Nat), L[j]? = some q → t < 28 → (gpCells L)[j * 28 + t]? = (pgC q)[t]?
 | [], _, _, _, h, _ => by simp at h
 | p :: L, 0, q, t, h, ht => by
  simp at h
  subst h
  have e : gpCells (p :: L) = pgC p ++ gpCells L := by simp [gpCells]
  rw [e, List.getElem?_append_left (by rw [pgC_len]; omega), Nat.zero_mul, Nat.zero_add]
 | p :: L, j + 1, q, t, h, ht => by
  have e : gpCells (p :: L) = pgC p ++ gpCells L := by simp [gpCells]
  rw [e, List.getElem?_append_right (by rw [pgC_len]; omega), pgC_len, show (j + 1) * 28 + t - 28 = j * 28 + t by omega]
  exact gpCells_at L j q t (by simpa using h) ht
structure SnG (W : World) (B bs : Nat) (tn : Int) (vp : Value) (L : List PG) (k : Nat) : Prop where
 blk : Blk W bs 118 [.int .i64 tn, .bool true, vp, .int .i64 k]
 own : W.ownsRow B 125 28 vp L.length (gpCells L)
 ge : B ≤ bs
 ne : ∀ g, vp.ownBlock = some g → g ≠ bs
 alts : ∀ q ∈ L, GAt W B bs bs vp q.p
section
variable {W W' : World} {B bs : Nat} {tn : Int} {vp : Value} {L : List PG} {k : Nat}
theorem SnG.cells {j : Nat} {q : PG} (h : SnG W B bs tn vp L k) (hp : L[j]? = some q) :
  ∃ g cap, vp = .slice (some ⟨g, 0, none⟩) L.length cap ∧ g < W.heap.size ∧ B ≤ g ∧ ∀ t, t < 28 → W.cell? ⟨g, j * 28 + t, none⟩ = (pgC q)[t]? := by
 have h' := h.own
 have hj : j < L.length := (List.getElem?_eq_some_iff.1 hp).1
 rcases h.own.2 with ⟨he, h0⟩ | ⟨g, cap', cur, he, q1, q2, q3⟩
 ·omega
 ·subst he
  refine ⟨g, cap', rfl, (Array.getElem?_eq_some_iff.1 q2).1, q1, fun t ht => ?_⟩
  have hlt : j * 28 + t < (gpCells L).length := by rw [gpCells_len]; omega
  rw [h'.cellAt _ (by rw [gpCells_len] at hlt; exact hlt)]
  exact gpCells_at L j q t hp ht
theorem SnG.turn (h : SnG W B bs tn vp L k) {S : Nat → Prop} (hf : Fr S W W') (hS : ∀ c, S c → c ≠ bs ∧ vp.ownBlock ≠ some c) (hA : ∀ q ∈ L, q.p.al ≠ [] → ∀ a, q.p.o.ao = some a → ¬ S a.block) : SnG W' B bs tn vp L k :=
 ⟨h.blk.kept (hf.block _ h.blk.lt (fun e => (hS _ e).1 rfl)), ownsRow_keptF h.own (fun g e => hf.block g (own_lt h.own g e) (fun hs => (hS g hs).2 e)), h.ge, h.ne, fun q hq => (h.alts q hq).turn hf (hA q hq) (fun c e => .inl e)⟩
theorem SnG.below (h : SnG W B bs tn vp L k) (hb : Below W.heap.size W W') : SnG W' B bs tn vp L k := h.turn (Fr.under (fun _ => False) hb) (fun _ e => e.elim) (fun _ _ _ _ _ e => e)
theorem SnG.bge (h : SnG W B bs tn vp L k) (c : Nat) (hc : c = bs ∨ vp.ownBlock = some c) : B ≤ c := hc.elim (fun e => e ▸ h.ge) (fun e => own_ge h.own c e)
theorem SnG.app {ob : Option Addr} {cb n : Nat} {q : PG} (h : SnG W B bs tn vp L k) (hn : L.length = n) (ho : W'.ownsRow B 125 28 (.slice ob (n + 1) cb) (n + 1) (gpCells L ++ pgC q)) (hf : Fr (fun c => vp.ownBlock = some c) W W') (hnew : ∀ c, (Value.slice ob (n + 1) cb).ownBlock = some c → vp.ownBlock = some c ∨ W.heap.size ≤ c) (hq : GAt W B bs bs vp q.p) :
  SnG (W'.setCell ⟨bs, 2, none⟩ (.slice ob (n + 1) cb)) B bs tn (.slice ob (n + 1) cb) (L ++ [q]) k := by
 subst hn
 have hne : ∀ c, (Value.slice ob (L.length + 1) cb).ownBlock = some c → c ≠ bs := fun c e => (hnew c e).elim (fun e => h.ne c e) (fun e => by have := h.blk.lt; omega)
 refine ⟨(h.blk.kept (hf.block _ h.blk.lt (fun e => h.ne _ e rfl))).set 2 _, ?_, h.ge, hne, fun p hp => ?_⟩
 ·rw [List.length_append, gpCells_snoc]
  exact ownsRow_keptF ho (fun c e => Below.heap_setCell _ _ _ _ (hne c e))
 ·have ha : GAt W B bs bs vp p.p := by
   rcases List.mem_append.1 hp with hp | hp
   ·exact h.alts p hp
   ·rw [List.mem_singleton.1 hp]
    exact hq
  exact ha.turn (S := fun c => vp.ownBlock = some c ∨ c = bs) ((hf.mono (fun c h => Or.inl h)).setCell ⟨bs, 2, none⟩ _ (.inl (.inr rfl))) (fun hn a e => (fun hs => hs.elim (ha.own hn a e).2.2.2.2 (ha.own hn a e).2.2.1)) (fun c e => hnew c e)
end
theorem gAddG (W : World) (B bs : Nat) (tn : Int) (vp : Value) (L : List PG) (k : Nat) (o : GOd) (al : List (Int × Int)) (hna : al.length = o.an) (hlm : o.an ≤ 1000000) (hr : RdA W o.ao al) (hts : o.txt.size ≤ maxLen) (hok : okB o al = true) (h : SnG W B bs tn vp L k) (hsq : o.s = (L.length : Int) + 1) (hL : L.length ≤ 199) (hlast : ∀ j p, L[j]? = some p → j + 1 = L.length → p.p.o.f ≤ o.f) :
  Calls Tryz.prog 25 #[.pointer (some ⟨bs, 0, none⟩), .agg o.l.toArray] W fun e w' => e = .returned (.int .i64 0) ∧ ∃ vp' oa9 ac9, SnG w' B bs tn vp' (L ++ [⟨⟨o.withA oa9 ac9, al⟩, false, 0⟩]) k ∧ Fr (fun c => c = bs ∨ vp.ownBlock = some c) W w' ∧ (∀ c, vp'.ownBlock = some c → vp.ownBlock = some c ∨ W.heap.size ≤ c) ∧ ∀ x, oa9 = some x → W.heap.size ≤ x.block := by
 obtain ⟨N, w1, hN, hw1, hb1, hk1⟩ := bx W (aO o) o.l 30 rfl
 have hs1 : SnG w1 B bs tn vp L k := h.below (by rw [hN]; exact hb1)
 obtain ⟨n, hn⟩ : ∃ n, L.length = n := ⟨_, rfl⟩
 obtain ⟨ov, cv, rfl⟩ := own_slice h.own
 have HSZ := szO
 have HR1 := Lib.hid hk1.range;have HK1 := Lib.hid hk1;have HS1 := Lib.hid hs1;have HN := Lib.hid hN;have HB1 := Lib.hid hb1
 have HLV := Lib.hid (slives_any bs _ _ _ w1 hs1.blk)
 have HVL := Lib.hid (hok ▸ gValid o al w1 hna hlm (hr.kept (hN ▸ hb1)) hts)
 have HRD : Hid (RdA W o.ao al) := hr
 have HLN := Lib.hid hn
 have HNO : Hid (∀ c, (Value.slice ov n cv).ownBlock = some c → c < N ∧ c ≠ bs) := fun c e => ⟨by have := own_lt h.own c (by rw [hn]; exact e); omega, h.ne c (by rw [hn]; exact e)⟩
 have HNB : Hid (bs < N) := (by rw [← hN]; exact h.blk.lt : bs < N)
 have c2 := hs1.blk.cell 2
 simp only [gz, gs] at c2
 rw [hn] at c2 hsq hL;have HSQ := Lib.hid hsq
 show Calls Tryz.prog 25 #[.pointer (some ⟨bs, 0, none⟩), .agg (aO o)] W _
 clear hb1 hk1 hs1 h hn hsq hr
 go_enter Tryz.func25, Tryz.ntmps25
 go_wp2_with fail
 refine HLV.out.mono ?_
 rintro e w' ⟨rfl, rfl⟩
 go_wp2_with (refine wpList_load_mid rfl 30 (.tmp 3) rfl N 0 rfl o.l _ HR1.out Tryz.underlying30 rfl HSZ.out ?_)
 refine HVL.out.mono ?_
 rintro e w2 ⟨rfl, hb2⟩
 have hs2 := HS1.out.below hb2
 have hk2 := HK1.out.kept (hb2.block N HK1.out.lt)
 have d0 : w2.cell? ⟨N, 0, none⟩ = some (.int .i64 o.s) := hk2.cell 0
 have d2 : w2.cell? ⟨N, 2, none⟩ = some (.int .i64 o.f) := hk2.cell 2
 have hb3 := hs2.blk.cell 2
 simp only [gz, gs] at hb3
 rw [HLN.out] at hb3;have HS2 := Lib.hid hs2;have HK2 := Lib.hid hk2
 have HB2 : Hid (Below N W w2) := HB1.out.trans (hb2.mono (bnl9 HN.out HB1.out))
 rw [HSQ.out] at d0;clear hs2 hk2 hb2 HLV HVL c2
 go_upto_region 6 with (fail)
 go_cut [40] from 24 to 41 (fun v wx => v = .bool false ∧ wx = w2.drew)
 case first =>
  rcases Nat.eq_zero_or_pos n with h0 | h0
  ·subst h0
   refine wp_region_held_drew (S := fun W => W.cell? ⟨bs, 2, none⟩ = some (.slice ov 0 cv)) (by kernel_rfl) ?_ (fun hHeld => ?_)
   ·exact hb3
   refine tk 0 (some 24) ?_;refine tk 1 (some 25) ?_;refine tk 2 (some 26) ?_;refine tkU 3 (some 27) ?_;refine tkU 4 (some 28) ?_;refine tkU 5 (some 29) ?_;refine tkU 6 (some 30) ?_;refine tkU 7 (some 31) ?_;refine tkU 8 (some 32) ?_;refine tkU 9 (some 33) ?_;refine tkU 10 (some 34) ?_
   refine tkU 11 (some 35) ?_;refine tkU 12 (some 36) ?_;refine tkU 13 (some 37) ?_;refine tkU 14 (some 38) ?_;refine tkU 15 (some 39) ?_;refine tk 16 (some 40) ?_;refine wpAnyH_done (by kernel_rfl) ?_ _;clear hHeld
   go_wp2_with fail
   go_meet
   exact ⟨rfl, rfl⟩
  ·obtain ⟨j, hj⟩ : ∃ j, n = j + 1 := ⟨n - 1, by omega⟩
   obtain ⟨p, hp⟩ : ∃ p, L[j]? = some p := ⟨L[j]'(by rw [HLN.out]; omega), List.getElem?_eq_getElem _⟩
   obtain ⟨g, cap, hv, hg, hBg, hc⟩ := HS2.out.cells hp
   simp only [Value.slice.injEq] at hv
   obtain ⟨rfl, _, rfl⟩ := hv
   have hcl := hc 2 (by omega)
   have hle := hlast j p hp (by rw [HLN.out, hj])
   obtain ⟨pf, hpf⟩ : ∃ pf, p.p.o.f = pf := ⟨_, rfl⟩
   have hcl : w2.cell? ⟨g, j * 28 + 2, none⟩ = some (.int .i64 pf) := by rw [← hpf]; exact hcl
   rw [hpf] at hle
   have hlt9 : ¬ o.f < pf := by omega
   have hwr : IntKind.i64.wrap ((n : Int) - 1) = (j : Int) := by rw [IntWalk.i64_in _ (by omega)]; omega
   have q1 : (0 : Int) ≤ (j : Int) := by omega
   have q2 : (j : Int) < (n : Int) := by omega
   have q3 : (n : Int) > 0 := by omega
   clear hp hc hpf hj hle
   refine wp_region_held_drew (S := fun W => W.cell? ⟨bs, 2, none⟩ = some (.slice (some ⟨g, 0, none⟩) n cv) ∧ W.cell? ⟨N, 2, none⟩ = some (.int .i64 o.f) ∧ W.cell? ⟨g, j * 28 + 2, none⟩ = some (.int .i64 pf)) (by kernel_rfl) ?_ (fun hHeld => ?_)
   ·exact ⟨hb3, d2, hcl⟩
   refine tk 0 (some 24) ?_;refine tk 1 (some 25) ?_;refine tk 2 (some 26) ?_;refine tk 3 (some 27) ?_;refine tk 4 (some 28) ?_;refine tk 5 (some 29) ?_;refine tk 6 (some 30) ?_;refine tk 7 (some 31) ?_;refine tk 8 (some 32) ?_;refine tk 9 (some 33) ?_;refine tk 10 (some 34) ?_
   refine tk 11 (some 35) ?_;refine tk 12 (some 36) ?_;refine tk 13 (some 37) ?_;refine tk 14 (some 38) ?_
   refine tk 15 (some 39) (v := .bool false) ?_ (hy := by (intro w hSw; (try dsimp only at hSw); go_simp; (first | done | (with_reducible rfl) | exact (decide_eq_false hlt9) | simpa using (decide_eq_false hlt9))))
   refine tk 16 (some 40) ?_;refine wpAnyH_done (by kernel_rfl) ?_ _;clear hHeld
   go_wp2_with fail
   go_meet
   exact ⟨rfl, rfl⟩
 case rest =>
  obtain ⟨rfl, hwc⟩ := hcut
  subst hwc
  go_upto_region 8 with (fail)
  have hbd : Below w2.heap.size w2 w2.drew.drew := (Below.refl _ _).drew.drew
  have HS := Lib.hid (HS2.out.below hbd)
  have HK := Lib.hid (HK2.out.drew.drew)
  have HQ : Hid (Below N W w2.drew.drew) := HB2.out.drew.drew
  clear hbd HS1 HS2 HK1 HK2 HB1 HB2 HR1 d0 d2 hb3
  refine wp_region_held_drew (S := fun W => W.rangeAt N 0 o.l) (by kernel_rfl) ?_ (fun hHeld => ?_)
  ·exact HK.out.range
  generalize w2.drew.drew = w3 at HS HK HQ hHeld ⊢;refine tk 0 (some 41) ?_;refine tk 1 (some 42) ?_;refine tk 2 (some 43) ?_;refine tk 3 (some 44) ?_
  refine tkL 5 (some 46) 30 (.tmp 3) N 0 o.l (fun _ h => h) Tryz.underlying30 HSZ.out ?_
  refine wpAnyH_ready (rs := [4, 6]) (by kernel_rfl) (by simp) (AllReadyH.cons (o := ⟨some 45, _, _, _, _, _⟩) rfl (fun K hK => ?_) (AllReadyH.cons (o := ⟨some 47, _, _, _, _, _⟩) rfl (fun K hK => ?_) AllReadyH.nil))
  ·have c2 := HS.out.blk.cell 2
   simp only [gz, gs] at c2
   rw [HLN.out] at c2;go_simp;clear c2
   refine hK.out _ _ ?_ (fun hHeld2 => ?_)
   ·exact HK.out.range
   clear hK K hHeld;rename _ => hHeld
   try simp only [Act.put, sa, sz, ss]
   refine rd1 6 (some 47) (fun K hK => ?_)
   go_simp
   refine (gOwn o al _ hna hlm (HRD.out.kept (by rw [HN.out]; exact HQ.out))).mono ?_
   rintro e w4 ⟨oa9, ac9, rfl, hra9, hba9, hb⟩
   have HBN : Hid (∀ a, oa9 = some a → N ≤ a.block) := fun a e => Nat.le_trans (bnl9 HN.out HQ.out) (hba9 a e)
   have HRA := Lib.hid hra9;clear hra9 hba9
   have HS := Lib.hid (HS.out.below hb)
   have HS4 := HS
   have HK := Lib.hid (HK.out.kept (hb.block N HK.out.lt))
   have HQ : Hid (Below N W w4) := HQ.out.trans (hb.mono (bnl9 HN.out HQ.out))
   have HQ4 := HQ
   have HK4 := HK
   clear hb
   simp only [GOd.l, GOd.withA, ClD.l, List.cons_append, List.nil_append]
   go_simp
   refine hK.out _ _ ?_ (fun hHeld2 => ?_)
   ·exact HK.out.range
   clear hK K hHeld;rename _ => hHeld;refine tk 7 (some 48) ?_
   refine rd1 8 (some 49) (fun K hK => ?_)
   go_simp
   have hb := (Below.refl w4.heap.size w4).alloc (Nat.le_refl _) (.cells #[.int .i64 o.s, .int .i64 o.ch, .int .i64 o.f, .int .i64 o.k, .int .i64 o.e, .int .i64 o.n, .int .i64 o.nid, .int .i64 o.item, .int .i64 o.frs, .int .i64 o.ear, .int .i64 o.lat, .int .i64 o.book, .slice oa9 o.an ac9, .int .i64 o.cl.kind, .int .i64 o.cl.item, .int .i64 o.cl.frm, .int .i64 o.cl.til, .int .i64 o.cl.regs, .int .i64 o.cl.n, .int .i64 o.cl.a, .int .i64 o.cl.b, .int .i64 o.qid, .int .i64 o.qf, .int .i64 o.qt, .int .i64 o.qp, .string o.txt, .bool false, .int .i64 0] 125)
   have HS := Lib.hid (HS.out.below hb)
   have HK := Lib.hid (HK.out.kept (hb.block N HK.out.lt))
   clear hb
   refine hK.out _ _ ?_ (fun hHeld2 => ?_)
   ·exact HK.out.range
   clear hK K hHeld;rename _ => hHeld
   try simp only [Act.put, sa, sz, ss]
   refine rd1 9 (some 50) (fun K hK => ?_)
   obtain ⟨oa, cap, w5, hrun, ho5, hf5, hk5⟩ := app_post w4 B (.slice ov n cv) n (gpCells L) [.int .i64 o.s, .int .i64 o.ch, .int .i64 o.f, .int .i64 o.k, .int .i64 o.e, .int .i64 o.n, .int .i64 o.nid, .int .i64 o.item, .int .i64 o.frs, .int .i64 o.ear, .int .i64 o.lat, .int .i64 o.book, .slice oa9 o.an ac9, .int .i64 o.cl.kind, .int .i64 o.cl.item, .int .i64 o.cl.frm, .int .i64 o.cl.til, .int .i64 o.cl.regs, .int .i64 o.cl.n, .int .i64 o.cl.a, .int .i64 o.cl.b, .int .i64 o.qid, .int .i64 o.qf, .int .i64 o.qt, .int .i64 o.qp, .string o.txt, .bool false, .int .i64 0] (by have := HS4.out.own; rw [HLN.out] at this; exact this) (by omega) (Nat.le_trans HS4.out.ge (Nat.le_of_lt HS4.out.blk.lt)) 116 rfl (by simp [Value.oneCell'])
   refine step_run (by rfl) _ _ (by rfl) (by rfl) (by rfl) (fun _ => hrun) ?_
   have HK := Lib.hid (HK4.out.kept (hf5.block N HK4.out.lt (fun e => by have := (HNO.out N e).1; omega)))
   have HB5 := Lib.hid (HS4.out.blk.kept (hf5.block bs HS4.out.blk.lt (fun e => (HNO.out bs e).2 rfl)))
   have HO5 := Lib.hid ho5;have HF5 := Lib.hid hf5;have HG5 := Lib.hid hk5;clear hrun ho5 hf5 hk5
   refine hK.out _ _ ?_ (fun hHeld2 => ?_)
   ·exact HK.out.range
   clear hK K hHeld;rename _ => hHeld;refine tk 10 (some 51) ?_;refine tk 11 (some 52) ?_
   refine rd1 12 none (fun K hK => ?_)
   have c2 := HB5.out.cell 2
   have z2 := HB5.out.frozen 2
   simp only [gz, gs] at c2
   go_simp;clear c2 z2
   have HK := Lib.hid (HK.out.other ⟨bs, 2, none⟩ (show bs ≠ N by have := HNB.out; omega) (.slice oa (n + 1) cap))
   refine hK.out _ _ ?_ (fun hHeld2 => ?_)
   ·exact HK.out.range
   clear hK K hHeld;rename _ => hHeld
   try simp only [Act.put, sa, sz, ss]
   refine wpAnyH_done (by kernel_rfl) ?_ _;clear hHeld
   go_wp2_with fail
   go_ret
   have hlt9 := HS4.out.blk.lt
   have hnb := HNB.out
   have HS9 := HS4.out
   rw [HLN.out] at HS9
   have ha : GAt w4 B bs bs (.slice ov n cv) ⟨o.withA oa9 ac9, al⟩ := ⟨hna, hlm, HRA.out, fun hne a e => by
    have h5 := HBN.out a e
    have h6 := HS4.out.ge
    refine ⟨by omega, ?_, by omega, by omega, fun e => ?_⟩
    ·rcases HRA.out with h3 | ⟨b9, o9, h6, h7, _⟩
     ·exact absurd h3 hne
     ·have e9 : oa9 = some a := e
      rw [h6] at e9
      cases e9
      exact h7
    ·have := (HNO.out _ e).1
     omega⟩
   have h1 : Fr (fun c => c = bs ∨ (Value.slice ov n cv).ownBlock = some c) W w4 := Fr.under _ (by rw [HN.out]; exact HQ4.out)
   refine ⟨rfl, .slice oa (n + 1) cap, oa9, ac9, SnG.app HS9 HLN.out HO5.out HF5.out HG5.out ha, ?_, ?_, fun x e => by rw [HN.out]; exact HBN.out x e⟩
   ·rw [HLN.out]
    exact (h1.trans HF5.out (fun c _ h => .inr h)).setCell ⟨bs, 2, none⟩ _ (.inl (.inl rfl))
   ·intro c e
    have hz4 : W.heap.size ≤ w4.heap.size := h1.size
    rw [HLN.out]
    exact (HG5.out c e).imp_right (fun h => Nat.le_trans hz4 h)
  ·go_simp
   refine (gOwn o al _ hna hlm (HRD.out.kept (by rw [HN.out]; exact HQ.out))).mono ?_
   rintro e w4 ⟨oa9, ac9, rfl, hra9, hba9, hb⟩
   have HBN : Hid (∀ a, oa9 = some a → N ≤ a.block) := fun a e => Nat.le_trans (bnl9 HN.out HQ.out) (hba9 a e)
   have HRA := Lib.hid hra9;clear hra9 hba9
   have HS := Lib.hid (HS.out.below hb)
   have HS4 := HS
   have HK := Lib.hid (HK.out.kept (hb.block N HK.out.lt))
   have HQ : Hid (Below N W w4) := HQ.out.trans (hb.mono (bnl9 HN.out HQ.out))
   have HQ4 := HQ
   have HK4 := HK
   clear hb
   simp only [GOd.l, GOd.withA, ClD.l, List.cons_append, List.nil_append]
   go_simp
   refine hK.out _ _ ?_ (fun hHeld2 => ?_)
   ·exact HK.out.range
   clear hK K hHeld;rename _ => hHeld;refine tk 7 (some 48) ?_
   refine wpAnyH_ready (rs := [4, 8]) (by kernel_rfl) (by simp) (AllReadyH.cons (o := ⟨some 45, _, _, _, _, _⟩) rfl (fun K hK => ?_) (AllReadyH.cons (o := ⟨some 49, _, _, _, _, _⟩) rfl (fun K hK => ?_) AllReadyH.nil))
   ·have c2 := HS.out.blk.cell 2
    simp only [gz, gs] at c2
    rw [HLN.out] at c2;go_simp;clear c2
    refine hK.out _ _ ?_ (fun hHeld2 => ?_)
    ·exact HK.out.range
    clear hK K hHeld;rename _ => hHeld
    try simp only [Act.put, sa, sz, ss]
    refine rd1 8 (some 49) (fun K hK => ?_)
    go_simp
    have hb := (Below.refl w4.heap.size w4).alloc (Nat.le_refl _) (.cells #[.int .i64 o.s, .int .i64 o.ch, .int .i64 o.f, .int .i64 o.k, .int .i64 o.e, .int .i64 o.n, .int .i64 o.nid, .int .i64 o.item, .int .i64 o.frs, .int .i64 o.ear, .int .i64 o.lat, .int .i64 o.book, .slice oa9 o.an ac9, .int .i64 o.cl.kind, .int .i64 o.cl.item, .int .i64 o.cl.frm, .int .i64 o.cl.til, .int .i64 o.cl.regs, .int .i64 o.cl.n, .int .i64 o.cl.a, .int .i64 o.cl.b, .int .i64 o.qid, .int .i64 o.qf, .int .i64 o.qt, .int .i64 o.qp, .string o.txt, .bool false, .int .i64 0] 125)
    have HS := Lib.hid (HS.out.below hb)
    have HK := Lib.hid (HK.out.kept (hb.block N HK.out.lt))
    clear hb
    refine hK.out _ _ ?_ (fun hHeld2 => ?_)
    ·exact HK.out.range
    clear hK K hHeld;rename _ => hHeld
    try simp only [Act.put, sa, sz, ss]
    refine rd1 9 (some 50) (fun K hK => ?_)
    obtain ⟨oa, cap, w5, hrun, ho5, hf5, hk5⟩ := app_post w4 B (.slice ov n cv) n (gpCells L) [.int .i64 o.s, .int .i64 o.ch, .int .i64 o.f, .int .i64 o.k, .int .i64 o.e, .int .i64 o.n, .int .i64 o.nid, .int .i64 o.item, .int .i64 o.frs, .int .i64 o.ear, .int .i64 o.lat, .int .i64 o.book, .slice oa9 o.an ac9, .int .i64 o.cl.kind, .int .i64 o.cl.item, .int .i64 o.cl.frm, .int .i64 o.cl.til, .int .i64 o.cl.regs, .int .i64 o.cl.n, .int .i64 o.cl.a, .int .i64 o.cl.b, .int .i64 o.qid, .int .i64 o.qf, .int .i64 o.qt, .int .i64 o.qp, .string o.txt, .bool false, .int .i64 0] (by have := HS4.out.own; rw [HLN.out] at this; exact this) (by omega) (Nat.le_trans HS4.out.ge (Nat.le_of_lt HS4.out.blk.lt)) 116 rfl (by simp [Value.oneCell'])
    refine step_run (by rfl) _ _ (by rfl) (by rfl) (by rfl) (fun _ => hrun) ?_
    have HK := Lib.hid (HK4.out.kept (hf5.block N HK4.out.lt (fun e => by have := (HNO.out N e).1; omega)))
    have HB5 := Lib.hid (HS4.out.blk.kept (hf5.block bs HS4.out.blk.lt (fun e => (HNO.out bs e).2 rfl)))
    have HO5 := Lib.hid ho5;have HF5 := Lib.hid hf5;have HG5 := Lib.hid hk5;clear hrun ho5 hf5 hk5
    refine hK.out _ _ ?_ (fun hHeld2 => ?_)
    ·exact HK.out.range
    clear hK K hHeld;rename _ => hHeld;refine tk 10 (some 51) ?_;refine tk 11 (some 52) ?_
    refine rd1 12 none (fun K hK => ?_)
    have c2 := HB5.out.cell 2
    have z2 := HB5.out.frozen 2
    simp only [gz, gs] at c2
    go_simp;clear c2 z2
    have HK := Lib.hid (HK.out.other ⟨bs, 2, none⟩ (show bs ≠ N by have := HNB.out; omega) (.slice oa (n + 1) cap))
    refine hK.out _ _ ?_ (fun hHeld2 => ?_)
    ·exact HK.out.range
    clear hK K hHeld;rename _ => hHeld
    try simp only [Act.put, sa, sz, ss]
    refine wpAnyH_done (by kernel_rfl) ?_ _;clear hHeld
    go_wp2_with fail
    go_ret
    have hlt9 := HS4.out.blk.lt
    have hnb := HNB.out
    have HS9 := HS4.out
    rw [HLN.out] at HS9
    have ha : GAt w4 B bs bs (.slice ov n cv) ⟨o.withA oa9 ac9, al⟩ := ⟨hna, hlm, HRA.out, fun hne a e => by
     have h5 := HBN.out a e
     have h6 := HS4.out.ge
     refine ⟨by omega, ?_, by omega, by omega, fun e => ?_⟩
     ·rcases HRA.out with h3 | ⟨b9, o9, h6, h7, _⟩
      ·exact absurd h3 hne
      ·have e9 : oa9 = some a := e
       rw [h6] at e9
       cases e9
       exact h7
     ·have := (HNO.out _ e).1
      omega⟩
    have h1 : Fr (fun c => c = bs ∨ (Value.slice ov n cv).ownBlock = some c) W w4 := Fr.under _ (by rw [HN.out]; exact HQ4.out)
    refine ⟨rfl, .slice oa (n + 1) cap, oa9, ac9, SnG.app HS9 HLN.out HO5.out HF5.out HG5.out ha, ?_, ?_, fun x e => by rw [HN.out]; exact HBN.out x e⟩
    ·rw [HLN.out]
     exact (h1.trans HF5.out (fun c _ h => .inr h)).setCell ⟨bs, 2, none⟩ _ (.inl (.inl rfl))
    ·intro c e
     have hz4 : W.heap.size ≤ w4.heap.size := h1.size
     rw [HLN.out]
     exact (HG5.out c e).imp_right (fun h => Nat.le_trans hz4 h)
   ·go_simp
    have hb := (Below.refl w4.heap.size w4).alloc (Nat.le_refl _) (.cells #[.int .i64 o.s, .int .i64 o.ch, .int .i64 o.f, .int .i64 o.k, .int .i64 o.e, .int .i64 o.n, .int .i64 o.nid, .int .i64 o.item, .int .i64 o.frs, .int .i64 o.ear, .int .i64 o.lat, .int .i64 o.book, .slice oa9 o.an ac9, .int .i64 o.cl.kind, .int .i64 o.cl.item, .int .i64 o.cl.frm, .int .i64 o.cl.til, .int .i64 o.cl.regs, .int .i64 o.cl.n, .int .i64 o.cl.a, .int .i64 o.cl.b, .int .i64 o.qid, .int .i64 o.qf, .int .i64 o.qt, .int .i64 o.qp, .string o.txt, .bool false, .int .i64 0] 125)
    have HS := Lib.hid (HS.out.below hb)
    have HK := Lib.hid (HK.out.kept (hb.block N HK.out.lt))
    clear hb
    refine hK.out _ _ ?_ (fun hHeld2 => ?_)
    ·exact HK.out.range
    clear hK K hHeld;rename _ => hHeld
    try simp only [Act.put, sa, sz, ss]
    refine rd1 4 (some 45) (fun K hK => ?_)
    have c2 := HS.out.blk.cell 2
    simp only [gz, gs] at c2
    rw [HLN.out] at c2;go_simp;clear c2
    refine hK.out _ _ ?_ (fun hHeld2 => ?_)
    ·exact HK.out.range
    clear hK K hHeld;rename _ => hHeld
    try simp only [Act.put, sa, sz, ss]
    refine rd1 9 (some 50) (fun K hK => ?_)
    obtain ⟨oa, cap, w5, hrun, ho5, hf5, hk5⟩ := app_post w4 B (.slice ov n cv) n (gpCells L) [.int .i64 o.s, .int .i64 o.ch, .int .i64 o.f, .int .i64 o.k, .int .i64 o.e, .int .i64 o.n, .int .i64 o.nid, .int .i64 o.item, .int .i64 o.frs, .int .i64 o.ear, .int .i64 o.lat, .int .i64 o.book, .slice oa9 o.an ac9, .int .i64 o.cl.kind, .int .i64 o.cl.item, .int .i64 o.cl.frm, .int .i64 o.cl.til, .int .i64 o.cl.regs, .int .i64 o.cl.n, .int .i64 o.cl.a, .int .i64 o.cl.b, .int .i64 o.qid, .int .i64 o.qf, .int .i64 o.qt, .int .i64 o.qp, .string o.txt, .bool false, .int .i64 0] (by have := HS4.out.own; rw [HLN.out] at this; exact this) (by omega) (Nat.le_trans HS4.out.ge (Nat.le_of_lt HS4.out.blk.lt)) 116 rfl (by simp [Value.oneCell'])
    refine step_run (by rfl) _ _ (by rfl) (by rfl) (by rfl) (fun _ => hrun) ?_
    have HK := Lib.hid (HK4.out.kept (hf5.block N HK4.out.lt (fun e => by have := (HNO.out N e).1; omega)))
    have HB5 := Lib.hid (HS4.out.blk.kept (hf5.block bs HS4.out.blk.lt (fun e => (HNO.out bs e).2 rfl)))
    have HO5 := Lib.hid ho5;have HF5 := Lib.hid hf5;have HG5 := Lib.hid hk5;clear hrun ho5 hf5 hk5
    refine hK.out _ _ ?_ (fun hHeld2 => ?_)
    ·exact HK.out.range
    clear hK K hHeld;rename _ => hHeld;refine tk 10 (some 51) ?_;refine tk 11 (some 52) ?_
    refine rd1 12 none (fun K hK => ?_)
    have c2 := HB5.out.cell 2
    have z2 := HB5.out.frozen 2
    simp only [gz, gs] at c2
    go_simp;clear c2 z2
    have HK := Lib.hid (HK.out.other ⟨bs, 2, none⟩ (show bs ≠ N by have := HNB.out; omega) (.slice oa (n + 1) cap))
    refine hK.out _ _ ?_ (fun hHeld2 => ?_)
    ·exact HK.out.range
    clear hK K hHeld;rename _ => hHeld
    try simp only [Act.put, sa, sz, ss]
    refine wpAnyH_done (by kernel_rfl) ?_ _;clear hHeld
    go_wp2_with fail
    go_ret
    have hlt9 := HS4.out.blk.lt
    have hnb := HNB.out
    have HS9 := HS4.out
    rw [HLN.out] at HS9
    have ha : GAt w4 B bs bs (.slice ov n cv) ⟨o.withA oa9 ac9, al⟩ := ⟨hna, hlm, HRA.out, fun hne a e => by
     have h5 := HBN.out a e
     have h6 := HS4.out.ge
     refine ⟨by omega, ?_, by omega, by omega, fun e => ?_⟩
     ·rcases HRA.out with h3 | ⟨b9, o9, h6, h7, _⟩
      ·exact absurd h3 hne
      ·have e9 : oa9 = some a := e
       rw [h6] at e9
       cases e9
       exact h7
     ·have := (HNO.out _ e).1
      omega⟩
    have h1 : Fr (fun c => c = bs ∨ (Value.slice ov n cv).ownBlock = some c) W w4 := Fr.under _ (by rw [HN.out]; exact HQ4.out)
    refine ⟨rfl, .slice oa (n + 1) cap, oa9, ac9, SnG.app HS9 HLN.out HO5.out HF5.out HG5.out ha, ?_, ?_, fun x e => by rw [HN.out]; exact HBN.out x e⟩
    ·rw [HLN.out]
     exact (h1.trans HF5.out (fun c _ h => .inr h)).setCell ⟨bs, 2, none⟩ _ (.inl (.inl rfl))
    ·intro c e
     have hz4 : W.heap.size ≤ w4.heap.size := h1.size
     rw [HLN.out]
     exact (HG5.out c e).imp_right (fun h => Nat.le_trans hz4 h)
theorem gAddG_no (W : World) (B bs : Nat) (tn : Int) (vp : Value) (L : List PG) (k : Nat) (o : GOd) (al : List (Int × Int)) (hn : al.length = o.an) (hlm : o.an ≤ 1000000) (hr : RdA W o.ao al) (hts : o.txt.size ≤ maxLen) (h : SnG W B bs tn vp L k) (hL : L.length ≤ 199) (hbad : okB o al = false ∨ (okB o al = true ∧ o.s ≠ (L.length : Int) + 1)) :
  Calls Tryz.prog 25 #[.pointer (some ⟨bs, 0, none⟩), .agg o.l.toArray] W fun e w' => e = .returned (.int .i64 200) ∧ Below W.heap.size W w' := by
 obtain ⟨N, w1, hN, hw1, hb1, hk1⟩ := bx W (aO o) o.l 30 rfl
 have hs1 : SnG w1 B bs tn vp L k := h.below (by rw [hN]; exact hb1)
 obtain ⟨n, hnn⟩ : ∃ n, L.length = n := ⟨_, rfl⟩
 obtain ⟨ov, cv, rfl⟩ := own_slice h.own
 have HSZ := szO
 have HR1 := Lib.hid hk1.range;have HK1 := Lib.hid hk1;have HS1 := Lib.hid hs1;have HN := Lib.hid hN;have HB1 := Lib.hid hb1
 have HLV := Lib.hid (slives_any bs _ _ _ w1 hs1.blk)
 have HVL := Lib.hid (gValid o al w1 hn hlm (hr.kept (hN ▸ hb1)) hts)
 have HLN := Lib.hid hnn
 have c2 := hs1.blk.cell 2
 simp only [gz, gs] at c2
 rw [hnn] at c2 hbad hL
 show Calls Tryz.prog 25 #[.pointer (some ⟨bs, 0, none⟩), .agg (aO o)] W _
 clear hb1 hk1 hs1 h hr
 rcases hbad with hv | ⟨hv, hne⟩
 ·rw [hv] at HVL
  clear hv
  go_enter Tryz.func25, Tryz.ntmps25
  go_wp2_with fail
  refine HLV.out.mono ?_
  rintro e w' ⟨rfl, rfl⟩
  go_wp2_with (refine wpList_load_mid rfl 30 (.tmp 3) rfl N 0 rfl o.l _ HR1.out Tryz.underlying30 rfl HSZ.out ?_)
  refine HVL.out.mono ?_
  rintro e w2 ⟨rfl, hb2⟩
  have HB2 : Hid (Below N W w2) := HB1.out.trans (hb2.mono (bnl9 HN.out HB1.out))
  clear hb2
  go_wp2_with fail
  go_ret
  exact ⟨rfl, by first | exact HB2.out | (rw [HN.out]; exact HB2.out)⟩
 ·rw [hv] at HVL
  clear hv
  have g1 : (o.s != (n : Int) + 1) = true := by simpa using hne
  have g2 : (o.s == (n : Int) + 1) = false := beq_eq_false_iff_ne.2 hne
  have q1 : (n : Int) ≤ 199 := by omega
  have q2 : (0 : Int) ≤ (n : Int) := by omega
  go_enter Tryz.func25, Tryz.ntmps25
  go_wp2_with fail
  refine HLV.out.mono ?_
  rintro e w' ⟨rfl, rfl⟩
  go_wp2_with (refine wpList_load_mid rfl 30 (.tmp 3) rfl N 0 rfl o.l _ HR1.out Tryz.underlying30 rfl HSZ.out ?_)
  refine HVL.out.mono ?_
  rintro e w2 ⟨rfl, hb2⟩
  have hk2 := HK1.out.kept (hb2.block N HK1.out.lt)
  have hs2 := HS1.out.below hb2
  have d0 : w2.cell? ⟨N, 0, none⟩ = some (.int .i64 o.s) := hk2.cell 0
  have hb3 := hs2.blk.cell 2
  simp only [gz, gs] at hb3
  rw [HLN.out] at hb3
  have HB2 : Hid (Below N W w2) := HB1.out.trans (hb2.mono (bnl9 HN.out HB1.out))
  clear hb2 hk2 hs2 c2
  go_wp2_with fail
  go_ret
  exact ⟨rfl, by first | exact HB2.out | (rw [HN.out]; exact HB2.out)⟩
-- early: printed by mkgra.py
theorem gAddG_early (W : World) (B bs : Nat) (tn : Int) (vp : Value) (L : List PG) (k : Nat) (o : GOd) (al : List (Int × Int)) (hna : al.length = o.an) (hlm : o.an ≤ 1000000) (hr : RdA W o.ao al) (hts : o.txt.size ≤ maxLen) (hok : okB o al = true) (h : SnG W B bs tn vp L k) (hsq : o.s = (L.length : Int) + 1) (hL : L.length ≤ 199) (j : Nat) (p : PG) (hp : L[j]? = some p) (hj : j + 1 = L.length) (hlt : o.f < p.p.o.f) :
  Calls Tryz.prog 25 #[.pointer (some ⟨bs, 0, none⟩), .agg o.l.toArray] W fun e w' => e = .returned (.int .i64 200) ∧ Below W.heap.size W w' := by
 obtain ⟨N, w1, hN, hw1, hb1, hk1⟩ := bx W (aO o) o.l 30 rfl
 have hs1 : SnG w1 B bs tn vp L k := h.below (by rw [hN]; exact hb1)
 obtain ⟨n, hn⟩ : ∃ n, L.length = n := ⟨_, rfl⟩
 obtain ⟨ov, cv, rfl⟩ := own_slice h.own
 have HSZ := szO
 have HR1 := Lib.hid hk1.range;have HK1 := Lib.hid hk1;have HS1 := Lib.hid hs1;have HN := Lib.hid hN;have HB1 := Lib.hid hb1
 have HLV := Lib.hid (slives_any bs _ _ _ w1 hs1.blk)
 have HVL := Lib.hid (hok ▸ gValid o al w1 hna hlm (hr.kept (hN ▸ hb1)) hts)
 have HLN := Lib.hid hn
 have HNO : Hid (∀ c, (Value.slice ov n cv).ownBlock = some c → c < N ∧ c ≠ bs) := fun c e => ⟨by have := own_lt h.own c (by rw [hn]; exact e); omega, h.ne c (by rw [hn]; exact e)⟩
 have HNB : Hid (bs < N) := (by rw [← hN]; exact h.blk.lt : bs < N)
 have c2 := hs1.blk.cell 2
 simp only [gz, gs] at c2
 rw [hn] at c2 hsq hL hj;have HSQ := Lib.hid hsq
 show Calls Tryz.prog 25 #[.pointer (some ⟨bs, 0, none⟩), .agg (aO o)] W _
 clear hb1 hk1 hs1 h hn hsq hr
 go_enter Tryz.func25, Tryz.ntmps25
 go_wp2_with fail
 refine HLV.out.mono ?_
 rintro e w' ⟨rfl, rfl⟩
 go_wp2_with (refine wpList_load_mid rfl 30 (.tmp 3) rfl N 0 rfl o.l _ HR1.out Tryz.underlying30 rfl HSZ.out ?_)
 refine HVL.out.mono ?_
 rintro e w2 ⟨rfl, hb2⟩
 have hs2 := HS1.out.below hb2
 have hk2 := HK1.out.kept (hb2.block N HK1.out.lt)
 have d0 : w2.cell? ⟨N, 0, none⟩ = some (.int .i64 o.s) := hk2.cell 0
 have d2 : w2.cell? ⟨N, 2, none⟩ = some (.int .i64 o.f) := hk2.cell 2
 have hb3 := hs2.blk.cell 2
 simp only [gz, gs] at hb3
 rw [HLN.out] at hb3;have HS2 := Lib.hid hs2;have HK2 := Lib.hid hk2
 have HB2 : Hid (Below N W w2) := HB1.out.trans (hb2.mono (bnl9 HN.out HB1.out))
 rw [HSQ.out] at d0;clear hs2 hk2 hb2 HLV HVL c2
 go_upto_region 6 with (fail)
 obtain ⟨g, cap, hv, hg, hBg, hc⟩ := HS2.out.cells hp
 simp only [Value.slice.injEq] at hv
 obtain ⟨rfl, _, rfl⟩ := hv
 have hcl := hc 2 (by omega)
 obtain ⟨pf, hpf⟩ : ∃ pf, p.p.o.f = pf := ⟨_, rfl⟩
 have hcl : w2.cell? ⟨g, j * 28 + 2, none⟩ = some (.int .i64 pf) := by rw [← hpf]; exact hcl
 rw [hpf] at hlt
 have hwr : IntKind.i64.wrap ((n : Int) - 1) = (j : Int) := by rw [IntWalk.i64_in _ (by omega)]; omega
 have q1 : (0 : Int) ≤ (j : Int) := by omega
 have q2 : (j : Int) < (n : Int) := by omega
 have h0 : 0 < n := by omega
 have q3 : (n : Int) > 0 := by omega
 clear hp hc hpf hj
 refine wp_region_held_drew (S := fun W => W.cell? ⟨bs, 2, none⟩ = some (.slice (some ⟨g, 0, none⟩) n cv) ∧ W.cell? ⟨N, 2, none⟩ = some (.int .i64 o.f) ∧ W.cell? ⟨g, j * 28 + 2, none⟩ = some (.int .i64 pf)) (by kernel_rfl) ?_ (fun hHeld => ?_)
 ·exact ⟨hb3, d2, hcl⟩
 refine tk 0 (some 24) ?_;refine tk 1 (some 25) ?_;refine tk 2 (some 26) ?_;refine tk 3 (some 27) ?_;refine tk 4 (some 28) ?_;refine tk 5 (some 29) ?_;refine tk 6 (some 30) ?_;refine tk 7 (some 31) ?_;refine tk 8 (some 32) ?_;refine tk 9 (some 33) ?_;refine tk 10 (some 34) ?_
 refine tk 11 (some 35) ?_;refine tk 12 (some 36) ?_;refine tk 13 (some 37) ?_;refine tk 14 (some 38) ?_
 refine tk 15 (some 39) (v := .bool true) ?_ (hy := by (intro w hSw; (try dsimp only at hSw); go_simp; (first | done | (with_reducible rfl) | exact (decide_eq_true hlt) | simpa using (decide_eq_true hlt))))
 refine tk 16 (some 40) ?_;refine wpAnyH_done (by kernel_rfl) ?_ _;clear hHeld
 go_wp2_with fail
 go_ret
 exact ⟨rfl, by rw [HN.out]; exact HB2.out.drew⟩
end Go.Proofs.YtjkiidhnmljmbaaGreatDoor
