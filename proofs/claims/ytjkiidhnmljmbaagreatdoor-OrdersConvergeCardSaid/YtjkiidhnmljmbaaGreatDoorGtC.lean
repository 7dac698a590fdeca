/- Orders of every kind: any acknowledgment that a sender receives. -/
import Derived.Test.YtjkiidhnmljmbaaGreatDoorGtAB
import Derived.Test.YtjkiidhnmljmbaaGreatDoorGsCD
set_option linter.unusedVariables false
set_option linter.unusedSimpArgs false
set_option maxRecDepth 100000
set_option maxHeartbeats 8000000
namespace Go.Proofs.YtjkiidhnmljmbaaGreatDoor
open Go.RowKit
attribute [local go_sem] Oper.semAt_some
theorem gpCells_set (q p : PG) : ∀ (L : List PG) (j : Nat), L[j]? = some p → q.p = p.p → gpCells (L.set j q) = ((gpCells L).set (j * 28 + 26) (.bool q.sent)).set (j * 28 + 27) (.int .i64 q.at_)
 | [], _, h, _ => by simp at h
 | r :: l, 0, h, hf => by
  simp at h
  subst h
  have e1 : gpCells (q :: l) = pgC q ++ gpCells l := by simp [gpCells]
  have e2 : gpCells (r :: l) = pgC r ++ gpCells l := by simp [gpCells]
  rw [List.set_cons_zero, e1, e2, Nat.zero_mul, Nat.zero_add, Nat.zero_add, List.set_append_left _ _ (by rw [pgC_len]; omega), List.set_append_left _ _ (by rw [List.length_set, pgC_len]; omega)]
  unfold pgC
  rw [hf]
  rfl
 | r :: l, j + 1, h, hf => by
  have := gpCells_set q p l j (by simpa using h) hf
  have e1 : ∀ L, gpCells (r :: L) = pgC r ++ gpCells L := fun L => by simp [gpCells]
  rw [List.set_cons_succ, e1, e1, this, List.set_append_right _ _ (by rw [pgC_len]; omega), List.set_append_right _ _ (by rw [pgC_len]; omega), pgC_len, show (j + 1) * 28 + 26 - 28 = j * 28 + 26 by omega, show (j + 1) * 28 + 27 - 28 = j * 28 + 27 by omega]
theorem SnG.ack {W : World} {B bs : Nat} {tn : Int} {vp : Value} {L : List PG} {k : Nat} (h : SnG W B bs tn vp L k) (sq : Nat) : SnG (W.setCell ⟨bs, 3, none⟩ (.int .i64 sq)) B bs tn vp L sq :=
 ⟨h.blk.set 3 _, ownsRow_keptF h.own (fun c e => Below.heap_setCell _ _ _ _ (fun e' => h.ne c e e')), h.ge, h.ne, fun q hq => (h.alts q hq).turn ((Fr.refl (fun c => c = bs) W).setCell ⟨bs, 3, none⟩ _ (.inl rfl)) (fun hn a e hs => ((h.alts q hq).own hn a e).2.2.1 hs) (fun c e => .inl e)⟩
def clrG (L : List PG) (first j : Nat) : List PG := L.mapIdx fun i p => if first ≤ i ∧ i < j then ⟨p.p, false, 0⟩ else p
theorem clrG_len (L : List PG) (first j : Nat) : (clrG L first j).length = L.length := by simp [clrG]
theorem clrG_get (L : List PG) (first j : Nat) (i : Nat) : (clrG L first j)[i]? = (L[i]?).map fun p => if first ≤ i ∧ i < j then ⟨p.p, false, 0⟩ else p := by simp [clrG]
theorem clrG_start (L : List PG) (first : Nat) : clrG L first first = L := by
 refine List.ext_getElem? fun i => ?_
 rw [clrG_get]
 cases L[i]? with
 | none => rfl
 | some p => simp only [Option.map_some]; rw [if_neg (by omega)]
theorem clrG_at (L : List PG) (first j : Nat) : (clrG L first j)[j]? = L[j]? := by
 rw [clrG_get]
 cases L[j]? with
 | none => rfl
 | some p => simp only [Option.map_some]; rw [if_neg (by omega)]
theorem clrG_succ (L : List PG) (first j : Nat) (p : PG) (hf : first ≤ j) (hp : L[j]? = some p) : clrG L first (j + 1) = (clrG L first j).set j ⟨p.p, false, 0⟩ := by
 have hl := (List.getElem?_eq_some_iff.1 hp).1
 refine List.ext_getElem? fun i => ?_
 rw [clrG_get, List.getElem?_set, clrG_len]
 by_cases e : j = i
 ·subst e
  rw [if_pos rfl, if_pos hl, hp]
  simp only [Option.map_some]
  rw [if_pos ⟨hf, by omega⟩]
 ·rw [if_neg e, clrG_get]
  cases L[i]? with
  | none => rfl
  | some q =>
   simp only [Option.map_some]
   by_cases h : first ≤ i ∧ i < j
   ·rw [if_pos h, if_pos ⟨h.1, by omega⟩]
   ·rw [if_neg h, if_neg (by omega)]
theorem SnG.put {A : World} {B bs g n cap j k : Nat} {tn : Int} {L : List PG} {p : PG} (h : SnG A B bs tn (.slice (some ⟨g, 0, none⟩) n cap) L k) (hp : L[j]? = some p) (b : Bool) (a : Int) :
  SnG ((A.setCell ⟨g, j * 28 + 26, none⟩ (.bool b)).setCell ⟨g, j * 28 + 27, none⟩ (.int .i64 a)) B bs tn (.slice (some ⟨g, 0, none⟩) n cap) (L.set j ⟨p.p, b, a⟩) k := by
 have hgb : bs ≠ g := fun e => h.ne g rfl e.symm
 have ho := h.own
 obtain ⟨oa, cap', he⟩ := own_slice ho
 simp only [Value.slice.injEq] at he
 obtain ⟨_, hn, _⟩ := he
 subst hn
 have hset := ownsRow_set (ownsRow_set ho (j * 28 + 26) (.bool b)) (j * 28 + 27) (.int .i64 a)
 rw [← gpCells_set ⟨p.p, b, a⟩ p L j hp rfl] at hset
 have hfr : Fr (fun c => c = g) A ((A.setCell ⟨g, j * 28 + 26, none⟩ (.bool b)).setCell ⟨g, j * 28 + 27, none⟩ (.int .i64 a)) := ((Fr.refl (fun c => c = g) A).setCell ⟨g, j * 28 + 26, none⟩ _ (.inl rfl)).setCell ⟨g, j * 28 + 27, none⟩ _ (.inl rfl)
 refine ⟨(h.blk.other _ (fun e => hgb e.symm) _).other _ (fun e => hgb e.symm) _, by rw [List.length_set]; exact hset, h.ge, h.ne, fun q hq => ?_⟩
 have hm : ∃ q' ∈ L, q'.p = q.p := by
  rcases List.mem_or_eq_of_mem_set hq with h1 | h1
  ·exact ⟨q, h1, rfl⟩
  ·exact ⟨p, List.mem_of_getElem? hp, by rw [h1]⟩
 obtain ⟨q', h1, h2⟩ := hm
 rw [← h2]
 exact (h.alts q' h1).turn hfr (fun hn a e hs => ((h.alts q' h1).own hn a e).2.2.2.2 (by rw [hs]; rfl)) (fun c e => .inl e)
theorem gSRecvG_up (W : World) (B bs : Nat) (tn : Int) (vp : Value) (L : List PG) (k sq : Nat) (h : SnG W B bs tn vp L k) (mo : MOd) (al : List (Int × Int)) (hna : al.length = mo.o.an) (hlm : mo.o.an ≤ 1000000) (hr : RdA W mo.o.ao al) (hts : mo.o.txt.size ≤ maxLen) (htk : ((mo.kd == 2) && ((mo.tn == tn) && okM mo al)) = true) (hms : mo.sq = (sq : Int)) (hk : k ≤ sq) (hsq : sq ≤ L.length) (hL : L.length ≤ 200) :
  Calls Tryz.prog 22 #[.pointer (some ⟨bs, 0, none⟩), .agg mo.l.toArray] W fun e w' => (∃ v, e = .returned v) ∧ SnG w' B bs tn vp L sq ∧ Fr (fun c => c = bs) W w' := by
 obtain ⟨N, w1, hN, hw1, hb1, hk1⟩ := bx W (aM mo) mo.l 32 rfl
 have hrd : RdA w1 mo.o.ao al := hr.kept (by rw [hN]; exact hb1)
 have hs1 : SnG w1 B bs tn vp L k := h.below (by rw [hN]; exact hb1)
 obtain ⟨ov, cv, rfl⟩ := own_slice h.own
 obtain ⟨n, hn⟩ : ∃ n, L.length = n := ⟨_, rfl⟩
 obtain ⟨P, hP⟩ : ∃ P, w1.heap.size = P := ⟨_, rfl⟩
 have up : ∀ W', Below P w1 W' → SnG W' B bs tn (.slice ov L.length cv) L k := fun W' hW => hs1.below (by rw [hP]; exact hW)
 have HSA := Lib.hid up
 have HBK : Hid (∀ W', Below P w1 W' → _) := fun W' hW => (up W' hW).blk
 have HKP : Hid (∀ W, Below P w1 W → W.rangeAt N 0 mo.l ∧ W.cell? ⟨bs, 0, none⟩ = some (.int .i64 tn) ∧ W.cell? ⟨bs, 2, none⟩ = some (.slice ov n cv) ∧ W.cell? ⟨bs, 3, none⟩ = some (.int .i64 k) ∧ W.cell? ⟨N, 2, none⟩ = some (.int .i64 sq)) := fun W' hW => by
  have hb := (up W' hW).blk
  have hm := hk1.kept (hW.block N (by rw [← hP]; exact hk1.lt))
  exact ⟨hm.range, hb.cell 0, by rw [← hn]; exact hb.cell 2, hb.cell 3, by rw [← hms]; exact hm.cell 2⟩
 have HLV : Hid (∀ W', Below P w1 W' → _) := fun W' hW => slives_any bs _ _ _ W' (up W' hW).blk
 have HTK := Lib.hid (fun W' (hW : Below P w1 W') => by
  have := gTakes mo al tn 2 W' hna hlm (hrd.kept (by rw [hP]; exact hW)) hts
  rw [htk] at this
  exact this : ∀ W', Below P w1 W' → _)
 have HSZ := szM
 have HN := Lib.hid hN;have HP := Lib.hid hP;have HB1 := Lib.hid hb1
 have HNP : Hid (N ≤ P) := (by rw [← hP]; exact bnl9 hN hb1 : N ≤ P)
 have hgt : ¬ (sq : Int) > (n : Int) := by omega
 have hlt : ¬ (sq : Int) < (k : Int) := by omega
 have HQ : Hid (Below P w1 w1.drew) := (Below.refl _ _).drew
 have HMS := Lib.hid hms
 show Calls Tryz.prog 22 #[.pointer (some ⟨bs, 0, none⟩), .agg (aM mo)] W _
 clear hb1 hk1 hs1 h up hn hP hrd hr htk hms
 go_enter Tryz.func22, Tryz.ntmps22
 go_upto_region 1 with (fail)
 refine wp_region_held_drew (S := fun W => W.rangeAt N 0 mo.l ∧ W.cell? ⟨bs, 0, none⟩ = some (.int .i64 tn) ∧ W.cell? ⟨bs, 2, none⟩ = some (.slice ov n cv) ∧ W.cell? ⟨bs, 3, none⟩ = some (.int .i64 k) ∧ W.cell? ⟨N, 2, none⟩ = some (.int .i64 sq)) (by kernel_rfl) ?_ (fun hHeld => ?_)
 ·exact HKP.out _ HQ.out
 generalize w1.drew = z0 at HQ hHeld ⊢;refine tk 0 (some 5) ?_
 refine rd1 1 (some 6) (fun K hK => ?_)
 go_simp
 refine (HLV.out _ HQ.out).mono ?_
 rintro e w' ⟨rfl, rfl⟩;go_simp
 refine hK.out _ _ ?_ (fun hHeld2 => ?_)
 ·exact HKP.out _ HQ.out
 clear hK K hHeld;rename _ => hHeld;refine tk 2 (some 7) ?_;refine tk 3 (some 8) ?_;refine tk 4 (some 9) ?_;refine tk 5 (some 10) ?_;refine tk 6 (some 11) ?_;refine tk 7 (some 12) ?_
 refine tkL 8 (some 13) 32 (.tmp 3) N 0 mo.l (fun _ h => h.1) Tryz.underlying32 HSZ.out ?_
 refine rd1 9 (some 14) (fun K hK => ?_)
 go_simp
 refine (HTK.out _ HQ.out).mono ?_
 rintro e z1 ⟨rfl, hbz⟩
 have HQ : Hid (Below P w1 z1) := HQ.out.trans (hbz.mono (bnl9 HP.out HQ.out))
 clear hbz;go_simp
 refine hK.out _ _ ?_ (fun hHeld2 => ?_)
 ·exact HKP.out _ HQ.out
 clear hK K hHeld;rename _ => hHeld;refine tk 10 (some 15) ?_;refine tk 11 (some 16) ?_;refine tk 12 (some 17) ?_;refine tk 13 (some 18) ?_;refine tk 14 (some 19) ?_;refine tk 15 (some 20) ?_;refine tk 16 (some 21) ?_;refine tk 17 (some 22) ?_;refine tk 18 (some 23) ?_;refine tk 19 (some 24) ?_
 refine tk 20 (some 25) (v := .bool false) ?_ (hy := by (intro w hSw; (try dsimp only at hSw); go_simp; (first | done | (with_reducible rfl) | exact (decide_eq_false hgt) | simpa using (decide_eq_false hgt))))
 refine tk 21 (some 26) ?_;refine wpAnyH_done (by kernel_rfl) ?_ _;clear hHeld
 go_upto_region 2 with (fail)
 have HQ2 : Hid (Below P w1 _) := HQ.out.drew
 refine wp_region_held_drew (S := fun W => W.rangeAt N 0 mo.l ∧ W.cell? ⟨bs, 0, none⟩ = some (.int .i64 tn) ∧ W.cell? ⟨bs, 2, none⟩ = some (.slice ov n cv) ∧ W.cell? ⟨bs, 3, none⟩ = some (.int .i64 k) ∧ W.cell? ⟨N, 2, none⟩ = some (.int .i64 sq)) (by kernel_rfl) ?_ (fun hHeld => ?_)
 ·exact HKP.out _ HQ2.out
 generalize World.drew _ = z2 at HQ2 hHeld ⊢
 refine tk 0 (some 27) ?_;refine tk 1 (some 28) ?_;refine tk 2 (some 29) ?_;refine tk 3 (some 30) ?_;refine tk 4 (some 31) ?_;refine tk 5 (some 32) ?_
 refine tk 6 (some 33) (v := .bool false) ?_ (hy := by (intro w hSw; (try dsimp only at hSw); go_simp; (first | done | (with_reducible rfl) | exact (decide_eq_false hlt) | simpa using (decide_eq_false hlt))))
 refine wpAnyH_done (by kernel_rfl) ?_ _;clear hHeld
 have hS := HKP.out _ HQ2.out
 have hblk := HBK.out _ HQ2.out
 have c3 := hblk.cell 3
 have f3 := hblk.frozen 3
 have c2 := hS.2.2.2.2
 simp only [gz, gs] at c3
 have HSN := Lib.hid (HSA.out _ HQ2.out)
 clear hS hblk
 go_wp2_with fail
 first | go_ret | (refine bodyPost_end (results_none rfl _ _ _) rfl ?_)
 exact ⟨⟨_, rfl⟩, SnG.ack HSN.out _, ((Fr.under _ (by rw [HN.out]; exact HB1.out.trans (HQ2.out.mono HNP.out))).setCell ⟨bs, 3, none⟩ _ (.inl rfl))⟩
theorem gSRecvG_down (W : World) (B bs : Nat) (tn : Int) (vp : Value) (L : List PG) (k sq : Nat) (h : SnG W B bs tn vp L k) (mo : MOd) (al : List (Int × Int)) (hna : al.length = mo.o.an) (hlm : mo.o.an ≤ 1000000) (hr : RdA W mo.o.ao al) (hts : mo.o.txt.size ≤ maxLen) (htk : ((mo.kd == 2) && ((mo.tn == tn) && okM mo al)) = true) (hms : mo.sq = (sq : Int)) (hk : sq < k) (hsq : k ≤ L.length) (hL : L.length ≤ 200) :
  Calls Tryz.prog 22 #[.pointer (some ⟨bs, 0, none⟩), .agg mo.l.toArray] W fun e w' => (∃ v, e = .returned v) ∧ SnG w' B bs tn vp (clrG L sq L.length) sq ∧ Fr (fun c => c = bs ∨ vp.ownBlock = some c) W w' := by
 obtain ⟨N, w1, hN, hw1, hb1, hk1⟩ := bx W (aM mo) mo.l 32 rfl
 have hrd : RdA w1 mo.o.ao al := hr.kept (by rw [hN]; exact hb1)
 have hs1 : SnG w1 B bs tn vp L k := h.below (by rw [hN]; exact hb1)
 obtain ⟨ov, cv, rfl⟩ := own_slice h.own
 obtain ⟨n, hn⟩ : ∃ n, L.length = n := ⟨_, rfl⟩
 obtain ⟨P, hP⟩ : ∃ P, w1.heap.size = P := ⟨_, rfl⟩
 have up : ∀ W', Below P w1 W' → SnG W' B bs tn (.slice ov L.length cv) L k := fun W' hW => hs1.below (by rw [hP]; exact hW)
 have HSA := Lib.hid up
 have HBK : Hid (∀ W', Below P w1 W' → _) := fun W' hW => (up W' hW).blk
 have HKP : Hid (∀ W, Below P w1 W → W.rangeAt N 0 mo.l ∧ W.cell? ⟨bs, 0, none⟩ = some (.int .i64 tn) ∧ W.cell? ⟨bs, 2, none⟩ = some (.slice ov n cv) ∧ W.cell? ⟨bs, 3, none⟩ = some (.int .i64 k) ∧ W.cell? ⟨N, 2, none⟩ = some (.int .i64 sq)) := fun W' hW => by
  have hb := (up W' hW).blk
  have hm := hk1.kept (hW.block N (by rw [← hP]; exact hk1.lt))
  exact ⟨hm.range, hb.cell 0, by rw [← hn]; exact hb.cell 2, hb.cell 3, by rw [← hms]; exact hm.cell 2⟩
 have HLV : Hid (∀ W', Below P w1 W' → _) := fun W' hW => slives_any bs _ _ _ W' (up W' hW).blk
 have HTK := Lib.hid (fun W' (hW : Below P w1 W') => by
  have := gTakes mo al tn 2 W' hna hlm (hrd.kept (by rw [hP]; exact hW)) hts
  rw [htk] at this
  exact this : ∀ W', Below P w1 W' → _)
 have HSZ := szM
 have HN := Lib.hid hN;have HP := Lib.hid hP;have HB1 := Lib.hid hb1
 have HNP : Hid (N ≤ P) := (by rw [← hP]; exact bnl9 hN hb1 : N ≤ P)
 have hgt : ¬ (sq : Int) > (n : Int) := by omega
 have hlt : (sq : Int) < (k : Int) := by omega
 have hsn : sq < n := by omega
 have hn2 : n ≤ 200 := by omega
 have h0 := Lib.hid h;have HNL := Lib.hid hn
 have HMB : Hid (∀ W', Below P w1 W' → Blk W' N 32 mo.l) := fun W' hW => hk1.kept (hW.block N (by rw [← hP]; exact hk1.lt))
 have HQ : Hid (Below P w1 w1.drew) := (Below.refl _ _).drew
 have HMS := Lib.hid hms
 show Calls Tryz.prog 22 #[.pointer (some ⟨bs, 0, none⟩), .agg (aM mo)] W _
 clear hb1 hk1 hs1 h up hn hP hrd hr htk hms
 go_enter Tryz.func22, Tryz.ntmps22
 go_upto_region 1 with (fail)
 refine wp_region_held_drew (S := fun W => W.rangeAt N 0 mo.l ∧ W.cell? ⟨bs, 0, none⟩ = some (.int .i64 tn) ∧ W.cell? ⟨bs, 2, none⟩ = some (.slice ov n cv) ∧ W.cell? ⟨bs, 3, none⟩ = some (.int .i64 k) ∧ W.cell? ⟨N, 2, none⟩ = some (.int .i64 sq)) (by kernel_rfl) ?_ (fun hHeld => ?_)
 ·exact HKP.out _ HQ.out
 generalize w1.drew = z0 at HQ hHeld ⊢;refine tk 0 (some 5) ?_
 refine rd1 1 (some 6) (fun K hK => ?_)
 go_simp
 refine (HLV.out _ HQ.out).mono ?_
 rintro e w' ⟨rfl, rfl⟩;go_simp
 refine hK.out _ _ ?_ (fun hHeld2 => ?_)
 ·exact HKP.out _ HQ.out
 clear hK K hHeld;rename _ => hHeld;refine tk 2 (some 7) ?_;refine tk 3 (some 8) ?_;refine tk 4 (some 9) ?_;refine tk 5 (some 10) ?_;refine tk 6 (some 11) ?_;refine tk 7 (some 12) ?_
 refine tkL 8 (some 13) 32 (.tmp 3) N 0 mo.l (fun _ h => h.1) Tryz.underlying32 HSZ.out ?_
 refine rd1 9 (some 14) (fun K hK => ?_)
 go_simp
 refine (HTK.out _ HQ.out).mono ?_
 rintro e z1 ⟨rfl, hbz⟩
 have HQ : Hid (Below P w1 z1) := HQ.out.trans (hbz.mono (bnl9 HP.out HQ.out))
 clear hbz;go_simp
 refine hK.out _ _ ?_ (fun hHeld2 => ?_)
 ·exact HKP.out _ HQ.out
 clear hK K hHeld;rename _ => hHeld;refine tk 10 (some 15) ?_;refine tk 11 (some 16) ?_;refine tk 12 (some 17) ?_;refine tk 13 (some 18) ?_;refine tk 14 (some 19) ?_;refine tk 15 (some 20) ?_;refine tk 16 (some 21) ?_;refine tk 17 (some 22) ?_;refine tk 18 (some 23) ?_;refine tk 19 (some 24) ?_
 refine tk 20 (some 25) (v := .bool false) ?_ (hy := by (intro w hSw; (try dsimp only at hSw); go_simp; (first | done | (with_reducible rfl) | exact (decide_eq_false hgt) | simpa using (decide_eq_false hgt))))
 refine tk 21 (some 26) ?_;refine wpAnyH_done (by kernel_rfl) ?_ _;clear hHeld
 go_upto_region 2 with (fail)
 have HQ2 : Hid (Below P w1 _) := HQ.out.drew
 refine wp_region_held_drew (S := fun W => W.rangeAt N 0 mo.l ∧ W.cell? ⟨bs, 0, none⟩ = some (.int .i64 tn) ∧ W.cell? ⟨bs, 2, none⟩ = some (.slice ov n cv) ∧ W.cell? ⟨bs, 3, none⟩ = some (.int .i64 k) ∧ W.cell? ⟨N, 2, none⟩ = some (.int .i64 sq)) (by kernel_rfl) ?_ (fun hHeld => ?_)
 ·exact HKP.out _ HQ2.out
 generalize World.drew _ = z2 at HQ2 hHeld ⊢
 refine tk 0 (some 27) ?_;refine tk 1 (some 28) ?_;refine tk 2 (some 29) ?_;refine tk 3 (some 30) ?_;refine tk 4 (some 31) ?_;refine tk 5 (some 32) ?_
 refine tk 6 (some 33) (v := .bool true) ?_ (hy := by (intro w hSw; (try dsimp only at hSw); go_simp; (first | done | (with_reducible rfl) | exact (decide_eq_true hlt) | simpa using (decide_eq_true hlt))))
 refine wpAnyH_done (by kernel_rfl) ?_ _;clear hHeld
 have hS := HKP.out _ HQ2.out
 have HSN := Lib.hid (HSA.out _ HQ2.out)
 have HM2 := Lib.hid (HMB.out _ HQ2.out)
 have c2 : z2.cell? ⟨N, 2, none⟩ = some (.int .i64 sq) := hS.2.2.2.2
 clear hS
 go_wp2_with fail
 clear c2
 obtain ⟨g, rfl⟩ : ∃ g, ov = some ⟨g, 0, none⟩ := by
  obtain ⟨p, hp⟩ : ∃ p, L[sq]? = some p := ⟨L[sq]'(by rw [HNL.out]; omega), List.getElem?_eq_getElem _⟩
  obtain ⟨g, cap, hv, _⟩ := HSN.out.cells hp
  simp only [Value.slice.injEq] at hv
  exact ⟨g, hv.1⟩
 have hgb : g ≠ bs := HSN.out.ne g rfl
 have hgN : g ≠ N := by
  intro e
  have := own_lt (h0.out).own g rfl
  have := HN.out
  omega
 have HF2 : Hid (Fr (fun c => c = g) w1 z2) := Fr.under _ (by rw [HP.out]; exact HQ2.out)
 go_loopw [4] (fun vi wr => ∃ i, sq ≤ i ∧ i ≤ n ∧ vi = .int .i64 i ∧ Hid (SnG wr B bs tn (.slice (some ⟨g, 0, none⟩) n cv) (clrG L sq i) k) ∧ Hid (Blk wr N 32 mo.l) ∧ Hid (Fr (fun c => c = g) w1 wr)) (fun v _ => n - (intOf v).toNat)
 case atStart => exact ⟨sq, Nat.le_refl _, by omega, rfl, by rw [clrG_start]; rw [HNL.out] at HSN; exact HSN, HM2, HF2⟩
 case round =>
  clear HSN HM2 HF2
  obtain ⟨i, hi1, hi2, rfl, HS, HMK, HFR⟩ := hrel
  have c2 := HS.out.blk.cell 2
  simp only [gz, gs] at c2
  by_cases h : i < n
  ·have q1 : (i : Int) < (n : Int) := by omega
   have q2 : (0 : Int) ≤ (i : Int) := by omega
   obtain ⟨p, hp⟩ : ∃ p, L[i]? = some p := ⟨L[i]'(by rw [HNL.out]; exact h), List.getElem?_eq_getElem _⟩
   have HPC : Hid ((clrG L sq i)[i]? = some p) := (clrG_at L sq i).trans hp
   have HSU : Hid (clrG L sq (i + 1) = (clrG L sq i).set i ⟨p.p, false, 0⟩) := clrG_succ L sq i p hi1 hp
   obtain ⟨g', cap, hv, _, _, hc⟩ := HS.out.cells HPC.out
   simp only [Value.slice.injEq, Option.some.injEq, Addr.mk.injEq] at hv
   obtain rfl := hv.1.1
   clear hv hp
   go_upto_region 6 with (fail)
   refine wp_region_held_drew (S := fun W => W.cell? ⟨bs, 2, none⟩ = some (.slice (some ⟨g, 0, none⟩) n cv)) (by kernel_rfl) ?_ (fun hHeld => ?_)
   ·exact c2
   have hsn2 := HS.out.below (Below.refl _ _).drew
   have hmk2 := HMK.out.kept (W' := wr.drew) rfl
   have hfr2 := HFR.out.drew
   have d26 : wr.drew.cell? ⟨g, i * 28 + 26, none⟩ = some (.bool p.sent) := hc 26 (by omega)
   have d27 : wr.drew.cell? ⟨g, i * 28 + 27, none⟩ = some (.int .i64 p.at_) := hc 27 (by omega)
   have z26 : wr.drew.frozen? ⟨g, i * 28 + 26, none⟩ = false := own_frozen hsn2.own _
   have z27 : wr.drew.frozen? ⟨g, i * 28 + 27, none⟩ = false := own_frozen hsn2.own _
   have x2 : wr.drew.cell? ⟨bs, 2, none⟩ = some (.slice (some ⟨g, 0, none⟩) n cv) := c2
   clear c2 hc HS HMK HFR
   generalize World.drew _ = z at hsn2 hmk2 hfr2 d26 d27 z26 z27 x2 hHeld ⊢
   refine tk 0 (some 45) ?_;refine tk 1 (some 46) ?_;refine tk 2 (some 47) ?_;refine tk 3 (some 48) ?_;refine tk 4 (some 49) ?_;refine tk 5 (some 50) ?_;refine tk 6 (some 51) ?_;refine tk 7 (some 52) ?_;refine tk 8 (some 53) ?_;refine tk 9 (some 54) ?_;refine tk 10 (some 55) ?_
   refine tk 11 (some 56) ?_
   refine rd1 12 none (fun K hK => ?_)
   go_simp
   refine hK.out _ _ ?_ (fun hHeld2 => ?_)
   ·exact (World.cell?_setCell_far _ _ _ _ (show g ≠ bs by omega)).trans x2
   clear hK K hHeld;rename _ => hHeld;refine tk 13 (some 57) ?_;refine tk 14 (some 58) ?_
   refine rd1 15 none (fun K hK => ?_)
   go_simp
   refine hK.out _ _ ?_ (fun hHeld2 => ?_)
   ·exact (World.cell?_setCell_far _ _ _ _ (show g ≠ bs by omega)).trans ((World.cell?_setCell_far _ _ _ _ (show g ≠ bs by omega)).trans x2)
   clear hK K hHeld;rename _ => hHeld
   try simp only [Act.put, sa, sz, ss]
   refine wpAnyH_done (by kernel_rfl) ?_ _;clear hHeld
   go_wp2_with fail
   clear x2 d26 d27 z26 z27
   go_roundw
   case rel => exact ⟨i + 1, by omega, by omega, by go_num, by rw [HSU.out]; exact (hsn2.put HPC.out false 0), ((hmk2.other _ (show g ≠ N by omega) _).other _ (show g ≠ N by omega) _), ((hfr2.setCell ⟨g, i * 28 + 26, none⟩ _ (.inl rfl)).setCell ⟨g, i * 28 + 27, none⟩ _ (.inl rfl))⟩
   case measure => simp [intOf]; omega
  ·have q1 : ¬ (i : Int) < (n : Int) := by omega
   have e : i = n := by omega
   subst e
   have c3 := HS.out.blk.cell 3
   have f3 := HS.out.blk.frozen 3
   simp only [gz, gs] at c3
   have m2 : wr.cell? ⟨N, 2, none⟩ = some (.int .i64 sq) := by rw [← HMS.out]; exact HMK.out.cell 2
   clear h
   go_wp2_with fail
   first | go_ret | (refine bodyPost_end (results_none rfl _ _ _) rfl ?_)
   have hnl := HNL.out
   subst hnl
   exact ⟨⟨_, rfl⟩, SnG.ack HS.out _, ((Fr.under _ (by rw [HN.out]; exact HB1.out)).trans HFR.out (fun c _ e => .inr (by rw [e]; rfl))).setCell ⟨bs, 3, none⟩ _ (.inl (.inl rfl))⟩
end Go.Proofs.YtjkiidhnmljmbaaGreatDoor
