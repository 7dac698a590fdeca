/- The reference's SameOrders and SameMessages of lists with the same content; messages in memory that are read. -/
import Derived.Test.YtjkiidhnmljmbaaGreatDoorRsD
import Derived.Test.YtjkiidhnmljmbaaGreatDoorRsG
import Derived.Deep.CutBlock
set_option linter.unusedVariables false
set_option linter.unusedSimpArgs false
set_option maxRecDepth 100000
set_option maxHeartbeats 8000000
namespace Go.Proofs.YtjkiidhnmljmbaaGreatDoor
open Go.RowKit
structure MP where
 m : MOd
 al : List (Int × Int)
def mpCells (l : List MP) : List Value := l.flatMap fun p => p.m.l
theorem MOd.len (m : MOd) : m.l.length = 31 := rfl
theorem mpCells_len (l : List MP) : (mpCells l).length = l.length * 31 := by
 induction l with
 | nil => rfl
 | cons p l ih =>
  have h : (mpCells (p :: l)).length = p.m.l.length + (mpCells l).length := by simp [mpCells]
  rw [h, ih, MOd.len, List.length_cons]
  omega
theorem mpCells_at : ∀ (l : List MP) (i : Nat) (q : MP) (j : Nat), l[i]? = some q → j < 31 → (mpCells l)[i * 31 + j]? = q.m.l[j]?
 | [], _, _, _, h, _ => by simp at h
 | p :: l, 0, q, j, h, hj => by
  simp at h
  subst h
  have e : mpCells (p :: l) = p.m.l ++ mpCells l := by simp [mpCells]
  rw [e, List.getElem?_append_left (by rw [MOd.len]; omega), Nat.zero_mul, Nat.zero_add]
 | p :: l, i + 1, q, j, h, hj => by
  have e : mpCells (p :: l) = p.m.l ++ mpCells l := by simp [mpCells]
  rw [e, List.getElem?_append_right (by rw [MOd.len]; omega), MOd.len, show (i + 1) * 31 + j - 31 = i * 31 + j by omega]
  exact mpCells_at l i q j (by simpa using h) hj
structure RdM (W : World) (oa : Option Addr) (l : List MP) : Prop where
 row : l = [] ∨ ∃ b o, oa = some ⟨b, o, none⟩ ∧ b < W.heap.size ∧ ∀ (j : Nat) v, (mpCells l)[j]? = some v → W.cell? ⟨b, o + j, none⟩ = some v
 als : ∀ p ∈ l, p.al.length = p.m.o.an ∧ p.m.o.an ≤ 1000000 ∧ RdA W p.m.o.ao p.al
theorem RdM.kept {W W' : World} {oa : Option Addr} {l : List MP} (h : RdM W oa l) (hb : Below W.heap.size W W') : RdM W' oa l := by
 refine ⟨?_, fun p hp => ⟨(h.als p hp).1, (h.als p hp).2.1, (h.als p hp).2.2.kept hb⟩⟩
 rcases h.row with rfl | ⟨b, o, e, hlt, hc⟩
 ·exact .inl rfl
 ·exact .inr ⟨b, o, e, Nat.lt_of_lt_of_le hlt hb.size, fun j v hj => (hb.cell (p := ⟨b, o + j, none⟩) hlt).trans (hc j v hj)⟩
theorem RdM.at {W : World} {oa : Option Addr} {l : List MP} (h : RdM W oa l) (i : Nat) (q : MP) (hq : l[i]? = some q) : ∃ b o, oa = some ⟨b, o, none⟩ ∧ b < W.heap.size ∧ W.rangeAt b (o + i * 31) q.m.l := by
 rcases h.row with rfl | ⟨b, o, e, hlt, hc⟩
 ·simp at hq
 ·refine ⟨b, o, e, hlt, fun j v hj => ?_⟩
  have hjl : j < 31 := (List.getElem?_eq_some_iff.1 hj).1
  rw [Nat.add_assoc]
  exact hc (i * 31 + j) v ((mpCells_at l i q j hq hjl).trans hj)
theorem rdm_of {W : World} {B : Nat} {oa : Option Addr} {n cap : Nat} {l : List MP} (h : W.ownsRow B 32 31 (.slice oa n cap) l.length (mpCells l)) (ha : ∀ p ∈ l, p.al.length = p.m.o.an ∧ p.m.o.an ≤ 1000000 ∧ RdA W p.m.o.ao p.al) : RdM W oa l := by
 refine ⟨?_, ha⟩
 rcases h.2 with ⟨_, hz⟩ | ⟨g, cap', cur, h1, h2, h3, h4⟩
 ·exact .inl (List.eq_nil_of_length_eq_zero hz)
 ·simp only [Value.slice.injEq] at h1
  obtain ⟨rfl, rfl, rfl⟩ := h1
  refine .inr ⟨g, 0, rfl, (Array.getElem?_eq_some_iff.1 h3).1, fun j v hj => ?_⟩
  rw [Nat.zero_add, h.cellAt j (by have := (List.getElem?_eq_some_iff.1 hj).1; rw [mpCells_len] at this; exact this)]
  exact hj
def ordM (tn : Int) (q : GP) : MP := ⟨⟨1, tn, q.o.s, 0, 0, q.o⟩, q.al⟩
theorem gmCells_mp (tn : Int) (l : List GP) : gmCells tn l = mpCells (l.map (ordM tn)) := by
 unfold gmCells mpCells ordM
 rw [List.flatMap_map]
theorem gSameOrds (l k : List GP) (oa ob : Option Addr) (n c d : Nat) (W : World) (hn : l.length = n) (hk : k.length = n) (hlm : n ≤ 1000000) (ha : RdG W oa l) (hb : RdG W ob k) (hs : ∀ (j : Nat) p q, l[j]? = some p → k[j]? = some q → sameOB p.o p.al q.o q.al = true) : Calls Tryz.prog 16 #[.slice oa n c, .slice ob n d] W fun e w' => e = .returned (.bool true) ∧ Below W.heap.size W w' := by
 have HA := Lib.hid ha;have HB := Lib.hid hb;have HN := Lib.hid hn;have HN2 := Lib.hid hk;have HS := Lib.hid hs
 have HSZ := szO
 clear ha hb hn hk hs
 go_enter Tryz.func16, Tryz.ntmps16
 go_wp2_with fail
 go_loopw [5] (fun vi wr => ∃ i : Nat, i ≤ n ∧ vi = .int .i64 i ∧ Hid (Below W.heap.size W wr)) (fun v _ => n - (intOf v).toNat)
 case atStart => exact ⟨0, Nat.zero_le _, rfl, Below.refl _ _⟩
 case round =>
  obtain ⟨i, hin, rfl, HQ⟩ := hrel
  by_cases h : i < n
  ·have q1 : (i : Int) < (n : Int) := by omega
   have q2 : (0 : Int) ≤ (i : Int) := by omega
   obtain ⟨p, hp⟩ : ∃ p, l[i]? = some p := ⟨l[i]'(by rw [HN.out]; exact h), List.getElem?_eq_getElem _⟩
   obtain ⟨q, hq⟩ : ∃ q, k[i]? = some q := ⟨k[i]'(by rw [HN2.out]; exact h), List.getElem?_eq_getElem _⟩
   obtain ⟨b1, p1, rfl, hlt1, hr1⟩ := HA.out.at i p hp
   obtain ⟨b2, p2, rfl, hlt2, hr2⟩ := HB.out.at i q hq
   have HKP : Hid (∀ W', Below W.heap.size W W' → W'.rangeAt b1 (p1 + i * 26) p.o.l ∧ W'.rangeAt b2 (p2 + i * 26) q.o.l) := fun W' hW => ⟨fun j v hj => (hW.cell (p := ⟨b1, p1 + i * 26 + j, none⟩) hlt1).trans (hr1 j v hj), fun j v hj => (hW.cell (p := ⟨b2, p2 + i * 26 + j, none⟩) hlt2).trans (hr2 j v hj)⟩
   have HSAME : Hid (∀ W', Below W.heap.size W W' → Calls Tryz.prog 47 #[.agg p.o.l.toArray, .agg q.o.l.toArray] W' fun e w' => e = .returned (.bool true) ∧ Below W'.heap.size W' w') := fun W' hW => by
    obtain ⟨a1, a2, a3⟩ := HA.out.als p (List.mem_of_getElem? hp)
    obtain ⟨b1, b2, b3⟩ := HB.out.als q (List.mem_of_getElem? hq)
    have := gSameOrder p.o q.o p.al q.al W' a1 b1 a2 b2 (a3.kept hW) (b3.kept hW)
    rw [HS.out i p q hp hq] at this;exact this
   clear hp hq hlt1 hr1 hlt2 hr2
   go_upto_region 6 with (fail)
   have HQ := Lib.hid HQ.out.drew
   refine wp_region_held_drew (S := fun W => W.rangeAt b1 (p1 + i * 26) p.o.l ∧ W.rangeAt b2 (p2 + i * 26) q.o.l) (by kernel_rfl) ?_ (fun hHeld => ?_)
   ·exact HKP.out _ HQ.out
   generalize World.drew _ = z0 at HQ hHeld ⊢
   refine tk 0 (some 18) ?_;refine tk 1 (some 19) ?_;refine tk 2 (some 20) ?_
   refine tkL 3 (some 21) 30 (.tmp 20) b1 (p1 + i * 26) p.o.l (fun _ h => h.1) Tryz.underlying30 HSZ.out ?_
   refine tk 4 (some 22) ?_;refine tk 5 (some 23) ?_;refine tk 6 (some 24) ?_
   refine tkL 7 (some 25) 30 (.tmp 24) b2 (p2 + i * 26) q.o.l (fun _ h => h.2) Tryz.underlying30 HSZ.out ?_
   refine rd1 8 (some 26) (fun K hK => ?_)
   go_simp
   refine (HSAME.out _ HQ.out).mono ?_
   rintro e z ⟨rfl, hbz⟩
   have HQ := Lib.hid (HQ.out.trans (hbz.mono HQ.out.size))
   clear hbz;go_simp
   refine hK.out _ _ ?_ (fun hHeld2 => ?_)
   ·exact HKP.out _ HQ.out
   clear hK K hHeld;rename _ => hHeld;refine tk 9 (some 6) ?_;refine wpAnyH_done (by kernel_rfl) ?_ _;clear hHeld
   go_wp2_with fail
   go_roundw
   case rel => exact ⟨i + 1, by omega, by go_num, HQ⟩
   case measure => simp [intOf]; omega
  ·have q1 : ¬ (i : Int) < (n : Int) := by omega
   go_wp2_with fail
   go_ret;exact ⟨rfl, HQ.out⟩
theorem gSameMsgs (l k : List MP) (oa ob : Option Addr) (n c d : Nat) (W : World) (hn : l.length = n) (hk : k.length = n) (hlm : n ≤ 1000000) (ha : RdM W oa l) (hb : RdM W ob k) (hs : ∀ (j : Nat) p q, l[j]? = some p → k[j]? = some q → sameMB p.m p.al q.m q.al = true) : Calls Tryz.prog 52 #[.slice oa n c, .slice ob n d] W fun e w' => e = .returned (.bool true) ∧ Below W.heap.size W w' := by
 have HA := Lib.hid ha;have HB := Lib.hid hb;have HN := Lib.hid hn;have HN2 := Lib.hid hk;have HS := Lib.hid hs
 have HSZ := szM
 clear ha hb hn hk hs
 go_enter Tryz.func52, Tryz.ntmps52
 go_wp2_with fail
 go_loopw [5] (fun vi wr => ∃ i : Nat, i ≤ n ∧ vi = .int .i64 i ∧ Hid (Below W.heap.size W wr)) (fun v _ => n - (intOf v).toNat)
 case atStart => exact ⟨0, Nat.zero_le _, rfl, Below.refl _ _⟩
 case round =>
  obtain ⟨i, hin, rfl, HQ⟩ := hrel
  by_cases h : i < n
  ·have q1 : (i : Int) < (n : Int) := by omega
   have q2 : (0 : Int) ≤ (i : Int) := by omega
   obtain ⟨p, hp⟩ : ∃ p, l[i]? = some p := ⟨l[i]'(by rw [HN.out]; exact h), List.getElem?_eq_getElem _⟩
   obtain ⟨q, hq⟩ : ∃ q, k[i]? = some q := ⟨k[i]'(by rw [HN2.out]; exact h), List.getElem?_eq_getElem _⟩
   obtain ⟨b1, p1, rfl, hlt1, hr1⟩ := HA.out.at i p hp
   obtain ⟨b2, p2, rfl, hlt2, hr2⟩ := HB.out.at i q hq
   have HKP : Hid (∀ W', Below W.heap.size W W' → W'.rangeAt b1 (p1 + i * 31) p.m.l ∧ W'.rangeAt b2 (p2 + i * 31) q.m.l) := fun W' hW => ⟨fun j v hj => (hW.cell (p := ⟨b1, p1 + i * 31 + j, none⟩) hlt1).trans (hr1 j v hj), fun j v hj => (hW.cell (p := ⟨b2, p2 + i * 31 + j, none⟩) hlt2).trans (hr2 j v hj)⟩
   have HSAME : Hid (∀ W', Below W.heap.size W W' → Calls Tryz.prog 12 #[.agg p.m.l.toArray, .agg q.m.l.toArray] W' fun e w' => e = .returned (.bool true) ∧ Below W'.heap.size W' w') := fun W' hW => by
    obtain ⟨a1, a2, a3⟩ := HA.out.als p (List.mem_of_getElem? hp)
    obtain ⟨b1, b2, b3⟩ := HB.out.als q (List.mem_of_getElem? hq)
    have := gSameMsg p.m q.m p.al q.al W' a1 b1 a2 b2 (a3.kept hW) (b3.kept hW)
    rw [HS.out i p q hp hq] at this;exact this
   clear hp hq hlt1 hr1 hlt2 hr2
   go_upto_region 6 with (fail)
   have HQ := Lib.hid HQ.out.drew
   refine wp_region_held_drew (S := fun W => W.rangeAt b1 (p1 + i * 31) p.m.l ∧ W.rangeAt b2 (p2 + i * 31) q.m.l) (by kernel_rfl) ?_ (fun hHeld => ?_)
   ·exact HKP.out _ HQ.out
   generalize World.drew _ = z0 at HQ hHeld ⊢
   refine tk 0 (some 18) ?_;refine tk 1 (some 19) ?_;refine tk 2 (some 20) ?_
   refine tkL 3 (some 21) 32 (.tmp 20) b1 (p1 + i * 31) p.m.l (fun _ h => h.1) Tryz.underlying32 HSZ.out ?_
   refine tk 4 (some 22) ?_;refine tk 5 (some 23) ?_;refine tk 6 (some 24) ?_
   refine tkL 7 (some 25) 32 (.tmp 24) b2 (p2 + i * 31) q.m.l (fun _ h => h.2) Tryz.underlying32 HSZ.out ?_
   refine rd1 8 (some 26) (fun K hK => ?_)
   go_simp
   refine (HSAME.out _ HQ.out).mono ?_
   rintro e z ⟨rfl, hbz⟩
   have HQ := Lib.hid (HQ.out.trans (hbz.mono HQ.out.size))
   clear hbz;go_simp
   refine hK.out _ _ ?_ (fun hHeld2 => ?_)
   ·exact HKP.out _ HQ.out
   clear hK K hHeld;rename _ => hHeld;refine tk 9 (some 6) ?_;refine wpAnyH_done (by kernel_rfl) ?_ _;clear hHeld
   go_wp2_with fail
   go_roundw
   case rel => exact ⟨i + 1, by omega, by go_num, HQ⟩
   case measure => simp [intOf]; omega
  ·have q1 : ¬ (i : Int) < (n : Int) := by omega
   go_wp2_with fail
   go_ret;exact ⟨rfl, HQ.out⟩
def GP.c (p : GP) : GP := ⟨p.o.withA none 0, p.al⟩
def PG.c (q : PG) : PG := ⟨q.p.c, q.sent, q.at_⟩
def ec (x : Int × GP) : Int × GP := (x.1, x.2.c)
theorem c_eq {p q : GP} : q.c = p.c ↔ (q.al = p.al ∧ ∃ oa ac, q.o = p.o.withA oa ac) := by
 constructor
 ·intro h
  unfold GP.c at h
  rw [GP.mk.injEq] at h
  refine ⟨h.2, q.o.ao, q.o.ac, ?_⟩
  have e : q.o = (q.o.withA none 0).withA q.o.ao q.o.ac := rfl
  rw [e, h.1]
  rfl
 ·rintro ⟨h1, oa, ac, h2⟩
  unfold GP.c
  rw [h1, h2]
  rfl
theorem copyS_map {Ms So : List GP} (h : CopyS Ms So) : Ms.map GP.c = So.map GP.c := by
 refine List.ext_getElem? fun i => ?_
 rw [List.getElem?_map, List.getElem?_map]
 by_cases hi : i < Ms.length
 ·have hi2 : i < So.length := h.len ▸ hi
  rw [List.getElem?_eq_getElem hi, List.getElem?_eq_getElem hi2]
  exact congrArg some (c_eq.2 (h.at_ i _ _ (List.getElem?_eq_getElem hi) (List.getElem?_eq_getElem hi2)))
 ·have hi2 : ¬ i < So.length := h.len ▸ hi
  rw [List.getElem?_eq_none (by omega), List.getElem?_eq_none (by omega)]
theorem upd_c (q : PG) (now : Int) : (q.upd now).c = q.c.upd now := by
 unfold PG.upd
 rw [show q.c.due now = q.due now from rfl]
 split <;> rfl
theorem updG_c (L : List PG) (f j : Nat) (now : Int) : (updG L f j now).map PG.c = updG (L.map PG.c) f j now := by
 refine List.ext_getElem? fun i => ?_
 rw [List.getElem?_map, updG_get, updG_get, List.getElem?_map]
 cases L[i]? with
 | none => rfl
 | some q =>
  simp only [Option.map_some]
  split
  ·rw [upd_c]
  ·rfl
theorem clrG_c (L : List PG) (f j : Nat) : (clrG L f j).map PG.c = clrG (L.map PG.c) f j := by
 refine List.ext_getElem? fun i => ?_
 rw [List.getElem?_map, clrG_get, clrG_get, List.getElem?_map]
 cases L[i]? with
 | none => rfl
 | some q =>
  simp only [Option.map_some]
  split <;> rfl
theorem sentG_c (L : List PG) (f : Nat) (now : Int) : ∀ j, (sentG L f now j).map GP.c = sentG (L.map PG.c) f now j
 | 0 => rfl
 | j + 1 => by
  simp only [sentG, List.map_append, sentG_c L f now j, List.getElem?_map]
  cases L[j]? with
  | none => rfl
  | some p =>
   simp only [Option.map_some]
   rw [show p.c.due now = p.due now from rfl]
   split <;> rfl
theorem idxG_c : ∀ (E : List (Int × GP)) (k : Int), idxG (E.map ec) k = (idxG E k).map fun q => (q.1, q.2.c)
 | [], _ => rfl
 | p :: E, k => by
  simp only [List.map_cons, idxG]
  rw [idxG_c E k, show (ec p).1 = p.1 from rfl, show (ec p).2 = p.2.c from rfl]
  split
  ·rfl
  ·cases idxG E k <;> rfl
theorem putG_c (l : List GP) (E : List (Int × GP)) (sq : Int) (q : GP) : (putG l E sq q).map ec = putG (l.map GP.c) (E.map ec) sq q.c := by
 unfold putG
 rw [idxG_c, List.length_map]
 cases idxG E sq with
 | some x => rfl
 | none =>
  dsimp only [Option.map_none]
  split
  ·rw [List.map_append]
   rfl
  ·rfl
theorem advG_c : ∀ (n : Nat) (l : List GP) (E : List (Int × GP)), advG n (l.map GP.c) (E.map ec) = ((advG n l E).1.map GP.c, (advG n l E).2.map ec)
 | 0, _, _ => rfl
 | n + 1, l, E => by
  simp only [advG]
  rw [List.length_map, idxG_c]
  cases idxG E ((l.length : Int) + 1) with
  | none => rfl
  | some q =>
   dsimp only [Option.map_some]
   have e : (E.map ec).eraseIdx q.1 = (E.eraseIdx q.1).map ec := by
    rw [List.eraseIdx_eq_take_drop_succ, List.eraseIdx_eq_take_drop_succ, List.map_append, List.map_take, List.map_drop]
   rw [← advG_c n (l ++ [q.2]) (E.eraseIdx q.1), List.map_append, e]
   rfl
theorem advG_len : ∀ (n : Nat) (l : List GP) (E : List (Int × GP)), (advG n l E).1.length + (advG n l E).2.length = l.length + E.length
 | 0, _, _ => rfl
 | n + 1, l, E => by
  simp only [advG]
  cases h : idxG E ((l.length : Int) + 1) with
  | none => rfl
  | some q =>
   dsimp only
   rw [advG_len n]
   have := (List.getElem?_eq_some_iff.1 (idxG_lt (j := q.1) (o := q.2) h)).1
   rw [List.length_append, List.length_eraseIdx, if_pos this, List.length_singleton]
   omega
theorem putG_len (l : List GP) (E : List (Int × GP)) (sq : Int) (q : GP) : (putG l E sq q).length ≤ E.length + 1 := by
 unfold putG
 split
 ·omega
 ·split
  ·rw [List.length_append]
   exact Nat.le_refl _
  ·omega
structure PS where
 R : List PG
 k : Nat
 l : List GP
 E : List (Int × GP)
 S : List GP
 now : Int
def PS.add (s : PS) (p : GP) : PS := { s with R := s.R ++ [⟨p, false, 0⟩] }
def PS.tick (s : PS) (now : Int) : PS := { s with R := updG s.R (firstW s.k s.R.length) s.R.length now, S := s.S ++ sentG s.R (firstW s.k s.R.length) now s.R.length, now := now }
def PS.idle (s : PS) (now : Int) : PS := { s with now := now }
def PS.recv (s : PS) (sq : Int) (q : GP) : PS := { s with l := (advG (putG s.l s.E sq q).length s.l (putG s.l s.E sq q)).1, E := (advG (putG s.l s.E sq q).length s.l (putG s.l s.E sq q)).2 }
def PS.ack (s : PS) (sq : Nat) : PS := if s.R.length < sq then s else if sq < s.k then { s with R := clrG s.R sq s.R.length, k := sq } else { s with k := sq }
def PS.fresh (s : PS) : PS := { s with l := [], E := [] }
structure Ok (n m : Nat) (s : PS) : Prop where
 hk : s.k ≤ s.R.length
 ok : ∀ (j : Nat) p, s.R[j]? = some p → p.p.o.s = (j : Int) + 1 ∧ okB p.p.o p.p.al = true ∧ 0 ≤ p.at_ ∧ p.at_ ≤ 1000
 S : ∀ q ∈ s.S, ∃ (j : Nat) (p : PG), s.R[j]? = some p ∧ p.p = q
 nR : s.R.length ≤ n
 nS : s.S.length ≤ n * 100
 nE : s.l.length + s.E.length ≤ m
 lo : -(9 * (n : Int)) ≤ s.now
 hi : s.now ≤ 9 * (n : Int)
structure Pre (s : PS) : Prop where
 l : s.l = (s.R.map pOf).take s.l.length
 E : ∀ x ∈ s.E, ∃ j : Nat, x.1 = (j : Int) + 1 ∧ (s.R.map pOf)[j]? = some x.2
 top : idxG s.E ((s.l.length : Int) + 1) = none
section
variable {n m : Nat} {s : PS}
theorem Ok.mono {n' m' : Nat} (h : Ok n m s) (hn : n ≤ n') (hm : m ≤ m') : Ok n' m' s :=
 ⟨h.hk, h.ok, h.S, by have := h.nR; omega, by have := h.nS; omega, by have := h.nE; omega, by have := h.lo; omega, by have := h.hi; omega⟩
theorem Ok.add {p : GP} (h : Ok n m s) (hp : okB p.o p.al = true) (hs : p.o.s = (s.R.length : Int) + 1) : Ok (n + 1) m (s.add p) := by
 refine ⟨?_, fun j q e => ?_, fun q hq => ?_, ?_, by have := h.nS; show s.S.length ≤ _; omega, h.nE, by have := h.lo; show _ ≤ s.now; omega, by have := h.hi; show s.now ≤ _; omega⟩
 ·show s.k ≤ (s.R ++ [_]).length
  rw [List.length_append]
  have := h.hk
  omega
 ·have e : (s.R ++ [⟨p, false, 0⟩])[j]? = some q := e
  by_cases hj : j < s.R.length
  ·rw [List.getElem?_append_left hj] at e
   exact h.ok j q e
  ·have hj2 := (List.getElem?_eq_some_iff.1 e).1
   rw [List.length_append, List.length_singleton] at hj2
   obtain rfl : j = s.R.length := by omega
   rw [List.getElem?_append_right (Nat.le_refl _), Nat.sub_self] at e
   simp at e
   subst e
   exact ⟨hs, hp, Int.le_refl _, by show (0 : Int) ≤ 1000; decide⟩
 ·obtain ⟨j, q', h1, h2⟩ := h.S q hq
  refine ⟨j, q', ?_, h2⟩
  show (s.R ++ [_])[j]? = _
  rw [List.getElem?_append_left (List.getElem?_eq_some_iff.1 h1).1];exact h1
 ·show (s.R ++ [_]).length ≤ _
  rw [List.length_append, List.length_singleton]
  have := h.nR
  omega
theorem Ok.tick {now : Int} (h : Ok n m s) (hn : n < 100) (h0 : 0 ≤ now) (h1 : now ≤ 9 * ((n : Int) + 1)) : Ok (n + 1) m (s.tick now) := by
 have hl : ∀ f j, (updG s.R f j now).length = s.R.length := fun f j => updG_len _ _ _ _
 refine ⟨?_, fun j q e => ?_, fun q hq => ?_, ?_, ?_, h.nE, ?_, ?_⟩
 ·show s.k ≤ (updG s.R _ _ now).length
  rw [hl];exact h.hk
 ·have e : (updG s.R _ _ now)[j]? = some q := e
  rw [updG_get] at e
  cases hp : s.R[j]? with
  | none => rw [hp] at e; simp at e
  | some p =>
   rw [hp] at e
   simp only [Option.map_some, Option.some.injEq] at e
   have ho := h.ok j p hp
   split at e
   ·rw [← e, upd_p]
    refine ⟨ho.1, ho.2.1, ?_⟩
    unfold PG.upd
    split
    ·exact ⟨h0, by show now ≤ 1000; omega⟩
    ·exact ho.2.2
   ·rw [← e]
    exact ho
 ·have hq : q ∈ s.S ++ sentG s.R _ now _ := hq
  have key : ∀ (j : Nat) p, s.R[j]? = some p → ∃ p', (s.tick now).R[j]? = some p' ∧ p'.p = p.p := fun j p hp => by
   show ∃ p', (updG s.R _ _ now)[j]? = some p' ∧ _
   rw [updG_get, hp]
   refine ⟨_, rfl, ?_⟩
   split
   ·exact upd_p p now
   ·rfl
  rcases List.mem_append.1 hq with hq | hq
  ·obtain ⟨j, p, e1, e2⟩ := h.S q hq
   obtain ⟨p', e3, e4⟩ := key j p e1
   exact ⟨j, p', e3, e4.trans e2⟩
  ·obtain ⟨p, hp, e2⟩ := sentG_sub _ _ _ _ _ hq
   obtain ⟨j, e1⟩ := List.mem_iff_getElem?.1 hp
   obtain ⟨p', e3, e4⟩ := key j p e1
   exact ⟨j, p', e3, e4.trans e2⟩
 ·show (updG s.R _ _ now).length ≤ _
  rw [hl]
  have := h.nR
  omega
 ·show (s.S ++ sentG s.R _ now _).length ≤ _
  rw [List.length_append]
  have h2 := sentG_len s.R (firstW s.k s.R.length) now s.R.length
  have h3 := h.nR
  have h4 := h.nS
  omega
 ·show _ ≤ now
  omega
 ·show now ≤ _
  omega
theorem Ok.idle {now : Int} (h : Ok n m s) (h0 : -(9 * ((n : Int) + 1)) ≤ now) (h1 : now ≤ 9 * ((n : Int) + 1)) : Ok (n + 1) m (s.idle now) :=
 ⟨h.hk, h.ok, h.S, by have := h.nR; show s.R.length ≤ _; omega, by have := h.nS; show s.S.length ≤ _; omega, h.nE, by show _ ≤ now; omega, by show now ≤ _; omega⟩
theorem Ok.recv {sq : Int} {q : GP} (h : Ok n m s) : Ok n (m + 1) (s.recv sq q) := by
 refine ⟨h.hk, h.ok, h.S, h.nR, h.nS, ?_, h.lo, h.hi⟩
 show (advG _ _ _).1.length + (advG _ _ _).2.length ≤ _
 rw [advG_len]
 have := putG_len s.l s.E sq q
 have := h.nE
 omega
theorem clrG_at_ok {R : List PG} {f e j : Nat} {q : PG} (h : (clrG R f e)[j]? = some q) : ∃ p, R[j]? = some p ∧ q.p = p.p ∧ (q = p ∨ (q.sent = false ∧ q.at_ = 0)) := by
 rw [clrG_get] at h
 cases hp : R[j]? with
 | none => rw [hp] at h; simp at h
 | some p =>
  rw [hp] at h
  simp only [Option.map_some, Option.some.injEq] at h
  refine ⟨p, rfl, ?_⟩
  split at h
  ·subst h
   exact ⟨rfl, .inr ⟨rfl, rfl⟩⟩
  ·subst h
   exact ⟨rfl, .inl rfl⟩
theorem Ok.ack {sq : Nat} (h : Ok n m s) : Ok n m (s.ack sq) := by
 unfold PS.ack
 split
 ·exact h
 ·split
  ·refine ⟨?_, fun j q e => ?_, fun q hq => ?_, ?_, h.nS, h.nE, h.lo, h.hi⟩
   ·show sq ≤ (clrG _ _ _).length
    rw [clrG_len]
    omega
   ·obtain ⟨p, h1, h2, h3⟩ := clrG_at_ok e
    have ho := h.ok j p h1
    rw [h2]
    refine ⟨ho.1, ho.2.1, ?_⟩
    rcases h3 with h3 | h3
    ·rw [h3]
     exact ho.2.2
    ·rw [h3.2]
     exact ⟨by decide, by decide⟩
   ·obtain ⟨j, p, e1, e2⟩ := h.S q hq
    refine ⟨j, (if sq ≤ j ∧ j < s.R.length then ⟨p.p, false, 0⟩ else p), ?_, ?_⟩
    ·show (clrG _ _ _)[j]? = _
     rw [clrG_get, e1]
     rfl
    ·split <;> exact e2
   ·show (clrG _ _ _).length ≤ _
    rw [clrG_len];exact h.nR
  ·exact ⟨by show sq ≤ s.R.length; omega, h.ok, h.S, h.nR, h.nS, h.nE, h.lo, h.hi⟩
theorem Ok.fresh (h : Ok n m s) : Ok n m s.fresh := ⟨h.hk, h.ok, h.S, h.nR, h.nS, Nat.zero_le _, h.lo, h.hi⟩
theorem Pre.le (h : Pre s) : s.l.length ≤ s.R.length := by
 have := congrArg List.length h.l
 rw [List.length_take, List.length_map] at this
 omega
theorem Pre.add {p : GP} (h : Pre s) : Pre (s.add p) := by
 have hl := h.le
 refine ⟨?_, fun x hx => ?_, h.top⟩
 ·show s.l = ((s.R ++ [_]).map pOf).take s.l.length
  rw [List.map_append, List.take_append_of_le_length (by rw [List.length_map]; exact hl)]
  exact h.l
 ·obtain ⟨j, h1, h2⟩ := h.E x hx
  refine ⟨j, h1, ?_⟩
  show ((s.R ++ [_]).map pOf)[j]? = _
  rw [List.map_append, List.getElem?_append_left (List.getElem?_eq_some_iff.1 h2).1];exact h2
theorem Pre.same {s' : PS} (h : Pre s) (hR : s'.R.map pOf = s.R.map pOf) (hl : s'.l = s.l) (hE : s'.E = s.E) : Pre s' :=
 ⟨by rw [hl, hR]; exact h.l, by rw [hE, hR]; exact h.E, by rw [hE, hl]; exact h.top⟩
theorem Pre.tick {now : Int} (h : Pre s) : Pre (s.tick now) := h.same (updG_p _ _ _ _) rfl rfl
theorem Pre.idle {now : Int} (h : Pre s) : Pre (s.idle now) := h.same rfl rfl rfl
theorem Pre.ack {sq : Nat} (h : Pre s) : Pre (s.ack sq) := by
 unfold PS.ack
 split
 ·exact h
 ·split
  ·exact h.same (clrG_p _ _ _) rfl rfl
  ·exact h.same rfl rfl rfl
theorem Pre.fresh (h : Pre s) : Pre s.fresh := ⟨rfl, fun x hx => absurd hx (by simp [PS.fresh]), rfl⟩
theorem adv_pre (M : List GP) : ∀ (n : Nat) (l : List GP) (E : List (Int × GP)), E.length ≤ n → l = M.take l.length → (∀ x ∈ E, ∃ j : Nat, x.1 = (j : Int) + 1 ∧ M[j]? = some x.2) →
  (advG n l E).1 = M.take (advG n l E).1.length ∧ (∀ x ∈ (advG n l E).2, ∃ j : Nat, x.1 = (j : Int) + 1 ∧ M[j]? = some x.2) ∧ idxG (advG n l E).2 (((advG n l E).1.length : Int) + 1) = none
 | 0, l, E, h0, h1, h2 => by
  obtain rfl : E = [] := List.eq_nil_of_length_eq_zero (by omega)
  exact ⟨h1, h2, rfl⟩
 | n + 1, l, E, h0, h1, h2 => by
  simp only [advG]
  cases h : idxG E ((l.length : Int) + 1) with
  | none => exact ⟨h1, h2, h⟩
  | some q =>
   dsimp only
   have hx := idxG_lt (j := q.1) (o := q.2) h
   have hq := (List.getElem?_eq_some_iff.1 hx).1
   obtain ⟨j, e1, e2⟩ := h2 _ (List.mem_of_getElem? hx)
   obtain rfl : j = l.length := by
    have e1 : (l.length : Int) + 1 = (j : Int) + 1 := e1
    omega
   refine adv_pre M n (l ++ [q.2]) (E.eraseIdx q.1) (by rw [List.length_eraseIdx, if_pos hq]; omega) ?_ (fun x hx => h2 x (List.mem_of_mem_eraseIdx hx))
   rw [List.length_append, List.length_singleton, List.take_add_one, ← h1]
   have e2 : M[l.length]? = some q.2 := e2
   rw [e2]
   rfl
theorem Pre.recv {j : Nat} {q : GP} (h : Pre s) (hq : (s.R.map pOf)[j]? = some q) : Pre (s.recv ((j : Int) + 1) q) := by
 have := adv_pre (s.R.map pOf) (putG s.l s.E ((j : Int) + 1) q).length s.l (putG s.l s.E ((j : Int) + 1) q) (Nat.le_refl _) h.l (fun x hx => by
  unfold putG at hx
  split at hx
  ·exact h.E x hx
  ·split at hx
   ·rcases List.mem_append.1 hx with hx | hx
    ·exact h.E x hx
    ·rw [List.mem_singleton.1 hx]
     exact ⟨j, rfl, hq⟩
   ·exact h.E x hx)
 exact ⟨this.1, this.2.1, this.2.2⟩
end
def AlB (q : GP) (c : Nat) : Prop := q.al ≠ [] ∧ ∃ a, q.o.ao = some a ∧ a.block = c
def FoS (bs : Nat) (vp : Value) (P : List PG) (c : Nat) : Prop := c = bs ∨ vp.ownBlock = some c ∨ ∃ q ∈ P, AlB q.p c
def FoR (br m : Nat) (vo : Value) (l : List GP) (E : List (Int × GP)) (c : Nat) : Prop := c = br ∨ c = m ∨ vo.ownBlock = some c ∨ ∃ q, (q ∈ l ∨ q ∈ E.map (fun x => x.2)) ∧ AlB q c
def FoX (x : Nat) (vs : Value) (c : Nat) : Prop := c = x ∨ vs.ownBlock = some c
structure LowA (W : World) (B : Nat) (q : GP) : Prop where
 len : q.al.length = q.o.an
 few : q.o.an ≤ 1000000
 rd : RdA W q.o.ao q.al
 low : q.al ≠ [] → ∀ a, q.o.ao = some a → a.block < B
 txt : q.o.txt.size ≤ maxLen
theorem LowA.turn {W W' : World} {B : Nat} {q : GP} (h : LowA W B q) {T : Nat → Prop} (hf : Fr T W W') (hT : ∀ c, T c → B ≤ c) : LowA W' B q := by
 refine ⟨h.len, h.few, ?_, h.low, h.txt⟩
 by_cases hn : q.al = []
 ·exact .inl hn
 ·exact h.rd.keptB hf.size (fun b o e hlt => hf.block b hlt (fun e' => by have h1 := hT _ e'; have h2 : b < B := h.low hn _ e; omega))
theorem LowA.at {W : World} {B : Nat} {q : GP} (h : LowA W B q) {S : Nat → Prop} (hS : ∀ c, S c → B ≤ c) : AtA W S q :=
 ⟨h.len, h.few, h.rd, fun hn a e hs => by have := h.low hn a e; have := hS _ hs; omega⟩
structure LP where
 x : Nat
 bs : Nat
 br : Nat
 ba : Nat
 bb : Nat
 m : Nat
 vp : Value
 vo : Value
 vL : Value
 vS : Value
 vl : Value
 vE : Value
 vs : Value
 P : List PG
 kp : Nat
 l1 : List GP
 E1 : List (Int × GP)
 R : List PG
 k : Nat
 l2 : List GP
 E2 : List GP
 S : List GP
 now : Int
 col : Nat → Nat
def LP.grow (p : LP) (N i : Nat) : Nat → Nat := fun c => if c < N then p.col c else i
structure LnM (W : World) (B : Nat) (id : Int) (p : LP) : Prop where
 bx : Blk W p.x 57 [.pointer (some ⟨p.bs, 0, none⟩), .pointer (some ⟨p.br, 0, none⟩), .pointer (some ⟨p.ba, 0, none⟩), .pointer (some ⟨p.bb, 0, none⟩), .int .i64 p.now, p.vs]
 sn : SnG W B p.bs id p.vp p.P p.kp
 rc : RcG W B p.br id p.vo p.l1 p.m p.E1
 sa : SaG W p.ba id p.vL p.vS (p.R.map pOf) p.k (p.R.map tOf)
 rb : RbG W p.bb id p.vl p.vE p.l2 p.E2
 os : W.ownsRow 0 32 31 p.vs p.S.length (gmCells id p.S)
 cS : ∀ c, FoS p.bs p.vp p.P c → B ≤ c ∧ c < W.heap.size ∧ p.col c = 1
 cR : ∀ c, FoR p.br p.m p.vo p.l1 p.E1 c → B ≤ c ∧ c < W.heap.size ∧ p.col c = 2
 cA : ∀ c, SaS p.ba p.vL p.vS c → B ≤ c ∧ c < W.heap.size ∧ p.col c = 3
 cB : ∀ c, SaS p.bb p.vl p.vE c → B ≤ c ∧ c < W.heap.size ∧ p.col c = 4
 cX : ∀ c, FoX p.x p.vs c → B ≤ c ∧ c < W.heap.size ∧ p.col c = 5
 aR : ∀ q ∈ p.R, LowA W B q.p
 al : ∀ q, q ∈ p.l2 ∨ q ∈ p.E2 → LowA W B q
 aS : ∀ q ∈ p.S, LowA W B q
 xv : ∀ g, p.vs.ownBlock = some g → g ≠ p.x
 lo : ∀ c, c < B → p.col c = 0
section
variable {W W' : World} {B : Nat} {id : Int} {p : LP}
theorem LnM.kSn (h : LnM W B id p) {T : Nat → Prop} (hf : Fr T W W') (hT : ∀ c, T c → p.col c ≠ 1) : SnG W' B p.bs id p.vp p.P p.kp :=
 h.sn.turn hf (fun c e => ⟨fun e' => hT c e (h.cS c (.inl e')).2.2, fun e' => hT c e (h.cS c (.inr (.inl e'))).2.2⟩) (fun q hq hn a ha e => hT _ e (h.cS _ (.inr (.inr ⟨q, hq, hn, a, ha, rfl⟩))).2.2)
theorem LnM.kRc (h : LnM W B id p) {T : Nat → Prop} (hf : Fr T W W') (hT : ∀ c, T c → p.col c ≠ 2) : RcG W' B p.br id p.vo p.l1 p.m p.E1 :=
 h.rc.turn hf (fun c e => ⟨fun e' => hT c e (h.cR c (.inl e')).2.2, fun e' => hT c e (h.cR c (.inr (.inl e'))).2.2, fun e' => hT c e (h.cR c (.inr (.inr (.inl e')))).2.2⟩) (fun q hq hn a ha e => hT _ e (h.cR _ (.inr (.inr (.inr ⟨q, hq, hn, a, ha, rfl⟩)))).2.2)
theorem LnM.kSa (h : LnM W B id p) {T : Nat → Prop} (hf : Fr T W W') (hT : ∀ c, T c → p.col c ≠ 3) (hB : ∀ c, T c → B ≤ c) : SaG W' p.ba id p.vL p.vS (p.R.map pOf) p.k (p.R.map tOf) :=
 h.sa.turn hf (fun c e e' => hT c e (h.cA c e').2.2) (fun q hq hn a ha e => by
  obtain ⟨r, hr, rfl⟩ := List.mem_map.1 hq
  have := (h.aR r hr).low hn a ha
  have := hB _ e
  omega)
theorem LnM.kRb (h : LnM W B id p) {T : Nat → Prop} (hf : Fr T W W') (hT : ∀ c, T c → p.col c ≠ 4) (hB : ∀ c, T c → B ≤ c) : RbG W' p.bb id p.vl p.vE p.l2 p.E2 :=
 h.rb.turn hf (fun c e e' => hT c e (h.cB c e').2.2) (fun q hq hn a ha e => by
  have := (h.al q hq).low hn a ha
  have := hB _ e
  omega)
theorem LnM.kX (h : LnM W B id p) {T : Nat → Prop} (hf : Fr T W W') (hT : ∀ c, T c → p.col c ≠ 5) : Blk W' p.x 57 [.pointer (some ⟨p.bs, 0, none⟩), .pointer (some ⟨p.br, 0, none⟩), .pointer (some ⟨p.ba, 0, none⟩), .pointer (some ⟨p.bb, 0, none⟩), .int .i64 p.now, p.vs] ∧ W'.ownsRow 0 32 31 p.vs p.S.length (gmCells id p.S) :=
 ⟨h.bx.kept (hf.block _ h.bx.lt (fun e => hT _ e (h.cX _ (.inl rfl)).2.2)), ownsRow_keptF h.os (fun g e => hf.block g (own_lt h.os g e) (fun e' => hT _ e' (h.cX _ (.inr e)).2.2))⟩
theorem grow_old {N i c : Nat} (h : c < N) : p.grow N i c = p.col c := if_pos h
theorem grow_new {N i c : Nat} (h : N ≤ c) : p.grow N i c = i := if_neg (by omega)
theorem LnM.old {F : Nat → Prop} {j i : Nat} (hc : ∀ c, F c → B ≤ c ∧ c < W.heap.size ∧ p.col c = j) (hz : W.heap.size ≤ W'.heap.size) : ∀ c, F c → B ≤ c ∧ c < W'.heap.size ∧ p.grow W.heap.size i c = j := fun c e => by
 obtain ⟨h1, h2, h3⟩ := hc c e
 exact ⟨h1, by omega, by rw [grow_old h2]; exact h3⟩
theorem LnM.new {F F' : Nat → Prop} {i : Nat} (hB : B ≤ W.heap.size) (hc : ∀ c, F c → B ≤ c ∧ c < W.heap.size ∧ p.col c = i) (hz : W.heap.size ≤ W'.heap.size) (hF : ∀ c, F' c → F c ∨ W.heap.size ≤ c) (hl : ∀ c, F' c → c < W'.heap.size) : ∀ c, F' c → B ≤ c ∧ c < W'.heap.size ∧ p.grow W.heap.size i c = i := fun c e => by
 rcases hF c e with h | h
 ·obtain ⟨h1, h2, h3⟩ := hc c h
  exact ⟨h1, by omega, by rw [grow_old h2]; exact h3⟩
 ·exact ⟨by omega, hl c e, grow_new h⟩
theorem LnM.lB (h : LnM W B id p) : B ≤ W.heap.size := by
 have := h.cX _ (.inl rfl)
 omega
theorem LnM.lg (h : LnM W B id p) (i : Nat) : ∀ c, c < B → p.grow W.heap.size i c = 0 := fun c hc => (grow_old (by have := h.lB; omega)).trans (h.lo c hc)
theorem SnG.foot {bs k : Nat} {vp : Value} {P : List PG} (h : SnG W B bs id vp P k) (c : Nat) (hc : FoS bs vp P c) : c < W.heap.size := by
 rcases hc with e | e | ⟨q, hq, hn, a, ha, e⟩
 ·rw [e]
  exact h.blk.lt
 ·exact own_lt h.own c e
 ·rw [← e]
  exact ((h.alts q hq).own hn a ha).2.1
theorem RcG.foot {br m : Nat} {vo : Value} {l : List GP} {E : List (Int × GP)} (h : RcG W B br id vo l m E) (c : Nat) (hc : FoR br m vo l E c) : c < W.heap.size := by
 rcases hc with e | e | e | ⟨q, hq, hn, a, ha, e⟩
 ·rw [e]
  exact h.blk.lt
 ·rw [e]
  exact h.mp.lt
 ·exact own_lt h.own c e
 ·rw [← e]
  exact ((h.alts q hq).own hn a ha).2.1
theorem LnM.below (h : LnM W B id p) (hb : Below W.heap.size W W') : LnM W' B id p := by
 have hf : Fr (fun _ => False) W W' := Fr.under _ hb
 have hz := hb.size
 have hx := h.kX hf (fun _ e => e.elim)
 have o : ∀ {F : Nat → Prop} {j : Nat}, (∀ c, F c → B ≤ c ∧ c < W.heap.size ∧ p.col c = j) → ∀ c, F c → B ≤ c ∧ c < W'.heap.size ∧ p.col c = j := fun hc c e => by
  obtain ⟨h1, h2, h3⟩ := hc c e
  exact ⟨h1, by omega, h3⟩
 exact ⟨hx.1, h.kSn hf (fun _ e => e.elim), h.kRc hf (fun _ e => e.elim), h.kSa hf (fun _ e => e.elim) (fun _ e => e.elim), h.kRb hf (fun _ e => e.elim) (fun _ e => e.elim), hx.2, o h.cS, o h.cR, o h.cA, o h.cB, o h.cX, fun q hq => (h.aR q hq).turn hf (fun _ e => e.elim), fun q hq => (h.al q hq).turn hf (fun _ e => e.elim), fun q hq => (h.aS q hq).turn hf (fun _ e => e.elim), h.xv, h.lo⟩
theorem LnM.upS (h : LnM W B id p) {T : Nat → Prop} (hf : Fr T W W') (hT : ∀ c, T c → FoS p.bs p.vp p.P c) {vp' : Value} {P' : List PG} {k' : Nat} (hs : SnG W' B p.bs id vp' P' k') (hn : ∀ c, FoS p.bs vp' P' c → FoS p.bs p.vp p.P c ∨ W.heap.size ≤ c) :
  LnM W' B id { p with vp := vp', P := P', kp := k', col := p.grow W.heap.size 1 } := by
 have hc : ∀ j, j ≠ 1 → ∀ c, T c → p.col c ≠ j := fun j hj c e => by rw [(h.cS c (hT c e)).2.2]; exact hj.symm
 have hB : ∀ c, T c → B ≤ c := fun c e => (h.cS c (hT c e)).1
 have hz := hf.size
 have hx := h.kX hf (hc 5 (by decide))
 exact ⟨hx.1, hs, h.kRc hf (hc 2 (by decide)), h.kSa hf (hc 3 (by decide)) hB, h.kRb hf (hc 4 (by decide)) hB, hx.2, LnM.new h.lB h.cS hz hn (fun c e => hs.foot c e), LnM.old h.cR hz, LnM.old h.cA hz, LnM.old h.cB hz, LnM.old h.cX hz, fun q hq => (h.aR q hq).turn hf hB, fun q hq => (h.al q hq).turn hf hB, fun q hq => (h.aS q hq).turn hf hB, h.xv, h.lg 1⟩
theorem LnM.upR (h : LnM W B id p) {T : Nat → Prop} (hf : Fr T W W') (hT : ∀ c, T c → FoR p.br p.m p.vo p.l1 p.E1 c) {vo' : Value} {l' : List GP} {E' : List (Int × GP)} (hs : RcG W' B p.br id vo' l' p.m E') (hn : ∀ c, FoR p.br p.m vo' l' E' c → FoR p.br p.m p.vo p.l1 p.E1 c ∨ W.heap.size ≤ c) :
  LnM W' B id { p with vo := vo', l1 := l', E1 := E', col := p.grow W.heap.size 2 } := by
 have hc : ∀ j, j ≠ 2 → ∀ c, T c → p.col c ≠ j := fun j hj c e => by rw [(h.cR c (hT c e)).2.2]; exact hj.symm
 have hB : ∀ c, T c → B ≤ c := fun c e => (h.cR c (hT c e)).1
 have hz := hf.size
 have hx := h.kX hf (hc 5 (by decide))
 exact ⟨hx.1, h.kSn hf (hc 1 (by decide)), hs, h.kSa hf (hc 3 (by decide)) hB, h.kRb hf (hc 4 (by decide)) hB, hx.2, LnM.old h.cS hz, LnM.new h.lB h.cR hz hn (fun c e => hs.foot c e), LnM.old h.cA hz, LnM.old h.cB hz, LnM.old h.cX hz, fun q hq => (h.aR q hq).turn hf hB, fun q hq => (h.al q hq).turn hf hB, fun q hq => (h.aS q hq).turn hf hB, h.xv, h.lg 2⟩
theorem LnM.upA (h : LnM W B id p) {T : Nat → Prop} (hf : Fr T W W') (hT : ∀ c, T c → SaS p.ba p.vL p.vS c) {vL' vS' : Value} {R' : List PG} {k' : Nat} (hs : SaG W' p.ba id vL' vS' (R'.map pOf) k' (R'.map tOf)) (hn : ∀ c, SaS p.ba vL' vS' c → SaS p.ba p.vL p.vS c ∨ W.heap.size ≤ c) (ha : ∀ q ∈ R', ∃ r, r.p = q.p ∧ (r ∈ p.R ∨ LowA W B r.p)) :
  LnM W' B id { p with vL := vL', vS := vS', R := R', k := k', col := p.grow W.heap.size 3 } := by
 have hc : ∀ j, j ≠ 3 → ∀ c, T c → p.col c ≠ j := fun j hj c e => by rw [(h.cA c (hT c e)).2.2]; exact hj.symm
 have hB : ∀ c, T c → B ≤ c := fun c e => (h.cA c (hT c e)).1
 have hz := hf.size
 have hx := h.kX hf (hc 5 (by decide))
 exact ⟨hx.1, h.kSn hf (hc 1 (by decide)), h.kRc hf (hc 2 (by decide)), hs, h.kRb hf (hc 4 (by decide)) hB, hx.2, LnM.old h.cS hz, LnM.old h.cR hz, LnM.new h.lB h.cA hz hn (fun c e => hs.lt c e), LnM.old h.cB hz, LnM.old h.cX hz, fun q hq => by
  obtain ⟨r, e, h1⟩ := ha q hq
  rw [← e]
  exact (h1.elim (fun h1 => h.aR r h1) (fun h2 => h2)).turn hf hB, fun q hq => (h.al q hq).turn hf hB, fun q hq => (h.aS q hq).turn hf hB, h.xv, h.lg 3⟩
theorem LnM.upB (h : LnM W B id p) {T : Nat → Prop} (hf : Fr T W W') (hT : ∀ c, T c → SaS p.bb p.vl p.vE c) {vl' vE' : Value} {l' E' : List GP} (hs : RbG W' p.bb id vl' vE' l' E') (hn : ∀ c, SaS p.bb vl' vE' c → SaS p.bb p.vl p.vE c ∨ W.heap.size ≤ c) (ha : ∀ q, q ∈ l' ∨ q ∈ E' → (q ∈ p.l2 ∨ q ∈ p.E2) ∨ LowA W B q) :
  LnM W' B id { p with vl := vl', vE := vE', l2 := l', E2 := E', col := p.grow W.heap.size 4 } := by
 have hc : ∀ j, j ≠ 4 → ∀ c, T c → p.col c ≠ j := fun j hj c e => by rw [(h.cB c (hT c e)).2.2]; exact hj.symm
 have hB : ∀ c, T c → B ≤ c := fun c e => (h.cB c (hT c e)).1
 have hz := hf.size
 have hx := h.kX hf (hc 5 (by decide))
 exact ⟨hx.1, h.kSn hf (hc 1 (by decide)), h.kRc hf (hc 2 (by decide)), h.kSa hf (hc 3 (by decide)) hB, hs, hx.2, LnM.old h.cS hz, LnM.old h.cR hz, LnM.old h.cA hz, LnM.new h.lB h.cB hz hn (fun c e => hs.lt c e), LnM.old h.cX hz, fun q hq => (h.aR q hq).turn hf hB, fun q hq => ((ha q hq).elim (fun h1 => h.al q h1) (fun h2 => h2)).turn hf hB, fun q hq => (h.aS q hq).turn hf hB, h.xv, h.lg 4⟩
theorem LnM.upNow (h : LnM W B id p) (now : Int) : LnM (W.setCell ⟨p.x, 4, none⟩ (.int .i64 now)) B id { p with now := now } := by
 have hf : Fr (fun c => c = p.x) W (W.setCell ⟨p.x, 4, none⟩ (.int .i64 now)) := (Fr.refl _ W).setCell ⟨p.x, 4, none⟩ _ (.inl rfl)
 have hx5 := (h.cX _ (.inl rfl)).2.2
 have hc : ∀ j, j ≠ 5 → ∀ c, c = p.x → p.col c ≠ j := fun j hj c e => by rw [e, hx5]; exact hj.symm
 have hB : ∀ c, c = p.x → B ≤ c := fun c e => (h.cX c (.inl e)).1
 have hz : (W.setCell ⟨p.x, 4, none⟩ (.int .i64 now)).heap.size = W.heap.size := by simp [World.setCell]
 have o : ∀ {F : Nat → Prop} {j : Nat}, (∀ c, F c → B ≤ c ∧ c < W.heap.size ∧ p.col c = j) → ∀ c, F c → B ≤ c ∧ c < (W.setCell ⟨p.x, 4, none⟩ (.int .i64 now)).heap.size ∧ p.col c = j := fun hc c e => by rw [hz]; exact hc c e
 exact ⟨h.bx.set 4 _, h.kSn hf (hc 1 (by decide)), h.kRc hf (hc 2 (by decide)), h.kSa hf (hc 3 (by decide)) hB, h.kRb hf (hc 4 (by decide)) hB, ownsRow_keptF h.os (fun g e => Below.heap_setCell _ _ _ _ (h.xv g e)), o h.cS, o h.cR, o h.cA, o h.cB, o h.cX, fun q hq => (h.aR q hq).turn hf hB, fun q hq => (h.al q hq).turn hf hB, fun q hq => (h.aS q hq).turn hf hB, h.xv, h.lo⟩
theorem LnM.upSent (h : LnM W B id p) {oa : Option Addr} {n cap : Nat} {S' : List GP} (ho : W'.ownsRow 0 32 31 (.slice oa n cap) S'.length (gmCells id S')) (hf : Fr (fun c => p.vs.ownBlock = some c) W W') (hn : ∀ c, (Value.slice oa n cap).ownBlock = some c → p.vs.ownBlock = some c ∨ W.heap.size ≤ c) (ha : ∀ q ∈ S', LowA W B q) :
  LnM (W'.setCell ⟨p.x, 5, none⟩ (.slice oa n cap)) B id { p with vs := .slice oa n cap, S := S', col := p.grow W.heap.size 5 } := by
 have hf2 : Fr (FoX p.x p.vs) W (W'.setCell ⟨p.x, 5, none⟩ (.slice oa n cap)) := (hf.mono (S' := FoX p.x p.vs) (fun c e => Or.inr e)).setCell ⟨p.x, 5, none⟩ _ (.inl (.inl rfl))
 have hc : ∀ j, j ≠ 5 → ∀ c, FoX p.x p.vs c → p.col c ≠ j := fun j hj c e => by rw [(h.cX c e).2.2]; exact hj.symm
 have hB : ∀ c, FoX p.x p.vs c → B ≤ c := fun c e => (h.cX c e).1
 have hz := hf2.size
 have hxv : ∀ g, (Value.slice oa n cap).ownBlock = some g → g ≠ p.x := fun g e => (hn g e).elim (fun e => h.xv g e) (fun e => by have := h.bx.lt; omega)
 have hb := h.bx.kept (hf.block p.x h.bx.lt (fun e => h.xv _ e rfl))
 exact ⟨hb.set 5 _, h.kSn hf2 (hc 1 (by decide)), h.kRc hf2 (hc 2 (by decide)), h.kSa hf2 (hc 3 (by decide)) hB, h.kRb hf2 (hc 4 (by decide)) hB, ownsRow_keptF ho (fun g e => Below.heap_setCell _ _ _ _ (hxv g e)), LnM.old h.cS hz, LnM.old h.cR hz, LnM.old h.cA hz, LnM.old h.cB hz, LnM.new h.lB h.cX hz (fun c e => e.elim (fun e => .inl (.inl e)) (fun e => (hn c e).imp_left .inr)) (fun c e => by
  rcases e with e | e
  ·rw [e]
   exact (hb.set 5 _).lt
  ·have := own_lt ho c e
   simp [World.setCell]
   omega), fun q hq => (h.aR q hq).turn hf2 hB, fun q hq => (h.al q hq).turn hf2 hB, fun q hq => (ha q hq).turn hf2 hB, hxv, h.lg 5⟩
theorem LnM.newR (h : LnM W B id p) {b m : Nat} (hb : Below W.heap.size W W') (hs : RcG W' B b id (.slice none 0 0) [] m []) (h1 : W.heap.size ≤ b) (h2 : W.heap.size ≤ m) :
  LnM (W'.setCell ⟨p.x, 1, none⟩ (.pointer (some ⟨b, 0, none⟩))) B id { p with br := b, m := m, vo := .slice none 0 0, l1 := [], E1 := [], col := p.grow W.heap.size 2 } := by
 have hf : Fr (fun c => c = p.x) W (W'.setCell ⟨p.x, 1, none⟩ (.pointer (some ⟨b, 0, none⟩))) := (Fr.under _ hb).setCell ⟨p.x, 1, none⟩ _ (.inl rfl)
 have hx5 := (h.cX _ (.inl rfl)).2.2
 have hc : ∀ j, j ≠ 5 → ∀ c, c = p.x → p.col c ≠ j := fun j hj c e => by rw [e, hx5]; exact hj.symm
 have hB : ∀ c, c = p.x → B ≤ c := fun c e => (h.cX c (.inl e)).1
 have hz := hf.size
 have hx := h.bx.lt
 have hbx := h.bx.kept (hb.block p.x hx)
 have hos : (W'.setCell ⟨p.x, 1, none⟩ (.pointer (some ⟨b, 0, none⟩))).ownsRow 0 32 31 p.vs p.S.length (gmCells id p.S) := ownsRow_keptF h.os (fun g e => (Below.heap_setCell _ _ _ _ (h.xv g e)).trans (hb.block g (own_lt h.os g e)))
 have hs2 : RcG (W'.setCell ⟨p.x, 1, none⟩ (.pointer (some ⟨b, 0, none⟩))) B b id (.slice none 0 0) [] m [] := hs.turn ((Fr.refl (fun c => c = p.x) W').setCell ⟨p.x, 1, none⟩ _ (.inl rfl)) (fun c e => ⟨by omega, by omega, fun e' => by simp [Value.ownBlock] at e'⟩) (fun q hq => by
  rcases hq with hq | hq
  ·exact absurd hq (by simp)
  ·exact absurd hq (by simp))
 refine ⟨hbx.set 1 _, h.kSn hf (hc 1 (by decide)), hs2, h.kSa hf (hc 3 (by decide)) hB, h.kRb hf (hc 4 (by decide)) hB, hos, LnM.old h.cS hz, fun c e => ?_, LnM.old h.cA hz, LnM.old h.cB hz, LnM.old h.cX hz, fun q hq => (h.aR q hq).turn hf hB, fun q hq => (h.al q hq).turn hf hB, fun q hq => (h.aS q hq).turn hf hB, h.xv, h.lg 2⟩
 have hl := hs2.foot c e
 have hge : W.heap.size ≤ c := by
  rcases e with e | e | e | ⟨q, hq, _⟩
  ·have e : c = b := e
   omega
  ·have e : c = m := e
   omega
  ·simp [Value.ownBlock] at e
  ·rcases hq with hq | hq
   ·exact absurd hq (by simp)
   ·exact absurd hq (by simp)
 exact ⟨Nat.le_trans h.lB hge, hl, grow_new hge⟩
theorem LnM.newB (h : LnM W B id p) {b : Nat} (hb : Below W.heap.size W W') (hs : RbG W' b id (.slice none 0 0) (.slice none 0 0) [] []) (h1 : W.heap.size ≤ b) :
  LnM (W'.setCell ⟨p.x, 3, none⟩ (.pointer (some ⟨b, 0, none⟩))) B id { p with bb := b, vl := .slice none 0 0, vE := .slice none 0 0, l2 := [], E2 := [], col := p.grow W.heap.size 4 } := by
 have hf : Fr (fun c => c = p.x) W (W'.setCell ⟨p.x, 3, none⟩ (.pointer (some ⟨b, 0, none⟩))) := (Fr.under _ hb).setCell ⟨p.x, 3, none⟩ _ (.inl rfl)
 have hx5 := (h.cX _ (.inl rfl)).2.2
 have hc : ∀ j, j ≠ 5 → ∀ c, c = p.x → p.col c ≠ j := fun j hj c e => by rw [e, hx5]; exact hj.symm
 have hB : ∀ c, c = p.x → B ≤ c := fun c e => (h.cX c (.inl e)).1
 have hz := hf.size
 have hx := h.bx.lt
 have hbx := h.bx.kept (hb.block p.x hx)
 have hos : (W'.setCell ⟨p.x, 3, none⟩ (.pointer (some ⟨b, 0, none⟩))).ownsRow 0 32 31 p.vs p.S.length (gmCells id p.S) := ownsRow_keptF h.os (fun g e => (Below.heap_setCell _ _ _ _ (h.xv g e)).trans (hb.block g (own_lt h.os g e)))
 have hs2 : RbG (W'.setCell ⟨p.x, 3, none⟩ (.pointer (some ⟨b, 0, none⟩))) b id (.slice none 0 0) (.slice none 0 0) [] [] := hs.turn ((Fr.refl (fun c => c = p.x) W').setCell ⟨p.x, 3, none⟩ _ (.inl rfl)) (fun c e hc => by
  rcases hc with hc | hc | hc
  ·omega
  ·simp [Value.ownBlock] at hc
  ·simp [Value.ownBlock] at hc) (fun q hq => by
  rcases hq with hq | hq
  ·exact absurd hq (by simp)
  ·exact absurd hq (by simp))
 refine ⟨hbx.set 3 _, h.kSn hf (hc 1 (by decide)), h.kRc hf (hc 2 (by decide)), h.kSa hf (hc 3 (by decide)) hB, hs2, hos, LnM.old h.cS hz, LnM.old h.cR hz, LnM.old h.cA hz, fun c e => ?_, LnM.old h.cX hz, fun q hq => (h.aR q hq).turn hf hB, fun q hq => ?_, fun q hq => (h.aS q hq).turn hf hB, h.xv, h.lg 4⟩
 ·have hl := hs2.lt c e
  have hge : W.heap.size ≤ c := by
   rcases e with e | e | e
   ·have e : c = b := e
    omega
   ·simp [Value.ownBlock] at e
   ·simp [Value.ownBlock] at e
  exact ⟨Nat.le_trans h.lB hge, hl, grow_new hge⟩
 ·rcases hq with hq | hq
  ·exact absurd hq (by simp)
  ·exact absurd hq (by simp)
end
structure LnE (p : LP) : Prop where
 eP : p.P.map PG.c = p.R.map PG.c
 ek : p.kp = p.k
 el : p.l1.map GP.c = p.l2.map GP.c
 eE : p.E1.map ec = (p.E2.map ke).map ec
def LP.s (p : LP) : PS := ⟨p.R.map PG.c, p.k, p.l2.map GP.c, (p.E2.map ke).map ec, p.S.map GP.c, p.now⟩
def accB (L : List PG) (o : GOd) (al : List (Int × Int)) : Bool := okB o al && (o.s == (L.length : Int) + 1 && (match L.getLast? with | none => true | some p => decide (p.p.o.f ≤ o.f)))
theorem accB_c (L : List PG) (o : GOd) (al : List (Int × Int)) : accB (L.map PG.c) o al = accB L o al := by
 unfold accB
 rw [List.length_map, List.getLast?_map]
 cases L.getLast? <;> rfl
theorem accB_cases {L : List PG} {o : GOd} {al : List (Int × Int)} : (accB L o al = true ∧ okB o al = true ∧ o.s = (L.length : Int) + 1 ∧ ∀ (j : Nat) p, L[j]? = some p → j + 1 = L.length → p.p.o.f ≤ o.f) ∨
  (accB L o al = false ∧ ((okB o al = false ∨ (okB o al = true ∧ o.s ≠ (L.length : Int) + 1)) ∨ (okB o al = true ∧ o.s = (L.length : Int) + 1 ∧ ∃ (j : Nat) (p : PG), L[j]? = some p ∧ j + 1 = L.length ∧ o.f < p.p.o.f))) := by
 unfold accB
 cases h1 : okB o al with
 | false => exact .inr ⟨rfl, .inl (.inl rfl)⟩
 | true =>
  by_cases h2 : o.s = (L.length : Int) + 1
  ·have e2 : (o.s == (L.length : Int) + 1) = true := beq_iff_eq.2 h2
   rw [e2, Bool.true_and, Bool.true_and]
   have hlast : L.getLast? = L[L.length - 1]? := List.getLast?_eq_getElem?
   cases h3 : L.getLast? with
   | none =>
    refine .inl ⟨rfl, rfl, h2, fun j p hp hj => ?_⟩
    rw [h3, show L.length - 1 = j by omega, hp] at hlast
    cases hlast
   | some p =>
    rw [h3] at hlast
    dsimp only
    have hl := (List.getElem?_eq_some_iff.1 hlast.symm).1
    by_cases h4 : p.p.o.f ≤ o.f
    ·rw [decide_eq_true h4]
     refine .inl ⟨rfl, rfl, h2, fun j q hq hj => ?_⟩
     rw [show L.length - 1 = j by omega, hq] at hlast
     cases hlast
     exact h4
    ·rw [decide_eq_false h4]
     exact .inr ⟨rfl, .inr ⟨rfl, h2, L.length - 1, p, hlast.symm, by omega, by omega⟩⟩
  ·have e2 : (o.s == (L.length : Int) + 1) = false := beq_eq_false_iff_ne.2 h2
   rw [e2]
   exact .inr ⟨rfl, .inl (.inr ⟨rfl, h2⟩)⟩
def addIf (b : Bool) (L : List PG) (q : PG) : List PG := match b with
 | true => L ++ [q]
 | false => L
theorem addIf_c (b : Bool) (L : List PG) (q : PG) : (addIf b L q).map PG.c = addIf b (L.map PG.c) q.c := by
 cases b
 ·rfl
 ·show (L ++ [q]).map PG.c = _
  rw [List.map_append]
  rfl
structure Nx (W W' : World) (f g : Nat → Nat) : Prop where
 fr : Fr (fun c => f c ≠ 0) W W'
 co : ∀ c, c < W.heap.size → g c = f c
section
variable {W W' : World} {B : Nat} {id : Int} {p : LP}
theorem Nx.below {f : Nat → Nat} (hb : Below W.heap.size W W') : Nx W W' f f := ⟨Fr.under _ hb, fun _ _ => rfl⟩
theorem Nx.trans {W'' : World} {f g k : Nat → Nat} (h1 : Nx W W' f g) (h2 : Nx W' W'' g k) : Nx W W'' f k :=
 ⟨h1.fr.trans h2.fr (fun c hc e => by rw [h1.co c hc] at e; exact e), fun c hc => (h2.co c (Nat.lt_of_lt_of_le hc h1.fr.size)).trans (h1.co c hc)⟩
theorem LnM.nS (h : LnM W B id p) {T : Nat → Prop} (hf : Fr T W W') (hT : ∀ c, T c → FoS p.bs p.vp p.P c) : Nx W W' p.col (p.grow W.heap.size 1) := ⟨hf.mono (fun c e => by rw [(h.cS c (hT c e)).2.2]; decide), fun c hc => grow_old hc⟩
theorem LnM.nR (h : LnM W B id p) {T : Nat → Prop} (hf : Fr T W W') (hT : ∀ c, T c → FoR p.br p.m p.vo p.l1 p.E1 c) : Nx W W' p.col (p.grow W.heap.size 2) := ⟨hf.mono (fun c e => by rw [(h.cR c (hT c e)).2.2]; decide), fun c hc => grow_old hc⟩
theorem LnM.nA (h : LnM W B id p) {T : Nat → Prop} (hf : Fr T W W') (hT : ∀ c, T c → SaS p.ba p.vL p.vS c) : Nx W W' p.col (p.grow W.heap.size 3) := ⟨hf.mono (fun c e => by rw [(h.cA c (hT c e)).2.2]; decide), fun c hc => grow_old hc⟩
theorem LnM.nB (h : LnM W B id p) {T : Nat → Prop} (hf : Fr T W W') (hT : ∀ c, T c → SaS p.bb p.vl p.vE c) : Nx W W' p.col (p.grow W.heap.size 4) := ⟨hf.mono (fun c e => by rw [(h.cB c (hT c e)).2.2]; decide), fun c hc => grow_old hc⟩
end
section
variable {W : World} {B : Nat} {id : Int} {p : LP} {o : GOd} {al : List (Int × Int)}
theorem LnM.addP (h : LnM W B id p) (hq : LowA W B ⟨o, al⟩) (hts : o.txt.size ≤ maxLen) (hL : p.P.length ≤ 199) :
  Calls Tryz.prog 25 #[.pointer (some ⟨p.bs, 0, none⟩), .agg o.l.toArray] W fun e w' => e = .returned (.int .i64 (if accB p.P o al = true then 0 else 200)) ∧
   ∃ vp' col' oa ac, Nx W w' p.col col' ∧ LnM w' B id { p with vp := vp', P := addIf (accB p.P o al) p.P ⟨⟨o.withA oa ac, al⟩, false, 0⟩, col := col' } := by
 rcases accB_cases (L := p.P) (o := o) (al := al) with ⟨h0, h1, h2, h3⟩ | ⟨h0, hbad⟩
 ·rw [h0, if_pos rfl]
  refine (gAddG W B p.bs id p.vp p.P p.kp o al hq.len hq.few hq.rd hts h1 h.sn h2 hL h3).mono ?_
  rintro e w' ⟨rfl, vp', oa, ac, hs, hf, hn, ho⟩
  refine ⟨rfl, vp', _, oa, ac, h.nS hf (fun c e => e.elim .inl (fun e => .inr (.inl e))), h.upS hf (fun c e => e.elim .inl (fun e => .inr (.inl e))) hs (fun c e => ?_)⟩
  rcases e with e | e | ⟨q, hq, hne, a, ha, e⟩
  ·exact .inl (.inl e)
  ·exact (hn c e).imp_left (fun e => .inr (.inl e))
  ·rcases List.mem_append.1 hq with hq | hq
   ·exact .inl (.inr (.inr ⟨q, hq, hne, a, ha, e⟩))
   ·rw [List.mem_singleton.1 hq] at ha
    have := ho a ha
    rw [e] at this;exact .inr this
 ·rw [h0, if_neg (by simp)]
  rcases hbad with hbad | ⟨h1, h2, j, r, hr, hj, hlt⟩
  ·refine (gAddG_no W B p.bs id p.vp p.P p.kp o al hq.len hq.few hq.rd hts h.sn hL hbad).mono ?_
   rintro e w' ⟨rfl, hb⟩;exact ⟨rfl, p.vp, p.col, none, 0, Nx.below hb, h.below hb⟩
  ·refine (gAddG_early W B p.bs id p.vp p.P p.kp o al hq.len hq.few hq.rd hts h1 h.sn h2 hL j r hr hj hlt).mono ?_
   rintro e w' ⟨rfl, hb⟩;exact ⟨rfl, p.vp, p.col, none, 0, Nx.below hb, h.below hb⟩
theorem LnM.addA (h : LnM W B id p) (hq : LowA W B ⟨o, al⟩) (hts : o.txt.size ≤ maxLen) (hL : p.R.length ≤ 199) :
  Calls Tryz.prog 50 #[.pointer (some ⟨p.ba, 0, none⟩), .agg o.l.toArray] W fun e w' => e = .returned (.int .i64 (if accB p.R o al = true then 0 else 200)) ∧
   ∃ vL' vS' col', Nx W w' p.col col' ∧ LnM w' B id { p with vL := vL', vS := vS', R := addIf (accB p.R o al) p.R ⟨⟨o, al⟩, false, 0⟩, col := col' } := by
 have hml : (p.R.map pOf).length = p.R.length := List.length_map _
 rcases accB_cases (L := p.R) (o := o) (al := al) with ⟨h0, h1, h2, h3⟩ | ⟨h0, hbad⟩
 ·rw [h0, if_pos rfl]
  refine (refAdd_ok W p.ba id p.vL p.vS (p.R.map pOf) p.k (p.R.map tOf) o al h.sa (by omega) hq.len hq.few hq.rd hts h1 (by rw [hml]; exact h2) (fun j r hr hj => ?_) (hq.at (fun c e => (h.cA c e).1)).far).mono ?_
  ·rw [List.getElem?_map] at hr
   cases hx : p.R[j]? with
   | none => rw [hx] at hr; simp at hr
   | some x =>
    rw [hx] at hr
    simp only [Option.map_some, Option.some.injEq] at hr
    rw [← hr]
    have := h3 j x hx (by rw [hml] at hj; exact hj)
    show ¬ o.f < x.p.o.f
    omega
  ·rintro e w' ⟨rfl, vL', vS', hs, hf, hn⟩
   refine ⟨rfl, vL', vS', _, h.nA hf (fun c e => e), h.upA hf (fun c e => e) ?_ hn (fun q hq2 => ?_)⟩
   ·show SaG w' p.ba id vL' vS' ((p.R ++ [_]).map pOf) p.k ((p.R ++ [_]).map tOf)
    rw [List.map_append, List.map_append];exact hs
   ·rcases List.mem_append.1 hq2 with hq2 | hq2
    ·exact ⟨q, rfl, .inl hq2⟩
    ·rw [List.mem_singleton.1 hq2]
     exact ⟨_, rfl, .inr hq⟩
 ·rw [h0, if_neg (by simp)]
  rcases hbad with hbad | ⟨h1, h2, j, r, hr, hj, hlt⟩
  ·refine (refAdd_no W p.ba id p.vL p.vS (p.R.map pOf) p.k (p.R.map tOf) o al h.sa (by omega) hq.len hq.few hq.rd hts (by rw [hml]; exact hbad)).mono ?_
   rintro e w' ⟨rfl, hb⟩;exact ⟨rfl, p.vL, p.vS, p.col, Nx.below hb, h.below hb⟩
  ·refine (refAdd_early W p.ba id p.vL p.vS (p.R.map pOf) p.k (p.R.map tOf) o al h.sa (by omega) hq.len hq.few hq.rd hts h1 (by rw [hml]; exact h2) j (pOf r) (by rw [List.getElem?_map, hr]; rfl) (by rw [hml]; exact hj) hlt).mono ?_
   rintro e w' ⟨rfl, hb⟩;exact ⟨rfl, p.vL, p.vS, p.col, Nx.below hb, h.below hb⟩
end
def ackM (id : Int) (mo : MOd) (al : List (Int × Int)) (L : List PG) (k : Nat) : List PG × Nat :=
 if ((mo.kd == 2) && ((mo.tn == id) && okM mo al)) = true then (if L.length < mo.sq.toNat then (L, k) else if mo.sq.toNat < k then (clrG L mo.sq.toNat L.length, mo.sq.toNat) else (L, mo.sq.toNat)) else (L, k)
theorem ackM_c (id : Int) (mo : MOd) (al : List (Int × Int)) (L : List PG) (k : Nat) : ackM id mo al (L.map PG.c) k = ((ackM id mo al L k).1.map PG.c, (ackM id mo al L k).2) := by
 unfold ackM
 rw [List.length_map]
 split
 ·split
  ·rfl
  ·split
   ·rw [clrG_c]
   ·rfl
 ·rfl
theorem okM_ack {m : MOd} {al : List (Int × Int)} (h : okM m al = true) (hk : m.kd = 2) : 0 ≤ m.sq ∧ m.sq ≤ 200 := by
 unfold okM at h
 rw [if_neg (by omega), if_pos hk] at h
 simp only [Bool.and_eq_true, decide_eq_true_eq, beq_iff_eq] at h
 exact ⟨h.2.1, h.2.2.1⟩
section
variable {W : World} {B : Nat} {id : Int} {p : LP} {mo : MOd} {al : List (Int × Int)}
theorem LnM.ackP (h : LnM W B id p) (hna : al.length = mo.o.an) (hlm : mo.o.an ≤ 1000000) (hr : RdA W mo.o.ao al) (hts : mo.o.txt.size ≤ maxLen) (hL : p.P.length ≤ 200) (hk : p.kp ≤ p.P.length) :
  Calls Tryz.prog 22 #[.pointer (some ⟨p.bs, 0, none⟩), .agg mo.l.toArray] W fun e w' => (∃ v, e = .returned v) ∧ Fr (FoS p.bs p.vp p.P) W w' ∧
   ∃ col', Nx W w' p.col col' ∧ LnM w' B id { p with P := (ackM id mo al p.P p.kp).1, kp := (ackM id mo al p.P p.kp).2, col := col' } := by
 obtain ⟨ov, cv, hvp⟩ := own_slice h.sn.own
 have hb0 := h.sn.blk
 rw [hvp] at hb0
 unfold ackM
 cases htk : ((mo.kd == 2) && ((mo.tn == id) && okM mo al)) with
 | false =>
  rw [if_neg (by simp)]
  refine (gSRecv_no W p.bs id ov p.P.length cv p.kp mo al hb0 hna hlm hr hts htk).mono ?_
  rintro e w' ⟨he, hb⟩;exact ⟨he, Fr.under _ hb, p.col, Nx.below hb, h.below hb⟩
 | true =>
  rw [if_pos rfl]
  have ht2 := htk
  simp only [Bool.and_eq_true, beq_iff_eq] at ht2
  have hsq := okM_ack ht2.2.2 ht2.1
  obtain ⟨sq, hsn⟩ : ∃ sq : Nat, mo.sq = (sq : Int) := ⟨mo.sq.toNat, by omega⟩
  have e1 : mo.sq.toNat = sq := by omega
  rw [e1]
  by_cases h1 : p.P.length < sq
  ·rw [if_pos h1]
   refine (gSRecv_far W p.bs id ov p.P.length cv p.kp mo al hb0 hna hlm hr hts htk (by omega)).mono ?_
   rintro e w' ⟨he, hb⟩;exact ⟨he, Fr.under _ hb, p.col, Nx.below hb, h.below hb⟩
  ·rw [if_neg h1]
   by_cases h2 : sq < p.kp
   ·rw [if_pos h2]
    refine (gSRecvG_down W B p.bs id p.vp p.P p.kp sq h.sn mo al hna hlm hr hts htk hsn h2 hk hL).mono ?_
    rintro e w' ⟨he, hs, hf⟩
    refine ⟨he, hf.mono (fun c e => e.elim .inl (fun e => .inr (.inl e))), _, h.nS hf (fun c e => e.elim .inl (fun e => .inr (.inl e))), h.upS hf (fun c e => e.elim .inl (fun e => .inr (.inl e))) hs (fun c e => ?_)⟩
    rcases e with e | e | ⟨q, hq, hal⟩
    ·exact .inl (.inl e)
    ·exact .inl (.inr (.inl e))
    ·obtain ⟨j, hj⟩ := List.mem_iff_getElem?.1 hq
     obtain ⟨r, h3, h4, _⟩ := clrG_at_ok hj
     rw [h4] at hal
     exact .inl (.inr (.inr ⟨r, List.mem_of_getElem? h3, hal⟩))
   ·rw [if_neg h2]
    refine (gSRecvG_up W B p.bs id p.vp p.P p.kp sq h.sn mo al hna hlm hr hts htk hsn (by omega) (by omega) hL).mono ?_
    rintro e w' ⟨he, hs, hf⟩
    exact ⟨he, hf.mono (fun c e => .inl e), _, h.nS hf (fun c e => .inl e), h.upS hf (fun c e => .inl e) hs (fun c e => .inl e)⟩
theorem LnM.ackA (h : LnM W B id p) (hna : al.length = mo.o.an) (hlm : mo.o.an ≤ 1000000) (hr : RdA W mo.o.ao al) (hts : mo.o.txt.size ≤ maxLen) (hL : p.R.length ≤ 200) (hk : p.k ≤ p.R.length) :
  Calls Tryz.prog 54 #[.pointer (some ⟨p.ba, 0, none⟩), .agg mo.l.toArray] W fun e w' => (∃ v, e = .returned v) ∧ Fr (SaS p.ba p.vL p.vS) W w' ∧
   ∃ col', Nx W w' p.col col' ∧ LnM w' B id { p with R := (ackM id mo al p.R p.k).1, k := (ackM id mo al p.R p.k).2, col := col' } := by
 unfold ackM
 by_cases htk : ((mo.kd == 2) && ((mo.tn == id) && okM mo al)) = true
 ·rw [if_pos htk]
  have ht2 := htk
  simp only [Bool.and_eq_true, beq_iff_eq] at ht2
  have hsq := okM_ack ht2.2.2 ht2.1
  obtain ⟨sq, hsn⟩ : ∃ sq : Nat, mo.sq = (sq : Int) := ⟨mo.sq.toNat, by omega⟩
  have e1 : mo.sq.toNat = sq := by omega
  rw [e1]
  by_cases h1 : p.R.length < sq
  ·rw [if_pos h1]
   refine (refSRecv_no W p.ba id p.vL p.vS p.R p.k mo al h.sa hk (by omega) hna hlm hr hts (.inr ⟨ht2.2.2, .inr ⟨ht2.1, .inr ⟨ht2.2.1, by omega⟩⟩⟩)).mono ?_
   rintro e w' ⟨he, hb⟩;exact ⟨he, Fr.under _ hb, p.col, Nx.below hb, h.below hb⟩
  ·rw [if_neg h1]
   by_cases h2 : sq < p.k
   ·rw [if_pos h2]
    refine (refSRecv_down W p.ba id p.vL p.vS p.R p.k mo al h.sa hk (by omega) hna hlm hr hts ht2.2.2 ht2.1 ht2.2.1 sq hsn (by omega) h2).mono ?_
    rintro e w' ⟨he, hs, hf⟩
    refine ⟨he, hf.mono (fun c e => e.elim .inl (fun e => .inr (.inr e))), _, h.nA hf (fun c e => e.elim .inl (fun e => .inr (.inr e))), h.upA hf (fun c e => e.elim .inl (fun e => .inr (.inr e))) hs (fun c e => .inl e) (fun q hq => ?_)⟩
    obtain ⟨j, hj⟩ := List.mem_iff_getElem?.1 hq
    obtain ⟨r, h3, h4, _⟩ := clrG_at_ok hj
    exact ⟨r, h4.symm, .inl (List.mem_of_getElem? h3)⟩
   ·rw [if_neg h2]
    refine (refSRecv_up W p.ba id p.vL p.vS p.R p.k mo al h.sa hk (by omega) hna hlm hr hts ht2.2.2 ht2.1 ht2.2.1 sq hsn (by omega) (by omega)).mono ?_
    rintro e w' ⟨he, hs, hf⟩
    exact ⟨he, hf.mono (fun c e => .inl e), _, h.nA hf (fun c e => .inl e), h.upA hf (fun c e => .inl e) hs (fun c e => .inl e) (fun q hq => ⟨q, rfl, .inl hq⟩)⟩
 ·rw [if_neg htk]
  refine (refSRecv_no W p.ba id p.vL p.vS p.R p.k mo al h.sa hk (by omega) hna hlm hr hts ?_).mono ?_
  ·simp only [Bool.and_eq_true, beq_iff_eq, not_and] at htk
   cases hv : okM mo al with
   | false => exact .inl rfl
   | true =>
    refine .inr ⟨rfl, ?_⟩
    by_cases h1 : mo.kd = 2
    ·exact .inr ⟨h1, .inl (fun h2 => htk h1 h2 hv)⟩
    ·exact .inl h1
  ·rintro e w' ⟨he, hb⟩
   exact ⟨he, Fr.under _ hb, p.col, Nx.below hb, h.below hb⟩
end
def ackMP (id : Int) (n : Nat) : MP := ⟨⟨2, id, n, 0, 0, zG.o⟩, []⟩
def ackL (b : Bool) (id : Int) (n : Nat) : List MP := if b = true then [ackMP id n] else []
structure RdX (W : World) (B N : Nat) (oa : Option Addr) (l : List MP) : Prop where
 rd : RdM W oa l
 row : l ≠ [] → ∀ a, oa = some a → N ≤ a.block
 alt : ∀ q ∈ l, q.al ≠ [] → ∀ a, q.m.o.ao = some a → a.block < B ∨ N ≤ a.block
theorem RdX.turn {W W' : World} {B N : Nat} {oa : Option Addr} {l : List MP} (h : RdX W B N oa l) {T : Nat → Prop} (hf : Fr T W W') (hT : ∀ c, T c → B ≤ c ∧ c < N) : RdX W' B N oa l := by
 refine ⟨⟨?_, fun q hq => ?_⟩, h.row, h.alt⟩
 ·rcases h.rd.row with e | ⟨b, o, e, hlt, hc⟩
  ·exact .inl e
  ·by_cases hn : l = []
   ·exact .inl hn
   ·have h1 : N ≤ b := h.row hn _ e
    have hb := hf.block b hlt (fun e' => by have := hT _ e'; omega)
    refine .inr ⟨b, o, e, Nat.lt_of_lt_of_le hlt hf.size, fun j v hj => ?_⟩
    have h2 := hc j v hj
    unfold World.cell? at *
    dsimp only at *
    rw [hb];exact h2
 ·obtain ⟨h1, h2, h3⟩ := h.rd.als q hq
  refine ⟨h1, h2, ?_⟩
  by_cases hn : q.al = []
  ·exact .inl hn
  ·exact h3.keptB hf.size (fun b o e hlt => hf.block b hlt (fun e' => by
    have h4 := hT _ e'
    rcases h.alt q hq hn _ e with h5 | h5
    ·have h5 : b < B := h5
     omega
    ·have h5 : N ≤ b := h5
     omega))
theorem RdX.below {W W' : World} {B N : Nat} {oa : Option Addr} {l : List MP} (h : RdX W B N oa l) (hb : Below W.heap.size W W') : RdX W' B N oa l := h.turn (Fr.under (fun _ => False) hb) (fun _ e => e.elim)
theorem RdX.nil (W : World) (B N : Nat) (oa : Option Addr) : RdX W B N oa [] := ⟨⟨.inl rfl, fun q hq => absurd hq (by simp)⟩, fun h => absurd rfl h, fun q hq => absurd hq (by simp)⟩
theorem RdX.ack {W : World} {B N : Nat} {id : Int} {n ob : Nat} (h : Blk W ob 32 (msgA 2 id (n : Int) 0 0 0 0 0 0 0).toList) (hN : N ≤ ob) : RdX W B N (some ⟨ob, 0, none⟩) [ackMP id n] := by
 refine ⟨⟨.inr ⟨ob, 0, rfl, h.lt, fun j v hj => ?_⟩, fun q hq => ?_⟩, fun _ a e => ?_, fun q hq hn => ?_⟩
 ·have e : mpCells [ackMP id n] = (msgA 2 id (n : Int) 0 0 0 0 0 0 0).toList := by
   unfold mpCells
   rw [List.flatMap_cons, List.flatMap_nil, List.append_nil]
   rfl
  rw [e] at hj
  have := h.range j v hj
  exact this
 ·rw [List.mem_singleton.1 hq]
  exact ⟨rfl, Nat.zero_le _, .inl rfl⟩
 ·cases e
  exact hN
 ·rw [List.mem_singleton.1 hq] at hn
  exact absurd rfl hn
def recvC (l : List GP) (E : List (Int × GP)) (sq : Int) (q : GP) : List GP × List (Int × GP) := advG (putG l E sq q).length l (putG l E sq q)
theorem recvC_c (l : List GP) (E : List (Int × GP)) (sq : Int) (q : GP) : recvC (l.map GP.c) (E.map ec) sq q.c = ((recvC l E sq q).1.map GP.c, (recvC l E sq q).2.map ec) := by
 unfold recvC
 rw [← putG_c, List.length_map, advG_c]
section
variable {W : World} {B : Nat} {id : Int} {p : LP} {mo : MOd} {al : List (Int × Int)}
def tkB (id : Int) (mo : MOd) (al : List (Int × Int)) : Bool := (mo.kd == 1) && ((mo.tn == id) && okM mo al)
theorem advG_mem : ∀ (n : Nat) (l : List GP) (E : List (Int × GP)) (q : GP), (q ∈ (advG n l E).1 ∨ q ∈ (advG n l E).2.map (fun x => x.2)) → q ∈ l ∨ q ∈ E.map (fun x => x.2)
 | 0, _, _, _, h => h
 | n + 1, l, E, q, h => by
  simp only [advG] at h
  cases hi : idxG E ((l.length : Int) + 1) with
  | none =>
   rw [hi] at h;exact h
  | some x =>
   rw [hi] at h
   dsimp only at h
   have hx := idxG_lt (j := x.1) (o := x.2) hi
   rcases advG_mem n _ _ q h with h | h
   ·rcases List.mem_append.1 h with h | h
    ·exact .inl h
    ·rw [List.mem_singleton.1 h]
     exact .inr (List.mem_map.2 ⟨_, List.mem_of_getElem? hx, rfl⟩)
   ·obtain ⟨y, hy, e⟩ := List.mem_map.1 h
    exact .inr (List.mem_map.2 ⟨y, List.mem_of_mem_eraseIdx hy, e⟩)
theorem recvC_mem {l : List GP} {E : List (Int × GP)} {sq : Int} {q0 q : GP} (h : q ∈ (recvC l E sq q0).1 ∨ q ∈ (recvC l E sq q0).2.map (fun x => x.2)) : (q ∈ l ∨ q ∈ E.map (fun x => x.2)) ∨ (q = q0 ∧ putG l E sq q0 ≠ E) := by
 rcases advG_mem _ _ _ q h with h | h
 ·exact .inl (.inl h)
 ·by_cases he : putG l E sq q0 = E
  ·rw [he] at h
   exact .inl (.inr h)
  ·have he2 := he
   unfold putG at h he2
   split at h
   ·exact .inl (.inr h)
   ·split at h
    ·rw [List.map_append] at h
     rcases List.mem_append.1 h with h | h
     ·exact .inl (.inr h)
     ·exact .inr ⟨by simpa using h, he⟩
    ·exact .inl (.inr h)
theorem LnM.recvP (h : LnM W B id p) (hna : al.length = mo.o.an) (hlm : mo.o.an ≤ 1000000) (hr : RdA W mo.o.ao al) (hts : mo.o.txt.size ≤ maxLen) (hlE : p.l1.length + p.E1.length ≤ 800) :
  Calls Tryz.prog 21 #[.pointer (some ⟨p.br, 0, none⟩), .agg mo.l.toArray] W fun e w' => ∃ (ob : Option Addr) (cap : Nat) (vo' : Value) (l' : List GP) (E' : List (Int × GP)) (col' : Nat → Nat), e = .returned (.slice ob (ackL (tkB id mo al) id l'.length).length cap) ∧ RdX w' B W.heap.size ob (ackL (tkB id mo al) id l'.length) ∧ Fr (FoR p.br p.m p.vo p.l1 p.E1) W w' ∧ Nx W w' p.col col' ∧
   LnM w' B id { p with vo := vo', l1 := l', E1 := E', col := col' } ∧ (l'.map GP.c, E'.map ec) = (if tkB id mo al = true then recvC (p.l1.map GP.c) (p.E1.map ec) mo.sq (GP.mk mo.o al).c else (p.l1.map GP.c, p.E1.map ec)) := by
 cases htk : tkB id mo al with
 | false =>
  rw [if_neg (by simp)]
  refine (gRecv_no W p.br id p.vo (.map (some p.m)) mo al h.rc.blk hna hlm hr hts htk).mono ?_
  rintro e w' ⟨rfl, hb⟩;exact ⟨none, 0, p.vo, p.l1, p.E1, p.col, rfl, RdX.nil _ _ _ _, Fr.under _ hb, Nx.below hb, h.below hb, rfl⟩
 | true =>
  rw [if_pos rfl]
  refine (gRecv W B p.br id p.vo p.l1 p.m p.E1 mo al h.rc hna hlm hr hts htk (by omega)).mono ?_
  rintro e w' ⟨q, vo', ob, l', E', hq, heq, rfl, hb, hN, hs, hf, hn, hnew⟩
  have hcq : q.c = (GP.mk mo.o al).c := c_eq.2 hq
  have heq : (l', E') = recvC p.l1 p.E1 mo.sq q := heq
  refine ⟨some ⟨ob, 0, none⟩, 1, vo', l', E', _, rfl, RdX.ack hb hN, hf.mono (fun c e => e.elim .inl (fun e => .inr (e.elim .inl (fun e => .inr (.inl e))))), h.nR hf (fun c e => e.elim .inl (fun e => .inr (e.elim .inl (fun e => .inr (.inl e))))), h.upR hf (fun c e => e.elim .inl (fun e => .inr (e.elim .inl (fun e => .inr (.inl e))))) hs (fun c e => ?_), ?_⟩
  ·rcases e with e | e | e | ⟨r, hr, hal⟩
   ·exact .inl (.inl e)
   ·exact .inl (.inr (.inl e))
   ·exact (hn c e).imp_left (fun e => .inr (.inr (.inl e)))
   ·have hl : l' = (recvC p.l1 p.E1 mo.sq q).1 := congrArg Prod.fst heq
    have hE : E' = (recvC p.l1 p.E1 mo.sq q).2 := congrArg Prod.snd heq
    rw [hl, hE] at hr
    rcases recvC_mem hr with hr | ⟨hr, hp⟩
    ·exact .inl (.inr (.inr (.inr ⟨r, hr, hal⟩)))
    ·rcases hnew with hnew | hnew
     ·exact absurd hnew hp
     ·rw [hr] at hal
      obtain ⟨_, a, ha, e⟩ := hal
      have := hnew a ha
      exact .inr (by omega)
  ·rw [← hcq, recvC_c, ← heq]
theorem LnM.recvB (h : LnM W B id p) (hq : LowA W B ⟨mo.o, al⟩) (hts : mo.o.txt.size ≤ maxLen) (hlE : p.l2.length + p.E2.length ≤ 800) :
  Calls Tryz.prog 84 #[.pointer (some ⟨p.bb, 0, none⟩), .agg mo.l.toArray] W fun e w' => ∃ (ob : Option Addr) (cap : Nat) (vl' vE' : Value) (l' E' : List GP) (col' : Nat → Nat), e = .returned (.slice ob (ackL (tkB id mo al) id l'.length).length cap) ∧ RdX w' B W.heap.size ob (ackL (tkB id mo al) id l'.length) ∧ Fr (SaS p.bb p.vl p.vE) W w' ∧ Nx W w' p.col col' ∧
   LnM w' B id { p with vl := vl', vE := vE', l2 := l', E2 := E', col := col' } ∧ (l'.map GP.c, (E'.map ke).map ec) = (if tkB id mo al = true then recvC (p.l2.map GP.c) ((p.E2.map ke).map ec) mo.sq (GP.mk mo.o al).c else (p.l2.map GP.c, (p.E2.map ke).map ec)) := by
 cases htk : tkB id mo al with
 | false =>
  rw [if_neg (by simp)]
  refine (refRecv_no W p.bb id p.vl p.vE p.l2 p.E2 mo al h.rb hlE hq.len hq.few hq.rd hts ?_).mono ?_
  ·unfold tkB at htk
   cases hv : okM mo al with
   | false => exact .inl rfl
   | true =>
    rw [hv, Bool.and_true] at htk
    refine .inr ⟨rfl, ?_⟩
    by_cases h1 : mo.kd = 1
    ·rw [beq_iff_eq.2 h1, Bool.true_and] at htk
     exact .inr ⟨h1, beq_eq_false_iff_ne.1 htk⟩
    ·exact .inl h1
  ·rintro e w' ⟨rfl, hb⟩
   exact ⟨none, 0, p.vl, p.vE, p.l2, p.E2, p.col, rfl, RdX.nil _ _ _ _, Fr.under _ hb, Nx.below hb, h.below hb, rfl⟩
 | true =>
  rw [if_pos rfl]
  have ht2 := htk
  unfold tkB at ht2
  simp only [Bool.and_eq_true, beq_iff_eq] at ht2
  refine (refRecv_any W p.bb id p.vl p.vE p.l2 p.E2 mo al h.rb hlE hq.len hq.few hq.rd hts ht2.2.2 ht2.1 ht2.2.1 (hq.at (fun c e => (h.cB c e).1)).far).mono ?_
  rintro e w' ⟨vl', vE', ob, l', E', heq, rfl, hb, hN, hs, hf, hn, _⟩
  have heq : (l', E'.map ke) = recvC p.l2 (p.E2.map ke) mo.sq ⟨mo.o, al⟩ := heq
  refine ⟨some ⟨ob, 0, none⟩, 1, vl', vE', l', E', _, rfl, RdX.ack hb hN, hf, h.nB hf (fun c e => e), h.upB hf (fun c e => e) hs hn (fun r hr => ?_), ?_⟩
  ·have hl : l' = (recvC p.l2 (p.E2.map ke) mo.sq ⟨mo.o, al⟩).1 := congrArg Prod.fst heq
   have hE : E'.map ke = (recvC p.l2 (p.E2.map ke) mo.sq ⟨mo.o, al⟩).2 := congrArg Prod.snd heq
   have hr2 : r ∈ (recvC p.l2 (p.E2.map ke) mo.sq ⟨mo.o, al⟩).1 ∨ r ∈ (recvC p.l2 (p.E2.map ke) mo.sq ⟨mo.o, al⟩).2.map (fun x => x.2) := by
    rw [← hl, ← hE]
    rcases hr with hr | hr
    ·exact .inl hr
    ·refine .inr (List.mem_map.2 ⟨ke r, List.mem_map.2 ⟨r, hr, rfl⟩, rfl⟩)
   rcases recvC_mem hr2 with hr3 | ⟨hr3, _⟩
   ·refine .inl (hr3.imp (fun h => h) (fun h => ?_))
    obtain ⟨y, hy, e⟩ := List.mem_map.1 h
    obtain ⟨z, hz, e2⟩ := List.mem_map.1 hy
    rw [← e, ← e2];exact hz
   ·rw [hr3]
    exact .inr hq
  ·rw [recvC_c, ← heq]
end
section
variable {W : World} {B : Nat} {id : Int} {p : LP} {now : Int}
theorem LnM.tickP (h : LnM W B id p) (hk : p.kp ≤ p.P.length) (hL : p.P.length ≤ 200) (n0 : 0 ≤ now) (n1 : now ≤ 1000000000) (hat : ∀ q ∈ p.P, 0 ≤ q.at_ ∧ q.at_ ≤ 1000000000) :
  Calls Tryz.prog 20 #[.pointer (some ⟨p.bs, 0, none⟩), .int .i64 now] W fun e w' => ∃ (ob : Option Addr) (cap : Nat) (Ms : List GP) (col' : Nat → Nat), e = .returned (.slice ob Ms.length cap) ∧ RdX w' B W.heap.size ob (Ms.map (ordM id)) ∧ Fr (FoS p.bs p.vp p.P) W w' ∧ Nx W w' p.col col' ∧
   LnM w' B id { p with P := updG p.P (firstW p.kp p.P.length) p.P.length now, col := col' } ∧ Ms.map GP.c = (sentG p.P (firstW p.kp p.P.length) now p.P.length).map GP.c := by
 refine (gTick W B p.bs id p.vp p.P p.kp now h.sn hk hL n0 n1 hat).mono ?_
 rintro e w' ⟨vl, Ms, rfl, ho, hc, hg, hs, hf⟩
 obtain ⟨ob, cap, rfl⟩ := own_slice ho
 rw [gmCells_mp] at ho
 refine ⟨ob, cap, Ms, _, rfl, ⟨rdm_of (by rw [List.length_map]; exact ho) (fun q hq => ?_), fun _ a e => ?_, fun q hq hn a ha => ?_⟩, hf.mono (fun c e => .inr (.inl e)), h.nS hf (fun c e => .inr (.inl e)), h.upS hf (fun c e => .inr (.inl e)) hs (fun c e => ?_), copyS_map hc⟩
 ·obtain ⟨r, hr, rfl⟩ := List.mem_map.1 hq
  exact ⟨(hg r hr).len, (hg r hr).few, (hg r hr).rd⟩
 ·rw [e] at ho
  exact own_ge ho a.block rfl
 ·obtain ⟨r, hr, rfl⟩ := List.mem_map.1 hq
  exact .inr ((hg r hr).own hn a ha).1
 ·rcases e with e | e | ⟨q, hq, hal⟩
  ·exact .inl (.inl e)
  ·exact .inl (.inr (.inl e))
  ·obtain ⟨j, hj⟩ := List.mem_iff_getElem?.1 hq
   rw [updG_get] at hj
   cases hr : p.P[j]? with
   | none => rw [hr] at hj; simp at hj
   | some r =>
    rw [hr] at hj
    simp only [Option.map_some, Option.some.injEq] at hj
    have e2 : q.p = r.p := by
     rw [← hj]
     split
     ·exact upd_p r now
     ·rfl
    rw [e2] at hal
    exact .inl (.inr (.inr ⟨r, List.mem_of_getElem? hr, hal⟩))
theorem LnM.tickA (h : LnM W B id p) (hk : p.k ≤ p.R.length) (hL : p.R.length ≤ 200) (n0 : 0 ≤ now) (n1 : now ≤ 1000000000) (hat : ∀ q ∈ p.R, 0 ≤ q.at_ ∧ q.at_ ≤ 1000000000) (hsq : ∀ (j : Nat) q, p.R[j]? = some q → q.p.o.s = (j : Int) + 1) :
  Calls Tryz.prog 51 #[.pointer (some ⟨p.ba, 0, none⟩), .int .i64 now] W fun e w' => ∃ (ob : Option Addr) (cap : Nat) (col' : Nat → Nat), e = .returned (.slice ob (sentG p.R (firstW p.k p.R.length) now p.R.length).length cap) ∧ RdX w' B W.heap.size ob ((sentG p.R (firstW p.k p.R.length) now p.R.length).map (ordM id)) ∧ Fr (SaS p.ba p.vL p.vS) W w' ∧
   w'.ownsRow W.heap.size 32 31 (.slice ob (sentG p.R (firstW p.k p.R.length) now p.R.length).length cap) (sentG p.R (firstW p.k p.R.length) now p.R.length).length (gmCells id (sentG p.R (firstW p.k p.R.length) now p.R.length)) ∧ Nx W w' p.col col' ∧
   LnM w' B id { p with R := updG p.R (firstW p.k p.R.length) p.R.length now, col := col' } := by
 have hml : (p.R.map pOf).length = p.R.length := List.length_map _
 rcases Nat.eq_zero_or_pos p.R.length with h0 | h0
 ·have hR : p.R = [] := List.eq_nil_of_length_eq_zero h0
  refine (refTick_no W p.ba id p.vL p.vS (p.R.map pOf) p.k (p.R.map tOf) now h.sa (by omega) (.inl (by rw [hR]; rfl))).mono ?_
  rintro e w' ⟨rfl, hb⟩
  have e1 : updG p.R (firstW p.k p.R.length) p.R.length now = p.R := by rw [hR]; rfl
  have e2 : sentG p.R (firstW p.k p.R.length) now p.R.length = [] := by rw [hR]; rfl
  rw [e1, e2];exact ⟨none, 0, p.col, rfl, RdX.nil _ _ _ _, Fr.under _ hb, World.ownsRow_nil _ _ _ _, Nx.below hb, h.below hb⟩
 ·refine (refTick_any W p.ba id p.vL p.vS p.R p.k now h.sa hk (by omega) h0 n0 n1 hat hsq).mono ?_
  rintro e w' ⟨vl, rfl, ho, hs, hf⟩
  obtain ⟨ob, cap, rfl⟩ := own_slice ho
  have ho2 := ho
  rw [gmCells_mp] at ho
  have hlow : ∀ q ∈ sentG p.R (firstW p.k p.R.length) now p.R.length, LowA w' B q := fun q hq => by
   obtain ⟨r, hr, rfl⟩ := sentG_sub _ _ _ _ _ hq
   exact (h.aR r hr).turn hf (fun c e => (h.cA c (.inr (.inr e))).1)
  refine ⟨ob, cap, _, rfl, ⟨rdm_of (by rw [List.length_map]; exact ho) (fun q hq => ?_), fun _ a e => ?_, fun q hq hn a ha => ?_⟩, hf.mono (fun c e => .inr (.inr e)), ho2, h.nA hf (fun c e => .inr (.inr e)), h.upA hf (fun c e => .inr (.inr e)) (by rw [updG_p]; exact hs) (fun c e => .inl e) (fun q hq => ?_)⟩
  ·obtain ⟨r, hr, rfl⟩ := List.mem_map.1 hq
   exact ⟨(hlow r hr).len, (hlow r hr).few, (hlow r hr).rd⟩
  ·rw [e] at ho
   exact own_ge ho a.block rfl
  ·obtain ⟨r, hr, rfl⟩ := List.mem_map.1 hq
   exact .inl ((hlow r hr).low hn a ha)
  ·obtain ⟨j, hj⟩ := List.mem_iff_getElem?.1 hq
   rw [updG_get] at hj
   cases hr : p.R[j]? with
   | none => rw [hr] at hj; simp at hj
   | some r =>
    rw [hr] at hj
    simp only [Option.map_some, Option.some.injEq] at hj
    refine ⟨r, ?_, .inl (List.mem_of_getElem? hr)⟩
    rw [← hj]
    split
    ·exact (upd_p r now).symm
    ·rfl
theorem LnM.doneP (h : LnM W B id p) : Calls Tryz.prog 18 #[.pointer (some ⟨p.bs, 0, none⟩)] W fun e w' => e = .returned (.bool (p.kp == p.P.length)) ∧ Below W.heap.size W w' := by
 obtain ⟨ov, cv, hvp⟩ := own_slice h.sn.own
 have hb0 := h.sn.blk
 rw [hvp] at hb0
 refine (done_any p.bs p.P.length cv ov (.int .i64 id) p.kp W hb0).mono ?_
 rintro e w' ⟨rfl, hb⟩
 refine ⟨?_, hb⟩
 congr 2
 by_cases e : p.kp = p.P.length
 ·rw [e]
  simp
 ·rw [beq_eq_false_iff_ne.2 e, beq_eq_false_iff_ne.2 (by omega)]
theorem LnM.ordP (h : LnM W B id p) (hl : p.l1.length ≤ 1000) : Calls Tryz.prog 17 #[.pointer (some ⟨p.br, 0, none⟩)] W fun e w' => ∃ (ob : Option Addr) (cap : Nat) (l' : List GP), e = .returned (.slice ob p.l1.length cap) ∧ l'.length = p.l1.length ∧ RdG w' ob l' ∧ l'.map GP.c = p.l1.map GP.c ∧ Below W.heap.size W w' := by
 obtain ⟨oa, c, hvo⟩ := own_slice h.rc.own
 have hb0 := h.rc.blk
 rw [hvo] at hb0
 have hr := h.rc
 rw [hvo] at hr
 refine (gOrders W p.br p.l1.length c (.int .i64 id) (.map (some p.m)) oa p.l1 hb0 rfl hl hr.rd).mono ?_
 rintro e w' ⟨ob, cb, l', rfl, hc, ho, hb⟩
 refine ⟨ob, cb, l', rfl, hc.1, rdg_of (by rw [hc.1]; exact ho) (fun q hq => ?_), ?_, hb⟩
 ·obtain ⟨j, hj⟩ := List.mem_iff_getElem?.1 hq
  have hlt := (List.getElem?_eq_some_iff.1 hj).1
  rw [hc.1] at hlt
  obtain ⟨q', h1, _, _, h2⟩ := hc.2 j p.l1[j] hlt (List.getElem?_eq_getElem hlt)
  rw [hj] at h1
  cases h1
  exact ⟨h2.len, h2.few, h2.rd⟩
 ·refine List.ext_getElem? fun j => ?_
  rw [List.getElem?_map, List.getElem?_map]
  by_cases hlt : j < p.l1.length
  ·obtain ⟨q', h1, h2, h3, _⟩ := hc.2 j p.l1[j] hlt (List.getElem?_eq_getElem hlt)
   rw [h1, List.getElem?_eq_getElem hlt]
   exact congrArg some (c_eq.2 ⟨h2, h3⟩)
  ·rw [List.getElem?_eq_none (by have := hc.1; omega), List.getElem?_eq_none (by omega)]
theorem same_ords {l k : List GP} {oa ob : Option Addr} {n c d : Nat} {W : World} (hn : l.length = n) (hk : k.length = n) (hlm : n ≤ 1000000) (ha : RdG W oa l) (hb : RdG W ob k) (hc : l.map GP.c = k.map GP.c) : Calls Tryz.prog 16 #[.slice oa n c, .slice ob n d] W fun e w' => e = .returned (.bool true) ∧ Below W.heap.size W w' :=
 gSameOrds l k oa ob n c d W hn hk hlm ha hb (fun j q r hq hr => by
  have h1 := ha.als q (List.mem_of_getElem? hq)
  have h2 := hb.als r (List.mem_of_getElem? hr)
  have h3 : (l.map GP.c)[j]? = (k.map GP.c)[j]? := by rw [hc]
  rw [List.getElem?_map, List.getElem?_map, hq, hr] at h3
  simp only [Option.map_some, Option.some.injEq] at h3
  unfold GP.c at h3
  rw [GP.mk.injEq] at h3
  exact (sameOB_iff q.o r.o q.al r.al h1.1 h2.1).2 h3)
def MP.c (q : MP) : MP := ⟨q.m.withA none 0, q.al⟩
theorem same_msgs {l k : List MP} {oa ob : Option Addr} {n c d : Nat} {W : World} (hn : l.length = n) (hk : k.length = n) (hlm : n ≤ 1000000) (ha : RdM W oa l) (hb : RdM W ob k) (hc : l.map MP.c = k.map MP.c) : Calls Tryz.prog 52 #[.slice oa n c, .slice ob n d] W fun e w' => e = .returned (.bool true) ∧ Below W.heap.size W w' :=
 gSameMsgs l k oa ob n c d W hn hk hlm ha hb (fun j q r hq hr => by
  have h1 := ha.als q (List.mem_of_getElem? hq)
  have h2 := hb.als r (List.mem_of_getElem? hr)
  have h3 : (l.map MP.c)[j]? = (k.map MP.c)[j]? := by rw [hc]
  rw [List.getElem?_map, List.getElem?_map, hq, hr] at h3
  simp only [Option.map_some, Option.some.injEq] at h3
  unfold MP.c at h3
  rw [MP.mk.injEq] at h3
  exact (sameMB_iff q.m r.m q.al r.al h1.1 h2.1).2 h3)
theorem ordM_c (id : Int) (l k : List GP) (h : l.map GP.c = k.map GP.c) : (l.map (ordM id)).map MP.c = (k.map (ordM id)).map MP.c := by
 rw [List.map_map, List.map_map]
 have e : ∀ q : GP, (MP.c ∘ ordM id) q = ordM id q.c := fun q => rfl
 rw [show l.map (MP.c ∘ ordM id) = (l.map GP.c).map (ordM id) by rw [List.map_map]; rfl, show k.map (MP.c ∘ ordM id) = (k.map GP.c).map (ordM id) by rw [List.map_map]; rfl, h]
theorem gmCells_one (id : Int) (l : List GP) : ∀ u ∈ gmCells id l, u.oneCell' = true := fun u hu => by
 obtain ⟨p, _, hp⟩ := List.mem_flatMap.1 hu
 have := (MOd.mk 1 id p.o.s 0 0 p.o).oneC
 rw [Array.all_eq_true_iff_forall_mem] at this
 exact this u (by simpa using hp)
theorem gmCells_app (id : Int) (S T : List GP) : gmCells id S ++ gmCells id T = gmCells id (S ++ T) := by simp [gmCells]
theorem app_gms (wr : World) (B N : Nat) (id : Int) (v : Value) (oa : Option Addr) (c : Nat) (S T : List GP) (hown : wr.ownsRow B 32 31 v S.length (gmCells id S)) (ht : wr.ownsRow N 32 31 (.slice oa T.length c) T.length (gmCells id T)) (hn : S.length + T.length ≤ 1000000) (hB : B ≤ wr.heap.size) (ty : TypeId) :
  ∃ ob cap w', (Builtin.append_ #[55, 55] ty #[v, .slice oa T.length c]).run Tryz.prog wr = .ok (.slice ob (S ++ T).length cap) w' ∧ w'.ownsRow B 32 31 (.slice ob (S ++ T).length cap) (S ++ T).length (gmCells id (S ++ T)) ∧ Fr (fun k => v.ownBlock = some k) wr w' ∧ (∀ k, (Value.slice ob (S ++ T).length cap).ownBlock = some k → v.ownBlock = some k ∨ wr.heap.size ≤ k) := by
 obtain ⟨i0, hi, hz0, hz1, hz2⟩ := info_parts Tryz.infoMsg
 rcases ht.2 with ⟨h1, hz⟩ | ⟨g, cap, cur, h1, h2⟩
 ·obtain rfl : T = [] := List.eq_nil_of_length_eq_zero hz
  simp only [Value.slice.injEq] at h1
  obtain ⟨rfl, -, rfl⟩ := h1
  obtain ⟨ob, cap, rfl⟩ := own_slice hown
  refine ⟨ob, cap, wr, ?_, by rw [List.append_nil]; exact hown, Fr.refl _ _, fun k hk => .inl (by rw [List.append_nil] at hk; exact hk)⟩
  rw [List.append_nil]
  exact run_append_owned_none wr B 55 ty 32 i0 31 Tryz.underlying55 hi _ _ _ hown
 ·simp only [Value.slice.injEq] at h1
  obtain ⟨rfl, -, rfl⟩ := h1
  obtain ⟨v', w', hrun, h3, h4, h5⟩ := app_own (P := Tryz.prog) (W := wr) B 55 ty 32 i0 (.agg aZm) 31 272 Tryz.underlying55 hi hz0 hz1 hz2 rfl (by decide) v S.length (gmCells id S) hown ⟨g, 0, none⟩ T.length c (gmCells id T) ht.1 (fun j u hj => by
   have hj2 := (List.getElem?_eq_some_iff.1 hj).1
   have hm := ht.1
   rw [show ((⟨g, 0, none⟩ : Addr).add j) = ⟨g, j, none⟩ from by unfold Addr.add; split <;> simp_all, ht.cellAt j (by omega)]
   exact hj) (gmCells_one id T) (by unfold maxLen; omega) (by omega) hB
  rw [gmCells_app, show S.length + T.length = (S ++ T).length by simp] at h3
  obtain ⟨ob, cap', rfl⟩ := own_slice h3
  exact ⟨ob, cap', w', hrun, h3, h4, h5⟩
end
attribute [local go_sem] Oper.semAt_some
theorem LnM.norm {W : World} {B : Nat} {id : Int} {p : LP} (h : LnM W B id p) : LnM W B id { p with col := p.grow W.heap.size 0 } := by
 have o : ∀ {F : Nat → Prop} {j : Nat}, (∀ c, F c → B ≤ c ∧ c < W.heap.size ∧ p.col c = j) → ∀ c, F c → B ≤ c ∧ c < W.heap.size ∧ p.grow W.heap.size 0 c = j := fun hc c e => by
  obtain ⟨h1, h2, h3⟩ := hc c e
  exact ⟨h1, h2, by rw [grow_old h2]; exact h3⟩
 exact ⟨h.bx, h.sn, h.rc, h.sa, h.rb, h.os, o h.cS, o h.cR, o h.cA, o h.cB, o h.cX, h.aR, h.al, h.aS, h.xv, h.lg 0⟩
theorem ack_ok {id : Int} {n : Nat} (h0 : 0 ≤ id) (h1 : id < 3) (hn : n ≤ 200) : okM (ackMP id n).m (ackMP id n).al = true := by
 unfold okM ackMP
 dsimp only
 rw [decide_eq_true (show 0 ≤ id ∧ id < 3 from ⟨h0, h1⟩), if_neg (by decide), if_pos rfl, decide_eq_true (show (n : Int) ≥ 0 by omega), decide_eq_true (show (n : Int) ≤ 200 by omega)]
 rfl
theorem ackM_ack {id : Int} {n : Nat} (h0 : 0 ≤ id) (h1 : id < 3) (hn : n ≤ 200) (L : List PG) (k : Nat) : ackM id (ackMP id n).m (ackMP id n).al L k = (if L.length < n then (L, k) else if n < k then (clrG L n L.length, n) else (L, n)) := by
 unfold ackM
 rw [ack_ok h0 h1 hn]
 have e : (((ackMP id n).m.kd == 2) && (((ackMP id n).m.tn == id) && true)) = true := by simp [ackMP]
 rw [if_pos e]
 rfl
def passS (id : Int) (s : PS) (mo : MOd) (al : List (Int × Int)) (ans : Bool) : PS :=
 if tkB id mo al = true then (if ans = true then (s.recv mo.sq (GP.mk mo.o al).c).ack (s.recv mo.sq (GP.mk mo.o al).c).l.length else s.recv mo.sq (GP.mk mo.o al).c) else s
theorem LnE.len1 {p : LP} (h : LnE p) : p.l1.length = p.l2.length := by
 have := congrArg List.length h.el
 rw [List.length_map, List.length_map] at this;exact this
theorem LnE.lenE {p : LP} (h : LnE p) : p.E1.length = p.E2.length := by
 have := congrArg List.length h.eE
 rw [List.length_map, List.length_map, List.length_map] at this;exact this
theorem LnE.lenP {p : LP} (h : LnE p) : p.P.length = p.R.length := by
 have := congrArg List.length h.eP
 rw [List.length_map, List.length_map] at this;exact this
theorem recv_both {id : Int} {p : LP} {mo : MOd} {al : List (Int × Int)} (he : LnE p) {vo vl vE : Value} {l1 : List GP} {E1 : List (Int × GP)} {l2 E2 : List GP} {c1 : Nat → Nat}
  (h1 : (l1.map GP.c, E1.map ec) = (if tkB id mo al = true then recvC (p.l1.map GP.c) (p.E1.map ec) mo.sq (GP.mk mo.o al).c else (p.l1.map GP.c, p.E1.map ec)))
  (h2 : (l2.map GP.c, (E2.map ke).map ec) = (if tkB id mo al = true then recvC (p.l2.map GP.c) ((p.E2.map ke).map ec) mo.sq (GP.mk mo.o al).c else (p.l2.map GP.c, (p.E2.map ke).map ec))) :
  LnE { p with vo := vo, l1 := l1, E1 := E1, vl := vl, vE := vE, l2 := l2, E2 := E2, col := c1 } ∧ LP.s { p with vo := vo, l1 := l1, E1 := E1, vl := vl, vE := vE, l2 := l2, E2 := E2, col := c1 } = (if tkB id mo al = true then p.s.recv mo.sq (GP.mk mo.o al).c else p.s) := by
 have e12 : (l1.map GP.c, E1.map ec) = (l2.map GP.c, (E2.map ke).map ec) := by rw [h1, h2, he.el, he.eE]
 refine ⟨⟨he.eP, he.ek, congrArg Prod.fst e12, congrArg Prod.snd e12⟩, ?_⟩
 show (⟨p.R.map PG.c, p.k, l2.map GP.c, (E2.map ke).map ec, p.S.map GP.c, p.now⟩ : PS) = _
 have e1 := congrArg Prod.fst h2
 have e2 := congrArg Prod.snd h2
 dsimp only at e1 e2
 rw [e1, e2]
 cases tkB id mo al with
 | false => rfl
 | true => rfl
theorem ack_both {id : Int} {p : LP} {n : Nat} (he : LnE p) (h0 : 0 ≤ id) (h1 : id < 3) (hn : n ≤ 200) {c1 : Nat → Nat} :
  LnE { p with P := (ackM id (ackMP id n).m (ackMP id n).al p.P p.kp).1, kp := (ackM id (ackMP id n).m (ackMP id n).al p.P p.kp).2, R := (ackM id (ackMP id n).m (ackMP id n).al p.R p.k).1, k := (ackM id (ackMP id n).m (ackMP id n).al p.R p.k).2, col := c1 } ∧
  LP.s { p with P := (ackM id (ackMP id n).m (ackMP id n).al p.P p.kp).1, kp := (ackM id (ackMP id n).m (ackMP id n).al p.P p.kp).2, R := (ackM id (ackMP id n).m (ackMP id n).al p.R p.k).1, k := (ackM id (ackMP id n).m (ackMP id n).al p.R p.k).2, col := c1 } = p.s.ack n := by
 have e1 := ackM_c id (ackMP id n).m (ackMP id n).al p.P p.kp
 have e2 := ackM_c id (ackMP id n).m (ackMP id n).al p.R p.k
 rw [he.eP, he.ek, e2] at e1;rw [he.ek]
 refine ⟨⟨(congrArg Prod.fst e1).symm, (congrArg Prod.snd e1).symm, he.el, he.eE⟩, ?_⟩
 show (⟨(ackM id _ _ p.R p.k).1.map PG.c, (ackM id _ _ p.R p.k).2, p.l2.map GP.c, (p.E2.map ke).map ec, p.S.map GP.c, p.now⟩ : PS) = _
 have e3 : (ackM id (ackMP id n).m (ackMP id n).al p.R p.k).1.map PG.c = (ackM id (ackMP id n).m (ackMP id n).al (p.R.map PG.c) p.k).1 := (congrArg Prod.fst e2).symm
 have e4 : (ackM id (ackMP id n).m (ackMP id n).al p.R p.k).2 = (ackM id (ackMP id n).m (ackMP id n).al (p.R.map PG.c) p.k).2 := (congrArg Prod.snd e2).symm
 rw [e3, e4, ackM_ack h0 h1 hn]
 unfold PS.ack LP.s
 dsimp only
 split
 ·rfl
 ·split <;> rfl
theorem pass_any (W : World) (B : Nat) (id : Int) (p : LP) (h : LnM W B id p) (he : LnE p) (mo : MOd) (al : List (Int × Int)) (hq : LowA W B ⟨mo.o, al⟩) (hts : mo.o.txt.size ≤ maxLen) (ans : Bool) (h0 : 0 ≤ id) (h1 : id < 3) (hlE : p.l2.length + p.E2.length ≤ 190) (hR : p.R.length ≤ 190) (hk : p.k ≤ p.R.length) :
  Calls Tryz.prog 53 #[.pointer (some ⟨p.x, 0, none⟩), .agg mo.l.toArray, .bool ans] W fun e w' => e = .returned (.bool true) ∧ ∃ p', LnM w' B id p' ∧ LnE p' ∧ p'.x = p.x ∧ p'.s = passS id p.s mo al ans ∧ Nx W w' p.col p'.col := by
 obtain ⟨N, w1, hN, hw1, hb1, hk1⟩ := bx W (aM mo) mo.l 32 rfl
 have hbz : Below N W w1.drew := hb1.drew
 have hkz := hk1.drew
 have hl0 := h.norm.below (by rw [hN]; exact hbz)
 have hcN : p.grow W.heap.size 0 N = 0 := grow_new (by omega)
 have hq1 : LowA w1.drew B ⟨mo.o, al⟩ := hq.turn (Fr.under (fun _ => False) (by rw [hN]; exact hbz)) (fun _ e => e.elim)
 obtain ⟨c0, hc0⟩ : ∃ c0, p.grow W.heap.size 0 = c0 := ⟨_, rfl⟩
 have hnx0 : Nx W w1.drew p.col c0 := ⟨Fr.under _ (by rw [hN]; exact hbz), fun c hc => by rw [← hc0]; exact grow_old hc⟩
 rw [hc0] at hl0 hcN
 have l1 := he.len1
 have l2 := he.lenE
 have l3 := he.lenP
 have HSM := szM
 have HE := Lib.hid he;have HX := Lib.hid hnx0;have HCN := Lib.hid hcN
 have HB1 : Hid (p.l1.length + p.E1.length ≤ 190) := (by omega : p.l1.length + p.E1.length ≤ 190)
 have HB2 := Lib.hid hlE
 have HPL : Hid (p.P.length ≤ 190 ∧ p.kp ≤ p.P.length) := (⟨by omega, by rw [he.ek]; omega⟩ : p.P.length ≤ 190 ∧ p.kp ≤ p.P.length)
 have HRL : Hid (p.R.length ≤ 190 ∧ p.k ≤ p.R.length) := (⟨hR, hk⟩ : p.R.length ≤ 190 ∧ p.k ≤ p.R.length)
 have HID : Hid (0 ≤ id ∧ id < 3) := (⟨h0, h1⟩ : 0 ≤ id ∧ id < 3)
 show Calls Tryz.prog 53 #[.pointer (some ⟨p.x, 0, none⟩), .agg (aM mo), .bool ans] W _
 clear h he hq hb1 hk1 hbz hnx0 hcN hc0 l1 l2 l3 hlE hR hk h0 h1
 go_enter Tryz.func53, Tryz.ntmps53
 go_upto_region 1 with (fail)
 clear hw1
 refine wp_region_held_drew (S := fun W => W.cell? ⟨p.x, 1, none⟩ = some (.pointer (some ⟨p.br, 0, none⟩)) ∧ W.rangeAt N 0 mo.l) (by kernel_rfl) ?_ (fun hHeld => ?_)
 ·exact ⟨hl0.bx.cell 1, hkz.range⟩
 have HL := Lib.hid hl0;have HK := Lib.hid hkz;have HQA := Lib.hid hq1;clear hl0 hkz hq1;generalize w1.drew = z at HL HK HQA HX hHeld ⊢;refine tk 0 (some 11) ?_;refine tk 1 (some 12) ?_;refine tk 2 (some 13) ?_;refine tk 3 (some 14) ?_
 refine tkL 4 (some 15) 32 (.tmp 4) N 0 mo.l (fun _ h => h.2) Tryz.underlying32 HSM.out ?_
 refine rd1 5 (some 16) (fun K hK => ?_)
 go_simp
 refine (LnM.recvP HL.out HQA.out.len HQA.out.few HQA.out.rd hts (by have := HB1.out; show p.l1.length + p.E1.length ≤ 800; omega)).mono ?_
 rintro e z1 ⟨ob, cap, vo1, l1, E1, col1, rfl, hrx, hf, hnx, hl1, hc1⟩
 obtain ⟨n1, hn1⟩ : ∃ n1, (ackL (tkB id mo al) id l1.length).length = n1 := ⟨_, rfl⟩
 rw [hn1];have HL1 := Lib.hid hl1;have HRX := Lib.hid hrx;have HF1 := Lib.hid hf;have HX1 := Lib.hid hnx;have HC1 := Lib.hid hc1;have HN1 := Lib.hid hn1
 have HK1 := Lib.hid (HK.out.kept (hnx.fr.block N HK.out.lt (fun e => e HCN.out)))
 have HQ1 := Lib.hid (LowA.turn HQA.out hf (fun c e => (HL.out.cR c e).1))
 clear hrx hf hnx hl1 hc1 hn1;go_simp
 refine hK.out _ _ ?_ (fun hHeld2 => ?_)
 ·exact ⟨HL1.out.bx.cell 1, HK1.out.range⟩
 clear hK K hHeld;rename _ => hHeld;refine tk 6 (some 7) ?_;refine wpAnyH_done (by kernel_rfl) ?_ _;clear hHeld
 go_upto_region 2 with (fail)
 have hl2 := HL1.out.below (Below.refl _ _).drew
 have hk2 := HK1.out.drew
 have hq2 := HQ1.out.turn ((Fr.refl (fun _ => False) z1).drew) (fun _ e => e.elim)
 have hr2 := HRX.out.below (Below.refl _ _).drew
 have hcn1 : col1 N = 0 := by rw [HX1.out.co N HK.out.lt]; exact HCN.out
 have HCN1 := Lib.hid hcn1
 have HX2 : Hid (Nx W z1.drew p.col col1) := (HX.out.trans HX1.out).trans (Nx.below (Below.refl _ _).drew)
 clear hcn1 HL1 HK1 HQ1 HRX
 refine wp_region_held_drew (S := fun W => W.cell? ⟨p.x, 3, none⟩ = some (.pointer (some ⟨p.bb, 0, none⟩)) ∧ W.rangeAt N 0 mo.l) (by kernel_rfl) ?_ (fun hHeld => ?_)
 ·exact ⟨hl2.bx.cell 3, hk2.range⟩
 have HL1 := Lib.hid hl2;have HK1 := Lib.hid hk2;have HQ1 := Lib.hid hq2;have HR1 := Lib.hid hr2;clear hl2 hk2 hq2 hr2;generalize z1.drew = y1 at HL1 HK1 HQ1 HR1 HX2 hHeld ⊢;refine tk 0 (some 17) ?_;refine tk 1 (some 18) ?_;refine tk 2 (some 19) ?_;refine tk 3 (some 20) ?_
 refine tkL 4 (some 21) 32 (.tmp 4) N 0 mo.l (fun _ h => h.2) Tryz.underlying32 HSM.out ?_
 refine rd1 5 (some 22) (fun K hK => ?_)
 go_simp
 refine (LnM.recvB HL1.out HQ1.out hts (by have := HB2.out; show p.l2.length + p.E2.length ≤ 800; omega)).mono ?_
 rintro e z2 ⟨ok, cap2, vl2, vE2, l2, E2, col2, rfl, hrx, hf, hnx, hl2, hc2⟩
 obtain ⟨n2, hn2⟩ : ∃ n2, (ackL (tkB id mo al) id l2.length).length = n2 := ⟨_, rfl⟩
 rw [hn2];have HL2 := Lib.hid hl2;have HRK := Lib.hid hrx;have HF2 := Lib.hid hf
 have HX3 : Hid (Nx W z2 p.col col2) := HX2.out.trans hnx
 have HC2 := Lib.hid hc2;have HN2 := Lib.hid hn2
 have HK2 := Lib.hid (HK1.out.kept (hnx.fr.block N HK1.out.lt (fun e => e HCN1.out)))
 have HR2 := Lib.hid (HR1.out.turn hf (fun c e => ⟨(HL.out.cB c e).1, (HL.out.cB c e).2.1⟩))
 clear hrx hf hnx hl2 hc2 hn2;go_simp
 refine hK.out _ _ ?_ (fun hHeld2 => ?_)
 ·exact ⟨HL2.out.bx.cell 3, HK2.out.range⟩
 clear hK K hHeld;rename _ => hHeld;refine tk 6 (some 8) ?_;refine wpAnyH_done (by kernel_rfl) ?_ _;clear hHeld
 have hb2 := recv_both (vo := vo1) (vl := vl2) (vE := vE2) (c1 := col2) HE.out HC1.out HC2.out
 have hle : l1.length = l2.length := hb2.1.len1
 have hnn : n2 = n1 := by rw [← HN1.out, ← HN2.out, hle]
 subst hnn
 obtain ⟨p2, hp2⟩ : ∃ p2, ({ p with vo := vo1, l1 := l1, E1 := E1, vl := vl2, vE := vE2, l2 := l2, E2 := E2, col := col2 } : LP) = p2 := ⟨_, rfl⟩
 have hl2 : LnM z2 B id p2 := by rw [← hp2]; exact HL2.out
 rw [hp2] at hb2
 have e1 : p2.x = p.x := by rw [← hp2]
 have e2 : p2.bs = p.bs := by rw [← hp2]
 have e3 : p2.ba = p.ba := by rw [← hp2]
 have e4 : p2.col = col2 := by rw [← hp2]
 have e5 : p2.P.length ≤ 190 ∧ p2.kp ≤ p2.P.length := by rw [← hp2]; exact HPL.out
 have e6 : p2.R.length ≤ 190 ∧ p2.k ≤ p2.R.length := by rw [← hp2]; exact HRL.out
 have e7 : ∀ c, FoS p2.bs p2.vp p2.P c → B ≤ c ∧ c < y1.heap.size := fun c e => by
  rw [← hp2] at e
  exact ⟨(HL1.out.cS c e).1, (HL1.out.cS c e).2.1⟩
 have e8 : ∀ c, SaS p2.ba p2.vL p2.vS c → B ≤ c ∧ c < y1.heap.size := fun c e => by
  rw [← hp2] at e
  exact ⟨(HL1.out.cA c e).1, (HL1.out.cA c e).2.1⟩
 have e9 : l2.length ≤ 200 := by
  have h1 := congrArg (fun q => q.1.length + q.2.length) HC2.out
  dsimp only at h1
  rw [List.length_map, List.length_map] at h1
  have h2 : (if tkB id mo al = true then recvC (p.l2.map GP.c) ((p.E2.map ke).map ec) mo.sq (GP.mk mo.o al).c else (p.l2.map GP.c, (p.E2.map ke).map ec)).1.length + (if tkB id mo al = true then recvC (p.l2.map GP.c) ((p.E2.map ke).map ec) mo.sq (GP.mk mo.o al).c else (p.l2.map GP.c, (p.E2.map ke).map ec)).2.length ≤ 191 := by
   have h3 := HB2.out
   split
   ·unfold recvC
    rw [advG_len, List.length_map]
    have := putG_len (p.l2.map GP.c) ((p.E2.map ke).map ec) mo.sq (GP.mk mo.o al).c
    rw [List.length_map, List.length_map] at this
    omega
   ·rw [List.length_map, List.length_map, List.length_map]
    omega
  omega
 rw [e4.symm] at HX3;have HL3 := Lib.hid hl2;have HBT := Lib.hid hb2
 have HEX := Lib.hid (And.intro e1 (And.intro e2 e3))
 have HB5 := Lib.hid (And.intro e5 e6)
 have HFT := Lib.hid (And.intro e7 e8)
 have HL9 := Lib.hid e9;have HLL := Lib.hid hle
 have HSL : Hid (p2.s.l.length = l2.length) := (by rw [← hp2]; exact List.length_map _ : p2.s.l.length = l2.length)
 clear hb2 hle hp2 hl2 e1 e2 e3 e4 e5 e6 e7 e8 e9 HL2 HL1 HK1 HK2 HQ1 HX2 HK HL HQA HF1 HX1 HF2 HC1 HC2 HR1 HCN HCN1
 go_wp2_with fail
 refine (same_msgs HN1.out HN2.out (by have := HN2.out; rw [← this]; unfold ackL; split <;> simp) HR2.out.rd HRK.out.rd (by rw [HLL.out])).mono ?_
 rintro e z3 ⟨rfl, hb3⟩
 have HL4 := Lib.hid (HL3.out.below hb3)
 have HR4 := Lib.hid (HRK.out.below hb3)
 have HX4 := Lib.hid (HX3.out.trans (Nx.below hb3))
 clear hb3 HL3 HR2 HRK HX3
 cases ans with
 | false =>
  go_wp2_with fail
  go_loopw [10] (fun vi wr => vi = .int .i64 0 ∧ wr = z3) (fun _ _ => 0)
  case atStart => exact ⟨rfl, rfl⟩
  case round =>
   obtain ⟨rfl, hw⟩ := hrel
   have HPS : Hid (p2.s = passS id p.s mo al false) := (by rw [HBT.out.2]; unfold passS; cases tkB id mo al <;> rfl : p2.s = passS id p.s mo al false)
   subst hw
   rcases Nat.eq_zero_or_pos n2 with hz | hz
   ·subst hz
    go_wp2_with fail
    go_ret;exact ⟨rfl, p2, HL4.out, HBT.out.1, HEX.out.1, HPS.out, HX4.out⟩
   ·have q1 : (0 : Int) < (n2 : Int) := by omega
    have q2 : 0 < n2 := hz
    go_wp2_with fail
    go_ret;exact ⟨rfl, p2, HL4.out, HBT.out.1, HEX.out.1, HPS.out, HX4.out⟩
 | true =>
  go_wp2_with fail
  have HS0 : Hid (∃ pi : LP, LnM z3 B id pi ∧ LnE pi ∧ pi.x = p.x ∧ pi.bs = p.bs ∧ pi.ba = p.ba ∧ pi.s = (if 0 = 0 then p2.s else p2.s.ack l2.length) ∧ Nx W z3 p.col pi.col ∧ (0 = 0 → pi = p2)) := ⟨p2, HL4.out, HBT.out.1, HEX.out.1, HEX.out.2.1, HEX.out.2.2, by rw [if_pos rfl], HX4.out, fun _ => rfl⟩
  go_loopw [10] (fun vi wr => ∃ i : Nat, i ≤ n2 ∧ vi = .int .i64 i ∧ Hid (∃ pi : LP, LnM wr B id pi ∧ LnE pi ∧ pi.x = p.x ∧ pi.bs = p.bs ∧ pi.ba = p.ba ∧ pi.s = (if i = 0 then p2.s else p2.s.ack l2.length) ∧ Nx W wr p.col pi.col ∧ (i = 0 → pi = p2)) ∧ Hid (RdX wr B y1.heap.size ok (ackL (tkB id mo al) id l2.length))) (fun v _ => n2 - (intOf v).toNat)
  case atStart => exact ⟨0, Nat.zero_le _, rfl, HS0, HR4⟩
  case round =>
   clear HS0 HR4 HL4 HX4
   obtain ⟨i, hi, rfl, HS, HR4⟩ := hrel
   by_cases h : i < n2
   ·have hn1' : n2 ≤ 1 := by
     rw [← HN2.out]
     unfold ackL
     split <;> simp
    obtain rfl : i = 0 := by omega
    obtain ⟨pi, hl, he, hx, hbs, hba, hs, hnx, hpi⟩ := HS.out
    have hpp := (hpi rfl).symm
    subst hpp
    have htk : tkB id mo al = true := by
     cases ht : tkB id mo al with
     | true => rfl
     | false =>
      have := HN2.out
      rw [ht] at this;rw [← this] at h
      exact absurd h (by simp [ackL])
    obtain ⟨b, o, hok, hbl, hrg⟩ := HR4.out.rd.at 0 (ackMP id l2.length) (by rw [htk]; rfl)
    subst hok
    have q1 : ((0 : Nat) : Int) < (n2 : Int) := by omega
    have q1' : (0 : Int) < (n2 : Int) := by omega
    have q2 : 0 < n2 := h
    have hl7 := hl.below (Below.refl _ _).drew
    have hr7 := HR4.out.below (Below.refl _ _).drew
    have HX7 : Hid (Nx W wr.drew p.col p2.col) := hnx.trans (Nx.below (Below.refl _ _).drew)
    have HKR : Hid (∀ y, RdX y B y1.heap.size (some ⟨b, o, none⟩) (ackL (tkB id mo al) id l2.length) → y.rangeAt b o (ackMP id l2.length).m.l) := fun y hy => by
     obtain ⟨b9, o9, e9, _, hrg9⟩ := hy.rd.at 0 (ackMP id l2.length) (by rw [htk]; rfl)
     cases e9
     rw [Nat.zero_mul, Nat.add_zero] at hrg9;exact hrg9
    have hr0 := HKR.out _ HR4.out
    have HTK := Lib.hid htk;have HE2 := Lib.hid he;have HXX := Lib.hid hx
    have HBB := Lib.hid (And.intro hbs hba)
    clear hl he hx hbs hba hs hnx hpi htk hbl hrg
    go_upto_region 7 with (fail)
    refine wp_region_held_drew (S := fun W => W.cell? ⟨p.x, 0, none⟩ = some (.pointer (some ⟨p2.bs, 0, none⟩)) ∧ W.rangeAt b o (ackMP id l2.length).m.l) (by kernel_rfl) ?_ (fun hHeld => ?_)
    ·exact ⟨by rw [← HXX.out]; exact hl7.bx.cell 0, HKR.out _ hr7⟩
    have HL := Lib.hid hl7;have HRD := Lib.hid hr7;clear hl7 hr7 hr0;generalize wr.drew = z at HL HRD HX7 hHeld ⊢;refine tk 0 (some 35) ?_;refine tk 1 (some 36) ?_;refine tk 2 (some 37) ?_;refine tk 3 (some 38) ?_;refine tk 4 (some 39) ?_;refine tk 5 (some 40) ?_;refine tk 6 (some 41) ?_
    refine tkL 7 (some 42) 32 (.tmp 41) b o (ackMP id l2.length).m.l (fun _ h => h.2) Tryz.underlying32 HSM.out ?_
    refine rd1 8 (some 43) (fun K hK => ?_)
    go_simp
    refine (LnM.ackP HL.out rfl (Nat.zero_le _) (.inl rfl) (Nat.zero_le _) (by have := HB5.out.1.1; omega) HB5.out.1.2).mono ?_
    rintro e z1 ⟨⟨v, rfl⟩, hf, col3, hnx3, hl3⟩;have HL3 := Lib.hid hl3;have HX3 := Lib.hid hnx3
    have HR3 := Lib.hid (HRD.out.turn hf (fun c e => HFT.out.1 c e))
    clear hl3 hf hnx3;go_simp
    refine hK.out _ _ ?_ (fun hHeld2 => ?_)
    ·exact ⟨by rw [← HXX.out]; exact HL3.out.bx.cell 0, (HKR.out _ HR3.out)⟩
    clear hK K hHeld;rename _ => hHeld
    try simp only [Act.put, sa, sz, ss]
    refine wpAnyH_done (by kernel_rfl) ?_ _;clear hHeld
    go_upto_region 8 with (fail)
    have hl8 := HL3.out.below (Below.refl _ _).drew
    have hr8 := HR3.out.below (Below.refl _ _).drew
    have HX8 : Hid (Nx W z1.drew p.col col3) := (HX7.out.trans HX3.out).trans (Nx.below (Below.refl _ _).drew)
    clear HL3 HR3 HX3
    refine wp_region_held_drew (S := fun W => W.cell? ⟨p.x, 2, none⟩ = some (.pointer (some ⟨p2.ba, 0, none⟩)) ∧ W.rangeAt b o (ackMP id l2.length).m.l) (by kernel_rfl) ?_ (fun hHeld => ?_)
    ·exact ⟨by rw [← HXX.out]; exact hl8.bx.cell 2, HKR.out _ hr8⟩
    have HL3 := Lib.hid hl8;have HR3 := Lib.hid hr8;clear hl8 hr8;generalize z1.drew = y3 at HL3 HR3 HX8 hHeld ⊢;refine tk 0 (some 44) ?_;refine tk 1 (some 45) ?_;refine tk 2 (some 46) ?_;refine tk 3 (some 47) ?_;refine tk 4 (some 48) ?_;refine tk 5 (some 49) ?_;refine tk 6 (some 50) ?_
    refine tkL 7 (some 51) 32 (.tmp 50) b o (ackMP id l2.length).m.l (fun _ h => h.2) Tryz.underlying32 HSM.out ?_
    refine rd1 8 (some 52) (fun K hK => ?_)
    go_simp
    refine (LnM.ackA HL3.out rfl (Nat.zero_le _) (.inl rfl) (Nat.zero_le _) (by have := HB5.out.2.1; show p2.R.length ≤ 200; omega) HB5.out.2.2).mono ?_
    rintro e z2 ⟨⟨v2, rfl⟩, hf, col4, hnx4, hl4⟩;have HL4 := Lib.hid hl4;have HX4 := Lib.hid hnx4
    have HR4 := Lib.hid (HR3.out.turn hf (fun c e => HFT.out.2 c e))
    clear hl4 hf hnx4;go_simp
    refine hK.out _ _ ?_ (fun hHeld2 => ?_)
    ·exact ⟨by rw [← HXX.out]; exact HL4.out.bx.cell 2, (HKR.out _ HR4.out)⟩
    clear hK K hHeld;rename _ => hHeld
    try simp only [Act.put, sa, sz, ss]
    refine wpAnyH_done (by kernel_rfl) ?_ _;clear hHeld
    have hb4 := ack_both (n := l2.length) (c1 := col4) HE2.out HID.out.1 HID.out.2 HL9.out
    have HSN : Hid (∃ pi : LP, LnM z2 B id pi ∧ LnE pi ∧ pi.x = p.x ∧ pi.bs = p.bs ∧ pi.ba = p.ba ∧ pi.s = (if 1 = 0 then p2.s else p2.s.ack l2.length) ∧ Nx W z2 p.col pi.col ∧ (1 = 0 → pi = p2)) := ⟨_, HL4.out, hb4.1, HXX.out, HBB.out.1, HBB.out.2, by rw [if_neg (by decide)]; exact hb4.2, HX8.out.trans HX4.out, fun e => absurd e (by decide)⟩
    clear hb4
    go_wp2_with fail
    go_roundw
    case rel => exact ⟨1, by omega, by first | rfl | go_num, HSN, HR4⟩
    case measure => simp [intOf]; omega
   ·have e : i = n2 := by omega
    subst e
    have q1 : ¬ (i : Int) < (i : Int) := by omega
    clear h
    obtain ⟨pi, hl, he, hx, hbs, hba, hs, hnx, hpi⟩ := HS.out
    have HPS : Hid (pi.s = passS id p.s mo al true) := by
     have hni := HN2.out
     show pi.s = _
     rw [hs, HBT.out.2]
     unfold passS
     cases ht : tkB id mo al with
     | false =>
      rw [ht] at hni
      have h9 : i = 0 := hni.symm
      rw [if_pos h9]
      rfl
     | true =>
      rw [ht] at hni
      have h9 : i = 1 := hni.symm
      rw [if_neg (by omega), if_pos rfl, if_pos rfl]
      have h8 : l2.length = (p.s.recv mo.sq (GP.mk mo.o al).c).l.length := by
       have := HBT.out.2
       rw [ht, if_pos rfl] at this;rw [← this, ← HSL.out]
      rw [← h8]
      rfl
    have HL5 := Lib.hid hl;have HE5 := Lib.hid he;have HX5 := Lib.hid hx;have HN5 := Lib.hid hnx;clear hl he hx hbs hba hs hnx hpi HS
    go_wp2_with fail
    go_ret;exact ⟨rfl, pi, HL5.out, HE5.out, HX5.out, HPS.out, HN5.out⟩
structure StD where
 yc : Int
 ya : Int
 yb : Int
 o : GOd
 al : List (Int × Int)
 m : MOd
 ml : List (Int × Int)
def StD.l (y : StD) : List Value := [.int .i64 y.yc, .int .i64 y.ya, .int .i64 y.yb] ++ y.o.l ++ y.m.l
theorem StD.len (y : StD) : y.l.length = 60 := rfl
def inI (c : Int) : Prop := -9223372036854775808 ≤ c ∧ c ≤ 9223372036854775807
structure StO (W : World) (B : Nat) (y : StD) : Prop where
 c : inI y.yc
 a : inI y.ya
 b : inI y.yb
 ol : y.al.length = y.o.an
 oc : y.o.an ≤ y.o.ac
 om : y.o.ac ≤ maxLen
 or : RdA W y.o.ao y.al
 ot : y.o.txt.size ≤ maxLen
 ow : y.al ≠ [] → ∀ a, y.o.ao = some a → a.block < B
 ml : y.ml.length = y.m.o.an
 mc : y.m.o.an ≤ y.m.o.ac
 mm : y.m.o.ac ≤ maxLen
 mr : RdA W y.m.o.ao y.ml
 mt : y.m.o.txt.size ≤ maxLen
 mw : y.ml ≠ [] → ∀ a, y.m.o.ao = some a → a.block < B
theorem cut_low {W : World} {B : Nat} {o : GOd} {al : List (Int × Int)} (hl : al.length = o.an) (hr : RdA W o.ao al) (ht : o.txt.size ≤ maxLen) (hw : al ≠ [] → ∀ a, o.ao = some a → a.block < B) : LowA W B ⟨o.cutO, al.take 9⟩ := by
 obtain ⟨h1, h2, h3, h4, h5⟩ := cut_facts o
 obtain ⟨h6, h7⟩ := cut_alts hl hr
 refine ⟨h6, Nat.le_trans h1 (by decide), h7, fun hn a ha => hw (fun e => hn (by rw [e]; rfl)) a (by rw [← h4]; exact ha), Nat.le_trans h3 (by decide)⟩
def drG (s f : Int) : GOd := ⟨s, -1, f, 2, 1, 0, 0, 0, 0, 0, 0, 0, none, 0, 0, ⟨0, 0, 0, 0, 0, 0, 0, 0⟩, 0, 0, 0, 0, ⟨#[]⟩⟩
theorem drG_l (s f : Int) : drA s f = (drG s f).l.toArray := rfl
theorem drG_low (W : World) (B : Nat) (s f : Int) : LowA W B ⟨drG s f, []⟩ := ⟨rfl, Nat.zero_le _, .inl rfl, fun h => absurd rfl h, Nat.zero_le _⟩
def Kp (k : Int) (s s' : PS) : Prop := ∀ n m, Ok n m s → n < 50 → Ok (n + 1) (m + 2) s' ∧ (k ≠ 6 → Pre s → Pre s')
theorem kp_same (k : Int) (s : PS) : Kp k s s := fun n m h hn => ⟨h.mono (by omega) (by omega), fun _ h => h⟩
theorem kp_add (k : Int) {s : PS} {o : GOd} {al : List (Int × Int)} (hb : okB o al = true) (hs : o.s = (s.R.length : Int) + 1) : Kp k s (s.add (GP.mk o al).c) := fun n m h hn => ⟨(h.add (p := (GP.mk o al).c) hb hs).mono (by omega) (by omega), fun _ hp => hp.add⟩
theorem kp_tick (k : Int) {s : PS} {now : Int} (h0 : 0 ≤ now) (h1 : now ≤ s.now + 9) : Kp k s (s.tick now) := fun n m h hn => ⟨(h.tick (by omega) h0 (by have := h.hi; omega)).mono (by omega) (by omega), fun _ hp => hp.tick⟩
theorem kp_idle (k : Int) {s : PS} {now : Int} (h0 : s.now - 9 ≤ now) (h1 : now ≤ s.now + 9) : Kp k s (s.idle now) := fun n m h hn => ⟨(h.idle (by have := h.lo; omega) (by have := h.hi; omega)).mono (by omega) (by omega), fun _ hp => hp.idle⟩
theorem kp_ack (k : Int) {s : PS} (sq : Nat) : Kp k s (s.ack sq) := fun n m h hn => ⟨h.ack.mono (by omega) (by omega), fun _ hp => hp.ack⟩
theorem kp_fresh (k : Int) {s : PS} : Kp k s s.fresh := fun n m h hn => ⟨h.fresh.mono (by omega) (by omega), fun _ hp => hp.fresh⟩
theorem passS_ok {id : Int} {s : PS} {mo : MOd} {al : List (Int × Int)} {ans : Bool} {n m : Nat} (h : Ok n m s) : Ok n (m + 1) (passS id s mo al ans) := by
 unfold passS
 split
 ·split
  ·exact h.recv.ack
  ·exact h.recv
 ·exact h.mono (Nat.le_refl _) (by omega)
theorem passS_R {id : Int} {s : PS} {mo : MOd} {al : List (Int × Int)} {ans : Bool} : (passS id s mo al ans).R.map pOf = s.R.map pOf ∧ (passS id s mo al ans).S = s.S ∧ (passS id s mo al ans).now = s.now := by
 unfold passS
 split
 ·split
  ·unfold PS.ack
   split
   ·exact ⟨rfl, rfl, rfl⟩
   ·split
    ·exact ⟨clrG_p _ _ _, rfl, rfl⟩
    ·exact ⟨rfl, rfl, rfl⟩
  ·exact ⟨rfl, rfl, rfl⟩
 ·exact ⟨rfl, rfl, rfl⟩
theorem passS_pre {id : Int} {s : PS} {mo : MOd} {al : List (Int × Int)} {ans : Bool} (h : Pre s) (hm : ∃ j : Nat, mo.sq = (j : Int) + 1 ∧ (s.R.map pOf)[j]? = some (GP.mk mo.o al).c) : Pre (passS id s mo al ans) := by
 obtain ⟨j, h1, h2⟩ := hm
 unfold passS
 rw [h1]
 split
 ·split
  ·exact (h.recv h2).ack
  ·exact h.recv h2
 ·exact h
theorem sent_at {n m : Nat} {s : PS} (h : Ok n m s) {id : Int} {q : GP} (hq : q.c ∈ s.S) : ∃ j : Nat, (ordM id q).m.sq = (j : Int) + 1 ∧ (s.R.map pOf)[j]? = some (GP.mk (ordM id q).m.o (ordM id q).al).c := by
 obtain ⟨j, p, h1, h2⟩ := h.S _ hq
 refine ⟨j, ?_, ?_⟩
 ·have := (h.ok j p h1).1
  rw [h2] at this;exact this
 ·rw [List.getElem?_map, h1]
  exact congrArg some h2
theorem kp_pass (k : Int) {id : Int} {s : PS} {q : GP} {ans : Bool} (hq : q.c ∈ s.S) : Kp k s (passS id s (ordM id q).m q.al ans) := fun n m h hn => ⟨(passS_ok h).mono (by omega) (by omega), fun _ hp => passS_pre hp (sent_at h hq)⟩
theorem kp_pass2 (k : Int) {id : Int} {s : PS} {q : GP} {a1 a2 : Bool} (hq : q.c ∈ s.S) : Kp k s (passS id (passS id s (ordM id q).m q.al a1) (ordM id q).m q.al a2) := fun n m h hn => ⟨(passS_ok (passS_ok h)).mono (by omega) (by omega), fun _ hp => passS_pre (passS_pre hp (sent_at h hq)) (by rw [passS_R.1]; exact sent_at h hq)⟩
def PS.msg (id : Int) (s : PS) (mo : MOd) (al : List (Int × Int)) : PS := { s with R := (ackM id mo al s.R s.k).1, k := (ackM id mo al s.R s.k).2 }
theorem PS.msg_eq (id : Int) (s : PS) (mo : MOd) (al : List (Int × Int)) : s.msg id mo al = s ∨ ∃ sq, s.msg id mo al = s.ack sq := by
 unfold PS.msg ackM
 split
 ·refine .inr ⟨mo.sq.toNat, ?_⟩
  unfold PS.ack
  split
  ·rfl
  ·split <;> rfl
 ·exact .inl rfl
theorem kp_msg (k : Int) {id : Int} {s : PS} {mo : MOd} {al : List (Int × Int)} : Kp k s (s.msg id mo al) := by
 rcases PS.msg_eq id s mo al with e | ⟨sq, e⟩
 ·rw [e]
  exact kp_same k s
 ·rw [e]
  exact kp_ack k sq
theorem kp_msgpass {id : Int} {s : PS} {mo : MOd} {al : List (Int × Int)} {ans : Bool} : Kp 6 s (passS id (s.msg id mo al) mo al ans) := fun n m h hn => by
 refine ⟨?_, fun h => absurd rfl h⟩
 rcases PS.msg_eq id s mo al with e | ⟨sq, e⟩
 ·rw [e]
  exact (passS_ok h).mono (by omega) (by omega)
 ·rw [e]
  exact (passS_ok h.ack).mono (by omega) (by omega)
theorem msg_both {id : Int} {p : LP} {mo : MOd} {al : List (Int × Int)} (he : LnE p) {c1 : Nat → Nat} :
  LnE { p with P := (ackM id mo al p.P p.kp).1, kp := (ackM id mo al p.P p.kp).2, R := (ackM id mo al p.R p.k).1, k := (ackM id mo al p.R p.k).2, col := c1 } ∧
  LP.s { p with P := (ackM id mo al p.P p.kp).1, kp := (ackM id mo al p.P p.kp).2, R := (ackM id mo al p.R p.k).1, k := (ackM id mo al p.R p.k).2, col := c1 } = p.s.msg id mo al := by
 have e1 := ackM_c id mo al p.P p.kp
 have e2 := ackM_c id mo al p.R p.k
 rw [he.eP, he.ek, e2] at e1;rw [he.ek]
 refine ⟨⟨(congrArg Prod.fst e1).symm, (congrArg Prod.snd e1).symm, he.el, he.eE⟩, ?_⟩
 show (⟨(ackM id mo al p.R p.k).1.map PG.c, (ackM id mo al p.R p.k).2, p.l2.map GP.c, (p.E2.map ke).map ec, p.S.map GP.c, p.now⟩ : PS) = _
 have e3 : (ackM id mo al p.R p.k).1.map PG.c = (ackM id mo al (p.R.map PG.c) p.k).1 := (congrArg Prod.fst e2).symm
 have e4 : (ackM id mo al p.R p.k).2 = (ackM id mo al (p.R.map PG.c) p.k).2 := (congrArg Prod.snd e2).symm
 rw [e3, e4]
 rfl
theorem add_both {p : LP} {o : GOd} {al : List (Int × Int)} (he : LnE p) {vp vL vS : Value} {oa : Option Addr} {ac : Nat} {c1 : Nat → Nat} :
  accB p.P o al = accB p.R o al ∧ LnE { p with vp := vp, P := addIf (accB p.P o al) p.P ⟨⟨o.withA oa ac, al⟩, false, 0⟩, vL := vL, vS := vS, R := addIf (accB p.R o al) p.R ⟨⟨o, al⟩, false, 0⟩, col := c1 } ∧
  Kp 0 p.s (LP.s { p with vp := vp, P := addIf (accB p.P o al) p.P ⟨⟨o.withA oa ac, al⟩, false, 0⟩, vL := vL, vS := vS, R := addIf (accB p.R o al) p.R ⟨⟨o, al⟩, false, 0⟩, col := c1 }) := by
 have e1 : accB p.P o al = accB p.R o al := by rw [← accB_c p.P, ← accB_c p.R, he.eP]
 refine ⟨e1, ⟨?_, he.ek, he.el, he.eE⟩, ?_⟩
 ·show (addIf (accB p.P o al) p.P _).map PG.c = (addIf (accB p.R o al) p.R _).map PG.c
  rw [addIf_c, addIf_c, e1, he.eP]
  rfl
 ·show Kp 0 p.s ⟨(addIf (accB p.R o al) p.R _).map PG.c, p.k, p.l2.map GP.c, (p.E2.map ke).map ec, p.S.map GP.c, p.now⟩
  rcases accB_cases (L := p.R) (o := o) (al := al) with ⟨h0, h1, h2, h3⟩ | ⟨h0, hbad⟩
  ·rw [h0, addIf_c]
   exact kp_add 0 (s := p.s) h1 (by show _ = ((p.R.map PG.c).length : Int) + 1; rw [List.length_map]; exact h2)
  ·rw [h0]
   exact kp_same 0 p.s
theorem Ok.R {n m : Nat} {p : LP} (h : Ok n m p.s) : p.R.length ≤ n ∧ p.k ≤ p.R.length ∧ p.l2.length + p.E2.length ≤ m ∧ p.S.length ≤ n * 100 ∧ ∀ (j : Nat) q, p.R[j]? = some q → q.p.o.s = (j : Int) + 1 ∧ 0 ≤ q.at_ ∧ q.at_ ≤ 1000 := by
 have h1 := h.nR
 have h2 := h.hk
 have h3 := h.nE
 have h4 := h.nS
 simp only [LP.s, List.length_map] at h1 h2 h3 h4
 refine ⟨h1, h2, h3, h4, fun j q hq => ?_⟩
 have := h.ok j q.c (by show (p.R.map PG.c)[j]? = _; rw [List.getElem?_map, hq]; rfl)
 exact ⟨this.1, this.2.2⟩
theorem Ok.P {n m : Nat} {p : LP} (h : Ok n m p.s) (he : LnE p) : ∀ q ∈ p.P, 0 ≤ q.at_ ∧ q.at_ ≤ 1000 := fun q hq => by
 have h1 : q.c ∈ p.R.map PG.c := by rw [← he.eP]; exact List.mem_map.2 ⟨q, hq, rfl⟩
 obtain ⟨r, hr, e⟩ := List.mem_map.1 h1
 obtain ⟨j, hj⟩ := List.mem_iff_getElem?.1 hr
 have h2 := (h.R.2.2.2.2 j r hj).2
 have h3 : r.at_ = q.at_ := by
  have h4 : r.c.at_ = q.c.at_ := by rw [e]
  exact h4
 rw [← h3];exact h2
end Go.Proofs.YtjkiidhnmljmbaaGreatDoor
