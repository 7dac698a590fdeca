/- Orders: ten beats without losses bring both ends together (plain). -/
import Derived.Test.YtjkiidhnmljmbaaGreatDoorLnD
set_option linter.unusedVariables false
set_option linter.unusedSimpArgs false
namespace Go.Proofs.YtjkiidhnmljmbaaGreatDoor
open Go.RowKit
def PS.dlv (s : PS) (q : GP) : PS := (s.recv q.o.s q).ack (s.recv q.o.s q).l.length
def PS.out (s : PS) (now : Int) : List GP := sentG s.R (firstW s.k s.R.length) now s.R.length
def PS.dlvs : PS → List GP → PS := List.foldl PS.dlv
def PS.beat (s : PS) (now : Int) : PS := (s.tick now).dlvs (s.out now)
def PS.run (s : PS) (t : Int) : Nat → PS
 | 0 => s
 | i + 1 => (s.run t i).beat (t + i)
def Has (s : PS) (j : Nat) : Prop := j < s.l.length ∨ ∃ x, idxG s.E ((j : Int) + 1) = some x
structure Sq (s : PS) : Prop where
 sq : ∀ (j : Nat) p, s.R[j]? = some p → p.p.o.s = (j : Int) + 1
 hk : s.k ≤ s.R.length
 pre : Pre s
theorem sentG_mem (L : List PG) (f : Nat) (now : Int) : ∀ (n : Nat) (q : GP), q ∈ sentG L f now n ↔ ∃ (j : Nat) (p : PG), j < n ∧ f ≤ j ∧ L[j]? = some p ∧ p.due now = true ∧ p.p = q
 | 0, q => by simp [sentG]
 | n + 1, q => by
  simp only [sentG, List.mem_append]
  rw [sentG_mem L f now n q]
  constructor
  ·rintro (⟨j, p, h1, h2, h3, h4, h5⟩ | h)
   ·exact ⟨j, p, by omega, h2, h3, h4, h5⟩
   ·cases hp : L[n]? with
    | none => rw [hp] at h; simp at h
    | some p =>
     rw [hp] at h
     dsimp only at h
     split at h
     ·rename_i hc
      exact ⟨n, p, by omega, hc.1, hp, hc.2, (List.mem_singleton.1 h).symm⟩
     ·simp at h
  ·rintro ⟨j, p, h1, h2, h3, h4, h5⟩
   by_cases hj : j < n
   ·exact .inl ⟨j, p, hj, h2, h3, h4, h5⟩
   ·obtain rfl : j = n := by omega
    refine .inr ?_
    rw [h3]
    dsimp only
    rw [if_pos ⟨h2, h4⟩];exact List.mem_singleton.2 h5.symm
theorem idxG_append (E : List (Int × GP)) (sq : Int) (q : GP) (k : Int) {x : Nat × GP} (h : idxG E k = some x) : idxG (E ++ [(sq, q)]) k = some x := by
 induction E generalizing x with
 | nil => simp [idxG] at h
 | cons p E ih =>
  simp only [idxG, List.cons_append] at h ⊢
  split
  ·rename_i hc
   rw [if_pos hc] at h;exact h
  ·rename_i hc
   rw [if_neg hc] at h
   cases hx : idxG E k with
   | none => rw [hx] at h; simp at h
   | some y =>
    rw [hx] at h;rw [ih hx];exact h
theorem idxG_self (E : List (Int × GP)) (sq : Int) (q : GP) : ∃ x, idxG (E ++ [(sq, q)]) sq = some x := by
 induction E with
 | nil => exact ⟨(0, q), by simp [idxG]⟩
 | cons p E ih =>
  obtain ⟨x, hx⟩ := ih
  simp only [idxG, List.cons_append]
  split
  ·exact ⟨_, rfl⟩
  ·rw [hx]
   exact ⟨_, rfl⟩
theorem idxG_erase (E : List (Int × GP)) (k k' : Int) (x : Nat × GP) (hx : idxG E k = some x) (hne : k' ≠ k) : (∃ y, idxG E k' = some y) → ∃ y, idxG (E.eraseIdx x.1) k' = some y := by
 induction E generalizing x with
 | nil => simp [idxG] at hx
 | cons p E ih =>
  rintro ⟨y, hy⟩
  simp only [idxG] at hx hy
  by_cases hc : k == p.1
  ·rw [if_pos hc] at hx
   cases hx
   have hk : k = p.1 := eq_of_beq hc
   rw [if_neg (by rw [beq_iff_eq]; intro e; exact hne (e.trans hk.symm))] at hy
   cases hz : idxG E k' with
   | none => rw [hz] at hy; simp at hy
   | some z => exact ⟨z, by simpa using hz⟩
  ·rw [if_neg hc] at hx
   cases hz : idxG E k with
   | none => rw [hz] at hx; simp at hx
   | some z =>
    rw [hz] at hx
    simp only [Option.map_some, Option.some.injEq] at hx
    subst hx
    show ∃ y, idxG (p :: E.eraseIdx z.1) k' = some y
    simp only [idxG]
    by_cases hc2 : k' == p.1
    ·rw [if_pos hc2]
     exact ⟨_, rfl⟩
    ·rw [if_neg hc2] at hy ⊢
     cases hw : idxG E k' with
     | none => rw [hw] at hy; simp at hy
     | some w =>
      obtain ⟨v, hv⟩ := ih z hz ⟨w, hw⟩
      rw [hv];exact ⟨_, rfl⟩
theorem advG_has : ∀ (n : Nat) (l : List GP) (E : List (Int × GP)) (j : Nat), (j < l.length ∨ ∃ x, idxG E ((j : Int) + 1) = some x) → (j < (advG n l E).1.length ∨ ∃ x, idxG (advG n l E).2 ((j : Int) + 1) = some x)
 | 0, _, _, _, h => h
 | n + 1, l, E, j, h => by
  simp only [advG]
  cases hq : idxG E ((l.length : Int) + 1) with
  | none => exact h
  | some q =>
   dsimp only
   refine advG_has n (l ++ [q.2]) (E.eraseIdx q.1) j ?_
   by_cases hj : j ≤ l.length
   ·exact .inl (by rw [List.length_append, List.length_singleton]; omega)
   ·rcases h with h | h
    ·exact .inl (by rw [List.length_append, List.length_singleton]; omega)
    ·exact .inr (idxG_erase E _ _ q hq (by omega) h)
theorem advG_le : ∀ (n : Nat) (l : List GP) (E : List (Int × GP)), l.length ≤ (advG n l E).1.length
 | 0, _, _ => Nat.le_refl _
 | n + 1, l, E => by
  simp only [advG]
  cases hq : idxG E ((l.length : Int) + 1) with
  | none => exact Nat.le_refl _
  | some q =>
   dsimp only
   have := advG_le n (l ++ [q.2]) (E.eraseIdx q.1)
   rw [List.length_append, List.length_singleton] at this
   omega
theorem Has.recv {s : PS} {j : Nat} (h : Has s j) (sq : Int) (q : GP) : Has (s.recv sq q) j := by
 refine advG_has _ s.l (putG s.l s.E sq q) j (h.imp (fun h => h) fun ⟨x, hx⟩ => ?_)
 unfold putG
 split
 ·exact ⟨x, hx⟩
 ·split
  ·exact ⟨x, idxG_append _ _ _ _ hx⟩
  ·exact ⟨x, hx⟩
theorem Has.new (s : PS) (j : Nat) (q : GP) : Has (s.recv ((j : Int) + 1) q) j := by
 refine advG_has _ s.l (putG s.l s.E _ q) j ?_
 unfold putG
 split
 ·rename_i x hx
  exact .inr ⟨x, hx⟩
 ·split
  ·exact .inr (idxG_self _ _ _)
  ·exact .inl (by omega)
theorem ack_l (s : PS) (n : Nat) : (s.ack n).l = s.l ∧ (s.ack n).E = s.E ∧ (s.ack n).R.length = s.R.length ∧ (s.ack n).R.map pOf = s.R.map pOf := by
 unfold PS.ack
 split
 ·exact ⟨rfl, rfl, rfl, rfl⟩
 ·split
  ·exact ⟨rfl, rfl, clrG_len _ _ _, clrG_p _ _ _⟩
  ·exact ⟨rfl, rfl, rfl, rfl⟩
theorem Has.dlv {s : PS} {j : Nat} (h : Has s j) (q : GP) : Has (s.dlv q) j := by
 have := h.recv q.o.s q
 unfold Has PS.dlv
 rw [(ack_l _ _).1, (ack_l _ _).2.1];exact this
theorem Has.mine (s : PS) (j : Nat) (q : GP) (hq : q.o.s = (j : Int) + 1) : Has (s.dlv q) j := by
 have := Has.new s j q
 unfold Has PS.dlv
 rw [(ack_l _ _).1, (ack_l _ _).2.1, hq];exact this
theorem pOf_at {R : List PG} {j : Nat} {q : GP} (h : (R.map pOf)[j]? = some q) : ∃ p, R[j]? = some p ∧ p.p = q := by
 rw [List.getElem?_map] at h
 cases hp : R[j]? with
 | none => rw [hp] at h; simp at h
 | some p =>
  rw [hp] at h
  exact ⟨p, rfl, by simpa [pOf] using h⟩
theorem pOf_mk {R : List PG} {j : Nat} {p : PG} (h : R[j]? = some p) : (R.map pOf)[j]? = some p.p := by
 rw [List.getElem?_map, h]
 rfl
theorem Sq.same {s s' : PS} (h : Sq s) (hR : s'.R.map pOf = s.R.map pOf) (hk : s'.k ≤ s'.R.length) (hp : Pre s') : Sq s' := by
 refine ⟨fun j p hj => ?_, hk, hp⟩
 have h1 := pOf_mk hj
 rw [hR] at h1
 obtain ⟨p', h2, h3⟩ := pOf_at h1
 rw [← h3]
 exact h.sq j p' h2
theorem dlv_step {s : PS} (h : Sq s) {j : Nat} {q : GP} (hq : (s.R.map pOf)[j]? = some q) : Sq (s.dlv q) ∧ (s.dlv q).R.map pOf = s.R.map pOf ∧ s.l.length ≤ (s.dlv q).l.length ∧ (s.dlv q).k = (s.dlv q).l.length ∧ Has (s.dlv q) j ∧ (((s.dlv q).R = s.R ∧ s.k ≤ (s.dlv q).l.length) ∨ ∀ (i : Nat) p, (s.dlv q).l.length ≤ i → (s.dlv q).R[i]? = some p → p.sent = false) := by
 have hs : q.o.s = (j : Int) + 1 := by
  obtain ⟨p, h1, h2⟩ := pOf_at hq
  rw [← h2];exact h.sq j p h1
 have hp1 : Pre (s.recv q.o.s q) := by rw [hs]; exact h.pre.recv hq
 have hle := hp1.le
 have hle : (s.recv q.o.s q).l.length ≤ s.R.length := hle
 have hg : s.l.length ≤ (s.recv q.o.s q).l.length := advG_le _ _ _
 have hal := ack_l (s.recv q.o.s q) (s.recv q.o.s q).l.length
 have hm := Has.mine s j q hs
 have hl : (s.dlv q).l = (s.recv q.o.s q).l := hal.1
 have hR : (s.dlv q).R.map pOf = s.R.map pOf := hal.2.2.2
 have hlen : (s.dlv q).R.length = s.R.length := hal.2.2.1
 have hk : (s.dlv q).k = (s.dlv q).l.length ∧ (((s.dlv q).R = s.R ∧ s.k ≤ (s.dlv q).l.length) ∨ ∀ (i : Nat) p, (s.dlv q).l.length ≤ i → (s.dlv q).R[i]? = some p → p.sent = false) := by
  rw [hl]
  unfold PS.dlv PS.ack
  split
  ·rename_i hc
   have hc : s.R.length < (s.recv q.o.s q).l.length := hc
   omega
  ·split
   ·rename_i hc
    refine ⟨rfl, .inr fun i p hi hp => ?_⟩
    have hp : (clrG s.R (s.recv q.o.s q).l.length s.R.length)[i]? = some p := hp
    rw [clrG_get] at hp
    cases hx : s.R[i]? with
    | none => rw [hx] at hp; simp at hp
    | some x =>
     rw [hx] at hp
     simp only [Option.map_some, Option.some.injEq] at hp
     rw [if_pos ⟨hi, (List.getElem?_eq_some_iff.1 hx).1⟩] at hp;rw [← hp]
   ·rename_i hc
    have hc : ¬ (s.recv q.o.s q).l.length < s.k := hc
    exact ⟨rfl, .inl ⟨rfl, by omega⟩⟩
 refine ⟨h.same hR (by rw [hk.1, hl, hlen]; exact hle) hp1.ack, hR, by rw [hl]; exact hg, hk.1, hm, hk.2⟩
structure Dv (s u : PS) (Ds : List GP) : Prop where
 sq : Sq u
 R : u.R.map pOf = s.R.map pOf
 l : s.l.length ≤ u.l.length
 has : ∀ j, Has s j → Has u j
 all : ∀ (j : Nat) q, q ∈ Ds → (s.R.map pOf)[j]? = some q → Has u j
 k : Ds ≠ [] → u.k = u.l.length
 alt : (u.R = s.R ∧ (Ds = [] → u.k = s.k) ∧ (Ds ≠ [] → s.k ≤ u.l.length)) ∨ ∀ (i : Nat) p, u.l.length ≤ i → u.R[i]? = some p → p.sent = false
theorem sq_inj {s : PS} (h : Sq s) {i j : Nat} {q : GP} (hi : (s.R.map pOf)[i]? = some q) (hj : (s.R.map pOf)[j]? = some q) : i = j := by
 obtain ⟨p, h1, h2⟩ := pOf_at hi
 obtain ⟨r, h3, h4⟩ := pOf_at hj
 have e1 := h.sq i p h1
 have e2 := h.sq j r h3
 rw [h2] at e1;rw [h4] at e2
 omega
theorem dlvs_app (s : PS) (Ds : List GP) (q : GP) : s.dlvs (Ds ++ [q]) = (s.dlvs Ds).dlv q := by simp [PS.dlvs]
theorem dv_any {s : PS} (h : Sq s) : ∀ (n : Nat) (Ds : List GP), Ds.length = n → (∀ q ∈ Ds, ∃ j : Nat, (s.R.map pOf)[j]? = some q) → Dv s (s.dlvs Ds) Ds
 | 0, Ds, h0, hD => by
  obtain rfl := List.eq_nil_of_length_eq_zero h0
  exact ⟨h, rfl, Nat.le_refl _, fun _ e => e, fun _ _ e => absurd e (by simp), fun e => absurd rfl e, .inl ⟨rfl, fun _ => rfl, fun e => absurd rfl e⟩⟩
 | n + 1, Ds, h0, hD => by
  obtain ⟨Ts, q, rfl⟩ : ∃ Ts q, Ds = Ts ++ [q] := ⟨Ds.dropLast, Ds.getLast (by intro e; rw [e] at h0; simp at h0), (List.dropLast_concat_getLast _).symm⟩
  rw [List.length_append, List.length_singleton] at h0
  have ih := dv_any h n Ts (by omega) (fun q hq => hD q (List.mem_append.2 (.inl hq)))
  obtain ⟨j, hj⟩ := hD q (List.mem_append.2 (.inr (List.mem_singleton.2 rfl)))
  rw [dlvs_app]
  have hj2 : ((s.dlvs Ts).R.map pOf)[j]? = some q := by rw [ih.R]; exact hj
  obtain ⟨d1, d2, d3, d4, d5, d6⟩ := dlv_step ih.sq hj2
  refine ⟨d1, d2.trans ih.R, Nat.le_trans ih.l d3, fun i hi => (ih.has i hi).dlv q, fun i r hr hi => ?_, fun _ => d4, ?_⟩
  ·rcases List.mem_append.1 hr with hr | hr
   ·exact (ih.all i r hr hi).dlv q
   ·rw [List.mem_singleton.1 hr] at hi
    rw [sq_inj h hi hj];exact d5
  ·have hne : Ts ++ [q] ≠ [] := by simp
   rcases d6 with ⟨e1, e2⟩ | d6
   ·rcases ih.alt with ⟨f1, f2, f3⟩ | f
    ·refine .inl ⟨e1.trans f1, fun e => absurd e hne, fun _ => ?_⟩
     by_cases hT : Ts = []
     ·rw [← f2 hT]
      exact e2
     ·exact Nat.le_trans (f3 hT) d3
    ·refine .inr fun i p hi hp => ?_
     rw [e1] at hp
     exact f i p (by omega) hp
   ·exact .inr d6
def Wait (t : Int) (s : PS) : Prop := ∀ (j : Nat) p, firstW s.k s.R.length ≤ j → s.R[j]? = some p → p.sent = true ∧ p.at_ ≤ t
def Runs (t : Int) (s : PS) : Prop := s.k = s.l.length ∧ ∀ (j : Nat) p, s.k ≤ j → s.R[j]? = some p → Has s j ∨ p.sent = false ∨ p.at_ ≤ t
def Fin (s : PS) : Prop := s.k = s.R.length ∧ s.l.length = s.R.length
theorem Fin.runs {t : Int} {s : PS} (h : Fin s) : Runs t s := ⟨h.1.trans h.2.symm, fun j p hj hp => by
 have := (List.getElem?_eq_some_iff.1 hp).1
 have := h.1
 omega⟩
theorem tick_sq {s : PS} (h : Sq s) (now : Int) : Sq (s.tick now) := h.same (updG_p _ _ _ _) (by show s.k ≤ (updG _ _ _ _).length; rw [updG_len]; exact h.hk) h.pre.tick
theorem firstW_le {k n : Nat} (h : k ≤ n) : firstW k n ≤ k := by unfold firstW; split <;> omega
theorem out_none {s : PS} {now : Int} (h : s.out now = []) : (s.tick now).R = s.R := by
 refine List.ext_getElem? fun i => ?_
 show (updG _ _ _ _)[i]? = _
 rw [updG_get]
 cases hp : s.R[i]? with
 | none => rfl
 | some p =>
  simp only [Option.map_some, Option.some.injEq]
  split
  ·rename_i hc
   unfold PG.upd
   split
   ·rename_i hd
    have : p.p ∈ s.out now := (sentG_mem _ _ _ _ _).2 ⟨i, p, hc.2, hc.1, hp, hd, rfl⟩
    rw [h] at this
    simp at this
   ·rfl
  ·rfl
theorem beat_dv {s : PS} (h : Sq s) (now : Int) : Dv (s.tick now) (s.beat now) (s.out now) := by
 refine dv_any (tick_sq h now) _ _ rfl fun q hq => ?_
 obtain ⟨j, p, h1, h2, h3, h4, h5⟩ := (sentG_mem _ _ _ _ _).1 hq
 refine ⟨j, ?_⟩
 show ((updG _ _ _ _).map pOf)[j]? = _
 rw [updG_p, pOf_mk h3, h5]
theorem out_due {s : PS} {now : Int} {j : Nat} {p : PG} (hp : s.R[j]? = some p) (hj : firstW s.k s.R.length ≤ j) (hd : p.due now = true) : p.p ∈ s.out now :=
 (sentG_mem _ _ _ _ _).2 ⟨j, p, (List.getElem?_eq_some_iff.1 hp).1, hj, hp, hd, rfl⟩
theorem beat_sq {s : PS} (h : Sq s) (now : Int) : Sq (s.beat now) := (beat_dv h now).sq
theorem beat_some {s : PS} (h : Sq s) {t now : Int} (hn : t ≤ now) (hne : s.out now ≠ []) (hw : (∀ (j : Nat) p, firstW s.k s.R.length ≤ j → s.R[j]? = some p → p.due now = true ∨ p.at_ ≤ t) ∨ Runs t s) : Runs t (s.beat now) := by
 have d := beat_dv h now
 have hl : (s.tick now).l = s.l := rfl
 refine ⟨d.k hne, fun j p hj hp => ?_⟩
 have hk := d.k hne
 rcases d.alt with ⟨e1, e2, e3⟩ | e
 ·have hkj : s.k ≤ j := by
   have := e3 hne
   have : s.k ≤ (s.beat now).l.length := this
   omega
  have hf := firstW_le h.hk
  rw [e1] at hp
  have hp0 := hp
  have hp : (updG _ _ _ _)[j]? = some p := hp
  rw [updG_get] at hp
  cases hx : s.R[j]? with
  | none => rw [hx] at hp; simp at hp
  | some x =>
   rw [hx] at hp
   simp only [Option.map_some, Option.some.injEq] at hp
   rw [if_pos ⟨by omega, (List.getElem?_eq_some_iff.1 hx).1⟩] at hp
   have hin : x.due now = true → Has (s.beat now) j := fun hd => d.all j x.p (out_due hx (by omega) hd) (by
    show ((updG _ _ _ _).map pOf)[j]? = _
    rw [updG_p, pOf_mk hx])
   by_cases hd : x.due now = true
   ·exact .inl (hin hd)
   ·unfold PG.upd at hp
    rw [if_neg hd] at hp;subst hp
    rcases hw with hw | hw
    ·exact .inr (.inr ((hw j x (by omega) hx).resolve_left hd))
    ·rcases hw.2 j x hkj hx with g | g | g
     ·exact .inl (d.has j g)
     ·exact .inr (.inl g)
     ·exact .inr (.inr g)
 ·exact .inr (.inl (e j p (by omega) hp))
theorem beat_none {s : PS} {now : Int} (h : s.out now = []) : (s.beat now).R = s.R ∧ (s.beat now).k = s.k ∧ (s.beat now).l = s.l ∧ (s.beat now).E = s.E := by
 have hb : s.beat now = s.tick now := by unfold PS.beat; rw [h]; rfl
 rw [hb];exact ⟨out_none h, rfl, rfl, rfl⟩
theorem Runs.none {t : Int} {s s' : PS} (h : Runs t s) (e : s'.R = s.R ∧ s'.k = s.k ∧ s'.l = s.l ∧ s'.E = s.E) : Runs t s' := by
 unfold Runs Has
 rw [e.1, e.2.1, e.2.2.1, e.2.2.2];exact h
theorem Runs.beat {s : PS} (h : Sq s) {t now : Int} (hn : t ≤ now) (hr : Runs t s) : Runs t (s.beat now) := by
 by_cases hne : s.out now = []
 ·exact hr.none (beat_none hne)
 ·exact beat_some h hn hne (.inr hr)
theorem has_all {s : PS} (h : Sq s) (hall : ∀ j, s.l.length ≤ j → j < s.R.length → Has s j) : s.l.length = s.R.length := by
 have h1 := h.pre.le
 rcases Nat.lt_or_ge s.l.length s.R.length with hlt | hge
 ·rcases hall _ (Nat.le_refl _) hlt with g | ⟨x, g⟩
  ·omega
  ·rw [h.pre.top] at g
   simp at g
 ·omega
theorem Runs.fin {s : PS} (h : Sq s) {t now : Int} (hn : t + 6 ≤ now) (hr : Runs t s) : Fin (s.beat now) := by
 have hr2 := hr.beat h (by omega : t ≤ now)
 have hs2 := beat_sq h now
 have hlen : (s.beat now).R.length = s.R.length := by
  have := congrArg List.length (beat_dv h now).R
  rw [List.length_map, List.length_map] at this;rw [this];exact updG_len _ _ _ _
 have d := beat_dv h now
 have hl : s.l.length ≤ (s.beat now).l.length := d.l
 have key : (s.beat now).l.length = (s.beat now).R.length := by
  refine has_all hs2 fun j hj hlt => ?_
  have hjs : j < s.R.length := by omega
  have hx : s.R[j]? = some s.R[j] := List.getElem?_eq_getElem hjs
  have hkj : s.k ≤ j := by have := hr.1; omega
  have hdue : s.R[j].due now = true → Has (s.beat now) j := fun hd => d.all j s.R[j].p (out_due hx (by have := firstW_le h.hk; omega) hd) (by
   show ((updG _ _ _ _).map pOf)[j]? = _
   rw [updG_p, pOf_mk hx])
  rcases hr.2 j _ hkj hx with g | g | g
  ·exact d.has j g
  ·refine hdue ?_
   unfold PG.due dueB
   rw [g]
   rfl
  ·refine hdue ?_
   unfold PG.due dueB
   rw [show decide (6 ≤ now - s.R[j].at_) = true from decide_eq_true (by omega)]
   simp
 exact ⟨hr2.1.trans key, key⟩
theorem run_sq {s : PS} (h : Sq s) (t : Int) : ∀ i, Sq (s.run t i)
 | 0 => h
 | i + 1 => beat_sq (run_sq h t i) _
theorem run_seven {s : PS} (h : Sq s) (t : Int) : ∀ i, i ≤ 7 → (i = 0 ∨ (i ≤ 6 ∧ Wait t (s.run t i)) ∨ Runs t (s.run t i))
 | 0, _ => .inl rfl
 | i + 1, hi => by
  have hs := run_sq h t i
  refine .inr ?_
  show (i + 1 ≤ 6 ∧ Wait t ((s.run t i).beat (t + i))) ∨ Runs t ((s.run t i).beat (t + i))
  rcases run_seven h t i (by omega) with h0 | ⟨h6, h0⟩ | h0
  ·subst h0
   by_cases hne : (s.run t 0).out (t + (0 : Nat)) = []
   ·refine .inl ⟨by omega, ?_⟩
    have e := beat_none hne
    unfold Wait
    rw [e.1, e.2.1]
    intro j p hj hp
    have hd : ¬ p.due (t + (0 : Nat)) = true := fun hd => by
     have := out_due hp hj hd
     rw [hne] at this
     simp at this
    unfold PG.due dueB at hd
    simp only [Bool.or_eq_true, Bool.not_eq_true', decide_eq_true_eq, not_or] at hd
    refine ⟨by simpa using hd.1.1, by have := hd.1.2; omega⟩
   ·refine .inr (beat_some hs (by omega) hne (.inl fun j p hj hp => ?_))
    by_cases hd : p.due (t + (0 : Nat)) = true
    ·exact .inl hd
    ·unfold PG.due dueB at hd
     simp only [Bool.or_eq_true, Bool.not_eq_true', decide_eq_true_eq, not_or] at hd
     exact .inr (by have := hd.1.2; omega)
  ·by_cases hne : (s.run t i).out (t + i) = []
   ·by_cases h5 : i + 1 ≤ 6
    ·refine .inl ⟨h5, ?_⟩
     have e := beat_none hne
     unfold Wait
     rw [e.1, e.2.1];exact h0
    ·obtain rfl : i = 6 := by omega
     refine .inr ?_
     -- nothing is sent at beat 6: there is nothing to send
     have hz : (s.run t 6).R.length = 0 := by
      rcases Nat.eq_zero_or_pos (s.run t 6).R.length with hz | hz
      ·exact hz
      ·exfalso
       have hf : firstW (s.run t 6).k (s.run t 6).R.length < (s.run t 6).R.length := by
        have := hs.hk
        unfold firstW
        split <;> omega
       have hx : (s.run t 6).R[firstW (s.run t 6).k (s.run t 6).R.length]? = some _ := List.getElem?_eq_getElem hf
       have hw := h0 _ _ (Nat.le_refl _) hx
       have := out_due (now := t + (6 : Nat)) hx (Nat.le_refl _) (by
        unfold PG.due dueB
        rw [show decide (6 ≤ t + ((6 : Nat) : Int) - (s.run t 6).R[firstW (s.run t 6).k (s.run t 6).R.length].at_) = true from decide_eq_true (by have := hw.2; omega)]
        simp)
       rw [hne] at this
       simp at this
     refine Runs.none (Fin.runs ⟨?_, ?_⟩) (beat_none hne)
     ·have := hs.hk; omega
     ·have := hs.pre.le; omega
   ·exact .inr (beat_some hs (by omega) hne (.inl fun j p hj hp => .inr (h0 j p hj hp).2))
  ·exact .inr (h0.beat hs (by omega))
theorem run_fin {s : PS} (h : Sq s) (t : Int) : ∀ i, Fin (s.run t (8 + i))
 | 0 => by
  have h7 := run_seven h t 7 (Nat.le_refl _)
  have : Runs t (s.run t 7) := by
   rcases h7 with g | g | g
   ·omega
   ·omega
   ·exact g
  exact this.fin (now := t + ((7 : Nat) : Int)) (run_sq h t 7) (by omega)
 | i + 1 => by
  have ih := run_fin h t i
  exact (ih.runs (t := t)).fin (now := t + ((8 + i : Nat) : Int)) (run_sq h t (8 + i)) (by omega)
theorem run_ten {s : PS} (h : Sq s) (t : Int) : (s.run t 10).k = (s.run t 10).R.length ∧ (s.run t 10).l = (s.run t 10).R.map pOf := by
 have h1 := run_fin h t 2
 have h2 := (run_sq h t 10).pre.l
 refine ⟨h1.1, ?_⟩
 rw [h2, show (s.run t 10).l.length = (s.run t 10).R.length from h1.2]
 exact List.take_of_length_le (by rw [List.length_map]; exact Nat.le_refl _)
end Go.Proofs.YtjkiidhnmljmbaaGreatDoor
