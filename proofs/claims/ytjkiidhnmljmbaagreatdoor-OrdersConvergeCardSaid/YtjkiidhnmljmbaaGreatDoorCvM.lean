/- Orders: a line whose program side alone goes on: Tick, Receive, the answer's arrival. -/
import Derived.Test.YtjkiidhnmljmbaaGreatDoorCvP
set_option linter.unusedVariables false
set_option linter.unusedSimpArgs false
namespace Go.Proofs.YtjkiidhnmljmbaaGreatDoor
open Go.RowKit
structure Rd0 (W : World) (f : Nat → Nat) (oa : Option Addr) (l : List MP) : Prop where
 rd : RdM W oa l
 row : l ≠ [] → ∀ a, oa = some a → a.block < W.heap.size ∧ f a.block = 0
 alt : ∀ q ∈ l, q.al ≠ [] → ∀ a, q.m.o.ao = some a → a.block < W.heap.size ∧ f a.block = 0
theorem Rd0.turn {W W' : World} {f g : Nat → Nat} {oa : Option Addr} {l : List MP} (h : Rd0 W f oa l) (hx : Nx W W' f g) : Rd0 W' g oa l := by
 refine ⟨⟨?_, fun q hq => ?_⟩, fun hn a e => ?_, fun q hq hn a e => ?_⟩
 ·rcases h.rd.row with e | ⟨b, o, e, hlt, hc⟩
  ·exact .inl e
  ·by_cases hn : l = []
   ·exact .inl hn
   ·have h1 := (h.row hn _ e).2
    have hb := hx.fr.block b hlt (fun e' => e' h1)
    refine .inr ⟨b, o, e, Nat.lt_of_lt_of_le hlt hx.fr.size, fun j v hj => ?_⟩
    have h2 := hc j v hj
    unfold World.cell? at *
    dsimp only at *
    rw [hb];exact h2
 ·obtain ⟨h1, h2, h3⟩ := h.rd.als q hq
  refine ⟨h1, h2, ?_⟩
  by_cases hn : q.al = []
  ·exact .inl hn
  ·exact h3.keptB hx.fr.size (fun b o e hlt => hx.fr.block b hlt (fun e' => e' (h.alt q hq hn _ e).2))
 ·obtain ⟨h1, h2⟩ := h.row hn a e
  exact ⟨Nat.lt_of_lt_of_le h1 hx.fr.size, by rw [hx.co _ h1]; exact h2⟩
 ·obtain ⟨h1, h2⟩ := h.alt q hq hn a e
  exact ⟨Nat.lt_of_lt_of_le h1 hx.fr.size, by rw [hx.co _ h1]; exact h2⟩
structure LnC (p : LP) (s : PS) : Prop where
 eP : p.P.map PG.c = s.R
 ek : p.kp = s.k
 el : p.l1.map GP.c = s.l
 eE : p.E1.map ec = s.E
 eM : (p.R.map pOf).map GP.c = s.R.map pOf
theorem map_pOf_c (L : List PG) : (L.map PG.c).map pOf = (L.map pOf).map GP.c := by
 rw [List.map_map, List.map_map]
 rfl
theorem LnE.c {p : LP} (he : LnE p) : LnC p p.s :=
 ⟨he.eP, he.ek, he.el, he.eE, (map_pOf_c p.R).symm⟩
structure CvI (W0 : World) (B : Nat) (id : Int) (x bs br : Nat) (T : Int) (u : PS) (p : LP) (W : World) : Prop where
 ln : LnM W B id p
 c : LnC p u
 x : p.x = x
 bs : p.bs = bs
 br : p.br = br
 now : p.now = T
 bl : Below B W0 W
section
variable {W0 W : World} {B : Nat} {id : Int} {x bs br : Nat} {T : Int} {u : PS} {p : LP}
theorem CvI.next {W' : World} {u' : PS} {p' : LP} (h : CvI W0 B id x bs br T u p W) (hB : B ≤ W0.heap.size) (hl : LnM W' B id p') (hc : LnC p' u') (hx : Nx W W' p.col p'.col) (e1 : p'.x = p.x) (e2 : p'.bs = p.bs) (e3 : p'.br = p.br) (e4 : p'.now = p.now) : CvI W0 B id x bs br T u' p' W' :=
 ⟨hl, hc, e1.trans h.x, e2.trans h.bs, e3.trans h.br, e4.trans h.now, h.bl.trans (hx.fr.below B (Nat.le_trans hB h.bl.size) (fun c hc => Nat.le_of_not_lt (fun hlt => hc (h.ln.lo c hlt))))⟩
theorem CvI.below {W' : World} (h : CvI W0 B id x bs br T u p W) (hB : B ≤ W0.heap.size) (hb : Below W.heap.size W W') : CvI W0 B id x bs br T u p W' :=
 h.next hB (h.ln.below hb) h.c (Nx.below hb) rfl rfl rfl rfl
theorem CvI.cells (h : CvI W0 B id x bs br T u p W) : W.cell? ⟨x, 0, none⟩ = some (.pointer (some ⟨bs, 0, none⟩)) ∧ W.cell? ⟨x, 1, none⟩ = some (.pointer (some ⟨br, 0, none⟩)) ∧ W.cell? ⟨x, 4, none⟩ = some (.int .i64 T) := by
 rw [← h.x, ← h.bs, ← h.br, ← h.now];exact ⟨h.ln.bx.cell 0, h.ln.bx.cell 1, h.ln.bx.cell 4⟩
theorem SaG.rdl {ba n cap k : Nat} {tn : Int} {oa : Option Addr} {vS : Value} {L : List GP} {Ts : List Int} (h : SaG W ba tn (.slice oa n cap) vS L k Ts) : RdG W oa L := rdg_of h.ownL (fun p hp => ⟨(h.alts p hp).len, (h.alts p hp).few, (h.alts p hp).rd⟩)
theorem lnc_len (h : LnC p u) : p.P.length = u.R.length ∧ p.l1.length = u.l.length ∧ p.E1.length = u.E.length ∧ p.R.length = u.R.length := by
 refine ⟨by rw [← h.eP, List.length_map], by rw [← h.el, List.length_map], by rw [← h.eE, List.length_map], ?_⟩
 have := congrArg List.length h.eM
 rw [List.length_map, List.length_map, List.length_map] at this;exact this
theorem lnc_at {n m : Nat} (h : LnC p u) (hok : Ok n m u) : ∀ q ∈ p.P, 0 ≤ q.at_ ∧ q.at_ ≤ 1000000000 := fun q hq => by
 have h1 : q.c ∈ u.R := by rw [← h.eP]; exact List.mem_map.2 ⟨q, hq, rfl⟩
 obtain ⟨j, hj⟩ := List.mem_iff_getElem?.1 h1
 have h2 := (hok.ok j q.c hj).2.2
 have h3 : q.c.at_ = q.at_ := rfl
 rw [h3] at h2
 omega
theorem cv_tick {n m : Nat} {now : Int} (h : CvI W0 B id x bs br T u p W) (hB : B ≤ W0.heap.size) (hok : Ok n m u) (hn : n ≤ 200) (n0 : 0 ≤ now) (n1 : now ≤ 1000000000) :
  Calls Tryz.prog 20 #[.pointer (some ⟨bs, 0, none⟩), .int .i64 now] W fun e w' => ∃ (ob : Option Addr) (cap : Nat) (Ms : List GP) (p' : LP), e = .returned (.slice ob Ms.length cap) ∧ Ms.map GP.c = u.out now ∧ CvI W0 B id x bs br T (u.tick now) p' w' ∧ Rd0 w' p'.col ob (Ms.map (ordM id)) := by
 obtain ⟨e1, e2, e3, e4⟩ := lnc_len h.c
 have hnR := hok.nR
 have hbs := h.bs
 subst hbs
 refine (h.ln.tickP (now := now) (by rw [e1, h.c.ek]; exact hok.hk) (by omega) n0 n1 (lnc_at h.c hok)).mono ?_
 rintro e w' ⟨ob, cap, Ms, col', rfl, hrx, hf, hnx, hl, hc⟩
 have hz := hf.size
 have hnx2 : Nx W w' p.col (p.grow W.heap.size 0) := ⟨hnx.fr, fun c hc => grow_old hc⟩
 have hl2 : LnM w' B id { p with P := updG p.P (firstW p.kp p.P.length) p.P.length now, col := p.grow W.heap.size 0 } := by
  refine ⟨hl.bx, hl.sn, hl.rc, hl.sa, hl.rb, hl.os, fun c e => ?_, LnM.old h.ln.cR hz, LnM.old h.ln.cA hz, LnM.old h.ln.cB hz, LnM.old h.ln.cX hz, hl.aR, hl.al, hl.aS, hl.xv, h.ln.lg 0⟩
  refine LnM.old h.ln.cS hz c ?_
  rcases e with e | e | ⟨q, hq, hal⟩
  ·exact .inl e
  ·exact .inr (.inl e)
  ·obtain ⟨j, hj⟩ := List.mem_iff_getElem?.1 hq
   rw [updG_get] at hj
   cases hr : p.P[j]? with
   | none => rw [hr] at hj; simp at hj
   | some r =>
    rw [hr] at hj
    simp only [Option.map_some, Option.some.injEq] at hj
    have e2 : q.p = r.p := by
     rw [← hj]
     split
     ·exact upd_p r now
     ·rfl
    rw [e2] at hal
    exact .inr (.inr ⟨r, List.mem_of_getElem? hr, hal⟩)
 refine ⟨ob, cap, Ms, _, rfl, ?_, h.next hB hl2 ⟨?_, h.c.ek, h.c.el, h.c.eE, ?_⟩ hnx2 rfl rfl rfl rfl, ⟨hrx.rd, fun hn a e => ?_, fun q hq hn a e => ?_⟩⟩
 ·rw [hc, sentG_c, h.c.eP, h.c.ek, e1]
  rfl
 ·show (updG _ _ _ _).map PG.c = updG _ _ _ _
  rw [updG_c, h.c.eP, h.c.ek, e1]
 ·show (p.R.map pOf).map GP.c = (updG _ _ _ _).map pOf
  rw [updG_p];exact h.c.eM
 ·have hge := hrx.row hn a e
  rcases hrx.rd.row with e9 | ⟨b, o, e9, hlt, _⟩
  ·exact absurd e9 hn
  ·rw [e9] at e
   cases e
   exact ⟨hlt, grow_new hge⟩
 ·have hlt : a.block < w'.heap.size := by
   rcases (hrx.rd.als q hq).2.2 with e9 | ⟨b, o, e9, hlt, _⟩
   ·exact absurd e9 hn
   ·rw [e9] at e
    cases e
    exact hlt
  refine ⟨hlt, ?_⟩
  rcases hrx.alt q hq hn a e with h5 | h5
  ·exact h.ln.lg 0 _ h5
  ·exact grow_new h5
theorem cv_recv {n m : Nat} {q : GP} {j : Nat} (h : CvI W0 B id x bs br T u p W) (hB : B ≤ W0.heap.size) (hok : Ok n m u) (hn : n ≤ 200) (hm : m ≤ 800) (h0 : 0 ≤ id) (h1 : id < 3) (hq : (u.R.map pOf)[j]? = some q.c) (hlen : q.al.length = q.o.an) (hfew : q.o.an ≤ 1000000) (hrd : RdA W q.o.ao q.al) :
  Calls Tryz.prog 21 #[.pointer (some ⟨br, 0, none⟩), .agg (ordM id q).m.l.toArray] W fun e w' => ∃ (ob : Option Addr) (cap : Nat) (p' : LP), e = .returned (.slice ob 1 cap) ∧ CvI W0 B id x bs br T (u.recv q.c.o.s q.c) p' w' ∧ RdX w' B W.heap.size ob [ackMP id (u.recv q.c.o.s q.c).l.length] ∧ Nx W w' p.col p'.col ∧ (∀ c, FoS p'.bs p'.vp p'.P c → B ≤ c ∧ c < W.heap.size) := by
 obtain ⟨e1, e2, e3, e4⟩ := lnc_len h.c
 obtain ⟨r, hr, hrq⟩ := pOf_at hq
 have ho := hok.ok j r hr
 rw [hrq] at ho
 have hj := (List.getElem?_eq_some_iff.1 hr).1
 have hnR := hok.nR
 have hnE := hok.nE
 have hokB : okB q.o q.al = true := ho.2.1
 have hs : q.o.s = (j : Int) + 1 := ho.1
 have hts : q.o.txt.size ≤ maxLen := by
  rw [← h.c.eM, List.getElem?_map, List.getElem?_map] at hq
  cases hx : p.R[j]? with
  | none => rw [hx] at hq; simp at hq
  | some y =>
   rw [hx] at hq
   simp only [Option.map_some, Option.some.injEq] at hq
   have h3 := (h.ln.aR y (List.mem_of_getElem? hx)).txt
   have h5 : (pOf y).c.o.txt = q.c.o.txt := by rw [hq]
   have h4 : y.p.o.txt = q.o.txt := h5
   rw [← h4];exact h3
 have htk : tkB id (ordM id q).m q.al = true := by
  unfold tkB okM ordM
  dsimp only
  rw [if_pos rfl, hokB, decide_eq_true (show 0 ≤ id ∧ id < 3 from ⟨h0, h1⟩), decide_eq_true (show q.o.s ≥ 1 by omega), decide_eq_true (show q.o.s ≤ 200 by omega)]
  simp
 have hbr := h.br
 subst hbr
 refine (h.ln.recvP (mo := (ordM id q).m) (al := q.al) hlen hfew hrd hts (by omega)).mono ?_
 rw [htk];rintro e w' ⟨ob, cap, vo', l', E', col', rfl, hrx, hf, hnx, hl, hc⟩;rw [if_pos rfl, h.c.el, h.c.eE] at hc
 have hc1 : l'.map GP.c = (u.recv q.c.o.s q.c).l := congrArg Prod.fst hc
 have hc2 : E'.map ec = (u.recv q.c.o.s q.c).E := congrArg Prod.snd hc
 have hl1 : l'.length = (u.recv q.c.o.s q.c).l.length := by
  have := congrArg List.length hc1
  rw [List.length_map] at this;exact this
 refine ⟨ob, cap, _, rfl, h.next hB hl ⟨h.c.eP, h.c.ek, hc1, hc2, h.c.eM⟩ hnx rfl rfl rfl rfl, ?_, hnx, fun c e => ⟨(h.ln.cS c e).1, (h.ln.cS c e).2.1⟩⟩
 rw [← hl1];exact hrx
theorem cv_ack {n m k : Nat} (h : CvI W0 B id x bs br T u p W) (hB : B ≤ W0.heap.size) (hok : Ok n m u) (hn : n ≤ 200) (hk : k ≤ 200) (h0 : 0 ≤ id) (h1 : id < 3) :
  Calls Tryz.prog 22 #[.pointer (some ⟨bs, 0, none⟩), .agg (ackMP id k).m.l.toArray] W fun e w' => (∃ v, e = .returned v) ∧ ∃ p' : LP, CvI W0 B id x bs br T (u.ack k) p' w' ∧ Nx W w' p.col p'.col ∧ Fr (FoS p.bs p.vp p.P) W w' := by
 obtain ⟨e1, e2, e3, e4⟩ := lnc_len h.c
 have hnR := hok.nR
 have hk1 := hok.hk
 have hbs := h.bs
 subst hbs
 refine (h.ln.ackP (mo := (ackMP id k).m) (al := (ackMP id k).al) rfl (Nat.zero_le _) (.inl rfl) (Nat.zero_le _) (by omega) (by rw [e1, h.c.ek]; exact hk1)).mono ?_
 rintro e w' ⟨he, hf, col', hnx, hl⟩
 have e9 := ackM_c id (ackMP id k).m (ackMP id k).al p.P p.kp
 rw [h.c.eP, h.c.ek, ackM_ack h0 h1 hk] at e9
 have f1 := congrArg Prod.fst e9
 have f2 := congrArg Prod.snd e9
 dsimp only at f1 f2
 have key : ((u.ack k).R, (u.ack k).k) = (if u.R.length < k then (u.R, u.k) else if k < u.k then (clrG u.R k u.R.length, k) else (u.R, k)) := by
  unfold PS.ack
  split
  ·rfl
  ·split <;> rfl
 have k1 := congrArg Prod.fst key
 have k2 := congrArg Prod.snd key
 dsimp only at k1 k2
 refine ⟨he, _, h.next hB hl ⟨?_, ?_, ?_, ?_, ?_⟩ hnx rfl rfl rfl rfl, hnx, hf⟩
 ·show (ackM id _ _ p.P p.kp).1.map PG.c = _
  rw [h.c.ek, ← f1];exact k1.symm
 ·show (ackM id _ _ p.P p.kp).2 = _
  rw [h.c.ek, ← f2];exact k2.symm
 ·rw [(ack_l u k).1]
  exact h.c.el
 ·rw [(ack_l u k).2.1]
  exact h.c.eE
 ·rw [(ack_l u k).2.2.2]
  exact h.c.eM
theorem cv_done (h : CvI W0 B id x bs br T u p W) : Calls Tryz.prog 18 #[.pointer (some ⟨bs, 0, none⟩)] W fun e w' => e = .returned (.bool (u.k == u.R.length)) ∧ Below W.heap.size W w' := by
 have hbs := h.bs
 subst hbs
 have h1 := h.ln.doneP
 rw [h.c.ek, (lnc_len h.c).1] at h1;exact h1
theorem cv_ord (h : CvI W0 B id x bs br T u p W) (hl : u.l.length ≤ 1000) : Calls Tryz.prog 17 #[.pointer (some ⟨br, 0, none⟩)] W fun e w' => ∃ (ob : Option Addr) (cap : Nat) (l' : List GP), e = .returned (.slice ob u.l.length cap) ∧ l'.length = u.l.length ∧ RdG w' ob l' ∧ l'.map GP.c = u.l ∧ Below W.heap.size W w' := by
 have hbr := h.br
 subst hbr
 have h1 := h.ln.ordP (by rw [(lnc_len h.c).2.1]; exact hl)
 rw [(lnc_len h.c).2.1, h.c.el] at h1;exact h1
end
end Go.Proofs.YtjkiidhnmljmbaaGreatDoor
