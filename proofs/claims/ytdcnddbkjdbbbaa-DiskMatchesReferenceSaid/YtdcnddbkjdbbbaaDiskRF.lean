/-
  The disk and the reference disk side by side: what every call keeps; the argument that is a list of steps.
-/
import Derived.WalkKit
import Derived.IntWalk
import Derived.Deep.RegionHeld
import Derived.Test.YtdcnddbkjdbbbaaDiskRE
set_option linter.unusedVariables false
set_option linter.unusedSimpArgs false
namespace Go.Proofs.Ytdcnddbkjdbbbaa
open Go.RowKit
theorem wpAnyH_swap {P : Program} {md : Region.Mode} {ops : Array Oper} {Q : Exit → Act → World → Prop} {S S' : World → Prop} (hs : ∀ w, S' w → S w) : ∀ (fuel : Nat) (listed : Array Bool) (a : Act) (w : World), wpAnyH P md ops Q S' fuel listed a w → wpAnyH P md ops Q S fuel listed a w
  | 0, _, _, _, h => h
  | fuel + 1, _, _, _, h => ⟨h.1, fun i hi => wpOp_mono (fun a' w' h' => ⟨hs _ h'.1, wpAnyH_swap hs fuel _ a' w' h'.2⟩) (h.2 i hi)⟩
/-- What every call keeps of the plain disk. -/
structure Inv (D : DS) (n i : Nat) : Prop where
  vis : D.vis = visL D.dur D.pend
  len : D.vis.length = n
  lend : D.dur.length = n
  fit : ∀ p ∈ D.pend, p.1 + p.2.size ≤ n
  pl : D.pend.length ≤ i
  cut : D.cut ≤ 9223372036854775807
theorem Inv.up {D : DS} {n i : Nat} (h : Inv D n i) : Inv D n (i + 1) := ⟨h.vis, h.len, h.lend, h.fit, Nat.le_succ_of_le h.pl, h.cut⟩
theorem Inv.wrote {D : DS} {n i : Nat} (h : Inv D n i) : Inv (wroteD D) n i := by
  have hc := h.cut
  unfold wroteD
  split
  · exact h
  · split
    · exact ⟨h.vis, h.len, h.lend, h.fit, h.pl, by show (0 : Nat) ≤ _; omega⟩
    · exact ⟨h.vis, h.len, h.lend, h.fit, h.pl, by show D.cut - 1 ≤ _; omega⟩
theorem Inv.write {D : DS} {n i : Nat} (h : Inv D n i) (off : Int) (s : ByteArray) : Inv (writeD D off s) n (i + 1) := by
  unfold writeD
  split
  · exact h.up
  · split
    · rename_i _ hi
      have hi2 := of_decide_eq_true hi
      rw [h.len] at hi2
      apply Inv.wrote
      refine ⟨?_, ?_, h.lend, ?_, ?_, h.cut⟩
      · show splice D.vis off.toNat s.data.toList = visL D.dur (D.pend ++ [(off.toNat, s)])
        rw [visL_snoc, ← h.vis]
      · show (splice D.vis off.toNat s.data.toList).length = n
        rw [splice_len _ _ _ (by rw [blen, h.len]; omega), h.len]
      · intro p hp
        rcases List.mem_append.1 hp with hp | hp
        · exact h.fit p hp
        · simp at hp
          subst hp
          show off.toNat + s.size ≤ n
          omega
      · show (D.pend ++ [(off.toNat, s)]).length ≤ i + 1
        have := h.pl
        simp
        exact this
    · exact h.up
theorem Inv.sync {D : DS} {n i : Nat} (h : Inv D n i) : Inv (syncD D) n (i + 1) := by
  unfold syncD
  split
  · exact h.up
  · exact ⟨rfl, h.len, h.len, fun p hp => (List.not_mem_nil hp).elim, Nat.zero_le _, h.cut⟩
theorem Inv.cutn {D : DS} {n i : Nat} (h : Inv D n i) (k : Int) (hk : k ≤ 9223372036854775807) : Inv (if D.lost then D else cutD D k) n (i + 1) := by
  split
  · exact h.up
  · unfold cutD
    split
    · exact h.up
    · split
      · exact ⟨h.vis, h.len, h.lend, h.fit, Nat.le_succ_of_le h.pl, by show (0 : Nat) ≤ _; omega⟩
      · exact ⟨h.vis, h.len, h.lend, h.fit, Nat.le_succ_of_le h.pl, by show k.toNat ≤ _; omega⟩
theorem Inv.crash {D : DS} {n i : Nat} (h : Inv D n i) (ks : Nat → Int) (len : Nat) (torn : Int) : Inv (crashD D ks len torn) n (i + 1) := by
  have hl : (crashL (survL ks D.pend.length len) (lastK ks D.pend.length len) torn D.pend D.dur D.pend.length).length = n := by
    rw [crashL_len _ _ _ _ _ (fun p hp => by rw [h.lend]; exact h.fit p hp) _ (Nat.le_refl _), h.lend]
  exact ⟨rfl, hl, hl, fun p hp => (List.not_mem_nil hp).elim, Nat.zero_le _, by show (0 : Nat) ≤ _; omega⟩
/-- The disk (as D1) and the reference disk (as D2) side by side, and a block beside both. -/
structure Two (W wr : World) (b bd bv : Nat) (vp : Value) (D1 : DS) (b' gs cs : Nat) (rest : List Value) (vl : Value) (D2 : DS) (kb : Nat) (tk : TypeId) (cc : List Value) : Prop where
  d : DkAt wr W.heap.size b bd bv vp D1
  r : RkAt wr W.heap.size b' gs cs rest vl D2
  sep : ∀ k, Foot b bd bv vp k → ¬ RFoot b' gs vl k
  bel : Below W.heap.size W wr
  box : Blk wr kb tk cc
  n1 : ¬ Foot b bd bv vp kb
  n2 : ¬ RFoot b' gs vl kb
theorem RkAt.ge {W : World} {B b gs cs : Nat} {rest : List Value} {vl : Value} {D : DS} (h : RkAt W B b gs cs rest vl D) : ∀ k, RFoot b gs vl k → B ≤ k := fun k hk => by
  rcases hk with rfl | rfl | hk
  · exact h.hb
  · exact h.hs
  · rcases h.own.2 with ⟨rfl, _⟩ | ⟨g, cap, cur, rfl, q, _⟩
    · simp [Value.ownBlock] at hk
    · simp [Value.ownBlock] at hk
      subst hk
      exact q
theorem Two.dk {W wr w' : World} {b bd bv : Nat} {vp vp' : Value} {D1 D1' : DS} {b' gs cs : Nat} {rest : List Value} {vl : Value} {D2 : DS} {kb : Nat} {tk : TypeId} {cc : List Value} (h : Two W wr b bd bv vp D1 b' gs cs rest vl D2 kb tk cc)
    (hd : DkAt w' W.heap.size b bd bv vp' D1') (hk : ∀ k, vp'.ownBlock = some k → vp.ownBlock = some k ∨ wr.heap.size ≤ k) (hf : Fr (Foot b bd bv vp) wr w') : Two W w' b bd bv vp' D1' b' gs cs rest vl D2 kb tk cc := by
  have hm := Foot.mono (b := b) (bd := bd) (bv := bv) hk
  exact ⟨hd, h.r.fr hf (fun k hk hs => h.sep k hs hk), fun k hk hs => h.sep k (hm k (h.r.lt k hs) hk) hs, h.bel.trans (hf.below _ h.bel.size h.d.ge), h.box.kept (hf.block kb h.box.lt h.n1), fun hs => h.n1 (hm kb h.box.lt hs), h.n2⟩
theorem Two.rk {W wr w' : World} {b bd bv : Nat} {vp : Value} {D1 : DS} {b' gs cs : Nat} {rest : List Value} {vl : Value} {D2 D2' : DS} {kb : Nat} {tk : TypeId} {cc : List Value} (h : Two W wr b bd bv vp D1 b' gs cs rest vl D2 kb tk cc)
    (hs : RkStep wr w' W.heap.size b' gs vl D2') : ∃ gs' cs' rest' vl', Two W w' b bd bv vp D1 b' gs' cs' rest' vl' D2' kb tk cc := by
  obtain ⟨gs', cs', rest', vl', hr, hk, hf⟩ := hs
  have hm : ∀ k, k < wr.heap.size → RFoot b' gs' vl' k → RFoot b' gs vl k := fun k h1 h2 => by
    rcases hk k h2 with h3 | h3
    · exact h3
    · omega
  exact ⟨gs', cs', rest', vl', h.d.fr hf (fun k hk => h.sep k hk), hr, fun k hk hs => h.sep k hk (hm k (h.d.lt k hk) hs), h.bel.trans (hf.below _ h.bel.size h.r.ge), h.box.kept (hf.block kb h.box.lt h.n2), h.n1, fun hs => h.n2 (hm kb h.box.lt hs)⟩
theorem Two.below {W wr w' : World} {b bd bv : Nat} {vp : Value} {D1 : DS} {b' gs cs : Nat} {rest : List Value} {vl : Value} {D2 : DS} {kb : Nat} {tk : TypeId} {cc : List Value} (h : Two W wr b bd bv vp D1 b' gs cs rest vl D2 kb tk cc)
    (hb : Below wr.heap.size wr w') : Two W w' b bd bv vp D1 b' gs cs rest vl D2 kb tk cc :=
  ⟨h.d.fr (Fr.of_below hb) (fun k hk hs => by have := h.d.lt k hk; omega), h.r.below hb, h.sep, h.bel.trans (hb.mono h.bel.size), h.box.kept (hb.block kb h.box.lt), h.n1, h.n2⟩
theorem Two.drew {W wr : World} {b bd bv : Nat} {vp : Value} {D1 : DS} {b' gs cs : Nat} {rest : List Value} {vl : Value} {D2 : DS} {kb : Nat} {tk : TypeId} {cc : List Value} (h : Two W wr b bd bv vp D1 b' gs cs rest vl D2 kb tk cc) : Two W wr.drew b bd bv vp D1 b' gs cs rest vl D2 kb tk cc :=
  h.below (drew_below'' wr _)
/-- Both disks as D. -/
structure Pr (W wr : World) (b bd bv : Nat) (vp : Value) (b' gs cs : Nat) (rest : List Value) (vl : Value) (D : DS) (n i : Nat) : Prop where
  d : DkAt wr W.heap.size b bd bv vp D
  r : RkAt wr W.heap.size b' gs cs rest vl D
  sep : ∀ k, Foot b bd bv vp k → ¬ RFoot b' gs vl k
  bel : Below W.heap.size W wr
  inv : Inv D n i
theorem Pr.two {W wr : World} {b bd bv : Nat} {vp : Value} {b' gs cs : Nat} {rest : List Value} {vl : Value} {D : DS} {n i : Nat} (h : Pr W wr b bd bv vp b' gs cs rest vl D n i) (t : TypeId) (cc : List Value) :
    Two W (wr.alloc (.cells cc.toArray t)) b bd bv vp D b' gs cs rest vl D wr.heap.size t cc := by
  have hb : Below wr.heap.size wr (wr.alloc (.cells cc.toArray t)) := (Below.refl _ wr).alloc (Nat.le_refl _) _
  exact ⟨h.d.fr (Fr.of_below hb) (fun k hk hs => by have := h.d.lt k hk; omega), h.r.below hb, h.sep, h.bel.trans (hb.mono h.bel.size), Blk.new wr t cc, fun hk => by have := h.d.lt _ hk; omega, fun hk => by have := h.r.lt _ hk; omega⟩
theorem Two.pr {W wr : World} {b bd bv : Nat} {vp : Value} {D : DS} {b' gs cs : Nat} {rest : List Value} {vl : Value} {kb : Nat} {tk : TypeId} {cc : List Value} {n i : Nat} (h : Two W wr b bd bv vp D b' gs cs rest vl D kb tk cc) (hi : Inv D n i) : Pr W wr b bd bv vp b' gs cs rest vl D n i := ⟨h.d, h.r, h.sep, h.bel, hi⟩
theorem Pr.below {W wr w' : World} {b bd bv : Nat} {vp : Value} {b' gs cs : Nat} {rest : List Value} {vl : Value} {D : DS} {n i : Nat} (h : Pr W wr b bd bv vp b' gs cs rest vl D n i) (hb : Below wr.heap.size wr w') : Pr W w' b bd bv vp b' gs cs rest vl D n i :=
  ⟨h.d.fr (Fr.of_below hb) (fun k hk hs => by have := h.d.lt k hk; omega), h.r.below hb, h.sep, h.bel.trans (hb.mono h.bel.size), h.inv⟩
/-- One step. -/
structure SP where
  call : Int
  off : Int
  n : Int
  s : ByteArray
  ko : Option Addr
  kl : Nat
  kc : Nat
  ks : Nat → Int
structure SP.Ok (W : World) (y : SP) : Prop where
  call0 : -9223372036854775808 ≤ y.call
  call1 : y.call ≤ 9223372036854775807
  off0 : -9223372036854775808 ≤ y.off
  off1 : y.off ≤ 9223372036854775807
  n0 : -9223372036854775808 ≤ y.n
  n1 : y.n ≤ 9223372036854775807
  s1 : y.s.size ≤ maxLen
  lc : y.kl ≤ y.kc
  cm : y.kc ≤ maxLen
  kb : ∀ i, -9223372036854775808 ≤ y.ks i ∧ y.ks i ≤ 9223372036854775807
  ka : IntsAt W y.ko y.kl y.ks (fun _ => False)
/-- The list of steps that came in. -/
def StAt (W : World) (oa : Option Addr) (len : Nat) (F : Nat → SP) : Prop :=
  len = 0 ∨ ∃ g off, oa = some ⟨g, off, none⟩ ∧ g < W.heap.size ∧ ∀ i, i < len → W.cell? ⟨g, off + i * 5, none⟩ = some (.int .i64 (F i).call) ∧ W.cell? ⟨g, off + i * 5 + 1, none⟩ = some (.int .i64 (F i).off) ∧ W.cell? ⟨g, off + i * 5 + 2, none⟩ = some (.int .i64 (F i).n) ∧ W.cell? ⟨g, off + i * 5 + 3, none⟩ = some (.string (F i).s) ∧ W.cell? ⟨g, off + i * 5 + 4, none⟩ = some (.slice (F i).ko (F i).kl (F i).kc)
section
open Go.ChangeShapes Go.WideShapes Go.Deep
theorem open_ints_raw {H : Type} {enc : TypeId × Value → H} {P : Program} {W : World} {t e : TypeId} {fuel : Nat} {v : Value} {x : DataW H × List MemPlace} (ht : P.underlying t = some (.slice e)) (he : P.underlying e = some (.int .i64)) (hc : P.cellsOf e = 1)
    (hf : DataW.trod enc P W 0 (fun _ => true) true fuel t [v] = some x) :
    ∃ (oa : Option Addr) (len cap : Nat) (zs : Nat → Int), v = .slice oa len cap ∧ len ≤ cap ∧ cap ≤ maxLen ∧ (∀ i, -9223372036854775808 ≤ zs i ∧ zs i ≤ 9223372036854775807) ∧ IntsAt W oa len zs (fun _ => False) := by
  rcases open_ints ht he hc hf with ⟨hcs, hx⟩ | ⟨a, len, cap, zs, hcs, _, hl, hm, hz, hx, hcell, hwz⟩
  · simp at hcs
    exact ⟨none, 0, 0, fun _ => 0, hcs, Nat.le_refl _, Nat.zero_le _, fun _ => ⟨by show (-9223372036854775808 : Int) ≤ 0; decide, by show (0 : Int) ≤ 9223372036854775807; decide⟩, .inl rfl⟩
  · simp at hcs
    simp at hz
    refine ⟨some a, len, cap, fun i => zs.getD i 0, hcs, hl, hm, fun i => ?_, ?_⟩
    · show -9223372036854775808 ≤ zs.getD i 0 ∧ zs.getD i 0 ≤ 9223372036854775807
      by_cases hi : i < zs.length
      · rw [List.getD_eq_getElem?_getD, List.getElem?_eq_getElem hi]; exact bounds_i64 (hwz _ (List.getElem_mem hi))
      · rw [List.getD_eq_getElem?_getD, List.getElem?_eq_none (by omega)]; exact ⟨by show (-9223372036854775808 : Int) ≤ 0; decide, by show (0 : Int) ≤ 9223372036854775807; decide⟩
    · by_cases hp : 0 < zs.length
      · obtain ⟨b, off, rfl, hc'⟩ := ints_at hcell hp
        exact .inr ⟨b, off, rfl, block_lt (hc' 0 hp), fun h => h, fun i hi => hc' i (by omega)⟩
      · exact .inl (by omega)
theorem open_steps {H : Type} {enc : TypeId × Value → H} {W : World} {base : Nat} {v : Value} {d : DataW H} {ps : List MemPlace}
    (hv : Value.okWide Try.prog W .any base 32 v) (h : DataW.Trod enc Try.prog W 0 (fun _ => true) true 32 v d ps) :
    ∃ (oa : Option Addr) (len cap : Nat) (F : Nat → SP), v = .slice oa len cap ∧ len ≤ cap ∧ cap ≤ maxLen ∧ (∀ i, (F i).Ok W) ∧ StAt W oa len F := by
  obtain ⟨a0, len, cap, rfl⟩ := okWide_slice Try.underlying32 hv
  obtain ⟨fuel, hf⟩ := h
  have z0 : SP.Ok W ⟨0, 0, 0, ByteArray.empty, none, 0, 0, fun _ => 0⟩ := ⟨by decide, by decide, by decide, by decide, by decide, by decide, Nat.zero_le _, Nat.le_refl _, Nat.zero_le _, fun _ => ⟨by show (-9223372036854775808 : Int) ≤ 0; decide, by show (0 : Int) ≤ 9223372036854775807; decide⟩, .inl rfl⟩
  rcases open_slice_fields Try.underlying32 Try.underlying39 (by kernel_rfl) (by kernel_rfl) hf with ⟨hcs, _⟩ | ⟨a, len', cap', m, hcs, hl, hm, hmm, hi⟩
  · simp [Value.cells] at hcs
    obtain ⟨rfl, rfl, rfl⟩ := hcs
    exact ⟨none, 0, 0, fun _ => _, rfl, Nat.le_refl _, Nat.zero_le _, fun _ => z0, .inl rfl⟩
  · simp [Value.cells] at hcs
    obtain ⟨rfl, rfl, rfl⟩ := hcs
    simp at hmm
    subst hmm
    have key : ∀ i, i < m → ∃ y : SP, y.Ok W ∧ W.cell? (a.add (i * 5)) = some (.int .i64 y.call) ∧ W.cell? (a.add (i * 5 + 1)) = some (.int .i64 y.off) ∧ W.cell? (a.add (i * 5 + 2)) = some (.int .i64 y.n) ∧ W.cell? (a.add (i * 5 + 3)) = some (.string y.s) ∧ W.cell? (a.add (i * 5 + 4)) = some (.slice y.ko y.kl y.kc) := by
      intro i hi'
      obtain ⟨n, hj⟩ := hi i hi'
      obtain ⟨v0, y0, c0, t0⟩ := hj 0 _ rfl
      obtain ⟨v1, y1, c1, t1⟩ := hj 1 _ rfl
      obtain ⟨v2, y2, c2, t2⟩ := hj 2 _ rfl
      obtain ⟨v3, y3, c3, t3⟩ := hj 3 _ rfl
      obtain ⟨v4, y4, c4, t4⟩ := hj 4 _ rfl
      obtain ⟨o0, e0, _, w0⟩ := DataW.trod_int Try.underlying3 t0
      obtain ⟨o1, e1, _, w1⟩ := DataW.trod_int Try.underlying3 t1
      obtain ⟨o2, e2, _, w2⟩ := DataW.trod_int Try.underlying3 t2
      obtain ⟨s, e3, _, w3⟩ := DataW.trod_string Try.underlying9 t3
      obtain ⟨ko, kl, kc, ks, e4, k1, k2, k3, k4⟩ := open_ints_raw Try.underlying37 Try.underlying3 (by kernel_rfl) t4
      simp at e0 e1 e2 e3
      subst e0 e1 e2 e3 e4
      exact ⟨⟨o0, o1, o2, s, ko, kl, kc, ks⟩, ⟨(bounds_i64 w0).1, (bounds_i64 w0).2, (bounds_i64 w1).1, (bounds_i64 w1).2, (bounds_i64 w2).1, (bounds_i64 w2).2, w3, k1, k2, k3, k4⟩, c0, c1, c2, c3, c4⟩
    have key2 : ∀ i : Nat, ∃ y : SP, y.Ok W ∧ (i < m → W.cell? (a.add (i * 5)) = some (.int .i64 y.call) ∧ W.cell? (a.add (i * 5 + 1)) = some (.int .i64 y.off) ∧ W.cell? (a.add (i * 5 + 2)) = some (.int .i64 y.n) ∧ W.cell? (a.add (i * 5 + 3)) = some (.string y.s) ∧ W.cell? (a.add (i * 5 + 4)) = some (.slice y.ko y.kl y.kc)) := by
      intro i
      by_cases hi' : i < m
      · obtain ⟨y, h1, h2⟩ := key i hi'
        exact ⟨y, h1, fun _ => h2⟩
      · exact ⟨_, z0, fun h => absurd h hi'⟩
    obtain ⟨F, hF⟩ := Classical.axiomOfChoice key2
    refine ⟨some a, len, m, F, rfl, hl, hm, fun i => (hF i).1, ?_⟩
    by_cases hp : 0 < len
    · obtain ⟨b, off, spot⟩ := a
      have h0 := ((hF 0).2 (by omega)).1
      have hspot : spot = none := by simpa [Addr.add] using World.cell?_spot h0
      subst hspot
      refine .inr ⟨b, off, rfl, ?_, fun i hi => ?_⟩
      · exact block_lt (p := ⟨b, off + 0 * 5, none⟩) (by rw [Go.WideShapes.add_plain] at h0; exact h0)
      · have h3 := (hF i).2 (by omega)
        rw [Go.WideShapes.add_plain, Go.WideShapes.add_plain, Go.WideShapes.add_plain, Go.WideShapes.add_plain, Go.WideShapes.add_plain] at h3
        exact h3
    · exact .inl (by omega)
end
end Go.Proofs.Ytdcnddbkjdbbbaa
