/-
  A list of arrays of four integers, as a law's argument.
  The laws' world: a power cut, a crash; a disk and its reference one after the other.
  A list of calls of the world, as a law's argument.
-/
import Derived.Lib.SmallJoins
import Derived.Deep.Slices
import Derived.Deep.Fields
import Derived.ChangeSame
import Derived.OpenShut
import Derived.Test.YtfpcdlpfmlaakaaGreatDoorRaD
import Derived.Test.YtfpcdlpfmlaakaaGreatDoorWW
set_option linter.unusedVariables false
set_option linter.unusedSimpArgs false
namespace Go.Proofs.YtfpcdlpfmlaakaaGreatDoor
open Go.RowKit Go.ChangeShapes Go.WideShapes Go.Deep Go.Joins Onair
section
variable {H : Type} {enc : TypeId × Value → H} {P : Program} {w : World} {base : Nat} {spare : Nat → Bool} {held : Bool}
theorem open_slice_arr {t e ei : TypeId} {n : Nat} {fuel : Nat} {cs : List Value} {x : DataW H × List MemPlace} (ht : P.underlying t = some (.slice e)) (he : P.underlying e = some (.array n ei)) (hi : P.underlying ei = some (.int .i64))
    (hc : P.cellsOf ei = 1) (hC : P.cellsOf e = n) (h : DataW.trod enc P w base spare held fuel t cs = some x) :
    cs = [.slice none 0 0] ∨
    ∃ (a : Addr) (len cap : Nat), cs = [.slice (some a) len cap] ∧ len ≤ cap ∧ cap ≤ maxLen ∧
      ∀ i, i < len → ∀ j, j < n → ∃ z : Int, w.cell? (a.add (i * n + j)) = some (.int .i64 z) ∧ -9223372036854775808 ≤ z ∧ z ≤ 9223372036854775807 := by
  rcases open_slice ht h with h0 | ⟨a, len, cap, m, k, D, Pl, hcs, hb, hl, hm, hmm, hx, hi'⟩
  · exact .inl h0.1
  · refine .inr ⟨a, len, cap, hcs, hl, hm, fun i him j hj => ?_⟩
    obtain ⟨cs', hc', ht'⟩ := hi' i (by rw [hmm]; split <;> omega)
    obtain ⟨xs, q, _, _, hcl, hxl, hel⟩ := DataW.trod_array he ht'
    have h1 := hel j hj
    rw [hc, Nat.mul_one] at h1
    rw [hC] at hc' hcl
    obtain ⟨_, _, hat⟩ := World.cells?_some hc'
    have hjl : j < cs'.length := by omega
    have hone' : (cs'.drop j).take 1 = [cs'[j]] := by
      rw [List.drop_eq_getElem_cons hjl]
      rfl
    rw [hone'] at h1
    have hxj : xs[j]? = some (xs[j]'(by omega)) := List.getElem?_eq_getElem (by omega)
    obtain ⟨z, ez, _, wz⟩ := DataW.trod_int hi (h1.trans hxj)
    simp only [List.cons.injEq, and_true] at ez
    refine ⟨z, ?_, (bounds_i64 wz).1, (bounds_i64 wz).2⟩
    rw [← Go.Deep.add_add, hat j hj, List.getElem?_eq_getElem hjl, ez]
end
theorem quads_of {W : World} {a : Addr} {len : Nat} (h : ∀ i, i < len → ∀ j, j < 4 → ∃ z : Int, W.cell? (a.add (i * 4 + j)) = some (.int .i64 z) ∧ -9223372036854775808 ≤ z ∧ z ≤ 9223372036854775807) :
    ∃ l : List Qd, l.length = len ∧ (∀ q ∈ l, QdI q) ∧ RdQ W (some a) l := by
  have key : ∀ i j : Nat, ∃ z : Int, -9223372036854775808 ≤ z ∧ z ≤ 9223372036854775807 ∧ (i < len → j < 4 → W.cell? (a.add (i * 4 + j)) = some (.int .i64 z)) := by
    intro i j
    by_cases hi : i < len ∧ j < 4
    · obtain ⟨z, h1, h2, h3⟩ := h i hi.1 j hi.2
      exact ⟨z, h2, h3, fun _ _ => h1⟩
    · exact ⟨0, by decide, by decide, fun h1 h2 => absurd ⟨h1, h2⟩ hi⟩
  have key2 : ∀ i : Nat, ∃ f : Nat → Int, ∀ j, -9223372036854775808 ≤ f j ∧ f j ≤ 9223372036854775807 ∧ (i < len → j < 4 → W.cell? (a.add (i * 4 + j)) = some (.int .i64 (f j))) := fun i => by
    obtain ⟨f, hf⟩ := Classical.axiomOfChoice (key i)
    exact ⟨f, hf⟩
  obtain ⟨F, hF⟩ := Classical.axiomOfChoice key2
  refine ⟨(List.range len).map fun i => ⟨F i 0, F i 1, F i 2, F i 3⟩, by simp, ?_, ?_⟩
  · intro q hq
    obtain ⟨i, _, rfl⟩ := List.mem_map.1 hq
    exact ⟨(hF i 0).1, (hF i 0).2.1, (hF i 1).1, (hF i 1).2.1, (hF i 2).1, (hF i 2).2.1, (hF i 3).1, (hF i 3).2.1⟩
  · by_cases hp : 0 < len
    · obtain ⟨b, off, spot⟩ := a
      have h0 := (hF 0 0).2.2 hp (by decide)
      have hspot : spot = none := by simpa [Addr.add] using World.cell?_spot h0
      subst hspot
      refine .inr ⟨b, off, rfl, block_lt (p := ⟨b, off + (0 * 4 + 0), none⟩) (by rw [Go.WideShapes.add_plain] at h0; exact h0), fun i q hi => ?_⟩
      have hil : i < len := by
        have := (List.getElem?_eq_some_iff.1 hi).1
        simpa using this
      rw [List.getElem?_map, List.getElem?_range hil] at hi
      simp only [Option.map_some, Option.some.injEq] at hi
      subst hi
      have c0 := (hF i 0).2.2 hil (by decide)
      have c1 := (hF i 1).2.2 hil (by decide)
      have c2 := (hF i 2).2.2 hil (by decide)
      have c3 := (hF i 3).2.2 hil (by decide)
      rw [Go.WideShapes.add_plain] at c0 c1 c2 c3
      exact ⟨c0, c1, c2, c3⟩
    · exact .inl (by rw [show len = 0 by omega]; rfl)
end Go.Proofs.YtfpcdlpfmlaakaaGreatDoor
namespace Go.Proofs.YtfpcdlpfmlaakaaGreatDoor
open Go.RowKit Onair
theorem wpAnyH_weak {P : Program} {md : Region.Mode} {ops : Array Oper} {Q : Exit → Act → World → Prop} {S1 S2 : World → Prop} (h12 : ∀ w, S2 w → S1 w) : ∀ (fuel : Nat) (listed : Array Bool) (a : Act) (w : World), wpAnyH P md ops Q S2 fuel listed a w → wpAnyH P md ops Q S1 fuel listed a w
  | 0, _, _, _, h => h
  | fuel + 1, _, _, _, h => ⟨h.1, fun i hi => wpOp_mono (fun a' w' h' => ⟨h12 _ h'.1, wpAnyH_weak h12 fuel _ a' w' h'.2⟩) (h.2 i hi)⟩
theorem Blk.two {W : World} {q : Nat} {t : TypeId} {a b c d : Value} (h : Blk W q t [a, b, c, d]) : W.cell? ⟨q, 1, none⟩ = some b ∧ W.cell? ⟨q, 3, none⟩ = some d := ⟨h.cell 1, h.cell 3⟩
theorem Blk.dd {W : World} {q : Nat} {t : TypeId} {a b c d : Value} (h : Blk W q t [a, b, c, d]) : W.cell? ⟨q, 0, none⟩ = some a ∧ W.cell? ⟨q, 2, none⟩ = some c := ⟨h.cell 0, h.cell 2⟩
theorem SideP.after {Z : World → Value → (Nat → Prop) → Prop} {W W2 w' : World} {S : Nat → Prop} {x : Value} (h : SideP Z W2 S x w') (hb : Below W.heap.size W W2) : SideP Z W S x w' := by
  obtain ⟨S', h1, h2, h3⟩ := h
  exact ⟨S', h1, fun k hk => (h2 k hk).imp_right (fun h => Nat.le_trans hb.size h), (Fr.under S hb).trans h3 (fun _ _ h => h)⟩
/-- The reference's disk is still to follow ours. -/
def OMid (N q b r : Nat) (D D' : DS) (o : Option (List Rec × Bool)) (x y : Value) (T : Nat → Prop) (wx : World) : Prop := (∃ H, RDX wx N r H D ∧ (∀ k, H k → T k) ∧ ∀ w2, RDStep wx w2 N r H D' → Below N wx w2 ∧ ∃ S' T', WX w2 N q b r D' o x y S' T') ∧ Blk wx q 36 [.pointer (some ⟨b, 0, none⟩), x, .pointer (some ⟨r, 0, none⟩), y]
theorem OMid.below {N q b r : Nat} {D D' : DS} {o : Option (List Rec × Bool)} {x y : Value} {T : Nat → Prop} {W W2 : World} (h : OMid N q b r D D' o x y T W) (hN : N ≤ W.heap.size) (hb : Below W.heap.size W W2) : OMid N q b r D D' o x y T W2 := by
  obtain ⟨⟨H, h1, h0, h2⟩, h3⟩ := h
  refine ⟨⟨H, h1.below hb, h0, fun w2 ⟨F', q1, q2, q3⟩ => ?_⟩, h3.kept (hb.block _ h3.lt)⟩
  obtain ⟨u1, u2⟩ := h2 w2 ⟨F', q1, fun k hk => (q2 k hk).imp_right (fun h => Nat.le_trans hb.size h), (Fr.under H hb).trans q3 (fun _ _ h => h)⟩
  exact ⟨q3.below N (Nat.le_trans hN hb.size) h1.ge, u2⟩
theorem WX.disk2 {W : World} {N q b r : Nat} {D : DS} (D' : DS) {o : Option (List Rec × Bool)} {x y : Value} {S T : Nat → Prop} (h : WX W N q b r D o x y S T) :
    ∃ F, DX W N b F D ∧ ∀ w1, DXStep W w1 N b F D' → Below N W w1 ∧ Fr S W w1 ∧ OMid N q b r D D' o x y T w1 := by
  obtain ⟨F, d1, d2, d3⟩ := h.a.step
  refine ⟨F, d1, fun w1 hs => ?_⟩
  obtain ⟨S', a1, a2, a3⟩ := d3 w1 D' hs
  obtain ⟨t1, t2, t3, t4⟩ := h.two ⟨S', a1, a2, a3⟩
  obtain ⟨H, e1, e2, e3⟩ := t1.step
  refine ⟨t3, a3, ⟨H, e1, e2, fun w2 hs2 => ?_⟩, t2⟩
  obtain ⟨T', c1, c2, c3⟩ := e3 w2 D' hs2
  obtain ⟨u1, u2, S2, T2, u3, u4⟩ := t4 y w2 ⟨T', c1, c2, c3⟩
  exact ⟨u1, S2, T2, u4 rfl rfl⟩
theorem cut_d (W : World) (N b : Nat) (F : Nat → Prop) (D : DS) (n : Int) (h : DX W N b F D) :
    Calls Tryz.prog 62 #[.pointer (some ⟨b, 0, none⟩), .int .i64 n] W fun e w' => e = .returned (.int .i64 (cutE D n)) ∧ DXStep W w' N b F (if D.lost then D else cutD D n) := by
  obtain ⟨h0, bd, bv, vp, h1, h2⟩ := h
  refine (cut_any W N b bd bv vp D n h1).mono ?_
  rintro e w' ⟨q1, q2, q3⟩
  exact ⟨q1, F, ⟨Nat.le_trans h0 q3.size, bd, bv, vp, q2, h2⟩, fun k hk => .inl hk, q3.mono (fun k hk => (h2 k).2 (.inl hk))⟩
theorem refCut_x (W : World) (N b : Nat) (F : Nat → Prop) (D : DS) (n : Int) (h : RDX W N b F D) :
    Calls Tryz.prog 63 #[.pointer (some ⟨b, 0, none⟩), .int .i64 n] W fun e w' => e = .returned (.int .i64 (cutE D n)) ∧ RDStep W w' N b F (if D.lost then D else cutD D n) := by
  obtain ⟨h0, gs, cs, rest, vl, h1, h2⟩ := h
  refine (refCut_any W N b gs cs rest vl D n h1).mono ?_
  rintro e w' ⟨q1, q2, q3⟩
  exact ⟨q1, F, ⟨Nat.le_trans h0 q3.size, gs, cs, rest, vl, q2, h2⟩, fun k hk => .inl hk, q3.mono (fun k hk => (h2 k).2 (.inl hk))⟩
/-- A list of integers in memory below block N. -/
def IntsB (W : World) (N : Nat) (oa : Option Addr) (len : Nat) (ks : Nat → Int) : Prop := len = 0 ∨ ∃ g off, oa = some ⟨g, off, none⟩ ∧ g < N ∧ ∀ i, i < len → W.cell? ⟨g, off + i, none⟩ = some (.int .i64 (ks i))
theorem IntsB.below {W W' : World} {N : Nat} {oa : Option Addr} {len : Nat} {ks : Nat → Int} (h : IntsB W N oa len ks) (hb : Below N W W') : IntsB W' N oa len ks := by
  rcases h with h0 | ⟨g, off, e, hg, hc⟩
  · exact .inl h0
  · exact .inr ⟨g, off, e, hg, fun i hi => (hb.cell hg).trans (hc i hi)⟩
theorem IntsB.at {W : World} {N : Nat} {oa : Option Addr} {len : Nat} {ks : Nat → Int} {S : Nat → Prop} (h : IntsB W N oa len ks) (hN : N ≤ W.heap.size) (hS : ∀ k, S k → N ≤ k) : IntsAt W oa len ks S := by
  rcases h with h0 | ⟨g, off, e, hg, hc⟩
  · exact .inl h0
  · exact .inr ⟨g, off, e, by omega, fun h => by have := hS g h; omega, hc⟩
theorem IntsB.less {W : World} {N : Nat} {oa : Option Addr} {len m : Nat} {ks : Nat → Int} (h : IntsB W N oa len ks) (hm : m ≤ len) : IntsB W N oa m ks := by
  rcases h with h0 | ⟨g, off, e, hg, hc⟩
  · exact .inl (by omega)
  · exact .inr ⟨g, off, e, hg, fun i hi => hc i (by omega)⟩
theorem crash_d (W : World) (N b : Nat) (F : Nat → Prop) (D : DS) (n i : Nat) (oa : Option Addr) (len cap : Nat) (ks : Nat → Int) (torn : Int) (hlc : len ≤ maxLen) (hks : ∀ i, -9223372036854775808 ≤ ks i ∧ ks i ≤ 9223372036854775807) (ht0 : -9223372036854775808 ≤ torn) (ht1 : torn ≤ 9223372036854775807) (hi : Inv D n i) (hib : i ≤ 1000000) (hn : n ≤ 4194304) (hk : IntsB W N oa len ks) (h : DX W N b F D) :
    Calls Tryz.prog 64 #[.pointer (some ⟨b, 0, none⟩), .slice oa len cap, .int .i64 torn] W fun e w' => e = .returned (.int .i64 0) ∧ DXStep W w' N b F (crashD D ks len torn) := by
  obtain ⟨h0, bd, bv, vp, h1, h2⟩ := h
  refine (crash_walk W N b bd bv vp D oa len cap ks torn h0 hlc (Nat.le_trans hi.pl hib) (fun p hp => by rw [hi.len]; exact hi.fit p hp) hks ht0 ht1 (fun p hp => by have := hi.fit p hp; unfold maxLen; omega) (hk.at h0 h1.ge) h1).mono ?_
  rintro e w' ⟨q1, vp', q2, q3, q4⟩
  refine ⟨q1, F, ⟨Nat.le_trans h0 q4.size, bd, bv, vp', q2, fun k => (h2 k).trans ?_⟩, fun k hk => .inl hk, q4.mono (fun k hk => (h2 k).2 hk)⟩
  unfold Foot
  rw [q3]
theorem refCrash_x (W : World) (N b : Nat) (F : Nat → Prop) (D : DS) (n i : Nat) (oa : Option Addr) (len cap : Nat) (ks : Nat → Int) (torn : Int) (hlc : len ≤ maxLen) (ht0 : -9223372036854775808 ≤ torn) (ht1 : torn ≤ 9223372036854775807) (hi : Inv D n i) (hib : i ≤ 1000000) (hk : IntsB W N oa len ks) (h : RDX W N b F D) :
    Calls Tryz.prog 65 #[.pointer (some ⟨b, 0, none⟩), .slice oa len cap, .int .i64 torn] W fun e w' => (∃ v, e = .returned v) ∧ RDStep W w' N b F (crashD D ks len torn) := by
  obtain ⟨h0, gs, cs, rest, vl, h1, h2⟩ := h
  refine (refCrash_any W N b gs cs rest vl D oa len cap ks torn h0 hlc (Nat.le_trans hi.pl hib) (fun p hp => by rw [hi.lend]; exact hi.fit p hp) ht0 ht1 (hk.at h0 (fun _ h => h.elim)) h1).mono ?_
  rintro e w' ⟨he, hs⟩
  exact ⟨he, RDX.step h0 h2 hs⟩
theorem cutA {W : World} {N q b r : Nat} {D : DS} {o : Option (List Rec × Bool)} {x y : Value} {S T : Nat → Prop} (h : WX W N q b r D o x y S T) (n : Int) :
    Calls Tryz.prog 62 #[.pointer (some ⟨b, 0, none⟩), .int .i64 n] W fun e w' => e = .returned (.int .i64 (cutE D n)) ∧ Below N W w' ∧ Fr S W w' ∧ OMid N q b r D (if D.lost then D else cutD D n) o x y T w' := by
  obtain ⟨F, d1, d2⟩ := h.disk2 (if D.lost then D else cutD D n)
  refine (cut_d W N b F D n d1).mono ?_
  rintro e w' ⟨he, hst⟩
  exact ⟨he, d2 w' hst⟩
theorem cutC {W : World} {N q b r : Nat} {D : DS} {o : Option (List Rec × Bool)} {x y : Value} {T : Nat → Prop} (n : Int) (h : OMid N q b r D (if D.lost then D else cutD D n) o x y T W) :
    Calls Tryz.prog 63 #[.pointer (some ⟨r, 0, none⟩), .int .i64 n] W fun e w' => e = .returned (.int .i64 (cutE D n)) ∧ Below N W w' ∧ Fr T W w' ∧ ∃ S' T', WX w' N q b r (if D.lost then D else cutD D n) o x y S' T' := by
  obtain ⟨⟨H, d1, d0, d2⟩, _⟩ := h
  refine (refCut_x W N r H D n d1).mono ?_
  rintro e w' ⟨he, hst⟩
  obtain ⟨u1, u2⟩ := d2 w' hst
  exact ⟨he, u1, hst.choose_spec.2.2.mono d0, u2⟩
theorem crashA {W : World} {N q b r : Nat} {D : DS} {o : Option (List Rec × Bool)} {x y : Value} {S T : Nat → Prop} {n i : Nat} (h : WX W N q b r D o x y S T) (oa : Option Addr) (len cap : Nat) (ks : Nat → Int) (torn : Int) (hlc : len ≤ maxLen) (hks : ∀ i, -9223372036854775808 ≤ ks i ∧ ks i ≤ 9223372036854775807) (ht0 : -9223372036854775808 ≤ torn) (ht1 : torn ≤ 9223372036854775807) (hi : Inv D n i) (hib : i ≤ 1000000) (hn : n ≤ 4194304) (hk : IntsB W N oa len ks) :
    Calls Tryz.prog 64 #[.pointer (some ⟨b, 0, none⟩), .slice oa len cap, .int .i64 torn] W fun e w' => e = .returned (.int .i64 0) ∧ Below N W w' ∧ Fr S W w' ∧ OMid N q b r D (crashD D ks len torn) o x y T w' := by
  obtain ⟨F, d1, d2⟩ := h.disk2 (crashD D ks len torn)
  refine (crash_d W N b F D n i oa len cap ks torn hlc hks ht0 ht1 hi hib hn hk d1).mono ?_
  rintro e w' ⟨he, hst⟩
  exact ⟨he, d2 w' hst⟩
theorem crashC {W : World} {N q b r : Nat} {D : DS} {o : Option (List Rec × Bool)} {x y : Value} {T : Nat → Prop} {n i : Nat} (oa : Option Addr) (len cap : Nat) (ks : Nat → Int) (torn : Int) (h : OMid N q b r D (crashD D ks len torn) o x y T W) (hlc : len ≤ maxLen) (ht0 : -9223372036854775808 ≤ torn) (ht1 : torn ≤ 9223372036854775807) (hi : Inv D n i) (hib : i ≤ 1000000) (hk : IntsB W N oa len ks) :
    Calls Tryz.prog 65 #[.pointer (some ⟨r, 0, none⟩), .slice oa len cap, .int .i64 torn] W fun e w' => (∃ v, e = .returned v) ∧ Below N W w' ∧ Fr T W w' ∧ ∃ S' T', WX w' N q b r (crashD D ks len torn) o x y S' T' := by
  obtain ⟨⟨H, d1, d0, d2⟩, _⟩ := h
  refine (refCrash_x W N r H D n i oa len cap ks torn hlc ht0 ht1 hi hib hk d1).mono ?_
  rintro e w' ⟨he, hst⟩
  obtain ⟨u1, u2⟩ := d2 w' hst
  exact ⟨he, u1, hst.choose_spec.2.2.mono d0, u2⟩
theorem OkO.cut {D : DS} {n : Nat} {o : Option (List Rec × Bool)} (h : OkO D n o) (k : Int) (hk : 1 ≤ k) : OkO (if D.lost then D else cutD D k) n o := by
  intro R br e
  obtain ⟨h1, h2, h3⟩ := h R br e
  refine ⟨h1, fun hb => ?_, h3⟩
  have := h2 hb
  rw [this]
  unfold cutD
  simp only [Bool.false_eq_true, if_false]
  rw [if_neg (by omega), if_neg (by omega)]
  exact this
theorem OkO.none {D : DS} {n : Nat} : OkO D n none := fun _ _ e => nomatch e
theorem pending_d (W : World) (N b : Nat) (F : Nat → Prop) (D : DS) (h : DX W N b F D) :
    Calls Tryz.prog 23 #[.pointer (some ⟨b, 0, none⟩)] W fun e w' => e = .returned (.int .i64 (D.pend.length : Int)) ∧ W = w' := by
  obtain ⟨h0, bd, bv, vp, h1, h2⟩ := h
  exact pending_any W N b bd bv vp D h1
/-- A call of the law: its fields. -/
structure Opr where
  kind : Int
  oL : Option Addr
  cL : Nat
  l : List Qd
  n : Int
  oK : Option Addr
  nK : Nat
  cK : Nat
  ks : Nat → Int
  oR : Option Addr
  cR : Nat
  raw : List Rec
structure OprI (p : Opr) : Prop where
  k0 : -9223372036854775808 ≤ p.kind
  k1 : p.kind ≤ 9223372036854775807
  n0 : -9223372036854775808 ≤ p.n
  n1 : p.n ≤ 9223372036854775807
  lc : p.l.length ≤ p.cL
  lm : p.cL ≤ maxLen
  li : ∀ q ∈ p.l, QdI q
  kc : p.nK ≤ p.cK
  km : p.cK ≤ maxLen
  ki : ∀ i, -9223372036854775808 ≤ p.ks i ∧ p.ks i ≤ 9223372036854775807
  rc : p.raw.length ≤ p.cR
  rm : p.cR ≤ maxLen
  ri : ∀ r ∈ p.raw, RecI r
structure RdOp (W : World) (N : Nat) (p : Opr) : Prop where
  l : ∀ W', Below N W W' → RdQ W' p.oL p.l
  k : IntsB W N p.oK p.nK p.ks
  r : ∀ W', Below N W W' → RdR W' p.oR p.raw
  rl : ∀ b o, p.oR = some ⟨b, o, none⟩ → p.raw ≠ [] → b < N
theorem RdOp.up {W W' : World} {N : Nat} {p : Opr} (h : RdOp W N p) (hb : Below N W W') : RdOp W' N p := ⟨fun W2 h2 => h.l W2 (hb.trans h2), h.k.below hb, fun W2 h2 => h.r W2 (hb.trans h2), h.rl⟩
def opA (p : Opr) : Array Value := #[.int .i64 p.kind, .slice p.oL p.l.length p.cL, .int .i64 p.n, .slice p.oK p.nK p.cK, .slice p.oR p.raw.length p.cR]
def OpAt (W : World) (b o : Nat) (p : Opr) : Prop := W.cell? ⟨b, o, none⟩ = some (.int .i64 p.kind) ∧ W.cell? ⟨b, o + 1, none⟩ = some (.slice p.oL p.l.length p.cL) ∧ W.cell? ⟨b, o + 2, none⟩ = some (.int .i64 p.n) ∧ W.cell? ⟨b, o + 3, none⟩ = some (.slice p.oK p.nK p.cK) ∧ W.cell? ⟨b, o + 4, none⟩ = some (.slice p.oR p.raw.length p.cR)
theorem OpAt.up {W W' : World} {N b o : Nat} {p : Opr} (h : OpAt W b o p) (hb : Below N W W') (hN : b < N) : OpAt W' b o p :=
  ⟨(hb.cell hN).trans h.1, (hb.cell hN).trans h.2.1, (hb.cell hN).trans h.2.2.1, (hb.cell hN).trans h.2.2.2.1, (hb.cell hN).trans h.2.2.2.2⟩
theorem RdR.take {W : World} {oa : Option Addr} {l : List Rec} (h : RdR W oa l) (k : Nat) : RdR W oa (l.take k) := by
  rcases h with rfl | ⟨b, o, e, hlt, hc⟩
  · exact .inl (List.take_nil)
  · refine .inr ⟨b, o, e, hlt, fun j v hj => hc j v ?_⟩
    have e1 : rcells l = rcells (l.take k) ++ rcells (l.drop k) := by
      have := congrArg rcells (List.take_append_drop k l).symm
      rw [this]
      simp only [rcells, List.flatMap_append]
    rw [e1, List.getElem?_append_left (List.getElem?_eq_some_iff.1 hj).1]
    exact hj
/-- The law's list of calls. -/
def RdOps (W : World) (N : Nat) (oa : Option Addr) (l : List Opr) : Prop := ∀ i p, l[i]? = some p → ∃ b o, oa = some ⟨b, o, none⟩ ∧ b < N ∧ OpAt W b (o + i * 5) p ∧ RdOp W N p
end Go.Proofs.YtfpcdlpfmlaakaaGreatDoor
namespace Go.Proofs.YtfpcdlpfmlaakaaGreatDoor
open Go.RowKit Go.ChangeShapes Go.WideShapes Go.Deep Go.Joins Onair
theorem rcells_idx : ∀ (l : List Rec) (j : Nat) (v : Value), (rcells l)[j]? = some v → ∃ i r t, l[i]? = some r ∧ j = i * 6 + t ∧ (recA r).toList[t]? = some v
  | [], j, v, h => by simp [rcells] at h
  | r :: l, j, v, h => by
    have e : rcells (r :: l) = (recA r).toList ++ rcells l := by simp [rcells]
    rw [e] at h
    by_cases hj : j < 6
    · rw [List.getElem?_append_left (by show j < 6; exact hj)] at h
      exact ⟨0, r, j, rfl, by omega, h⟩
    · rw [List.getElem?_append_right (by show 6 ≤ j; omega)] at h
      obtain ⟨i, s, t, h1, h2, h3⟩ := rcells_idx l (j - 6) v h
      exact ⟨i + 1, s, t, by simpa using h1, by omega, h3⟩
section
variable {H : Type} {enc : TypeId × Value → H} {P : Program} {w : World} {base : Nat} {spare : Nat → Bool} {held : Bool}
theorem open_slice_cells {t e : TypeId} {fs : Array Field} {fuel : Nat} {cs : List Value} {x : DataW H × List MemPlace} (ht : P.underlying t = some (.slice e)) (he : P.underlying e = some (.struct fs))
    (hone : oneCellFields P fs = true) (hC : P.cellsOf e = fs.size) (h : DataW.trod enc P w base spare held fuel t cs = some x) :
    cs = [.slice none 0 0] ∨
    ∃ (a : Addr) (len cap : Nat), cs = [.slice (some a) len cap] ∧ len ≤ cap ∧ cap ≤ maxLen ∧
      ∀ i, i < len → ∃ (n : Nat), ∀ (j : Nat) (f : Field), fs[j]? = some f → ∃ (v : Value) (y : DataW H × List MemPlace), w.cell? (a.add (i * fs.size + j)) = some v ∧ DataW.trod enc P w base spare held n f.type [v] = some y := by
  rcases open_slice ht h with h0 | ⟨a, len, cap, m, n, D, Pl, hcs, hb, hl, hm, hmm, hx, hi⟩
  · exact .inl h0.1
  · refine .inr ⟨a, len, cap, hcs, hl, hm, fun i him => ?_⟩
    obtain ⟨cs', hc, ht'⟩ := hi i (by rw [hmm]; split <;> omega)
    rw [hC] at hc
    obtain ⟨ys, n', hn', hy, hlen, hyl, hf⟩ := DataW.trod_struct he ht'
    obtain ⟨_, hcl, hat⟩ := World.cells?_some hc
    refine ⟨n', fun j f hj => ?_⟩
    obtain ⟨ho, hk⟩ := hone_of hone j f hj
    have hjl : j < fs.size := (Array.getElem?_eq_some_iff.1 hj).1
    have hcell := hat j hjl
    have hv : cs'[j]? = some (cs'[j]'(by omega)) := List.getElem?_eq_getElem (by omega)
    have h1 := hf j f hj
    rw [ho, hk] at h1
    have hone' : (cs'.drop j).take 1 = [cs'[j]'(by omega)] := by
      rw [List.drop_eq_getElem_cons (by omega)]
      rfl
    rw [hone'] at h1
    have hys : ys[j]? = some (ys[j]'(by omega)) := List.getElem?_eq_getElem (by omega)
    refine ⟨_, _, ?_, h1.trans hys⟩
    rw [← Go.Deep.add_add, hcell, hv]
end
theorem recs_of {W : World} {a : Addr} {len : Nat} (h : ∀ i, i < len → ∃ r : Rec, RecI r ∧ W.cell? (a.add (i * 6 + 0)) = some (.int .i64 r.ch) ∧ W.cell? (a.add (i * 6 + 1)) = some (.int .i64 r.rg) ∧ W.cell? (a.add (i * 6 + 2)) = some (.int .i64 r.fr) ∧ W.cell? (a.add (i * 6 + 3)) = some (.int .i64 r.fs) ∧ W.cell? (a.add (i * 6 + 4)) = some (.int .i64 r.it) ∧ W.cell? (a.add (i * 6 + 5)) = some (.int .i64 r.ix)) :
    ∃ l : List Rec, l.length = len ∧ (∀ r ∈ l, RecI r) ∧ RdR W (some a) l := by
  have key2 : ∀ i : Nat, ∃ r : Rec, RecI r ∧ (i < len → W.cell? (a.add (i * 6 + 0)) = some (.int .i64 r.ch) ∧ W.cell? (a.add (i * 6 + 1)) = some (.int .i64 r.rg) ∧ W.cell? (a.add (i * 6 + 2)) = some (.int .i64 r.fr) ∧ W.cell? (a.add (i * 6 + 3)) = some (.int .i64 r.fs) ∧ W.cell? (a.add (i * 6 + 4)) = some (.int .i64 r.it) ∧ W.cell? (a.add (i * 6 + 5)) = some (.int .i64 r.ix)) := by
    intro i
    by_cases hi' : i < len
    · obtain ⟨r, h1, h2⟩ := h i hi'
      exact ⟨r, h1, fun _ => h2⟩
    · exact ⟨⟨0, 0, 0, 0, 0, 0⟩, by constructor <;> decide, fun h => absurd h hi'⟩
  obtain ⟨F, hF⟩ := Classical.axiomOfChoice key2
  refine ⟨(List.range len).map F, by simp, ?_, ?_⟩
  · intro c hc
    rw [List.mem_map] at hc
    obtain ⟨i, _, rfl⟩ := hc
    exact (hF i).1
  · by_cases hp : 0 < len
    · obtain ⟨b, off, spot⟩ := a
      have h0 := ((hF 0).2 hp).1
      have hspot : spot = none := by simpa [Addr.add] using World.cell?_spot h0
      subst hspot
      refine .inr ⟨b, off, rfl, block_lt (p := ⟨b, off + (0 * 6 + 0), none⟩) (by rw [Go.WideShapes.add_plain] at h0; exact h0), fun j u hj => ?_⟩
      obtain ⟨i, r, t, h1, rfl, h3⟩ := rcells_idx _ j u hj
      have hil : i < len := by
        have := (List.getElem?_eq_some_iff.1 h1).1
        simpa using this
      have e : F i = r := by
        rw [List.getElem?_map, List.getElem?_range hil] at h1
        simpa using h1
      obtain ⟨c0, c1, c2, c3, c4, c5⟩ := (hF i).2 hil
      rw [Go.WideShapes.add_plain, e] at c0 c1 c2 c3 c4 c5
      have ht : t < 6 := (List.getElem?_eq_some_iff.1 h3).1
      match t, ht, h3 with
      | 0, _, h3 => rw [c0]; exact h3
      | 1, _, h3 => rw [c1]; exact h3
      | 2, _, h3 => rw [c2]; exact h3
      | 3, _, h3 => rw [c3]; exact h3
      | 4, _, h3 => rw [c4]; exact h3
      | 5, _, h3 => rw [c5]; exact h3
    · exact .inl (by rw [show len = 0 by omega]; rfl)
theorem ints_of {W : World} {a : Addr} {len : Nat} (h : ∀ i, i < len → ∃ z : Int, W.cell? (a.add i) = some (.int .i64 z) ∧ -9223372036854775808 ≤ z ∧ z ≤ 9223372036854775807) :
    ∃ ks : Nat → Int, (∀ i, -9223372036854775808 ≤ ks i ∧ ks i ≤ 9223372036854775807) ∧ IntsB W W.heap.size (some a) len ks := by
  have key : ∀ i : Nat, ∃ z : Int, (-9223372036854775808 ≤ z ∧ z ≤ 9223372036854775807) ∧ (i < len → W.cell? (a.add i) = some (.int .i64 z)) := by
    intro i
    by_cases hi : i < len
    · obtain ⟨z, h1, h2⟩ := h i hi
      exact ⟨z, h2, fun _ => h1⟩
    · exact ⟨0, by decide, fun h => absurd h hi⟩
  obtain ⟨F, hF⟩ := Classical.axiomOfChoice key
  refine ⟨F, fun i => (hF i).1, ?_⟩
  by_cases hp : 0 < len
  · obtain ⟨b, off, spot⟩ := a
    have h0 := (hF 0).2 hp
    have hspot : spot = none := by simpa [Addr.add] using World.cell?_spot h0
    subst hspot
    refine .inr ⟨b, off, rfl, block_lt (p := ⟨b, off + 0, none⟩) (by rw [Go.WideShapes.add_plain] at h0; exact h0), fun i hi => ?_⟩
    have := (hF i).2 hi
    rw [Go.WideShapes.add_plain] at this
    exact this
  · exact .inl (by omega)
section
variable {H : Type} {enc : TypeId × Value → H} {W : World} {base : Nat}
set_option maxRecDepth 100000 in
theorem trod_quads {fuel : Nat} {v : Value} {x : DataW H × List MemPlace} (h : DataW.trod enc Tryz.prog W base (fun _ => true) true fuel 22 [v] = some x) :
    ∃ (oa : Option Addr) (cap : Nat) (l : List Qd), v = .slice oa l.length cap ∧ l.length ≤ cap ∧ cap ≤ maxLen ∧ (∀ q ∈ l, QdI q) ∧ RdQ W oa l := by
  rcases open_slice_arr Tryz.underlying22 Tryz.underlying108 Tryz.underlying3 (by kernel_rfl) (by kernel_rfl) h with hcs | ⟨a, len', cap', hcs, hl, hm, hi⟩
  · simp only [List.cons.injEq, and_true] at hcs
    exact ⟨none, 0, [], hcs, Nat.zero_le _, Nat.zero_le _, fun q hq => absurd hq (by simp), .inl rfl⟩
  · simp only [List.cons.injEq, and_true] at hcs
    obtain ⟨l, h1, h2, h3⟩ := quads_of hi
    exact ⟨some a, cap', l, by rw [h1]; exact hcs, by rw [h1]; exact hl, hm, h2, h3⟩
set_option maxRecDepth 100000 in
theorem trod_ints {fuel : Nat} {v : Value} {x : DataW H × List MemPlace} (h : DataW.trod enc Tryz.prog W base (fun _ => true) true fuel 53 [v] = some x) :
    ∃ (oa : Option Addr) (len cap : Nat) (ks : Nat → Int), v = .slice oa len cap ∧ len ≤ cap ∧ cap ≤ maxLen ∧ (∀ i, -9223372036854775808 ≤ ks i ∧ ks i ≤ 9223372036854775807) ∧ IntsB W W.heap.size oa len ks := by
  rcases open_slice1 Tryz.underlying53 (by kernel_rfl) h with ⟨hcs, _⟩ | ⟨a, len', cap', m, n, V, D, Pl, hcs, hb, hl, hm, hmm, hx, hi⟩
  · simp only [List.cons.injEq, and_true] at hcs
    exact ⟨none, 0, 0, fun _ => 0, hcs, Nat.zero_le _, Nat.zero_le _, fun _ => ⟨(by decide : (-9223372036854775808 : Int) ≤ 0), (by decide : (0 : Int) ≤ 9223372036854775807)⟩, .inl rfl⟩
  · simp only [List.cons.injEq, and_true] at hcs
    simp at hmm
    subst hmm
    obtain ⟨ks, h1, h2⟩ := ints_of (W := W) (a := a) (len := len') (fun i hi' => by
      obtain ⟨c1, t1⟩ := hi i (by omega)
      obtain ⟨z, ez, _, wz⟩ := DataW.trod_int Tryz.underlying3 t1
      simp only [List.cons.injEq, and_true] at ez
      exact ⟨z, by rw [c1, ez], bounds_i64 wz⟩)
    exact ⟨some a, len', m, ks, hcs, hl, hm, h1, h2⟩
set_option maxRecDepth 100000 in
theorem trod_recs {fuel : Nat} {v : Value} {x : DataW H × List MemPlace} (h : DataW.trod enc Tryz.prog W base (fun _ => true) true fuel 38 [v] = some x) :
    ∃ (oa : Option Addr) (cap : Nat) (l : List Rec), v = .slice oa l.length cap ∧ l.length ≤ cap ∧ cap ≤ maxLen ∧ (∀ r ∈ l, RecI r) ∧ RdR W oa l := by
  rcases open_slice_cells Tryz.underlying38 Tryz.underlying62 (by kernel_rfl) (by kernel_rfl) h with hcs | ⟨a, len', cap', hcs, hl, hm, hi⟩
  · simp only [List.cons.injEq, and_true] at hcs
    exact ⟨none, 0, [], hcs, Nat.zero_le _, Nat.zero_le _, fun c hc => absurd hc (by simp), .inl rfl⟩
  · simp only [List.cons.injEq, and_true] at hcs
    obtain ⟨l, h1, h2, h3⟩ := recs_of (W := W) (a := a) (len := len') (fun i hi' => by
      obtain ⟨n, hj⟩ := hi i hi'
      obtain ⟨v0, y0, c0, t0⟩ := hj 0 _ rfl
      obtain ⟨v1, y1, c1, t1⟩ := hj 1 _ rfl
      obtain ⟨v2, y2, c2, t2⟩ := hj 2 _ rfl
      obtain ⟨v3, y3, c3, t3⟩ := hj 3 _ rfl
      obtain ⟨v4, y4, c4, t4⟩ := hj 4 _ rfl
      obtain ⟨v5, y5, c5, t5⟩ := hj 5 _ rfl
      obtain ⟨i0, e0, _, w0⟩ := DataW.trod_int Tryz.underlying3 t0
      obtain ⟨i1, e1, _, w1⟩ := DataW.trod_int Tryz.underlying3 t1
      obtain ⟨i2, e2, _, w2⟩ := DataW.trod_int Tryz.underlying3 t2
      obtain ⟨i3, e3, _, w3⟩ := DataW.trod_int Tryz.underlying3 t3
      obtain ⟨i4, e4, _, w4⟩ := DataW.trod_int Tryz.underlying3 t4
      obtain ⟨i5, e5, _, w5⟩ := DataW.trod_int Tryz.underlying3 t5
      simp at e0 e1 e2 e3 e4 e5
      subst e0 e1 e2 e3 e4 e5
      exact ⟨⟨i0, i1, i2, i3, i4, i5⟩, ⟨(bounds_i64 w0).1, (bounds_i64 w0).2, (bounds_i64 w1).1, (bounds_i64 w1).2, (bounds_i64 w2).1, (bounds_i64 w2).2, (bounds_i64 w3).1, (bounds_i64 w3).2, (bounds_i64 w4).1, (bounds_i64 w4).2, (bounds_i64 w5).1, (bounds_i64 w5).2⟩, c0, c1, c2, c3, c4, c5⟩)
    exact ⟨some a, cap', l, by rw [h1]; exact hcs, by rw [h1]; exact hl, hm, h2, h3⟩
end
set_option maxHeartbeats 1000000 in
set_option maxRecDepth 100000 in
theorem open_ops {H : Type} {enc : TypeId × Value → H} {W : World} {base : Nat} {v : Value} {d : DataW H} {ps : List MemPlace}
    (hv : Value.okWide Tryz.prog W .any base 51 v) (h : DataW.Trod enc Tryz.prog W 0 (fun _ => true) true 51 v d ps) :
    ∃ (oa : Option Addr) (cap : Nat) (l : List Opr), v = .slice oa l.length cap ∧ l.length ≤ cap ∧ cap ≤ maxLen ∧ (∀ p ∈ l, OprI p) ∧ RdOps W W.heap.size oa l := by
  obtain ⟨a0, len, cap, rfl⟩ := okWide_slice Tryz.underlying51 hv
  obtain ⟨fuel, hf⟩ := h
  rcases open_slice_cells Tryz.underlying51 Tryz.underlying55 (by kernel_rfl) (by kernel_rfl) hf with hcs | ⟨a, len', cap', hcs, hl, hm, hi⟩
  · simp [Value.cells] at hcs
    obtain ⟨rfl, rfl, rfl⟩ := hcs
    exact ⟨none, 0, [], rfl, Nat.zero_le _, Nat.zero_le _, fun c hc => absurd hc (by simp), fun i p hi => by simp at hi⟩
  · simp [Value.cells] at hcs
    obtain ⟨rfl, rfl, rfl⟩ := hcs
    have key2 : ∀ i : Nat, ∃ p : Opr, OprI p ∧ (i < len → (W.cell? (a.add (i * 5 + 0)) = some (.int .i64 p.kind) ∧ W.cell? (a.add (i * 5 + 1)) = some (.slice p.oL p.l.length p.cL) ∧ W.cell? (a.add (i * 5 + 2)) = some (.int .i64 p.n) ∧ W.cell? (a.add (i * 5 + 3)) = some (.slice p.oK p.nK p.cK) ∧ W.cell? (a.add (i * 5 + 4)) = some (.slice p.oR p.raw.length p.cR)) ∧ RdOp W W.heap.size p) := by
      intro i
      by_cases hi' : i < len
      · obtain ⟨n, hj⟩ := hi i hi'
        obtain ⟨v0, y0, c0, t0⟩ := hj 0 _ rfl
        obtain ⟨v1, y1, c1, t1⟩ := hj 1 _ rfl
        obtain ⟨v2, y2, c2, t2⟩ := hj 2 _ rfl
        obtain ⟨v3, y3, c3, t3⟩ := hj 3 _ rfl
        obtain ⟨v4, y4, c4, t4⟩ := hj 4 _ rfl
        obtain ⟨i0, e0, _, w0⟩ := DataW.trod_int Tryz.underlying3 t0
        obtain ⟨oL, cL, l, rfl, l1, l2, l3, l4⟩ := trod_quads t1
        obtain ⟨i2, e2, _, w2⟩ := DataW.trod_int Tryz.underlying3 t2
        obtain ⟨oK, nK, cK, ks, rfl, k1, k2, k3, k4⟩ := trod_ints t3
        obtain ⟨oR, cR, raw, rfl, r1, r2, r3, r4⟩ := trod_recs t4
        simp at e0 e2
        subst e0 e2
        refine ⟨⟨i0, oL, cL, l, i2, oK, nK, cK, ks, oR, cR, raw⟩, ⟨(bounds_i64 w0).1, (bounds_i64 w0).2, (bounds_i64 w2).1, (bounds_i64 w2).2, l1, l2, l3, k1, k2, k3, r1, r2, r3⟩, fun _ => ⟨⟨c0, c1, c2, c3, c4⟩, fun W2 h2 => l4.below h2, k4, fun W2 h2 => r4.kept h2, fun b o e hne => ?_⟩⟩
        rcases r4 with h0 | ⟨b', o', e', hlt, _⟩
        · exact absurd h0 hne
        · dsimp only at e
          rw [e'] at e
          cases e
          exact hlt
      · refine ⟨⟨0, none, 0, [], 0, none, 0, 0, fun _ => 0, none, 0, []⟩, ⟨by decide, by decide, by decide, by decide, Nat.le_refl _, Nat.zero_le _, fun q hq => absurd hq (by simp), Nat.le_refl _, Nat.zero_le _, fun _ => ⟨(by decide : (-9223372036854775808 : Int) ≤ 0), (by decide : (0 : Int) ≤ 9223372036854775807)⟩, Nat.le_refl _, Nat.zero_le _, fun q hq => absurd hq (by simp)⟩, fun h => absurd h hi'⟩
    obtain ⟨F, hF⟩ := Classical.axiomOfChoice key2
    refine ⟨some a, cap, (List.range len).map F, by simp, by simpa using hl, hm, ?_, ?_⟩
    · intro c hc
      rw [List.mem_map] at hc
      obtain ⟨i, _, rfl⟩ := hc
      exact (hF i).1
    · intro i p hip
      have hil : i < len := by
        have := (List.getElem?_eq_some_iff.1 hip).1
        simpa using this
      have e : F i = p := by
        rw [List.getElem?_map, List.getElem?_range hil] at hip
        simpa using hip
      obtain ⟨⟨c0, c1, c2, c3, c4⟩, hr⟩ := (hF i).2 hil
      obtain ⟨b, off, spot⟩ := a
      have hspot : spot = none := by simpa [Addr.add] using World.cell?_spot ((hF 0).2 (by omega)).1.1
      subst hspot
      rw [e] at c0 c1 c2 c3 c4 hr
      rw [Go.WideShapes.add_plain] at c0 c1 c2 c3 c4
      exact ⟨b, off, rfl, block_lt c0, ⟨c0, by rw [Nat.add_assoc]; exact c1, by rw [Nat.add_assoc]; exact c2, by rw [Nat.add_assoc]; exact c3, by rw [Nat.add_assoc]; exact c4⟩, hr⟩
end Go.Proofs.YtfpcdlpfmlaakaaGreatDoor
