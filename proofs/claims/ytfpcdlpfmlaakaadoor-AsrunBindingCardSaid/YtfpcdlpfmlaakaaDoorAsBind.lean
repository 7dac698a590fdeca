/-
  Plain laws and a world for the law AsrunBinding: the proof of a record is accepted, known blocks.
-/
import Derived.Test.YtfpcdlpfmlaakaaDoorAsRe
import Derived.Test.YtfpcdlpfmlaakaaDoorAsSG
set_option linter.unusedVariables false
set_option linter.unusedSimpArgs false
namespace Go.Proofs.YtfpcdlpfmlaakaaDoor
open Go.RowKit Onair
theorem entF_at : ∀ (l : List Rec) (h : ByteArray) (i : Nat) (r : Rec), l[i]? = some r → ∃ hd, (entF h l)[i]? = some (entB hd (encB r))
  | [], h, i, r, e => by simp at e
  | x :: l, h, 0, r, e => by
    simp only [List.getElem?_cons_zero, Option.some.injEq] at e
    subst e
    exact ⟨_, rfl⟩
  | x :: l, h, i + 1, r, e => by
    simp only [List.getElem?_cons_succ] at e
    obtain ⟨hd, h2⟩ := entF_at l (chainB h (encB x)) i r e
    exact ⟨hd, h2⟩
theorem ext_left (a b : ByteArray) (n : Nat) (h : a.size = n) : (a ++ b).extract 0 n = a := by
  subst h
  apply ByteArray.ext
  apply Array.ext'
  simp
  exact List.take_of_length_le (Nat.le_of_eq (blen a))
theorem ent_parts {R : List Rec} {i : Nat} {r : Rec} {x : ByteArray} (hr : R[i]? = some r) (hx : (entR R)[i]? = some x) : (x.extract 0 32).size = 32 ∧ x.extract 0 32 ++ encB r = x := by
  obtain ⟨hd, h⟩ := entF_at R zero32 i r hr
  have e : x = entB hd (encB r) := by
    have : (entR R)[i]? = some (entB hd (encB r)) := h
    rw [hx] at this
    exact Option.some.inj this
  subst e
  unfold entB
  rw [ext_left _ _ 32 (shaB_size _)]
  exact ⟨shaB_size _, rfl⟩
theorem ver_own {R : List Rec} {i : Nat} {r : Rec} {x : ByteArray} (hv : validR r = true) (hr : R[i]? = some r) (hx : (entR R)[i]? = some x) :
    verA (rootL (entR R)) r (i : Int) (R.length : Int) (x.extract 0 32) (proofL (entR R) i) = true := by
  obtain ⟨h1, h2⟩ := ent_parts hr hx
  have hi : i < R.length := (List.getElem?_eq_some_iff.1 hr).1
  have hv2 := proof_ver (entR R) i (by rw [entR_len]; exact hi)
  rw [entR_len, List.getD_eq_getElem?_getD, hx, Option.getD_some] at hv2
  unfold verA verI
  rw [hv, h1, h2, Int.toNat_natCast, Int.toNat_natCast, hv2, decide_eq_true (show (0 : Int) ≤ (i : Int) ∧ (i : Int) < (R.length : Int) by omega)]
  rfl
theorem verA_path {root : ByteArray} {r : Rec} {i n : Nat} {s : ByteArray} {p : List ByteArray} (h : verA root r (i : Int) (n : Int) s p = true) : i < n ∧ s.size = 32 ∧ SzB 32 p ∧ (valR p.reverse n i (s ++ encB r)).2 = true := by
  obtain ⟨h1, h2, h3⟩ := verA_parts h
  obtain ⟨q1, q2, q3, q4⟩ := verI_parts h3
  rw [Int.toNat_natCast, Int.toNat_natCast] at q4
  exact ⟨by omega, h2, digB_sz q3, by rw [q4]⟩
theorem wayR_szX : ∀ (q : List ByteArray) (n i : Nat) (t : ByteArray), t.size ≤ 1000 → SzB 32 q → SzB 1000000 (wayR q n i t)
  | [], n, i, t, hs, hq => fun x hx => by
    rw [wayR, List.mem_singleton] at hx
    subst hx
    rw [leafS_size]
    omega
  | y :: q, n, i, t, hs, hq => fun x hx => by
    have hy : y.size ≤ 32 := hq y (by simp)
    have hq' : SzB 32 q := fun z hz => hq z (by simp [hz])
    unfold wayR at hx
    split at hx
    · rcases List.mem_cons.1 hx with e | e
      · subst e
        have := valR_size q (splitN n) i t
        rw [nodeS_size]
        omega
      · exact wayR_szX q _ _ t hs hq' x e
    · rcases List.mem_cons.1 hx with e | e
      · subst e
        have := valR_size q (n - splitN n) (i - splitN n) t
        rw [nodeS_size]
        omega
      · exact wayR_szX q _ _ t hs hq' x e
theorem preL_sz {root : ByteArray} {r : Rec} {i n : Nat} {s : ByteArray} {p : List ByteArray} (h : verA root r (i : Int) (n : Int) s p = true) : SzB 1000000 (preL (s ++ encB r) n i p) := by
  obtain ⟨_, h2, h3, _⟩ := verA_path h
  have hz := encB_size r
  intro x hx
  unfold preL at hx
  exact wayR_szX p.reverse n i _ (by rw [ByteArray.size_append, h2]; omega) (fun y hy => h3 y (List.mem_reverse.1 hy)) x (List.mem_reverse.1 hx)
/-- Known blocks above an old world. -/
structure BK (w4 : World) (K : List (Nat × TypeId × List Value)) (W : World) : Prop where
  bel : Below w4.heap.size w4 W
  blk : ∀ p ∈ K, Blk W p.1 p.2.1 p.2.2
theorem BK.next {w4 : World} {K : List (Nat × TypeId × List Value)} {W W' : World} (h : BK w4 K W) (hb : Below W.heap.size W W') : BK w4 K W' :=
  ⟨h.bel.trans (hb.mono h.bel.size), fun p hp => (h.blk p hp).kept (hb.block p.1 (h.blk p hp).lt)⟩
theorem BK.add {w4 : World} {K : List (Nat × TypeId × List Value)} {W : World} (h : BK w4 K W) (t : TypeId) (l : List Value) : BK w4 ((W.heap.size, t, l) :: K) (W.alloc (.cells l.toArray t)) := by
  refine ⟨h.bel.alloc h.bel.size _, fun p hp => ?_⟩
  rcases List.mem_cons.1 hp with rfl | hp
  · exact Blk.new W t l
  · exact (h.blk p hp).alloc _
theorem BK.set {w4 : World} {M : Nat} {t : TypeId} {l : List Value} {K : List (Nat × TypeId × List Value)} {W : World} (h : BK w4 ((M, t, l) :: K) W) (j : Nat) (v : Value) (hM : w4.heap.size ≤ M) (hK : ∀ p ∈ K, p.1 ≠ M) : BK w4 ((M, t, l.set j v) :: K) (W.setCell ⟨M, j, none⟩ v) := by
  refine ⟨h.bel.setCell (p := ⟨M, j, none⟩) hM v, fun p hp => ?_⟩
  rcases List.mem_cons.1 hp with rfl | hp
  · exact (h.blk (M, t, l) (List.mem_cons_self ..)).set j v
  · exact (h.blk p (List.mem_cons_of_mem _ hp)).other ⟨M, j, none⟩ (fun e => hK p hp e.symm) v
theorem BK.setX {w4 : World} {K : List (Nat × TypeId × List Value)} {W : World} (h : BK w4 K W) (g j : Nat) (v : Value) (hM : w4.heap.size ≤ g) (hK : ∀ p ∈ K, p.1 ≠ g) : BK w4 K (W.setCell ⟨g, j, none⟩ v) :=
  ⟨h.bel.setCell (p := ⟨g, j, none⟩) hM v, fun p hp => (h.blk p hp).other ⟨g, j, none⟩ (fun e => hK p hp e.symm) v⟩
theorem BK.fr {w4 : World} {K : List (Nat × TypeId × List Value)} {W W' : World} {B : Nat} (h : BK w4 K W) (hf : Fr (fun k => B ≤ k) W W') (hB : w4.heap.size ≤ B) (hK : ∀ p ∈ K, p.1 < B) : BK w4 K W' :=
  ⟨h.bel.trans ⟨hf.os, hf.tape, hf.output, hf.size, fun k hk => hf.block k (Nat.lt_of_lt_of_le hk h.bel.size) (by omega)⟩, fun p hp => (h.blk p hp).kept (hf.block p.1 (h.blk p hp).lt (by have := hK p hp; omega))⟩
theorem BK.at {w4 : World} {K : List (Nat × TypeId × List Value)} {W : World} (h : BK w4 K W) (i : Nat) {M : Nat} {t : TypeId} {l : List Value} (e : K[i]? = some (M, t, l)) : Blk W M t l := h.blk (M, t, l) (List.mem_of_getElem? e)
theorem OwnS.fr {B : Nat} {v : Value} {xs : List ByteArray} {W W' : World} {S : Nat → Prop} (h : OwnS B v xs W) (hf : Fr S W W') (hs : ∀ k, B ≤ k → ¬ S k) : OwnS B v xs W' :=
  ⟨ownsRow_keptF h.1 (fun k hk => hf.block k (own_lt h.1 k hk) (hs k (own_ge h.1 k hk))), Nat.le_trans h.2 hf.size⟩
theorem ownS_base {B B' : Nat} {v : Value} {xs : List ByteArray} {W : World} (h : OwnS B v xs W) (hb : B' ≤ B) : OwnS B' v xs W := by
  refine ⟨⟨h.1.1, ?_⟩, Nat.le_trans hb h.2⟩
  rcases h.1.2 with h2 | ⟨g, cap, cur, q1, q2, q3⟩
  · exact .inl h2
  · exact .inr ⟨g, cap, cur, q1, Nat.le_trans hb q2, q3⟩
theorem OwnS.setK {B : Nat} {g o n cap : Nat} {xs : List ByteArray} {W : World} (h : OwnS B (.slice (some ⟨g, o, none⟩) n cap) xs W) (k : Nat) (x : ByteArray) (hn : n = xs.length) : OwnS B (.slice (some ⟨g, o, none⟩) n cap) (xs.set k x) (W.setCell ⟨g, k, none⟩ (.string x)) := by
  subst hn
  refine ⟨?_, by have := h.2; simpa [World.setCell] using this⟩
  have := own_set h.1 k (.string x)
  rw [List.length_set, List.map_set]
  exact this
/-- As app_list, with the frame said of the row itself. -/
theorem app_listF (W : World) (B : Nat) (v : Value) (xs ys : List ByteArray) (oa : Option Addr) (c : Nat) (ho : OwnS B v xs W) (hr : RdS W oa ys) (hxl : xs.length ≤ 1000000) (hyl : ys.length ≤ 1000000) (ty : TypeId) :
    ∃ ob cb w', (Builtin.append_ #[43, 43] ty #[v, .slice oa ys.length c]).run Tryd.prog W = .ok (.slice ob (xs ++ ys).length cb) w' ∧ OwnS B (.slice ob (xs ++ ys).length cb) (xs ++ ys) w' ∧ Fr (fun k => v.ownBlock = some k) W w' := by
  obtain ⟨i0, hi, hz0, hz1, hz2⟩ := info_parts Tryd.infoStr
  cases oa with
  | none =>
    have hy : ys = [] := by
      rcases hr with h | ⟨b, o, e, _⟩
      · exact h
      · cases e
    subst hy
    obtain ⟨ob, cb, rfl⟩ := own_slice ho.1
    rw [List.append_nil]
    exact ⟨ob, cb, W, run_append_none W B _ _ _ ho.1 c ty, ho, Fr.refl _ _⟩
  | some a =>
    have hnews : ∀ j u, (ys.map Value.string)[j]? = some u → W.cell? (a.add j) = some u := fun j u hj => by
      rcases hr with h | ⟨b, o, e, h⟩
      · subst h; simp at hj
      · obtain rfl := Option.some.inj e
        rw [List.getElem?_map] at hj
        obtain ⟨x, hx, rfl⟩ := Option.map_eq_some_iff.1 hj
        rw [show ((⟨b, o, none⟩ : Addr).add j) = ⟨b, o + j, none⟩ from by unfold Addr.add; split <;> simp_all]
        exact h.cell j x hx
    obtain ⟨v', w', hrun, h1, h2, h3⟩ := app_own (P := Tryd.prog) (W := W) B 43 ty 9 i0 (.string ⟨#[]⟩) 1 16 Tryd.underlying43 hi hz0 hz1 hz2 rfl (by decide) v xs.length (xs.map Value.string) ho.1 a ys.length c (ys.map Value.string) (by simp) hnews (by
      intro u hu
      rw [List.mem_map] at hu
      obtain ⟨x, _, rfl⟩ := hu
      rfl) (by unfold maxLen; omega) (by omega) ho.2
    obtain ⟨ob, cb, rfl⟩ := own_slice h1
    exact ⟨ob, cb, w', by rw [List.length_append]; exact hrun, ⟨by rw [List.length_append, List.map_append]; exact h1, Nat.le_trans ho.2 h2.size⟩, h2⟩
theorem ownV_rds {W : World} {B : Nat} {oa : Option Addr} {n cap : Nat} {l : List ByteArray} (h : OwnV 9 B (.slice oa n cap) (l.map Value.string) W) : RdS W oa l := by
  have h1 := h.1
  rw [List.length_map] at h1
  exact (own_rds h1).2.2.2
theorem BK.nil (w : World) : BK w [] w := ⟨Below.refl _ _, fun p hp => absurd hp (by simp)⟩
/-- A row of the call's own that holds a string: where it lies. -/
theorem OwnS.at {B : Nat} {oa : Option Addr} {n cap : Nat} {xs : List ByteArray} {W : World} (h : OwnS B (.slice oa n cap) xs W) (h0 : 0 < xs.length) :
    ∃ g, oa = some ⟨g, 0, none⟩ ∧ B ≤ g ∧ g < W.heap.size ∧ (∀ j y, xs[j]? = some y → W.cell? ⟨g, j, none⟩ = some (.string y)) ∧ ∀ j, W.frozen? ⟨g, j, none⟩ = false := by
  have hrd := own_rds h.1
  rcases h.1.2 with ⟨e, h2⟩ | ⟨g, cap', cur, e, q1, q2, q3⟩
  · exfalso
    omega
  · simp only [Value.slice.injEq] at e
    obtain ⟨rfl, rfl, rfl⟩ := e
    refine ⟨g, rfl, q1, (Array.getElem?_eq_some_iff.1 q2).1, fun j y hj => ?_, fun j => by simp [World.frozen?, q2]⟩
    rcases hrd.2.2.2 with e | ⟨b, o, e, hr⟩
    · rw [e] at h0; simp at h0
    · cases e
      have := hr.cell j y hj
      rwa [Nat.zero_add] at this
end Go.Proofs.YtfpcdlpfmlaakaaDoor
