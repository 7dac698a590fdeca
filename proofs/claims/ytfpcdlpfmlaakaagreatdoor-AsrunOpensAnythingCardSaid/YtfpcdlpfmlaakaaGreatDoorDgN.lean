/-
  The helpers of the laws of package digest: few, hex, binary, left, collide.
  What the laws of package digest share: a list that is read, binary.
  Helpers of the laws of package digest: append of a list, left, way, collide.
  Plain laws of two proofs of one root; the walk of collide.
  The walk of the law DigestBinding.
  Plain laws of Verify: two accepted proofs of one place bind the record and the salt, or two strings collide.
-/
import Derived.WalkKit
import Derived.LoopTactic
import Derived.WalkSpells
import Derived.WalkLawsBesides
import Derived.IntWalk
import Derived.Outline
import Derived.Deep.QuietTactic
import Derived.BigQuiet
import Derived.Deep.RegionLaw
import Derived.Deep.RegionHeld3
import Derived.Deep.DrawnRows
import Derived.Deep.AppendLies
import Derived.Laws.EntriesVeiled
import Derived.Lib.Hide
import Derived.Laws.OwnMore
import Derived.Test.YtfpcdlpfmlaakaaGreatDoorDgG
import Derived.Test.YtfpcdlpfmlaakaaGreatDoorDgI
import Derived.Test.YtfpcdlpfmlaakaaGreatDoorDgK
import Derived.Test.YtfpcdlpfmlaakaaGreatDoorDkB
set_option linter.unusedVariables false
set_option linter.unusedSimpArgs false
namespace Go.Proofs.YtfpcdlpfmlaakaaGreatDoor
open Go.RowKit Onair
attribute [local go_sem ↓] Go.wp_at_zero Go.wp_at_succ
theorem Fr.cell {S : Nat → Prop} {A B : World} (h : Fr S A B) (p : Addr) (hp : p.block < A.heap.size) (hs : ¬ S p.block) : B.cell? p = A.cell? p := by
  have e := h.block p.block hp hs
  obtain ⟨b, o, s⟩ := p
  cases s <;> simp only [World.cell?, e] <;> rfl
/-- A list of strings of the call's own. -/
def OwnS (B : Nat) (v : Value) (xs : List ByteArray) (W : World) : Prop := W.ownsRow B 9 1 v xs.length (xs.map Value.string) ∧ B ≤ W.heap.size
theorem step_appO {ops : Array Oper} {o : Oper} {a : Act} {K : Act → World → Prop} {Q : Exit → Act → World → Prop} {E : Prop} {B : Nat} {v : Value} {xs : List ByteArray} {W : World} {R : ByteArray} (hgd : o.guard = none) (s x : Operand)
    (ho : o.op = .call { callee := .builtin .append, args := #[s, x], argTypes := #[63, 63] }) (hs : a.eval s = v) (hx : a.eval x = .slice (some ⟨W.heap.size, 0, none⟩) 1 1)
    (h : Hid (OwnS B v xs W)) (hl : xs.length ≤ 1000000)
    (hK : ∀ oa cap w', Hid (OwnS B (.slice oa (xs ++ [R]).length cap) (xs ++ [R]) w') → Hid (Fr (fun k => B ≤ k) W w') → K (a.put o.dst (.slice oa (xs ++ [R]).length cap)) w') :
    if Region.wanted o (yielded ops a.tmps) = true then Oper.wp Tryz.prog o a (W.alloc (.cells #[.string R] 9)) K Q else E := by
  have hw : Region.wanted o (yielded ops a.tmps) = true := by simp [Region.wanted, hgd]
  rw [if_pos hw]
  obtain ⟨v', w', hrun, h1, h2, h3⟩ := app_str W B v xs.length (xs.map Value.string) R h.out.1 hl h.out.2 o.type
  obtain ⟨oa, cap, rfl⟩ := own_slice h1
  have hge := own_ge h.out.1
  have e : (xs ++ [R]).length = xs.length + 1 := by simp
  have := hK oa cap w' ⟨by rw [e, List.map_append]; exact h1, Nat.le_trans h.out.2 h2.size⟩ (h2.mono (fun k hk => hge k hk))
  unfold Oper.wp
  simp [execOp, ho, resolve, invoke, builtin, hs, hx, hrun, Result.andThen]
  rw [e] at this
  exact this
theorem OwnS.kept {B : Nat} {v : Value} {xs : List ByteArray} {W W' : World} (h : OwnS B v xs W) (hb : Below W.heap.size W W') : OwnS B v xs W' :=
  ⟨ownsRow_keptF h.1 (fun k hk => hb.block _ (own_lt h.1 k hk)), Nat.le_trans h.2 hb.size⟩
theorem min_cut (s : ByteArray) (b : Nat) : ∃ (m : Nat) (T : ByteArray), m ≤ s.size ∧ m ≤ b ∧ T.size = m ∧ min (s.size : Int) (b : Int) = (m : Int) ∧ s.extract 0 m = T := by
  refine ⟨min b s.size, s.extract 0 (min b s.size), by omega, by omega, by simp, ?_, rfl⟩
  omega
end Go.Proofs.YtfpcdlpfmlaakaaGreatDoor
namespace Go.Proofs.YtfpcdlpfmlaakaaGreatDoor
open Go.RowKit Onair
attribute [local go_sem ↓] Go.wp_at_zero Go.wp_at_succ
/-- A list of strings that a law reads. -/
structure LW (w : World) (oa : Option Addr) (L : List ByteArray) (W : World) : Prop where
  rd : RdS W oa L
  tab : TabAt W
  bel : Below w.heap.size w W
theorem LW.next {w : World} {oa : Option Addr} {L : List ByteArray} {W W' : World} (h : LW w oa L W) (hb : Below W.heap.size W W') : LW w oa L W' := ⟨h.rd.kept hb, h.tab.below hb, h.bel.trans (hb.mono h.bel.size)⟩
theorem LW.drewN {w : World} {oa : Option Addr} {L : List ByteArray} {W : World} (h : LW w oa L W) (n : Nat) : LW w oa L (W.drewN n) := h.next (drewN_below (Below.refl _ _) n)
theorem LW.drew {w : World} {oa : Option Addr} {L : List ByteArray} {W : World} (h : LW w oa L W) : LW w oa L W.drew := h.next (Below.refl _ _).drew
theorem RdS.take {W : World} {oa : Option Addr} {l : List ByteArray} (h : RdS W oa l) (k : Nat) : RdS W oa (l.take k) := by
  rcases h with rfl | ⟨b, o, e, h⟩
  · exact .inl (by simp)
  · exact .inr ⟨b, o, e, h.take k⟩
theorem SzB.mono {m n : Nat} {l : List ByteArray} (h : SzB m l) (hmn : m ≤ n) : SzB n l := fun x hx => Nat.le_trans (h x hx) hmn
theorem binN_half (m : Nat) (h : m ≠ 0) : binN m = binN (m / 2) + 1 := by
  unfold binN
  rw [if_neg h]
  by_cases h2 : m / 2 = 0
  · rw [if_pos h2]
    have : m = 1 := by omega
    subst this
    rfl
  · rw [if_neg h2]
    have hl := Nat.log2_eq_iff (n := m) (k := (m / 2).log2 + 1) h
    have a1 := Nat.log2_self_le h2
    have a2 := Nat.lt_log2_self (n := m / 2)
    have := hl.2 ⟨by rw [Nat.pow_succ]; omega, by rw [Nat.pow_succ]; omega⟩
    rw [this]
theorem binN_le (m : Nat) : binN m ≤ m := by
  unfold binN
  split
  · omega
  · rename_i h
    have h1 := Nat.log2_self_le h
    have h2 : m.log2 < 2 ^ m.log2 := Nat.lt_two_pow_self
    omega
def extP (l : List ByteArray) (m : Nat) : List ByteArray := if m = 0 then [] else extL l m true
theorem extP_short (l : List ByteArray) (m : Nat) (hm : m ≤ l.length) : (extP l m).length ≤ 2 * binN l.length := by
  unfold extP
  split
  · exact Nat.zero_le _
  · exact extL_short l m true (by omega) hm
end Go.Proofs.YtfpcdlpfmlaakaaGreatDoor
namespace Go.Proofs.YtfpcdlpfmlaakaaGreatDoor
open Go.RowKit Onair
attribute [local go_sem ↓] Go.wp_at_zero Go.wp_at_succ
theorem run_append_none (W : World) (B : Nat) (v : Value) (n : Nat) (xs : List Value) (hown : W.ownsRow B 9 1 v n xs) (c : Nat) (ty : TypeId) : (Builtin.append_ #[63, 63] ty #[v, .slice none 0 c]).run Tryz.prog W = .ok v W := by
  obtain ⟨i0, hi, hz0, hz1, hz2⟩ := info_parts Tryz.infoStr
  rcases hown.2 with ⟨rfl, rfl⟩ | ⟨g, cap, cur, rfl, _, _, hnc, _⟩
  · simp [Builtin.append_, run_underlying Tryz.underlying63, sizeOf, typeInfo, hi, Builtin.lenOf, Builtin.firstCells]
  · simp [Builtin.append_, run_underlying Tryz.underlying63, sizeOf, typeInfo, hi, Builtin.lenOf, Builtin.firstCells, hnc, storeCells]
/-- append of a list to a row of the call's own. -/
theorem app_list (W : World) (B : Nat) (v : Value) (xs ys : List ByteArray) (oa : Option Addr) (c : Nat) (ho : OwnS B v xs W) (hr : RdS W oa ys) (hc : oa = none → ys = [] → True) (hxl : xs.length ≤ 1000000) (hyl : ys.length ≤ 1000000) (ty : TypeId) :
    ∃ ob cb w', (Builtin.append_ #[63, 63] ty #[v, .slice oa ys.length c]).run Tryz.prog W = .ok (.slice ob (xs ++ ys).length cb) w' ∧ OwnS B (.slice ob (xs ++ ys).length cb) (xs ++ ys) w' ∧ Fr (fun k => B ≤ k) W w' := by
  obtain ⟨i0, hi, hz0, hz1, hz2⟩ := info_parts Tryz.infoStr
  have hge := own_ge ho.1
  cases oa with
  | none =>
    have hy : ys = [] := by
      rcases hr with h | ⟨b, o, e, _⟩
      · exact h
      · cases e
    subst hy
    obtain ⟨ob, cb, rfl⟩ := own_slice ho.1
    rw [List.append_nil]
    exact ⟨ob, cb, W, run_append_none W B _ _ _ ho.1 c ty, ho, Fr.refl _ _⟩
  | some a =>
    have hnews : ∀ j u, (ys.map Value.string)[j]? = some u → W.cell? (a.add j) = some u := fun j u hj => by
      rcases hr with h | ⟨b, o, e, h⟩
      · subst h; simp at hj
      · obtain rfl := Option.some.inj e
        rw [List.getElem?_map] at hj
        obtain ⟨x, hx, rfl⟩ := Option.map_eq_some_iff.1 hj
        rw [show ((⟨b, o, none⟩ : Addr).add j) = ⟨b, o + j, none⟩ from by unfold Addr.add; split <;> simp_all]
        exact h.cell j x hx
    obtain ⟨v', w', hrun, h1, h2, h3⟩ := app_own (P := Tryz.prog) (W := W) B 63 ty 9 i0 (.string ⟨#[]⟩) 1 16 Tryz.underlying63 hi hz0 hz1 hz2 rfl (by decide) v xs.length (xs.map Value.string) ho.1 a ys.length c (ys.map Value.string) (by simp) hnews (by
      intro u hu
      rw [List.mem_map] at hu
      obtain ⟨x, _, rfl⟩ := hu
      rfl) (by unfold maxLen; omega) (by omega) ho.2
    obtain ⟨ob, cb, rfl⟩ := own_slice h1
    refine ⟨ob, cb, w', by rw [List.length_append]; exact hrun, ⟨by rw [List.length_append, List.map_append]; exact h1, Nat.le_trans ho.2 h2.size⟩, h2.mono (fun k hk => hge k hk)⟩
theorem own_new (w : World) (xs : List ByteArray) (h : xs.length ≤ 1000000) : OwnS w.heap.size (.slice (some ⟨w.heap.size, 0, none⟩) xs.length xs.length) xs (w.alloc (.cells (xs.map Value.string).toArray 9)) := by
  refine ⟨⟨by simp, .inr ⟨w.heap.size, xs.length, (xs.map Value.string).toArray, rfl, Nat.le_refl _, Blk.new w 9 (xs.map Value.string), Nat.le_refl _, by unfold maxLen; omega, by simp, ?_⟩⟩, by simp⟩
  simp only [Nat.mul_one]
  rw [List.take_of_length_le (by simp)]
/-- The strings of which the digest is computed for a proof that was accepted. -/
def wayR : List ByteArray → Nat → Nat → ByteArray → List ByteArray
  | [], _, _, s => [leafS s]
  | x :: q, n, i, s => if i < splitN n then nodeS (valR q (splitN n) i s).1 x :: wayR q (splitN n) i s else nodeS x (valR q (n - splitN n) (i - splitN n) s).1 :: wayR q (n - splitN n) (i - splitN n) s
theorem wayR_len : ∀ (q : List ByteArray) (n i : Nat) (s : ByteArray), (wayR q n i s).length = q.length + 1
  | [], _, _, _ => rfl
  | x :: q, n, i, s => by
    unfold wayR
    split
    · rw [List.length_cons, wayR_len q]; rfl
    · rw [List.length_cons, wayR_len q]; rfl
theorem nodeS_cat (a b : ByteArray) : (⟨#[1]⟩ : ByteArray) ++ a ++ b = nodeS a b := by
  apply ByteArray.ext
  simp [nodeS]
theorem leafS_cat (s : ByteArray) : (⟨#[0]⟩ : ByteArray) ++ s = leafS s := by
  apply ByteArray.ext
  simp [leafS]
end Go.Proofs.YtfpcdlpfmlaakaaGreatDoor
namespace Go.Proofs.YtfpcdlpfmlaakaaGreatDoor
open Go.RowKit Onair
attribute [local go_sem ↓] Go.wp_at_zero Go.wp_at_succ
def collB : List ByteArray → List ByteArray → Bool
  | x :: a, y :: b => (decide (x ≠ y) && decide (shaB x = shaB y)) || collB a b
  | _, _ => false
theorem collB_nil (b : List ByteArray) : collB [] b = false := by cases b <;> rfl
theorem collB_nil' (a : List ByteArray) : collB a [] = false := by cases a <;> rfl
theorem collB_hit {x y : ByteArray} {a b : List ByteArray} (h : x ≠ y) (hs : shaB x = shaB y) : collB (x :: a) (y :: b) = true := by
  unfold collB
  rw [decide_eq_true h, decide_eq_true hs]
  rfl
theorem collB_tail {x y : ByteArray} {a b : List ByteArray} (h : collB a b = true) : collB (x :: a) (y :: b) = true := by
  unfold collB
  rw [h, Bool.or_true]
theorem collB_same (x : ByteArray) (a b : List ByteArray) : collB (x :: a) (x :: b) = collB a b := by
  show ((decide (x ≠ x) && decide (shaB x = shaB x)) || collB a b) = _
  rw [decide_eq_false (fun n => n rfl), Bool.false_and, Bool.false_or]
theorem collB_miss {x y : ByteArray} (a b : List ByteArray) (h : shaB x ≠ shaB y) : collB (x :: a) (y :: b) = collB a b := by
  show ((decide (x ≠ y) && decide (shaB x = shaB y)) || collB a b) = _
  rw [decide_eq_false h, Bool.and_false, Bool.false_or]
theorem valR_32 : ∀ (q : List ByteArray) (n i : Nat) (s : ByteArray), (valR q n i s).2 = true → (valR q n i s).1.size = 32
  | [], n, i, s, h => by
    unfold valR at h ⊢
    split at h
    · rw [if_pos (by assumption)]; exact leafB_size _
    · cases h
  | x :: q, n, i, s, h => by
    unfold valR at h ⊢
    split at h
    · cases h
    · rename_i hn
      rw [if_neg hn]
      split <;> exact nodeB_size _ _
theorem bind_coll : ∀ (p q : List ByteArray) (n i : Nat) (s t R : ByteArray), digB p = true → digB q = true → valR p n i s = (R, true) → valR q n i t = (R, true) → s ≠ t → collB (wayR p n i s) (wayR q n i t) = true
  | [], [], n, i, s, t, R, _, _, h1, h2, hst => by
    unfold valR at h1 h2
    by_cases hn : n = 1
    · rw [if_pos hn] at h1 h2
      have e1 := congrArg Prod.fst h1
      have e2 := congrArg Prod.fst h2
      dsimp only at e1 e2
      exact collB_hit (fun e => hst (leafS_inj e)) (e1.trans e2.symm)
    · rw [if_neg hn] at h1
      cases h1
  | [], y :: q, n, i, s, t, R, _, _, h1, h2, hst => by
    have := valR_len [] (y :: q) n i s t (by rw [h1]) (by rw [h2])
    simp at this
  | x :: p, [], n, i, s, t, R, _, _, h1, h2, hst => by
    have := valR_len (x :: p) [] n i s t (by rw [h1]) (by rw [h2])
    simp at this
  | x :: p, y :: q, n, i, s, t, R, hp, hq, h1, h2, hst => by
    have hp' : x.size = 32 ∧ digB p = true := by simpa [digB] using hp
    have hq' : y.size = 32 ∧ digB q = true := by simpa [digB] using hq
    unfold valR at h1 h2
    by_cases hn : n = 1
    · rw [if_pos hn] at h1
      cases h1
    · rw [if_neg hn] at h1 h2
      by_cases hi : i < splitN n
      · rw [if_pos hi] at h1 h2
        have a1 := congrArg Prod.fst h1
        have a2 := congrArg Prod.snd h1
        have b1 := congrArg Prod.fst h2
        have b2 := congrArg Prod.snd h2
        dsimp only at a1 a2 b1 b2
        unfold wayR
        rw [if_pos hi, if_pos hi]
        by_cases he : nodeS (valR p (splitN n) i s).1 x = nodeS (valR q (splitN n) i t).1 y
        · have hin := nodeS_inj he ((valR_32 _ _ _ _ a2).trans (valR_32 _ _ _ _ b2).symm)
          exact collB_tail (bind_coll p q (splitN n) i s t _ hp'.2 hq'.2 (Prod.ext rfl a2) (Prod.ext hin.1.symm b2) hst)
        · exact collB_hit he (a1.trans b1.symm)
      · rw [if_neg hi] at h1 h2
        have a1 := congrArg Prod.fst h1
        have a2 := congrArg Prod.snd h1
        have b1 := congrArg Prod.fst h2
        have b2 := congrArg Prod.snd h2
        dsimp only at a1 a2 b1 b2
        unfold wayR
        rw [if_neg hi, if_neg hi]
        by_cases he : nodeS x (valR p (n - splitN n) (i - splitN n) s).1 = nodeS y (valR q (n - splitN n) (i - splitN n) t).1
        · have hin := nodeS_inj he (hp'.1.trans hq'.1.symm)
          exact collB_tail (bind_coll p q (n - splitN n) (i - splitN n) s t _ hp'.2 hq'.2 (Prod.ext rfl a2) (Prod.ext hin.2.symm b2) hst)
        · exact collB_hit he (a1.trans b1.symm)
theorem drop_at (l : List ByteArray) (k : Nat) (x : ByteArray) (h : l[k]? = some x) : l.drop k = x :: l.drop (k + 1) := by
  have hk := (List.getElem?_eq_some_iff.1 h).1
  have e := (List.getElem?_eq_some_iff.1 h).2
  rw [List.drop_eq_getElem_cons hk, e]
theorem neq_dec (a b : ByteArray) : (a.toList != b.toList) = decide (a ≠ b) := by
  rw [bne, beq_dec]
  by_cases h : a = b
  · rw [decide_eq_true h, decide_eq_false (fun n => n h)]; rfl
  · rw [decide_eq_false h, decide_eq_true h]; rfl
end Go.Proofs.YtfpcdlpfmlaakaaGreatDoor
namespace Go.Proofs.YtfpcdlpfmlaakaaGreatDoor
open Go.RowKit Onair
attribute [local go_sem ↓] Go.wp_at_zero Go.wp_at_succ
def verI (root : ByteArray) (n i : Int) (s : ByteArray) (p : List ByteArray) : Bool := decide (0 ≤ i ∧ i < n) && verB root n.toNat i.toNat s p
theorem verify_all (root : ByteArray) (n i : Int) (s : ByteArray) (oa : Option Addr) (p : List ByteArray) (cap : Nat) (w : World) (hn : n ≤ 9223372036854775807) (hs : s.size ≤ 900000000) (hp : p.length ≤ 1000000) (hpc : p.length ≤ cap) (hcc : cap ≤ 9223372036854775807) (hr : RdS w oa p) (ht : TabAt w) :
    Calls Tryz.prog 79 #[.string root, .int .i64 n, .int .i64 i, .string s, .slice oa p.length cap] w fun e w' => e = .returned (.bool (verI root n i s p)) ∧ Below w.heap.size w w' := by
  unfold verI
  by_cases h : 0 ≤ i ∧ i < n
  · rw [decide_eq_true h, Bool.true_and]
    have := verify_in root n.toNat i.toNat s oa p cap w (by omega) (by omega) hs hp hpc hcc hr ht
    rw [show ((n.toNat : Nat) : Int) = n by omega, show ((i.toNat : Nat) : Int) = i by omega] at this
    exact this
  · rw [decide_eq_false h, Bool.false_and]
    exact verify_out root n i s oa p.length cap w (by omega)
theorem verI_parts {root : ByteArray} {n i : Int} {s : ByteArray} {p : List ByteArray} (h : verI root n i s p = true) : 0 ≤ i ∧ i < n ∧ digB p = true ∧ valR p.reverse n.toNat i.toNat s = (root, true) := by
  unfold verI verB at h
  simp only [Bool.and_eq_true, decide_eq_true_eq] at h
  obtain ⟨⟨h1, h2⟩, ⟨⟨⟨h3, h4⟩, h5⟩, h6⟩⟩ := h
  exact ⟨h1, h2, h4, Prod.ext h6 h5⟩
theorem digB_rev (p : List ByteArray) : digB p.reverse = digB p := by simp [digB]
theorem wayR_sz : ∀ (q : List ByteArray) (n i : Nat) (s : ByteArray), s.size ≤ 60 → SzB 32 q → SzB 1000000 (wayR q n i s)
  | [], n, i, s, hs, hq => fun x hx => by
    rw [wayR, List.mem_singleton] at hx
    subst hx
    rw [leafS_size]
    omega
  | y :: q, n, i, s, hs, hq => fun x hx => by
    have hy : y.size ≤ 32 := hq y (by simp)
    have hq' : SzB 32 q := fun z hz => hq z (by simp [hz])
    unfold wayR at hx
    split at hx
    · rcases List.mem_cons.1 hx with h | h
      · subst h
        have := valR_size q (splitN n) i s
        rw [nodeS_size]
        omega
      · exact wayR_sz q _ _ s hs hq' x h
    · rcases List.mem_cons.1 hx with h | h
      · subst h
        have := valR_size q (n - splitN n) (i - splitN n) s
        rw [nodeS_size]
        omega
      · exact wayR_sz q _ _ s hs hq' x h
theorem rd_step {w w1 : World} {oa : Option Addr} {len : Nat} {ts : Nat → ByteArray} (hb : Below w.heap.size w w1) (h : len = 0 ∨ ∃ b off, oa = some ⟨b, off, none⟩ ∧ b < w.heap.size ∧ ∀ i, i < len → w.cell? ⟨b, off + i, none⟩ = some (.string (ts i))) :
    len = 0 ∨ ∃ b off, oa = some ⟨b, off, none⟩ ∧ b < w1.heap.size ∧ ∀ i, i < len → w1.cell? ⟨b, off + i, none⟩ = some (.string (ts i)) := by
  rcases h with h | ⟨b, off, e, hlt, hc⟩
  · exact .inl h
  · exact .inr ⟨b, off, e, Nat.lt_of_lt_of_le hlt hb.size, fun i hi => (hb.cell (p := ⟨b, off + i, none⟩) hlt).trans (hc i hi)⟩
end Go.Proofs.YtfpcdlpfmlaakaaGreatDoor
namespace Go.Proofs.YtfpcdlpfmlaakaaGreatDoor
open Go.RowKit Onair
def verA (root : ByteArray) (r : Rec) (i n : Int) (salt : ByteArray) (p : List ByteArray) : Bool := validR r && (salt.size == 32) && verI root n i (salt ++ encB r) p
/-- The strings that are hashed, from the entry upwards. -/
def preL (s : ByteArray) (n i : Nat) (p : List ByteArray) : List ByteArray := (wayR p.reverse n i s).reverse
theorem collB_iff (a b : List ByteArray) : collB a b = true ↔ ∃ (j : Nat) (x y : ByteArray), a[j]? = some x ∧ b[j]? = some y ∧ x ≠ y ∧ shaB x = shaB y := by
  induction a generalizing b with
  | nil => rw [collB_nil]; simp
  | cons u a ih =>
    cases b with
    | nil => rw [collB_nil']; simp
    | cons v b =>
      unfold collB
      rw [Bool.or_eq_true, ih b, Bool.and_eq_true, decide_eq_true_iff, decide_eq_true_iff]
      constructor
      · rintro (⟨h1, h2⟩ | ⟨j, x, y, h1, h2, h3, h4⟩)
        · exact ⟨0, u, v, rfl, rfl, h1, h2⟩
        · exact ⟨j + 1, x, y, h1, h2, h3, h4⟩
      · rintro ⟨j, x, y, h1, h2, h3, h4⟩
        cases j with
        | zero =>
          simp only [List.getElem?_cons_zero, Option.some.injEq] at h1 h2
          subst h1
          subst h2
          exact .inl ⟨h3, h4⟩
        | succ j => exact .inr ⟨j, x, y, h1, h2, h3, h4⟩
theorem collB_rev (a b : List ByteArray) (hl : a.length = b.length) (h : collB a b = true) : collB a.reverse b.reverse = true := by
  rw [collB_iff] at h ⊢
  obtain ⟨j, x, y, h1, h2, h3, h4⟩ := h
  have hj := (List.getElem?_eq_some_iff.1 h1).1
  refine ⟨a.length - 1 - j, x, y, ?_, ?_, h3, h4⟩
  · rw [List.getElem?_reverse (by omega)]
    rw [show a.length - 1 - (a.length - 1 - j) = j by omega]
    exact h1
  · rw [List.getElem?_reverse (by omega)]
    rw [show b.length - 1 - (a.length - 1 - j) = j by omega]
    exact h2
theorem encB_inj {a b : Rec} (ha : validR a = true) (hb : validR b = true) (h : encB a = encB b) : a = b := by
  have e : encL a = encL b := by rw [← encB_data a, ← encB_data b, h]
  have h1 := decP_enc ha
  rw [e, decP_enc hb] at h1
  exact (Option.some.inj h1).symm
theorem app_data (a b : ByteArray) : (a ++ b).data.toList = a.data.toList ++ b.data.toList := by simp
theorem salted_inj {a b : Rec} {s t : ByteArray} (ha : validR a = true) (hb : validR b = true) (hs : s.size = 32) (ht : t.size = 32) (h : s ++ encB a = t ++ encB b) : s = t ∧ a = b := by
  have e := congrArg (fun x => x.data.toList) h
  simp only [app_data] at e
  obtain ⟨h1, h2⟩ := pair_inj e (by rw [hs, ht])
  exact ⟨h1, encB_inj ha hb h2⟩
theorem verA_parts {root : ByteArray} {r : Rec} {i n : Int} {salt : ByteArray} {p : List ByteArray} (h : verA root r i n salt p = true) : validR r = true ∧ salt.size = 32 ∧ verI root n i (salt ++ encB r) p = true := by
  unfold verA at h
  simp only [Bool.and_eq_true, beq_iff_eq] at h
  exact ⟨h.1.1, h.1.2, h.2⟩
/-- THE STAGE'S THEOREM on binding. -/
theorem binding {root : ByteArray} {a b : Rec} {i n : Int} {s t : ByteArray} {p q : List ByteArray} (h1 : verA root a i n s p = true) (h2 : verA root b i n t q = true) (hne : ¬ (s = t ∧ a = b)) :
    collB (preL (s ++ encB a) n.toNat i.toNat p) (preL (t ++ encB b) n.toNat i.toNat q) = true := by
  obtain ⟨va, sa, wa⟩ := verA_parts h1
  obtain ⟨vb, sb, wb⟩ := verA_parts h2
  obtain ⟨_, _, d1, e1⟩ := verI_parts wa
  obtain ⟨_, _, d2, e2⟩ := verI_parts wb
  unfold preL
  refine collB_rev _ _ ?_ (bind_coll _ _ _ _ _ _ _ (by rw [digB_rev]; exact d1) (by rw [digB_rev]; exact d2) e1 e2 (fun e => hne (salted_inj va vb sa sb e)))
  rw [wayR_len, wayR_len, List.length_reverse, List.length_reverse]
  have w1 := (Bool.and_eq_true _ _ ▸ wa : _ ∧ _).2
  have w2 := (Bool.and_eq_true _ _ ▸ wb : _ ∧ _).2
  rw [verB_len w1 w2]
end Go.Proofs.YtfpcdlpfmlaakaaGreatDoor
