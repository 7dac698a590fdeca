/- Small lemmas that every walk of this seat uses. -/
import Derived.WalkKit
import Derived.Below
import Derived.ChangeSame
import Derived.ProofKit
import Derived.Carry
import Derived.OpenShut
import Derived.SliceStrings
import Derived.Lib.Hide
import Derived.OwnWalk
import Derived.Laws.OwnMore
import Derived.Laws.CopyRow
import Derived.Lib.BufferWrite
import Derived.ArgAppend
import Derived.RangeFuncNested
import Derived.RangeFuncBound
import Derived.RangeFuncCalls
import Derived.RangeFuncLeaves
import Derived.RangeFuncBox
set_option linter.unusedVariables false
set_option linter.unusedSimpArgs false
namespace Go.Proofs.YtjkiidhnmljmbaaGreatDoor
open Go.RowKit Go.WideShapes Go.ChangeShapes
theorem bstep {w w1 w2 : World} (h : Below w.heap.size w w1) (h2 : Below w1.heap.size w1 w2) : Below w.heap.size w w2 := h.trans (h2.mono h.size)
theorem ret_bool {a b : Bool} (h : a = b) : Ending.returned (.bool a) = .returned (.bool b) := by rw [h]
section
variable {H : Type} {enc : TypeId × Value → H} {P : Program}
theorem post_of_below {f : Func} {s : ChangeSpec} {apart fresh handsOn again : Bool} {W W' : World} {args : Array Value} {v : Value} {ds gs : List (DataW H)} {before pa pv : List MemPlace}
  (hW : DataW.Whole enc P f.params.toList s.vars apart W args.toList ds gs before)
  (hres : ∀ (b : Nat) (sp : Nat → Bool) (hd : Bool), DataW.TrodAll enc P W' b sp hd f.resultTypes.toList (v.resultList f.resultTypes.size) (s.fn H (ds ++ gs)).results [])
  (hargs : ∀ sp : Nat → Bool, (∀ p ∈ before, sp p.block = true) → DataW.TrodAll enc P W' 0 sp true f.params.toList args.toList (s.fn H (ds ++ gs)).args pa)
  (hvars : ∀ sp : Nat → Bool, (∀ p ∈ before, sp p.block = true) → DataW.TrodVars enc P W' sp s.vars (s.fn H (ds ++ gs)).vars pv)
  (hps : before = pa ++ pv) (hb : Below W.heap.size W W')
  (hok : ∀ (j : Nat) (t : TypeId) (r : Value), f.resultTypes[j]? = some t → (v.resultList f.resultTypes.size)[j]? = some r → Value.okWide P W' .any 0 t r) :
  s.post enc P f apart fresh handsOn again W args v W' := by
 have hlt : ∀ p ∈ before, p.block < W.heap.size := fun p hp => hW.lt p hp
 have hold : ∀ p ∈ before, (fun b => decide (b < W.heap.size)) p.block = true := fun p hp => by simpa using hlt p hp
 refine ⟨ds, gs, before, [], pa, pv, hW, hres _ _ _, hargs _ hold, hvars _ hold, World.keptBut_mono (fun p hp => ⟨hp, ?_⟩) (hb.frame (· ∈ before)), fun _ => ?_⟩
 ·rw [hps, List.mem_append] at hp
  exact Or.inr hp
 ·obtain ⟨_, _, _, _, _, hz, hn⟩ := hW
  refine ⟨hok, _, _, ([] ++ pa) ++ pv, ⟨[] ++ pa, pv, trodAll_append (hargs _ (fun _ _ => rfl)) (hres _ _ _), hvars _ (fun _ _ => rfl), rfl, ?_, ?_⟩, ?_⟩
  ·intro b off hp
   have hin : MemPlace.cell b off ∈ before := by rw [hps]; simpa using hp
   rw [hb.frozen (hlt _ hin)];exact hz b off hin
  ·intro ha
   have := hn ha
   rw [hps] at this
   simpa using this
  ·intro p hp _
   rw [hps]
   simpa using hp
theorem block_lt {W : World} {p : Addr} {v : Value} (h : W.cell? p = some v) : p.block < W.heap.size := by
 rcases Nat.lt_or_ge p.block W.heap.size with h' | h'
 ·exact h'
 ·simp [World.cell?, Array.getElem?_eq_none h'] at h
theorem trodAll_below (hl : laidOutB P = true) {W W' : World} (hb : Below W.heap.size W W') {sp : Nat → Bool} : ∀ {ts : List TypeId} {vs : List Value} {ds : List (DataW H)} {ps : List MemPlace}, (ts.all fun t => P.readableRec t && decide (t < P.types.size)) = true →
  DataW.TrodAll enc P W 0 (fun _ => true) true ts vs ds ps → (∀ x ∈ ps, x.block < W.heap.size) → (∀ x ∈ ps, sp x.block = true) → DataW.TrodAll enc P W' 0 sp true ts vs ds ps
 | [], [], [], _, _, h, _, _ => h
 | t :: ts, _ :: _, _ :: _, _, ht, ⟨p, q, h1, h2, e⟩, hlt, hs => by
  rw [List.all_cons, Bool.and_eq_true, Bool.and_eq_true] at ht
  exact ⟨p, q, WideElems.Trod_stays hl ht.1.1 (of_decide_eq_true ht.1.2) h1 (fun x hx => hb.same (hlt x (by rw [e]; exact List.mem_append_left _ hx))) (fun x hx => hs x (by rw [e]; exact List.mem_append_left _ hx)),
   trodAll_below hl hb ht.2 h2 (fun x hx => hlt x (by rw [e]; exact List.mem_append_right _ hx)) (fun x hx => hs x (by rw [e]; exact List.mem_append_right _ hx)), e⟩
theorem law_post {f : Func} {s : ChangeSpec} {W W' : World} {args : Array Value} {ds : List (DataW H)} {before : List MemPlace} {tb : TypeId}
  (hl : laidOutB P = true) (hp : (f.params.toList.all fun t => P.readableRec t && decide (t < P.types.size)) = true) (hv : s.vars = []) (hr : f.resultTypes = #[tb]) (hbt : P.underlying tb = some .bool)
  (hW : DataW.Whole enc P f.params.toList s.vars false W args.toList ds [] before)
  (h1 : (s.fn H (ds ++ [])).results = [.lit (.bool true)]) (h2 : (s.fn H (ds ++ [])).args = ds) (h3 : (s.fn H (ds ++ [])).vars = []) (hb : Below W.heap.size W W') :
  s.post enc P f false true false false W args (.bool true) W' := by
 have hW' := hW
 obtain ⟨p, q, hA, hV, rfl, hfz, hnd⟩ := hW
 rw [hv] at hV
 have hq : q = [] := hV
 subst hq
 have hlt : ∀ x ∈ p, x.block < W.heap.size := fun x hx => hW'.lt x (by simpa using hx)
 refine post_of_below (pa := p) (pv := []) hW' (fun _ _ _ => ?_) (fun sp hsp => ?_) (fun _ _ => ?_) rfl hb (ok_one hr rfl (okWide_bool_mk hbt _))
 ·rw [h1, hr]
  exact trodAll_mk1 (shut_bool hbt _)
 ·rw [h2]
  exact trodAll_below hl hb hp hA hlt (fun x hx => hsp x (by simpa using hx))
 ·rw [h3, hv]
  exact rfl
end
def Blk (W : World) (g : Nat) (t : TypeId) (l : List Value) : Prop := W.heap[g]? = some (.cells l.toArray t (0, 0))
theorem Blk.lt {W : World} {g : Nat} {t : TypeId} {l : List Value} (h : Blk W g t l) : g < W.heap.size := (Array.getElem?_eq_some_iff.1 h).1
theorem Blk.cell {W : World} {g : Nat} {t : TypeId} {l : List Value} (h : Blk W g t l) (j : Nat) : W.cell? ⟨g, j, none⟩ = l[j]? := by
 unfold Blk at h
 simp [World.cell?, h]
theorem Blk.frozen {W : World} {g : Nat} {t : TypeId} {l : List Value} (h : Blk W g t l) (j : Nat) : W.frozen? ⟨g, j, none⟩ = false := by
 unfold Blk at h
 simp [World.frozen?, h]
theorem Blk.set {W : World} {g : Nat} {t : TypeId} {l : List Value} (h : Blk W g t l) (j : Nat) (v : Value) : Blk (W.setCell ⟨g, j, none⟩ v) g t (l.set j v) := by
 unfold Blk at *
 simp [World.setCell, Array.getElem?_modify, h]
theorem Blk.other {W : World} {g : Nat} {t : TypeId} {l : List Value} (h : Blk W g t l) (p : Addr) (hp : p.block ≠ g) (v : Value) : Blk (W.setCell p v) g t l := by
 unfold Blk at *
 rw [Below.heap_setCell _ _ _ _ (fun e => hp e.symm)];exact h
theorem Blk.alloc {W : World} {g : Nat} {t : TypeId} {l : List Value} (h : Blk W g t l) (o : Obj) : Blk (W.alloc o) g t l := by
 have := h.lt
 unfold Blk at *
 rw [Below.heap_alloc _ _ _ this];exact h
theorem Blk.new (W : World) (t : TypeId) (l : List Value) : Blk (W.alloc (.cells l.toArray t)) W.heap.size t l := by
 unfold Blk
 show (W.heap.push _)[W.heap.size]? = _
 simp
theorem Blk.drew {W : World} {g : Nat} {t : TypeId} {l : List Value} (h : Blk W g t l) : Blk W.drew g t l := h
theorem Blk.kept {W W' : World} {g : Nat} {t : TypeId} {l : List Value} (h : Blk W g t l) (e : W'.heap[g]? = W.heap[g]?) : Blk W' g t l := by
 unfold Blk at *; rw [e]; exact h
theorem Blk.setRow {W : World} {g : Nat} {t : TypeId} {l : List Value} (h : Blk W g t l) (l' : List Value) : Blk (W.setRow g l'.toArray) g t l' := by
 unfold Blk at *
 simp [World.setRow, Array.getElem?_modify, h]
theorem heap_setRow_other (W : World) (g k : Nat) (cs : Array Value) (h : k ≠ g) : (W.setRow g cs).heap[k]? = W.heap[k]? := by
 simp only [World.setRow, Array.getElem?_modify]
 rw [if_neg (fun e => h e.symm)]
theorem size_setRow (W : World) (g : Nat) (cs : Array Value) : (W.setRow g cs).heap.size = W.heap.size := by simp [World.setRow]
structure Fr (S : Nat → Prop) (W W' : World) : Prop where
 os : W'.os = W.os
 tape : W'.tape = W.tape
 output : W'.output = W.output
 size : W.heap.size ≤ W'.heap.size
 block : ∀ k, k < W.heap.size → ¬ S k → W'.heap[k]? = W.heap[k]?
theorem Fr.refl (S : Nat → Prop) (W : World) : Fr S W W := ⟨rfl, rfl, rfl, Nat.le_refl _, fun _ _ _ => rfl⟩
theorem Fr.trans {S S' : Nat → Prop} {A B C : World} (h : Fr S A B) (k : Fr S' B C) (hs : ∀ i, i < A.heap.size → S' i → S i) : Fr S A C :=
 ⟨k.os.trans h.os, k.tape.trans h.tape, k.output.trans h.output, Nat.le_trans h.size k.size, fun i hi hn => (k.block i (Nat.lt_of_lt_of_le hi h.size) (fun e => hn (hs i hi e))).trans (h.block i hi hn)⟩
theorem Fr.drew {S : Nat → Prop} {A B : World} (h : Fr S A B) : Fr S A B.drew := ⟨h.os, h.tape, h.output, h.size, h.block⟩
theorem Fr.alloc {S : Nat → Prop} {A B : World} (h : Fr S A B) (o : Obj) : Fr S A (B.alloc o) :=
 h.trans (S' := fun _ => False) ⟨rfl, rfl, rfl, by simp, fun k hk _ => Below.heap_alloc _ _ _ hk⟩ (fun _ _ e => e.elim)
theorem Fr.setCell {S : Nat → Prop} {A B : World} (h : Fr S A B) (p : Addr) (v : Value) (hp : S p.block ∨ A.heap.size ≤ p.block) : Fr S A (B.setCell p v) :=
 h.trans (S' := fun k => k = p.block) ⟨rfl, rfl, rfl, by simp [World.setCell], fun k _ hn => Below.heap_setCell _ _ _ _ hn⟩ (fun i hi e => by
  subst e
  rcases hp with hp | hp
  ·exact hp
  ·omega)
theorem Fr.setRow {S : Nat → Prop} {A B : World} (h : Fr S A B) (g : Nat) (cs : Array Value) (hp : S g ∨ A.heap.size ≤ g) : Fr S A (B.setRow g cs) :=
 h.trans (S' := fun k => k = g) ⟨rfl, rfl, rfl, by rw [size_setRow]; exact Nat.le_refl _, fun k _ hn => heap_setRow_other _ _ _ _ hn⟩ (fun i hi e => by
  subst e
  rcases hp with hp | hp
  ·exact hp
  ·omega)
theorem Fr.grown {S : Nat → Prop} {A B C : World} {row : Option Nat} (h : Fr S A B) (hg : B.grownBy C row) (hr : ∀ k, row = some k → S k ∨ A.heap.size ≤ k) : Fr S A C :=
 h.trans (S' := fun k => row = some k) ⟨hg.os, hg.tape, hg.output, hg.size, fun k hk hn => hg.block k hk (fun e => hn e.symm)⟩ (fun i hi e => by
  rcases hr i e with hp | hp
  ·exact hp
  ·omega)
theorem Fr.below {S : Nat → Prop} {A B : World} (h : Fr S A B) (n : Nat) (hn : n ≤ A.heap.size) (hs : ∀ k, S k → n ≤ k) : Below n A B :=
 ⟨h.os, h.tape, h.output, h.size, fun k hk => h.block k (by omega) (fun e => by have := hs k e; omega)⟩
theorem Fr.of_below {A B : World} {n : Nat} (h : Below n A B) : Fr (fun k => n ≤ k) A B := ⟨h.os, h.tape, h.output, h.size, fun k _ hn => h.block k (by omega)⟩
theorem Fr.mono {S S' : Nat → Prop} {A B : World} (h : Fr S A B) (hs : ∀ k, S k → S' k) : Fr S' A B := ⟨h.os, h.tape, h.output, h.size, fun k hk hn => h.block k hk (fun e => hn (hs k e))⟩
theorem app_own {P : Program} {W : World} (B : Nat) (t ty e : TypeId) (i : TypeInfo) (z : Value) (size bytes : Nat) (ht : P.underlying t = some (.slice e)) (hi : P.info? e = some i) (hz : i.zero = some z)
  (hsize : i.size = size) (hby : i.bytes = bytes) (hzs : z.cells.size = size) (hsz : 0 < size)
  (v : Value) (n : Nat) (xs : List Value) (hown : W.ownsRow B e size v n xs)
  (a : Addr) (m c : Nat) (news : List Value) (hl : news.length = m * size) (hnews : ∀ j u, news[j]? = some u → W.cell? (a.add j) = some u) (h1 : ∀ u ∈ news, u.oneCell' = true)
  (h63 : n + m ≤ maxLen) (hbytes : (n + m) * bytes ≤ 140737488355328) (hbase : B ≤ W.heap.size) :
  ∃ v' w', (Builtin.append_ #[t, t] ty #[v, .slice (some a) m c]).run P W = .ok v' w' ∧ w'.ownsRow B e size v' (n + m) (xs ++ news) ∧ Fr (fun k => v.ownBlock = some k) W w' ∧ (∀ k, v'.ownBlock = some k → v.ownBlock = some k ∨ W.heap.size ≤ k) := by
 have wide : ∀ {w' : World} {v' : Value} {ys : List Value}, w'.ownsRow W.heap.size e size v' (n + m) ys → w'.ownsRow B e size v' (n + m) ys := fun h => by
  refine ⟨h.1, ?_⟩
  rcases h.2 with h2 | ⟨g, cap, cur, q1, q2, q3⟩
  ·exact .inl h2
  ·exact .inr ⟨g, cap, cur, q1, Nat.le_trans hbase q2, q3⟩
 have own : ∀ {w' : World} {v' : Value} {ys : List Value}, w'.ownsRow W.heap.size e size v' (n + m) ys → ∀ k, v'.ownBlock = some k → W.heap.size ≤ k := fun h k hk => by
  rcases h.2 with ⟨rfl, _⟩ | ⟨g, cap, cur, rfl, q2, q3⟩
  ·simp [Value.ownBlock] at hk
  ·simp [Value.ownBlock] at hk
   omega
 rcases hown.2 with ⟨rfl, rfl⟩ | ⟨g, cap, cur, rfl, q1, q2, q3, q4, q5, q6⟩
 ·obtain rfl : xs = [] := List.eq_nil_of_length_eq_zero (by simpa using hown.1)
  obtain ⟨v', w', hrun, r1, r2, _⟩ := run_append_own (P := P) W W.heap.size t ty e i z size bytes ht hi hz hsize hby hzs hsz (.slice none 0 0) 0 [] (World.ownsRow_nil W _ e size) a m c news hl hnews h1 h63 hbytes (Nat.le_refl _)
  exact ⟨v', w', hrun, wide r1, (Fr.refl _ W).grown r2 (fun k e => by simp [Value.ownBlock] at e), fun k hk => .inr (own r1 k hk)⟩
 ·by_cases hr : n + m ≤ cap
  ·obtain ⟨w', hrun, r1, r2⟩ := run_append_fits (P := P) W B t ty e i size ht hi hsize g n cap xs hown a m c news hl hnews h1 hr
   exact ⟨_, w', hrun, r1, (Fr.refl _ W).grown r2 (fun k e => .inl (by simpa [Value.ownBlock] using e)), fun k hk => .inl hk⟩
  ·obtain ⟨v', w', hrun, r1, r2⟩ := run_append_arg_grows (P := P) W t ty e i z size bytes ht hi hz hsize hby hzs hsz ⟨g, 0, none⟩ n cap xs hown.1 (fun j u hj => by
    have hj' : j < n * size := by rw [← hown.1]; exact (List.getElem?_eq_some_iff.1 hj).1
    rw [show ((⟨g, 0, none⟩ : Addr).add j) = ⟨g, j, none⟩ from by unfold Addr.add; split <;> simp_all, hown.cellAt j hj']
    exact hj) a m c news hl hnews (by omega) h63 hbytes
   exact ⟨v', w', hrun, wide r1, (Fr.refl _ W).grown r2 (fun k e => by cases e), fun k hk => .inr (own r1 k hk)⟩
theorem wpList_append_run {P : Program} (w : World) {ops : Array Oper} {rest : List Oper} {o : Oper} {a : Act} {Q : Exit → Act → World → Prop}
  (hg : o.guard = none) (s x : Operand) (t : TypeId) (hop : o.op = Op.call { callee := Callee.builtin Builtin.append, args := #[s, x], argTypes := #[t, t] })
  (v y v' : Value) (w' : World) (hs : a.eval s = v) (hx : a.eval x = y) (hrun : (Builtin.append_ #[t, t] o.type #[v, y]).run P w = .ok v' w') (hK : wpList P ops Q rest (a.put o.dst v') w') : wpList P ops Q (o :: rest) a w := by
 refine wpList_plain hg fun K hK' => ?_
 unfold Oper.wp
 simp [execOp, hop, resolve, invoke, builtin, hs, hx, hrun, Result.andThen]
 exact hK' _ _ hK
theorem blen (s : ByteArray) : s.data.toList.length = s.size := by simp
def cellsB (l : List UInt8) : List Value := l.map fun b => Value.int .u8 (b.toNat : Int)
structure KpC (b : Nat) (A B : World) : Prop where
 size : A.heap.size ≤ B.heap.size
 same : ∀ (k : Nat) (o : Obj), A.heap[k]? = some o → o.isCells = true → k ≠ b → B.heap[k]? = some o
theorem KpC.trans {b : Nat} {A B C : World} (h : KpC b A B) (k : KpC b B C) : KpC b A C := ⟨Nat.le_trans h.size k.size, fun i o hi ho hb => k.same i o (h.same i o hi ho hb) ho hb⟩
theorem KpC.put {b : Nat} (W : World) (l : Nat) (o o' : Obj) (h : W.heap[l]? = some o) (ho : o.isCells = false) : KpC b W (W.putObj l o') :=
 ⟨(grownBy_putObj' W l o').size, fun k u hk hu _ => by
  refine (World.putObj_heap_other (fun e => ?_)).trans hk
  subst e;rw [h] at hk
  cases hk
  rw [ho] at hu
  cases hu⟩
theorem Fr.put {S : Nat → Prop} (W : World) (l : Nat) (o' : Obj) (h : S l) : Fr S W (W.putObj l o') :=
 (Fr.refl S W).grown (grownBy_putObj' W l o') (fun k e => by cases e; exact .inl h)
section
variable {F : Fence} {n : Nat} {P : Program}
def SeqC {α : Type} (F : Fence) (n : Nat) (P : Program) (g : Nat) (lb : Array Value) (encs : α → Array Value) (b : Nat) (xs : List α) (w : World) : Prop :=
 ∀ (l : Nat) (J : Nat → World → Prop) (W : World), Below w.heap.size w W → (∀ k A A', J k A → Fr (fun c => W.heap.size ≤ c) A A' → J k A') →
  (∀ k x W1, J k W1 → xs[k]? = some x → YieldAt F (n - 1) P l (encs x) W1 fun e W' => e = .returned (.bool true) ∧ J (k + 1) W' ∧ KpC b W1 W') →
  J 0 W → CallsIn F n P g (#[.func (.yield l) #[] #[]] ++ lb) W fun e W' => (∃ v, e = .returned v) ∧ J xs.length W'
end
structure KpS (S : Nat → Prop) (A B : World) : Prop where
 size : A.heap.size ≤ B.heap.size
 same : ∀ (k : Nat) (o : Obj), A.heap[k]? = some o → o.isCells = true → ¬ S k → B.heap[k]? = some o
theorem KpS.trans {S : Nat → Prop} {A B C : World} (h : KpS S A B) (k : KpS S B C) : KpS S A C := ⟨Nat.le_trans h.size k.size, fun i o hi ho hb => k.same i o (h.same i o hi ho hb) ho hb⟩
theorem KpS.put {S : Nat → Prop} (W : World) (l : Nat) (o o' : Obj) (h : W.heap[l]? = some o) (ho : o.isCells = false) : KpS S W (W.putObj l o') :=
 ⟨(grownBy_putObj' W l o').size, fun k u hk hu _ => by
  refine (World.putObj_heap_other (fun e => ?_)).trans hk
  subst e;rw [h] at hk
  cases hk
  rw [ho] at hu
  cases hu⟩
theorem KpS.below {S : Nat → Prop} {A B : World} (h : Below A.heap.size A B) : KpS S A B := ⟨h.size, fun k o hk _ _ => (h.block k (Array.getElem?_eq_some_iff.1 hk).1).trans hk⟩
theorem KpS.fr {S : Nat → Prop} {A B : World} (h : Fr S A B) : KpS S A B := ⟨h.size, fun k o hk _ hs => (h.block k (Array.getElem?_eq_some_iff.1 hk).1 hs).trans hk⟩
section
variable {F : Fence} {n : Nat} {P : Program}
def SeqE {α : Type} (F : Fence) (n : Nat) (P : Program) (g : Nat) (lb : Array Value) (encs : α → Array Value) (Safe : Nat → Prop) (xs : List α) (Bad : α → Prop) (stops : Bool) (w : World) : Prop :=
 ∀ (l : Nat) (J : Nat → (Nat → Prop) → World → Prop) (Jz : World → Prop) (W : World), Below w.heap.size w W → (∀ k S A A', J k S A → Below A.heap.size A A' → J k S A') → (∀ A A', Jz A → Below A.heap.size A A' → Jz A') →
  (∀ k S A, J k S A → ∀ b, S b → b < A.heap.size ∧ ¬ Safe b) →
  (∀ k S x W1, J k S W1 → xs[k]? = some x → YieldAt F (n - 1) P l (encs x) W1 fun e W' => e = .returned (.bool true) ∧ (∃ S', J (k + 1) S' W') ∧ KpS S W1 W') →
  (∀ z S W1, stops = true → Bad z → J xs.length S W1 → YieldAt F (n - 1) P l (encs z) W1 fun e W' => e = .returned (.bool false) ∧ Jz W') →
  (∃ S, J 0 S W) → CallsIn F n P g (#[.func (.yield l) #[] #[]] ++ lb) W fun e W' => (∃ v, e = .returned v) ∧ ((stops = false ∧ ∃ S, J xs.length S W') ∨ (stops = true ∧ Jz W'))
theorem range_own {α : Type} {g : Operand} {ps : Array Tmp} {assign body : Code} {Q : Exit → Act → World → Prop} {a : Act} {w : World}
  (hro : F.round = none) (h1 : 1 ≤ n) {gf : Nat} {lb : Array Value} (hg : a.eval g = .func (.func gf) #[] lb) (hFg : F.fn gf) (eg : ∀ args w, (callFunc gf args).run P w = .ok (.enter gf args) w)
  {encs : α → Array Value} {Safe : Nat → Prop} {xs : List α} {Bad : α → Prop} {stops : Bool} {w0 : World} (hseq : SeqE F (n - 1) P gf lb encs Safe xs Bad stops w0) (id : Nat) (hb0 : Below w0.heap.size w0 w) (hps : ∀ x, (encs x).size = ps.size)
  (I : Nat → (Nat → Prop) → World → Prop) (hI : ∀ k S A A', I k S A → Below A.heap.size A A' → I k S A') (hIp : ∀ k S A l o o', I k S A → A.heap[l]? = some o → o.isCells = false → w.heap.size ≤ l → I k S (A.putObj l o'))
  (hIs : ∀ k S A, I k S A → ∀ b, S b → b < A.heap.size ∧ ¬ Safe b)
  (Iz : World → Prop) (hIz : ∀ A A', Iz A → Below A.heap.size A A' → Iz A') (hIzp : ∀ A l o o', Iz A → A.heap[l]? = some o → o.isCells = false → w.heap.size ≤ l → Iz (A.putObj l o')) (h0 : ∃ S, I 0 S w) (Mid : Nat → (Nat → Prop) → α → Act → World → Prop)
  (hMid : ∀ k S x a' A l o o', Mid k S x a' A → A.heap[l]? = some o → o.isCells = false → w.heap.size ≤ l → Mid k S x a' (A.putObj l o'))
  (hassign : ∀ (l k : Nat) (S : Nat → Prop) (x : α) (W : World) (K : Act → World → Prop), I k S W → (xs[k]? = some x ∨ (k = xs.length ∧ Bad x)) → w.heap.size ≤ W.heap.size → (∀ a' W', KeepsOthers W W' → KpS S W W' → Mid k S x a' W' → K a' W') →
   assign.wpIn (F.inRound l) (n - 1 - 1) P (Exit.then K (fun _ _ _ => False)) { tmps := (ps.zip (encs x)).foldl (fun t (p, v) => t.setIfInBounds p v) a.tmps, defers := [] } W)
  (hbody : ∀ (l k : Nat) (S : Nat → Prop) (x : α) (a' : Act) (W : World), Mid k S x a' W → xs[k]? = some x → body.wpIn (F.inRound l) (n - 1 - 1) P (fun e _ W' => e = .normal ∧ KeepsOthers W W' ∧ KpS S W W' ∧ ∃ S', I (k + 1) S' W') a' W)
  (hbodyZ : ∀ (l : Nat) (S : Nat → Prop) (x : α) (a' : Act) (W : World), Mid xs.length S x a' W → Bad x → body.wpIn (F.inRound l) (n - 1 - 1) P (fun e _ W' => e = .exit id ∧ KeepsOthers W W' ∧ Iz W') a' W)
  (hdoneZ : ∀ (D : Nat) (W : World), stops = true → w.heap.size ≤ D → Iz W → W.heap[D]? = some (.deferred (some [])) → (Code.exit id).wpIn F n P Q { a with defers := { target := .collected D, args := #[] } :: a.defers } W)
  (hdone : ∀ (D : Nat) (W : World), stops = false → w.heap.size ≤ D → (∃ S, I xs.length S W) → W.heap[D]? = some (.deferred (some [])) → Q .normal { a with defers := { target := .collected D, args := #[] } :: a.defers } W) :
  (Code.rangeFunc g ps assign body).wpIn F n P Q a w := by
 refine wpIn_rangeFunc ?_
 intro fn hfn
 rw [hro]
 obtain ⟨rc, hrc⟩ : ∃ rc : LoopState → Option Code → Loop, rc = fun st pe => { state := st, pending := pe, fn, tmps := a.tmps, params := ps, assign, body, defers := w.heap.size } := ⟨_, rfl⟩
 obtain ⟨W1, hW1⟩ : ∃ W1, (w.alloc (.deferred (some []))).alloc (.loop (rc .ready none)) = W1 := ⟨_, rfl⟩
 have hsz : W1.heap.size = w.heap.size + 2 := by rw [← hW1]; simp
 have hL1 : W1.heap[w.heap.size + 1]? = some (.loop (rc .ready none)) := by
  have := World.alloc_heap_new (w.alloc (.deferred (some []))) (.loop (rc .ready none))
  rw [World.size_alloc, hW1] at this;exact this
 have hK1 : W1.heap[w.heap.size]? = some (.deferred (some [])) := by
  rw [← hW1]
  exact (Below.heap_alloc _ _ _ (by simp)).trans (World.alloc_heap_new w _)
 have hfr : Fr (fun c => w.heap.size ≤ c) w W1 := by rw [← hW1]; exact ((Fr.refl _ w).alloc _).alloc _
 have hb1 : Below w0.heap.size w0 W1 := hb0.trans ((hfr.below w.heap.size (Nat.le_refl _) (fun _ h => h)).mono hb0.size)
 refine ⟨w.heap.size + 1, [{ target := .collected w.heap.size, args := #[] }], W1, { target := .fn (.func gf) lb, args := #[.func (.yield (w.heap.size + 1)) #[] #[]] }, W1, gf,
  #[.func (.yield (w.heap.size + 1)) #[] #[]] ++ lb, W1, ?_, ?_, ?_, ?_, fun _ => h1, ?_⟩
 ·rw [← hW1, hrc]
  exact run_enterLoop_outer _ _ _ _ _
 ·simp only [resolve, hg]
  simp [go_sem]
 ·intro f' hf'
  simp [Target.leads] at hf'
  subst hf';exact hFg
 ·simp [invoke, go_sem, eg]
 ·obtain ⟨S0, h0⟩ := h0
  have hbw : Below w.heap.size w W1 := hfr.below w.heap.size (Nat.le_refl _) (fun _ h => h)
  refine (hseq (w.heap.size + 1) (fun k S W => I k S W ∧ W.heap[w.heap.size + 1]? = some (.loop (rc .ready none)) ∧ W.heap[w.heap.size]? = some (.deferred (some []))) (fun W => Iz W ∧ W.heap[w.heap.size + 1]? = some (.loop (rc .done (some (.exit id)))) ∧ W.heap[w.heap.size]? = some (.deferred (some []))) W1 hb1 ?_ ?_ ?_ ?_ ?_ ⟨S0, hI 0 _ _ _ h0 hbw, hL1, hK1⟩).mono ?_
  ·rintro k S A A' ⟨hi, hl, hk⟩ hf
   have hlt := (Array.getElem?_eq_some_iff.1 hl).1
   have hlt2 := (Array.getElem?_eq_some_iff.1 hk).1
   exact ⟨hI k S A A' hi hf, (hf.block _ hlt).trans hl, (hf.block _ hlt2).trans hk⟩
  ·rintro A A' ⟨hi, hl, hk⟩ hf
   have hlt := (Array.getElem?_eq_some_iff.1 hl).1
   have hlt2 := (Array.getElem?_eq_some_iff.1 hk).1
   exact ⟨hIz A A' hi hf, (hf.block _ hlt).trans hl, (hf.block _ hlt2).trans hk⟩
  ·rintro k S A ⟨hi, hl, hk⟩
   exact hIs k S A hi
  ·rintro k S x W ⟨hi, hl, hk⟩ hx
   have hlt : w.heap.size + 1 < W.heap.size := (Array.getElem?_eq_some_iff.1 hl).1
   have hy := run_yield (P := P) (args := encs x) hl (by rw [hrc]; exact hps x)
   rw [hrc] at hy
   refine ⟨fn, _, assign, body, hy, roundIn_of_wpIn hfn (hassign _ k S x W _ hi (.inl hx) (by omega) (fun a' W' hko hkc hm => ?_))⟩
   have hl' := hko.same _ _ hl rfl
   have hk' := hko.same _ _ hk rfl
   have hlt' : w.heap.size + 1 < W'.heap.size := (Array.getElem?_eq_some_iff.1 hl').1
   refine ⟨_, run_beginRound hl' (by rw [hrc]), ?_⟩
   obtain ⟨busy, hbusy⟩ : ∃ busy : Loop, { rc .ready none with state := .busy } = busy := ⟨_, rfl⟩
   rw [hbusy]
   have hl2 : (W'.putObj (w.heap.size + 1) (.loop busy)).heap[w.heap.size + 1]? = some (.loop busy) := World.putObj_heap_same hlt'
   have hk2 : (W'.putObj (w.heap.size + 1) (.loop busy)).heap[w.heap.size]? = some (.deferred (some [])) := (World.putObj_heap_other (by omega)).trans hk'
   refine wpIn_mono (hbody _ k S x a' _ (hMid k S x a' W' _ _ _ hm hl' rfl (by omega)) hx) ?_
   rintro e a3 W3 ⟨rfl, hko3, hkc3, S', hi3⟩
   have hl3 := hko3.same _ _ hl2 rfl
   have hr := run_endRound (P := P) none hl3
   refine ⟨_, _, hr, rfl, ⟨S', ?_, ?_, ?_⟩, ?_⟩
   ·exact hIp _ _ _ _ _ _ hi3 hl3 rfl (by omega)
   ·rw [World.putObj_heap_same (Array.getElem?_eq_some_iff.1 hl3).1, ← hbusy, hrc]
    rfl
   ·exact (World.putObj_heap_other (by omega)).trans (hko3.same _ _ hk2 rfl)
   ·exact ((hkc.trans (KpS.put W' _ _ _ hl' rfl)).trans hkc3).trans (KpS.put W3 _ _ _ hl3 rfl)
  ·rintro x S W hst hx ⟨hi, hl, hk⟩
   have hlt : w.heap.size + 1 < W.heap.size := (Array.getElem?_eq_some_iff.1 hl).1
   have hy := run_yield (P := P) (args := encs x) hl (by rw [hrc]; exact hps x)
   rw [hrc] at hy
   refine ⟨fn, _, assign, body, hy, roundIn_of_wpIn hfn (hassign _ xs.length S x W _ hi (.inr ⟨rfl, hx⟩) (by omega) (fun a' W' hko hkc hm => ?_))⟩
   have hl' := hko.same _ _ hl rfl
   have hk' := hko.same _ _ hk rfl
   have hlt' : w.heap.size + 1 < W'.heap.size := (Array.getElem?_eq_some_iff.1 hl').1
   refine ⟨_, run_beginRound hl' (by rw [hrc]), ?_⟩
   obtain ⟨busy, hbusy⟩ : ∃ busy : Loop, { rc .ready none with state := .busy } = busy := ⟨_, rfl⟩
   rw [hbusy]
   have hl2 : (W'.putObj (w.heap.size + 1) (.loop busy)).heap[w.heap.size + 1]? = some (.loop busy) := World.putObj_heap_same hlt'
   have hk2 : (W'.putObj (w.heap.size + 1) (.loop busy)).heap[w.heap.size]? = some (.deferred (some [])) := (World.putObj_heap_other (by omega)).trans hk'
   refine wpIn_mono (hbodyZ _ S x a' _ (hMid xs.length S x a' W' _ _ _ hm hl' rfl (by omega)) hx) ?_
   rintro e a3 W3 ⟨rfl, hko3, hi3⟩
   have hl3 := hko3.same _ _ hl2 rfl
   have hr := run_endRound (P := P) (some (.exit id)) hl3
   refine ⟨_, _, hr, rfl, ?_, ?_, ?_⟩
   ·exact hIzp _ _ _ _ hi3 hl3 rfl (by omega)
   ·rw [World.putObj_heap_same (Array.getElem?_eq_some_iff.1 hl3).1, ← hbusy, hrc]
    rfl
   ·exact (World.putObj_heap_other (by omega)).trans (hko3.same _ _ hk2 rfl)
  ·rintro e W2 ⟨⟨v, rfl⟩, (⟨hst, S, hi, hl, hk⟩ | ⟨hst, hi, hl, hk⟩)⟩
   ·exact ⟨none, _, by have := run_endLoop (P := P) hl (by rw [hrc]; simp); rw [hrc] at this; exact this, hdone _ _ hst (Nat.le_refl _) ⟨S, hIp _ _ _ _ _ _ hi hl rfl (by omega)⟩ ((World.putObj_heap_other (by omega)).trans hk)⟩
   ·exact ⟨some (.exit id), _, by have := run_endLoop (P := P) hl (by rw [hrc]; simp); rw [hrc] at this; exact this, hdoneZ _ _ hst (Nat.le_refl _) (hIzp _ _ _ _ hi hl rfl (by omega)) ((World.putObj_heap_other (by omega)).trans hk)⟩
end
end Go.Proofs.YtjkiidhnmljmbaaGreatDoor
