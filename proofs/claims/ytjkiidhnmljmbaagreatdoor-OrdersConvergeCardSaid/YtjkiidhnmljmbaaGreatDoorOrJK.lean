/- Orders: the iterator over the postings that a sender is to send; what a tick does with them. -/
import Derived.RangeFuncNested
import Derived.RangeFuncBound
import Derived.RangeFuncCalls
import Derived.RangeFuncLeaves
import Derived.RangeFuncBox
import Derived.Shelf.Abstract
import Derived.Shelf.RegionOpen
import Derived.WalkKit
import Derived.OwnWalkIn
import Derived.TacticsInMore
import Derived.LoopNIn
import Derived.LoopIn
import Derived.RegionIn
import Derived.BigRegionIn
import Derived.Sort.CutIn
import Derived.WalkMore
import Derived.Deep.DeepCutAuto
import Derived.Test.YtjkiidhnmljmbaaGreatDoorOrF
set_option linter.unusedVariables false
set_option linter.unusedSimpArgs false
set_option maxRecDepth 100000
set_option maxHeartbeats 8000000
namespace Go.Proofs.YtjkiidhnmljmbaaGreatDoor
open Go.RowKit
theorem ownsRow_set {W : World} {B : Nat} {e : TypeId} {size g n cap : Nat} {xs : List Value} (h : W.ownsRow B e size (.slice (some ⟨g, 0, none⟩) n cap) n xs) (j : Nat) (u : Value) : (W.setCell ⟨g, j, none⟩ u).ownsRow B e size (.slice (some ⟨g, 0, none⟩) n cap) n (xs.set j u) := by
 refine ⟨by rw [List.length_set]; exact h.1, ?_⟩
 rcases h.2 with ⟨h2, _⟩ | ⟨g', cap', cur, q1, q2, q3, q4, q5, q6, q7⟩
 ·cases h2
 ·cases q1
  refine .inr ⟨g, cap, cur.setIfInBounds j u, rfl, q2, ?_, q4, q5, by simpa using q6, ?_⟩
  ·simp [World.setCell, Array.getElem?_modify, q3]
  ·rw [Array.toList_setIfInBounds, List.take_set, q7]
theorem set_same {α : Type} {l : List α} {j : Nat} {p : α} (h : l[j]? = some p) : l.set j p = l := by
 obtain ⟨hj, rfl⟩ := List.getElem?_eq_some_iff.1 h
 exact List.set_getElem_self hj
def Pst.due (p : Pst) (now : Int) : Bool := dueB p.sent p.at_ now
def Pst.upd (p : Pst) (now : Int) : Pst := if p.due now then ⟨p.fr, true, now⟩ else p
def updL (L : List Pst) (first j : Nat) (now : Int) : List Pst := L.mapIdx fun i p => if first ≤ i ∧ i < j then p.upd now else p
def sentL (L : List Pst) (first : Nat) (now : Int) : Nat → List (Nat × Int)
 | 0 => []
 | j + 1 => sentL L first now j ++ (match L[j]? with | some p => if first ≤ j ∧ p.due now = true then [(j, p.fr)] else [] | none => [])
theorem updL_len (L : List Pst) (first j : Nat) (now : Int) : (updL L first j now).length = L.length := by simp [updL]
theorem updL_get (L : List Pst) (first j : Nat) (now : Int) (i : Nat) : (updL L first j now)[i]? = (L[i]?).map fun p => if first ≤ i ∧ i < j then p.upd now else p := by simp [updL]
theorem updL_first (L : List Pst) (first : Nat) (now : Int) : updL L first first now = L := by
 refine List.ext_getElem? fun i => ?_
 rw [updL_get]
 cases L[i]? with
 | none => rfl
 | some p => simp only [Option.map_some]; rw [if_neg (by omega)]
theorem updL_at (L : List Pst) (first j : Nat) (now : Int) : (updL L first j now)[j]? = L[j]? := by
 rw [updL_get]
 cases L[j]? with
 | none => rfl
 | some p => simp only [Option.map_some]; rw [if_neg (by omega)]
theorem updL_succ (L : List Pst) (first j : Nat) (now : Int) (p : Pst) (hf : first ≤ j) (hp : L[j]? = some p) : updL L first (j + 1) now = (updL L first j now).set j (p.upd now) := by
 have hl := (List.getElem?_eq_some_iff.1 hp).1
 refine List.ext_getElem? fun i => ?_
 rw [updL_get, List.getElem?_set, updL_len]
 by_cases e : j = i
 ·subst e
  rw [if_pos rfl, if_pos hl, hp]
  simp only [Option.map_some]
  rw [if_pos ⟨hf, by omega⟩]
 ·rw [if_neg e, updL_get]
  cases L[i]? with
  | none => rfl
  | some q =>
   simp only [Option.map_some]
   by_cases h : first ≤ i ∧ i < j
   ·rw [if_pos h, if_pos ⟨h.1, by omega⟩]
   ·rw [if_neg h, if_neg (by omega)]
theorem updL_skip (L : List Pst) (first j : Nat) (now : Int) (p : Pst) (hf : first ≤ j) (hp : L[j]? = some p) (hd : p.due now = false) : updL L first (j + 1) now = updL L first j now := by
 rw [updL_succ L first j now p hf hp, show p.upd now = p by unfold Pst.upd; rw [hd]; rfl]
 exact set_same (by rw [updL_at]; exact hp)
theorem sentL_yes (L : List Pst) (first j : Nat) (now : Int) (p : Pst) (hf : first ≤ j) (hp : L[j]? = some p) (hd : p.due now = true) : sentL L first now (j + 1) = sentL L first now j ++ [(j, p.fr)] := by
 simp only [sentL, hp]
 rw [if_pos ⟨hf, hd⟩]
theorem sentL_no (L : List Pst) (first j : Nat) (now : Int) (p : Pst) (hp : L[j]? = some p) (hd : p.due now = false) : sentL L first now (j + 1) = sentL L first now j := by
 simp only [sentL, hp]
 rw [if_neg (by rw [hd]; simp)]
 simp
theorem sentL_start (L : List Pst) (first : Nat) (now : Int) : ∀ j, j ≤ first → sentL L first now j = []
 | 0, _ => rfl
 | j + 1, h => by
  simp only [sentL, sentL_start L first now j (by omega)]
  cases L[j]? with
  | none => rfl
  | some p => simp only [List.nil_append]; rw [if_neg (by omega)]
theorem sentL_len (L : List Pst) (first : Nat) (now : Int) : ∀ j, (sentL L first now j).length ≤ j
 | 0 => Nat.le_refl _
 | j + 1 => by
  have := sentL_len L first now j
  simp only [sentL, List.length_append]
  split
  ·split <;> simp <;> omega
  ·simp; omega
theorem pCells_set (q p : Pst) : ∀ (L : List Pst) (i j : Nat), L[j]? = some p → q.fr = p.fr → pCells i (L.set j q) = ((pCells i L).set (j * 28 + 26) (.bool q.sent)).set (j * 28 + 27) (.int .i64 q.at_)
 | [], _, _, h, _ => by simp at h
 | r :: l, i, 0, h, hf => by
  simp at h
  subst h
  simp only [List.set_cons_zero, pCells, Nat.zero_mul, Nat.zero_add]
  rw [List.set_append_left _ _ (by rw [pstC_len]; omega), List.set_append_left _ _ (by rw [List.length_set, pstC_len]; omega)]
  unfold pstC
  rw [hf]
  rfl
 | r :: l, i, j + 1, h, hf => by
  have := pCells_set q p l (i + 1) j (by simpa using h) hf
  simp only [List.set_cons_succ, pCells, this]
  rw [List.set_append_right _ _ (by rw [pstC_len]; omega), List.set_append_right _ _ (by rw [pstC_len]; omega), pstC_len, show (j + 1) * 28 + 26 - 28 = j * 28 + 26 by omega, show (j + 1) * 28 + 27 - 28 = j * 28 + 27 by omega]
def mCells (tn : Int) (l : List (Nat × Int)) : List Value := l.flatMap fun x => (msgA 1 tn ((x.1 : Int) + 1) 0 0 ((x.1 : Int) + 1) (-1) x.2 2 1).toList
theorem mCells_snoc (tn : Int) (l : List (Nat × Int)) (j : Nat) (f : Int) : mCells tn l ++ (msgA 1 tn ((j : Int) + 1) 0 0 ((j : Int) + 1) (-1) f 2 1).toList = mCells tn (l ++ [(j, f)]) := by simp [mCells]
theorem wanted_any (bs : Nat) (w : World) :
  Calls Tryz.prog 58 #[.pointer (some ⟨bs, 0, none⟩)] w fun e w' => e = .returned (.func (.func 85) #[] #[.pointer (some ⟨w.heap.size, 0, none⟩)]) ∧ w' = w.alloc (.cells #[.pointer (some ⟨bs, 0, none⟩)] 51) := by
 go_enter Tryz.func58, Tryz.ntmps58
 go_wp2
 go_ret;exact ⟨rfl, rfl⟩
theorem Blk.kpS {S : Nat → Prop} {W W' : World} {g : Nat} {t : TypeId} {l : List Value} (h : Blk W g t l) (hk : KpS S W W') (hs : ¬ S g) : Blk W' g t l := hk.same g _ h rfl hs
def firstW (k n : Nat) : Nat := if k = n then n - 1 else k
abbrev pEncs (g : Nat) (j : Nat) : Array Value := #[.pointer (some ⟨g, j * 28, none⟩)]
theorem wanted_seq (n : Nat) (hn : 1 ≤ n) (Bn bs g N cap k : Nat) (oa : Option Addr) (v0 v1 : Value) (w : World) (hN : N ≤ 1000000) (hk : k ≤ N) (hoa : 0 < N → oa = some ⟨g, 0, none⟩) (hbn : Blk w Bn 51 [.pointer (some ⟨bs, 0, none⟩)]) (hbs : Blk w bs 118 [v0, v1, .slice oa N cap, .int .i64 k]) :
  SeqE Fence.wide n Tryz.prog 85 #[.pointer (some ⟨Bn, 0, none⟩)] (pEncs g) (fun b => b = Bn ∨ b = bs) (List.range' (firstW k N) (N - firstW k N)) (fun _ => False) false w := fun l J Jz W hW hJ hJz hS hY hYz h0 => by
 obtain ⟨S0, h0⟩ := h0
 have HJ := Lib.hid hJ;have HS := Lib.hid hS;have HY := Lib.hid hY;have H0 := Lib.hid h0;have HOA := Lib.hid hoa
 have hbn1 : Blk W Bn 51 [.pointer (some ⟨bs, 0, none⟩)] := hbn.kept (hW.block Bn hbn.lt)
 have hbs1 : Blk W bs 118 [v0, v1, .slice oa N cap, .int .i64 k] := hbs.kept (hW.block bs hbs.lt)
 have c0 := hbn1.cell 0
 have d2 := hbs1.cell 2
 have d3 := hbs1.cell 3
 simp only [gz, gs] at c0 d2 d3
 have HBN := Lib.hid hbn1;have HBS := Lib.hid hbs1
 obtain ⟨f, hf⟩ : ∃ f, firstW k N = f := ⟨_, rfl⟩
 have hfN : f ≤ N := by rw [← hf]; unfold firstW; split <;> omega
 have HF := Lib.hid hf
 rw [hf] at HY ⊢
 obtain ⟨xs, hxs⟩ : ∃ xs, List.range' f (N - f) = xs := ⟨_, rfl⟩
 have hxl : xs.length = N - f := by rw [← hxs, List.length_range']
 have hxa : ∀ a, f + a < N → xs[a]? = some (f + a) := fun a ha => by rw [← hxs, List.getElem?_range' (by omega)]; simp
 rw [hxs] at HY ⊢
 have HXL := Lib.hid hxl;have HXA := Lib.hid hxa;clear h0 hW hbn hbs hbn1 hbs1 hJ hJz hS hY hYz hoa hf hxs hxl hxa
 refine callsIn_of_wp Tryz.func85 rfl trivial ?_ rfl
 simp only [Tryz.ntmps85, List.size_toArray, List.length_cons, List.length_nil, Nat.reduceAdd, Nat.reduceSub, Array.replicate_succ, Array.replicate_zero, List.push_toArray, List.append_toArray, List.nil_append, List.cons_append]
 rcases (show k < N ∨ (k = N ∧ 0 < N) ∨ (k = N ∧ N = 0) from by omega) with hc | ⟨hc, hc2⟩ | ⟨hc, hc2⟩
 ·have hfk : f = k := by rw [← HF.out]; unfold firstW; rw [if_neg (by omega)]
  subst hfk
  have q1 : ((f : Int) == (N : Int)) = false := by rw [beq_eq_false_iff_ne]; omega
  gi_wp2
  gi_loopw [5] (fun y wr => ∃ (a : Nat) (S : Nat → Prop), f + a ≤ N ∧ y = .int .i64 ((f + a : Nat) : Int) ∧ Hid (J a S wr) ∧ Hid (Blk wr Bn 51 [.pointer (some ⟨bs, 0, none⟩)]) ∧ Hid (Blk wr bs 118 [v0, v1, .slice oa N cap, .int .i64 f])) (fun y _ => N - (intOf y).toNat)
  case atStart => exact ⟨0, S0, hfN, rfl, H0, HBN, HBS⟩
  case round =>
   clear H0 HBN HBS c0 d2 d3
   obtain ⟨a, S, haN, rfl, HJr, HBr, HSr⟩ := hrel
   have c0 := HBr.out.cell 0
   have d2 := HSr.out.cell 2
   simp only [gz, gs] at c0 d2
   obtain ⟨j, hj⟩ : ∃ j, f + a = j := ⟨_, rfl⟩
   rw [hj] at haN ⊢
   by_cases hlt : j < N
   ·obtain rfl := HOA.out (by omega)
    have q3 : (j : Int) < (N : Int) := by omega
    obtain ⟨fn, tmps, assign, body, hy, hR⟩ := HY.out a S j wr HJr.out (by rw [HXA.out a (by omega), hj])
    have HR := Lib.hid hR;have HJJ := Lib.hid hj
    dsimp only [pEncs] at hy
    clear hR hj
    gi_wp2
    refine HR.out.mono ?_
    rintro e w4 ⟨rfl, ⟨S', hj4⟩, hk4⟩
    have HB4 := Lib.hid (HBr.out.kpS hk4 (fun h => (HS.out _ _ _ HJr.out _ h).2 (.inl rfl)))
    have HS4 := Lib.hid (HSr.out.kpS hk4 (fun h => (HS.out _ _ _ HJr.out _ h).2 (.inr rfl)))
    have HJ4 := Lib.hid hj4;clear c0 d2 hj4 hk4 hy
    gi_wp2
    go_roundw
    case rel => exact ⟨a + 1, S', by have := HJJ.out; omega, by rw [show f + (a + 1) = j + 1 by have := HJJ.out; omega]; go_num, HJ4, HB4, HS4⟩
    case measure => simp [intOf]; omega
   ·have q3 : ¬ (j : Int) < (N : Int) := by omega
    have HJE : Hid (J xs.length S wr) := by
     have e : xs.length = a := by rw [HXL.out]; omega
     rw [e];exact HJr.out
    clear hlt hj
    gi_wp2
    refine bodyPost_end (results_none rfl _ _ _) rfl ?_
    exact ⟨⟨_, rfl⟩, S, HJE.out⟩
 ·have hfk : f = N - 1 := by rw [← HF.out]; unfold firstW; rw [if_pos hc]
  subst hc
  have q0 : (k : Int) - 1 = (f : Int) := by omega
  have q1 : ((k : Int) == (k : Int)) = true := by simp
  have q2 : max (f : Int) 0 = (f : Int) := by omega
  clear HF hfk
  gi_wp2
  gi_loopw [5] (fun y wr => ∃ (a : Nat) (S : Nat → Prop), f + a ≤ k ∧ y = .int .i64 ((f + a : Nat) : Int) ∧ Hid (J a S wr) ∧ Hid (Blk wr Bn 51 [.pointer (some ⟨bs, 0, none⟩)]) ∧ Hid (Blk wr bs 118 [v0, v1, .slice oa k cap, .int .i64 k])) (fun y _ => k - (intOf y).toNat)
  case atStart => exact ⟨0, S0, hfN, rfl, H0, HBN, HBS⟩
  case round =>
   clear H0 HBN HBS c0 d2 d3
   obtain ⟨a, S, haN, rfl, HJr, HBr, HSr⟩ := hrel
   have c0 := HBr.out.cell 0
   have d2 := HSr.out.cell 2
   simp only [gz, gs] at c0 d2
   obtain ⟨j, hj⟩ : ∃ j, f + a = j := ⟨_, rfl⟩
   rw [hj] at haN ⊢
   by_cases hlt : j < k
   ·obtain rfl := HOA.out (by omega)
    have q3 : (j : Int) < (k : Int) := by omega
    obtain ⟨fn, tmps, assign, body, hy, hR⟩ := HY.out a S j wr HJr.out (by rw [HXA.out a (by omega), hj])
    have HR := Lib.hid hR;have HJJ := Lib.hid hj
    dsimp only [pEncs] at hy
    clear hR hj
    gi_wp2
    refine HR.out.mono ?_
    rintro e w4 ⟨rfl, ⟨S', hj4⟩, hk4⟩
    have HB4 := Lib.hid (HBr.out.kpS hk4 (fun h => (HS.out _ _ _ HJr.out _ h).2 (.inl rfl)))
    have HS4 := Lib.hid (HSr.out.kpS hk4 (fun h => (HS.out _ _ _ HJr.out _ h).2 (.inr rfl)))
    have HJ4 := Lib.hid hj4;clear c0 d2 hj4 hk4 hy
    gi_wp2
    go_roundw
    case rel => exact ⟨a + 1, S', by have := HJJ.out; omega, by rw [show f + (a + 1) = j + 1 by have := HJJ.out; omega]; go_num, HJ4, HB4, HS4⟩
    case measure => simp [intOf]; omega
   ·have q3 : ¬ (j : Int) < (k : Int) := by omega
    have HJE : Hid (J xs.length S wr) := by
     have e : xs.length = a := by rw [HXL.out]; omega
     rw [e];exact HJr.out
    clear hlt hj
    gi_wp2
    refine bodyPost_end (results_none rfl _ _ _) rfl ?_
    exact ⟨⟨_, rfl⟩, S, HJE.out⟩
 ·subst hc
  subst hc2
  obtain rfl : f = 0 := by omega
  gi_wp2
  gi_loopw [5] (fun y wr => ∃ (a : Nat) (S : Nat → Prop), 0 + a ≤ 0 ∧ y = .int .i64 ((0 + a : Nat) : Int) ∧ Hid (J a S wr) ∧ Hid (Blk wr Bn 51 [.pointer (some ⟨bs, 0, none⟩)]) ∧ Hid (Blk wr bs 118 [v0, v1, .slice oa 0 cap, .int .i64 0])) (fun y _ => 0 - (intOf y).toNat)
  case atStart => exact ⟨0, S0, hfN, rfl, H0, HBN, HBS⟩
  case round =>
   clear H0 HBN HBS c0 d2 d3
   obtain ⟨a, S, haN, rfl, HJr, HBr, HSr⟩ := hrel
   have c0 := HBr.out.cell 0
   have d2 := HSr.out.cell 2
   simp only [gz, gs] at c0 d2
   obtain ⟨j, hj⟩ : ∃ j, 0 + a = j := ⟨_, rfl⟩
   rw [hj] at haN ⊢
   by_cases hlt : j < 0
   ·exact absurd hlt (Nat.not_lt_zero _)
   ·have q3 : ¬ (j : Int) < (0 : Int) := by omega
    have HJE : Hid (J xs.length S wr) := by
     have e : xs.length = a := by rw [HXL.out]; omega
     rw [e];exact HJr.out
    clear hlt hj
    gi_wp2
    refine bodyPost_end (results_none rfl _ _ _) rfl ?_
    exact ⟨⟨_, rfl⟩, S, HJE.out⟩
attribute [local go_sem] Oper.semAt_some
def setsL : List Value → Nat → List Value → List Value
 | l, _, [] => l
 | l, o, v :: r => setsL (l.set o v) (o + 1) r
theorem setsL_len : ∀ (vs : List Value) (l : List Value) (o : Nat), (setsL l o vs).length = l.length
 | [], _, _ => rfl
 | v :: r, l, o => by rw [setsL, setsL_len r, List.length_set]
theorem Blk.sets {g : Nat} {t : TypeId} : ∀ (vs : List Value) (o : Nat) {l : List Value} {W : World}, Blk W g t l → Blk (W.setCells g o vs) g t (setsL l o vs)
 | [], _, _, _, h => h
 | v :: r, o, l, W, h => Blk.sets r (o + 1) (h.set o v)
theorem heap_setCells (g : Nat) (c : Nat) (hc : c ≠ g) : ∀ (vs : List Value) (o : Nat) (W : World), (W.setCells g o vs).heap[c]? = W.heap[c]?
 | [], _, _ => rfl
 | v :: r, o, W => (heap_setCells g c hc r (o + 1) _).trans (Below.heap_setCell _ _ _ _ hc)
theorem Fr.setCells {S : Nat → Prop} {A : World} (g : Nat) : ∀ (vs : List Value) (o : Nat) {Z : World}, Fr S A Z → (S g ∨ A.heap.size ≤ g) → Fr S A (Z.setCells g o vs)
 | [], _, _, h, _ => h
 | v :: r, o, _, h, hg => Fr.setCells g r (o + 1) (h.setCell ⟨g, o, none⟩ v hg) hg
theorem Blk.there {W : World} {g : Nat} {t : TypeId} {l : List Value} (h : Blk W g t l) (o n : Nat) (hn : o + n ≤ l.length) : W.there g o n := fun j hj =>
 ⟨by rw [h.cell, List.getElem?_eq_getElem (by omega)]; rfl, h.frozen _⟩
theorem msg_sets (tn q f : Int) : setsL (setsL lZm 0 (msgA 1 tn q 0 0 0 0 0 0 0).toList) 5 (ordA q (-1) f 2 1).toList = (lQ tn q f) := by kernel_rfl
theorem step_storeRow {ops : Array Oper} {o : Oper} {a : Act} {K : Act → World → Prop} {Q : Exit → Act → World → Prop} {E : Prop} {W : World} (hgd : o.guard = none) (ty : TypeId) (x y : Operand) (ho : o.op = .store ty x y)
  (g : Nat) (t : TypeId) (l : List Value) (cells : Array Value) (hx : a.eval x = .pointer (some ⟨g, 0, none⟩)) (hy : a.eval y = .agg cells) (hk : Blk W g t l) (hl : cells.size ≤ l.length) (hi : (Tryz.prog.info? ty).map (·.size) = some cells.size) (h1 : cells.all (·.oneCell') = true)
  (hK : K (a.put o.dst undef) (W.setCells g 0 cells.toList)) :
  if Region.wanted o (yielded ops a.tmps) = true then Oper.wp Tryz.prog o a W K Q else E := by
 have hw : Region.wanted o (yielded ops a.tmps) = true := by simp [Region.wanted, hgd]
 rw [if_pos hw]
 exact wp_store_mid ty x y ho g 0 cells hx hy (hk.there 0 _ (by omega)) hi h1 hK
theorem Fr.othersC {S : Nat → Prop} {W W' : World} (h : Fr S W W') (hS : ∀ k o, S k → W.heap[k]? = some o → o.isCells = true) : KeepsOthers W W' :=
 ⟨h.size, fun k o hk ho => by
  refine (h.block k (Array.getElem?_eq_some_iff.1 hk).1 (fun hs => ?_)).trans hk
  rw [hS k o hs hk] at ho
  cases ho⟩
structure TkI (W : World) (N B bs : Nat) (tn : Int) (vp : Value) (k : Nat) (now : Int) (Lc : List Pst) (Ms : List (Nat × Int)) (vl : Value) (A : World) : Prop where
 sn : SnAt A B bs tn vp Lc k
 b1 : Blk A N 51 [.pointer (some ⟨bs, 0, none⟩)]
 b2 : Blk A (N + 1) 3 [.int .i64 now]
 lb : Blk A (N + 2) 55 [vl]
 own : A.ownsRow (N + 4) 32 31 vl Ms.length (mCells tn Ms)
 fr : Fr (fun c => vp.ownBlock = some c) W A
 nz : W.heap.size = N
 sz : N + 4 ≤ A.heap.size
 far : ∀ c, vp.ownBlock = some c → c < N
 bsN : bs < N
def TkF (N : Nat) (vp vl : Value) (c : Nat) : Prop := vp.ownBlock = some c ∨ c = N + 2 ∨ vl.ownBlock = some c
section
variable {W : World} {N B bs : Nat} {tn : Int} {vp : Value} {k : Nat} {now : Int} {Lc : List Pst} {Ms : List (Nat × Int)} {vl : Value} {A A' : World}
theorem TkI.turn (h : TkI W N B bs tn vp k now Lc Ms vl A) {S : Nat → Prop} (hf : Fr S A A') (hS : ∀ c, S c → N + 4 ≤ c ∧ vl.ownBlock ≠ some c) : TkI W N B bs tn vp k now Lc Ms vl A' := by
 have hz := h.sz
 have hb := h.bsN
 have no : ∀ c, c < N + 4 → ¬ S c := fun c hc hs => by have := (hS c hs).1; omega
 refine ⟨⟨h.sn.blk.kept (hf.block _ h.sn.blk.lt (no _ (by omega))), ownsRow_keptF h.sn.own (fun g e => hf.block g (own_lt h.sn.own g e) (no _ (by have := h.far g e; omega))), h.sn.ge, h.sn.ne⟩, h.b1.kept (hf.block _ h.b1.lt (no _ (by omega))), h.b2.kept (hf.block _ h.b2.lt (no _ (by omega))), h.lb.kept (hf.block _ h.lb.lt (no _ (by omega))), ownsRow_keptF h.own (fun g e => hf.block g (own_lt h.own g e) (fun hs => (hS g hs).2 e)), h.fr.trans hf (fun i hi hs => ?_), h.nz, Nat.le_trans hz hf.size, h.far, hb⟩
 have := (hS i hs).1
 have := h.nz
 omega
theorem TkI.below (h : TkI W N B bs tn vp k now Lc Ms vl A) (hb : Below A.heap.size A A') : TkI W N B bs tn vp k now Lc Ms vl A' := h.turn (Fr.under (fun _ => False) hb) (fun _ e => e.elim)
theorem TkI.put (h : TkI W N B bs tn vp k now Lc Ms vl A) {l : Nat} {o : Obj} (hl : A.heap[l]? = some o) (ho : o.isCells = false) (hn : N + 4 ≤ l) (o' : Obj) : TkI W N B bs tn vp k now Lc Ms vl (A.putObj l o') := by
 refine h.turn (Fr.put (S := fun c => c = l) A l o' rfl) (fun c hc => ?_)
 subst hc
 refine ⟨hn, fun e => ?_⟩
 rcases h.own.2 with ⟨h2, _⟩ | ⟨g, cap, cur, h2, _, h3, _⟩
 ·rw [h2] at e
  simp [Value.ownBlock] at e
 ·rw [h2] at e
  simp [Value.ownBlock] at e
  subst e;rw [hl] at h3
  cases h3
  cases ho
theorem TkI.safe (h : TkI W N B bs tn vp k now Lc Ms vl A) (b : Nat) (hb : TkF N vp vl b) : b < A.heap.size ∧ ¬ (b = N + 3 ∨ b = bs) := by
 have hz := h.sz
 have hn := h.bsN
 rcases hb with h1 | h1 | h1
 ·have := h.far b h1
  exact ⟨by omega, fun e => e.elim (fun e => by omega) (fun e => h.sn.ne b h1 e)⟩
 ·exact ⟨by omega, by omega⟩
 ·have := own_ge h.own b h1
  exact ⟨own_lt h.own b h1, by omega⟩
theorem TkI.cells (h : TkI W N B bs tn vp k now Lc Ms vl A) (b : Nat) (hb : TkF N vp vl b) (o : Obj) (ho : A.heap[b]? = some o) : o.isCells = true := by
 have row : ∀ {v : Value} {B : Nat} {t : TypeId} {size n : Nat} {xs : List Value}, A.ownsRow B t size v n xs → v.ownBlock = some b → o.isCells = true := fun {v B t size n xs} h1 h2 => by
  rcases h1.2 with ⟨h3, _⟩ | ⟨g, cap, cur, h3, _, h4, _⟩
  ·rw [h3] at h2
   simp [Value.ownBlock] at h2
  ·rw [h3] at h2
   simp [Value.ownBlock] at h2
   subst h2;rw [ho] at h4
   cases h4
   rfl
 rcases hb with h1 | h1 | h1
 ·exact row h.sn.own h1
 ·subst h1
  have := h.lb
  unfold Blk at this
  rw [ho] at this
  cases this
  rfl
 ·exact row h.own h1
theorem TkI.cellAt {g n cap j : Nat} {p : Pst} (h : TkI W N B bs tn (.slice (some ⟨g, 0, none⟩) n cap) k now Lc Ms vl A) (hp : Lc[j]? = some p) :
  A.cell? ⟨g, j * 28, none⟩ = some (.int .i64 ((j : Int) + 1)) ∧ A.rangeAt g (j * 28) (drA ((j : Int) + 1) p.fr).toList := by
 obtain ⟨g', cap', hv, hgl, _, hc⟩ := h.sn.cells hp
 simp only [Value.slice.injEq, Option.some.injEq, Addr.mk.injEq] at hv
 obtain rfl := hv.1.1
 refine ⟨hc 0 (by omega), fun t v ht => ?_⟩
 have htl : t < 26 := (List.getElem?_eq_some_iff.1 ht).1
 rw [hc t (by omega)]
 unfold pstC
 rw [List.getElem?_append_left (show t < 26 from htl)];exact ht
theorem TkI.mark {g n cap j : Nat} {p : Pst} (h : TkI W N B bs tn (.slice (some ⟨g, 0, none⟩) n cap) k now Lc Ms vl A) (hp : Lc[j]? = some p) :
  TkI W N B bs tn (.slice (some ⟨g, 0, none⟩) n cap) k now (Lc.set j ⟨p.fr, true, now⟩) Ms vl ((A.setCell ⟨g, j * 28 + 26, none⟩ (.bool true)).setCell ⟨g, j * 28 + 27, none⟩ (.int .i64 now)) := by
 have hg : g < N := h.far g rfl
 have hgb : bs ≠ g := fun e => h.sn.ne g rfl e.symm
 have hz := h.sz
 have ho := h.sn.own
 obtain ⟨oa, cap', he⟩ := own_slice ho
 simp only [Value.slice.injEq] at he
 obtain ⟨_, hn, _⟩ := he
 subst hn
 have hset := ownsRow_set (ownsRow_set ho (j * 28 + 26) (.bool true)) (j * 28 + 27) (.int .i64 now)
 rw [← pCells_set ⟨p.fr, true, now⟩ p Lc 0 j hp rfl] at hset
 have hg2 : ∀ c, vl.ownBlock = some c → c ≠ g := fun c e => by have := own_ge h.own c e; omega
 refine ⟨⟨(h.sn.blk.other _ (fun e => hgb e.symm) _).other _ (fun e => hgb e.symm) _, by rw [List.length_set]; exact hset, h.sn.ge, h.sn.ne⟩, (h.b1.other _ (show g ≠ N by omega) _).other _ (show g ≠ N by omega) _, (h.b2.other _ (show g ≠ N + 1 by omega) _).other _ (show g ≠ N + 1 by omega) _, (h.lb.other _ (show g ≠ N + 2 by omega) _).other _ (show g ≠ N + 2 by omega) _, ownsRow_keptF h.own (fun c e => (Below.heap_setCell _ _ _ _ (hg2 c e)).trans (Below.heap_setCell _ _ _ _ (hg2 c e))), (h.fr.setCell ⟨g, j * 28 + 26, none⟩ _ (.inl rfl)).setCell ⟨g, j * 28 + 27, none⟩ _ (.inl rfl), h.nz, by simpa [World.setCell] using h.sz, h.far, h.bsN⟩
theorem TkI.app {j n' cap' : Nat} {f : Int} {oa : Option Addr} (h : TkI W N B bs tn vp k now Lc Ms vl A) (ho : A'.ownsRow (N + 4) 32 31 (.slice oa n' cap') (Ms.length + 1) (mCells tn Ms ++ (msgA 1 tn ((j : Int) + 1) 0 0 ((j : Int) + 1) (-1) f 2 1).toList)) (hf : Fr (fun c => vl.ownBlock = some c) A A') (hnew : ∀ c, (Value.slice oa n' cap').ownBlock = some c → vl.ownBlock = some c ∨ A.heap.size ≤ c) :
  TkI W N B bs tn vp k now Lc (Ms ++ [(j, f)]) (.slice oa n' cap') (A'.setCell ⟨N + 2, 0, none⟩ (.slice oa n' cap')) := by
 have hz := h.sz
 have hb := h.bsN
 have hsz := hf.size
 have no : ∀ c, c < N + 4 → ¬ vl.ownBlock = some c := fun c hc hs => by have := own_ge h.own c hs; omega
 rw [mCells_snoc] at ho
 have hN2 : ∀ c, (Value.slice oa n' cap').ownBlock = some c → c ≠ N + 2 := fun c e => (hnew c e).elim (fun e => by have := own_ge h.own c e; omega) (fun e => by omega)
 refine ⟨⟨(h.sn.blk.kept (hf.block _ h.sn.blk.lt (no _ (by omega)))).other _ (show N + 2 ≠ bs by omega) _, ownsRow_keptF h.sn.own (fun g e => (Below.heap_setCell _ _ _ _ (show g ≠ N + 2 by have := h.far g e; omega)).trans (hf.block g (own_lt h.sn.own g e) (no _ (by have := h.far g e; omega)))), h.sn.ge, h.sn.ne⟩, (h.b1.kept (hf.block _ h.b1.lt (no _ (by omega)))).other _ (show N + 2 ≠ N by omega) _, (h.b2.kept (hf.block _ h.b2.lt (no _ (by omega)))).other _ (show N + 2 ≠ N + 1 by omega) _, (h.lb.kept (hf.block _ h.lb.lt (no _ (by omega)))).set 0 _, ?_, ?_, h.nz, by simp [World.setCell]; omega, h.far, hb⟩
 ·rw [List.length_append]
  exact ownsRow_keptF ho (fun c e => Below.heap_setCell _ _ _ _ (hN2 c e))
 ·exact (h.fr.trans hf (fun i hi e => by have := own_ge h.own i e; have := h.nz; omega)).setCell ⟨N + 2, 0, none⟩ _ (.inr (by have := h.nz; show _ ≤ N + 2; omega))
end
def TickP (W : World) (B bs : Nat) (tn : Int) (vp : Value) (L : List Pst) (k : Nat) (now : Int) (e : Ending) (w' : World) : Prop :=
 ∃ vl, e = .returned vl ∧ w'.ownsRow W.heap.size 32 31 vl (sentL L (firstW k L.length) now L.length).length (mCells tn (sentL L (firstW k L.length) now L.length)) ∧ SnAt w' B bs tn vp (updL L (firstW k L.length) L.length now) k ∧ Fr (fun c => vp.ownBlock = some c) W w'
theorem own_frozen {W : World} {B : Nat} {e : TypeId} {size g n' cap n : Nat} {xs : List Value} (h : W.ownsRow B e size (.slice (some ⟨g, 0, none⟩) n' cap) n xs) (j : Nat) : W.frozen? ⟨g, j, none⟩ = false := by
 rcases h.2 with ⟨h2, _⟩ | ⟨g', cap', cur, q1, _, q3, _⟩
 ·cases h2
 ·simp only [Value.slice.injEq, Option.some.injEq, Addr.mk.injEq] at q1
  obtain rfl := q1.1.1
  simp [World.frozen?, q3]
theorem own_weakF {W : World} {B B' : Nat} {e : TypeId} {size : Nat} {v : Value} {n : Nat} {xs : List Value} (h : W.ownsRow B e size v n xs) (hb : B' ≤ B) : W.ownsRow B' e size v n xs := by
 refine ⟨h.1, ?_⟩
 rcases h.2 with h2 | ⟨g, cap, cur, q1, q2, q3⟩
 ·exact .inl h2
 ·exact .inr ⟨g, cap, cur, q1, Nat.le_trans hb q2, q3⟩
theorem postM_mark' {n D : Nat} {fn : Func} {tmps : Array Value} {Q : Ending → World → Prop} {w : World} {v : Value} (hD : w.heap[D]? = some (.deferred (some [])))
  (hr : (results fn tmps).run Tryz.prog (w.putObj D (.deferred none)) = .ok v (w.putObj D (.deferred none))) (h : Q (.returned v) (w.putObj D (.deferred none))) :
  bodyPostM Fence.wide n Tryz.prog fn Q .ret { tmps := tmps, defers := [{ target := .collected D, args := #[] }] } w :=
 ⟨by simp, .inl ⟨D, _, rfl, run_takeDeferred (P := Tryz.prog) hD, ⟨v, hr, h⟩⟩⟩
theorem tick_start {W w1 w2 w3 w4 : World} {N B bs k : Nat} {tn now : Int} {vp : Value} {L : List Pst} (h : SnAt W B bs tn vp L k) (hN : W.heap.size = N) (hw1 : W.alloc (.cells #[.pointer (some ⟨bs, 0, none⟩)] 51) = w1) (hw2 : w1.alloc (.cells #[.int .i64 now] 3) = w2) (hw3 : w2.alloc (.cells #[.slice none 0 0] 55) = w3) (hw4 : w3.alloc (.cells #[.pointer (some ⟨bs, 0, none⟩)] 51) = w4) :
  (TkI W N B bs tn vp k now L [] (.slice none 0 0) w4 ∧ Blk w4 (N + 3) 51 [.pointer (some ⟨bs, 0, none⟩)]) ∧ (Blk w2 N 51 [.pointer (some ⟨bs, 0, none⟩)] ∧ Blk w2 (N + 1) 3 [.int .i64 now] ∧ Blk w3 N 51 [.pointer (some ⟨bs, 0, none⟩)]) ∧ (w1.heap.size = N + 1 ∧ w2.heap.size = N + 2 ∧ w3.heap.size = N + 3 ∧ w4.heap.size = N + 4) ∧ Below W.heap.size W w2 := by
 have n1 : Blk (W.alloc (.cells #[.pointer (some ⟨bs, 0, none⟩)] 51)) N 51 [.pointer (some ⟨bs, 0, none⟩)] := by rw [← hN]; exact Blk.new W _ _
 have z1 : w1.heap.size = N + 1 := by rw [← hw1, World.size_alloc, hN]
 rw [hw1] at n1
 have n2 : Blk (w1.alloc (.cells #[.int .i64 now] 3)) (N + 1) 3 [.int .i64 now] := by rw [← z1]; exact Blk.new w1 _ _
 have z2 : w2.heap.size = N + 2 := by rw [← hw2, World.size_alloc, z1]
 have m1 := n1.alloc (.cells #[.int .i64 now] 3)
 rw [hw2] at n2 m1
 have n3 : Blk (w2.alloc (.cells #[.slice none 0 0] 55)) (N + 2) 55 [.slice none 0 0] := by rw [← z2]; exact Blk.new w2 _ _
 have z3 : w3.heap.size = N + 3 := by rw [← hw3, World.size_alloc, z2]
 have m2 := m1.alloc (.cells #[.slice none 0 0] 55)
 have l2 := n2.alloc (.cells #[.slice none 0 0] 55)
 rw [hw3] at n3 m2 l2
 have n4 : Blk (w3.alloc (.cells #[.pointer (some ⟨bs, 0, none⟩)] 51)) (N + 3) 51 [.pointer (some ⟨bs, 0, none⟩)] := by rw [← z3]; exact Blk.new w3 _ _
 have z4 : w4.heap.size = N + 4 := by rw [← hw4, World.size_alloc, z3]
 have m3 := m2.alloc (.cells #[.pointer (some ⟨bs, 0, none⟩)] 51)
 have l3 := l2.alloc (.cells #[.pointer (some ⟨bs, 0, none⟩)] 51)
 have k3 := n3.alloc (.cells #[.pointer (some ⟨bs, 0, none⟩)] 51)
 rw [hw4] at n4 m3 l3 k3
 have hb2 : Below W.heap.size W w2 := by
  rw [← hw2, ← hw1]
  exact (((Below.refl _ W).alloc (Nat.le_refl _) _).alloc (by simp) _)
 have hb : Below W.heap.size W w4 := by
  rw [← hw4, ← hw3]
  exact (hb2.alloc (by omega) _).alloc (by simp; omega) _
 exact ⟨⟨⟨h.below hb, m3, l3, k3, World.ownsRow_nil _ _ _ _, Fr.under _ hb, hN, by omega, fun c hc => by rw [← hN]; exact own_lt h.own c hc, by rw [← hN]; exact h.blk.lt⟩, n4⟩, ⟨m1, n2, m2⟩, ⟨z1, z2, z3, z4⟩, hb2⟩
theorem tick_any (W : World) (B bs : Nat) (tn : Int) (vp : Value) (L : List Pst) (k : Nat) (now : Int) (h : SnAt W B bs tn vp L k) (hk : k ≤ L.length) (hL : L.length ≤ 200) (n0 : 0 ≤ now) (n1 : now ≤ 1000000000) (hat : ∀ p ∈ L, 0 ≤ p.at_ ∧ p.at_ ≤ 1000000000) :
  Calls Tryz.prog 20 #[.pointer (some ⟨bs, 0, none⟩), .int .i64 now] W (TickP W B bs tn vp L k now) := by
 obtain ⟨N, hN⟩ : ∃ N, W.heap.size = N := ⟨_, rfl⟩
 obtain ⟨ov, cv, rfl⟩ := own_slice h.own
 obtain ⟨n, hn⟩ : ∃ n, L.length = n := ⟨_, rfl⟩
 obtain ⟨g, hg⟩ : ∃ g, 0 < n → ov = some ⟨g, 0, none⟩ := by
  rcases h.own.2 with ⟨h2, h3⟩ | ⟨g, cap, cur, h2, _⟩
  ·exact ⟨0, fun h => by omega⟩
  ·simp only [Value.slice.injEq] at h2
   exact ⟨g, fun _ => h2.1⟩
 obtain ⟨w1, hw1⟩ : ∃ w1, W.alloc (.cells #[.pointer (some ⟨bs, 0, none⟩)] 51) = w1 := ⟨_, rfl⟩
 obtain ⟨w2, hw2⟩ : ∃ w2, w1.alloc (.cells #[.int .i64 now] 3) = w2 := ⟨_, rfl⟩
 obtain ⟨w3, hw3⟩ : ∃ w3, w2.alloc (.cells #[.slice none 0 0] 55) = w3 := ⟨_, rfl⟩
 obtain ⟨w4, hw4⟩ : ∃ w4, w3.alloc (.cells #[.pointer (some ⟨bs, 0, none⟩)] 51) = w4 := ⟨_, rfl⟩
 obtain ⟨⟨hs1, hs2⟩, ⟨hs3, hs4, hs5⟩, ⟨hz1, hz2, hz3, hz4⟩, hb2⟩ := tick_start h hN hw1 hw2 hw3 hw4
 have HBN := Lib.hid hs2;have HB2 := Lib.hid hb2
 have HLV := Lib.hid (slives_any bs _ _ _ w2 (h.blk.kept (hb2.block _ h.blk.lt)))
 have c0 := hs3.cell 0
 have c1 := hs4.cell 0
 have e0 := hs5.cell 0
 simp only [List.getElem?_cons_zero] at c0 c1 e0
 have hsq := wanted_seq 4 (by decide) (N + 3) bs g n cv k ov (.int .i64 tn) (.bool true) w4 (by omega) (by omega) hg hs2 (by have := hs1.sn.blk; rw [hn] at this; exact this)
 have HSQ := Lib.hid hsq;have HZ4 := Lib.hid hz4;have HW4 := Lib.hid hw4;have HAT := Lib.hid hat;rw [hn] at hk hL hs1;have HT0 := Lib.hid hs1;have HNN := Lib.hid hn;have HG := Lib.hid hg
 have q1 : ¬ now < 0 := by omega
 obtain ⟨f, hf⟩ : ∃ f, firstW k n = f := ⟨_, rfl⟩
 have hfN : f ≤ n := by rw [← hf]; unfold firstW; split <;> omega
 have HF := Lib.hid hf;rw [hf] at HSQ;rw [hn];clear hw4 h hat hn hs1 hs2 hs3 hs4 hs5 hz4 hb2 hsq hg hf
 refine callsIn_wide.1 (callsIn_of_wp_marks (n := 5) Tryz.func20 rfl trivial ?_ rfl)
 refine wpIn_wide.2 ?_
 simp only [Tryz.ntmps20, List.size_toArray, List.length_cons, List.length_nil, Nat.reduceAdd, Nat.reduceSub, Array.replicate_succ, Array.replicate_zero, List.push_toArray, List.append_toArray, List.nil_append, List.cons_append]
 go_upto_region 1 with (fail)
 go_step3
 go_upto_region 1 with (fail)
 go_wp2_with fail
 refine HLV.out.mono ?_
 rintro e w' ⟨rfl, rfl⟩
 go_wp2_with fail
 go_step3
 go_wp2_with fail
 refine (wanted_any bs _).mono ?_
 rintro e w' ⟨rfl, hww⟩;rw [HW4.out] at hww
 obtain rfl : w4 = w' := hww.symm
 rw [hz3]
 go_wp2_with fail
 clear c0 c1 e0 hz1 hz2 hz3 hw1 hw2 hw3 HLV HB2 HW4
 refine (wpIn_wide (n := 5)).1 ?_
 refine range_own (Safe := fun b => b = N + 3 ∨ b = bs) (xs := List.range' f (n - f)) (Bad := fun _ => False) (stops := false) (encs := pEncs g) (w0 := w4) rfl (by decide) (gf := 85) (lb := #[.pointer (some ⟨N + 3, 0, none⟩)]) rfl trivial (enters_of Tryz.func85 (by kernel_rfl) rfl)
  HSQ.out 0 (Below.refl _ _) (fun _ => rfl)
  (fun a S A => ∃ vl, S = TkF N (.slice ov n cv) vl ∧ TkI W N B bs tn (.slice ov n cv) k now (updL L f (f + a) now) (sentL L f now (f + a)) vl A) ?hI ?hIp ?hIs
  (fun _ => False) (fun _ _ h _ => h.elim) (fun _ _ _ _ h _ _ _ => h.elim) ⟨_, _, rfl, by rw [Nat.add_zero, updL_first, sentL_start L f now f (Nat.le_refl _)]; exact HT0.out⟩
  (fun a S x a' A => ∃ vl, a' = { tmps := #[.pointer (some ⟨bs, 0, none⟩), .int .i64 now, .pointer (some ⟨N, 0, none⟩), .pointer (some ⟨N + 1, 0, none⟩), .slice none 0 0, .pointer (some ⟨N + 2, 0, none⟩), .pointer (some ⟨g, x * 28, none⟩), undef, .pointer (some ⟨bs, 0, none⟩), .bool true, .bool false, .bool false, .int .i64 now, .bool (decide (now < 0)), .bool (decide (now < 0)), .pointer (some ⟨bs, 0, none⟩), .func (.func 85) #[] #[.pointer (some ⟨N + 3, 0, none⟩)], .pointer (some ⟨g, x * 28, none⟩), undef, undef, undef, undef, undef, undef, undef, undef, undef, undef, undef, undef, undef, undef, undef, undef, undef, undef, undef, undef, undef, undef, undef, undef, undef, undef, undef, undef, undef, undef, undef, undef], defers := [] } ∧ S = TkF N (.slice ov n cv) vl ∧ TkI W N B bs tn (.slice ov n cv) k now (updL L f (f + a) now) (sentL L f now (f + a)) vl A) ?hMid ?hassign ?hbody (fun _ _ _ _ _ _ h => h.elim) (fun _ _ h => by cases h) ?hdone
 case hI =>
  rintro a S A A' ⟨vl, hs, h⟩ hb;exact ⟨vl, hs, h.below hb⟩
 case hIp =>
  rintro a S A l o o' ⟨vl, hs, h⟩ hl ho hlt
  exact ⟨vl, hs, h.put hl ho (by rw [← HZ4.out]; exact hlt) o'⟩
 case hIs =>
  rintro a S A ⟨vl, rfl, h⟩ b hb;exact h.safe b hb
 case hMid =>
  rintro a S x a' A l o o' ⟨vl, ha, hs, h⟩ hl ho hlt
  exact ⟨vl, ha, hs, h.put hl ho (by rw [← HZ4.out]; exact hlt) o'⟩
 case hassign =>
  rintro l a S x A K ⟨vl, hs, h⟩ hx hn hK
  have HKK := Lib.hid (hK _ _ (KeepsOthers.refl _) (KpS.below (Below.refl _ _)) ⟨vl, rfl, hs, h⟩)
  clear hK h hs hx hn
  dsimp only [pEncs] at HKK ⊢
  gi_wp2
  exact HKK.out
 case hbody =>
  rintro l a S x a' A ⟨vl, rfl, rfl, h⟩ hx
  obtain ⟨j, hj⟩ : ∃ j, f + a = j := ⟨_, rfl⟩
  have hal : a < n - f := by have := (List.getElem?_eq_some_iff.1 hx).1; rwa [List.length_range'] at this
  have hxj : x = j := by rw [List.getElem?_range' hal] at hx; simp at hx; omega
  subst hxj;rw [hj] at h;rw [show f + (a + 1) = x + 1 by omega]
  obtain rfl := HG.out (by omega)
  obtain ⟨p, hp⟩ : ∃ p, L[x]? = some p := ⟨L[x]'(by rw [HNN.out]; omega), List.getElem?_eq_getElem _⟩
  have hpc : (updL L f x now)[x]? = some p := by rw [updL_at]; exact hp
  obtain ⟨g', cap', hv, hgl, _, hc⟩ := h.sn.cells hpc
  simp only [Value.slice.injEq, Option.some.injEq, Addr.mk.injEq] at hv
  obtain rfl := hv.1.1
  have d0 : A.cell? ⟨g, x * 28, none⟩ = some (.int .i64 ((x : Int) + 1)) := hc 0 (by omega)
  have d26 : A.cell? ⟨g, x * 28 + 26, none⟩ = some (.bool p.sent) := hc 26 (by omega)
  have d27 : A.cell? ⟨g, x * 28 + 27, none⟩ = some (.int .i64 p.at_) := hc 27 (by omega)
  have hatp := HAT.out p (List.mem_of_getElem? hp)
  have hdue := due_any g (x * 28) p.sent p.at_ now A d26 d27 hatp.1 hatp.2 n0 n1
  have x0 := h.b1.cell 0
  have x1 := h.b2.cell 0
  simp only [List.getElem?_cons_zero] at x0 x1
  have hdd : dueB p.sent p.at_ now = p.due now := rfl
  rw [hdd] at hdue;have HT := Lib.hid h;have HP := Lib.hid hp;have HPC := Lib.hid hpc
  have hfx : f ≤ x := by omega
  have hxn : x < n := by omega
  have hgN : g < N := h.far g rfl
  cases hd : p.due now with
  | false =>
   rw [hd] at hdue;have HDUE := Lib.hid hdue
   have e1 := Lib.hid (updL_skip L f x now p hfx hp hd)
   have e2 := Lib.hid (sentL_no L f x now p hp hd)
   clear hx hal hj h hp hpc hv hc hatp hdue hdd hd d0 d26 d27
   gi_wp2
   refine ⟨trivial, ((callsIn_wide.2 HDUE.out).inRound l).mono ?_⟩
   rintro e w' ⟨rfl, rfl⟩
   gi_wp2
   exact ⟨KeepsOthers.refl _, KpS.below (Below.refl _ _), _, vl, rfl, by rw [e1.out, e2.out]; exact HT.out⟩
  | true =>
   rw [hd] at hdue;have HDUE := Lib.hid hdue
   have e1 := Lib.hid (updL_succ L f x now p hfx hp)
   have e2 := Lib.hid (sentL_yes L f x now p hfx hp hd)
   have e3 : Hid (p.upd now = ⟨p.fr, true, now⟩) := by unfold Pst.upd; rw [hd]; rfl
   have z26 : A.frozen? ⟨g, x * 28 + 26, none⟩ = false := own_frozen h.sn.own _
   have z27 : A.frozen? ⟨g, x * 28 + 27, none⟩ = false := own_frozen h.sn.own _
   have HPS : Hid (((updL L f x now).set x ⟨p.fr, true, now⟩)[x]? = some ⟨p.fr, true, now⟩) := (by rw [List.getElem?_set_self (by rw [updL_len, HNN.out]; omega)] : ((updL L f x now).set x ⟨p.fr, true, now⟩)[x]? = some ⟨p.fr, true, now⟩)
   have HME := Lib.hid (fun z => message_any tn 1 ((x : Int) + 1) z)
   have HSZ := szO
   have HSM := szM
   have HO1 : Hid ((msgA 1 tn ((x : Int) + 1) 0 0 0 0 0 0 0).all (·.oneCell') = true) := (by first | rfl | (unfold msgA; simp [Value.oneCell']) : (msgA 1 tn ((x : Int) + 1) 0 0 0 0 0 0 0).all (·.oneCell') = true)
   have HO2 : Hid ((ordA ((x : Int) + 1) (-1) p.fr 2 1).all (·.oneCell') = true) := (by first | rfl | (unfold ordA; simp [Value.oneCell']) : (ordA ((x : Int) + 1) (-1) p.fr 2 1).all (·.oneCell') = true)
   clear hx hal hj h hp hpc hv hc hatp hdue hdd hd
   gi_wp2
   refine ⟨trivial, ((callsIn_wide.2 HDUE.out).inRound l).mono ?_⟩
   rintro e w' ⟨rfl, rfl⟩
   gi_wp2
   refine round_drawn (S := fun W => W.cell? ⟨N + 1, 0, none⟩ = some (.int .i64 now)) (by kernel_rfl) (by kernel_rfl) (by rintro ⟨a, w, h⟩; revert h; simp [Exit.then, Exit.inBlock]; try (intro h; exact absurd h.1 (by simp))) ?_ (fun hHeld => ?_)
   ·exact x1
   refine tk 0 (some 22) ?_;refine tk 1 (some 23) ?_;refine tk 2 (some 24) ?_;refine tk 3 (some 25) ?_;refine tk 4 (some 26) ?_
   refine rd1 5 none (fun K hK => ?_)
   go_simp
   refine hK.out _ _ ?_ (fun hHeld2 => ?_)
   ·exact (World.cell?_setCell_far _ _ _ _ (show g ≠ N + 1 by omega)).trans x1
   clear hK K hHeld;rename _ => hHeld;refine tk 6 (some 27) ?_;refine tk 7 (some 28) ?_
   refine rd1 8 none (fun K hK => ?_)
   go_simp
   refine hK.out _ _ ?_ (fun hHeld2 => ?_)
   ·exact (World.cell?_setCell_far _ _ _ _ (show g ≠ N + 1 by omega)).trans ((World.cell?_setCell_far _ _ _ _ (show g ≠ N + 1 by omega)).trans x1)
   clear hK K hHeld;rename _ => hHeld
   try simp only [Act.put, sa, sz, ss]
   refine wpAnyH_done (by kernel_rfl) ?_ _;clear hHeld
   have HTA := HT
   have hT7 := (HT.out.mark HPC.out).below (Below.refl _ _).drew
   have hF7 := (((Fr.refl (TkF N (.slice (some ⟨g, 0, none⟩) n cv) vl) A).setCell ⟨g, x * 28 + 26, none⟩ (.bool true) (.inl (.inl rfl))).setCell ⟨g, x * 28 + 27, none⟩ (.int .i64 now) (.inl (.inl rfl))).drew
   generalize World.drew _ = z at hT7 hF7 ⊢
   have HFR := Lib.hid hF7;clear hF7
   have HKP : Hid (∀ z, TkI W N B bs tn (.slice (some ⟨g, 0, none⟩) n cv) k now ((updL L f x now).set x ⟨p.fr, true, now⟩) (sentL L f now x) vl z → z.cell? ⟨N, 0, none⟩ = some (.pointer (some ⟨bs, 0, none⟩)) ∧ z.cell? ⟨bs, 0, none⟩ = some (.int .i64 tn) ∧ z.cell? ⟨g, x * 28, none⟩ = some (.int .i64 ((x : Int) + 1))) := fun z h => ⟨h.b1.cell 0, h.sn.blk.cell 0, (h.cellAt HPS.out).1⟩
   have HRG : Hid (∀ z, TkI W N B bs tn (.slice (some ⟨g, 0, none⟩) n cv) k now ((updL L f x now).set x ⟨p.fr, true, now⟩) (sentL L f now x) vl z → z.rangeAt g (x * 28) (drA ((x : Int) + 1) p.fr).toList) := fun z h => (h.cellAt HPS.out).2
   have HT := Lib.hid hT7;clear hT7 x0 x1 d0 d26 d27 z26 z27
   gi_wp2
   have HTD := Lib.hid (HT.out.below (Below.refl _ _).drew)
   refine round_drawn (S := fun W => W.cell? ⟨N, 0, none⟩ = some (.pointer (some ⟨bs, 0, none⟩)) ∧ W.cell? ⟨bs, 0, none⟩ = some (.int .i64 tn) ∧ W.cell? ⟨g, x * 28, none⟩ = some (.int .i64 ((x : Int) + 1))) (by kernel_rfl) (by kernel_rfl) (by rintro ⟨a, w, h⟩; revert h; simp [Exit.then, Exit.inBlock]; try (intro h; exact absurd h.1 (by simp))) ?_ (fun hHeld => ?_)
   ·exact HKP.out _ HTD.out
   have hT8 := HTD.out
   have hF8 := HFR.out.drew
   generalize World.drew _ = z at hT8 hF8 hHeld ⊢
   have HT := Lib.hid hT8;have HFR := Lib.hid hF8;clear hT8 hF8;refine tk 0 (some 29) ?_;refine tk 1 (some 30) ?_;refine tk 2 (some 31) ?_;refine tk 3 (some 32) ?_;refine tk 4 (some 33) ?_;refine tk 5 (some 34) ?_;refine tk 6 (some 35) ?_;refine tk 7 (some 36) ?_;refine tk 8 (some 37) ?_
   refine wpAnyH_ready (rs := [9, 10]) (by kernel_rfl) (by simp) (AllReadyH.cons (o := ⟨some 38, _, _, _, _, _⟩) rfl (fun K hK => ?_) (AllReadyH.cons (o := ⟨some 7, _, _, _, _, _⟩) rfl (fun K hK => ?_) AllReadyH.nil))
   ·go_simp
    refine (HME.out _).mono ?_
    rintro e z ⟨rfl, hbz⟩
    have HT := Lib.hid (HT.out.below hbz)
    have HFR := Lib.hid (HFR.out.trans (Fr.under (fun _ => False) hbz) (fun _ _ e => e.elim))
    try have HM := Lib.hid (HM.out.kept (hbz.block _ HM.out.lt))
    clear hbz;go_simp
    refine hK.out _ _ ?_ (fun hHeld2 => ?_)
    ·exact HKP.out _ HT.out
    clear hK K hHeld;rename _ => hHeld
    try simp only [Act.put, sa, sz, ss]
    refine rd1 10 (some 7) (fun K hK => ?_)
    go_simp
    obtain ⟨mb, hmb⟩ : ∃ mb, z.heap.size = mb := ⟨_, rfl⟩
    have HMA : Hid (A.heap.size ≤ mb) := (by rw [← hmb]; exact HFR.out.size : A.heap.size ≤ mb)
    have HMB : Hid (N + 4 ≤ mb ∧ vl.ownBlock ≠ some mb) := ⟨by rw [← hmb]; exact HT.out.sz, fun e => by have := own_lt HT.out.own mb e; omega⟩
    have HM : Hid (Blk _ mb 32 lZm) := (by rw [← hmb]; exact Blk.new z _ _ : Blk (z.alloc (.cells aZm 32)) mb 32 lZm)
    have hbz : Below z.heap.size z (z.alloc (.cells aZm 32)) := (Below.refl _ z).alloc (Nat.le_refl _) _
    obtain ⟨z2, hz2⟩ : ∃ z2, z.alloc (.cells aZm 32) = z2 := ⟨_, rfl⟩
    rw [hz2] at HM hbz ⊢
    rw [hmb]
    have HT := Lib.hid (HT.out.below hbz)
    have HFR := Lib.hid (HFR.out.trans (Fr.under (fun _ => False) hbz) (fun _ _ e => e.elim))
    clear hz2 hbz hmb
    obtain ⟨z, rfl⟩ : ∃ z, z = z2 := ⟨_, rfl⟩
    refine hK.out _ _ ?_ (fun hHeld2 => ?_)
    ·exact HKP.out _ HT.out
    clear hK K hHeld;rename _ => hHeld
    try simp only [Act.put, sa, sz, ss]
    refine rd1 11 none (fun K hK => ?_)
    refine step_storeRow (by rfl) 32 (.tmp 7) (.tmp 38) (by rfl) mb 32 _ (msgA 1 tn ((x : Int) + 1) 0 0 0 0 0 0 0) (by rfl) (by rfl) HM.out (show 31 ≤ 31 by decide) HSM.out HO1.out ?_
    have HM := Lib.hid (Blk.sets (msgA 1 tn ((x : Int) + 1) 0 0 0 0 0 0 0).toList 0 HM.out)
    have HT := Lib.hid (HT.out.turn (Fr.setCells (S := fun c => c = mb) mb (msgA 1 tn ((x : Int) + 1) 0 0 0 0 0 0 0).toList 0 (Fr.refl _ _) (.inl rfl)) (fun c e => by subst e; exact HMB.out))
    have HFR := Lib.hid (Fr.setCells mb (msgA 1 tn ((x : Int) + 1) 0 0 0 0 0 0 0).toList 0 HFR.out (.inr HMA.out))
    generalize World.setCells _ _ _ _ = z at HM HT HFR ⊢
    refine hK.out _ _ ?_ (fun hHeld2 => ?_)
    ·exact HKP.out _ HT.out
    clear hK K hHeld;rename _ => hHeld
    try simp only [Act.put, sa, sz, ss]
    refine wpAnyH_done (by kernel_rfl) ?_ _;clear hHeld
    gi_upto_region 9 with (fail)
    refine round_region (by kernel_rfl) (by rintro ⟨a, w, h⟩; revert h; simp [Exit.then, Exit.inBlock]; try (intro h; exact absurd h.1 (by simp))) ?_
    have HR : Hid (z.rangeAt g (x * 28) (drA ((x : Int) + 1) p.fr).toList) := HRG.out _ HT.out
    go_wp2_with (refine wpList_load_mid rfl 30 (.tmp 41) rfl g (x * 28) rfl (drA ((x : Int) + 1) p.fr).toList _ HR.out Tryz.underlying30 rfl HSZ.out ?_)
    refine (own_any ((x : Int) + 1) (-1) p.fr 2 1 _).mono ?_
    rintro e z9 ⟨rfl, hbz⟩
    have HT9 := Lib.hid (HT.out.below hbz)
    have HF9 := Lib.hid (HFR.out.trans (Fr.under (fun _ => False) hbz) (fun _ _ e => e.elim))
    have HM9 := Lib.hid (HM.out.kept (hbz.block _ HM.out.lt))
    have HTH := Lib.hid (HM9.out.there 5 26 (by rw [setsL_len]; exact Nat.le_refl 31))
    clear hbz
    go_wp2_with (refine wpList_store_mid rfl 30 (.tmp 44) (.tmp 43) rfl mb 5 (ordA ((x : Int) + 1) (-1) p.fr 2 1) rfl rfl HTH.out HSZ.out HO2.out ?_)
    have hM10 := Blk.sets (ordA ((x : Int) + 1) (-1) p.fr 2 1).toList 5 HM9.out
    rw [msg_sets] at hM10;have HM10 := Lib.hid hM10;clear hM10
    have HT10 := Lib.hid (HT9.out.turn (Fr.setCells (S := fun c => c = mb) mb (ordA ((x : Int) + 1) (-1) p.fr 2 1).toList 5 (Fr.refl _ _) (.inl rfl)) (fun c e => by subst e; exact HMB.out))
    have HF10 := Lib.hid (Fr.setCells mb (ordA ((x : Int) + 1) (-1) p.fr 2 1).toList 5 HF9.out (.inr HMA.out))
    generalize World.setCells _ _ _ _ = z10 at HM10 HT10 HF10 ⊢
    gi_upto_region 10 with (fail)
    refine round_region (by kernel_rfl) (by rintro ⟨a, w, h⟩; revert h; simp [Exit.then, Exit.inBlock]; try (intro h; exact absurd h.1 (by simp))) ?_
    have l0 := HT10.out.lb.cell 0
    simp only [List.getElem?_cons_zero] at l0
    obtain ⟨oa, cap, w5, hrun, ho5, hf5, hk5⟩ := app_msg z10 (N + 4) vl (sentL L f now x).length (mCells tn (sentL L f now x)) (lQ tn ((x : Int) + 1) p.fr) HT10.out.own (by have := sentL_len L f now x; omega) HT10.out.sz 55 rfl (by simp [Value.oneCell'])
    have hb5 := HT10.out.lb.kept (hf5.block _ HT10.out.lb.lt (fun e => by have := own_ge HT10.out.own _ e; omega))
    have l5 := hb5.cell 0
    have z5 := hb5.frozen 0
    simp only [List.getElem?_cons_zero] at l5
    have HT11 := Lib.hid (TkI.app (j := x) (f := p.fr) HT10.out ho5 hf5 hk5)
    have HF11 := Lib.hid ((HF10.out.trans hf5 (fun i _ e => .inr (.inr e))).setCell ⟨N + 2, 0, none⟩ (.slice oa ((sentL L f now x).length + 1) cap) (.inl (.inr (.inl rfl))))
    clear ho5 hf5 hk5 hb5
    go_wp2_with (first | (refine wpList_load_mid rfl 32 (.tmp 7) rfl mb 0 rfl (lQ tn ((x : Int) + 1) p.fr) _ HM10.out.range Tryz.underlying32 rfl HSM.out ?_) | (at_builtin; refine wpList_append_run _ rfl _ _ 55 rfl _ _ _ _ rfl rfl hrun ?_; clear hrun))
    exact ⟨HF11.out.othersC (fun c o hs ho => HTA.out.cells c hs o ho), KpS.fr HF11.out, _, _, rfl, by rw [e1.out, e3.out, e2.out]; exact HT11.out⟩
   ·go_simp
    obtain ⟨mb, hmb⟩ : ∃ mb, z.heap.size = mb := ⟨_, rfl⟩
    have HMA : Hid (A.heap.size ≤ mb) := (by rw [← hmb]; exact HFR.out.size : A.heap.size ≤ mb)
    have HMB : Hid (N + 4 ≤ mb ∧ vl.ownBlock ≠ some mb) := ⟨by rw [← hmb]; exact HT.out.sz, fun e => by have := own_lt HT.out.own mb e; omega⟩
    have HM : Hid (Blk _ mb 32 lZm) := (by rw [← hmb]; exact Blk.new z _ _ : Blk (z.alloc (.cells aZm 32)) mb 32 lZm)
    have hbz : Below z.heap.size z (z.alloc (.cells aZm 32)) := (Below.refl _ z).alloc (Nat.le_refl _) _
    obtain ⟨z2, hz2⟩ : ∃ z2, z.alloc (.cells aZm 32) = z2 := ⟨_, rfl⟩
    rw [hz2] at HM hbz ⊢
    rw [hmb]
    have HT := Lib.hid (HT.out.below hbz)
    have HFR := Lib.hid (HFR.out.trans (Fr.under (fun _ => False) hbz) (fun _ _ e => e.elim))
    clear hz2 hbz hmb
    obtain ⟨z, rfl⟩ : ∃ z, z = z2 := ⟨_, rfl⟩
    refine hK.out _ _ ?_ (fun hHeld2 => ?_)
    ·exact HKP.out _ HT.out
    clear hK K hHeld;rename _ => hHeld
    try simp only [Act.put, sa, sz, ss]
    refine rd1 9 (some 38) (fun K hK => ?_)
    go_simp
    refine (HME.out _).mono ?_
    rintro e z ⟨rfl, hbz⟩
    have HT := Lib.hid (HT.out.below hbz)
    have HFR := Lib.hid (HFR.out.trans (Fr.under (fun _ => False) hbz) (fun _ _ e => e.elim))
    try have HM := Lib.hid (HM.out.kept (hbz.block _ HM.out.lt))
    clear hbz;go_simp
    refine hK.out _ _ ?_ (fun hHeld2 => ?_)
    ·exact HKP.out _ HT.out
    clear hK K hHeld;rename _ => hHeld
    try simp only [Act.put, sa, sz, ss]
    refine rd1 11 none (fun K hK => ?_)
    refine step_storeRow (by rfl) 32 (.tmp 7) (.tmp 38) (by rfl) mb 32 _ (msgA 1 tn ((x : Int) + 1) 0 0 0 0 0 0 0) (by rfl) (by rfl) HM.out (show 31 ≤ 31 by decide) HSM.out HO1.out ?_
    have HM := Lib.hid (Blk.sets (msgA 1 tn ((x : Int) + 1) 0 0 0 0 0 0 0).toList 0 HM.out)
    have HT := Lib.hid (HT.out.turn (Fr.setCells (S := fun c => c = mb) mb (msgA 1 tn ((x : Int) + 1) 0 0 0 0 0 0 0).toList 0 (Fr.refl _ _) (.inl rfl)) (fun c e => by subst e; exact HMB.out))
    have HFR := Lib.hid (Fr.setCells mb (msgA 1 tn ((x : Int) + 1) 0 0 0 0 0 0 0).toList 0 HFR.out (.inr HMA.out))
    generalize World.setCells _ _ _ _ = z at HM HT HFR ⊢
    refine hK.out _ _ ?_ (fun hHeld2 => ?_)
    ·exact HKP.out _ HT.out
    clear hK K hHeld;rename _ => hHeld
    try simp only [Act.put, sa, sz, ss]
    refine wpAnyH_done (by kernel_rfl) ?_ _;clear hHeld
    gi_upto_region 9 with (fail)
    refine round_region (by kernel_rfl) (by rintro ⟨a, w, h⟩; revert h; simp [Exit.then, Exit.inBlock]; try (intro h; exact absurd h.1 (by simp))) ?_
    have HR : Hid (z.rangeAt g (x * 28) (drA ((x : Int) + 1) p.fr).toList) := HRG.out _ HT.out
    go_wp2_with (refine wpList_load_mid rfl 30 (.tmp 41) rfl g (x * 28) rfl (drA ((x : Int) + 1) p.fr).toList _ HR.out Tryz.underlying30 rfl HSZ.out ?_)
    refine (own_any ((x : Int) + 1) (-1) p.fr 2 1 _).mono ?_
    rintro e z9 ⟨rfl, hbz⟩
    have HT9 := Lib.hid (HT.out.below hbz)
    have HF9 := Lib.hid (HFR.out.trans (Fr.under (fun _ => False) hbz) (fun _ _ e => e.elim))
    have HM9 := Lib.hid (HM.out.kept (hbz.block _ HM.out.lt))
    have HTH := Lib.hid (HM9.out.there 5 26 (by rw [setsL_len]; exact Nat.le_refl 31))
    clear hbz
    go_wp2_with (refine wpList_store_mid rfl 30 (.tmp 44) (.tmp 43) rfl mb 5 (ordA ((x : Int) + 1) (-1) p.fr 2 1) rfl rfl HTH.out HSZ.out HO2.out ?_)
    have hM10 := Blk.sets (ordA ((x : Int) + 1) (-1) p.fr 2 1).toList 5 HM9.out
    rw [msg_sets] at hM10;have HM10 := Lib.hid hM10;clear hM10
    have HT10 := Lib.hid (HT9.out.turn (Fr.setCells (S := fun c => c = mb) mb (ordA ((x : Int) + 1) (-1) p.fr 2 1).toList 5 (Fr.refl _ _) (.inl rfl)) (fun c e => by subst e; exact HMB.out))
    have HF10 := Lib.hid (Fr.setCells mb (ordA ((x : Int) + 1) (-1) p.fr 2 1).toList 5 HF9.out (.inr HMA.out))
    generalize World.setCells _ _ _ _ = z10 at HM10 HT10 HF10 ⊢
    gi_upto_region 10 with (fail)
    refine round_region (by kernel_rfl) (by rintro ⟨a, w, h⟩; revert h; simp [Exit.then, Exit.inBlock]; try (intro h; exact absurd h.1 (by simp))) ?_
    have l0 := HT10.out.lb.cell 0
    simp only [List.getElem?_cons_zero] at l0
    obtain ⟨oa, cap, w5, hrun, ho5, hf5, hk5⟩ := app_msg z10 (N + 4) vl (sentL L f now x).length (mCells tn (sentL L f now x)) (lQ tn ((x : Int) + 1) p.fr) HT10.out.own (by have := sentL_len L f now x; omega) HT10.out.sz 55 rfl (by simp [Value.oneCell'])
    have hb5 := HT10.out.lb.kept (hf5.block _ HT10.out.lb.lt (fun e => by have := own_ge HT10.out.own _ e; omega))
    have l5 := hb5.cell 0
    have z5 := hb5.frozen 0
    simp only [List.getElem?_cons_zero] at l5
    have HT11 := Lib.hid (TkI.app (j := x) (f := p.fr) HT10.out ho5 hf5 hk5)
    have HF11 := Lib.hid ((HF10.out.trans hf5 (fun i _ e => .inr (.inr e))).setCell ⟨N + 2, 0, none⟩ (.slice oa ((sentL L f now x).length + 1) cap) (.inl (.inr (.inl rfl))))
    clear ho5 hf5 hk5 hb5
    go_wp2_with (first | (refine wpList_load_mid rfl 32 (.tmp 7) rfl mb 0 rfl (lQ tn ((x : Int) + 1) p.fr) _ HM10.out.range Tryz.underlying32 rfl HSM.out ?_) | (at_builtin; refine wpList_append_run _ rfl _ _ 55 rfl _ _ _ _ rfl rfl hrun ?_; clear hrun))
    exact ⟨HF11.out.othersC (fun c o hs ho => HTA.out.cells c hs o ho), KpS.fr HF11.out, _, _, rfl, by rw [e1.out, e3.out, e2.out]; exact HT11.out⟩
 case hdone =>
  rintro D A hst hD ⟨S, vl, _, h⟩ hdef
  have e1 : f + (List.range' f (n - f)).length = n := by rw [List.length_range']; omega
  rw [e1] at h;have HDF := Lib.hid hdef
  have HD : Hid (N + 4 ≤ D) := (by rw [← HZ4.out]; exact hD : N + 4 ≤ D)
  have HT := Lib.hid (h.put hdef rfl HD.out (.deferred none))
  have l0 := h.lb.cell 0
  simp only [List.getElem?_cons_zero] at l0
  clear hst hdef h e1 hD
  go_wp2_with fail
  try rw [Exit.noGoto_ret]
  refine postM_mark' (v := vl) HDF.out (by simp [results, Tryz.results20, go_sem]) ?_
  refine ⟨vl, rfl, ?_, ?_, HT.out.fr⟩
  ·rw [HNN.out, HF.out, HT.out.nz]
   exact own_weakF HT.out.own (by omega)
  ·rw [HNN.out, HF.out]
   exact HT.out.sn
end Go.Proofs.YtjkiidhnmljmbaaGreatDoor
