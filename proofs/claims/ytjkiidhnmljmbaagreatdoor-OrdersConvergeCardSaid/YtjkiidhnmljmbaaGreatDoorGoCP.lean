/- Captions in plain words: words, rows, which cues are valid. -/
import Derived.RangeFuncNested
import Derived.RangeFuncBound
import Derived.RangeFuncCalls
import Derived.RangeFuncLeaves
import Derived.RangeFuncBox
import Derived.Shelf.Abstract
import Derived.Shelf.RegionOpen
import Derived.WalkKit
import Derived.OwnWalkIn
import Derived.TacticsInMore
import Derived.LoopNIn
import Derived.LoopIn
import Derived.Lib.Hide
import Derived.Outline
import Derived.LoopTactic
import Derived.WalkSpells
import Derived.WalkLawsBesides
import Derived.RegionTactic
import Derived.BigRegion
import Derived.Deep.QuietTactic
import Derived.BigQuiet
import Derived.IntWalk
import Derived.Lib.SmallJoins
import Derived.Deep.Slices
import Derived.Deep.Fields
import Derived.ChangeSame
import Derived.Test.YtjkiidhnmljmbaaGreatDoorProg
import Derived.Test.YtjkiidhnmljmbaaGreatDoorBas
set_option linter.unusedVariables false
set_option linter.unusedSimpArgs false
set_option maxRecDepth 100000
set_option maxHeartbeats 2000000
namespace Go.Proofs.YtjkiidhnmljmbaaGreatDoor
namespace Cp
section
theorem snocRec {α : Type} {P : List α → Prop} (h0 : P []) (hs : ∀ l a, P l → P (l ++ [a])) (l : List α) : P l := by
 have key : ∀ m : List α, P m.reverse := by
  intro m
  induction m with
  | nil => exact h0
  | cons a m ih => rw [List.reverse_cons]; exact hs _ _ ih
 have := key l.reverse
 rwa [List.reverse_reverse] at this
def wstep (a : List (List UInt8) × List UInt8) (c : UInt8) : List (List UInt8) × List UInt8 := if c = 32 then (if a.2 = [] then a.1 else a.1 ++ [a.2], []) else (a.1, a.2 ++ [c])
def wscan (l : List UInt8) : List (List UInt8) × List UInt8 := l.foldl wstep ([], [])
def wfin (a : List (List UInt8) × List UInt8) : List (List UInt8) := if a.2 = [] then a.1 else a.1 ++ [a.2]
def wordsL (l : List UInt8) : List (List UInt8) := wfin (wscan l)
theorem wscan_snoc (l : List UInt8) (c : UInt8) : wscan (l ++ [c]) = wstep (wscan l) c := by simp [wscan]
def isWord (w : List UInt8) : Prop := w ≠ [] ∧ (32 : UInt8) ∉ w
def joinSp : List (List UInt8) → List UInt8
 | [] => []
 | [w] => w
 | w :: v :: ws => w ++ 32 :: joinSp (v :: ws)
theorem joinSp_snoc (ws : List (List UInt8)) (w : List UInt8) (h : ws ≠ []) : joinSp (ws ++ [w]) = joinSp ws ++ 32 :: w := by
 induction ws with
 | nil => exact absurd rfl h
 | cons v ws ih =>
  cases ws with
  | nil => rfl
  | cons u ws =>
   show v ++ 32 :: joinSp ((u :: ws) ++ [w]) = _
   rw [ih (by simp)]
   simp [joinSp]
def rstep (rows : List (List UInt8)) (w : List UInt8) : List (List UInt8) :=
 match rows.getLast? with
 | some r => if r.length + 1 + w.length ≤ 32 then rows.dropLast ++ [r ++ 32 :: w] else rows ++ [w]
 | none => [w]
def rowsOf (ws : List (List UInt8)) : List (List UInt8) := ws.foldl rstep []
theorem rowsOf_snoc (ws : List (List UInt8)) (w : List UInt8) : rowsOf (ws ++ [w]) = rstep (rowsOf ws) w := by simp [rowsOf]
def printB (l : List UInt8) : Bool := l.all fun c => decide (32 ≤ c ∧ c ≤ 126)
def narrowB (ws : List (List UInt8)) : Bool := ws.all fun w => decide (w.length ≤ 32)
def fitsB (l : List UInt8) : Bool := decide (l.length ≤ 200) && printB l && narrowB (wordsL l) && decide (1 ≤ (rowsOf (wordsL l)).length ∧ (rowsOf (wordsL l)).length ≤ 4)
def rowsR (l : List UInt8) : List (List UInt8) := if fitsB l = true then rowsOf (wordsL l) else []
structure Laid (gs : List (List (List UInt8))) (ws : List (List UInt8)) : Prop where
 flat : gs.flatten = ws
 full : ∀ g ∈ gs, g ≠ []
 rows : rowsOf ws = gs.map joinSp
 wide : ∀ g ∈ gs, (joinSp g).length ≤ 32
 tight : ∀ i (h : i + 1 < gs.length), 32 < (joinSp (gs[i]'(by omega))).length + 1 + ((gs[i + 1]).head?.getD []).length
theorem wordsL_len (l : List UInt8) : ((wscan l).1 = [] ∨ (joinSp (wscan l).1).length + (wscan l).2.length + 1 ≤ l.length) ∧ (wscan l).2.length ≤ l.length := by
 induction l using snocRec with
 | h0 => exact ⟨.inl rfl, by simp [wscan]⟩
 | hs l c ih =>
  rw [wscan_snoc]
  unfold wstep
  by_cases hc : c = 32
  ·rw [if_pos hc]
   refine ⟨?_, by simp⟩
   by_cases h2 : (wscan l).2 = []
   ·rw [if_pos h2]
    rcases ih.1 with h | h
    ·exact .inl h
    ·right
     rw [h2] at h
     simp at h ⊢
     omega
   ·rw [if_neg h2]
    right
    rcases ih.1 with h | h
    ·rw [h]
     simp [joinSp]
     exact ih.2
    ·have hne : (wscan l).1 ≠ [] ∨ (wscan l).1 = [] := by
      by_cases e : (wscan l).1 = []
      ·exact .inr e
      ·exact .inl e
     rcases hne with hne | hne
     ·rw [joinSp_snoc _ _ hne]
      simp
      omega
     ·rw [hne]
      simp [joinSp]
      exact ih.2
  ·rw [if_neg hc]
   simp
   refine ⟨?_, ih.2⟩
   rcases ih.1 with h | h
   ·exact .inl h
   ·right
    omega
theorem join_len (l : List UInt8) : (joinSp (wordsL l)).length ≤ l.length := by
 obtain ⟨h1, h2⟩ := wordsL_len l
 unfold wordsL wfin
 by_cases e : (wscan l).2 = []
 ·rw [if_pos e]
  rcases h1 with h | h
  ·rw [h]; simp [joinSp]
  ·omega
 ·rw [if_neg e]
  rcases h1 with h | h
  ·rw [h]; exact h2
  ·by_cases hne : (wscan l).1 = []
   ·rw [hne]; exact h2
   ·rw [joinSp_snoc _ _ hne]
    simp
    omega
theorem wscan_mem (l : List UInt8) : (∀ w ∈ (wscan l).1, ∀ c ∈ w, c ∈ l) ∧ (∀ c ∈ (wscan l).2, c ∈ l) := by
 induction l using snocRec with
 | h0 => simp [wscan]
 | hs l c ih =>
  rw [wscan_snoc]
  unfold wstep
  by_cases hc : c = 32
  ·rw [if_pos hc]
   refine ⟨?_, by simp⟩
   by_cases h2 : (wscan l).2 = []
   ·rw [if_pos h2]
    exact fun w hw x hx => List.mem_append_left _ (ih.1 w hw x hx)
   ·rw [if_neg h2]
    intro w hw x hx
    rcases List.mem_append.1 hw with hw | hw
    ·exact List.mem_append_left _ (ih.1 w hw x hx)
    ·simp at hw
     subst hw
     exact List.mem_append_left _ (ih.2 x hx)
  ·rw [if_neg hc]
   refine ⟨fun w hw x hx => List.mem_append_left _ (ih.1 w hw x hx), fun x hx => ?_⟩
   rcases List.mem_append.1 hx with hx | hx
   ·exact List.mem_append_left _ (ih.2 x hx)
   ·exact List.mem_append_right _ hx
theorem wordsL_mem (l : List UInt8) : ∀ w ∈ wordsL l, ∀ c ∈ w, c ∈ l := by
 obtain ⟨h1, h2⟩ := wscan_mem l
 unfold wordsL wfin
 by_cases e : (wscan l).2 = []
 ·rw [if_pos e]; exact h1
 ·rw [if_neg e]
  intro w hw
  rcases List.mem_append.1 hw with hw | hw
  ·exact h1 w hw
  ·simp at hw
   subst hw;exact h2
theorem wscan_count (l : List UInt8) : (wscan l).1.length + (if (wscan l).2 = [] then 0 else 1) ≤ l.length := by
 induction l using snocRec with
 | h0 => simp [wscan]
 | hs l c ih =>
  rw [wscan_snoc]
  unfold wstep
  by_cases hc : c = 32
  ·rw [if_pos hc]
   by_cases h2 : (wscan l).2 = []
   ·rw [if_pos h2] at ih
    simp [h2]
    omega
   ·rw [if_neg h2] at ih
    simp [h2]
    omega
  ·rw [if_neg hc]
   by_cases h2 : (wscan l).2 = []
   ·rw [if_pos h2] at ih
    simp
    omega
   ·rw [if_neg h2] at ih
    simp
    omega
theorem wscan_suffix (l : List UInt8) : ∃ p, l = p ++ (wscan l).2 := by
 induction l using snocRec with
 | h0 => exact ⟨[], rfl⟩
 | hs l c ih =>
  obtain ⟨p, hp⟩ := ih
  rw [wscan_snoc]
  unfold wstep
  by_cases hc : c = 32
  ·rw [if_pos hc]
   exact ⟨l ++ [c], by simp⟩
  ·rw [if_neg hc]
   refine ⟨p, ?_⟩
   rw [← List.append_assoc, ← hp]
theorem wscan_space (l : List UInt8) (c : UInt8) (hc : c = 32) : wscan (l ++ [c]) = (wfin (wscan l), []) := by
 rw [wscan_snoc]
 unfold wstep wfin
 rw [if_pos hc]
theorem wscan_letter (l : List UInt8) (c : UInt8) (hc : ¬ c = 32) : wscan (l ++ [c]) = ((wscan l).1, (wscan l).2 ++ [c]) := by
 rw [wscan_snoc]
 unfold wstep
 rw [if_neg hc]
theorem wscan_prefix (p q : List UInt8) : ∃ r, (wscan (p ++ q)).1 = (wscan p).1 ++ r := by
 induction q using snocRec with
 | h0 => exact ⟨[], by simp⟩
 | hs q c ih =>
  obtain ⟨r, hr⟩ := ih
  rw [← List.append_assoc, wscan_snoc]
  unfold wstep
  by_cases hc : c = 32
  ·rw [if_pos hc]
   by_cases h2 : (wscan (p ++ q)).2 = []
   ·rw [if_pos h2]; exact ⟨r, hr⟩
   ·rw [if_neg h2]; exact ⟨r ++ [(wscan (p ++ q)).2], by rw [hr, List.append_assoc]⟩
  ·rw [if_neg hc]; exact ⟨r, hr⟩
theorem wordsL_prefix (l : List UInt8) (k : Nat) : ∃ r, wordsL l = (wscan (l.take k)).1 ++ r := by
 obtain ⟨r, hr⟩ := wscan_prefix (l.take k) (l.drop k)
 rw [List.take_append_drop] at hr
 unfold wordsL wfin
 by_cases h2 : (wscan l).2 = []
 ·rw [if_pos h2]; exact ⟨r, hr⟩
 ·rw [if_neg h2]; exact ⟨r ++ [(wscan l).2], by rw [hr, List.append_assoc]⟩
end
section
structure Cue where
 id : Int
 fr : Int
 to : Int
 pr : Int
 tx : ByteArray
theorem Cue.ext' {a b : Cue} (h1 : a.id = b.id) (h2 : a.fr = b.fr) (h3 : a.to = b.to) (h4 : a.pr = b.pr) (h5 : a.tx = b.tx) : a = b := by
 cases a; cases b; simp_all
instance : DecidableEq Cue := fun a b =>
 if h : a.id = b.id ∧ a.fr = b.fr ∧ a.to = b.to ∧ a.pr = b.pr ∧ a.tx = b.tx then isTrue (Cue.ext' h.1 h.2.1 h.2.2.1 h.2.2.2.1 h.2.2.2.2) else isFalse (fun e => h (by subst e; exact ⟨rfl, rfl, rfl, rfl, rfl⟩))
def cue0 : Cue := ⟨0, 0, 0, 0, ⟨#[]⟩⟩
def validB (c : Cue) : Bool :=
 decide (1 ≤ c.id) && decide (c.id ≤ 4611686018427387903) &&
 (if c.to = 0 then decide (c.fr = 0) && decide (c.pr = 0) && decide (c.tx = ⟨#[]⟩)
 else decide (0 ≤ c.fr) && decide (c.fr < c.to) && decide (c.to ≤ 100000000) && decide (0 ≤ c.pr) && decide (c.pr ≤ 3) && fitsB c.tx.data.toList)
def estep (c : Cue) (a : List Cue × Bool) (x : Cue) : List Cue × Bool :=
 if x.id = c.id then a else if a.2 = true ∧ c.id < x.id then (a.1 ++ [c] ++ [x], false) else (a.1 ++ [x], a.2)
def escan (c : Cue) (l : List Cue) : List Cue × Bool := l.foldl (estep c) ([], decide (c.to ≠ 0))
def efin (c : Cue) (a : List Cue × Bool) : List Cue := if a.2 = true then a.1 ++ [c] else a.1
def editL (l : List Cue) (c : Cue) : List Cue := efin c (escan c l)
def editOk (l : List Cue) (c : Cue) : Bool := validB c && decide ((editL l c).length ≤ 200)
def editR (l : List Cue) (c : Cue) : List Cue := if editOk l c = true then editL l c else []
def editE (l : List Cue) (c : Cue) : Int := if editOk l c = true then 0 else 150
def aheadB (x b : Cue) : Bool := if x.pr ≠ b.pr then decide (b.pr < x.pr) else if x.fr ≠ b.fr then decide (b.fr < x.fr) else decide (b.id ≤ x.id)
def astep (f : Int) (a : Option Cue) (x : Cue) : Option Cue :=
 if x.fr ≤ f ∧ f < x.to then (match a with | none => some x | some b => if aheadB x b = true then some x else some b) else a
def activeL (l : List Cue) (f : Int) : Option Cue := l.foldl (astep f) none
end
end Cp
end Go.Proofs.YtjkiidhnmljmbaaGreatDoor
namespace Go.Proofs.YtjkiidhnmljmbaaGreatDoor
namespace Cp
section
open Go.RowKit Go.Shelf
attribute [local go_sem] Oper.semAt_some
abbrev wEncs (x : List UInt8) : Array Value := #[.string ⟨x.toArray⟩]
theorem take_snoc (s : ByteArray) (k : Nat) (h : k < s.size) : s.data.toList.take (k + 1) = s.data.toList.take k ++ [s[k]] := by
 rw [List.take_succ_eq_append_getElem (by simpa using h)]; rfl
theorem dlen (s : ByteArray) : s.data.toList.length = s.size := by simp
def curN (s : ByteArray) (k : Nat) : Nat := (wscan (s.data.toList.take k)).2.length
theorem cur_extract (s : ByteArray) (k : Nat) (hk : k ≤ s.size) : s.extract (k - curN s k) k = ⟨(wscan (s.data.toList.take k)).2.toArray⟩ := by
 obtain ⟨p, hp⟩ := wscan_suffix (s.data.toList.take k)
 have hl : (s.data.toList.take k).length = k := by rw [List.length_take, dlen]; omega
 have hpl : p.length = k - curN s k := by
  have := congrArg List.length hp
  rw [hl, List.length_append] at this
  unfold curN
  omega
 apply ByteArray.ext
 apply Array.ext'
 rw [ByteArray.data_extract, Array.toList_extract, ← hpl, List.extract_eq_take_drop]
 show ((s.data.toList.drop p.length).take (k - p.length)) = _
 rw [← List.drop_take]
 conv => lhs; rw [hp]
 simp
theorem curN_zero (s : ByteArray) (k : Nat) : curN s k = 0 ↔ (wscan (s.data.toList.take k)).2 = [] := by
 unfold curN
 exact List.length_eq_zero_iff
def KpB (b : Nat) (A B : World) : Prop := B.heap[b]? = A.heap[b]?
theorem KpB.cell {b : Nat} {A B : World} (h : KpB b A B) (o : Nat) : B.cell? ⟨b, o, none⟩ = A.cell? ⟨b, o, none⟩ := by
 unfold KpB at h
 simp only [World.cell?, h]
theorem wfin_nil {a : List (List UInt8) × List UInt8} (h : a.2 = []) : wfin a = a.1 := by unfold wfin; rw [if_pos h]
theorem wfin_cons {a : List (List UInt8) × List UInt8} (h : ¬ a.2 = []) : wfin a = a.1 ++ [a.2] := by unfold wfin; rw [if_neg h]
theorem curN_space (s : ByteArray) (k : Nat) (hk : k < s.size) (hc : s[k] = 32) : curN s (k + 1) = 0 ∧ (wscan (s.data.toList.take (k + 1))).1 = wfin (wscan (s.data.toList.take k)) := by
 have e := wscan_space (s.data.toList.take k) s[k] hc
 rw [← take_snoc s k hk] at e
 exact ⟨by rw [curN_zero, e], by rw [e]⟩
theorem curN_letter (s : ByteArray) (k : Nat) (hk : k < s.size) (hc : ¬ s[k] = 32) : curN s (k + 1) = curN s k + 1 ∧ (wscan (s.data.toList.take (k + 1))).1 = (wscan (s.data.toList.take k)).1 := by
 have e := wscan_letter (s.data.toList.take k) s[k] hc
 rw [← take_snoc s k hk] at e
 exact ⟨by unfold curN; rw [e]; simp, by rw [e]⟩
theorem take_all (s : ByteArray) : s.data.toList.take s.size = s.data.toList := List.take_of_length_le (by rw [dlen]; exact Nat.le_refl _)
theorem byte_ne (c : UInt8) : ((c.toNat : Int) != 32) = !decide (c = 32) := by
 rw [Bool.eq_iff_iff]
 simp only [bne_iff_ne, Bool.not_eq_true', decide_eq_false_iff_not]
 constructor
 ·intro h e; subst e; exact h rfl
 ·intro h e; exact h (UInt8.toNat.inj (by have : c.toNat = 32 := by omega
                                          exact this))
theorem words_stops (F : Fence) (n : Nat) (h32 : F.fn 114) (hro : F.round = none) (hn : 1 ≤ n) (Bn : Nat) (s : ByteArray) (w : World) (hBn : Bn < w.heap.size) (hz : s.size ≤ 200)
  (hc : w.cell? ⟨Bn, 0, none⟩ = some (.string s)) :
  SeqStopsK F n Tryz.prog 114 #[.pointer (some ⟨Bn, 0, none⟩)] wEncs (KpB Bn) (fun xs => xs = wordsL s.data.toList) (fun pre => ∃ rest, wordsL s.data.toList = pre ++ rest) 201 w := fun l J Jx W hW hJ hJx hY h0 => by
 have hcW : W.cell? ⟨Bn, 0, none⟩ = some (.string s) := (hW.cell (p := ⟨Bn, 0, none⟩) hBn).trans hc
 have HCW := Lib.hid hcW
 refine callsIn_of_wp Tryz.func114 rfl h32 ?_ hro
 simp only [Tryz.ntmps114, List.size_toArray, List.length_cons, List.length_nil, Nat.reduceAdd, Nat.reduceSub, Array.replicate_succ, Array.replicate_zero, List.push_toArray, List.append_toArray, List.nil_append, List.cons_append]
 gi_wp2
 clear hcW hc
 gi_loopw [3, 4] (fun f i wr => ∃ (pre : List (List UInt8)) (k : Nat), i = .int .i64 k ∧ J pre wr ∧ Hid (KpB Bn W wr) ∧ ((k ≤ s.size ∧ Hid (pre = (wscan (s.data.toList.take k)).1) ∧ ((Hid (curN s k = 0) ∧ f = .int .i64 (-1)) ∨ (Hid (curN s k ≠ 0) ∧ f = .int .i64 ((k - curN s k : Nat) : Int)))) ∨ (k = s.size + 1 ∧ Hid (pre = wordsL s.data.toList)))) (fun _ i _ => s.size + 1 - (intOf i).toNat)
 case atStart =>
  exact ⟨[], 0, rfl, h0, (rfl : W.heap[Bn]? = W.heap[Bn]?), .inl ⟨Nat.zero_le _, by show _ = _; simp [wscan], .inl ⟨by show _ = _; simp [curN, wscan], rfl⟩⟩⟩
 case round =>
  obtain ⟨pre, k, rfl, hJs, HB, hk | hk⟩ := hrel
  ·obtain ⟨hk, HP, hf⟩ := hk
   have hcr : wr.cell? ⟨Bn, 0, none⟩ = some (.string s) := (HB.out.cell 0).trans HCW.out
   have hpl : pre.length < 201 := by
    have h1 := wscan_count (s.data.toList.take k)
    have h2 : (s.data.toList.take k).length ≤ k := List.length_take_le _ _
    rw [HP.out]
    omega
   have hkle : (k : Int) ≤ s.size := by omega
   by_cases hks : k = s.size
   ·have HKS := Lib.hid hks
    have hlt : ¬ (k : Int) < s.size := by omega
    clear hks
    have HWF : Hid (wordsL s.data.toList = wfin (wscan (s.data.toList.take k))) := by
     show _ = _
     rw [HKS.out, take_all]
     rfl
    rcases hf with ⟨HC, rfl⟩ | ⟨HC, rfl⟩
    ·gi_wp2
     go_roundw
     case rel => exact ⟨pre, k + 1, by go_num, hJs, HB, .inr ⟨by have := HKS.out; omega, by show _ = _; rw [HWF.out, wfin_nil ((curN_zero s k).1 HC.out)]; exact HP.out⟩⟩
     case measure => simp [intOf]; omega
    ·obtain ⟨fn, tmps, assign, body, hy, hR⟩ := hY pre (wscan (s.data.toList.take k)).2 wr hJs hpl
     dsimp only [wEncs] at hy
     rw [← cur_extract s k hk] at hy
     have hfirst : (0 : Int) ≤ ((k - curN s k : Nat) : Int) := by omega
     have hfirst2 : ((k - curN s k : Nat) : Int) ≤ k := by omega
     generalize k - curN s k = f at hy hfirst hfirst2 ⊢
     gi_wp2
     refine hR.mono ?_
     rintro e W2 (⟨rfl, hJ2, hK2⟩ | ⟨rfl, hx2⟩)
     ·have HB2 : Hid (KpB Bn W W2) := (show KpB Bn wr W2 from hK2).trans HB.out
      clear hK2 hy hR hJs
      gi_wp2
      go_roundw
      case rel => exact ⟨_, k + 1, by go_num, hJ2, HB2, .inr ⟨by have := HKS.out; omega, by show _ = _; rw [HWF.out, wfin_cons (fun e => HC.out ((curN_zero s k).2 e)), HP.out]⟩⟩
      case measure => simp [intOf]; omega
     ·gi_wp2
      refine bodyPost_ret (results_none rfl _ _ _) rfl ?_
      exact ⟨⟨_, rfl⟩, .inr ⟨_, ⟨[], by rw [List.append_nil, HWF.out, wfin_cons (fun e => HC.out ((curN_zero s k).2 e)), HP.out]⟩, hx2⟩⟩
   ·have hlt : (k : Int) < s.size := by omega
    have hlt2 : k < s.size := by omega
    clear hks
    have hb := byte_ne (s[k]'hlt2)
    by_cases hsp : s[k]'hlt2 = 32
    ·rw [decide_eq_true hsp] at hb
     obtain ⟨q1, q2⟩ := curN_space s k hlt2 hsp
     have HQ1 := Lib.hid q1;have HQ2 := Lib.hid q2;clear q1 q2 hsp
     rcases hf with ⟨HC, rfl⟩ | ⟨HC, rfl⟩
     ·gi_wp2
      go_roundw
      case rel => exact ⟨pre, k + 1, by go_num, hJs, HB, .inl ⟨by omega, by show _ = _; rw [HQ2.out, wfin_nil ((curN_zero s k).1 HC.out)]; exact HP.out, .inl ⟨HQ1, rfl⟩⟩⟩
      case measure => simp [intOf]; omega
     ·obtain ⟨fn, tmps, assign, body, hy, hR⟩ := hY pre (wscan (s.data.toList.take k)).2 wr hJs hpl
      dsimp only [wEncs] at hy
      rw [← cur_extract s k hk] at hy
      have hfirst : (0 : Int) ≤ ((k - curN s k : Nat) : Int) := by omega
      have hfirst2 : ((k - curN s k : Nat) : Int) ≤ k := by omega
      generalize k - curN s k = f at hy hfirst hfirst2 ⊢
      gi_wp2
      refine hR.mono ?_
      rintro e W2 (⟨rfl, hJ2, hK2⟩ | ⟨rfl, hx2⟩)
      ·have HB2 : Hid (KpB Bn W W2) := (show KpB Bn wr W2 from hK2).trans HB.out
       clear hK2 hy hR hJs
       gi_wp2
       go_roundw
       case rel => exact ⟨_, k + 1, by go_num, hJ2, HB2, .inl ⟨by omega, by show _ = _; rw [HQ2.out, wfin_cons (fun e => HC.out ((curN_zero s k).2 e)), HP.out], .inl ⟨HQ1, rfl⟩⟩⟩
       case measure => simp [intOf]; omega
      ·gi_wp2
       refine bodyPost_ret (results_none rfl _ _ _) rfl ?_
       refine ⟨⟨_, rfl⟩, .inr ⟨_, ?_, hx2⟩⟩
       obtain ⟨r, hr⟩ := wordsL_prefix s.data.toList (k + 1)
       exact ⟨r, by rw [hr, HQ2.out, wfin_cons (fun e => HC.out ((curN_zero s k).2 e)), HP.out]⟩
    ·rw [decide_eq_false hsp] at hb
     obtain ⟨q1, q2⟩ := curN_letter s k hlt2 hsp
     have HQ1 := Lib.hid q1;have HQ2 := Lib.hid q2;clear q1 q2 hsp
     rcases hf with ⟨HC, rfl⟩ | ⟨HC, rfl⟩
     ·gi_wp2
      go_roundw
      case rel => exact ⟨pre, k + 1, by go_num, hJs, HB, .inl ⟨by omega, by show _ = _; rw [HQ2.out]; exact HP.out, .inr ⟨by show _ ≠ _; rw [HQ1.out]; omega, by have h1 := HQ1.out; have h2 := HC.out; rw [h1, h2]; go_num⟩⟩⟩
      case measure => simp [intOf]; omega
     ·have hfirst : ¬ ((k - curN s k : Nat) : Int) < 0 := by omega
      have HE : Hid (k + 1 - curN s (k + 1) = k - curN s k) := by show _ = _; rw [HQ1.out]; omega
      gi_wp2
      go_roundw
      case rel => exact ⟨pre, k + 1, by go_num, hJs, HB, .inl ⟨by omega, by show _ = _; rw [HQ2.out]; exact HP.out, .inr ⟨by show _ ≠ _; rw [HQ1.out]; omega, by rw [HE.out]⟩⟩⟩
      case measure => simp [intOf]; omega
  ·obtain ⟨rfl, HP⟩ := hk
   have hcr : wr.cell? ⟨Bn, 0, none⟩ = some (.string s) := (HB.out.cell 0).trans HCW.out
   have hgt : ¬ ((s.size + 1 : Nat) : Int) ≤ s.size := by omega
   gi_wp2
   go_end0
   exact ⟨⟨_, rfl⟩, .inl (HP.out ▸ hJs)⟩
theorem words_in (F : Fence) (n : Nat) (h28 : F.fn 112) (hro : F.round = none) (s : ByteArray) (w : World) :
  CallsIn F n Tryz.prog 112 #[.string s] w fun e w' => e = .returned (.func (.func 114) #[] #[.pointer (some ⟨w.heap.size, 0, none⟩)]) ∧ w' = w.alloc (.cells #[.string s] 9) := by
 refine callsIn_of_wp Tryz.func112 rfl h28 ?_ hro
 simp only [Tryz.ntmps112, List.size_toArray, List.length_cons, List.length_nil, Nat.reduceAdd, Nat.reduceSub, Array.replicate_succ, Array.replicate_zero, List.push_toArray, List.append_toArray, List.nil_append, List.cons_append]
 gi_wp2
 go_ret;exact ⟨rfl, rfl⟩
theorem printB_take (s : ByteArray) (k : Nat) (h : k < s.size) : printB (s.data.toList.take (k + 1)) = (printB (s.data.toList.take k) && decide (32 ≤ s[k] ∧ s[k] ≤ 126)) := by
 rw [take_snoc s k h]
 simp [printB]
theorem printB_short (s : ByteArray) (k : Nat) (h : printB (s.data.toList.take k) = false) : printB s.data.toList = false := by
 rw [← List.take_append_drop k s.data.toList]
 unfold printB at *
 rw [List.all_append, h, Bool.false_and]
theorem printable_in (F : Fence) (n : Nat) (h27 : F.fn 111) (hro : F.round = none) (s : ByteArray) (w : World) (hz : s.size ≤ 200) :
  CallsIn F n Tryz.prog 111 #[.string s] w fun e w' => e = .returned (.bool (printB s.data.toList)) ∧ w = w' := by
 refine callsIn_of_wp Tryz.func111 rfl h27 ?_ hro
 simp only [Tryz.ntmps111, List.size_toArray, List.length_cons, List.length_nil, Nat.reduceAdd, Nat.reduceSub, Array.replicate_succ, Array.replicate_zero, List.push_toArray, List.append_toArray, List.nil_append, List.cons_append]
 gi_wp2
 gi_loop [3] (fun i => ∃ k : Nat, k ≤ s.size ∧ i = .int .i64 k ∧ Hid (printB (s.data.toList.take k) = true)) (fun i => s.size - (intOf i).toNat)
 case atStart => exact ⟨0, Nat.zero_le _, rfl, (rfl : printB [] = true)⟩
 case round =>
  obtain ⟨k, hk, rfl, HP⟩ := hrel
  by_cases hks : k = s.size
  ·have HS : Hid (printB s.data.toList = true) := by
    have := HP.out
    rwa [hks, take_all] at this
   have hlt : ¬ (k : Int) < s.size := by omega
   clear hks
   gi_wp2
   go_ret
   exact ⟨by rw [HS.out]; rfl, rfl⟩
  ·have hlt : (k : Int) < s.size := by omega
   have hlt2 : k < s.size := by omega
   clear hks
   have hpt := printB_take s k hlt2
   rw [HP.out, Bool.true_and] at hpt
   have c1 : (32 ≤ s[k] ∧ s[k] ≤ 126) ↔ (32 ≤ (s[k].toNat : Int) ∧ (s[k].toNat : Int) ≤ 126) := by
    rw [UInt8.le_iff_toNat_le, UInt8.le_iff_toNat_le]
    simp
    omega
   by_cases hr : 32 ≤ (s[k].toNat : Int) ∧ (s[k].toNat : Int) ≤ 126
   ·rw [decide_eq_true (c1.2 hr)] at hpt
    have HPT := Lib.hid hpt
    obtain ⟨hr1, hr2⟩ := hr
    clear hpt c1
    gi_wp2
    go_round
    case rel => exact ⟨k + 1, by omega, by go_num, HPT⟩
    case measure => simp [intOf]; omega
   ·rw [decide_eq_false (fun h => hr (c1.1 h))] at hpt
    have HPT := Lib.hid (printB_short s (k + 1) hpt)
    clear hpt c1
    by_cases hr1 : 32 ≤ (s[k].toNat : Int)
    ·have hr2 : 126 < (s[k].toNat : Int) := by omega
     clear hr
     gi_wp2
     go_ret
     exact ⟨by rw [HPT.out]; rfl, rfl⟩
    ·clear hr
     gi_wp2
     go_ret
     exact ⟨by rw [HPT.out]; rfl, rfl⟩
end
section
open Go.RowKit Go.Shelf
attribute [local go_sem] Oper.semAt_some
def scells (l : List (List UInt8)) : List Value := l.map fun r => Value.string ⟨r.toArray⟩
theorem wpListIn_append_run {F : Fence} {n : Nat} {P : Program} (w : World) {ops : Array Oper} {rest : List Oper} {o : Oper} {a : Act} {Q : Exit → Act → World → Prop}
  (hg : o.guard = none) (s x : Operand) (t : TypeId) (hop : o.op = Op.call { callee := Callee.builtin Builtin.append, args := #[s, x], argTypes := #[t, t] })
  (v y v' : Value) (w' : World) (hs : a.eval s = v) (hx : a.eval x = y) (hrun : (Builtin.append_ #[t, t] o.type #[v, y]).run P w = .ok v' w') (hK : wpListIn F n P ops Q rest (a.put o.dst v') w') : wpListIn F n P ops Q (o :: rest) a w := by
 refine wpListIn_plain hg fun K hK' => ?_
 unfold Oper.wpIn
 refine ⟨?_, ?_⟩
 ·simp [Oper.about, hop, resolve, Target.leads, Sem.run_pure]
 ·rw [Oper.semAt_plain F _ _ (by rw [hop]; intro c hc'; cases hc')]
  simp [execOp, hop, resolve, invoke, builtin, hs, hx, hrun, Result.andThen]
  exact hK' _ _ hK
theorem rowsOf_len (ws : List (List UInt8)) : (rowsOf ws).length ≤ ws.length := by
 induction ws using snocRec with
 | h0 => exact Nat.le_refl _
 | hs ws w ih =>
  rw [rowsOf_snoc]
  unfold rstep
  rcases List.eq_nil_or_concat (rowsOf ws) with e | ⟨rs, r, e⟩
  ·rw [e]
   simp
  ·rw [List.concat_eq_append] at e
   rw [e] at ih ⊢
   simp at ih ⊢
   split
   ·simp; omega
   ·simp; omega
theorem rowsOf_wide (ws : List (List UInt8)) (h : narrowB ws = true) : ∀ r ∈ rowsOf ws, r.length ≤ 32 := by
 induction ws using snocRec with
 | h0 => intro r hr; simp [rowsOf] at hr
 | hs ws w ih =>
  have hn : narrowB ws = true ∧ w.length ≤ 32 := by simpa [narrowB] using h
  have ih := ih hn.1
  rw [rowsOf_snoc]
  unfold rstep
  rcases List.eq_nil_or_concat (rowsOf ws) with e | ⟨rs, r, e⟩
  ·rw [e]
   intro x hx
   simp at hx
   subst hx;exact hn.2
  ·rw [List.concat_eq_append] at e
   rw [e] at ih ⊢
   simp
   intro x hx
   split at hx
   ·rename_i hf
    simp at hx
    rcases hx with hx | hx
    ·exact ih x (by simp [hx])
    ·subst hx
     simp
     omega
   ·simp at hx
    rcases hx with hx | hx | hx
    ·exact ih x (by simp [hx])
    ·subst hx
     exact ih x (by simp)
    ·subst hx
     exact hn.2
theorem rstep_fit (rs : List (List UInt8)) (r w : List UInt8) (h : r.length + 1 + w.length ≤ 32) : rstep (rs ++ [r]) w = rs ++ [r ++ 32 :: w] := by
 unfold rstep
 simp [h]
theorem rstep_new (rs : List (List UInt8)) (r w : List UInt8) (h : ¬ r.length + 1 + w.length ≤ 32) : rstep (rs ++ [r]) w = rs ++ [r] ++ [w] := by
 unfold rstep
 simp [h]
theorem narrow_snoc (ws : List (List UInt8)) (w : List UInt8) : narrowB (ws ++ [w]) = (narrowB ws && decide (w.length ≤ 32)) := by simp [narrowB]
def RowC (B : Nat) (pre : List (List UInt8)) (W : World) : Prop :=
 (∃ v, Blk W (B + 1 + 1) 187 [v] ∧ W.ownsRow (B + 4) 9 1 v (rowsOf pre).length (scells (rowsOf pre))) ∧ Blk W B 187 [.slice none 0 0] ∧ Blk W (B + 1) 4 [.bool false] ∧ narrowB pre = true ∧ B + 4 ≤ W.heap.size
theorem blk_own {W W' : World} {row : Option Nat} {g : Nat} {t : TypeId} {l : List Value} (h : Blk W g t l) (hg : W.grownBy W' row) (hr : ∀ r, row = some r → ∃ o : Obj, W.heap[r]? = some o ∧ o.isCells = false) : Blk W' g t l :=
 h.kept (hg.block g h.lt (fun e => by
  obtain ⟨o, ho, hc⟩ := hr g e.symm
  rw [show W.heap[g]? = _ from h] at ho
  cases ho
  cases hc))
theorem own_own {W W' : World} {row : Option Nat} {B : Nat} {t : TypeId} {size : Nat} {v : Value} {n : Nat} {xs : List Value} (h : W.ownsRow B t size v n xs) (hg : W.grownBy W' row) (hr : ∀ r, row = some r → ∃ o : Obj, W.heap[r]? = some o ∧ o.isCells = false) : W'.ownsRow B t size v n xs := by
 refine h.kept hg ?_
 rcases h.2 with ⟨rfl, _⟩ | ⟨g, cap, cur, rfl, _, hgb, _⟩
 ·exact .inl rfl
 ·refine .inr fun e' => ?_
  obtain ⟨o, ho, hc⟩ := hr g (by simpa [Value.ownBlock] using e'.symm)
  rw [hgb] at ho
  cases ho
  cases hc
theorem rowC_own (B : Nat) : Own (RowC B) := by
 rintro pre W W' row ⟨⟨v, hb, ho⟩, h0, h1, hn, hz⟩ hg hr
 exact ⟨⟨v, blk_own hb hg hr, own_own ho hg hr⟩, blk_own h0 hg hr, blk_own h1 hg hr, hn, Nat.le_trans hz hg.size⟩
def RowX (B : Nat) (c : Code) (pre : List (List UInt8)) (W : World) : Prop :=
 c = .ret ∧ Blk W B 187 [.slice none 0 0] ∧ Blk W (B + 1) 4 [.bool false] ∧ narrowB pre = false ∧ B + 4 ≤ W.heap.size
theorem rowX_own (B : Nat) (c : Code) : Own (RowX B c) := by
 rintro pre W W' row ⟨hc, h0, h1, hn, hz⟩ hg hr;exact ⟨hc, blk_own h0 hg hr, blk_own h1 hg hr, hn, Nat.le_trans hz hg.size⟩
theorem _root_.Go.Proofs.YtjkiidhnmljmbaaGreatDoor.Fr.others {S : Nat → Prop} {W W' : World} (h : Fr S W W') (hS : ∀ k o, S k → W.heap[k]? = some o → o.isCells = true) : KeepsOthers W W' :=
 ⟨h.size, fun k o hk ho => by
  refine (h.block k (Array.getElem?_eq_some_iff.1 hk).1 (fun hs => ?_)).trans hk
  rw [hS k o hs hk] at ho
  cases ho⟩
theorem _root_.Go.Proofs.YtjkiidhnmljmbaaGreatDoor.Blk.cells {W : World} {g : Nat} {t : TypeId} {l : List Value} (h : Blk W g t l) {o : Obj} (ho : W.heap[g]? = some o) : o.isCells = true := by
 rw [show W.heap[g]? = _ from h] at ho
 cases ho
 rfl
theorem own_cells {W : World} {B : Nat} {t : TypeId} {size : Nat} {v : Value} {n : Nat} {xs : List Value} (h : W.ownsRow B t size v n xs) {k : Nat} (hk : v.ownBlock = some k) {o : Obj} (ho : W.heap[k]? = some o) : o.isCells = true := by
 rcases h.2 with ⟨rfl, _⟩ | ⟨g, cap, cur, rfl, _, hgb, _⟩
 ·simp [Value.ownBlock] at hk
 ·simp [Value.ownBlock] at hk
  subst hk;rw [hgb] at ho
  cases ho
  rfl
theorem own_ge {wr : World} {B : Nat} {t : TypeId} {size : Nat} {v : Value} {n : Nat} {xs : List Value} (h : wr.ownsRow B t size v n xs) : ∀ k, v.ownBlock = some k → B ≤ k := fun k hk => by
 rcases h.2 with ⟨rfl, rfl⟩ | ⟨g, cap, cur, rfl, q2, q3⟩
 ·simp [Value.ownBlock] at hk
 ·simp [Value.ownBlock] at hk
  omega
theorem own_lt {wr : World} {B : Nat} {t : TypeId} {size : Nat} {v : Value} {n : Nat} {xs : List Value} (h : wr.ownsRow B t size v n xs) : ∀ k, v.ownBlock = some k → k < wr.heap.size := fun k hk => by
 rcases h.2 with ⟨rfl, rfl⟩ | ⟨g, cap, cur, rfl, q2, q3⟩
 ·simp [Value.ownBlock] at hk
 ·simp [Value.ownBlock] at hk
  subst hk
  exact (Array.getElem?_eq_some_iff.1 q3.1).1
theorem own_slice {wr : World} {B : Nat} {t : TypeId} {size : Nat} {v : Value} {n : Nat} {xs : List Value} (h : wr.ownsRow B t size v n xs) : ∃ oa cap, v = .slice oa n cap := by
 rcases h.2 with ⟨rfl, rfl⟩ | ⟨g, cap, _, rfl, _⟩
 ·exact ⟨_, _, rfl⟩
 ·exact ⟨_, _, rfl⟩
theorem own_base {wr : World} {B B' : Nat} {t : TypeId} {size : Nat} {v : Value} {n : Nat} {xs : List Value} (h : wr.ownsRow B t size v n xs) (hb : B' ≤ B) : wr.ownsRow B' t size v n xs := by
 refine ⟨h.1, ?_⟩
 rcases h.2 with h2 | ⟨g, cap, cur, q1, q2, q3⟩
 ·exact .inl h2
 ·exact .inr ⟨g, cap, cur, q1, Nat.le_trans hb q2, q3⟩
theorem ownsRow_keptF {W W' : World} {B : Nat} {t : TypeId} {size : Nat} {v : Value} {n : Nat} {xs : List Value} (h : W.ownsRow B t size v n xs) (hk : ∀ k, v.ownBlock = some k → W'.heap[k]? = W.heap[k]?) : W'.ownsRow B t size v n xs := by
 refine ⟨h.1, ?_⟩
 rcases h.2 with h2 | ⟨g, cap, cur, rfl, q2, q3, q4⟩
 ·exact .inl h2
 ·exact .inr ⟨g, cap, cur, rfl, q2, (hk g rfl).trans q3, q4⟩
theorem Tryz.infoStr : (Tryz.prog.info? 9).map (fun i => (i.zero, i.size, i.bytes)) = some (some (.string ⟨#[]⟩), 1, 16) := by kernel_rfl
theorem app_str (wr : World) (B : Nat) (v : Value) (n : Nat) (xs : List Value) (x : ByteArray) (hown : wr.ownsRow B 9 1 v n xs) (hn : n ≤ 1000000) (hB : B ≤ wr.heap.size) (ty : TypeId) :
  ∃ v' w', (Builtin.append_ #[187, 187] ty #[v, .slice (some ⟨wr.heap.size, 0, none⟩) 1 1]).run Tryz.prog (wr.alloc (.cells #[.string x] 9)) = .ok v' w' ∧ w'.ownsRow B 9 1 v' (n + 1) (xs ++ [.string x]) ∧ Fr (fun k => v.ownBlock = some k) wr w' ∧ (∀ k, v'.ownBlock = some k → v.ownBlock = some k ∨ wr.heap.size ≤ k) := by
 obtain ⟨i0, hi, hz0, hz1, hz2⟩ := info_parts Tryz.infoStr
 have hnew : Blk (wr.alloc (.cells #[.string x] 9)) wr.heap.size 9 [.string x] := Blk.new wr _ _
 obtain ⟨v', w', hrun, h1, h2, h3⟩ := app_own (P := Tryz.prog) (W := wr.alloc (.cells #[.string x] 9)) B 187 ty 9 i0 (.string ⟨#[]⟩) 1 16 Tryz.underlying187 hi hz0 hz1 hz2 rfl (by decide) v n xs (hown.alloc _) ⟨wr.heap.size, 0, none⟩ 1 1 [.string x] rfl (fun j u hj => by
   rw [show ((⟨wr.heap.size, 0, none⟩ : Addr).add j) = ⟨wr.heap.size, j, none⟩ from by unfold Addr.add; split <;> simp_all, hnew.cell]
   exact hj) (by intro u hu; simp at hu; subst hu; rfl) (by unfold maxLen; omega) (by omega) (by simp; omega)
 exact ⟨v', w', hrun, h1, ((Fr.refl _ wr).alloc _).trans h2 (fun _ _ h => h), fun k hk => (h3 k hk).imp_right (fun h => by simp at h; omega)⟩
theorem rowC_app {w W w9 : World} {v v' : Value} {pre : List (List UInt8)} {x : List UInt8} (hbv : Blk W (w.heap.size + 1 + 1) 187 [v]) (how : W.ownsRow (w.heap.size + 4) 9 1 v (rowsOf pre).length (scells (rowsOf pre))) (hb0 : Blk W w.heap.size 187 [.slice none 0 0]) (hb1 : Blk W (w.heap.size + 1) 4 [.bool false]) (hna : narrowB pre = true) (hsz : w.heap.size + 4 ≤ W.heap.size) (hB : Below w.heap.size w W) (hx : x.length ≤ 32)
  (ho9 : w9.ownsRow (w.heap.size + 4) 9 1 v' ((rowsOf pre).length + 1) (scells (rowsOf pre) ++ [.string ⟨x.toArray⟩])) (hf9 : Fr (fun k => v.ownBlock = some k) W w9) (hk9 : ∀ k, v'.ownBlock = some k → v.ownBlock = some k ∨ W.heap.size ≤ k) (hr : rowsOf (pre ++ [x]) = rowsOf pre ++ [x]) :
  KeepsOthers W (w9.setCell ⟨w.heap.size + 1 + 1, 0, none⟩ v') ∧ KpB (w.heap.size + 1 + 1 + 1) W (w9.setCell ⟨w.heap.size + 1 + 1, 0, none⟩ v') ∧ RowC w.heap.size (pre ++ [x]) (w9.setCell ⟨w.heap.size + 1 + 1, 0, none⟩ v') ∧ Below w.heap.size w (w9.setCell ⟨w.heap.size + 1 + 1, 0, none⟩ v') := by
 have hge := own_ge how
 have hs9 := hf9.size
 have hfr : Fr (fun k => v.ownBlock = some k ∨ k = w.heap.size + 1 + 1) W (w9.setCell ⟨w.heap.size + 1 + 1, 0, none⟩ v') := (hf9.mono (fun k hk => .inl hk)).setCell _ _ (.inl (.inr rfl))
 have no : ∀ k, k < w.heap.size + 4 → k ≠ w.heap.size + 1 + 1 → ¬ (v.ownBlock = some k ∨ k = w.heap.size + 1 + 1) := fun k h1 h2 h => by
  rcases h with h | h
  ·have := hge k h; omega
  ·exact h2 h
 refine ⟨hfr.others (fun k o hk ho => ?_), hfr.block _ (by omega) (no _ (by omega) (by omega)), ⟨⟨v', ?_, ?_⟩, hb0.kept (hfr.block _ (by omega) (no _ (by omega) (by omega))), hb1.kept (hfr.block _ (by omega) (no _ (by omega) (by omega))), ?_, ?_⟩, hB.trans (hfr.below _ (by omega) (fun k hk => ?_))⟩
 ·rcases hk with hk | rfl
  ·exact own_cells how hk ho
  ·exact hbv.cells ho
 ·have h1 : Blk w9 (w.heap.size + 1 + 1) 187 [v] := hbv.kept (hf9.block _ (by omega) (fun e => by have := hge _ e; omega))
  exact h1.set 0 v'
 ·rw [hr, List.length_append, show scells (rowsOf pre ++ [x]) = scells (rowsOf pre) ++ [.string ⟨x.toArray⟩] from by simp [scells]]
  refine ownsRow_keptF ho9 (fun k hk => Below.heap_setCell _ _ _ _ ?_)
  rcases hk9 k hk with h | h
  ·have := hge k h; show k ≠ w.heap.size + 1 + 1; omega
  ·show k ≠ w.heap.size + 1 + 1; omega
 ·rw [narrow_snoc, hna, decide_eq_true hx]; rfl
 ·have := hfr.size; omega
 ·rcases hk with hk | rfl
  ·have := hge k hk; omega
  ·omega
theorem rowC_set {w W : World} {g cap : Nat} {pre rs : List (List UInt8)} {r x : List UInt8} (hbv : Blk W (w.heap.size + 1 + 1) 187 [.slice (some ⟨g, 0, none⟩) (rowsOf pre).length cap]) (how : W.ownsRow (w.heap.size + 4) 9 1 (.slice (some ⟨g, 0, none⟩) (rowsOf pre).length cap) (rowsOf pre).length (scells (rowsOf pre))) (hb0 : Blk W w.heap.size 187 [.slice none 0 0]) (hb1 : Blk W (w.heap.size + 1) 4 [.bool false]) (hna : narrowB pre = true) (hsz : w.heap.size + 4 ≤ W.heap.size) (hB : Below w.heap.size w W) (hx : x.length ≤ 32)
  (he : rowsOf pre = rs ++ [r]) (hr : rowsOf (pre ++ [x]) = rs ++ [r ++ 32 :: x]) :
  KeepsOthers W (W.setCell ⟨g, rs.length, none⟩ (.string ⟨(r ++ 32 :: x).toArray⟩)) ∧ KpB (w.heap.size + 1 + 1 + 1) W (W.setCell ⟨g, rs.length, none⟩ (.string ⟨(r ++ 32 :: x).toArray⟩)) ∧ RowC w.heap.size (pre ++ [x]) (W.setCell ⟨g, rs.length, none⟩ (.string ⟨(r ++ 32 :: x).toArray⟩)) ∧ Below w.heap.size w (W.setCell ⟨g, rs.length, none⟩ (.string ⟨(r ++ 32 :: x).toArray⟩)) := by
 have hge : w.heap.size + 4 ≤ g := own_ge how g rfl
 have hfr : Fr (fun k => k = g) W (W.setCell ⟨g, rs.length, none⟩ (.string ⟨(r ++ 32 :: x).toArray⟩)) := (Fr.refl _ W).setCell _ _ (.inl rfl)
 have hlen : (rowsOf (pre ++ [x])).length = (rowsOf pre).length := by rw [hr, he]; simp
 refine ⟨hfr.others (fun k o hk ho => ?_), hfr.block _ (by omega) (by omega), ⟨⟨_, hbv.kept (hfr.block _ (by omega) (by omega)), ?_⟩, hb0.kept (hfr.block _ (by omega) (by omega)), hb1.kept (hfr.block _ (by omega) (by omega)), ?_, ?_⟩, hB.trans (hfr.below _ (by omega) (fun k hk => by omega))⟩
 ·subst hk
  exact own_cells how rfl ho
 ·rw [hlen]
  have := (how.stored rs.length (.string ⟨(r ++ 32 :: x).toArray⟩)).1
  rw [show (scells (rowsOf pre)).set rs.length (.string ⟨(r ++ 32 :: x).toArray⟩) = scells (rowsOf (pre ++ [x])) from by
   rw [he, hr]
   simp [scells, List.set_append]] at this
  exact this
 ·rw [narrow_snoc, hna, decide_eq_true hx]; rfl
 ·have := hfr.size; omega
theorem after_take {w W' : World} {D : Nat} {v : Value} {b : Bool} {n : Nat} {xs : List Value} (hK : W'.heap[D]? = some (.deferred (some []))) (h0 : Blk W' w.heap.size 187 [v]) (h1 : Blk W' (w.heap.size + 1) 4 [.bool b]) (hB : Below w.heap.size w W') (hD : w.heap.size ≤ D) (ho : W'.ownsRow w.heap.size 9 1 v n xs) :
  (Instr.takeDeferred D).run Tryz.prog W' = .ok [] (W'.putObj D (.deferred none)) ∧ (W'.putObj D (.deferred none)).cell? ⟨w.heap.size, 0, none⟩ = some v ∧ (W'.putObj D (.deferred none)).cell? ⟨w.heap.size + 1, 0, none⟩ = some (.bool b) ∧ Below w.heap.size w (W'.putObj D (.deferred none)) ∧ (W'.putObj D (.deferred none)).ownsRow w.heap.size 9 1 v n xs := by
 have hg := grownBy_putObj' W' D (.deferred none)
 have hr : ∀ r, some D = some r → ∃ o : Obj, W'.heap[r]? = some o ∧ o.isCells = false := fun r e => by cases e; exact ⟨_, hK, rfl⟩
 exact ⟨run_takeDeferred hK, (blk_own h0 hg hr).cell 0, (blk_own h1 hg hr).cell 0, hB.grown hg hB.size (fun k e => by cases e; exact hD), own_own ho hg hr⟩
theorem kpB_put {b n : Nat} (hb : b < n) (W : World) (l : Nat) (o o' : Obj) (hl : n ≤ l) (h : W.heap[l]? = some o) (_ : o.isCells = false) (_ : o.isWalk = false) : KpB b W (W.putObj l o') :=
 (grownBy_putObj' W l o').block b (by have := (Array.getElem?_eq_some_iff.1 h).1; omega) (by intro e; cases e; omega)
theorem rows_fit (F : Fence) (n : Nat) (h13 : F.fn 107) (h27 : F.fn 111) (h28 : F.fn 112) (h32 : F.fn 114) (hro : F.round = none) (hn : 3 ≤ n) (s : ByteArray) (w : World) (hz : s.size ≤ 200) (hp : printB s.data.toList = true) :
  CallsIn F n Tryz.prog 107 #[.string s] w fun e w' => ∃ v, e = .returned (.tuple #[v, .bool (fitsB s.data.toList)]) ∧ w'.ownsRow w.heap.size 9 1 v (rowsR s.data.toList).length (scells (rowsR s.data.toList)) ∧ Below w.heap.size w w' := by
 have h1 : 1 ≤ n := by omega
 have hz' : (s.size : Int) ≤ 200 := by omega
 have HP := Lib.hid hp;clear hp
 refine callsIn_of_wp_marks Tryz.func107 rfl h13 ?_ hro
 simp only [Tryz.ntmps107, List.size_toArray, List.length_cons, List.length_nil, Nat.reduceAdd, Nat.reduceSub, Array.replicate_succ, Array.replicate_zero, List.push_toArray, List.append_toArray, List.nil_append, List.cons_append]
 gi_wp2_with (gi_at_call 111; refine (printable_in F (n - 1) h27 hro s _ hz).mono ?_; rw [HP.out]; rintro e w' ⟨rfl, rfl⟩)
 refine (words_in F (n - 1) h28 hro s _).mono ?_
 rintro e w' ⟨rfl, rfl⟩
 gi_wp2_with fail
 generalize Value.bool (decide (200 < (s.size : Int))) = b0
 have hB0 : Below w.heap.size w ((((w.alloc (.cells #[.slice none 0 0] 187)).alloc (.cells #[.bool false] 4)).alloc (.cells #[.slice none 0 0] 187)).alloc (.cells #[.string s] 9)) :=
  ((((Below.refl _ w).alloc (Nat.le_refl _) _).alloc (by simp) _).alloc (by simp; omega) _).alloc (by simp; omega) _
 have q0 : Blk ((((w.alloc (.cells #[.slice none 0 0] 187)).alloc (.cells #[.bool false] 4)).alloc (.cells #[.slice none 0 0] 187)).alloc (.cells #[.string s] 9)) w.heap.size 187 [.slice none 0 0] := (((Blk.new w _ _).alloc _).alloc _).alloc _
 have q1 : Blk ((((w.alloc (.cells #[.slice none 0 0] 187)).alloc (.cells #[.bool false] 4)).alloc (.cells #[.slice none 0 0] 187)).alloc (.cells #[.string s] 9)) (w.heap.size + 1) 4 [.bool false] := by
  have := (Blk.new (w.alloc (.cells #[.slice none 0 0] 187)) 4 [.bool false]).alloc (.cells #[.slice none 0 0] 187) |>.alloc (.cells #[.string s] 9)
  simpa using this
 have q2 : Blk ((((w.alloc (.cells #[.slice none 0 0] 187)).alloc (.cells #[.bool false] 4)).alloc (.cells #[.slice none 0 0] 187)).alloc (.cells #[.string s] 9)) (w.heap.size + 1 + 1) 187 [.slice none 0 0] := by
  have := (Blk.new ((w.alloc (.cells #[.slice none 0 0] 187)).alloc (.cells #[.bool false] 4)) 187 [.slice none 0 0]).alloc (.cells #[.string s] 9)
  simpa using this
 have q3 : Blk ((((w.alloc (.cells #[.slice none 0 0] 187)).alloc (.cells #[.bool false] 4)).alloc (.cells #[.slice none 0 0] 187)).alloc (.cells #[.string s] 9)) (w.heap.size + 1 + 1 + 1) 9 [.string s] := by
  have := (Blk.new (((w.alloc (.cells #[.slice none 0 0] 187)).alloc (.cells #[.bool false] 4)).alloc (.cells #[.slice none 0 0] 187)) 9 [.string s])
  simpa using this
 have hsz : ((((w.alloc (.cells #[.slice none 0 0] 187)).alloc (.cells #[.bool false] 4)).alloc (.cells #[.slice none 0 0] 187)).alloc (.cells #[.string s] 9)).heap.size = w.heap.size + 4 := by simp
 generalize ((((w.alloc (.cells #[.slice none 0 0] 187)).alloc (.cells #[.bool false] 4)).alloc (.cells #[.slice none 0 0] 187)).alloc (.cells #[.string s] 9)) = W0 at hB0 q0 q1 q2 q3 hsz ⊢
 have hI0 : RowC w.heap.size [] W0 := ⟨⟨_, q2, World.ownsRow_nil _ _ _ _⟩, q0, q1, rfl, by omega⟩
 have hsz' : w.heap.size + 4 ≤ W0.heap.size := by omega
 have HI0 := Lib.hid hI0;have HB0 := Lib.hid hB0
 have HQ3 := Lib.hid (q3.cell 0)
 clear q0 q1 q2 q3 hI0 hB0 hsz
 refine wpIn_rangeFunc_ownF hro h1 (gf := 114) (lb := #[.pointer (some ⟨w.heap.size + 1 + 1 + 1, 0, none⟩)]) rfl h32 (enters_of Tryz.func114 (by kernel_rfl) rfl)
  (words_stops F (n - 1) h32 hro (by omega) (w.heap.size + 1 + 1 + 1) s W0 (by omega) hz HQ3.out) (fun h k => Eq.trans k h) (kpB_put (by omega)) (Below.refl _ _) (fun _ => rfl)
  (fun pre W => RowC w.heap.size pre W ∧ Below w.heap.size w W)
  (fun c pre W => RowX w.heap.size c pre W ∧ Below w.heap.size w W)
  (OwnFrom.and (Own.from (rowC_own _) _) (ownFrom_below (Nat.le_refl _) (by omega)))
  (fun c => OwnFrom.and (Own.from (rowX_own _ c) _) (ownFrom_below (Nat.le_refl _) (by omega)))
  ⟨HI0.out, HB0.out⟩
  (fun g => { tmps := #[.string s, undef, .pointer (some ⟨w.heap.size, 0, none⟩), .pointer (some ⟨w.heap.size + 1, 0, none⟩), .pointer (some ⟨w.heap.size + 1 + 1, 0, none⟩), .string ⟨g.toArray⟩, undef, .string s, .int .i64 s.size, b0, b0, .string s, .bool true, .bool false, b0, .string s, .func (.func 114) #[] #[.pointer (some ⟨w.heap.size + 1 + 1 + 1, 0, none⟩)], .string ⟨g.toArray⟩, undef, undef, undef, undef, undef, undef, undef, undef, undef, undef, undef, undef, undef, undef, undef, undef, undef, undef, undef, undef, undef, undef, undef, undef, undef, undef, undef, undef, undef, undef, undef, undef, undef, undef, undef, undef, undef, undef, undef, undef, undef], defers := [] }) ?assign ?body ?done ?stop
 case assign =>
  intro l x W K hK
  gi_wp2
  exact hK
 case body =>
  rintro l pre x W ⟨⟨⟨v, hbv, how⟩, hb0, hb1, hna, hsz⟩, hB⟩ hlen
  have hrl := rowsOf_len pre
  have HE := Lib.hid (show (⟨x.toArray⟩ : ByteArray).data.toList = x from rfl)
  have hxs : (⟨x.toArray⟩ : ByteArray).size = x.length := rfl
  obtain ⟨X, hX⟩ : ∃ X : ByteArray, (⟨x.toArray⟩ : ByteArray) = X := ⟨_, rfl⟩
  dsimp only
  rw [hX] at hxs ⊢
  have HX := Lib.hid hX;clear hX HE
  by_cases hx : x.length ≤ 32
  ·have hx' : (X.size : Int) ≤ 32 := by omega
   obtain ⟨oa, cap, rfl⟩ := own_slice how
   have c4 := hbv.cell 0
   have f4 := hbv.frozen 0
   simp only [List.getElem?_cons_zero] at c4
   rcases List.eq_nil_or_concat (rowsOf pre) with e | ⟨rs, r, e⟩
   ·obtain ⟨v', w9, hrun, ho9, hf9, hk9⟩ := app_str W (w.heap.size + 4) _ (rowsOf pre).length _ X how (by omega) hsz 187
    have HF := rowC_app hbv how hb0 hb1 hna hsz hB hx (by rw [HX.out]; exact ho9) hf9 hk9 (by rw [rowsOf_snoc, e]; rfl)
    obtain ⟨oa', cap', rfl⟩ := own_slice ho9
    have hl0 : (rowsOf pre).length = 0 := by rw [e]; rfl
    rw [hl0] at HF
    have HF' := Lib.hid HF
    have hge := own_ge how
    have hb9 : Blk w9 (w.heap.size + 1 + 1) _ _ := hbv.kept (hf9.block _ (by omega) (fun e => by have := hge _ e; omega))
    have d4 := hb9.cell 0
    have g4 := hb9.frozen 0
    simp only [List.getElem?_cons_zero] at d4
    clear hge hb9 HF hbv how hb0 hb1 hna hsz hB hf9 hk9 ho9 e hrl hlen hxs;rw [hl0] at c4 hrun d4
    have hneg : ¬ (0 : Int) ≤ -1 := by decide
    gi_wp2_with (gi_at_builtin; refine wpListIn_append_run _ rfl _ _ 187 rfl _ _ _ _ rfl rfl hrun ?_)
    exact HF'.out
   ·rw [List.concat_eq_append] at e
    have hln : (rowsOf pre).length = rs.length + 1 := by rw [e]; simp
    obtain ⟨g, rfl⟩ : ∃ g, oa = some ⟨g, 0, none⟩ := by
     rcases how.2 with ⟨he, h0⟩ | ⟨g, cap', cur, he, _⟩
     ·omega
     ·simp at he
      exact ⟨g, he.1⟩
    have cr : W.cell? ⟨g, rs.length, none⟩ = some (.string ⟨r.toArray⟩) := by
     rw [how.cellAt rs.length (by omega), e]
     simp [scells]
    have fr := how.frozenAt rs.length
    have hrs : (⟨r.toArray⟩ : ByteArray).size = r.length := rfl
    have hrw := rowsOf_wide pre hna r (by rw [e]; simp)
    obtain ⟨R, hR⟩ : ∃ R : ByteArray, (⟨r.toArray⟩ : ByteArray) = R := ⟨_, rfl⟩
    rw [hR] at hrs cr;have HR := Lib.hid hR;clear hR
    have hm1 : ((rowsOf pre).length : Int) - 1 = (rs.length : Int) := by omega
    have hpos : (0 : Int) ≤ rs.length := by omega
    have hbd : rs.length ≤ 201 := by omega
    have hin : (rs.length : Int) < (rowsOf pre).length := by omega
    by_cases hf : r.length + 1 + x.length ≤ 32
    ·have HF := rowC_set hbv how hb0 hb1 hna hsz hB hx e (by rw [rowsOf_snoc, e, rstep_fit _ _ _ hf])
     rw [show (⟨(r ++ 32 :: x).toArray⟩ : ByteArray) = R ++ (⟨#[32]⟩ ++ X) from by
      rw [← HR.out, ← HX.out]
      apply ByteArray.ext
      simp] at HF
     have HF' := Lib.hid HF
     have hf' : (R.size : Int) + 1 + X.size ≤ 32 := by omega
     rw [hln] at c4
     have h1 : ((rs.length + 1 : Nat) : Int) - 1 = (rs.length : Int) := by omega
     have h2 : (rs.length : Int) < ((rs.length + 1 : Nat) : Int) := by omega
     clear HF hbv how hb0 hb1 hna hsz hB e hln hm1 hf hrs hrw hxs hin
     gi_wp2
     exact HF'.out
    ·obtain ⟨v', w9, hrun, ho9, hf9, hk9⟩ := app_str W (w.heap.size + 4) _ (rowsOf pre).length _ X how (by omega) hsz 187
     have HF := rowC_app hbv how hb0 hb1 hna hsz hB hx (by rw [HX.out]; exact ho9) hf9 hk9 (by rw [rowsOf_snoc, e, rstep_new _ _ _ hf])
     obtain ⟨oa', cap', rfl⟩ := own_slice ho9
     rw [hln] at HF
     have HF' := Lib.hid HF
     have hge := own_ge how
     have hb9 : Blk w9 (w.heap.size + 1 + 1) _ _ := hbv.kept (hf9.block _ (by omega) (fun e => by have := hge _ e; omega))
     have d4 := hb9.cell 0
     have g4 := hb9.frozen 0
     simp only [List.getElem?_cons_zero] at d4
     rw [hln] at c4 hrun d4
     have hf' : ¬ (R.size : Int) + 1 + X.size ≤ 32 := by omega
     have h1 : ((rs.length + 1 : Nat) : Int) - 1 = (rs.length : Int) := by omega
     have h2 : (rs.length : Int) < ((rs.length + 1 : Nat) : Int) := by omega
     have hRs : R.size ≤ 32 := by omega
     clear hge hb9 HF hbv how hb0 hb1 hna hsz hB hf9 hk9 ho9 e hln hm1 hf hrs hrw hxs hin
     gi_wp2_with (gi_at_builtin; refine wpListIn_append_run _ rfl _ _ 187 rfl _ _ _ _ rfl rfl hrun ?_)
     exact HF'.out
  ·have hx' : (32 : Int) < X.size := by omega
   have c0 := hb0.cell 0
   have f0 := hb0.frozen 0
   have c1 := hb1.cell 0
   have f1 := hb1.frozen 0
   simp only [List.getElem?_cons_zero] at c0 c1
   have HF : Hid (KeepsOthers W ((W.setCell ⟨w.heap.size, 0, none⟩ (.slice none 0 0)).setCell ⟨w.heap.size + 1, 0, none⟩ (.bool false)) ∧ RowX w.heap.size .ret (pre ++ [x]) ((W.setCell ⟨w.heap.size, 0, none⟩ (.slice none 0 0)).setCell ⟨w.heap.size + 1, 0, none⟩ (.bool false)) ∧ Below w.heap.size w ((W.setCell ⟨w.heap.size, 0, none⟩ (.slice none 0 0)).setCell ⟨w.heap.size + 1, 0, none⟩ (.bool false))) := by
    refine ⟨(KeepsOthers.setCell _ _ _).trans (KeepsOthers.setCell _ _ _), ⟨rfl, (hb0.set 0 _).other _ (by simp) _, (hb1.other _ (by simp) _).set 0 _, ?_, ?_⟩, (hB.setCell (by simp) _).setCell (by simp) _⟩
    ·rw [narrow_snoc, decide_eq_false hx, Bool.and_false]
    ·simpa [World.setCell] using hsz
   clear hbv how hb0 hb1 hna hsz hB hxs
   gi_wp2
   exact HF.out
 case done =>
  rintro D ys W hD rfl ⟨⟨⟨v, hbv, how⟩, hb0, hb1, hna, hsz⟩, hB⟩ hK
  obtain ⟨oa, cap, rfl⟩ := own_slice how
  have hrl := rowsOf_len (wordsL s.data.toList)
  have hwl : (wordsL s.data.toList).length ≤ 200 := by
   have h1 := wscan_count s.data.toList
   rw [dlen] at h1
   unfold wordsL wfin
   split
   ·omega
   ·rename_i h2
    rw [if_neg h2] at h1;rw [List.length_append]
    simp
    omega
  have c4 := hbv.cell 0
  have c0 := hb0.cell 0
  have f0 := hb0.frozen 0
  have c1 := hb1.cell 0
  have f1 := hb1.frozen 0
  simp only [List.getElem?_cons_zero] at c0 c1 c4
  have hfit : fitsB s.data.toList = decide (1 ≤ (rowsOf (wordsL s.data.toList)).length ∧ (rowsOf (wordsL s.data.toList)).length ≤ 4) := by
   unfold fitsB
   rw [HP.out, hna, dlen, decide_eq_true hz]
   rfl
  have hge := own_ge how
  by_cases h : 1 ≤ (rowsOf (wordsL s.data.toList)).length ∧ (rowsOf (wordsL s.data.toList)).length ≤ 4
  ·rw [decide_eq_true h] at hfit
   have hrr : rowsR s.data.toList = rowsOf (wordsL s.data.toList) := by unfold rowsR; rw [if_pos hfit]
   have HFI := Lib.hid hfit;have HRR := Lib.hid hrr;clear hfit hrr
   obtain ⟨h1, h2⟩ := h
   have h1' : ((((rowsOf (wordsL s.data.toList)).length : Nat) : Int) == 0) = false := by rw [beq_eq_false_iff_ne]; omega
   have h2' : (((rowsOf (wordsL s.data.toList)).length : Nat) : Int) ≤ 4 := by omega
   have HA := Lib.hid (after_take (w := w) (v := .slice oa (rowsOf (wordsL s.data.toList)).length cap) (b := true) (n := (rowsOf (wordsL s.data.toList)).length) (xs := scells (rowsOf (wordsL s.data.toList)))
    (W' := (W.setCell ⟨w.heap.size, 0, none⟩ (.slice oa (rowsOf (wordsL s.data.toList)).length cap)).setCell ⟨w.heap.size + 1, 0, none⟩ (.bool true)) (D := D) (by
     rw [Below.heap_setCell _ _ _ _ (by show D ≠ w.heap.size + 1; omega), Below.heap_setCell _ _ _ _ (by show D ≠ w.heap.size; omega)]
     exact hK) ((hb0.set 0 _).other _ (by simp) _) ((hb1.other _ (by simp) _).set 0 _) ((hB.setCell (by simp) _).setCell (by simp) _) (by omega)
    (ownsRow_keptF (own_base how (by omega)) (fun k hk => by
     have := hge k hk
     rw [Below.heap_setCell _ _ _ _ (by show k ≠ w.heap.size + 1; omega), Below.heap_setCell _ _ _ _ (by show k ≠ w.heap.size; omega)])))
   clear hbv how hb0 hb1 hna hsz hB hge hrl hwl
   gi_wp2
   obtain ⟨a0, a1, a2, a3, a4⟩ := HA.out
   refine ⟨by simp, .inl ⟨D, _, rfl, a0, ?_⟩⟩
   refine ⟨.tuple #[.slice oa (rowsOf (wordsL s.data.toList)).length cap, .bool true], by simp [results, Tryz.f107, go_sem, a1, a2], _, by rw [HFI.out], ?_, a3⟩
   rw [HRR.out];exact a4
  ·rw [decide_eq_false h] at hfit
   have hrr : rowsR s.data.toList = [] := by unfold rowsR; rw [if_neg (by rw [hfit]; decide)]
   have HFI := Lib.hid hfit;have HRR := Lib.hid hrr;clear hfit hrr
   have HA := Lib.hid (after_take (w := w) (v := .slice none 0 0) (b := false) (n := 0) (xs := [])
    (W' := (W.setCell ⟨w.heap.size, 0, none⟩ (.slice none 0 0)).setCell ⟨w.heap.size + 1, 0, none⟩ (.bool false)) (D := D) (by
     rw [Below.heap_setCell _ _ _ _ (by show D ≠ w.heap.size + 1; omega), Below.heap_setCell _ _ _ _ (by show D ≠ w.heap.size; omega)]
     exact hK) ((hb0.set 0 _).other _ (by simp) _) ((hb1.other _ (by simp) _).set 0 _) ((hB.setCell (by simp) _).setCell (by simp) _) (by omega) (World.ownsRow_nil _ _ _ _))
   clear hbv how hb0 hb1 hna hsz hB hge
   rcases (show (((((rowsOf (wordsL s.data.toList)).length : Nat) : Int) == 0) = true ∧ True) ∨ (((((rowsOf (wordsL s.data.toList)).length : Nat) : Int) == 0) = false ∧ ¬ (((rowsOf (wordsL s.data.toList)).length : Nat) : Int) ≤ 4) from by
    by_cases h0 : (rowsOf (wordsL s.data.toList)).length = 0
    ·exact .inl ⟨by rw [h0]; rfl, trivial⟩
    ·exact .inr ⟨by rw [beq_eq_false_iff_ne]; omega, by omega⟩) with ⟨h1, h2⟩ | ⟨h1, h2⟩
   all_goals
    gi_wp2
    obtain ⟨a0, a1, a2, a3, a4⟩ := HA.out
    refine ⟨by simp, .inl ⟨D, _, rfl, a0, ?_⟩⟩
    refine ⟨.tuple #[.slice none 0 0, .bool false], by simp [results, Tryz.f107, go_sem, a1, a2], _, by rw [HFI.out], ?_, a3⟩
    rw [HRR.out];exact a4
 case stop =>
  rintro D c pre W hD ⟨rest, hpre⟩ ⟨⟨rfl, hb0, hb1, hna, hsz⟩, hB⟩ hK
  have hfit : fitsB s.data.toList = false := by
   unfold fitsB
   rw [hpre, show narrowB (pre ++ rest) = false from by unfold narrowB at *; rw [List.all_append, hna, Bool.false_and], Bool.and_false, Bool.false_and]
  have hrr : rowsR s.data.toList = [] := by unfold rowsR; rw [if_neg (by rw [hfit]; decide)]
  have HFI := Lib.hid hfit;have HRR := Lib.hid hrr;clear hfit hrr
  have c0 := hb0.cell 0
  have c1 := hb1.cell 0
  simp only [List.getElem?_cons_zero] at c0 c1
  have HA := Lib.hid (after_take (w := w) (v := .slice none 0 0) (b := false) (n := 0) (xs := []) (D := D) hK hb0 hb1 hB (by omega) (World.ownsRow_nil _ _ _ _))
  clear hb0 hb1 hna hsz hB
  gi_wp2
  obtain ⟨a0, a1, a2, a3, a4⟩ := HA.out
  refine ⟨by simp, .inl ⟨D, _, rfl, a0, ?_⟩⟩
  refine ⟨.tuple #[.slice none 0 0, .bool false], by simp [results, Tryz.f107, go_sem, a1, a2], _, by rw [HFI.out], ?_, a3⟩
  rw [HRR.out];exact a4
theorem rows_no (F : Fence) (n : Nat) (h13 : F.fn 107) (h27 : F.fn 111) (hro : F.round = none) (h1 : 1 ≤ n) (s : ByteArray) (w : World) (hsz : s.size ≤ maxLen) (h : 200 < s.size ∨ (s.size ≤ 200 ∧ printB s.data.toList = false)) :
  CallsIn F n Tryz.prog 107 #[.string s] w fun e w' => e = .returned (.tuple #[.slice none 0 0, .bool false]) ∧ Below w.heap.size w w' := by
 rcases h with h | ⟨hz, hp⟩
 ·have h' : (200 : Int) < s.size := by omega
  unfold maxLen at hsz
  refine callsIn_of_wp Tryz.func107 rfl h13 ?_ hro
  simp only [Tryz.ntmps107, List.size_toArray, List.length_cons, List.length_nil, Nat.reduceAdd, Nat.reduceSub, Array.replicate_succ, Array.replicate_zero, List.push_toArray, List.append_toArray, List.nil_append, List.cons_append]
  gi_wp2
  exact bodyPost_ret (v := .tuple #[.slice none 0 0, .bool false]) (by simp [results, Tryz.results107, go_sem]) rfl ⟨rfl, ((Below.refl _ w).alloc (Nat.le_refl _) _).alloc (by simp) _⟩
 ·have h' : (s.size : Int) ≤ 200 := by omega
  have HP := Lib.hid hp;clear hp
  refine callsIn_of_wp Tryz.func107 rfl h13 ?_ hro
  simp only [Tryz.ntmps107, List.size_toArray, List.length_cons, List.length_nil, Nat.reduceAdd, Nat.reduceSub, Array.replicate_succ, Array.replicate_zero, List.push_toArray, List.append_toArray, List.nil_append, List.cons_append]
  gi_wp2_with (gi_at_call 111; refine (printable_in F (n - 1) h27 hro s _ hz).mono ?_; rw [HP.out]; rintro e w' ⟨rfl, rfl⟩)
  exact bodyPost_ret (v := .tuple #[.slice none 0 0, .bool false]) (by simp [results, Tryz.results107, go_sem]) rfl ⟨rfl, ((Below.refl _ w).alloc (Nat.le_refl _) _).alloc (by simp) _⟩
theorem rows_any (s : ByteArray) (w : World) (hsz : s.size ≤ maxLen) :
  Calls Tryz.prog 107 #[.string s] w fun e w' => ∃ v, e = .returned (.tuple #[v, .bool (fitsB s.data.toList)]) ∧ w'.ownsRow w.heap.size 9 1 v (rowsR s.data.toList).length (scells (rowsR s.data.toList)) ∧ Below w.heap.size w w' := by
 refine (callsIn_wide (n := 3)).1 ?_
 by_cases hz : s.size ≤ 200
 ·cases hp : printB s.data.toList
  ·have hf : fitsB s.data.toList = false := by unfold fitsB; rw [hp, Bool.and_false, Bool.false_and, Bool.false_and]
   have hr : rowsR s.data.toList = [] := by unfold rowsR; rw [if_neg (by rw [hf]; decide)]
   rw [hf, hr]
   exact (rows_no Fence.wide 3 trivial trivial rfl (by decide) s w hsz (.inr ⟨hz, hp⟩)).mono fun e w' ⟨he, hb⟩ => ⟨_, he, World.ownsRow_nil _ _ _ _, hb⟩
  ·exact rows_fit Fence.wide 3 trivial trivial trivial trivial rfl (Nat.le_refl _) s w hz hp
 ·have hf : fitsB s.data.toList = false := by
   unfold fitsB
   rw [dlen, decide_eq_false hz, Bool.false_and, Bool.false_and, Bool.false_and]
  have hr : rowsR s.data.toList = [] := by unfold rowsR; rw [if_neg (by rw [hf]; decide)]
  rw [hf, hr]
  exact (rows_no Fence.wide 3 trivial trivial rfl (by decide) s w hsz (.inl (by omega))).mono fun e w' ⟨he, hb⟩ => ⟨_, he, World.ownsRow_nil _ _ _ _, hb⟩
end
end Cp
end Go.Proofs.YtjkiidhnmljmbaaGreatDoor
namespace Go.Proofs.YtjkiidhnmljmbaaGreatDoor
namespace Cp
section
open Go.RowKit
def Cue.cells (c : Cue) : List Value := [.int .i64 c.id, .int .i64 c.fr, .int .i64 c.to, .int .i64 c.pr, .string c.tx]
structure Cue.Ok (c : Cue) : Prop where
 i0 : -9223372036854775808 ≤ c.id
 i1 : c.id ≤ 9223372036854775807
 f0 : -9223372036854775808 ≤ c.fr
 f1 : c.fr ≤ 9223372036854775807
 t0 : -9223372036854775808 ≤ c.to
 t1 : c.to ≤ 9223372036854775807
 p0 : -9223372036854775808 ≤ c.pr
 p1 : c.pr ≤ 9223372036854775807
 sz : c.tx.size ≤ maxLen
theorem str_empty (s : ByteArray) : s.toList = [] ↔ s = ⟨#[]⟩ := by
 constructor
 ·intro h
  rw [ByteArray.toList_eq] at h
  apply ByteArray.ext
  apply Array.ext'
  exact h
 ·rintro rfl
  rw [ByteArray.toList_eq]
theorem valid_any (c : Cue) (w : World) (hc : c.tx.size ≤ maxLen) :
  Calls Tryz.prog 90 #[.agg #[.int .i64 c.id, .int .i64 c.fr, .int .i64 c.to, .int .i64 c.pr, .string c.tx]] w fun e w' => e = .returned (.bool (validB c)) ∧ Below w.heap.size w w' := by
 obtain ⟨i, f, t, p, s⟩ := c
 have sz : s.size ≤ maxLen := hc
 clear hc
 by_cases h1 : 1 ≤ i ∧ i ≤ 4611686018427387903
 ·obtain ⟨h1, h1'⟩ := h1
  by_cases h2 : t = 0
  ·subst h2
   have hv : validB ⟨i, f, 0, p, s⟩ = (decide (f = 0) && decide (p = 0) && decide (s = ⟨#[]⟩)) := by
    unfold validB
    rw [if_pos rfl, decide_eq_true h1, decide_eq_true h1']
    rfl
   rw [hv];clear hv
   have hse := str_empty s
   by_cases hf : f = 0
   ·subst hf
    by_cases hp : p = 0
    ·subst hp
     by_cases hs : s = ⟨#[]⟩
     ·subst hs
      clear hse
      go_enter Tryz.func90, Tryz.ntmps90
      go_wp2_with fail
      go_ret
      exact ⟨rfl, (Below.refl _ w).alloc (Nat.le_refl _) _⟩
     ·have hs' : ¬ s.toList = [] := fun e => hs (hse.1 e)
      have HS := Lib.hid hs;clear hs hse
      go_enter Tryz.func90, Tryz.ntmps90
      go_wp2_with fail
      go_ret
      exact ⟨by rw [decide_eq_false HS.out]; rfl, (Below.refl _ w).alloc (Nat.le_refl _) _⟩
    ·have HS := Lib.hid hp
     clear hse
     go_enter Tryz.func90, Tryz.ntmps90
     go_wp2_with fail
     go_ret
     exact ⟨by rw [decide_eq_false HS.out]; rfl, (Below.refl _ w).alloc (Nat.le_refl _) _⟩
   ·have HS := Lib.hid hf
    clear hse
    go_enter Tryz.func90, Tryz.ntmps90
    go_wp2_with fail
    go_ret
    exact ⟨by rw [decide_eq_false HS.out]; rfl, (Below.refl _ w).alloc (Nat.le_refl _) _⟩
  ·have h2' : (t == 0) = false := by rw [beq_eq_false_iff_ne]; exact h2
   have hv : validB ⟨i, f, t, p, s⟩ = (decide (0 ≤ f) && decide (f < t) && decide (t ≤ 100000000) && decide (0 ≤ p) && decide (p ≤ 3) && fitsB s.data.toList) := by
    unfold validB
    rw [if_neg h2, decide_eq_true h1, decide_eq_true h1']
    rfl
   rw [hv];clear hv h2
   by_cases hf : 0 ≤ f ∧ f < t ∧ t ≤ 100000000
   ·obtain ⟨hf1, hf2, hf3⟩ := hf
    rw [decide_eq_true hf1, decide_eq_true hf2, decide_eq_true hf3]
    by_cases hp : 0 ≤ p ∧ p ≤ 3
    ·obtain ⟨hp1, hp2⟩ := hp
     rw [decide_eq_true hp1, decide_eq_true hp2]
     go_enter Tryz.func90, Tryz.ntmps90
     go_wp2_with fail
     refine (rows_any s _ sz).mono ?_
     rintro e w' ⟨v, rfl, _, hb⟩
     go_wp2_with fail
     go_ret
     exact ⟨rfl, bstep ((Below.refl _ w).alloc (Nat.le_refl _) _) hb⟩
    ·have HP : Hid ((true && true && true && decide (0 ≤ p) && decide (p ≤ 3) && fitsB s.data.toList) = false) := by
      show _ = _
      rw [Bool.eq_false_iff]
      intro h
      simp at h
      exact hp ⟨h.1.1, h.1.2⟩
     rcases (show p < 0 ∨ (0 ≤ p ∧ 3 < p) from by omega) with q1 | ⟨q1, q2⟩
     all_goals
      clear hp
      go_enter Tryz.func90, Tryz.ntmps90
      go_wp2_with fail
      go_ret
      exact ⟨by rw [HP.out]; rfl, (Below.refl _ w).alloc (Nat.le_refl _) _⟩
   ·have HP : Hid ((decide (0 ≤ f) && decide (f < t) && decide (t ≤ 100000000) && decide (0 ≤ p) && decide (p ≤ 3) && fitsB s.data.toList) = false) := by
     show _ = _
     rw [Bool.eq_false_iff]
     intro h
     simp at h
     exact hf ⟨h.1.1.1.1.1, h.1.1.1.1.2, h.1.1.1.2⟩
    rcases (show f < 0 ∨ (0 ≤ f ∧ t ≤ f) ∨ (0 ≤ f ∧ f < t ∧ 100000000 < t) from by omega) with q1 | ⟨q1, q2⟩ | ⟨q1, q2, q3⟩
    all_goals
     clear hf
     go_enter Tryz.func90, Tryz.ntmps90
     go_wp2_with fail
     go_ret
     exact ⟨by rw [HP.out]; rfl, (Below.refl _ w).alloc (Nat.le_refl _) _⟩
 ·have HP : Hid (validB ⟨i, f, t, p, s⟩ = false) := by
   show _ = _
   unfold validB
   rw [Bool.eq_false_iff]
   intro h
   simp only [Bool.and_eq_true, decide_eq_true_eq] at h
   exact h1 h.1
  rcases (show i < 1 ∨ (1 ≤ i ∧ 4611686018427387903 < i) from by omega) with q1 | ⟨q1, q2⟩
  all_goals
   clear h1
   go_enter Tryz.func90, Tryz.ntmps90
   go_wp2_with fail
   go_ret
   exact ⟨by rw [HP.out]; rfl, (Below.refl _ w).alloc (Nat.le_refl _) _⟩
end
end Cp
end Go.Proofs.YtjkiidhnmljmbaaGreatDoor
