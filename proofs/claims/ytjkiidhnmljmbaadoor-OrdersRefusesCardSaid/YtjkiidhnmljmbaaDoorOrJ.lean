/-
  Orders: the iterator over the postings that a sender is to send; what a tick does with them.
-/
import Derived.RangeFuncNested
import Derived.RangeFuncBound
import Derived.RangeFuncCalls
import Derived.RangeFuncLeaves
import Derived.RangeFuncBox
import Derived.Shelf.Abstract
import Derived.Shelf.RegionOpen
import Derived.WalkKit
import Derived.OwnWalkIn
import Derived.TacticsInMore
import Derived.LoopNIn
import Derived.LoopIn
import Derived.RegionIn
import Derived.BigRegionIn
import Derived.Sort.CutIn
import Derived.Test.YtjkiidhnmljmbaaDoorBas
import Derived.Test.YtjkiidhnmljmbaaDoorOrF
set_option linter.unusedVariables false
set_option linter.unusedSimpArgs false
namespace Go.Proofs.YtjkiidhnmljmbaaDoor
open Go.RowKit
theorem ownsRow_set {W : World} {B : Nat} {e : TypeId} {size g n cap : Nat} {xs : List Value} (h : W.ownsRow B e size (.slice (some ⟨g, 0, none⟩) n cap) n xs) (j : Nat) (u : Value) : (W.setCell ⟨g, j, none⟩ u).ownsRow B e size (.slice (some ⟨g, 0, none⟩) n cap) n (xs.set j u) := by
  refine ⟨by rw [List.length_set]; exact h.1, ?_⟩
  rcases h.2 with ⟨h2, _⟩ | ⟨g', cap', cur, q1, q2, q3, q4, q5, q6, q7⟩
  · cases h2
  · cases q1
    refine .inr ⟨g, cap, cur.setIfInBounds j u, rfl, q2, ?_, q4, q5, by simpa using q6, ?_⟩
    · simp [World.setCell, Array.getElem?_modify, q3]
    · rw [Array.toList_setIfInBounds, List.take_set, q7]
theorem set_same {α : Type} {l : List α} {j : Nat} {p : α} (h : l[j]? = some p) : l.set j p = l := by
  obtain ⟨hj, rfl⟩ := List.getElem?_eq_some_iff.1 h
  exact List.set_getElem_self hj
/-- Is a posting sent at a frame; what becomes of it. -/
def Pst.due (p : Pst) (now : Int) : Bool := dueB p.sent p.at_ now
def Pst.upd (p : Pst) (now : Int) : Pst := if p.due now then ⟨p.fr, true, now⟩ else p
/-- The postings behind the rounds first to j - 1 of a tick; what was sent then. -/
def updL (L : List Pst) (first j : Nat) (now : Int) : List Pst := L.mapIdx fun i p => if first ≤ i ∧ i < j then p.upd now else p
def sentL (L : List Pst) (first : Nat) (now : Int) : Nat → List (Nat × Int)
  | 0 => []
  | j + 1 => sentL L first now j ++ (match L[j]? with | some p => if first ≤ j ∧ p.due now = true then [(j, p.fr)] else [] | none => [])
theorem updL_len (L : List Pst) (first j : Nat) (now : Int) : (updL L first j now).length = L.length := by simp [updL]
theorem updL_get (L : List Pst) (first j : Nat) (now : Int) (i : Nat) : (updL L first j now)[i]? = (L[i]?).map fun p => if first ≤ i ∧ i < j then p.upd now else p := by simp [updL]
theorem updL_first (L : List Pst) (first : Nat) (now : Int) : updL L first first now = L := by
  refine List.ext_getElem? fun i => ?_
  rw [updL_get]
  cases L[i]? with
  | none => rfl
  | some p => simp only [Option.map_some]; rw [if_neg (by omega)]
theorem updL_at (L : List Pst) (first j : Nat) (now : Int) : (updL L first j now)[j]? = L[j]? := by
  rw [updL_get]
  cases L[j]? with
  | none => rfl
  | some p => simp only [Option.map_some]; rw [if_neg (by omega)]
theorem updL_succ (L : List Pst) (first j : Nat) (now : Int) (p : Pst) (hf : first ≤ j) (hp : L[j]? = some p) : updL L first (j + 1) now = (updL L first j now).set j (p.upd now) := by
  have hl := (List.getElem?_eq_some_iff.1 hp).1
  refine List.ext_getElem? fun i => ?_
  rw [updL_get, List.getElem?_set, updL_len]
  by_cases e : j = i
  · subst e
    rw [if_pos rfl, if_pos hl, hp]
    simp only [Option.map_some]
    rw [if_pos ⟨hf, by omega⟩]
  · rw [if_neg e, updL_get]
    cases L[i]? with
    | none => rfl
    | some q =>
      simp only [Option.map_some]
      by_cases h : first ≤ i ∧ i < j
      · rw [if_pos h, if_pos ⟨h.1, by omega⟩]
      · rw [if_neg h, if_neg (by omega)]
theorem updL_skip (L : List Pst) (first j : Nat) (now : Int) (p : Pst) (hf : first ≤ j) (hp : L[j]? = some p) (hd : p.due now = false) : updL L first (j + 1) now = updL L first j now := by
  rw [updL_succ L first j now p hf hp, show p.upd now = p by unfold Pst.upd; rw [hd]; rfl]
  exact set_same (by rw [updL_at]; exact hp)
theorem sentL_yes (L : List Pst) (first j : Nat) (now : Int) (p : Pst) (hf : first ≤ j) (hp : L[j]? = some p) (hd : p.due now = true) : sentL L first now (j + 1) = sentL L first now j ++ [(j, p.fr)] := by
  simp only [sentL, hp]
  rw [if_pos ⟨hf, hd⟩]
theorem sentL_no (L : List Pst) (first j : Nat) (now : Int) (p : Pst) (hp : L[j]? = some p) (hd : p.due now = false) : sentL L first now (j + 1) = sentL L first now j := by
  simp only [sentL, hp]
  rw [if_neg (by rw [hd]; simp)]
  simp
theorem sentL_start (L : List Pst) (first : Nat) (now : Int) : ∀ j, j ≤ first → sentL L first now j = []
  | 0, _ => rfl
  | j + 1, h => by
    simp only [sentL, sentL_start L first now j (by omega)]
    cases L[j]? with
    | none => rfl
    | some p => simp only [List.nil_append]; rw [if_neg (by omega)]
theorem sentL_len (L : List Pst) (first : Nat) (now : Int) : ∀ j, (sentL L first now j).length ≤ j
  | 0 => Nat.le_refl _
  | j + 1 => by
    have := sentL_len L first now j
    simp only [sentL, List.length_append]
    split
    · split <;> simp <;> omega
    · simp; omega
theorem pCells_set (q p : Pst) : ∀ (L : List Pst) (i j : Nat), L[j]? = some p → q.fr = p.fr → pCells i (L.set j q) = ((pCells i L).set (j * 28 + 26) (.bool q.sent)).set (j * 28 + 27) (.int .i64 q.at_)
  | [], _, _, h, _ => by simp at h
  | r :: l, i, 0, h, hf => by
    simp at h
    subst h
    simp only [List.set_cons_zero, pCells, Nat.zero_mul, Nat.zero_add]
    rw [List.set_append_left _ _ (by rw [pstC_len]; omega), List.set_append_left _ _ (by rw [List.length_set, pstC_len]; omega)]
    unfold pstC
    rw [hf]
    rfl
  | r :: l, i, j + 1, h, hf => by
    have := pCells_set q p l (i + 1) j (by simpa using h) hf
    simp only [List.set_cons_succ, pCells, this]
    rw [List.set_append_right _ _ (by rw [pstC_len]; omega), List.set_append_right _ _ (by rw [pstC_len]; omega), pstC_len, show (j + 1) * 28 + 26 - 28 = j * 28 + 26 by omega, show (j + 1) * 28 + 27 - 28 = j * 28 + 27 by omega]
/-- The cells of the messages that bear the orders with the given places and frames. -/
def mCells (tn : Int) (l : List (Nat × Int)) : List Value := l.flatMap fun x => (msgA 1 tn ((x.1 : Int) + 1) 0 0 ((x.1 : Int) + 1) (-1) x.2 2 1).toList
theorem mCells_snoc (tn : Int) (l : List (Nat × Int)) (j : Nat) (f : Int) : mCells tn l ++ (msgA 1 tn ((j : Int) + 1) 0 0 ((j : Int) + 1) (-1) f 2 1).toList = mCells tn (l ++ [(j, f)]) := by simp [mCells]
theorem wanted_any (bs : Nat) (w : World) :
    Calls Tryd.prog 45 #[.pointer (some ⟨bs, 0, none⟩)] w fun e w' => e = .returned (.func (.func 71) #[] #[.pointer (some ⟨w.heap.size, 0, none⟩)]) ∧ w' = w.alloc (.cells #[.pointer (some ⟨bs, 0, none⟩)] 48) := by
  go_enter Tryd.func45, Tryd.ntmps45
  go_wp2
  go_ret
  exact ⟨rfl, rfl⟩
theorem Blk.kpS {S : Nat → Prop} {W W' : World} {g : Nat} {t : TypeId} {l : List Value} (h : Blk W g t l) (hk : KpS S W W') (hs : ¬ S g) : Blk W' g t l := hk.same g _ h rfl hs
/-- The first posting that is wanted. -/
def firstW (k n : Nat) : Nat := if k = n then n - 1 else k
abbrev pEncs (g : Nat) (j : Nat) : Array Value := #[.pointer (some ⟨g, j * 28, none⟩)]
set_option maxHeartbeats 4000000 in
set_option maxRecDepth 100000 in
theorem wanted_seq (n : Nat) (hn : 1 ≤ n) (Bn bs g N cap k : Nat) (oa : Option Addr) (v0 v1 : Value) (w : World) (hN : N ≤ 1000000) (hk : k ≤ N) (hoa : 0 < N → oa = some ⟨g, 0, none⟩) (hbn : Blk w Bn 48 [.pointer (some ⟨bs, 0, none⟩)]) (hbs : Blk w bs 97 [v0, v1, .slice oa N cap, .int .i64 k]) :
    SeqE Fence.wide n Tryd.prog 71 #[.pointer (some ⟨Bn, 0, none⟩)] (pEncs g) (fun b => b = Bn ∨ b = bs) (List.range' (firstW k N) (N - firstW k N)) (fun _ => False) false w := fun l J Jz W hW hJ hJz hS hY hYz h0 => by
  obtain ⟨S0, h0⟩ := h0
  have HJ := Lib.hid hJ
  have HS := Lib.hid hS
  have HY := Lib.hid hY
  have H0 := Lib.hid h0
  have HOA := Lib.hid hoa
  have hbn1 : Blk W Bn 48 [.pointer (some ⟨bs, 0, none⟩)] := hbn.kept (hW.block Bn hbn.lt)
  have hbs1 : Blk W bs 97 [v0, v1, .slice oa N cap, .int .i64 k] := hbs.kept (hW.block bs hbs.lt)
  have c0 := hbn1.cell 0
  have d2 := hbs1.cell 2
  have d3 := hbs1.cell 3
  simp only [List.getElem?_cons_zero, List.getElem?_cons_succ] at c0 d2 d3
  have HBN := Lib.hid hbn1
  have HBS := Lib.hid hbs1
  obtain ⟨f, hf⟩ : ∃ f, firstW k N = f := ⟨_, rfl⟩
  have hfN : f ≤ N := by rw [← hf]; unfold firstW; split <;> omega
  have HF := Lib.hid hf
  rw [hf] at HY ⊢
  obtain ⟨xs, hxs⟩ : ∃ xs, List.range' f (N - f) = xs := ⟨_, rfl⟩
  have hxl : xs.length = N - f := by rw [← hxs, List.length_range']
  have hxa : ∀ a, f + a < N → xs[a]? = some (f + a) := fun a ha => by rw [← hxs, List.getElem?_range' (by omega)]; simp
  rw [hxs] at HY ⊢
  have HXL := Lib.hid hxl
  have HXA := Lib.hid hxa
  clear h0 hW hbn hbs hbn1 hbs1 hJ hJz hS hY hYz hoa hf hxs hxl hxa
  refine callsIn_of_wp Tryd.func71 rfl trivial ?_ rfl
  simp only [Tryd.ntmps71, List.size_toArray, List.length_cons, List.length_nil, Nat.reduceAdd, Nat.reduceSub, Array.replicate_succ, Array.replicate_zero, List.push_toArray, List.append_toArray, List.nil_append, List.cons_append]
  rcases (show k < N ∨ (k = N ∧ 0 < N) ∨ (k = N ∧ N = 0) from by omega) with hc | ⟨hc, hc2⟩ | ⟨hc, hc2⟩
  · have hfk : f = k := by rw [← HF.out]; unfold firstW; rw [if_neg (by omega)]
    subst hfk
    have q1 : ((f : Int) == (N : Int)) = false := by rw [beq_eq_false_iff_ne]; omega
    gi_wp2
    gi_loopw [5] (fun y wr => ∃ (a : Nat) (S : Nat → Prop), f + a ≤ N ∧ y = .int .i64 ((f + a : Nat) : Int) ∧ Hid (J a S wr) ∧ Hid (Blk wr Bn 48 [.pointer (some ⟨bs, 0, none⟩)]) ∧ Hid (Blk wr bs 97 [v0, v1, .slice oa N cap, .int .i64 f])) (fun y _ => N - (intOf y).toNat)
    case atStart => exact ⟨0, S0, hfN, rfl, H0, HBN, HBS⟩
    case round =>
      clear H0 HBN HBS c0 d2 d3
      obtain ⟨a, S, haN, rfl, HJr, HBr, HSr⟩ := hrel
      have c0 := HBr.out.cell 0
      have d2 := HSr.out.cell 2
      simp only [List.getElem?_cons_zero, List.getElem?_cons_succ] at c0 d2
      obtain ⟨j, hj⟩ : ∃ j, f + a = j := ⟨_, rfl⟩
      rw [hj] at haN ⊢
      by_cases hlt : j < N
      · obtain rfl := HOA.out (by omega)
        have q3 : (j : Int) < (N : Int) := by omega
        obtain ⟨fn, tmps, assign, body, hy, hR⟩ := HY.out a S j wr HJr.out (by rw [HXA.out a (by omega), hj])
        have HR := Lib.hid hR
        have HJJ := Lib.hid hj
        dsimp only [pEncs] at hy
        clear hR hj
        gi_wp2
        refine HR.out.mono ?_
        rintro e w4 ⟨rfl, ⟨S', hj4⟩, hk4⟩
        have HB4 := Lib.hid (HBr.out.kpS hk4 (fun h => (HS.out _ _ _ HJr.out _ h).2 (.inl rfl)))
        have HS4 := Lib.hid (HSr.out.kpS hk4 (fun h => (HS.out _ _ _ HJr.out _ h).2 (.inr rfl)))
        have HJ4 := Lib.hid hj4
        clear c0 d2 hj4 hk4 hy
        gi_wp2
        go_roundw
        case rel => exact ⟨a + 1, S', by have := HJJ.out; omega, by rw [show f + (a + 1) = j + 1 by have := HJJ.out; omega]; go_num, HJ4, HB4, HS4⟩
        case measure => simp [intOf]; omega
      · have q3 : ¬ (j : Int) < (N : Int) := by omega
        have HJE : Hid (J xs.length S wr) := by
          have e : xs.length = a := by rw [HXL.out]; omega
          rw [e]
          exact HJr.out
        clear hlt hj
        gi_wp2
        refine bodyPost_end (results_none rfl _ _ _) rfl ?_
        exact ⟨⟨_, rfl⟩, S, HJE.out⟩
  · have hfk : f = N - 1 := by rw [← HF.out]; unfold firstW; rw [if_pos hc]
    subst hc
    have q0 : (k : Int) - 1 = (f : Int) := by omega
    have q1 : ((k : Int) == (k : Int)) = true := by simp
    have q2 : max (f : Int) 0 = (f : Int) := by omega
    clear HF hfk
    gi_wp2
    gi_loopw [5] (fun y wr => ∃ (a : Nat) (S : Nat → Prop), f + a ≤ k ∧ y = .int .i64 ((f + a : Nat) : Int) ∧ Hid (J a S wr) ∧ Hid (Blk wr Bn 48 [.pointer (some ⟨bs, 0, none⟩)]) ∧ Hid (Blk wr bs 97 [v0, v1, .slice oa k cap, .int .i64 k])) (fun y _ => k - (intOf y).toNat)
    case atStart => exact ⟨0, S0, hfN, rfl, H0, HBN, HBS⟩
    case round =>
      clear H0 HBN HBS c0 d2 d3
      obtain ⟨a, S, haN, rfl, HJr, HBr, HSr⟩ := hrel
      have c0 := HBr.out.cell 0
      have d2 := HSr.out.cell 2
      simp only [List.getElem?_cons_zero, List.getElem?_cons_succ] at c0 d2
      obtain ⟨j, hj⟩ : ∃ j, f + a = j := ⟨_, rfl⟩
      rw [hj] at haN ⊢
      by_cases hlt : j < k
      · obtain rfl := HOA.out (by omega)
        have q3 : (j : Int) < (k : Int) := by omega
        obtain ⟨fn, tmps, assign, body, hy, hR⟩ := HY.out a S j wr HJr.out (by rw [HXA.out a (by omega), hj])
        have HR := Lib.hid hR
        have HJJ := Lib.hid hj
        dsimp only [pEncs] at hy
        clear hR hj
        gi_wp2
        refine HR.out.mono ?_
        rintro e w4 ⟨rfl, ⟨S', hj4⟩, hk4⟩
        have HB4 := Lib.hid (HBr.out.kpS hk4 (fun h => (HS.out _ _ _ HJr.out _ h).2 (.inl rfl)))
        have HS4 := Lib.hid (HSr.out.kpS hk4 (fun h => (HS.out _ _ _ HJr.out _ h).2 (.inr rfl)))
        have HJ4 := Lib.hid hj4
        clear c0 d2 hj4 hk4 hy
        gi_wp2
        go_roundw
        case rel => exact ⟨a + 1, S', by have := HJJ.out; omega, by rw [show f + (a + 1) = j + 1 by have := HJJ.out; omega]; go_num, HJ4, HB4, HS4⟩
        case measure => simp [intOf]; omega
      · have q3 : ¬ (j : Int) < (k : Int) := by omega
        have HJE : Hid (J xs.length S wr) := by
          have e : xs.length = a := by rw [HXL.out]; omega
          rw [e]
          exact HJr.out
        clear hlt hj
        gi_wp2
        refine bodyPost_end (results_none rfl _ _ _) rfl ?_
        exact ⟨⟨_, rfl⟩, S, HJE.out⟩
  · subst hc
    subst hc2
    obtain rfl : f = 0 := by omega
    gi_wp2
    gi_loopw [5] (fun y wr => ∃ (a : Nat) (S : Nat → Prop), 0 + a ≤ 0 ∧ y = .int .i64 ((0 + a : Nat) : Int) ∧ Hid (J a S wr) ∧ Hid (Blk wr Bn 48 [.pointer (some ⟨bs, 0, none⟩)]) ∧ Hid (Blk wr bs 97 [v0, v1, .slice oa 0 cap, .int .i64 0])) (fun y _ => 0 - (intOf y).toNat)
    case atStart => exact ⟨0, S0, hfN, rfl, H0, HBN, HBS⟩
    case round =>
      clear H0 HBN HBS c0 d2 d3
      obtain ⟨a, S, haN, rfl, HJr, HBr, HSr⟩ := hrel
      have c0 := HBr.out.cell 0
      have d2 := HSr.out.cell 2
      simp only [List.getElem?_cons_zero, List.getElem?_cons_succ] at c0 d2
      obtain ⟨j, hj⟩ : ∃ j, 0 + a = j := ⟨_, rfl⟩
      rw [hj] at haN ⊢
      by_cases hlt : j < 0
      · exact absurd hlt (Nat.not_lt_zero _)
      · have q3 : ¬ (j : Int) < (0 : Int) := by omega
        have HJE : Hid (J xs.length S wr) := by
          have e : xs.length = a := by rw [HXL.out]; omega
          rw [e]
          exact HJr.out
        clear hlt hj
        gi_wp2
        refine bodyPost_end (results_none rfl _ _ _) rfl ?_
        exact ⟨⟨_, rfl⟩, S, HJE.out⟩
end Go.Proofs.YtjkiidhnmljmbaaDoor
