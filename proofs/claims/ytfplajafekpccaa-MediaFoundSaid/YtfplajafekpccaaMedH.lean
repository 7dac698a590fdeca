/-
  The walks of media.Keys, onairref12.SameInts, onairlaw12.short.
-/
import Derived.WalkKit
import Derived.LoopTactic
import Derived.WalkSpells
import Derived.WalkLawsBesides
import Derived.RegionTactic
import Derived.BigRegion
import Derived.Deep.QuietTactic
import Derived.BigQuiet
import Derived.IntWalk
import Derived.Outline
import Derived.Test.YtfplajafekpccaaMedG
set_option linter.unusedVariables false
set_option linter.unusedSimpArgs false
namespace Go.Proofs.Ytfplajafekpccaa
open Go.RowKit Onair
def ints (l : List Int) : List Value := l.map (Value.int .i64)
theorem ints_len (l : List Int) : (ints l).length = l.length := by simp [ints]
theorem keysF_len (l : List Pic) : ∀ k, (keysF k l).length ≤ l.length := by
  induction l with
  | nil => intro k; simp [keysF]
  | cons p l ih =>
    intro k
    have := ih (k + 1)
    simp only [keysF]
    split <;> simp <;> omega
theorem keysF_snoc (l : List Pic) (j : Nat) (c : Pic) (h : l[j]? = some c) : keysF 0 (l.take (j + 1)) = if c.key then keysF 0 (l.take j) ++ [(j : Int)] else keysF 0 (l.take j) := by
  have hj : j < l.length := (List.getElem?_eq_some_iff.1 h).1
  rw [List.take_add_one, h, keysF_append]
  simp only [Option.toList_some, keysF, List.length_take, Nat.zero_add]
  rw [show min j l.length = j by omega]
  split <;> simp
set_option maxHeartbeats 4000000 in
set_option maxRecDepth 100000 in
theorem keys_any (w : World) (i : Int) (oa : Option Addr) (cap : Nat) (l : List Pic) (hl : l.length ≤ 1000000) (hok : ∀ p ∈ l, POk p) (hr : RdP w oa l) :
    Calls Try.prog 18 #[.agg #[.int .i64 i, .slice oa l.length cap]] w fun e w' => ∃ oa' cap', e = .returned (.slice oa' (keysF 0 l).length cap') ∧ RdV w' oa' (ints (keysF 0 l)) ∧ Below w.heap.size w w' := by
  have HB : Hid (Below w.heap.size w (w.alloc (.cells #[.int .i64 i, .slice oa l.length cap] 24))) := (Below.refl _ w).alloc (Nat.le_refl _) _
  have HC := Lib.hid (col_key _ oa cap l hl hok (hr.kept HB.out))
  obtain ⟨n, hn⟩ : ∃ n, l.length = n := ⟨_, rfl⟩
  have HN := Lib.hid hn
  rw [hn] at HB HC hl ⊢
  clear hr hok hn
  go_enter Try.func18, Try.ntmps18
  go_wp2_with fail
  refine HC.out.mono ?_
  rintro e w1 ⟨ob, cb, rfl, hrd1, hb1⟩
  have HR1 := Lib.hid hrd1
  have HB1 := Lib.hid (bstep HB.out hb1)
  clear hrd1 hb1 HC HB
  go_wp2_with fail
  go_loopw [3, 10] (fun v i wr => ∃ (k : Nat) (X : List Value), k ≤ n ∧ i = .int .i64 k ∧ Hid (ints (keysF 0 (l.take k)) = X) ∧ Hid (LV w1 wr 3 v X)) (fun _ i _ => n - (intOf i).toNat)
  case atStart => exact ⟨0, [], Nat.zero_le _, rfl, rfl, ⟨World.ownsRow_nil _ _ _ _, Below.refl _ _⟩⟩
  case round =>
    obtain ⟨k, X, hk, rfl, HX, HL⟩ := hrel
    obtain ⟨oL, cL, rfl⟩ := own_slice HL.out.own
    have hXl : X.length ≤ 1000000 := by
      rw [← HX.out, ints_len]
      have h1 := keysF_len (l.take k) 0
      have h2 : (l.take k).length ≤ l.length := by rw [List.length_take]; omega
      have := HN.out
      omega
    by_cases hkn : k = n
    · have q1 : ¬ (k : Int) < n := by omega
      have HE : Hid (ints (keysF 0 l) = X) := by
        have := HX.out
        rw [hkn, ← HN.out, List.take_length] at this
        exact this
      have HXN : Hid (X.length = (keysF 0 l).length) := by show _ = _; rw [← HE.out, ints_len]
      clear hkn
      go_wp2_with fail
      go_ret
      refine ⟨oL, ⟨cL, by rw [← HXN.out]; rfl⟩, ?_, bstep HB1.out HL.out.bel⟩
      rw [HE.out]
      exact (own_rdv HL.out.own).2
    · have q1 : (k : Int) < n := by omega
      obtain ⟨c, hc⟩ : ∃ c, l[k]? = some c := ⟨_, List.getElem?_eq_getElem (by rw [HN.out]; omega)⟩
      obtain ⟨g, off, e', d0⟩ := (HR1.out.kept HL.out.bel).at k (.bool c.key) (by rw [List.getElem?_map, hc]; rfl)
      subst e'
      have HS := Lib.hid (keysF_snoc l k c hc)
      clear hkn hc
      cases hck : c.key
      · rw [hck] at d0
        have HX2 : Hid (ints (keysF 0 (l.take (k + 1))) = X) := by
          show _ = _
          rw [HS.out, hck]
          exact HX.out
        clear hck
        go_wp2_with fail
        go_roundw
        case rel => exact ⟨k + 1, _, by omega, by go_num, HX2, HL⟩
        case measure => simp [intOf]; omega
      · rw [hck] at d0
        have HX2 : Hid (ints (keysF 0 (l.take (k + 1))) = X ++ [.int .i64 (k : Int)]) := by
          show _ = _
          rw [HS.out, hck, if_pos rfl, ← HX.out]
          simp [ints]
        clear hck
        obtain ⟨oM, cM, w4, hrun, ho4, hf4⟩ := app_i wr w1.heap.size _ X (k : Int) HL.out.own hXl HL.out.bel.size 30
        have HL4 := Lib.hid (HL.out.app ho4 hf4)
        clear ho4 hf4
        go_wp2_with (at_builtin; refine wpList_append_run _ rfl _ _ 30 rfl _ _ _ _ rfl rfl hrun ?_)
        go_roundw
        case rel => exact ⟨k + 1, _, by omega, by go_num, HX2, HL4⟩
        case measure => simp [intOf]; omega
/-- Are two lists of numbers the same? -/
def sameI (a b : List Int) : Bool := decide (a = b)
set_option maxHeartbeats 2000000 in
set_option maxRecDepth 100000 in
theorem sameInts_any (w : World) (oa ob : Option Addr) (ca cb : Nat) (a b : List Int) (ha : a.length ≤ 1000000) (hb : b.length ≤ 1000000) (hra : RdV w oa (ints a)) (hrb : RdV w ob (ints b)) :
    Calls Try.prog 17 #[.slice oa a.length ca, .slice ob b.length cb] w fun e w' => e = .returned (.bool (sameI a b)) ∧ Below w.heap.size w w' := by
  have HA := Lib.hid hra
  have HB := Lib.hid hrb
  clear hra hrb
  by_cases hl : a.length = b.length
  · have hl' : ((a.length : Int) != b.length) = false := by rw [hl]; simp
    have HL := Lib.hid hl
    clear hl
    go_enter Try.func17, Try.ntmps17
    go_wp2_with fail
    clear hl'
    go_loopw [5] (fun i wr => ∃ k : Nat, k ≤ a.length ∧ i = .int .i64 k ∧ Hid (a.take k = b.take k) ∧ Hid (Below w.heap.size w wr)) (fun i _ => a.length - (intOf i).toNat)
    case atStart => exact ⟨0, Nat.zero_le _, rfl, by show _ = _; simp, Below.refl _ _⟩
    case round =>
      obtain ⟨k, hk, rfl, HT, HW⟩ := hrel
      by_cases hkl : k = a.length
      · have HE : Hid (sameI a b = true) := by
          have := HT.out
          rw [hkl, List.take_length, HL.out, List.take_length] at this
          exact decide_eq_true this
        have hk' : ¬ (k : Int) < a.length := by omega
        clear hkl
        go_wp2_with fail
        go_ret
        exact ⟨by rw [HE.out]; rfl, HW.out⟩
      · have hk' : (k : Int) < a.length := by omega
        have hk2 : k < a.length := by omega
        have hk3 : k < b.length := by have := HL.out; omega
        have hk4 : (k : Int) < b.length := by omega
        obtain ⟨g, off, e1, c0⟩ := (HA.out.kept HW.out).at k (.int .i64 a[k]) (by simp [ints, List.getElem?_eq_getElem hk2])
        obtain ⟨g', off', e2, d0⟩ := (HB.out.kept HW.out).at k (.int .i64 b[k]) (by simp [ints, List.getElem?_eq_getElem hk3])
        subst e1 e2
        have HTA : Hid (a.take (k + 1) = a.take k ++ [a[k]]) := List.take_succ_eq_append_getElem hk2
        have HTB : Hid (b.take (k + 1) = b.take k ++ [b[k]]) := List.take_succ_eq_append_getElem hk3
        have HGA : Hid (a[k]? = some a[k]) := List.getElem?_eq_getElem hk2
        have HGB : Hid (b[k]? = some b[k]) := List.getElem?_eq_getElem hk3
        obtain ⟨x, hx⟩ : ∃ x, a[k] = x := ⟨_, rfl⟩
        obtain ⟨y, hy⟩ : ∃ y, b[k] = y := ⟨_, rfl⟩
        rw [hx] at c0 HTA HGA
        rw [hy] at d0 HTB HGB
        clear hx hy hkl
        by_cases hxy : x = y
        · subst hxy
          have HT2 : Hid (a.take (k + 1) = b.take (k + 1)) := by show _ = _; rw [HTA.out, HTB.out, HT.out]
          go_wp2_with fail
          go_quiet (fail)
          have HW2 := Lib.hid (drewN_below HW.out nq)
          go_wp2_with fail
          go_roundw
          case rel => exact ⟨k + 1, by omega, by go_num, HT2, HW2⟩
          case measure => simp [intOf]; omega
        · have HNE : Hid (sameI a b = false) := by
            show _ = _
            refine decide_eq_false ?_
            intro e
            have h1 := HGA.out
            rw [e, HGB.out] at h1
            simp at h1
            exact hxy h1.symm
          have hxy' : (x != y) = true := by rw [bne_iff_ne]; exact hxy
          clear HTA HTB HGA HGB
          go_wp2_with fail
          go_quiet (fail)
          have HW2 := Lib.hid (drewN_below HW.out nq)
          go_wp2_with fail
          go_ret
          exact ⟨by rw [HNE.out]; rfl, HW2.out⟩
  · have hl' : ((a.length : Int) != b.length) = true := by
      rw [bne_iff_ne]
      omega
    have HN : Hid (sameI a b = false) := decide_eq_false (fun e => hl (by rw [e]))
    clear hl
    go_enter Try.func17, Try.ntmps17
    go_wp2_with fail
    go_ret
    exact ⟨by rw [HN.out]; rfl, Below.refl _ _⟩
/-- A picture cut to 410 bytes; an asset cut to 2010 pictures. -/
def cutPic (p : Pic) : Pic := { p with data := p.data.extract 0 (min 410 p.data.size) }
def cutP (l : List Pic) : List Pic := (l.take 2010).map cutPic
theorem cutP_len (l : List Pic) : (cutP l).length ≤ 2010 := by simp [cutP]; omega
theorem cutP_take (l : List Pic) (k : Nat) (h : k < l.length) (h2 : k < 2010) : cutP (l.take (k + 1)) = cutP (l.take k) ++ [cutPic l[k]] := by
  unfold cutP
  rw [List.take_take, List.take_take, show min 2010 (k + 1) = k + 1 by omega, show min 2010 k = k by omega, List.take_succ_eq_append_getElem h, List.map_append]
  rfl
theorem cutP_all (l : List Pic) (k : Nat) (h : k = l.length ∨ k = 2010) (hk : k ≤ l.length) : cutP (l.take k) = cutP l := by
  unfold cutP
  rw [List.take_take]
  rcases h with rfl | rfl
  · by_cases h2 : 2010 ≤ l.length
    · rw [show min 2010 l.length = 2010 by omega]
    · rw [show min 2010 l.length = l.length by omega, List.take_of_length_le (Nat.le_refl _), List.take_of_length_le (by omega)]
  · rfl
theorem cutPic_size (p : Pic) : (cutPic p).data.size ≤ 410 := by
  unfold cutPic
  rw [ByteArray.size_extract]
  omega
theorem cutP_ok (l : List Pic) (h : ∀ p ∈ l, POk p) : ∀ p ∈ cutP l, POk p := fun p hp => by
  obtain ⟨q, hq, rfl⟩ := List.mem_map.1 hp
  have := h q (List.mem_of_mem_take hq)
  exact ⟨this.p0, this.p1, by have := cutPic_size q; unfold maxLen; omega⟩
structure LP (w wr : World) (v : Value) (l : List Pic) : Prop where
  own : wr.ownsRow w.heap.size 42 3 v l.length (pcells l)
  bel : Below w.heap.size w wr
theorem LP.alloc {w wr : World} {v : Value} {l : List Pic} (h : LP w wr v l) (o : Obj) : LP w (wr.alloc o) v l := ⟨h.own.alloc o, h.bel.alloc h.bel.size o⟩
theorem LP.app {w wr w' : World} {v v' : Value} {l l' : List Pic} (h : LP w wr v l) (ho : w'.ownsRow w.heap.size 42 3 v' l'.length (pcells l')) (hf : Fr (fun k => v.ownBlock = some k) wr w') : LP w w' v' l' :=
  ⟨ho, h.bel.trans (hf.below w.heap.size h.bel.size (fun k e => own_ge h.own k e))⟩
end Go.Proofs.Ytfplajafekpccaa
