/-
  Helpers of the disk's laws: fits, put; the argument that is a list of writes.
-/
import Derived.WalkKit
import Derived.LoopTactic
import Derived.WalkSpells
import Derived.WalkLawsBesides
import Derived.IntWalk
import Derived.Outline
import Derived.Deep.Slices
import Derived.Deep.Fields
import Derived.ChangeSame
import Derived.Test.YtdcnddbkjdbbbaaDiskSane
import Derived.Test.YtdcnddbkjdbbbaaDiskHelp
set_option linter.unusedVariables false
set_option linter.unusedSimpArgs false
namespace Go.Proofs.Ytdcnddbkjdbbbaa
open Go.RowKit
/-- fits: the offset and the bytes of a write that lies on the disk. -/
def fitO (off : Int) (size : Nat) : Nat := (pickD off (size + 1)).toNat
def fitS (off : Int) (s : ByteArray) (size : Nat) : ByteArray := cutS s (size - fitO off size)
theorem fit_le (off : Int) (s : ByteArray) (size : Nat) : fitO off size + (fitS off s size).size ≤ size := by
  have h := pickD_bd off (size + 1) (by omega)
  unfold fitS
  rw [cutS_size]
  unfold fitO
  omega
set_option maxRecDepth 100000 in
theorem fits_any (off : Int) (s : ByteArray) (sy : Bool) (size : Nat) (W : World) (h0 : -9223372036854775808 ≤ off) (h1 : off ≤ 9223372036854775807) (hs : s.size ≤ maxLen) (hz : size ≤ 1000000) :
    Calls Try.prog 26 #[.agg #[.int .i64 off, .string s, .bool sy], .int .i64 size] W fun e w' => e = .returned (.agg #[.int .i64 (fitO off size : Int), .string (fitS off s size), .bool sy]) ∧ Below W.heap.size W w' := by
  have hp := pickD_bd off (size + 1) (by omega)
  obtain ⟨o, ho⟩ : ∃ o : Nat, pickD off (size + 1) = (o : Int) := ⟨(pickD off (size + 1)).toNat, by omega⟩
  have ho2 : fitO off size = o := by unfold fitO; rw [ho]; simp
  have hT : fitS off s size = cutS s (size - o) := by unfold fitS; rw [ho2]
  rw [hT, ho2]
  rw [ho] at hp
  have HO := Lib.hid ho
  clear ho ho2 hT
  obtain ⟨hp1, hp2⟩ := hp
  have hsub : ((size - o : Nat) : Int) = (size : Int) - o := by omega
  have HSUB := Lib.hid hsub
  clear hsub
  go_enter Try.func26, Try.ntmps26
  go_wp2_with fail
  refine (pick_any _ _ _ h0 h1 (by omega) (by omega)).mono ?_
  rw [HO.out]
  rintro e w' ⟨rfl, rfl⟩
  go_wp2_with fail
  rw [← HSUB.out]
  refine (cutstr_any s (size - o) _ hs (by omega)).mono ?_
  rintro e w' ⟨rfl, rfl⟩
  go_wp2_with fail
  refine bodyPost_ret (v := .agg #[.int .i64 (o : Int), .string (cutS s (size - o)), .bool sy]) (by simp [results, Try.results26, go_sem]) rfl ⟨rfl, ?_⟩
  exact ((Below.refl _ W).alloc (Nat.le_refl _) _).alloc (by simp) _
theorem splice_step (l : List UInt8) (off : Nat) (s : List UInt8) (j : Nat) (hj : j < s.length) (hf : off + s.length ≤ l.length) : (splice l off (s.take j)).set (off + j) s[j] = splice l off (s.take (j + 1)) := by
  apply List.ext_getElem
  · simp [splice]; omega
  · intro i h1 h2
    rw [List.getElem_set]
    simp only [splice]
    by_cases e : off + j = i
    · rw [if_pos e]
      subst e
      rw [List.getElem_append_left (by simp; omega), List.getElem_append_right (by simp; omega)]
      simp
      congr 1
      omega
    · rw [if_neg e]
      by_cases h3 : i < off
      · rw [List.getElem_append_left (by simp; omega), List.getElem_append_left (by simp; omega), List.getElem_append_left (by simp; omega), List.getElem_append_left (by simp; omega)]
      · by_cases h4 : i < off + j
        · rw [List.getElem_append_left (by simp; omega), List.getElem_append_right (by simp; omega), List.getElem_append_left (by simp; omega), List.getElem_append_right (by simp; omega)]
          simp
        · rw [List.getElem_append_right (by simp; omega), List.getElem_append_right (by simp; omega)]
          simp
          congr 1
          omega
set_option maxRecDepth 100000 in
theorem put_any (W : World) (g n : Nat) (l : List UInt8) (off : Nat) (s : ByteArray) (hb : Blk W g 5 (cellsB l)) (hn : l.length = n) (hn2 : n ≤ 1000000) (hf : off + s.size ≤ l.length) :
    Calls Try.prog 27 #[.slice (some ⟨g, 0, none⟩) n n, .int .i64 off, .string s] W fun e w' => (∃ v, e = .returned v) ∧ Blk w' g 5 (cellsB (splice l off s.data.toList)) ∧ Fr (fun k => k = g) W w' := by
  have HB := Lib.hid hb
  have HN := Lib.hid hn
  have hf' : off + s.size ≤ n := by omega
  clear hb hn
  go_enter Try.func27, Try.ntmps27
  go_wp2_with fail
  go_loopw [6] (fun i wr => ∃ j : Nat, j ≤ s.size ∧ i = .int .i64 j ∧ Hid (Blk wr g 5 (cellsB (splice l off (s.data.toList.take j)))) ∧ Hid (Fr (fun k => k = g) W wr)) (fun i _ => s.size - (intOf i).toNat)
  case atStart => exact ⟨0, Nat.zero_le _, rfl, by show Blk _ _ _ _; rw [List.take_zero, splice_nil]; exact HB.out, Fr.refl _ _⟩
  case round =>
    obtain ⟨j, hj, rfl, HBr, HFr⟩ := hrel
    by_cases hjs : j = s.size
    · subst hjs
      have HR : Hid (Blk wr g 5 (cellsB (splice l off s.data.toList))) := by
        have := HBr.out
        rwa [List.take_of_length_le (by rw [blen]; exact Nat.le_refl _)] at this
      go_wp2_with fail
      go_end0
      exact ⟨⟨_, rfl⟩, HR.out, HFr.out⟩
    · have hjs' : (j : Int) < s.size := by omega
      have hjl : j < s.data.toList.length := by rw [blen]; omega
      have hlen : (splice l off (s.data.toList.take j)).length = l.length := splice_len _ _ _ (by rw [List.length_take, blen]; omega)
      have hjs2 : j < s.size := by omega
      have hc := HBr.out.cell (off + j)
      rw [cellsB_get _ (off + j) (by rw [hlen]; omega)] at hc
      obtain ⟨u0, hc0⟩ : ∃ u, wr.cell? ⟨g, off + j, none⟩ = some (.int .u8 u) := ⟨_, hc⟩
      clear hc
      have hfz := HBr.out.frozen (off + j)
      have hst := splice_step l off s.data.toList j hjl (by rw [blen]; exact hf)
      have hget : s.data.toList[j] = s[j] := by rw [Array.getElem_toList]; rfl
      have HB2 : Hid (Blk (wr.setCell ⟨g, off + j, none⟩ (.int .u8 (s[j].toNat : Int))) g 5 (cellsB (splice l off (s.data.toList.take (j + 1))))) := by
        show Blk _ _ _ _
        rw [← hst, hget]
        have := HBr.out.set (off + j) (.int .u8 (s[j].toNat : Int))
        rw [show (cellsB (splice l off (s.data.toList.take j))).set (off + j) (.int .u8 (s[j].toNat : Int)) = cellsB ((splice l off (s.data.toList.take j)).set (off + j) s[j]) from by simp [cellsB, List.map_set]] at this
        exact this
      have HF2 : Hid (Fr (fun k => k = g) W (wr.setCell ⟨g, off + j, none⟩ (.int .u8 (s[j].toNat : Int)))) := HFr.out.setCell ⟨g, off + j, none⟩ _ (.inl rfl)
      have hin : (off : Int) + j < n := by omega
      clear hst hget hlen
      go_wp2_with fail
      go_roundw
      case rel => exact ⟨j + 1, by omega, by go_num, HB2, HF2⟩
      case measure => simp [intOf]; omega
section
open Go.ChangeShapes Go.WideShapes Go.Deep
variable {H : Type} {enc : TypeId × Value → H} {P : Program} {w : World} {base : Nat} {spare : Nat → Bool} {held : Bool}
theorem open_slice_fields {t e : TypeId} {fs : Array Field} {fuel : Nat} {cs : List Value} {x : DataW H × List MemPlace} (ht : P.underlying t = some (.slice e)) (he : P.underlying e = some (.struct fs))
    (hone : oneCellFields P fs = true) (hC : P.cellsOf e = fs.size) (h : DataW.trod enc P w base spare held fuel t cs = some x) :
    (cs = [.slice none 0 0] ∧ x = (.nil, [])) ∨
    ∃ (a : Addr) (len cap m : Nat), cs = [.slice (some a) len cap] ∧ len ≤ cap ∧ cap ≤ maxLen ∧ m = (if spare a.block then cap else len) ∧
      ∀ i, i < m → ∃ (n : Nat), ∀ (j : Nat) (f : Field), fs[j]? = some f → ∃ (v : Value) (y : DataW H × List MemPlace), w.cell? (a.add (i * fs.size + j)) = some v ∧ DataW.trod enc P w base spare held n f.type [v] = some y := by
  rcases open_slice ht h with h0 | ⟨a, len, cap, m, n, D, Pl, hcs, hb, hl, hm, hmm, hx, hi⟩
  · exact .inl h0
  · refine .inr ⟨a, len, cap, m, hcs, hl, hm, hmm, fun i him => ?_⟩
    obtain ⟨cs', hc, ht'⟩ := hi i him
    rw [hC] at hc
    obtain ⟨ys, n', hn', hy, hlen, hyl, hf⟩ := DataW.trod_struct he ht'
    obtain ⟨_, hcl, hat⟩ := World.cells?_some hc
    refine ⟨n', fun j f hj => ?_⟩
    obtain ⟨ho, hk⟩ := hone_of hone j f hj
    have hjl : j < fs.size := (Array.getElem?_eq_some_iff.1 hj).1
    have hcell := hat j hjl
    have hv : cs'[j]? = some (cs'[j]'(by omega)) := List.getElem?_eq_getElem (by omega)
    have h1 := hf j f hj
    rw [ho, hk] at h1
    have hone' : (cs'.drop j).take 1 = [cs'[j]'(by omega)] := by
      rw [List.drop_eq_getElem_cons (by omega)]
      rfl
    rw [hone'] at h1
    have hys : ys[j]? = some (ys[j]'(by omega)) := List.getElem?_eq_getElem (by omega)
    refine ⟨_, _, ?_, h1.trans hys⟩
    rw [← Go.Deep.add_add, hcell, hv]
end
/-- A list of writes that came in. -/
def WpAt (W : World) (oa : Option Addr) (len : Nat) (of : Nat → Int) (ss : Nat → ByteArray) (sy : Nat → Bool) : Prop :=
  len = 0 ∨ ∃ g off, oa = some ⟨g, off, none⟩ ∧ g < W.heap.size ∧ ∀ i, i < len → W.cell? ⟨g, off + i * 3, none⟩ = some (.int .i64 (of i)) ∧ W.cell? ⟨g, off + i * 3 + 1, none⟩ = some (.string (ss i)) ∧ W.cell? ⟨g, off + i * 3 + 2, none⟩ = some (.bool (sy i))
section
open Go.ChangeShapes Go.WideShapes Go.Deep
theorem open_writes {H : Type} {enc : TypeId × Value → H} {W : World} {base : Nat} {v : Value} {d : DataW H} {ps : List MemPlace}
    (hv : Value.okWide Try.prog W .any base 51 v) (h : DataW.Trod enc Try.prog W 0 (fun _ => true) true 51 v d ps) :
    ∃ (oa : Option Addr) (len cap : Nat) (of : Nat → Int) (ss : Nat → ByteArray) (sy : Nat → Bool), v = .slice oa len cap ∧ len ≤ cap ∧ cap ≤ maxLen ∧ (∀ i, -9223372036854775808 ≤ of i ∧ of i ≤ 9223372036854775807) ∧ (∀ i, (ss i).size ≤ maxLen) ∧ WpAt W oa len of ss sy := by
  obtain ⟨a0, len, cap, rfl⟩ := okWide_slice Try.underlying51 hv
  obtain ⟨fuel, hf⟩ := h
  rcases open_slice_fields Try.underlying51 Try.underlying53 (by kernel_rfl) (by kernel_rfl) hf with ⟨hcs, _⟩ | ⟨a, len', cap', m, hcs, hl, hm, hmm, hi⟩
  · simp [Value.cells] at hcs
    obtain ⟨rfl, rfl, rfl⟩ := hcs
    exact ⟨none, 0, 0, fun _ => 0, fun _ => ByteArray.empty, fun _ => false, rfl, Nat.le_refl _, Nat.zero_le _, fun _ => ⟨by show (-9223372036854775808 : Int) ≤ 0; decide, by show (0 : Int) ≤ 9223372036854775807; decide⟩, fun _ => Nat.zero_le _, .inl rfl⟩
  · simp [Value.cells] at hcs
    obtain ⟨rfl, rfl, rfl⟩ := hcs
    simp at hmm
    subst hmm
    have key : ∀ i, i < m → ∃ (o : Int) (s : ByteArray) (y : Bool), (-9223372036854775808 ≤ o ∧ o ≤ 9223372036854775807) ∧ s.size ≤ maxLen ∧ W.cell? (a.add (i * 3)) = some (.int .i64 o) ∧ W.cell? (a.add (i * 3 + 1)) = some (.string s) ∧ W.cell? (a.add (i * 3 + 2)) = some (.bool y) := by
      intro i hi'
      obtain ⟨n, hj⟩ := hi i hi'
      obtain ⟨v0, y0, c0, t0⟩ := hj 0 _ rfl
      obtain ⟨v1, y1, c1, t1⟩ := hj 1 _ rfl
      obtain ⟨v2, y2, c2, t2⟩ := hj 2 _ rfl
      obtain ⟨o, e0, _, w0⟩ := DataW.trod_int Try.underlying3 t0
      obtain ⟨s, e1, _, w1⟩ := DataW.trod_string Try.underlying9 t1
      obtain ⟨y, e2, _⟩ := DataW.trod_bool Try.underlying4 t2
      simp at e0 e1 e2
      subst e0 e1 e2
      exact ⟨o, s, y, bounds_i64 w0, w1, c0, c1, c2⟩
    have w0 : ByteArray.empty.size ≤ maxLen := Nat.zero_le _
    have key2 : ∀ i : Nat, ∃ x : Int × ByteArray × Bool, (-9223372036854775808 ≤ x.1 ∧ x.1 ≤ 9223372036854775807) ∧ x.2.1.size ≤ maxLen ∧ (i < m → W.cell? (a.add (i * 3)) = some (.int .i64 x.1) ∧ W.cell? (a.add (i * 3 + 1)) = some (.string x.2.1) ∧ W.cell? (a.add (i * 3 + 2)) = some (.bool x.2.2)) := by
      intro i
      by_cases hi' : i < m
      · obtain ⟨o, s, y, h1, h2, h3⟩ := key i hi'
        exact ⟨(o, s, y), h1, h2, fun _ => h3⟩
      · exact ⟨(0, ByteArray.empty, false), ⟨by decide, by decide⟩, w0, fun h => absurd h hi'⟩
    obtain ⟨F, hF⟩ := Classical.axiomOfChoice key2
    refine ⟨some a, len, m, fun i => (F i).1, fun i => (F i).2.1, fun i => (F i).2.2, rfl, hl, hm, fun i => (hF i).1, fun i => (hF i).2.1, ?_⟩
    by_cases hp : 0 < len
    · obtain ⟨b, off, spot⟩ := a
      have h0 := ((hF 0).2.2 (by omega)).1
      have hspot : spot = none := by simpa [Addr.add] using World.cell?_spot h0
      subst hspot
      refine .inr ⟨b, off, rfl, ?_, fun i hi => ?_⟩
      · exact block_lt (p := ⟨b, off + 0 * 3, none⟩) (by rw [Go.WideShapes.add_plain] at h0; exact h0)
      · have h3 := (hF i).2.2 (by omega)
        rw [Go.WideShapes.add_plain, Go.WideShapes.add_plain, Go.WideShapes.add_plain] at h3
        exact h3
    · exact .inl (by omega)
end
end Go.Proofs.Ytdcnddbkjdbbbaa
