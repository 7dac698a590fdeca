/-
  The reference disk of package onairref24: how it lies in memory, and the walks of New, Cut, apply and has.
-/
import Derived.WalkKit
import Derived.LoopTactic
import Derived.WalkSpells
import Derived.WalkLawsBesides
import Derived.RegionTactic
import Derived.BigRegion
import Derived.IntWalk
import Derived.Laws.MakeOwn
import Derived.Test.YtdcnddbkjdbbbaaDiskG
import Derived.Test.YtdcnddbkjdbbbaaDiskWrites
set_option linter.unusedVariables false
set_option linter.unusedSimpArgs false
namespace Go.Proofs.Ytdcnddbkjdbbbaa
open Go.RowKit
/-- The reference disk lies at block b, its durable content in the row gs (with cells behind it), its pending writes under the slice vl. Of D it keeps all but the visible content. -/
structure RkAt (W : World) (B b gs cs : Nat) (rest : List Value) (vl : Value) (D : DS) : Prop where
  blk : Blk W b 43 [.slice (some ⟨gs, 0, none⟩) D.dur.length cs, vl, .bool D.lost, .int .i64 (D.cut : Int)]
  sure : Blk W gs 5 (cellsB D.dur ++ rest)
  own : W.ownsRow B 71 2 vl D.pend.length (pcells D.pend)
  pos : 1 ≤ D.dur.length
  max : D.dur.length ≤ 4194304
  cap : D.dur.length ≤ cs
  hb : B ≤ b
  hs : B ≤ gs
  ne : b ≠ gs
  np : ∀ g, vl.ownBlock = some g → g ≠ b ∧ g ≠ gs
/-- The blocks of a reference disk. -/
def RFoot (b gs : Nat) (vl : Value) (k : Nat) : Prop := k = b ∨ k = gs ∨ vl.ownBlock = some k
theorem RkAt.kept {W W' : World} {B b gs cs : Nat} {rest : List Value} {vl : Value} {D : DS} (h : RkAt W B b gs cs rest vl D) (hf : ∀ k, RFoot b gs vl k → W'.heap[k]? = W.heap[k]?) : RkAt W' B b gs cs rest vl D :=
  ⟨h.blk.kept (hf _ (.inl rfl)), h.sure.kept (hf _ (.inr (.inl rfl))), ownsRow_kept h.own (fun g hg => hf g (.inr (.inr hg))), h.pos, h.max, h.cap, h.hb, h.hs, h.ne, h.np⟩
theorem RkAt.lt {W : World} {B b gs cs : Nat} {rest : List Value} {vl : Value} {D : DS} (h : RkAt W B b gs cs rest vl D) (k : Nat) (hk : RFoot b gs vl k) : k < W.heap.size := by
  rcases hk with rfl | rfl | hk
  · exact h.blk.lt
  · exact h.sure.lt
  · rcases h.own.2 with ⟨rfl, _⟩ | ⟨g, cap, cur, rfl, _, h2, _⟩
    · simp [Value.ownBlock] at hk
    · simp [Value.ownBlock] at hk
      subst hk
      exact (Array.getElem?_eq_some_iff.1 h2).1
theorem RkAt.fr {W W' : World} {B b gs cs : Nat} {rest : List Value} {vl : Value} {D : DS} {S : Nat → Prop} (h : RkAt W B b gs cs rest vl D) (hf : Fr S W W') (hs : ∀ k, RFoot b gs vl k → ¬ S k) : RkAt W' B b gs cs rest vl D :=
  h.kept (fun k hk => hf.block k (h.lt k hk) (hs k hk))
theorem RkAt.below {W W' : World} {B b gs cs : Nat} {rest : List Value} {vl : Value} {D : DS} (h : RkAt W B b gs cs rest vl D) (hb : Below W.heap.size W W') : RkAt W' B b gs cs rest vl D :=
  h.kept (fun k hk => hb.block k (h.lt k hk))
/-- Down and Left are set. -/
theorem RkAt.setLeft {W : World} {B b gs cs : Nat} {rest : List Value} {vl : Value} {D : DS} (h : RkAt W B b gs cs rest vl D) (n : Nat) : RkAt (W.setCell ⟨b, 3, none⟩ (.int .i64 (n : Int))) B b gs cs rest vl { D with cut := n } := by
  have e : ∀ k, k ≠ b → (W.setCell ⟨b, 3, none⟩ (.int .i64 (n : Int))).heap[k]? = W.heap[k]? := fun k hk => by rw [Below.heap_setCell _ _ _ _ hk]
  exact ⟨h.blk.set 3 _, h.sure.kept (e _ h.ne.symm), ownsRow_kept h.own (fun g hg => e g (h.np g hg).1), h.pos, h.max, h.cap, h.hb, h.hs, h.ne, h.np⟩
theorem RkAt.setDown {W : World} {B b gs cs : Nat} {rest : List Value} {vl : Value} {D : DS} (h : RkAt W B b gs cs rest vl D) (n : Bool) : RkAt (W.setCell ⟨b, 2, none⟩ (.bool n)) B b gs cs rest vl { D with lost := n } := by
  have e : ∀ k, k ≠ b → (W.setCell ⟨b, 2, none⟩ (.bool n)).heap[k]? = W.heap[k]? := fun k hk => by rw [Below.heap_setCell _ _ _ _ hk]
  exact ⟨h.blk.set 2 _, h.sure.kept (e _ h.ne.symm), ownsRow_kept h.own (fun g hg => e g (h.np g hg).1), h.pos, h.max, h.cap, h.hb, h.hs, h.ne, h.np⟩
set_option maxRecDepth 100000 in
theorem refNew_ok (n : Nat) (W : World) (B : Nat) (hB : B ≤ W.heap.size) (h1 : 1 ≤ n) (h2 : n ≤ 4194304) :
    Calls Try.prog 18 #[.int .i64 n] W fun e w' => ∃ b gs, e = .returned (.tuple #[.pointer (some ⟨b, 0, none⟩), .int .i64 0]) ∧ RkAt w' B b gs n [] (.slice none 0 0) (newD n) ∧ Below W.heap.size W w' ∧ W.heap.size ≤ b ∧ W.heap.size ≤ gs := by
  have hmk := run_make_bytes n (by omega)
  have d1 : decide ((n : Int) < 1) = false := by simp; omega
  have d2 : decide ((4194304 : Int) < (n : Int)) = false := by simp; omega
  have HA : Hid (Blk (W.alloc (.cells (zcells n) 5)) W.heap.size 5 (cellsB (zeroL n))) := Blk.new W 5 (cellsB (zeroL n))
  have HC : Hid (Blk ((W.alloc (.cells (zcells n) 5)).alloc (.cells #[.slice (some ⟨W.heap.size, 0, none⟩) n n, .slice none 0 0, .bool false, .int .i64 0] 43)) (W.heap.size + 1) 43 [.slice (some ⟨W.heap.size, 0, none⟩) n n, .slice none 0 0, .bool false, .int .i64 0]) := by
    have := Blk.new (W.alloc (.cells (zcells n) 5)) 43 [.slice (some ⟨W.heap.size, 0, none⟩) n n, .slice none 0 0, .bool false, .int .i64 0]
    rw [World.size_alloc] at this
    exact this
  go_enter Try.func18, Try.ntmps18
  go_wp2_with fail
  go_ret2
  have hl : (newD n).dur.length = n := zeroL_len n
  refine ⟨_, _, rfl, ⟨?_, ?_, World.ownsRow_nil _ _ _ _, by omega, by omega, by omega, by omega, hB, by omega, fun g hg => by simp [Value.ownBlock] at hg⟩, ?_, by omega, by omega⟩
  · rw [hl]; exact HC.out
  · rw [List.append_nil]; exact HA.out.alloc _
  · exact ((Below.refl _ W).alloc (Nat.le_refl _) _).alloc (by simp) _
set_option maxRecDepth 100000 in
theorem apply_any (W : World) (g n cap : Nat) (l : List UInt8) (rest : List Value) (off : Nat) (s : ByteArray) (hb : Blk W g 5 (cellsB l ++ rest)) (hn : l.length = n) (hn2 : n ≤ 4194304) (hf : off + s.size ≤ l.length) :
    Calls Try.prog 40 #[.slice (some ⟨g, 0, none⟩) n cap, .int .i64 off, .string s] W fun e w' => (∃ v, e = .returned v) ∧ Blk w' g 5 (cellsB (splice l off s.data.toList) ++ rest) ∧ Fr (fun k => k = g) W w' := by
  have HB := Lib.hid hb
  have HN := Lib.hid hn
  have hf' : off + s.size ≤ n := by omega
  clear hb hn
  go_enter Try.func40, Try.ntmps40
  go_wp2_with fail
  go_loopw [6] (fun i wr => ∃ j : Nat, j ≤ s.size ∧ i = .int .i64 j ∧ Hid (Blk wr g 5 (cellsB (splice l off (s.data.toList.take j)) ++ rest)) ∧ Hid (Fr (fun k => k = g) W wr)) (fun i _ => s.size - (intOf i).toNat)
  case atStart => exact ⟨0, Nat.zero_le _, rfl, by show Blk _ _ _ _; rw [List.take_zero, splice_nil]; exact HB.out, Fr.refl _ _⟩
  case round =>
    obtain ⟨j, hj, rfl, HBr, HFr⟩ := hrel
    by_cases hjs : j = s.size
    · subst hjs
      have HR : Hid (Blk wr g 5 (cellsB (splice l off s.data.toList) ++ rest)) := by
        have := HBr.out
        rwa [List.take_of_length_le (by rw [blen]; exact Nat.le_refl _)] at this
      go_wp2_with fail
      go_end0
      exact ⟨⟨_, rfl⟩, HR.out, HFr.out⟩
    · have hjs' : (j : Int) < s.size := by omega
      have hjl : j < s.data.toList.length := by rw [blen]; omega
      have hlen : (splice l off (s.data.toList.take j)).length = l.length := splice_len _ _ _ (by rw [List.length_take, blen]; omega)
      have hjs2 : j < s.size := by omega
      have hc := HBr.out.cell (off + j)
      rw [List.getElem?_append_left (by rw [cellsB_len, hlen]; omega), cellsB_get _ (off + j) (by rw [hlen]; omega)] at hc
      obtain ⟨u0, hc0⟩ : ∃ u, wr.cell? ⟨g, off + j, none⟩ = some (.int .u8 u) := ⟨_, hc⟩
      clear hc
      have hfz := HBr.out.frozen (off + j)
      have hst := splice_step l off s.data.toList j hjl (by rw [blen]; exact hf)
      have hget : s.data.toList[j] = s[j] := by rw [Array.getElem_toList]; rfl
      have HB2 : Hid (Blk (wr.setCell ⟨g, off + j, none⟩ (.int .u8 (s[j].toNat : Int))) g 5 (cellsB (splice l off (s.data.toList.take (j + 1))) ++ rest)) := by
        show Blk _ _ _ _
        rw [← hst, hget]
        have := HBr.out.set (off + j) (.int .u8 (s[j].toNat : Int))
        rw [List.set_append_left (off + j) _ (by rw [cellsB_len, hlen]; omega), show (cellsB (splice l off (s.data.toList.take j))).set (off + j) (.int .u8 (s[j].toNat : Int)) = cellsB ((splice l off (s.data.toList.take j)).set (off + j) s[j]) from by simp [cellsB, List.map_set]] at this
        exact this
      have HF2 : Hid (Fr (fun k => k = g) W (wr.setCell ⟨g, off + j, none⟩ (.int .u8 (s[j].toNat : Int)))) := HFr.out.setCell ⟨g, off + j, none⟩ _ (.inl rfl)
      have hin : (off : Int) + j < n := by omega
      clear hst hget hlen
      go_wp2_with fail
      go_roundw
      case rel => exact ⟨j + 1, by omega, by go_num, HB2, HF2⟩
      case measure => simp [intOf]; omega
set_option maxRecDepth 100000 in
theorem refCut_any (W : World) (B b gs cs : Nat) (rest : List Value) (vl : Value) (D : DS) (n : Int) (h : RkAt W B b gs cs rest vl D) :
    Calls Try.prog 32 #[.pointer (some ⟨b, 0, none⟩), .int .i64 n] W fun e w' => e = .returned (.int .i64 (cutE D n)) ∧ RkAt w' B b gs cs rest vl (if D.lost then D else cutD D n) ∧ Fr (fun k => k = b) W w' := by
  have c2 := h.blk.cell 2
  have c3 := h.blk.cell 3
  have f2 := h.blk.frozen 2
  have f3 := h.blk.frozen 3
  simp only [List.getElem?_cons_zero, List.getElem?_cons_succ] at c2 c3
  have H := Lib.hid h
  clear h
  cases hl : D.lost
  · rw [hl] at c2
    by_cases h1 : n < 0
    · have e1 : cutE D n = 2 := by unfold cutE; rw [hl, if_pos h1]; rfl
      have e2 : (if false = true then D else cutD D n) = D := by unfold cutD; rw [if_pos h1]; rfl
      rw [e1, e2]
      clear e1 e2 hl
      go_enter Try.func32, Try.ntmps32
      go_wp2_with fail
      go_ret
      exact ⟨rfl, H.out, Fr.refl _ _⟩
    · have e1 : cutE D n = 0 := by unfold cutE; rw [hl, if_neg h1]; rfl
      obtain ⟨m, rfl⟩ : ∃ m : Nat, n = m := ⟨n.toNat, by omega⟩
      by_cases h2 : m = 0
      · subst h2
        have e2 : (if false = true then D else cutD D ((0 : Nat) : Int)) = { D with lost := true, cut := 0 } := by unfold cutD; rfl
        rw [e1, e2]
        have HX := Lib.hid ((H.out.setLeft 0).setDown true)
        have HFX : Hid (Fr (fun k => k = b) W ((W.setCell ⟨b, 3, none⟩ (.int .i64 ((0 : Nat) : Int))).setCell ⟨b, 2, none⟩ (.bool true))) := ((Fr.refl (fun k => k = b) W).setCell ⟨b, 3, none⟩ _ (.inl rfl)).setCell ⟨b, 2, none⟩ _ (.inl rfl)
        clear e1 e2 hl h1
        go_enter Try.func32, Try.ntmps32
        go_wp2_with fail
        go_ret
        exact ⟨rfl, HX.out, HFX.out⟩
      · have e2 : (if false = true then D else cutD D (m : Int)) = { D with lost := false, cut := m } := by
          show cutD D (m : Int) = _
          unfold cutD
          rw [if_neg h1, if_neg (show ¬ (m : Int) = 0 by omega), Int.toNat_natCast, ← hl]
        rw [e1, e2]
        have HX := Lib.hid ((H.out.setLeft m).setDown false)
        have HFX : Hid (Fr (fun k => k = b) W ((W.setCell ⟨b, 3, none⟩ (.int .i64 (m : Int))).setCell ⟨b, 2, none⟩ (.bool false))) := ((Fr.refl (fun k => k = b) W).setCell ⟨b, 3, none⟩ _ (.inl rfl)).setCell ⟨b, 2, none⟩ _ (.inl rfl)
        have hne : ((m : Int) == 0) = false := by rw [beq_eq_false_iff_ne]; omega
        clear e1 e2 hl h1 h2
        go_enter Try.func32, Try.ntmps32
        go_wp2_with fail
        go_ret
        exact ⟨rfl, HX.out, HFX.out⟩
  · have e1 : cutE D n = 241 := by unfold cutE; rw [hl]; rfl
    rw [hl] at c2
    rw [e1]
    clear e1 hl
    go_enter Try.func32, Try.ntmps32
    go_wp2_with fail
    go_ret
    exact ⟨rfl, H.out, Fr.refl _ _⟩
end Go.Proofs.Ytdcnddbkjdbbbaa
