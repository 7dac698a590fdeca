/-
  The reference disk of package onairref24: how it lies in memory, and the walks of New, Cut, apply and has.
  The reference disk: has and Write.
  The reference disk: Visible, Sync and Read.
  The reference disk: Read.
  Plain: the crash of the reference disk is the crash of the disk.
-/
import Derived.WalkKit
import Derived.Test.YtfpcdlpfmlaakaaGreatDoorTk
import Derived.LoopTactic
import Derived.WalkSpells
import Derived.WalkLawsBesides
import Derived.RegionTactic
import Derived.BigRegion
import Derived.IntWalk
import Derived.Laws.MakeOwn
import Derived.Deep.QuietTactic
import Derived.Deep.RegionHeld
import Derived.BigQuiet
import Derived.Test.YtfpcdlpfmlaakaaGreatDoorDkB
import Derived.Test.YtfpcdlpfmlaakaaGreatDoorBas
import Derived.Test.YtfpcdlpfmlaakaaGreatDoorDgG
set_option linter.unusedVariables false
set_option linter.unusedSimpArgs false
namespace Go.Proofs.YtfpcdlpfmlaakaaGreatDoor
open Go.RowKit
theorem splice_step (l : List UInt8) (off : Nat) (s : List UInt8) (j : Nat) (hj : j < s.length) (hf : off + s.length ≤ l.length) : (splice l off (s.take j)).set (off + j) s[j] = splice l off (s.take (j + 1)) := by
  apply List.ext_getElem
  · simp [splice]; omega
  · intro i h1 h2
    rw [List.getElem_set]
    simp only [splice]
    by_cases e : off + j = i
    · rw [if_pos e]
      subst e
      rw [List.getElem_append_left (by simp; omega), List.getElem_append_right (by simp; omega)]
      simp
      congr 1
      omega
    · rw [if_neg e]
      by_cases h3 : i < off
      · rw [List.getElem_append_left (by simp; omega), List.getElem_append_left (by simp; omega), List.getElem_append_left (by simp; omega), List.getElem_append_left (by simp; omega)]
      · by_cases h4 : i < off + j
        · rw [List.getElem_append_left (by simp; omega), List.getElem_append_right (by simp; omega), List.getElem_append_left (by simp; omega), List.getElem_append_right (by simp; omega)]
          simp
        · rw [List.getElem_append_right (by simp; omega), List.getElem_append_right (by simp; omega)]
          simp
          congr 1
          omega
/-- The reference disk lies at block b, its durable content in the row gs (with cells behind it), its pending writes under the slice vl. Of D it keeps all but the visible content. -/
structure RkAt (W : World) (B b gs cs : Nat) (rest : List Value) (vl : Value) (D : DS) : Prop where
  blk : Blk W b 58 [.slice (some ⟨gs, 0, none⟩) D.dur.length cs, vl, .bool D.lost, .int .i64 (D.cut : Int)]
  sure : Blk W gs 5 (cellsB D.dur ++ rest)
  own : W.ownsRow B 115 2 vl D.pend.length (pcells D.pend)
  pos : 1 ≤ D.dur.length
  max : D.dur.length ≤ 4194304
  cap : D.dur.length ≤ cs
  hb : B ≤ b
  hs : B ≤ gs
  ne : b ≠ gs
  np : ∀ g, vl.ownBlock = some g → g ≠ b ∧ g ≠ gs
/-- The blocks of a reference disk. -/
def RFoot (b gs : Nat) (vl : Value) (k : Nat) : Prop := k = b ∨ k = gs ∨ vl.ownBlock = some k
theorem RkAt.kept {W W' : World} {B b gs cs : Nat} {rest : List Value} {vl : Value} {D : DS} (h : RkAt W B b gs cs rest vl D) (hf : ∀ k, RFoot b gs vl k → W'.heap[k]? = W.heap[k]?) : RkAt W' B b gs cs rest vl D :=
  ⟨h.blk.kept (hf _ (.inl rfl)), h.sure.kept (hf _ (.inr (.inl rfl))), ownsRow_kept h.own (fun g hg => hf g (.inr (.inr hg))), h.pos, h.max, h.cap, h.hb, h.hs, h.ne, h.np⟩
theorem RkAt.lt {W : World} {B b gs cs : Nat} {rest : List Value} {vl : Value} {D : DS} (h : RkAt W B b gs cs rest vl D) (k : Nat) (hk : RFoot b gs vl k) : k < W.heap.size := by
  rcases hk with rfl | rfl | hk
  · exact h.blk.lt
  · exact h.sure.lt
  · rcases h.own.2 with ⟨rfl, _⟩ | ⟨g, cap, cur, rfl, _, h2, _⟩
    · simp [Value.ownBlock] at hk
    · simp [Value.ownBlock] at hk
      subst hk
      exact (Array.getElem?_eq_some_iff.1 h2).1
theorem RkAt.fr {W W' : World} {B b gs cs : Nat} {rest : List Value} {vl : Value} {D : DS} {S : Nat → Prop} (h : RkAt W B b gs cs rest vl D) (hf : Fr S W W') (hs : ∀ k, RFoot b gs vl k → ¬ S k) : RkAt W' B b gs cs rest vl D :=
  h.kept (fun k hk => hf.block k (h.lt k hk) (hs k hk))
theorem RkAt.below {W W' : World} {B b gs cs : Nat} {rest : List Value} {vl : Value} {D : DS} (h : RkAt W B b gs cs rest vl D) (hb : Below W.heap.size W W') : RkAt W' B b gs cs rest vl D :=
  h.kept (fun k hk => hb.block k (h.lt k hk))
/-- Down and Left are set. -/
theorem RkAt.setLeft {W : World} {B b gs cs : Nat} {rest : List Value} {vl : Value} {D : DS} (h : RkAt W B b gs cs rest vl D) (n : Nat) : RkAt (W.setCell ⟨b, 3, none⟩ (.int .i64 (n : Int))) B b gs cs rest vl { D with cut := n } := by
  have e : ∀ k, k ≠ b → (W.setCell ⟨b, 3, none⟩ (.int .i64 (n : Int))).heap[k]? = W.heap[k]? := fun k hk => by rw [Below.heap_setCell _ _ _ _ hk]
  exact ⟨h.blk.set 3 _, h.sure.kept (e _ h.ne.symm), ownsRow_kept h.own (fun g hg => e g (h.np g hg).1), h.pos, h.max, h.cap, h.hb, h.hs, h.ne, h.np⟩
theorem RkAt.setDown {W : World} {B b gs cs : Nat} {rest : List Value} {vl : Value} {D : DS} (h : RkAt W B b gs cs rest vl D) (n : Bool) : RkAt (W.setCell ⟨b, 2, none⟩ (.bool n)) B b gs cs rest vl { D with lost := n } := by
  have e : ∀ k, k ≠ b → (W.setCell ⟨b, 2, none⟩ (.bool n)).heap[k]? = W.heap[k]? := fun k hk => by rw [Below.heap_setCell _ _ _ _ hk]
  exact ⟨h.blk.set 2 _, h.sure.kept (e _ h.ne.symm), ownsRow_kept h.own (fun g hg => e g (h.np g hg).1), h.pos, h.max, h.cap, h.hb, h.hs, h.ne, h.np⟩
set_option maxRecDepth 100000 in
theorem refNew_ok (n : Nat) (W : World) (B : Nat) (hB : B ≤ W.heap.size) (h1 : 1 ≤ n) (h2 : n ≤ 4194304) :
    Calls Tryz.prog 8 #[.int .i64 n] W fun e w' => ∃ b gs, e = .returned (.tuple #[.pointer (some ⟨b, 0, none⟩), .int .i64 0]) ∧ RkAt w' B b gs n [] (.slice none 0 0) (newD n) ∧ Below W.heap.size W w' ∧ W.heap.size ≤ b ∧ W.heap.size ≤ gs := by
  have hmk := run_make_bytes n (by omega)
  have d1 : decide ((n : Int) < 1) = false := by simp; omega
  have d2 : decide ((4194304 : Int) < (n : Int)) = false := by simp; omega
  have HA : Hid (Blk (W.alloc (.cells (zcells n) 5)) W.heap.size 5 (cellsB (zeroL n))) := Blk.new W 5 (cellsB (zeroL n))
  have HC : Hid (Blk ((W.alloc (.cells (zcells n) 5)).alloc (.cells #[.slice (some ⟨W.heap.size, 0, none⟩) n n, .slice none 0 0, .bool false, .int .i64 0] 58)) (W.heap.size + 1) 58 [.slice (some ⟨W.heap.size, 0, none⟩) n n, .slice none 0 0, .bool false, .int .i64 0]) := by
    have := Blk.new (W.alloc (.cells (zcells n) 5)) 58 [.slice (some ⟨W.heap.size, 0, none⟩) n n, .slice none 0 0, .bool false, .int .i64 0]
    rw [World.size_alloc] at this
    exact this
  go_enter Tryz.func8, Tryz.ntmps8
  go_wp2_with fail
  go_ret2
  have hl : (newD n).dur.length = n := zeroL_len n
  refine ⟨_, _, rfl, ⟨?_, ?_, World.ownsRow_nil _ _ _ _, by omega, by omega, by omega, by omega, hB, by omega, fun g hg => by simp [Value.ownBlock] at hg⟩, ?_, by omega, by omega⟩
  · rw [hl]; exact HC.out
  · rw [List.append_nil]; exact HA.out.alloc _
  · exact ((Below.refl _ W).alloc (Nat.le_refl _) _).alloc (by simp) _
set_option maxRecDepth 100000 in
theorem apply_any (W : World) (g n cap : Nat) (l : List UInt8) (rest : List Value) (off : Nat) (s : ByteArray) (hb : Blk W g 5 (cellsB l ++ rest)) (hn : l.length = n) (hn2 : n ≤ 4194304) (hf : off + s.size ≤ l.length) :
    Calls Tryz.prog 61 #[.slice (some ⟨g, 0, none⟩) n cap, .int .i64 off, .string s] W fun e w' => (∃ v, e = .returned v) ∧ Blk w' g 5 (cellsB (splice l off s.data.toList) ++ rest) ∧ Fr (fun k => k = g) W w' := by
  have HB := Lib.hid hb
  have HN := Lib.hid hn
  have hf' : off + s.size ≤ n := by omega
  clear hb hn
  go_enter Tryz.func61, Tryz.ntmps61
  go_wp2_with fail
  go_loopw [6] (fun i wr => ∃ j : Nat, j ≤ s.size ∧ i = .int .i64 j ∧ Hid (Blk wr g 5 (cellsB (splice l off (s.data.toList.take j)) ++ rest)) ∧ Hid (Fr (fun k => k = g) W wr)) (fun i _ => s.size - (intOf i).toNat)
  case atStart => exact ⟨0, Nat.zero_le _, rfl, by show Blk _ _ _ _; rw [List.take_zero, splice_nil]; exact HB.out, Fr.refl _ _⟩
  case round =>
    obtain ⟨j, hj, rfl, HBr, HFr⟩ := hrel
    by_cases hjs : j = s.size
    · subst hjs
      have HR : Hid (Blk wr g 5 (cellsB (splice l off s.data.toList) ++ rest)) := by
        have := HBr.out
        rwa [List.take_of_length_le (by rw [blen]; exact Nat.le_refl _)] at this
      go_wp2_with fail
      go_end0
      exact ⟨⟨_, rfl⟩, HR.out, HFr.out⟩
    · have hjs' : (j : Int) < s.size := by omega
      have hjl : j < s.data.toList.length := by rw [blen]; omega
      have hlen : (splice l off (s.data.toList.take j)).length = l.length := splice_len _ _ _ (by rw [List.length_take, blen]; omega)
      have hjs2 : j < s.size := by omega
      have hc := HBr.out.cell (off + j)
      rw [List.getElem?_append_left (by rw [cellsB_len, hlen]; omega), cellsB_get _ (off + j) (by rw [hlen]; omega)] at hc
      obtain ⟨u0, hc0⟩ : ∃ u, wr.cell? ⟨g, off + j, none⟩ = some (.int .u8 u) := ⟨_, hc⟩
      clear hc
      have hfz := HBr.out.frozen (off + j)
      have hst := splice_step l off s.data.toList j hjl (by rw [blen]; exact hf)
      have hget : s.data.toList[j] = s[j] := by rw [Array.getElem_toList]; rfl
      have HB2 : Hid (Blk (wr.setCell ⟨g, off + j, none⟩ (.int .u8 (s[j].toNat : Int))) g 5 (cellsB (splice l off (s.data.toList.take (j + 1))) ++ rest)) := by
        show Blk _ _ _ _
        rw [← hst, hget]
        have := HBr.out.set (off + j) (.int .u8 (s[j].toNat : Int))
        rw [List.set_append_left (off + j) _ (by rw [cellsB_len, hlen]; omega), show (cellsB (splice l off (s.data.toList.take j))).set (off + j) (.int .u8 (s[j].toNat : Int)) = cellsB ((splice l off (s.data.toList.take j)).set (off + j) s[j]) from by simp [cellsB, List.map_set]] at this
        exact this
      have HF2 : Hid (Fr (fun k => k = g) W (wr.setCell ⟨g, off + j, none⟩ (.int .u8 (s[j].toNat : Int)))) := HFr.out.setCell ⟨g, off + j, none⟩ _ (.inl rfl)
      have hin : (off : Int) + j < n := by omega
      clear hst hget hlen
      go_wp2_with fail
      go_roundw
      case rel => exact ⟨j + 1, by omega, by go_num, HB2, HF2⟩
      case measure => simp [intOf]; omega
set_option maxRecDepth 100000 in
theorem refCut_any (W : World) (B b gs cs : Nat) (rest : List Value) (vl : Value) (D : DS) (n : Int) (h : RkAt W B b gs cs rest vl D) :
    Calls Tryz.prog 63 #[.pointer (some ⟨b, 0, none⟩), .int .i64 n] W fun e w' => e = .returned (.int .i64 (cutE D n)) ∧ RkAt w' B b gs cs rest vl (if D.lost then D else cutD D n) ∧ Fr (fun k => k = b) W w' := by
  have c2 := h.blk.cell 2
  have c3 := h.blk.cell 3
  have f2 := h.blk.frozen 2
  have f3 := h.blk.frozen 3
  simp only [List.getElem?_cons_zero, List.getElem?_cons_succ] at c2 c3
  have H := Lib.hid h
  clear h
  cases hl : D.lost
  · rw [hl] at c2
    by_cases h1 : n < 0
    · have e1 : cutE D n = 2 := by unfold cutE; rw [hl, if_pos h1]; rfl
      have e2 : (if false = true then D else cutD D n) = D := by unfold cutD; rw [if_pos h1]; rfl
      rw [e1, e2]
      clear e1 e2 hl
      go_enter Tryz.func63, Tryz.ntmps63
      go_wp2_with fail
      go_ret
      exact ⟨rfl, H.out, Fr.refl _ _⟩
    · have e1 : cutE D n = 0 := by unfold cutE; rw [hl, if_neg h1]; rfl
      obtain ⟨m, rfl⟩ : ∃ m : Nat, n = m := ⟨n.toNat, by omega⟩
      by_cases h2 : m = 0
      · subst h2
        have e2 : (if false = true then D else cutD D ((0 : Nat) : Int)) = { D with lost := true, cut := 0 } := by unfold cutD; rfl
        rw [e1, e2]
        have HX := Lib.hid ((H.out.setLeft 0).setDown true)
        have HFX : Hid (Fr (fun k => k = b) W ((W.setCell ⟨b, 3, none⟩ (.int .i64 ((0 : Nat) : Int))).setCell ⟨b, 2, none⟩ (.bool true))) := ((Fr.refl (fun k => k = b) W).setCell ⟨b, 3, none⟩ _ (.inl rfl)).setCell ⟨b, 2, none⟩ _ (.inl rfl)
        clear e1 e2 hl h1
        go_enter Tryz.func63, Tryz.ntmps63
        go_wp2_with fail
        go_ret
        exact ⟨rfl, HX.out, HFX.out⟩
      · have e2 : (if false = true then D else cutD D (m : Int)) = { D with lost := false, cut := m } := by
          show cutD D (m : Int) = _
          unfold cutD
          rw [if_neg h1, if_neg (show ¬ (m : Int) = 0 by omega), Int.toNat_natCast, ← hl]
        rw [e1, e2]
        have HX := Lib.hid ((H.out.setLeft m).setDown false)
        have HFX : Hid (Fr (fun k => k = b) W ((W.setCell ⟨b, 3, none⟩ (.int .i64 (m : Int))).setCell ⟨b, 2, none⟩ (.bool false))) := ((Fr.refl (fun k => k = b) W).setCell ⟨b, 3, none⟩ _ (.inl rfl)).setCell ⟨b, 2, none⟩ _ (.inl rfl)
        have hne : ((m : Int) == 0) = false := by rw [beq_eq_false_iff_ne]; omega
        clear e1 e2 hl h1 h2
        go_enter Tryz.func63, Tryz.ntmps63
        go_wp2_with fail
        go_ret
        exact ⟨rfl, HX.out, HFX.out⟩
  · have e1 : cutE D n = 241 := by unfold cutE; rw [hl]; rfl
    rw [hl] at c2
    rw [e1]
    clear e1 hl
    go_enter Tryz.func63, Tryz.ntmps63
    go_wp2_with fail
    go_ret
    exact ⟨rfl, H.out, Fr.refl _ _⟩
end Go.Proofs.YtfpcdlpfmlaakaaGreatDoor
namespace Go.Proofs.YtfpcdlpfmlaakaaGreatDoor
open Go.RowKit
/-- Is n among the first len numbers? -/
def hasK (ks : Nat → Int) (len : Nat) (n : Int) : Bool := (List.range len).any fun i => decide (ks i = n)
theorem hasK_succ (ks : Nat → Int) (j : Nat) (n : Int) : hasK ks (j + 1) n = (hasK ks j n || decide (ks j = n)) := by
  unfold hasK
  rw [List.range_succ, List.any_append]
  simp
theorem hasK_iff (ks : Nat → Int) (len : Nat) (n : Int) : hasK ks len n = true ↔ ∃ i, i < len ∧ ks i = n := by
  unfold hasK
  rw [List.any_eq_true]
  constructor
  · rintro ⟨i, h1, h2⟩
    exact ⟨i, List.mem_range.1 h1, of_decide_eq_true h2⟩
  · rintro ⟨i, h1, h2⟩
    exact ⟨i, List.mem_range.2 h1, decide_eq_true h2⟩
set_option maxRecDepth 100000 in
theorem has_any (W : World) (oa : Option Addr) (len cap : Nat) (ks : Nat → Int) (n : Int) (S : Nat → Prop) (hl : len ≤ maxLen) (h : IntsAt W oa len ks S) :
    Calls Tryz.prog 92 #[.slice oa len cap, .int .i64 n] W fun e w' => e = .returned (.bool (hasK ks len n)) ∧ W = w' := by
  have H := Lib.hid h
  unfold maxLen at hl
  clear h
  go_enter Tryz.func92, Tryz.ntmps92
  go_wp2_with fail
  go_loopw [5] (fun i wr => ∃ j : Nat, j ≤ len ∧ i = .int .i64 j ∧ W = wr ∧ Hid (hasK ks j n = false)) (fun i _ => len - (intOf i).toNat)
  case atStart => exact ⟨0, Nat.zero_le _, rfl, rfl, rfl⟩
  case round =>
    obtain ⟨j, hj, rfl, rfl, HK⟩ := hrel
    by_cases hjl : j = len
    · subst hjl
      go_wp2_with fail
      go_ret
      rw [HK.out]
      exact ⟨rfl, rfl⟩
    · have q1 : (j : Int) < len := by omega
      rcases H.out with h0 | ⟨g, off, rfl, _, _, hc⟩
      · exact absurd h0 (by omega)
      have c0 := hc j (by omega)
      clear hc
      by_cases he : ks j = n
      · have HE : Hid (hasK ks len n = true) := (hasK_iff ks len n).2 ⟨j, by omega, he⟩
        have he' : (ks j == n) = true := by rw [he]; exact beq_self_eq_true _
        clear he
        go_wp2_with fail
        go_ret
        rw [HE.out]
        exact ⟨rfl, rfl⟩
      · have HE : Hid (hasK ks (j + 1) n = false) := by
          show _ = _
          rw [hasK_succ, HK.out, decide_eq_false he]
          rfl
        have he' : (ks j == n) = false := by rw [beq_eq_false_iff_ne]; exact he
        clear he
        go_wp2_with fail
        go_roundw
        case rel => exact ⟨j + 1, by omega, by go_num, trivial, HE⟩
        case measure => simp [intOf]; omega
theorem Tryz.infoCh : (Tryz.prog.info? 115).map (fun i => (i.zero, i.size, i.bytes)) = some (some (.agg #[.int .i64 0, .string ⟨#[]⟩]), 2, 24) := by kernel_rfl
/-- append of one change. -/
theorem app_ch (W : World) (B : Nat) (v : Value) (l : List (Nat × ByteArray)) (o : Nat) (s : ByteArray) (hown : W.ownsRow B 115 2 v l.length (pcells l)) (hn : l.length ≤ 1000000) (hB : B ≤ W.heap.size) (ty : TypeId) :
    ∃ oa cap w', (Builtin.append_ #[56, 56] ty #[v, .slice (some ⟨W.heap.size, 0, none⟩) 1 1]).run Tryz.prog (W.alloc (.cells #[.int .i64 (o : Int), .string s] 115)) = .ok (.slice oa (l.length + 1) cap) w' ∧ w'.ownsRow B 115 2 (.slice oa (l.length + 1) cap) (l.length + 1) (pcells (l ++ [(o, s)])) ∧ Fr (fun k => v.ownBlock = some k) W w' ∧ (∀ k, (Value.slice oa (l.length + 1) cap).ownBlock = some k → v.ownBlock = some k ∨ W.heap.size ≤ k) := by
  obtain ⟨i0, hi, hz0, hz1, hz2⟩ := info_parts Tryz.infoCh
  have hnew : Blk (W.alloc (.cells #[.int .i64 (o : Int), .string s] 115)) W.heap.size 115 [.int .i64 (o : Int), .string s] := Blk.new W _ _
  obtain ⟨v', w1, hrun, ho1, hf1, hk1⟩ := app_own (P := Tryz.prog) (W := W.alloc (.cells #[.int .i64 (o : Int), .string s] 115)) B 56 ty 115 i0 (.agg #[.int .i64 0, .string ⟨#[]⟩]) 2 24 Tryz.underlying56 hi hz0 hz1 hz2 rfl (by decide) v l.length (pcells l) (hown.alloc _) ⟨W.heap.size, 0, none⟩ 1 1 [.int .i64 (o : Int), .string s] rfl (fun j u hj => by
      rw [show ((⟨W.heap.size, 0, none⟩ : Addr).add j) = ⟨W.heap.size, j, none⟩ from by unfold Addr.add; split <;> simp_all, hnew.cell]
      exact hj) (by intro u hu; simp at hu; rcases hu with rfl | rfl <;> rfl) (by unfold maxLen; omega) (by omega) (by simp; omega)
  rw [pcells_snoc] at ho1
  obtain ⟨oa, nn, cap, rfl, hnn⟩ : ∃ oa nn cap, v' = .slice oa nn cap ∧ nn = l.length + 1 := by
    rcases ho1.2 with ⟨rfl, h0⟩ | ⟨g, cap, _, rfl, _⟩
    · omega
    · exact ⟨_, _, _, rfl, rfl⟩
  subst hnn
  exact ⟨oa, cap, w1, hrun, ho1, ((Fr.refl _ W).alloc _).trans hf1 (fun k _ hk => hk), fun k hk => (hk1 k hk).imp_right (fun h => by simp at h; omega)⟩
/-- The slice of the changes is set. -/
theorem RkAt.setL {W : World} {B b gs cs : Nat} {rest : List Value} {vl : Value} {D : DS} (h : RkAt W B b gs cs rest vl D) (vl' : Value) (pend : List (Nat × ByteArray)) (ho : W.ownsRow B 115 2 vl' pend.length (pcells pend)) (hnp : ∀ g, vl'.ownBlock = some g → g ≠ b ∧ g ≠ gs) :
    RkAt (W.setCell ⟨b, 1, none⟩ vl') B b gs cs rest vl' { D with pend := pend } := by
  have e : ∀ k, k ≠ b → (W.setCell ⟨b, 1, none⟩ vl').heap[k]? = W.heap[k]? := fun k hk => by rw [Below.heap_setCell _ _ _ _ hk]
  exact ⟨h.blk.set 1 _, h.sure.kept (e _ h.ne.symm), ownsRow_kept ho (fun g hg => e g (hnp g hg).1), h.pos, h.max, h.cap, h.hb, h.hs, h.ne, hnp⟩
theorem RkAt.vis {W : World} {B b gs cs : Nat} {rest : List Value} {vl : Value} {D : DS} (h : RkAt W B b gs cs rest vl D) (x : List UInt8) : RkAt W B b gs cs rest vl { D with vis := x } :=
  ⟨h.blk, h.sure, h.own, h.pos, h.max, h.cap, h.hb, h.hs, h.ne, h.np⟩
set_option maxHeartbeats 2000000 in
set_option maxRecDepth 100000 in
theorem refWrite_ok (W : World) (B b gs cs : Nat) (rest : List Value) (vl : Value) (D : DS) (o : Nat) (s : ByteArray) (hB : B ≤ W.heap.size) (hl : D.lost = false) (hin : o + s.size ≤ D.dur.length) (hpl : D.pend.length ≤ 1000000) (hcut : D.cut ≤ 9223372036854775807) (h : RkAt W B b gs cs rest vl D) :
    Calls Tryz.prog 15 #[.pointer (some ⟨b, 0, none⟩), .int .i64 o, .string s] W fun e w' => e = .returned (.int .i64 0) ∧ ∃ vl', RkAt w' B b gs cs rest vl' (wroteD { D with vis := splice D.vis o s.data.toList, pend := D.pend ++ [(o, s)] }) ∧ (∀ k, vl'.ownBlock = some k → vl.ownBlock = some k ∨ W.heap.size ≤ k) ∧ Fr (RFoot b gs vl) W w' := by
  have hm := h.max
  obtain ⟨oa, cap, w1, hrun, ho1, hf1, hk1⟩ := app_ch W B vl D.pend o s h.own hpl hB 56
  have np1 : ∀ g, (Value.slice oa (D.pend.length + 1) cap).ownBlock = some g → g ≠ b ∧ g ≠ gs := fun g hg => by
    rcases hk1 g hg with hg' | hg'
    · exact h.np g hg'
    · have q1 := h.blk.lt
      have q2 := h.sure.lt
      omega
  have hb1 : Blk w1 b 58 _ := h.blk.kept (hf1.block b h.blk.lt (fun e => (h.np b e).1 rfl))
  have hs1 := h.sure.kept (hf1.block gs h.sure.lt (fun e => (h.np gs e).2 rfl))
  have hD1 : RkAt (w1.setCell ⟨b, 1, none⟩ (.slice oa (D.pend.length + 1) cap)) B b gs cs rest (.slice oa (D.pend.length + 1) cap) { D with vis := splice D.vis o s.data.toList, pend := D.pend ++ [(o, s)] } := by
    have e : ∀ k, k ≠ b → (w1.setCell ⟨b, 1, none⟩ (.slice oa (D.pend.length + 1) cap)).heap[k]? = w1.heap[k]? := fun k hk => by rw [Below.heap_setCell _ _ _ _ hk]
    exact ⟨hb1.set 1 _, hs1.kept (e _ h.ne.symm), ownsRow_kept (by rw [List.length_append]; exact ho1) (fun g hg => e g (np1 g hg).1), h.pos, h.max, h.cap, h.hb, h.hs, h.ne, np1⟩
  have hF1 : Fr (RFoot b gs vl) W (w1.setCell ⟨b, 1, none⟩ (.slice oa (D.pend.length + 1) cap)) := (hf1.mono (fun k hk => .inr (.inr hk))).setCell ⟨b, 1, none⟩ _ (.inl (.inl rfl))
  have c0 := h.blk.cell 0
  have c1 := h.blk.cell 1
  have c2 := h.blk.cell 2
  have c1' := hb1.cell 1
  have f1' := hb1.frozen 1
  have c3' := hD1.blk.cell 3
  have f3' := hD1.blk.frozen 3
  have f2' := hD1.blk.frozen 2
  have c2' := hD1.blk.cell 2
  simp only [List.getElem?_cons_zero, List.getElem?_cons_succ] at c0 c1 c2 c1' c3' c2'
  rw [hl] at c2
  have HD1 := Lib.hid hD1
  have HF1 := Lib.hid hF1
  have HK1 := Lib.hid hk1
  have q1 : ¬ (o : Int) < 0 := by omega
  have q2 : ¬ (D.dur.length : Int) < (o : Int) := by omega
  have q3 : ¬ (D.dur.length : Int) - (o : Int) < (s.size : Int) := by omega
  clear hb1 hs1 np1 hf1 hk1 ho1 hD1 hF1 h hl
  obtain ⟨n, hn⟩ : ∃ n, D.cut = n := ⟨_, rfl⟩
  by_cases h0 : n = 0
  · have HW : Hid (wroteD { D with vis := splice D.vis o s.data.toList, pend := D.pend ++ [(o, s)] } = { D with vis := splice D.vis o s.data.toList, pend := D.pend ++ [(o, s)] }) := by
      show _ = _
      unfold wroteD
      rw [if_pos (by show D.cut = 0; omega)]
    rw [HW.out]
    rw [hn, h0] at c3'
    clear hn h0
    go_enter Tryz.func15, Tryz.ntmps15
    go_wp2_with (at_builtin; refine wpList_append_run _ rfl _ _ 56 rfl _ _ _ _ rfl rfl hrun ?_)
    go_ret
    exact ⟨rfl, _, HD1.out, HK1.out, HF1.out⟩
  · have g0 : (0 : Int) < (n : Int) := by omega
    have hw : IntKind.i64.wrap ((n : Int) - 1) = ((n - 1 : Nat) : Int) := by rw [IntWalk.i64_in _ (by omega)]; omega
    rw [hn] at c3'
    have HL := Lib.hid (HD1.out.setLeft (n - 1))
    have HFL : Hid (Fr (RFoot b gs vl) W ((w1.setCell ⟨b, 1, none⟩ (.slice oa (D.pend.length + 1) cap)).setCell ⟨b, 3, none⟩ (.int .i64 ((n - 1 : Nat) : Int)))) := HF1.out.setCell ⟨b, 3, none⟩ _ (.inl (.inl rfl))
    by_cases h1 : n = 1
    · have HW : Hid (wroteD { D with vis := splice D.vis o s.data.toList, pend := D.pend ++ [(o, s)] } = { D with vis := splice D.vis o s.data.toList, pend := D.pend ++ [(o, s)], lost := true, cut := 0 }) := by
        show _ = _
        unfold wroteD
        rw [if_neg (by show ¬ D.cut = 0; omega), if_pos (by show D.cut = 1; omega)]
      have HL2 := Lib.hid (HL.out.setDown true)
      have HFL2 : Hid (Fr (RFoot b gs vl) W (((w1.setCell ⟨b, 1, none⟩ (.slice oa (D.pend.length + 1) cap)).setCell ⟨b, 3, none⟩ (.int .i64 ((n - 1 : Nat) : Int))).setCell ⟨b, 2, none⟩ (.bool true))) := HFL.out.setCell ⟨b, 2, none⟩ _ (.inl (.inl rfl))
      subst h1
      have hw' : IntKind.i64.wrap (((1 : Nat) : Int) - 1) = 0 := hw
      rw [HW.out]
      clear hn h0 hw
      go_enter Tryz.func15, Tryz.ntmps15
      go_wp2_with (at_builtin; refine wpList_append_run _ rfl _ _ 56 rfl _ _ _ _ rfl rfl hrun ?_)
      go_ret
      exact ⟨rfl, _, HL2.out, HK1.out, HFL2.out⟩
    · have HW : Hid (wroteD { D with vis := splice D.vis o s.data.toList, pend := D.pend ++ [(o, s)] } = { D with vis := splice D.vis o s.data.toList, pend := D.pend ++ [(o, s)], cut := n - 1 }) := by
        show _ = _
        unfold wroteD
        rw [if_neg (by show ¬ D.cut = 0; omega), if_neg (by show ¬ D.cut = 1; omega), hn]
      rw [HW.out]
      obtain ⟨m, hm1⟩ : ∃ m, n - 1 = m := ⟨_, rfl⟩
      rw [hm1] at hw HL HFL ⊢
      have hz : ((m : Int) == 0) = false := by rw [beq_eq_false_iff_ne]; omega
      clear hn h0 hm1 HD1 HF1 HW
      go_enter Tryz.func15, Tryz.ntmps15
      go_wp2_with (at_builtin; refine wpList_append_run _ rfl _ _ 56 rfl _ _ _ _ rfl rfl hrun ?_)
      go_ret
      exact ⟨rfl, _, HL.out, HK1.out, HFL.out⟩
set_option maxHeartbeats 2000000 in
set_option maxRecDepth 100000 in
theorem refWrite_any (W : World) (B b gs cs : Nat) (rest : List Value) (vl : Value) (D : DS) (off : Int) (s : ByteArray) (ho : -9223372036854775808 ≤ off) (ho1 : off ≤ 9223372036854775807) (hs : s.size ≤ maxLen) (hB : B ≤ W.heap.size) (hlen : D.dur.length = D.vis.length) (hpl : D.pend.length ≤ 1000000) (hcut : D.cut ≤ 9223372036854775807) (h : RkAt W B b gs cs rest vl D) :
    Calls Tryz.prog 15 #[.pointer (some ⟨b, 0, none⟩), .int .i64 off, .string s] W fun e w' => e = .returned (.int .i64 (writeE D off s)) ∧ ∃ vl', RkAt w' B b gs cs rest vl' (writeD D off s) ∧ (∀ k, vl'.ownBlock = some k → vl.ownBlock = some k ∨ W.heap.size ≤ k) ∧ Fr (RFoot b gs vl) W w' := by
  cases hl : D.lost
  · by_cases hi : insB D off s.size = true
    · have hi2 := of_decide_eq_true hi
      obtain ⟨o, rfl⟩ : ∃ o : Nat, off = o := ⟨off.toNat, by omega⟩
      have e1 : writeE D o s = 0 := by unfold writeE; rw [hl, hi]; rfl
      have e2 : writeD D o s = wroteD { D with vis := splice D.vis o s.data.toList, pend := D.pend ++ [(o, s)] } := by unfold writeD; rw [hl, hi]; rfl
      rw [e1, e2]
      exact refWrite_ok W B b gs cs rest vl D o s hB hl (by omega) hpl hcut h
    · have hi2 : ¬ (0 ≤ off ∧ 0 ≤ (s.size : Int) ∧ (s.size : Int) ≤ D.vis.length ∧ off ≤ D.vis.length - s.size) := fun e => hi (decide_eq_true e)
      have hif : insB D off s.size = false := by cases hb : insB D off s.size; rfl; exact absurd hb hi
      have e1 : writeE D off s = 240 := by unfold writeE; rw [hl, hif]; rfl
      have e2 : writeD D off s = D := by unfold writeD; rw [hl, hif]; rfl
      rw [e1, e2]
      have c0 := h.blk.cell 0
      have c2 := h.blk.cell 2
      have hm := h.max
      simp only [List.getElem?_cons_zero, List.getElem?_cons_succ] at c0 c2
      rw [hl] at c2
      have H := Lib.hid h
      unfold maxLen at hs
      rw [← hlen] at hi2
      clear e1 e2 hif hi h hlen hl
      by_cases q1 : off < 0
      · clear hi2
        go_enter Tryz.func15, Tryz.ntmps15
        go_wp2_with fail
        go_ret
        exact ⟨rfl, _, H.out, fun k hk => .inl hk, Fr.refl _ _⟩
      · by_cases q2 : (D.dur.length : Int) < off
        · clear hi2
          go_enter Tryz.func15, Tryz.ntmps15
          go_wp2_with fail
          go_ret
          exact ⟨rfl, _, H.out, fun k hk => .inl hk, Fr.refl _ _⟩
        · have q3 : (D.dur.length : Int) - off < (s.size : Int) := by omega
          have hw : IntKind.i64.wrap ((D.dur.length : Int) - off) = (D.dur.length : Int) - off := IntWalk.i64_in _ (by omega)
          clear hi2
          go_enter Tryz.func15, Tryz.ntmps15
          go_wp2_with fail
          go_ret
          exact ⟨rfl, _, H.out, fun k hk => .inl hk, Fr.refl _ _⟩
  · have e1 : writeE D off s = 241 := by unfold writeE; rw [hl]; rfl
    have e2 : writeD D off s = D := by unfold writeD; rw [hl]; rfl
    rw [e1, e2]
    have c2 := h.blk.cell 2
    simp only [List.getElem?_cons_zero, List.getElem?_cons_succ] at c2
    rw [hl] at c2
    have H := Lib.hid h
    clear e1 e2 h hl
    go_enter Tryz.func15, Tryz.ntmps15
    go_wp2_with fail
    go_ret
    exact ⟨rfl, _, H.out, fun k hk => .inl hk, Fr.refl _ _⟩
end Go.Proofs.YtfpcdlpfmlaakaaGreatDoor
namespace Go.Proofs.YtfpcdlpfmlaakaaGreatDoor
open Go.RowKit
/-- What is visible of a durable content and pending writes. -/
def visL (dur : List UInt8) (l : List (Nat × ByteArray)) : List UInt8 := l.foldl (fun a p => splice a p.1 p.2.data.toList) dur
theorem visL_snoc (dur : List UInt8) (l : List (Nat × ByteArray)) (p : Nat × ByteArray) : visL dur (l ++ [p]) = splice (visL dur l) p.1 p.2.data.toList := by simp [visL]
/-- A row of the call's own that is not empty is a block. -/
theorem own_blk {W : World} {B : Nat} {v : Value} {n : Nat} {l : List UInt8} (h : W.ownsRow B 5 1 v n (cellsB l)) (hn : 1 ≤ n) : ∃ g cap rest, v = .slice (some ⟨g, 0, none⟩) n cap ∧ Blk W g 5 (cellsB l ++ rest) ∧ n ≤ cap ∧ B ≤ g := by
  rcases h.2 with ⟨rfl, h0⟩ | ⟨g, cap, cur, rfl, q1, q2, q3, q4, q5, q6⟩
  · omega
  · refine ⟨g, cap, cur.toList.drop (n * 1), rfl, ?_, q3, q1⟩
    unfold Blk
    rw [q2, ← q6, List.take_append_drop]
/-- append of a byte slice to an empty one. -/
theorem app_bytes (W : World) (gs cs : Nat) (l : List UInt8) (rest : List Value) (hb : Blk W gs 5 (cellsB l ++ rest)) (h1 : 1 ≤ l.length) (h2 : l.length ≤ 4194304) (ty : TypeId) :
    ∃ g cap rest' w', (Builtin.append_ #[42, 42] ty #[.slice (some ⟨W.heap.size, 0, none⟩) 0 0, .slice (some ⟨gs, 0, none⟩) l.length cs]).run Tryz.prog (W.alloc (.cells #[] 5)) = .ok (.slice (some ⟨g, 0, none⟩) l.length cap) w' ∧ Blk w' g 5 (cellsB l ++ rest') ∧ l.length ≤ cap ∧ W.heap.size + 1 ≤ g ∧ Below W.heap.size W w' := by
  obtain ⟨i0, hi, hz0, hz1, hz2⟩ := info_parts Tryz.infoU8
  have hb1 := hb.alloc (.cells #[] 5)
  obtain ⟨v', w', hrun, ho, hg⟩ := run_append_arg_grows (P := Tryz.prog) (W.alloc (.cells #[] 5)) 42 ty 5 i0 (.int .u8 0) 1 1 Tryz.underlying42 hi hz0 hz1 hz2 rfl (by decide) ⟨W.heap.size, 0, none⟩ 0 0 [] rfl (fun j u hj => by simp at hj) ⟨gs, 0, none⟩ l.length cs (cellsB l) (by rw [cellsB_len]; omega) (fun j u hj => by
    rw [show ((⟨gs, 0, none⟩ : Addr).add j) = ⟨gs, j, none⟩ from by unfold Addr.add; split <;> simp_all, hb1.cell]
    rw [List.getElem?_append_left (List.getElem?_eq_some_iff.1 hj).1]
    exact hj) (by omega) (by unfold maxLen; omega) (by omega)
  rw [List.nil_append, Nat.zero_add] at ho
  obtain ⟨g, cap, rest', rfl, hb2, hc, hge⟩ := own_blk ho h1
  refine ⟨g, cap, rest', w', hrun, hb2, hc, by simpa using hge, ?_⟩
  have hfr : Fr (fun _ => False) (W.alloc (.cells #[] 5)) w' := (Fr.refl _ _).grown hg (fun k e => by cases e)
  exact ((Below.refl _ W).alloc (Nat.le_refl _) _).trans (hfr.below W.heap.size (by simp) (fun k hk => hk.elim))
theorem chg_slice {W : World} {B : Nat} {v : Value} {l : List (Nat × ByteArray)} (h : W.ownsRow B 115 2 v l.length (pcells l)) : ∃ ol cl, v = .slice ol l.length cl := by
  rcases h.2 with ⟨rfl, h0⟩ | ⟨g, cap, cur, rfl, _⟩
  · rw [h0]; exact ⟨_, _, rfl⟩
  · exact ⟨_, _, rfl⟩
theorem chg_at {W : World} {B : Nat} {ol : Option Addr} {n cl : Nat} {l : List (Nat × ByteArray)} (h : W.ownsRow B 115 2 (.slice ol n cl) l.length (pcells l)) (k : Nat) (hk : k < l.length) : ∃ gl, ol = some ⟨gl, 0, none⟩ ∧ W.cell? ⟨gl, k * 2, none⟩ = some (.int .i64 (l[k].1 : Int)) ∧ W.cell? ⟨gl, k * 2 + 1, none⟩ = some (.string l[k].2) := by
  have hp := pcell_at l k l[k].1 l[k].2 (List.getElem?_eq_getElem hk)
  rcases h.2 with ⟨e, h0⟩ | ⟨g, cap, cur, e, q⟩
  · omega
  · simp at e
    obtain ⟨rfl, rfl, rfl⟩ := e
    exact ⟨g, rfl, by rw [h.cellAt (k * 2) (by omega)]; exact hp.1, by rw [h.cellAt (k * 2 + 1) (by omega)]; exact hp.2⟩
theorem drew_below'' (w : World) (n : Nat) : Below n w w.drew := ⟨rfl, rfl, rfl, Nat.le_refl _, fun _ _ => rfl⟩
set_option maxHeartbeats 2000000 in
set_option maxRecDepth 100000 in
theorem visible_any (W : World) (B b gs cs : Nat) (rest : List Value) (vl : Value) (D : DS) (hB : B ≤ W.heap.size) (hpl : D.pend.length ≤ 1000000) (hfit : ∀ p ∈ D.pend, p.1 + p.2.size ≤ D.dur.length) (h : RkAt W B b gs cs rest vl D) :
    Calls Tryz.prog 21 #[.pointer (some ⟨b, 0, none⟩)] W fun e w' => ∃ gs' cs', e = .returned (.slice (some ⟨gs', 0, none⟩) D.dur.length cs') ∧ (∃ rest', Blk w' gs' 5 (cellsB (visL D.dur D.pend) ++ rest')) ∧ D.dur.length ≤ cs' ∧ W.heap.size ≤ gs' ∧ Below W.heap.size W w' := by
  obtain ⟨ol, cl, rfl⟩ := chg_slice h.own
  have hm := h.max
  have hp := h.pos
  obtain ⟨g, cg, rest', w1, hrun, hb1, hcg, hg1, hbel1⟩ := app_bytes W gs cs D.dur rest h.sure hp hm 42
  have hblk := h.blk.alloc (.cells #[] 5)
  have c0 := hblk.cell 0
  simp only [List.getElem?_cons_zero, List.getElem?_cons_succ] at c0
  have H := Lib.hid h
  have HFIT := Lib.hid hfit
  have HB1 := Lib.hid hb1
  have HL1 := Lib.hid hbel1
  clear h hfit hblk hb1 hbel1
  go_enter Tryz.func21, Tryz.ntmps21
  go_wp2_with (at_builtin; refine wpList_append_run _ rfl _ _ 42 rfl _ _ _ _ rfl rfl hrun ?_)
  clear c0 hrun
  go_loopw [4] (fun i wr => ∃ k : Nat, k ≤ D.pend.length ∧ i = .int .i64 k ∧ Hid (Blk wr g 5 (cellsB (visL D.dur (D.pend.take k)) ++ rest')) ∧ Hid ((visL D.dur (D.pend.take k)).length = D.dur.length) ∧ Hid (Below W.heap.size W wr)) (fun i _ => D.pend.length - (intOf i).toNat)
  case atStart => exact ⟨0, Nat.zero_le _, rfl, HB1.out, rfl, HL1.out⟩
  case round =>
    obtain ⟨k, hk, rfl, HB, HLN, HL⟩ := hrel
    have HR := Lib.hid (H.out.below HL.out)
    have c1 := HR.out.blk.cell 1
    simp only [List.getElem?_cons_zero, List.getElem?_cons_succ] at c1
    by_cases hend : k = D.pend.length
    · have HE : Hid (Blk wr g 5 (cellsB (visL D.dur D.pend) ++ rest')) := by
        have := HB.out
        rw [hend, List.take_length] at this
        exact this
      have q1 : ¬ (k : Int) < D.pend.length := by omega
      clear hend
      go_wp2_with fail
      go_ret
      exact ⟨g, cg, rfl, ⟨rest', HE.out⟩, hcg, by omega, HL.out⟩
    · have hk1 : (k : Int) < D.pend.length := by omega
      have hk3 : k < D.pend.length := by omega
      obtain ⟨gl, rfl, d0, d1⟩ := chg_at HR.out.own k hk3
      have HS := Lib.hid (visL_snoc D.dur (D.pend.take k) D.pend[k])
      rw [← List.take_succ_eq_append_getElem hk3] at HS
      have HF := Lib.hid (HFIT.out _ (List.getElem_mem hk3))
      obtain ⟨⟨o, t⟩, hx⟩ : ∃ x, D.pend[k] = x := ⟨_, rfl⟩
      rw [hx] at d0 d1 HS HF
      have HXE := Lib.hid hx
      dsimp only at d0 d1
      clear hx hend
      go_wp2_with fail
      refine wp_region_held_drew (S := fun w' => w'.cell? ⟨b, 1, none⟩ = some (.slice (some ⟨gl, 0, none⟩) D.pend.length cl) ∧ w'.cell? ⟨gl, k * 2, none⟩ = some (.int .i64 (o : Int)) ∧ w'.cell? ⟨gl, k * 2 + 1, none⟩ = some (.string t)) (by kernel_rfl) ?_ (fun hHeld => ?_)
      · exact ⟨c1, d0, d1⟩
      clear c1 d0 d1
      refine tk 0 (some 20) ?_
      refine tk 1 (some 21) ?_
      refine tk 2 (some 22) ?_
      refine tk 3 (some 23) ?_
      refine tk 4 (some 24) ?_
      refine tk 5 (some 25) ?_
      refine tk 6 (some 26) ?_
      refine tk 7 (some 27) ?_
      refine tk 8 (some 28) ?_
      refine tk 9 (some 29) ?_
      refine tk 10 (some 30) ?_
      refine tk 11 (some 31) ?_
      refine tk 12 (some 32) ?_
      refine tk 13 (some 33) ?_
      refine tk 14 (some 34) ?_
      refine tk 15 (some 35) ?_
      refine tk 16 (some 36) ?_
      refine rd1 17 (some 37) (fun K hK => ?_)
      go_simp
      refine (apply_any wr.drew g D.dur.length cg (visL D.dur (D.pend.take k)) rest' o t HB.out.drew HLN.out (by omega) (by rw [HLN.out]; exact HF.out)).mono ?_
      rintro e w5 ⟨⟨v, rfl⟩, hb5, hf5⟩
      have HB5 : Hid (Blk w5 g 5 (cellsB (visL D.dur (D.pend.take (k + 1))) ++ rest')) := by
        show Blk _ _ _ _
        rw [HS.out]
        exact hb5
      have HL5 : Hid (Below W.heap.size W w5) := (HL.out.trans (drew_below'' wr W.heap.size)).trans (hf5.below W.heap.size HL.out.size (fun k hk => by omega))
      have HN5 : Hid ((visL D.dur (D.pend.take (k + 1))).length = D.dur.length) := by
        show _ = _
        rw [HS.out, splice_len _ _ _ (by rw [HLN.out, blen]; exact HF.out), HLN.out]
      have HR5 := Lib.hid (H.out.below HL5.out)
      have c1 := HR5.out.blk.cell 1
      simp only [List.getElem?_cons_zero, List.getElem?_cons_succ] at c1
      go_simp
      refine hK.out _ _ ?_ (fun hHeld2 => ?_)
      · obtain ⟨gl', e', p0, p1⟩ := chg_at HR5.out.own k hk3
        simp at e'
        subst e'
        rw [HXE.out] at p0 p1
        exact ⟨c1, p0, p1⟩
      clear hK K hHeld
      rename _ => hHeld
      try simp only [Act.put, List.setIfInBounds_toArray, List.set_cons_zero, List.set_cons_succ]
      refine wpAnyH_done (by kernel_rfl) ?_ _
      clear hHeld
      go_wp2_with fail
      go_roundw
      case rel => exact ⟨k + 1, by omega, by go_num, HB5, HN5, HL5⟩
      case measure => simp [intOf]; omega
theorem Fr.shrink (S : Nat → Prop) {A C : World} (h : Below A.heap.size A C) : Fr S A C := ⟨h.os, h.tape, h.output, h.size, fun k hk _ => h.block k hk⟩
/-- A call leaves the reference disk as D', in blocks that it had or that are new. -/
def RkStep (W w' : World) (B b gs : Nat) (vl : Value) (D' : DS) : Prop := ∃ gs' cs' rest' vl', RkAt w' B b gs' cs' rest' vl' D' ∧ (∀ k, RFoot b gs' vl' k → RFoot b gs vl k ∨ W.heap.size ≤ k) ∧ Fr (RFoot b gs vl) W w'
/-- A new durable content, and no pending writes. -/
theorem RkAt.setSure {W : World} {B b gs cs : Nat} {rest : List Value} {vl : Value} {D : DS} (h : RkAt W B b gs cs rest vl D) (g cg : Nat) (rest' : List Value) (l : List UInt8) (hb : Blk W g 5 (cellsB l ++ rest')) (hl : l.length = D.dur.length) (hc : D.dur.length ≤ cg) (hB : B ≤ g) (hne : b ≠ g) :
    RkAt ((W.setCell ⟨b, 0, none⟩ (.slice (some ⟨g, 0, none⟩) D.dur.length cg)).setCell ⟨b, 1, none⟩ (.slice none 0 0)) B b g cg rest' (.slice none 0 0) { D with dur := l, pend := [] } := by
  have e : ∀ k, k ≠ b → ((W.setCell ⟨b, 0, none⟩ (.slice (some ⟨g, 0, none⟩) D.dur.length cg)).setCell ⟨b, 1, none⟩ (.slice none 0 0)).heap[k]? = W.heap[k]? := fun k hk => by rw [Below.heap_setCell _ _ _ _ hk, Below.heap_setCell _ _ _ _ hk]
  refine ⟨?_, hb.kept (e _ hne.symm), World.ownsRow_nil _ _ _ _, by show 1 ≤ l.length; rw [hl]; exact h.pos, by show l.length ≤ _; rw [hl]; exact h.max, by show l.length ≤ _; rw [hl]; exact hc, h.hb, hB, hne, fun g hg => by simp [Value.ownBlock] at hg⟩
  have := (h.blk.set 0 (.slice (some ⟨g, 0, none⟩) D.dur.length cg)).set 1 (.slice none 0 0)
  rw [← hl] at this ⊢
  exact this
set_option maxHeartbeats 2000000 in
set_option maxRecDepth 100000 in
theorem refSync_any (W : World) (B b gs cs : Nat) (rest : List Value) (vl : Value) (D : DS) (hB : B ≤ W.heap.size) (hvis : D.vis = visL D.dur D.pend) (hlen : D.dur.length = D.vis.length) (hpl : D.pend.length ≤ 1000000) (hfit : ∀ p ∈ D.pend, p.1 + p.2.size ≤ D.dur.length) (h : RkAt W B b gs cs rest vl D) :
    Calls Tryz.prog 54 #[.pointer (some ⟨b, 0, none⟩)] W fun e w' => e = .returned (.int .i64 (stE D)) ∧ RkStep W w' B b gs vl (syncD D) := by
  have c2 := h.blk.cell 2
  simp only [List.getElem?_cons_zero, List.getElem?_cons_succ] at c2
  have H := Lib.hid h
  have HV := Lib.hid hvis
  have HLE := Lib.hid hlen
  have HF := Lib.hid hfit
  clear h hvis hlen hfit
  cases hl : D.lost
  · have e1 : stE D = 0 := by unfold stE; rw [hl]; rfl
    have e2 : syncD D = { D with dur := D.vis, pend := [] } := by unfold syncD; rw [hl]; rfl
    rw [e1, e2]
    rw [hl] at c2
    clear e1 e2 hl
    go_enter Tryz.func54, Tryz.ntmps54
    go_wp2_with fail
    refine (visible_any W B b gs cs rest vl D hB hpl HF.out H.out).mono ?_
    rintro e w1 ⟨g, cg, rfl, ⟨rest', hb⟩, hcg, hge, hbel⟩
    have hR := H.out.below hbel
    have q := H.out.blk.lt
    rw [← HV.out] at hb
    have HS := Lib.hid (hR.setSure g cg rest' D.vis hb HLE.out.symm hcg (by omega) (by omega))
    have HFR : Hid (Fr (RFoot b gs vl) W ((w1.setCell ⟨b, 0, none⟩ (.slice (some ⟨g, 0, none⟩) D.dur.length cg)).setCell ⟨b, 1, none⟩ (.slice none 0 0))) := ((Fr.shrink (RFoot b gs vl) hbel).setCell ⟨b, 0, none⟩ _ (.inl (.inl rfl))).setCell ⟨b, 1, none⟩ _ (.inl (.inl rfl))
    have c0 := hR.blk.cell 0
    have c1 := hR.blk.cell 1
    have f0 := hR.blk.frozen 0
    have f1 := hR.blk.frozen 1
    simp only [List.getElem?_cons_zero, List.getElem?_cons_succ] at c0 c1
    clear hR hb hbel
    go_wp2_with fail
    go_ret
    exact ⟨rfl, _, _, _, _, HS.out, fun k hk => by
      rcases hk with rfl | rfl | hk
      · exact .inl (.inl rfl)
      · exact .inr hge
      · simp [Value.ownBlock] at hk, HFR.out⟩
  · have e1 : stE D = 241 := by unfold stE; rw [hl]; rfl
    have e2 : syncD D = D := by unfold syncD; rw [hl]; rfl
    rw [e1, e2]
    rw [hl] at c2
    clear e1 e2 hl
    go_enter Tryz.func54, Tryz.ntmps54
    go_wp2_with fail
    go_ret
    exact ⟨rfl, _, _, _, _, H.out, fun k hk => .inl hk, Fr.refl _ _⟩
end Go.Proofs.YtfpcdlpfmlaakaaGreatDoor
namespace Go.Proofs.YtfpcdlpfmlaakaaGreatDoor
open Go.RowKit
theorem conv_blkR {W : World} {g : Nat} {l : List UInt8} {rest : List Value} (h : Blk W g 5 (cellsB l ++ rest)) (off n cap : Nat) (hn : off + n ≤ l.length) : (convert 42 9 (.slice (some ⟨g, off, none⟩) n cap)).run Tryz.prog W = .ok (.string ⟨((l.drop off).take n).toArray⟩) W := by
  have hl : ((l.drop off).take n).length = n := by rw [List.length_take, List.length_drop]; omega
  have := run_convert_bytes_back (P := Tryz.prog) W 42 9 5 ⟨g, off, none⟩ cap ((l.drop off).take n) Tryz.underlying42 Tryz.underlying5 Tryz.underlying9 (fun j hj => by
    rw [hl] at hj
    rw [show ((⟨g, off, none⟩ : Addr).add j) = ⟨g, off + j, none⟩ from by unfold Addr.add; split <;> simp_all, h.cell, List.getElem?_append_left (by rw [cellsB_len]; omega), cellsB_get l (off + j) (by omega)]
    simp)
  rw [hl] at this
  exact this
set_option maxHeartbeats 2000000 in
set_option maxRecDepth 100000 in
theorem refRead_any (W : World) (B b gs cs : Nat) (rest : List Value) (vl : Value) (D : DS) (off n : Int) (ho : -9223372036854775808 ≤ off) (ho1 : off ≤ 9223372036854775807) (hn : -9223372036854775808 ≤ n) (hn1 : n ≤ 9223372036854775807) (hB : B ≤ W.heap.size) (hvis : D.vis = visL D.dur D.pend) (hlen : D.dur.length = D.vis.length) (hpl : D.pend.length ≤ 1000000) (hfit : ∀ p ∈ D.pend, p.1 + p.2.size ≤ D.dur.length) (h : RkAt W B b gs cs rest vl D) :
    Calls Tryz.prog 80 #[.pointer (some ⟨b, 0, none⟩), .int .i64 off, .int .i64 n] W fun e w' => e = .returned (.tuple #[.string ⟨(readL D off n).toArray⟩, .int .i64 (readE D off n)]) ∧ Below W.heap.size W w' := by
  have c2 := h.blk.cell 2
  have c0 := h.blk.cell 0
  have hm := h.max
  simp only [List.getElem?_cons_zero, List.getElem?_cons_succ] at c0 c2
  have H := Lib.hid h
  have HV := Lib.hid hvis
  have HF := Lib.hid hfit
  have HLE := Lib.hid hlen
  clear h hvis hfit hlen
  cases hl : D.lost
  · rw [hl] at c2
    cases hi : insB D off n
    · have hi2 : ¬ (0 ≤ off ∧ 0 ≤ n ∧ n ≤ D.vis.length ∧ off ≤ D.vis.length - n) := fun e => by
        have := decide_eq_true e
        unfold insB at hi
        rw [hi] at this
        cases this
      have e1 : readL D off n = [] := by unfold readL; rw [hl, hi]; rfl
      have e2 : readE D off n = 240 := by unfold readE; rw [hl, hi]; rfl
      rw [e1, e2]
      rw [← HLE.out] at hi2
      clear e1 e2 hl hi
      by_cases q1 : off < 0
      · clear hi2
        go_enter Tryz.func80, Tryz.ntmps80
        go_wp2_with fail
        go_ret2
        exact ⟨rfl, Below.refl _ _⟩
      · by_cases q2 : n < 0
        · clear hi2
          go_enter Tryz.func80, Tryz.ntmps80
          go_wp2_with fail
          go_ret2
          exact ⟨rfl, Below.refl _ _⟩
        · by_cases q3 : (D.dur.length : Int) < off
          · clear hi2
            go_enter Tryz.func80, Tryz.ntmps80
            go_wp2_with fail
            go_ret2
            exact ⟨rfl, Below.refl _ _⟩
          · have q4 : (D.dur.length : Int) - off < n := by omega
            have hw : IntKind.i64.wrap ((D.dur.length : Int) - off) = (D.dur.length : Int) - off := IntWalk.i64_in _ (by omega)
            clear hi2
            go_enter Tryz.func80, Tryz.ntmps80
            go_wp2_with fail
            go_ret2
            exact ⟨rfl, Below.refl _ _⟩
    · have hii := of_decide_eq_true hi
      have e1 : readL D off n = (D.vis.drop off.toNat).take n.toNat := by unfold readL; rw [hl, hi]; rfl
      have e2 : readE D off n = 0 := by unfold readE; rw [hl, hi]; rfl
      obtain ⟨o, rfl⟩ : ∃ o : Nat, off = o := ⟨off.toNat, by omega⟩
      obtain ⟨m, rfl⟩ : ∃ m : Nat, n = m := ⟨n.toNat, by omega⟩
      rw [Int.toNat_natCast, Int.toNat_natCast] at e1
      rw [e1, e2]
      rw [← HLE.out] at hii
      clear e1 e2 hl hi
      obtain ⟨hi1, hi2, hi3, hi4⟩ := hii
      have q3 : ¬ (D.dur.length : Int) < (o : Int) := by omega
      have q4 : ¬ (D.dur.length : Int) - (o : Int) < (m : Int) := by omega
      have hw : IntKind.i64.wrap ((D.dur.length : Int) - (o : Int)) = (D.dur.length : Int) - (o : Int) := IntWalk.i64_in _ (by omega)
      go_enter Tryz.func80, Tryz.ntmps80
      go_wp2_with fail
      refine (visible_any W B b gs cs rest vl D hB hpl HF.out H.out).mono ?_
      rintro e w1 ⟨g, cg, rfl, ⟨rest', hb⟩, hcg, hge, hbel⟩
      rw [← HV.out] at hb
      have HB := Lib.hid hb
      have HL := Lib.hid hbel
      clear hb hbel
      by_cases hm0 : m = 0
      · subst hm0
        have hcv := conv_blk0 w1
        go_wp2_with fail
        all_goals (go_ret2; exact ⟨rfl, HL.out⟩)
      · have hcv := conv_blkR HB.out o m (cg - o) (by rw [← HLE.out]; omega)
        have hlt : (o : Int) < (o : Int) + m := by omega
        have hsw := Lib.run_slice_window (P := Tryz.prog) w1 42 5 Tryz.underlying42 (fun _ => by kernel_rfl) g 0 D.dur.length cg o (o + m) (by omega) (by omega)
        rw [Nat.zero_add, show o + m - o = m from by omega] at hsw
        rw [show ((o + m : Nat) : Int) = (o : Int) + m from by omega] at hsw
        go_wp2_with fail
        go_ret2
        exact ⟨rfl, HL.out⟩
  · have e1 : readL D off n = [] := by unfold readL; rw [hl]; rfl
    have e2 : readE D off n = 241 := by unfold readE; rw [hl]; rfl
    rw [e1, e2]
    rw [hl] at c2
    clear e1 e2 hl
    go_enter Tryz.func80, Tryz.ntmps80
    go_wp2_with fail
    go_ret2
    exact ⟨rfl, Below.refl _ _⟩
end Go.Proofs.YtfpcdlpfmlaakaaGreatDoor
namespace Go.Proofs.YtfpcdlpfmlaakaaGreatDoor
open Go.RowKit
/-- Which of n writes survive: those that keep names. -/
theorem survL_has (ks : Nat → Int) (n len j : Nat) (hj : j < n) : (survL ks n len)[j]? = some (hasK ks len (j : Int)) := by
  induction len with
  | zero =>
    unfold survL hasK
    simp [hj]
  | succ m ih =>
    rw [hasK_succ]
    unfold survL
    by_cases h : 0 ≤ ks m ∧ ks m < n
    · rw [if_pos h, List.getElem?_set]
      by_cases e : (ks m).toNat = j
      · rw [if_pos e, if_pos (by rw [survL_len]; omega), decide_eq_true (show ks m = (j : Int) by omega), Bool.or_true]
      · rw [if_neg e, ih, decide_eq_false (show ¬ ks m = (j : Int) by omega), Bool.or_false]
    · rw [if_neg h, ih, decide_eq_false (show ¬ ks m = (j : Int) by omega), Bool.or_false]
/-- The last survivor. -/
theorem lastK_max (ks : Nat → Int) (n len : Nat) : (∀ j : Nat, j < n → hasK ks len (j : Int) = true → (j : Int) ≤ lastK ks n len) ∧ (lastK ks n len = -1 ∨ ∃ j : Nat, j < n ∧ (j : Int) = lastK ks n len ∧ hasK ks len (j : Int) = true) := by
  induction len with
  | zero => exact ⟨fun j _ h => by simp [hasK] at h, .inl rfl⟩
  | succ m ih =>
    unfold lastK
    by_cases h : 0 ≤ ks m ∧ ks m < n
    · rw [if_pos h]
      refine ⟨fun j hj hh => ?_, ?_⟩
      · rw [hasK_succ, Bool.or_eq_true, decide_eq_true_eq] at hh
        rcases hh with hh | hh
        · have := ih.1 j hj hh
          omega
        · omega
      · by_cases hle : lastK ks n m ≤ ks m
        · exact .inr ⟨(ks m).toNat, by omega, by omega, by rw [hasK_succ, decide_eq_true (by omega), Bool.or_true]⟩
        · rcases ih.2 with e | ⟨j, h1, h2, h3⟩
          · omega
          · exact .inr ⟨j, h1, by omega, by rw [hasK_succ, h3, Bool.true_or]⟩
    · rw [if_neg h]
      refine ⟨fun j hj hh => ?_, ?_⟩
      · rw [hasK_succ, Bool.or_eq_true, decide_eq_true_eq] at hh
        rcases hh with hh | hh
        · exact ih.1 j hj hh
        · omega
      · rcases ih.2 with e | ⟨j, h1, h2, h3⟩
        · exact .inl e
        · exact .inr ⟨j, h1, h2, by rw [hasK_succ, h3, Bool.true_or]⟩
/-- The writes that survive, of the first k. -/
def keepL (h : Nat → Bool) (pend : List (Nat × ByteArray)) : Nat → List (Nat × ByteArray)
  | 0 => []
  | k + 1 => if h k then keepL h pend k ++ [pend[k]?.getD (0, ⟨#[]⟩)] else keepL h pend k
/-- What of survivor i goes over. -/
def cutR (l : List (Nat × ByteArray)) (torn : Int) (i : Nat) (s : ByteArray) : ByteArray := if (i : Int) = (l.length : Int) - 1 ∧ 0 ≤ torn ∧ torn < s.size then s.extract 0 torn.toNat else s
def tornL (l : List (Nat × ByteArray)) (torn : Int) (dur : List UInt8) : Nat → List UInt8
  | 0 => dur
  | i + 1 => splice (tornL l torn dur i) (l[i]?.getD (0, ⟨#[]⟩)).1 (cutR l torn i (l[i]?.getD (0, ⟨#[]⟩)).2).data.toList
theorem keepL_pre (h : Nat → Bool) (pend : List (Nat × ByteArray)) (k n : Nat) (hk : k ≤ n) : ∃ t, keepL h pend n = keepL h pend k ++ t := by
  induction n with
  | zero =>
    obtain rfl : k = 0 := by omega
    exact ⟨[], by simp⟩
  | succ n ih =>
    by_cases e : k = n + 1
    · subst e; exact ⟨[], by simp⟩
    · obtain ⟨t, ht⟩ := ih (by omega)
      rw [show keepL h pend (n + 1) = if h n then keepL h pend n ++ [pend[n]?.getD (0, ⟨#[]⟩)] else keepL h pend n from rfl]
      split
      · exact ⟨t ++ [pend[n]?.getD (0, ⟨#[]⟩)], by rw [ht, List.append_assoc]⟩
      · exact ⟨t, ht⟩
theorem keepL_none (h : Nat → Bool) (pend : List (Nat × ByteArray)) (k n : Nat) (hk : k ≤ n) (hn : ∀ j, k ≤ j → j < n → h j = false) : keepL h pend n = keepL h pend k := by
  induction n with
  | zero =>
    obtain rfl : k = 0 := by omega
    rfl
  | succ n ih =>
    by_cases e : k = n + 1
    · subst e; rfl
    · have := ih (by omega) (fun j h1 h2 => hn j h1 (by omega))
      rw [← this]
      conv => lhs; unfold keepL
      rw [hn n (by omega) (by omega)]
      rfl
theorem crash_same (ks : Nat → Int) (len : Nat) (torn : Int) (pend : List (Nat × ByteArray)) (dur : List UInt8) (k : Nat) (hk : k ≤ pend.length) :
    crashL (survL ks pend.length len) (lastK ks pend.length len) torn pend dur k = tornL (keepL (fun j => hasK ks len (j : Int)) pend pend.length) torn dur (keepL (fun j => hasK ks len (j : Int)) pend k).length := by
  induction k with
  | zero => rfl
  | succ k ih =>
    have ih := ih (by omega)
    unfold crashL
    rw [survL_has ks pend.length len k (by omega), Option.getD_some]
    cases hh : hasK ks len (k : Int)
    · rw [show keepL (fun j => hasK ks len (j : Int)) pend (k + 1) = keepL (fun j => hasK ks len (j : Int)) pend k by rw [keepL, hh]; rfl, ← ih]
      rfl
    · have e1 : keepL (fun j => hasK ks len (j : Int)) pend (k + 1) = keepL (fun j => hasK ks len (j : Int)) pend k ++ [pend[k]?.getD (0, ⟨#[]⟩)] := by rw [keepL, hh]; rfl
      obtain ⟨t, ht⟩ := keepL_pre (fun j => hasK ks len (j : Int)) pend (k + 1) pend.length hk
      have hget : (keepL (fun j => hasK ks len (j : Int)) pend pend.length)[(keepL (fun j => hasK ks len (j : Int)) pend k).length]? = some (pend[k]?.getD (0, ⟨#[]⟩)) := by
        rw [ht, e1, List.append_assoc, List.getElem?_append_right (Nat.le_refl _), Nat.sub_self]
        rfl
      have hlast : ((keepL (fun j => hasK ks len (j : Int)) pend k).length : Int) = ((keepL (fun j => hasK ks len (j : Int)) pend pend.length).length : Int) - 1 ↔ (k : Int) = lastK ks pend.length len := by
        have hm := lastK_max ks pend.length len
        have hle := hm.1 k (by omega) hh
        constructor
        · intro e
          rw [ht, e1] at e
          have ht0 : t = [] := List.eq_nil_of_length_eq_zero (by simp at e; omega)
          rcases hm.2 with e2 | ⟨j, j1, j2, j3⟩
          · omega
          · by_cases hjk : j ≤ k
            · omega
            · exfalso
              obtain ⟨t2, ht2⟩ := keepL_pre (fun j => hasK ks len (j : Int)) pend (k + 1) j (by omega)
              obtain ⟨t3, ht3⟩ := keepL_pre (fun j => hasK ks len (j : Int)) pend (j + 1) pend.length (by omega)
              have e3 : keepL (fun j => hasK ks len (j : Int)) pend (j + 1) = keepL (fun j => hasK ks len (j : Int)) pend j ++ [pend[j]?.getD (0, ⟨#[]⟩)] := by rw [keepL, j3]; rfl
              rw [ht, ht0, e3, ht2] at ht3
              have := congrArg List.length ht3
              simp at this
        · intro e
          have hn := keepL_none (fun j => hasK ks len (j : Int)) pend (k + 1) pend.length hk (fun j h1 h2 => by
            cases hj : hasK ks len (j : Int)
            · rfl
            · have := hm.1 j h2 hj
              omega)
          rw [hn, e1]
          simp
      rw [e1, List.length_append, List.length_singleton]
      unfold tornL
      rw [hget, Option.getD_some, ← ih]
      rw [if_pos rfl]
      congr 3
      unfold cutW cutR
      simp only [hlast]
end Go.Proofs.YtfpcdlpfmlaakaaGreatDoor
