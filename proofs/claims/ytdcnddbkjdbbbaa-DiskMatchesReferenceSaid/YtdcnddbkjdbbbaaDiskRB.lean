/-
  The reference disk: has and Write.
-/
import Derived.WalkKit
import Derived.LoopTactic
import Derived.WalkSpells
import Derived.WalkLawsBesides
import Derived.RegionTactic
import Derived.BigRegion
import Derived.IntWalk
import Derived.Laws.MakeOwn
import Derived.Test.YtdcnddbkjdbbbaaDiskRA
set_option linter.unusedVariables false
set_option linter.unusedSimpArgs false
namespace Go.Proofs.Ytdcnddbkjdbbbaa
open Go.RowKit
/-- Is n among the first len numbers? -/
def hasK (ks : Nat → Int) (len : Nat) (n : Int) : Bool := (List.range len).any fun i => decide (ks i = n)
theorem hasK_succ (ks : Nat → Int) (j : Nat) (n : Int) : hasK ks (j + 1) n = (hasK ks j n || decide (ks j = n)) := by
  unfold hasK
  rw [List.range_succ, List.any_append]
  simp
theorem hasK_iff (ks : Nat → Int) (len : Nat) (n : Int) : hasK ks len n = true ↔ ∃ i, i < len ∧ ks i = n := by
  unfold hasK
  rw [List.any_eq_true]
  constructor
  · rintro ⟨i, h1, h2⟩
    exact ⟨i, List.mem_range.1 h1, of_decide_eq_true h2⟩
  · rintro ⟨i, h1, h2⟩
    exact ⟨i, List.mem_range.2 h1, decide_eq_true h2⟩
set_option maxRecDepth 100000 in
theorem has_any (W : World) (oa : Option Addr) (len cap : Nat) (ks : Nat → Int) (n : Int) (S : Nat → Prop) (hl : len ≤ maxLen) (h : IntsAt W oa len ks S) :
    Calls Try.prog 39 #[.slice oa len cap, .int .i64 n] W fun e w' => e = .returned (.bool (hasK ks len n)) ∧ W = w' := by
  have H := Lib.hid h
  unfold maxLen at hl
  clear h
  go_enter Try.func39, Try.ntmps39
  go_wp2_with fail
  go_loopw [5] (fun i wr => ∃ j : Nat, j ≤ len ∧ i = .int .i64 j ∧ W = wr ∧ Hid (hasK ks j n = false)) (fun i _ => len - (intOf i).toNat)
  case atStart => exact ⟨0, Nat.zero_le _, rfl, rfl, rfl⟩
  case round =>
    obtain ⟨j, hj, rfl, rfl, HK⟩ := hrel
    by_cases hjl : j = len
    · subst hjl
      go_wp2_with fail
      go_ret
      rw [HK.out]
      exact ⟨rfl, rfl⟩
    · have q1 : (j : Int) < len := by omega
      rcases H.out with h0 | ⟨g, off, rfl, _, _, hc⟩
      · exact absurd h0 (by omega)
      have c0 := hc j (by omega)
      clear hc
      by_cases he : ks j = n
      · have HE : Hid (hasK ks len n = true) := (hasK_iff ks len n).2 ⟨j, by omega, he⟩
        have he' : (ks j == n) = true := by rw [he]; exact beq_self_eq_true _
        clear he
        go_wp2_with fail
        go_ret
        rw [HE.out]
        exact ⟨rfl, rfl⟩
      · have HE : Hid (hasK ks (j + 1) n = false) := by
          show _ = _
          rw [hasK_succ, HK.out, decide_eq_false he]
          rfl
        have he' : (ks j == n) = false := by rw [beq_eq_false_iff_ne]; exact he
        clear he
        go_wp2_with fail
        go_roundw
        case rel => exact ⟨j + 1, by omega, by go_num, trivial, HE⟩
        case measure => simp [intOf]; omega
theorem Try.infoCh : (Try.prog.info? 71).map (fun i => (i.zero, i.size, i.bytes)) = some (some (.agg #[.int .i64 0, .string ⟨#[]⟩]), 2, 24) := by kernel_rfl
/-- append of one change. -/
theorem app_ch (W : World) (B : Nat) (v : Value) (l : List (Nat × ByteArray)) (o : Nat) (s : ByteArray) (hown : W.ownsRow B 71 2 v l.length (pcells l)) (hn : l.length ≤ 1000000) (hB : B ≤ W.heap.size) (ty : TypeId) :
    ∃ oa cap w', (Builtin.append_ #[41, 41] ty #[v, .slice (some ⟨W.heap.size, 0, none⟩) 1 1]).run Try.prog (W.alloc (.cells #[.int .i64 (o : Int), .string s] 71)) = .ok (.slice oa (l.length + 1) cap) w' ∧ w'.ownsRow B 71 2 (.slice oa (l.length + 1) cap) (l.length + 1) (pcells (l ++ [(o, s)])) ∧ Fr (fun k => v.ownBlock = some k) W w' ∧ (∀ k, (Value.slice oa (l.length + 1) cap).ownBlock = some k → v.ownBlock = some k ∨ W.heap.size ≤ k) := by
  obtain ⟨i0, hi, hz0, hz1, hz2⟩ := info_parts Try.infoCh
  have hnew : Blk (W.alloc (.cells #[.int .i64 (o : Int), .string s] 71)) W.heap.size 71 [.int .i64 (o : Int), .string s] := Blk.new W _ _
  obtain ⟨v', w1, hrun, ho1, hf1, hk1⟩ := app_own (P := Try.prog) (W := W.alloc (.cells #[.int .i64 (o : Int), .string s] 71)) B 41 ty 71 i0 (.agg #[.int .i64 0, .string ⟨#[]⟩]) 2 24 Try.underlying41 hi hz0 hz1 hz2 rfl (by decide) v l.length (pcells l) (hown.alloc _) ⟨W.heap.size, 0, none⟩ 1 1 [.int .i64 (o : Int), .string s] rfl (fun j u hj => by
      rw [show ((⟨W.heap.size, 0, none⟩ : Addr).add j) = ⟨W.heap.size, j, none⟩ from by unfold Addr.add; split <;> simp_all, hnew.cell]
      exact hj) (by intro u hu; simp at hu; rcases hu with rfl | rfl <;> rfl) (by unfold maxLen; omega) (by omega) (by simp; omega)
  rw [pcells_snoc] at ho1
  obtain ⟨oa, nn, cap, rfl, hnn⟩ : ∃ oa nn cap, v' = .slice oa nn cap ∧ nn = l.length + 1 := by
    rcases ho1.2 with ⟨rfl, h0⟩ | ⟨g, cap, _, rfl, _⟩
    · omega
    · exact ⟨_, _, _, rfl, rfl⟩
  subst hnn
  exact ⟨oa, cap, w1, hrun, ho1, ((Fr.refl _ W).alloc _).trans hf1 (fun k _ hk => hk), fun k hk => (hk1 k hk).imp_right (fun h => by simp at h; omega)⟩
/-- The slice of the changes is set. -/
theorem RkAt.setL {W : World} {B b gs cs : Nat} {rest : List Value} {vl : Value} {D : DS} (h : RkAt W B b gs cs rest vl D) (vl' : Value) (pend : List (Nat × ByteArray)) (ho : W.ownsRow B 71 2 vl' pend.length (pcells pend)) (hnp : ∀ g, vl'.ownBlock = some g → g ≠ b ∧ g ≠ gs) :
    RkAt (W.setCell ⟨b, 1, none⟩ vl') B b gs cs rest vl' { D with pend := pend } := by
  have e : ∀ k, k ≠ b → (W.setCell ⟨b, 1, none⟩ vl').heap[k]? = W.heap[k]? := fun k hk => by rw [Below.heap_setCell _ _ _ _ hk]
  exact ⟨h.blk.set 1 _, h.sure.kept (e _ h.ne.symm), ownsRow_kept ho (fun g hg => e g (hnp g hg).1), h.pos, h.max, h.cap, h.hb, h.hs, h.ne, hnp⟩
theorem RkAt.vis {W : World} {B b gs cs : Nat} {rest : List Value} {vl : Value} {D : DS} (h : RkAt W B b gs cs rest vl D) (x : List UInt8) : RkAt W B b gs cs rest vl { D with vis := x } :=
  ⟨h.blk, h.sure, h.own, h.pos, h.max, h.cap, h.hb, h.hs, h.ne, h.np⟩
set_option maxHeartbeats 2000000 in
set_option maxRecDepth 100000 in
theorem refWrite_ok (W : World) (B b gs cs : Nat) (rest : List Value) (vl : Value) (D : DS) (o : Nat) (s : ByteArray) (hB : B ≤ W.heap.size) (hl : D.lost = false) (hin : o + s.size ≤ D.dur.length) (hpl : D.pend.length ≤ 1000000) (hcut : D.cut ≤ 9223372036854775807) (h : RkAt W B b gs cs rest vl D) :
    Calls Try.prog 30 #[.pointer (some ⟨b, 0, none⟩), .int .i64 o, .string s] W fun e w' => e = .returned (.int .i64 0) ∧ ∃ vl', RkAt w' B b gs cs rest vl' (wroteD { D with vis := splice D.vis o s.data.toList, pend := D.pend ++ [(o, s)] }) ∧ (∀ k, vl'.ownBlock = some k → vl.ownBlock = some k ∨ W.heap.size ≤ k) ∧ Fr (RFoot b gs vl) W w' := by
  have hm := h.max
  obtain ⟨oa, cap, w1, hrun, ho1, hf1, hk1⟩ := app_ch W B vl D.pend o s h.own hpl hB 41
  have np1 : ∀ g, (Value.slice oa (D.pend.length + 1) cap).ownBlock = some g → g ≠ b ∧ g ≠ gs := fun g hg => by
    rcases hk1 g hg with hg' | hg'
    · exact h.np g hg'
    · have q1 := h.blk.lt
      have q2 := h.sure.lt
      omega
  have hb1 : Blk w1 b 43 _ := h.blk.kept (hf1.block b h.blk.lt (fun e => (h.np b e).1 rfl))
  have hs1 := h.sure.kept (hf1.block gs h.sure.lt (fun e => (h.np gs e).2 rfl))
  have hD1 : RkAt (w1.setCell ⟨b, 1, none⟩ (.slice oa (D.pend.length + 1) cap)) B b gs cs rest (.slice oa (D.pend.length + 1) cap) { D with vis := splice D.vis o s.data.toList, pend := D.pend ++ [(o, s)] } := by
    have e : ∀ k, k ≠ b → (w1.setCell ⟨b, 1, none⟩ (.slice oa (D.pend.length + 1) cap)).heap[k]? = w1.heap[k]? := fun k hk => by rw [Below.heap_setCell _ _ _ _ hk]
    exact ⟨hb1.set 1 _, hs1.kept (e _ h.ne.symm), ownsRow_kept (by rw [List.length_append]; exact ho1) (fun g hg => e g (np1 g hg).1), h.pos, h.max, h.cap, h.hb, h.hs, h.ne, np1⟩
  have hF1 : Fr (RFoot b gs vl) W (w1.setCell ⟨b, 1, none⟩ (.slice oa (D.pend.length + 1) cap)) := (hf1.mono (fun k hk => .inr (.inr hk))).setCell ⟨b, 1, none⟩ _ (.inl (.inl rfl))
  have c0 := h.blk.cell 0
  have c1 := h.blk.cell 1
  have c2 := h.blk.cell 2
  have c1' := hb1.cell 1
  have f1' := hb1.frozen 1
  have c3' := hD1.blk.cell 3
  have f3' := hD1.blk.frozen 3
  have f2' := hD1.blk.frozen 2
  have c2' := hD1.blk.cell 2
  simp only [List.getElem?_cons_zero, List.getElem?_cons_succ] at c0 c1 c2 c1' c3' c2'
  rw [hl] at c2
  have HD1 := Lib.hid hD1
  have HF1 := Lib.hid hF1
  have HK1 := Lib.hid hk1
  have q1 : ¬ (o : Int) < 0 := by omega
  have q2 : ¬ (D.dur.length : Int) < (o : Int) := by omega
  have q3 : ¬ (D.dur.length : Int) - (o : Int) < (s.size : Int) := by omega
  clear hb1 hs1 np1 hf1 hk1 ho1 hD1 hF1 h hl
  obtain ⟨n, hn⟩ : ∃ n, D.cut = n := ⟨_, rfl⟩
  by_cases h0 : n = 0
  · have HW : Hid (wroteD { D with vis := splice D.vis o s.data.toList, pend := D.pend ++ [(o, s)] } = { D with vis := splice D.vis o s.data.toList, pend := D.pend ++ [(o, s)] }) := by
      show _ = _
      unfold wroteD
      rw [if_pos (by show D.cut = 0; omega)]
    rw [HW.out]
    rw [hn, h0] at c3'
    clear hn h0
    go_enter Try.func30, Try.ntmps30
    go_wp2_with (at_builtin; refine wpList_append_run _ rfl _ _ 41 rfl _ _ _ _ rfl rfl hrun ?_)
    go_ret
    exact ⟨rfl, _, HD1.out, HK1.out, HF1.out⟩
  · have g0 : (0 : Int) < (n : Int) := by omega
    have hw : IntKind.i64.wrap ((n : Int) - 1) = ((n - 1 : Nat) : Int) := by rw [IntWalk.i64_in _ (by omega)]; omega
    rw [hn] at c3'
    have HL := Lib.hid (HD1.out.setLeft (n - 1))
    have HFL : Hid (Fr (RFoot b gs vl) W ((w1.setCell ⟨b, 1, none⟩ (.slice oa (D.pend.length + 1) cap)).setCell ⟨b, 3, none⟩ (.int .i64 ((n - 1 : Nat) : Int)))) := HF1.out.setCell ⟨b, 3, none⟩ _ (.inl (.inl rfl))
    by_cases h1 : n = 1
    · have HW : Hid (wroteD { D with vis := splice D.vis o s.data.toList, pend := D.pend ++ [(o, s)] } = { D with vis := splice D.vis o s.data.toList, pend := D.pend ++ [(o, s)], lost := true, cut := 0 }) := by
        show _ = _
        unfold wroteD
        rw [if_neg (by show ¬ D.cut = 0; omega), if_pos (by show D.cut = 1; omega)]
      have HL2 := Lib.hid (HL.out.setDown true)
      have HFL2 : Hid (Fr (RFoot b gs vl) W (((w1.setCell ⟨b, 1, none⟩ (.slice oa (D.pend.length + 1) cap)).setCell ⟨b, 3, none⟩ (.int .i64 ((n - 1 : Nat) : Int))).setCell ⟨b, 2, none⟩ (.bool true))) := HFL.out.setCell ⟨b, 2, none⟩ _ (.inl (.inl rfl))
      subst h1
      have hw' : IntKind.i64.wrap (((1 : Nat) : Int) - 1) = 0 := hw
      rw [HW.out]
      clear hn h0 hw
      go_enter Try.func30, Try.ntmps30
      go_wp2_with (at_builtin; refine wpList_append_run _ rfl _ _ 41 rfl _ _ _ _ rfl rfl hrun ?_)
      go_ret
      exact ⟨rfl, _, HL2.out, HK1.out, HFL2.out⟩
    · have HW : Hid (wroteD { D with vis := splice D.vis o s.data.toList, pend := D.pend ++ [(o, s)] } = { D with vis := splice D.vis o s.data.toList, pend := D.pend ++ [(o, s)], cut := n - 1 }) := by
        show _ = _
        unfold wroteD
        rw [if_neg (by show ¬ D.cut = 0; omega), if_neg (by show ¬ D.cut = 1; omega), hn]
      rw [HW.out]
      obtain ⟨m, hm1⟩ : ∃ m, n - 1 = m := ⟨_, rfl⟩
      rw [hm1] at hw HL HFL ⊢
      have hz : ((m : Int) == 0) = false := by rw [beq_eq_false_iff_ne]; omega
      clear hn h0 hm1 HD1 HF1 HW
      go_enter Try.func30, Try.ntmps30
      go_wp2_with (at_builtin; refine wpList_append_run _ rfl _ _ 41 rfl _ _ _ _ rfl rfl hrun ?_)
      go_ret
      exact ⟨rfl, _, HL.out, HK1.out, HFL.out⟩
set_option maxHeartbeats 2000000 in
set_option maxRecDepth 100000 in
theorem refWrite_any (W : World) (B b gs cs : Nat) (rest : List Value) (vl : Value) (D : DS) (off : Int) (s : ByteArray) (ho : -9223372036854775808 ≤ off) (ho1 : off ≤ 9223372036854775807) (hs : s.size ≤ maxLen) (hB : B ≤ W.heap.size) (hlen : D.dur.length = D.vis.length) (hpl : D.pend.length ≤ 1000000) (hcut : D.cut ≤ 9223372036854775807) (h : RkAt W B b gs cs rest vl D) :
    Calls Try.prog 30 #[.pointer (some ⟨b, 0, none⟩), .int .i64 off, .string s] W fun e w' => e = .returned (.int .i64 (writeE D off s)) ∧ ∃ vl', RkAt w' B b gs cs rest vl' (writeD D off s) ∧ (∀ k, vl'.ownBlock = some k → vl.ownBlock = some k ∨ W.heap.size ≤ k) ∧ Fr (RFoot b gs vl) W w' := by
  cases hl : D.lost
  · by_cases hi : insB D off s.size = true
    · have hi2 := of_decide_eq_true hi
      obtain ⟨o, rfl⟩ : ∃ o : Nat, off = o := ⟨off.toNat, by omega⟩
      have e1 : writeE D o s = 0 := by unfold writeE; rw [hl, hi]; rfl
      have e2 : writeD D o s = wroteD { D with vis := splice D.vis o s.data.toList, pend := D.pend ++ [(o, s)] } := by unfold writeD; rw [hl, hi]; rfl
      rw [e1, e2]
      exact refWrite_ok W B b gs cs rest vl D o s hB hl (by omega) hpl hcut h
    · have hi2 : ¬ (0 ≤ off ∧ 0 ≤ (s.size : Int) ∧ (s.size : Int) ≤ D.vis.length ∧ off ≤ D.vis.length - s.size) := fun e => hi (decide_eq_true e)
      have hif : insB D off s.size = false := by cases hb : insB D off s.size; rfl; exact absurd hb hi
      have e1 : writeE D off s = 240 := by unfold writeE; rw [hl, hif]; rfl
      have e2 : writeD D off s = D := by unfold writeD; rw [hl, hif]; rfl
      rw [e1, e2]
      have c0 := h.blk.cell 0
      have c2 := h.blk.cell 2
      have hm := h.max
      simp only [List.getElem?_cons_zero, List.getElem?_cons_succ] at c0 c2
      rw [hl] at c2
      have H := Lib.hid h
      unfold maxLen at hs
      rw [← hlen] at hi2
      clear e1 e2 hif hi h hlen hl
      by_cases q1 : off < 0
      · clear hi2
        go_enter Try.func30, Try.ntmps30
        go_wp2_with fail
        go_ret
        exact ⟨rfl, _, H.out, fun k hk => .inl hk, Fr.refl _ _⟩
      · by_cases q2 : (D.dur.length : Int) < off
        · clear hi2
          go_enter Try.func30, Try.ntmps30
          go_wp2_with fail
          go_ret
          exact ⟨rfl, _, H.out, fun k hk => .inl hk, Fr.refl _ _⟩
        · have q3 : (D.dur.length : Int) - off < (s.size : Int) := by omega
          have hw : IntKind.i64.wrap ((D.dur.length : Int) - off) = (D.dur.length : Int) - off := IntWalk.i64_in _ (by omega)
          clear hi2
          go_enter Try.func30, Try.ntmps30
          go_wp2_with fail
          go_ret
          exact ⟨rfl, _, H.out, fun k hk => .inl hk, Fr.refl _ _⟩
  · have e1 : writeE D off s = 241 := by unfold writeE; rw [hl]; rfl
    have e2 : writeD D off s = D := by unfold writeD; rw [hl]; rfl
    rw [e1, e2]
    have c2 := h.blk.cell 2
    simp only [List.getElem?_cons_zero, List.getElem?_cons_succ] at c2
    rw [hl] at c2
    have H := Lib.hid h
    clear e1 e2 h hl
    go_enter Try.func30, Try.ntmps30
    go_wp2_with fail
    go_ret
    exact ⟨rfl, _, H.out, fun k hk => .inl hk, Fr.refl _ _⟩
end Go.Proofs.Ytdcnddbkjdbbbaa
