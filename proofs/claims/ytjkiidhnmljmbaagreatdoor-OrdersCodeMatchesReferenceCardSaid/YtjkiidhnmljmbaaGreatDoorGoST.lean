/-
  Orders: the reading of an order out of any string: (*input).order.
  Orders: errors.Is between the sentinels, and of a fault for another reason.
-/
import Derived.Test.YtjkiidhnmljmbaaGreatDoorGoPQ
import Derived.Test.YtjkiidhnmljmbaaGreatDoorLits
import Derived.Test.YtjkiidhnmljmbaaGreatDoorTk
import Derived.Test.YtjkiidhnmljmbaaGreatDoorOrRS
import Derived.Test.YtjkiidhnmljmbaaGreatDoorOrTV
set_option linter.unusedVariables false
set_option linter.unusedSimpArgs false
namespace Go.Proofs.YtjkiidhnmljmbaaGreatDoor
open Go.RowKit Onair
attribute [local go_sem] Oper.semAt_some
theorem Fr.cellK {S : Nat → Prop} {W W' : World} (h : Fr S W W') {p : Addr} {v : Value} (hc : W.cell? p = some v) (hn : ¬ S p.block) : W'.cell? p = some v := by
  have := h.block p.block (block_lt hc) hn
  unfold World.cell? at *
  rw [this]
  exact hc
def pE (a : Addr) : PanicEntry := { v := .iface 196 (.pointer (some a)), recovered := false }
/-- How the reading of an order ends. -/
def OrdPost (W : World) (ib : Nat) (er eb : Addr) (R : OutO) (e : Ending) (w' : World) : Prop :=
  Fr (fun c => c = ib) W w' ∧ match R with
  | .wire => e = .panicked [pE er]
  | .bad => e = .panicked [pE eb]
  | .ok o al => ∃ oa ac, e = .returned (.agg (o.withA oa ac).l.toArray) ∧ RdA w' oa al ∧ o.an = al.length ∧ ∀ a, oa = some a → W.heap.size ≤ a.block
theorem OrdPost.w {W w' : World} {ib : Nat} {er eb : Addr} {R : OutO} (h : R = .wire) (hf : Fr (fun c => c = ib) W w') : OrdPost W ib er eb R (.panicked [pE er]) w' := by subst h; exact ⟨hf, rfl⟩
theorem OrdPost.b {W w' : World} {ib : Nat} {er eb : Addr} {R : OutO} (h : R = .bad) (hf : Fr (fun c => c = ib) W w') : OrdPost W ib er eb R (.panicked [pE eb]) w' := by subst h; exact ⟨hf, rfl⟩
theorem ofsK_at (k : Int) (j : Nat) (h : j < (ofsK k).length) : ∃ f, (ofsK k)[j]? = some f ∧ f < 26 ∧ f ≠ 3 ∧ f ≠ 12 := by
  refine ⟨(ofsK k)[j], List.getElem?_eq_getElem h, ?_⟩
  have hm := List.getElem_mem h
  revert hm
  generalize (ofsK k)[j] = f
  unfold ofsK
  by_cases h1 : k = 1
  · rw [if_pos h1]; simp; omega
  rw [if_neg h1]
  by_cases h2 : k = 2
  · rw [if_pos h2]; simp; omega
  rw [if_neg h2]
  by_cases h3 : k = 3
  · rw [if_pos h3]; simp; omega
  rw [if_neg h3]
  by_cases h4 : k = 4
  · rw [if_pos h4]; simp; omega
  rw [if_neg h4]
  by_cases h5 : k = 5
  · rw [if_pos h5]; simp; omega
  rw [if_neg h5]; simp
def GOd.withR (o : GOd) (oa : Option Addr) (n c : Nat) : GOd := { o with ao := oa, an := n, ac := c }
theorem withN_a (o : GOd) (vs : List Int) : (o.withN vs).ao = o.ao ∧ (o.withN vs).an = o.an ∧ (o.withN vs).ac = o.ac := by
  unfold GOd.withN
  by_cases h1 : o.k = 1
  · rw [if_pos h1]; exact ⟨rfl, rfl, rfl⟩
  rw [if_neg h1]
  by_cases h2 : o.k = 2
  · rw [if_pos h2]; exact ⟨rfl, rfl, rfl⟩
  rw [if_neg h2]
  by_cases h3 : o.k = 3
  · rw [if_pos h3]; exact ⟨rfl, rfl, rfl⟩
  rw [if_neg h3]
  by_cases h4 : o.k = 4
  · rw [if_pos h4]; exact ⟨rfl, rfl, rfl⟩
  rw [if_neg h4]
  by_cases h5 : o.k = 5
  · rw [if_pos h5]; exact ⟨rfl, rfl, rfl⟩
  rw [if_neg h5]; exact ⟨rfl, rfl, rfl⟩
theorem withR_self (o : GOd) (h1 : o.ao = none) (h2 : o.an = 0) (h3 : o.ac = 0) : o.withR none 0 0 = o := by
  obtain ⟨s, ch, f, k, e, n, nid, item, frs, ear, lat, book, ao, an, ac, cl, qid, qf, qt, qp, txt⟩ := o
  simp only at h1 h2 h3
  subst h1 h2 h3
  rfl
/-- 'append' of one alternative to a row of one's own. -/
theorem app_alt (wr : World) (B : Nat) (v : Value) (n : Nat) (xs : List Value) (x y : Int) (hown : wr.ownsRow B 140 2 v n xs) (hn : n ≤ 1000000) (hB : B ≤ wr.heap.size) (ty : TypeId) :
    ∃ oa cap w', (Builtin.append_ #[22, 22] ty #[v, .slice (some ⟨wr.heap.size, 0, none⟩) 1 1]).run Tryz.prog (wr.alloc (.cells #[.int .i64 x, .int .i64 y] 140)) = .ok (.slice oa (n + 1) cap) w' ∧ w'.ownsRow B 140 2 (.slice oa (n + 1) cap) (n + 1) (xs ++ [.int .i64 x, .int .i64 y]) ∧ Fr (fun k => v.ownBlock = some k) wr w' ∧ (∀ k, (Value.slice oa (n + 1) cap).ownBlock = some k → v.ownBlock = some k ∨ wr.heap.size ≤ k) := by
  obtain ⟨i0, hi, hz0, hz1, hz2⟩ := info_parts Tryz.infoAlt
  have hnew : Blk (wr.alloc (.cells #[.int .i64 x, .int .i64 y] 140)) wr.heap.size 140 [.int .i64 x, .int .i64 y] := Blk.new wr _ [.int .i64 x, .int .i64 y]
  obtain ⟨v', w', hrun, h1, h2, h3⟩ := app_own (P := Tryz.prog) (W := wr.alloc (.cells #[.int .i64 x, .int .i64 y] 140)) B 22 ty 140 i0 (.agg #[.int .i64 0, .int .i64 0]) 2 16 Tryz.underlying22 hi hz0 hz1 hz2 rfl (by decide) v n xs (hown.alloc _) ⟨wr.heap.size, 0, none⟩ 1 1 [.int .i64 x, .int .i64 y] (by rfl) (fun j u hj => by
      rw [show ((⟨wr.heap.size, 0, none⟩ : Addr).add j) = ⟨wr.heap.size, j, none⟩ from by unfold Addr.add; split <;> simp_all, hnew.cell]
      exact hj) (fun u hu => by simp at hu; rcases hu with rfl | rfl <;> rfl) (by unfold maxLen; omega) (by omega) (by simp; omega)
  obtain ⟨oa, cap, rfl⟩ := own_slice h1
  refine ⟨oa, cap, w', hrun, h1, ((Fr.refl _ wr).alloc _).trans h2 (fun k _ hk => hk), fun k hk => (h3 k hk).imp_right (fun h => ?_)⟩
  rw [World.size_alloc] at h
  omega
set_option maxHeartbeats 16000000 in
set_option maxRecDepth 100000 in
theorem gIorder (ib : Nat) (s : ByteArray) (W : World) (er eb : Addr) (hs : s.size ≤ maxLen) (hk : Blk W ib 153 [.string s, .int .i64 0]) (hw : W.cell? ⟨2, 0, none⟩ = some (.iface 196 (.pointer (some er)))) (hb : W.cell? ⟨3, 0, none⟩ = some (.iface 196 (.pointer (some eb)))) (hn1 : 2 ≠ ib) (hn2 : 3 ≠ ib) :
    Calls Tryz.prog 78 #[.pointer (some ⟨ib, 0, none⟩)] W fun e w' => OrdPost W ib er eb (ordR s.data.toList) e w' := by
  obtain ⟨N, hN⟩ : ∃ N, W.heap.size = N := ⟨_, rfl⟩
  obtain ⟨w1, hw1⟩ : ∃ w1, W.alloc (.cells zOa 30) = w1 := ⟨_, rfl⟩
  obtain ⟨w2, hw2⟩ : ∃ w2, w1.alloc (.cells zOa 30) = w2 := ⟨_, rfl⟩
  obtain ⟨w3, hw3⟩ : ∃ w3, w2.alloc (.cells #[.pointer (some ⟨N + 1, 0, none⟩), .pointer (some ⟨N + 1, 1, none⟩), .pointer (some ⟨N + 1, 2, none⟩), .pointer (some ⟨N + 1, 3, none⟩)] 97) = w3 := ⟨_, rfl⟩
  have hz1 : w1.heap.size = N + 1 := by rw [← hw1, World.size_alloc, hN]
  have hz2 : w2.heap.size = N + 2 := by rw [← hw2, World.size_alloc, hz1]
  have ka : Blk w3 N 30 zOl := by
    have := Blk.new W 30 zOl
    rw [hN, hw1] at this
    rw [← hw3, ← hw2]
    exact (this.alloc _).alloc _
  have kb : Blk w3 (N + 1) 30 zOl := by
    have := Blk.new w1 30 zOl
    rw [hz1, hw2] at this
    rw [← hw3]
    exact this.alloc _
  have kc : Blk w3 (N + 2) 97 [.pointer (some ⟨N + 1, 0, none⟩), .pointer (some ⟨N + 1, 1, none⟩), .pointer (some ⟨N + 1, 2, none⟩), .pointer (some ⟨N + 1, 3, none⟩)] := by
    have := Blk.new w2 97 [.pointer (some ⟨N + 1, 0, none⟩), .pointer (some ⟨N + 1, 1, none⟩), .pointer (some ⟨N + 1, 2, none⟩), .pointer (some ⟨N + 1, 3, none⟩)]
    rw [hz2, hw3] at this
    exact this
  have hb3 : Below W.heap.size W w3 := by
    rw [← hw3, ← hw2, ← hw1]
    exact (((Below.refl _ W).alloc (Nat.le_refl _) _).alloc (by simp) _).alloc (by simp; omega) _
  have ki : Blk w3 ib 153 [.string s, .int .i64 0] := hk.kept (hb3.block _ hk.lt)
  have hib : ib < N := by rw [← hN]; exact hk.lt
  obtain ⟨l, hl⟩ : ∃ l, s.data.toList = l := ⟨_, rfl⟩
  obtain ⟨R, hR⟩ : ∃ R, ordR l = R := ⟨_, rfl⟩
  rw [hl, hR]
  have HLS : Hid (s.size = l.length) := (by rw [← hl]; exact (blen s).symm : s.size = l.length)
  have HL := Lib.hid hl
  have HRR := Lib.hid hR
  have KA : Hid (Blk w3 N 30 zeroO.l) := ka
  have KB : Hid (Blk w3 (N + 1) 30 (setL zeroO.l [0, 1, 2, 3] [])) := kb
  have KC := Lib.hid kc
  have KI := Lib.hid ki
  have HF3 : Hid (Fr (fun c => c = ib) W w3) := Fr.under _ hb3
  have HSM := Lib.hid hs
  have HSZ := Lib.hid (show (Tryz.prog.info? 30).map (·.size) = some 26 from by kernel_rfl)
  have HNN := Lib.hid hN
  have HGW : Hid (∀ w', Fr (fun c => c = ib) W w' → w'.cell? ⟨2, 0, none⟩ = some (.iface 196 (.pointer (some er)))) := fun w' hf => hf.cellK hw hn1
  have HGB : Hid (∀ w', Fr (fun c => c = ib) W w' → w'.cell? ⟨3, 0, none⟩ = some (.iface 196 (.pointer (some eb)))) := fun w' hf => hf.cellK hb hn2
  have HNX : Hid (∀ ofs : Nat, ofs < 26 → ∀ cs : List Value, cs.length = 26 → ∃ v, cs[ofs]? = some v) := fun ofs h cs hc => ⟨cs[ofs]'(by omega), List.getElem?_eq_getElem _⟩
  clear ka kb kc ki hb3 hk hs hR hl hw hb hn1 hn2
  go_enter Tryz.func78, Tryz.ntmps78
  go_wp2_with fail
  clear hw1 hw2 hw3 hz1 hz2 hN
  go_loopw [16] (fun vi wr => ∃ (j : Nat) (vs : List Int) (a : Int), j ≤ 4 ∧ vi = .int .i64 j ∧ Hid (RdSt l 4 0 j vs a) ∧ Hid (Blk wr N 30 zeroO.l) ∧ Hid (Blk wr (N + 1) 30 (setL zeroO.l [0, 1, 2, 3] vs)) ∧ Hid (Blk wr (N + 2) 97 [.pointer (some ⟨N + 1, 0, none⟩), .pointer (some ⟨N + 1, 1, none⟩), .pointer (some ⟨N + 1, 2, none⟩), .pointer (some ⟨N + 1, 3, none⟩)]) ∧ Hid (Blk wr ib 153 [.string s, .int .i64 a]) ∧ Hid (Fr (fun c => c = ib) W wr)) (fun v _ => 4 - (intOf v).toNat)
  case atStart => exact ⟨0, [], 0, by omega, rfl, RdSt.start l 4 0, KA, KB, KC, KI, HF3⟩
  case round =>
    clear KA KB KC KI HF3
    obtain ⟨j, vs, a, hj, rfl, HST, KA, KB, KC, KI, HF⟩ := hrel
    by_cases h : j < 4
    · have q1 : (j : Int) < 4 := by omega
      have c0 : wr.cell? ⟨N + 2, j, none⟩ = some (.pointer (some ⟨N + 1, j, none⟩)) := by
        rw [KC.out.cell j]
        rcases (show j = 0 ∨ j = 1 ∨ j = 2 ∨ j = 3 from by omega) with rfl | rfl | rfl | rfl <;> rfl
      have hfs : ([0, 1, 2, 3] : List Nat)[vs.length]? = some j := by
        rw [HST.out.1]
        rcases (show j = 0 ∨ j = 1 ∨ j = 2 ∨ j = 3 from by omega) with rfl | rfl | rfl | rfl <;> rfl
      by_cases h0 : (intR l a).2.2 = 0
      · have HC := Lib.hid (inum_ok ib s a wr HSM.out KI.out (by rw [HL.out]; exact h0))
        have HNX2 := Lib.hid (HST.out.next h h0)
        have HSN := Lib.hid (setL_snoc vs zeroO.l [0, 1, 2, 3] j (intR l a).1 hfs)
        rw [HL.out] at HC
        obtain ⟨x, hx⟩ : ∃ x, (intR l a).1 = x := ⟨_, rfl⟩
        obtain ⟨a2, ha2⟩ : ∃ a2, (intR l a).2.1 = a2 := ⟨_, rfl⟩
        rw [hx, ha2] at HC HNX2
        rw [hx] at HSN
        clear h h0 hfs hx ha2
        go_wp2_with fail
        refine HC.out.mono ?_
        rintro e w5 ⟨rfl, hk5, hf5⟩
        have KA5 := Lib.hid (KA.out.kept (hf5.block _ KA.out.lt (by omega)))
        have kb5 := KB.out.kept (hf5.block _ KB.out.lt (by omega))
        have KC5 := Lib.hid (KC.out.kept (hf5.block _ KC.out.lt (by omega)))
        obtain ⟨v0, hv0⟩ := HNX.out j (by omega) (setL zeroO.l [0, 1, 2, 3] vs) (by rw [setL_len]; rfl)
        have c1 : w5.cell? ⟨N + 1, j, none⟩ = some v0 := (kb5.cell j).trans hv0
        have f1 := kb5.frozen j
        have KB6 : Hid (Blk (w5.setCell ⟨N + 1, j, none⟩ (.int .i64 x)) (N + 1) 30 (setL zeroO.l [0, 1, 2, 3] (vs ++ [x]))) := by rw [HSN.out]; exact kb5.set j (.int .i64 x)
        have KA6 := Lib.hid (KA5.out.other ⟨N + 1, j, none⟩ (show N + 1 ≠ N by omega) (.int .i64 x))
        have KC6 := Lib.hid (KC5.out.other ⟨N + 1, j, none⟩ (show N + 1 ≠ N + 2 by omega) (.int .i64 x))
        have KI6 := Lib.hid (hk5.other ⟨N + 1, j, none⟩ (show N + 1 ≠ ib by omega) (.int .i64 x))
        have HF6 := Lib.hid ((HF.out.trans hf5 (fun _ _ h => h)).setCell ⟨N + 1, j, none⟩ (.int .i64 x) (.inr (by rw [HNN.out]; show N ≤ N + 1; omega)))
        clear kb5 hk5 hf5 KA5 KC5 HC c0 hv0 HSN
        go_wp2_with fail
        clear c1 f1
        go_roundw
        case rel => exact ⟨j + 1, _, _, by omega, by go_num, HNX2, KA6, KB6, KC6, KI6, HF6⟩
        case measure => simp [intOf]; omega
      · have HRW : Hid (R = .wire) := HRR.out.symm.trans (ordR_none (HST.out.bad h h0))
        have HC := Lib.hid (inum_bad ib s a wr er (HGW.out wr HF.out) HSM.out KI.out (by rw [HL.out]; exact h0))
        clear h h0 hfs
        go_wp2_with fail
        refine HC.out.mono ?_
        rintro e w5 ⟨rfl, hb5⟩
        go_wp2_with fail
        exact ⟨rfl, OrdPost.w HRW.out (HF.out.trans (Fr.under (fun _ => False) hb5) (fun _ _ e => e.elim))⟩
    · have q1 : ¬ (j : Int) < 4 := by omega
      obtain rfl : j = 4 := by omega
      have hvl := HST.out.1
      have HR2 : Hid (ordB l (o4 vs) a = R) := (ordR_some HST.out.done).symm.trans HRR.out
      have kb := KB.out
      rw [set_o4 vs hvl] at kb
      obtain ⟨o, ho⟩ : ∃ o, o4 vs = o := ⟨_, rfl⟩
      have HOA : Hid (o.ao = none ∧ o.an = 0 ∧ o.ac = 0) := (by rw [← ho]; exact ⟨rfl, rfl, rfl⟩ : o.ao = none ∧ o.an = 0 ∧ o.ac = 0)
      rw [ho] at kb HR2
      have c3 : wr.cell? ⟨N + 1, 3, none⟩ = some (.int .i64 o.k) := (cellsO kb).2.2.2.1
      have KB := Lib.hid kb
      clear h hj hvl kb ho HST HRR KC
      by_cases hkr : ¬ (1 ≤ o.k ∧ o.k ≤ 5)
      · have HRB : Hid (R = .bad) := HR2.out.symm.trans (ordB_bad hkr)
        have g0 := HGB.out wr HF.out
        rcases (show o.k < 1 ∨ (¬ o.k < 1 ∧ o.k > 5) from by omega) with p1 | ⟨p1, p2⟩
        · clear hkr
          go_wp2_with fail
          exact ⟨rfl, OrdPost.b HRB.out HF.out⟩
        · clear hkr
          go_wp2_with fail
          exact ⟨rfl, OrdPost.b HRB.out HF.out⟩
      have hkr : 1 ≤ o.k ∧ o.k ≤ 5 := Decidable.not_not.1 hkr
      have p1 : ¬ o.k < 1 := by omega
      have p2 : ¬ o.k > 5 := by omega
      have HKR := Lib.hid hkr
      have HNUM := Lib.hid (gNumbers (N + 1) o.k wr hkr c3)
      have h8 := ofsK_len o.k
      obtain ⟨n, hnn⟩ : ∃ n, (ofsK o.k).length = n := ⟨_, rfl⟩
      rw [hnn] at HNUM h8
      have HNL := Lib.hid hnn
      clear hkr hnn
      go_wp2_with fail
      refine HNUM.out.mono ?_
      rintro e w6 ⟨nb, rfl, hkn, hnb, hb6⟩
      have KA6 := Lib.hid (KA.out.kept (hb6.block _ KA.out.lt))
      have KB6 : Hid (Blk w6 (N + 1) 30 (setL o.l (ofsK o.k) [])) := (by have h9 := KB.out.kept (hb6.block _ KB.out.lt); have e9 : setL o.l (ofsK o.k) [] = o.l := (by cases ofsK o.k <;> rfl); rw [e9]; exact h9 : Blk w6 (N + 1) 30 (setL o.l (ofsK o.k) []))
      have KI6 := Lib.hid (KI.out.kept (hb6.block _ KI.out.lt))
      have HF6 := Lib.hid (HF.out.trans (Fr.under (fun _ => False) hb6) (fun _ _ e => e.elim))
      have hnN : N + 1 < nb := by have := KB.out.lt; omega
      have KN := Lib.hid hkn
      clear hkn hnb hb6 KA KB KI HF c3 HNUM p1 p2
      go_wp2_with fail
      go_loopw [36] (fun vi wr => ∃ (j : Nat) (vs : List Int) (a2 : Int), j ≤ n ∧ vi = .int .i64 j ∧ Hid (RdSt l n a j vs a2) ∧ Hid (Blk wr N 30 zeroO.l) ∧ Hid (Blk wr (N + 1) 30 (setL o.l (ofsK o.k) vs)) ∧ Hid (Blk wr nb 97 (ptrK (N + 1) o.k)) ∧ Hid (Blk wr ib 153 [.string s, .int .i64 a2]) ∧ Hid (Fr (fun c => c = ib) W wr)) (fun v _ => n - (intOf v).toNat)
      case atStart => exact ⟨0, [], a, by omega, rfl, RdSt.start l n a, KA6, KB6, KN, KI6, HF6⟩
      case round =>
        clear KA6 KB6 KN KI6 HF6
        obtain ⟨j, vs, a2, hj, rfl, HST, KA, KB, KC, KI, HF⟩ := hrel
        by_cases h : j < n
        · have q1 : (j : Int) < (n : Int) := by omega
          have q2 : (0 : Int) ≤ (j : Int) := by omega
          obtain ⟨f, hf, hf26, hf3, hf12⟩ := ofsK_at o.k j (by rw [HNL.out]; exact h)
          have c0 : wr.cell? ⟨nb, j, none⟩ = some (.pointer (some ⟨N + 1, f, none⟩)) := by rw [KC.out.cell j, ptrK, List.getElem?_map, hf]; rfl
          have hfs : (ofsK o.k)[vs.length]? = some f := by rw [HST.out.1]; exact hf
          by_cases h0 : (intR l a2).2.2 = 0
          · have HC := Lib.hid (inum_ok ib s a2 wr HSM.out KI.out (by rw [HL.out]; exact h0))
            have HNX2 := Lib.hid (HST.out.next h h0)
            have HSN := Lib.hid (setL_snoc vs o.l (ofsK o.k) f (intR l a2).1 hfs)
            rw [HL.out] at HC
            obtain ⟨x, hx⟩ : ∃ x, (intR l a2).1 = x := ⟨_, rfl⟩
            obtain ⟨a3, ha3⟩ : ∃ a3, (intR l a2).2.1 = a3 := ⟨_, rfl⟩
            rw [hx, ha3] at HC HNX2
            rw [hx] at HSN
            clear h h0 hfs hx ha3 hf
            go_wp2_with fail
            refine HC.out.mono ?_
            rintro e w5 ⟨rfl, hk5, hf5⟩
            have KA5 := Lib.hid (KA.out.kept (hf5.block _ KA.out.lt (by omega)))
            have kb5 := KB.out.kept (hf5.block _ KB.out.lt (by omega))
            have KC5 := Lib.hid (KC.out.kept (hf5.block _ KC.out.lt (by omega)))
            obtain ⟨v0, hv0⟩ := HNX.out f hf26 (setL o.l (ofsK o.k) vs) (by rw [setL_len]; rfl)
            have c1 : w5.cell? ⟨N + 1, f, none⟩ = some v0 := (kb5.cell f).trans hv0
            have f1 := kb5.frozen f
            have KB6 : Hid (Blk (w5.setCell ⟨N + 1, f, none⟩ (.int .i64 x)) (N + 1) 30 (setL o.l (ofsK o.k) (vs ++ [x]))) := by rw [HSN.out]; exact kb5.set f (.int .i64 x)
            have KA6 := Lib.hid (KA5.out.other ⟨N + 1, f, none⟩ (show N + 1 ≠ N by omega) (.int .i64 x))
            have KC6 := Lib.hid (KC5.out.other ⟨N + 1, f, none⟩ (show N + 1 ≠ nb by omega) (.int .i64 x))
            have KI6 := Lib.hid (hk5.other ⟨N + 1, f, none⟩ (show N + 1 ≠ ib by omega) (.int .i64 x))
            have HF6 := Lib.hid ((HF.out.trans hf5 (fun _ _ h => h)).setCell ⟨N + 1, f, none⟩ (.int .i64 x) (.inr (by rw [HNN.out]; show N ≤ N + 1; omega)))
            clear kb5 hk5 hf5 KA5 KC5 HC c0 hv0 HSN hf26 hf3 hf12
            go_wp2_with fail
            clear c1 f1
            go_roundw
            case rel => exact ⟨j + 1, _, _, by omega, by go_num, HNX2, KA6, KB6, KC6, KI6, HF6⟩
            case measure => simp [intOf]; omega
          · have HRW : Hid (R = .wire) := HR2.out.symm.trans (ordB_none HKR.out (by rw [HNL.out]; exact HST.out.bad h h0))
            have HC := Lib.hid (inum_bad ib s a2 wr er (HGW.out wr HF.out) HSM.out KI.out (by rw [HL.out]; exact h0))
            clear h h0 hfs hf hf26 hf3 hf12
            go_wp2_with fail
            refine HC.out.mono ?_
            rintro e w5 ⟨rfl, hb5⟩
            go_wp2_with fail
            exact ⟨rfl, OrdPost.w HRW.out (HF.out.trans (Fr.under (fun _ => False) hb5) (fun _ _ e => e.elim))⟩
        · have q1 : ¬ (j : Int) < (n : Int) := by omega
          obtain rfl : j = n := by omega
          have HR3 : Hid (ordC l (o.withN vs) a2 = R) := (ordB_some HKR.out (by rw [HNL.out]; exact HST.out.done)).symm.trans HR2.out
          have kb := KB.out
          rw [set_withN o vs (by rw [HNL.out]; exact HST.out.1)] at kb
          have hoa : (o.withN vs).ao = none ∧ (o.withN vs).an = 0 ∧ (o.withN vs).ac = 0 := ⟨(withN_a o vs).1.trans HOA.out.1, (withN_a o vs).2.1.trans HOA.out.2.1, (withN_a o vs).2.2.trans HOA.out.2.2⟩
          obtain ⟨q, hq⟩ : ∃ q, o.withN vs = q := ⟨_, rfl⟩
          rw [hq] at kb HR3 hoa
          have HQA := Lib.hid hoa
          have c3 : wr.cell? ⟨N + 1, 3, none⟩ = some (.int .i64 q.k) := (cellsO kb).2.2.2.1
          have hlz : nb < wr.heap.size := KC.out.lt
          have KB := Lib.hid kb
          clear h hj kb hq hoa HST HR2 KC HKR HNL HOA
          by_cases k3 : q.k = 3
          · rw [k3] at c3
            by_cases h0 : (intR l a2).2.2 = 0
            · have HC := Lib.hid (inum_ok ib s a2 wr HSM.out KI.out (by rw [HL.out]; exact h0))
              rw [HL.out] at HC
              have HRB : Hid ((intR l a2).1 < 0 ∨ 7 < (intR l a2).1 → R = .bad) := (fun hc => HR3.out.symm.trans (ordC_3b k3 h0 hc) : (intR l a2).1 < 0 ∨ 7 < (intR l a2).1 → R = .bad)
              have HRN : Hid (¬ ((intR l a2).1 < 0 ∨ 7 < (intR l a2).1) → readN l (2 * (intR l a2).1.toNat) (intR l a2).2.1 = none → R = .wire) := (fun hc hr => HR3.out.symm.trans (ordC_3w k3 h0 hc hr) : ¬ ((intR l a2).1 < 0 ∨ 7 < (intR l a2).1) → readN l (2 * (intR l a2).1.toNat) (intR l a2).2.1 = none → R = .wire)
              have HRS : Hid (¬ ((intR l a2).1 < 0 ∨ 7 < (intR l a2).1) → ∀ (vs : List Int) (b : Int), readN l (2 * (intR l a2).1.toNat) (intR l a2).2.1 = some (vs, b) → R = finO l (q.withL (intR l a2).1.toNat) (pairsL vs) b) := (fun hc vs b hr => HR3.out.symm.trans (ordC_3s k3 h0 hc hr) : ¬ ((intR l a2).1 < 0 ∨ 7 < (intR l a2).1) → ∀ (vs : List Int) (b : Int), readN l (2 * (intR l a2).1.toNat) (intR l a2).2.1 = some (vs, b) → R = finO l (q.withL (intR l a2).1.toNat) (pairsL vs) b)
              obtain ⟨c, hc⟩ : ∃ c, (intR l a2).1 = c := ⟨_, rfl⟩
              obtain ⟨a3, ha3⟩ : ∃ a3, (intR l a2).2.1 = a3 := ⟨_, rfl⟩
              rw [hc, ha3] at HC HRN HRS
              rw [hc] at HRB
              clear k3 h0 hc ha3 HR3
              go_wp2_with fail
              refine HC.out.mono ?_
              rintro e w5 ⟨rfl, hk5, hf5⟩
              have KA5 := Lib.hid (KA.out.kept (hf5.block _ KA.out.lt (by omega)))
              have KB5 := Lib.hid (KB.out.kept (hf5.block _ KB.out.lt (by omega)))
              have KI5 := Lib.hid hk5
              have HF5 := Lib.hid (HF.out.trans hf5 (fun _ _ h => h))
              have hz5 : nb < w5.heap.size := Nat.lt_of_lt_of_le hlz hf5.size
              have g0 := HGB.out w5 HF5.out
              clear hk5 hf5 KA KB KI HF HC c3
              rcases (show c < 0 ∨ (¬ c < 0 ∧ c > 7) ∨ (¬ c < 0 ∧ ¬ c > 7) from by omega) with p1 | ⟨p1, p2⟩ | ⟨p1, p2⟩
              · have HRX := Lib.hid (HRB.out (.inl p1))
                go_wp2_with fail
                exact ⟨rfl, OrdPost.b HRX.out HF5.out⟩
              · have HRX := Lib.hid (HRB.out (.inr p2))
                go_wp2_with fail
                exact ⟨rfl, OrdPost.b HRX.out HF5.out⟩
              have HRN2 := Lib.hid (HRN.out (by omega))
              have HRS2 := Lib.hid (HRS.out (by omega))
              obtain ⟨m, hm⟩ : ∃ m : Nat, c = (m : Int) := ⟨c.toNat, by omega⟩
              subst hm
              rw [Int.toNat_natCast] at HRN2 HRS2
              have hm7 : m ≤ 7 := by omega
              clear HRB HRN HRS g0
              go_wp2_with fail
              obtain ⟨Bz, hBz⟩ : ∃ Bz, w5.heap.size = Bz := ⟨_, rfl⟩
              have HBZ := Lib.hid hBz
              have hnB : nb < Bz := by omega
              have KB7 : Hid (Blk w5 (N + 1) 30 (q.withR none 0 0).l) := by rw [withR_self q HQA.out.1 HQA.out.2.1 HQA.out.2.2]; exact KB5.out
              clear hBz hz5 p1 p2
              go_loopw [59] (fun vi wr => ∃ (i : Nat) (vs : List Int) (a4 : Int) (oa : Option Addr) (ca : Nat), i ≤ m ∧ vi = .int .i64 i ∧ Hid (RdSt l (2 * m) a3 (2 * i) vs a4) ∧ Hid (Blk wr N 30 zeroO.l) ∧ Hid (Blk wr (N + 1) 30 (q.withR oa i ca).l) ∧ Hid (wr.ownsRow Bz 140 2 (.slice oa i ca) i (aCells (pairsL vs))) ∧ Hid (Blk wr ib 153 [.string s, .int .i64 a4]) ∧ Hid (Bz ≤ wr.heap.size) ∧ Hid (Fr (fun c => c = ib) W wr)) (fun v _ => m - (intOf v).toNat)
              case atStart => exact ⟨0, [], a3, none, 0, Nat.zero_le _, rfl, RdSt.start l (2 * m) a3, KA5, KB7, World.ownsRow_nil w5 _ _ _, KI5, Nat.le_of_eq HBZ.out.symm, HF5⟩
              case round =>
                clear KA5 KB5 KB7 KI5 HF5 HBZ
                obtain ⟨i, vs, a4, oa, ca, hi, rfl, HST, KA, KB, HO, KI, HZ, HF⟩ := hrel
                have hvl := HST.out.1
                by_cases h : i < m
                · have q1 : (i : Int) < (m : Int) := by omega
                  by_cases h0 : (intR l a4).2.2 = 0
                  · have HC := Lib.hid (inum_ok ib s a4 wr HSM.out KI.out (by rw [HL.out]; exact h0))
                    have HS1 := Lib.hid (HST.out.next (by omega) h0)
                    rw [HL.out] at HC
                    obtain ⟨x, hx⟩ : ∃ x, (intR l a4).1 = x := ⟨_, rfl⟩
                    obtain ⟨a5, ha5⟩ : ∃ a5, (intR l a4).2.1 = a5 := ⟨_, rfl⟩
                    rw [hx, ha5] at HC HS1
                    clear h0 hx ha5 HST
                    go_wp2_with fail
                    refine HC.out.mono ?_
                    rintro e w6 ⟨rfl, hk6, hf6⟩
                    have KA6 := Lib.hid (KA.out.kept (hf6.block _ KA.out.lt (by omega)))
                    have KB6 := Lib.hid (KB.out.kept (hf6.block _ KB.out.lt (by omega)))
                    have HO6 := Lib.hid (ownsRow_keptF HO.out (fun k e => hf6.block k (own_lt HO.out k e) (by have := own_ge HO.out k e; omega)))
                    have HF6 := Lib.hid (HF.out.trans hf6 (fun _ _ h => h))
                    have HZ6 : Hid (Bz ≤ w6.heap.size) := (by have := hf6.size; have := HZ.out; omega : Bz ≤ w6.heap.size)
                    obtain ⟨M, hM⟩ : ∃ M, w6.heap.size = M := ⟨_, rfl⟩
                    have HMB : Hid (Bz ≤ M) := (by have := HZ6.out; omega : Bz ≤ M)
                    obtain ⟨w7, hw7⟩ : ∃ w7, w6.alloc (.cells #[.int .i64 0, .int .i64 0] 140) = w7 := ⟨_, rfl⟩
                    have hb7 : Below w6.heap.size w6 w7 := by rw [← hw7]; exact (Below.refl _ _).alloc (Nat.le_refl _) _
                    have hk7 : Blk w7 M 140 [.int .i64 0, .int .i64 0] := by rw [← hw7, ← hM]; exact Blk.new w6 _ _
                    have x0 : w7.cell? ⟨M, 0, none⟩ = some (.int .i64 0) := hk7.cell 0
                    have x1 : w7.cell? ⟨M, 1, none⟩ = some (.int .i64 0) := hk7.cell 1
                    have y0 := hk7.frozen 0
                    have y1 := hk7.frozen 1
                    obtain ⟨w8, hw8⟩ : ∃ w8, (w7.setCell ⟨M, 0, none⟩ (.int .i64 x)).setCell ⟨M, 1, none⟩ (.int .i64 0) = w8 := ⟨_, rfl⟩
                    have hk8 : Blk w8 M 140 [.int .i64 x, .int .i64 0] := by rw [← hw8]; exact (hk7.set 0 (.int .i64 x)).set 1 (.int .i64 0)
                    have hb8 : Below w6.heap.size w6 w8 := by rw [← hw8]; exact (hb7.setCell (p := ⟨M, 0, none⟩) (by show _ ≤ M; omega) _).setCell (p := ⟨M, 1, none⟩) (by show _ ≤ M; omega) _
                    have KA8 := Lib.hid (KA6.out.kept (hb8.block _ KA6.out.lt))
                    have KB8 := Lib.hid (KB6.out.kept (hb8.block _ KB6.out.lt))
                    have KI8 := Lib.hid (hk6.kept (hb8.block _ hk6.lt))
                    have HO8 := Lib.hid (ownsRow_keptF HO6.out (fun k e => hb8.block k (own_lt HO6.out k e)))
                    have HF8 := Lib.hid (HF6.out.trans (Fr.under (fun _ => False) hb8) (fun _ _ e => e.elim))
                    have HZ8 : Hid (Bz ≤ w8.heap.size) := (by have := hb8.size; have := HZ6.out; omega : Bz ≤ w8.heap.size)
                    have HK8 := Lib.hid hk8
                    have HOM : Hid (∀ k, (Value.slice oa i ca).ownBlock = some k → k < M) := (fun k e => by have := own_lt HO6.out k e; omega : ∀ k, (Value.slice oa i ca).ownBlock = some k → k < M)
                    clear hk6 hf6 hb7 hk7 hk8 hb8 KA KB KI HO HF HZ KA6 KB6 HO6 HF6 HZ6 HC
                    by_cases h1 : (intR l a5).2.2 = 0
                    · have HC := Lib.hid (inum_ok ib s a5 w8 HSM.out KI8.out (by rw [HL.out]; exact h1))
                      have HS2 := Lib.hid (HS1.out.next (by omega) h1)
                      rw [HL.out] at HC
                      obtain ⟨y, hy⟩ : ∃ y, (intR l a5).1 = y := ⟨_, rfl⟩
                      obtain ⟨a6, ha6⟩ : ∃ a6, (intR l a5).2.1 = a6 := ⟨_, rfl⟩
                      rw [hy, ha6] at HC HS2
                      have HPS := Lib.hid (pairsL_snoc i vs x y hvl)
                      clear h1 hy ha6 HS1 h
                      go_wp2_with fail
                      refine HC.out.mono ?_
                      rintro e w9 ⟨rfl, hk9, hf9⟩
                      have KA9 := Lib.hid (KA8.out.kept (hf9.block _ KA8.out.lt (by omega)))
                      have kb9 := KB8.out.kept (hf9.block _ KB8.out.lt (by omega))
                      have km9 := HK8.out.kept (hf9.block _ HK8.out.lt (by have := HMB.out; omega))
                      have ho9 := ownsRow_keptF HO8.out (fun k e => hf9.block k (own_lt HO8.out k e) (by have := own_ge HO8.out k e; omega))
                      have HF9 := Lib.hid (HF8.out.trans hf9 (fun _ _ h => h))
                      have hz9 : Bz ≤ w9.heap.size := by have := hf9.size; have := HZ8.out; omega
                      have u1 : w9.cell? ⟨M, 1, none⟩ = some (.int .i64 0) := km9.cell 1
                      have v1 := km9.frozen 1
                      obtain ⟨w10, hw10⟩ : ∃ w10, w9.setCell ⟨M, 1, none⟩ (.int .i64 y) = w10 := ⟨_, rfl⟩
                      have hMN : M ≠ N := by have := HMB.out; omega
                      have hMN1 : M ≠ N + 1 := by have := HMB.out; omega
                      have hMi : M ≠ ib := by have := HMB.out; omega
                      have km10 : Blk w10 M 140 [.int .i64 x, .int .i64 y] := by rw [← hw10]; exact km9.set 1 (.int .i64 y)
                      have ka10 : Blk w10 N 30 zeroO.l := by rw [← hw10]; exact KA9.out.other ⟨M, 1, none⟩ hMN _
                      have kb10 : Blk w10 (N + 1) 30 (q.withR oa i ca).l := by rw [← hw10]; exact kb9.other ⟨M, 1, none⟩ hMN1 _
                      have ki10 : Blk w10 ib 153 [.string s, .int .i64 a6] := by rw [← hw10]; exact hk9.other ⟨M, 1, none⟩ hMi _
                      have ho10 : w10.ownsRow Bz 140 2 (.slice oa i ca) i (aCells (pairsL vs)) := ownsRow_keptF ho9 (fun k e => by rw [← hw10]; exact Below.heap_setCell _ _ _ _ (by have := HOM.out k e; show k ≠ M; omega))
                      have hf10 : Fr (fun c => c = ib) W w10 := by rw [← hw10]; exact HF9.out.setCell ⟨M, 1, none⟩ _ (.inr (by rw [HNN.out]; have := HMB.out; show N ≤ M; omega))
                      have hz10 : Bz ≤ w10.heap.size := by rw [← hw10]; simpa [World.setCell] using hz9
                      have e0 : w10.cell? ⟨M, 0, none⟩ = some (.int .i64 x) := km10.cell 0
                      have e1 : w10.cell? ⟨M, 1, none⟩ = some (.int .i64 y) := km10.cell 1
                      have e12 : w10.cell? ⟨N + 1, 12, none⟩ = some (.slice oa i ca) := kb10.cell 12
                      obtain ⟨oa2, ca2, w11, hrun, ho11, hf11, hk11⟩ := app_alt w10 Bz (.slice oa i ca) i (aCells (pairsL vs)) x y ho10 (by omega) hz10 22
                      have ka11 := ka10.kept (hf11.block _ ka10.lt (fun e => by have := own_ge ho10 _ e; omega))
                      have kb11 := kb10.kept (hf11.block _ kb10.lt (fun e => by have := own_ge ho10 _ e; omega))
                      have ki11 := ki10.kept (hf11.block _ ki10.lt (fun e => by have := own_ge ho10 _ e; omega))
                      have c11 : w11.cell? ⟨N + 1, 12, none⟩ = some (.slice oa i ca) := kb11.cell 12
                      have f11 := kb11.frozen 12
                      have hF11 : Fr (fun c => c = ib) W w11 := hf10.trans hf11 (fun k hk e => by have := own_ge ho10 _ e; rw [HNN.out] at hk; omega)
                      have hsn : aCells (pairsL vs) ++ [.int .i64 x, .int .i64 y] = aCells (pairsL (vs ++ [x] ++ [y])) := by rw [HPS.out, aCells_snoc]
                      rw [hsn] at ho11
                      clear hsn
                      have KA12 := Lib.hid (ka11.other ⟨N + 1, 12, none⟩ (show N + 1 ≠ N by omega) (.slice oa2 (i + 1) ca2))
                      have KB12 : Hid (Blk (w11.setCell ⟨N + 1, 12, none⟩ (.slice oa2 (i + 1) ca2)) (N + 1) 30 (q.withR oa2 (i + 1) ca2).l) := kb11.set 12 (.slice oa2 (i + 1) ca2)
                      have KI12 := Lib.hid (ki11.other ⟨N + 1, 12, none⟩ (show N + 1 ≠ ib by omega) (.slice oa2 (i + 1) ca2))
                      have HO12 := Lib.hid (ownsRow_keptF (W' := w11.setCell ⟨N + 1, 12, none⟩ (.slice oa2 (i + 1) ca2)) ho11 (fun k e => Below.heap_setCell _ _ _ _ (by have := own_ge ho11 k e; show k ≠ N + 1; omega)))
                      have HF12 := Lib.hid (hF11.setCell ⟨N + 1, 12, none⟩ (.slice oa2 (i + 1) ca2) (.inr (by rw [HNN.out]; show N ≤ N + 1; omega)))
                      have HZ12 : Hid (Bz ≤ (w11.setCell ⟨N + 1, 12, none⟩ (.slice oa2 (i + 1) ca2)).heap.size) := (by have := hf11.size; simp [World.setCell]; omega : Bz ≤ (w11.setCell ⟨N + 1, 12, none⟩ (.slice oa2 (i + 1) ca2)).heap.size)
                      clear hk9 hf9 kb9 km9 ho9 hz9 km10 ka10 kb10 ki10 ho10 hf10 hz10 ho11 hf11 hk11 ka11 kb11 ki11 hF11 HC KA8 KB8 KI8 HO8 HF8 HZ8 HK8 KA9 HF9 hvl hMN hMN1 hMi x0 x1 y0 y1
                      go_wp2_with (at_builtin; refine wpList_append_run _ rfl _ _ 22 rfl _ _ _ _ rfl rfl hrun ?_)
                      go_roundw
                      case rel => exact ⟨i + 1, _, _, _, _, by omega, by go_num, by have := HS2.out; rw [show 2 * i + 1 + 1 = 2 * (i + 1) by omega] at this; exact this, KA12, KB12, HO12, KI12, HZ12, HF12⟩
                      case measure => simp [intOf]; omega
                    · have HRW : Hid (R = .wire) := HRN2.out (HS1.out.bad (by omega) h1)
                      have HC := Lib.hid (inum_bad ib s a5 w8 er (HGW.out w8 HF8.out) HSM.out KI8.out (by rw [HL.out]; exact h1))
                      clear h h1 hvl
                      go_wp2_with fail
                      refine HC.out.mono ?_
                      rintro e w9 ⟨rfl, hb9⟩
                      go_wp2_with fail
                      exact ⟨rfl, OrdPost.w HRW.out (HF8.out.trans (Fr.under (fun _ => False) hb9) (fun _ _ e => e.elim))⟩
                  · have HRW : Hid (R = .wire) := HRN2.out (HST.out.bad (by omega) h0)
                    have HC := Lib.hid (inum_bad ib s a4 wr er (HGW.out wr HF.out) HSM.out KI.out (by rw [HL.out]; exact h0))
                    clear h h0 hvl
                    go_wp2_with fail
                    refine HC.out.mono ?_
                    rintro e w6 ⟨rfl, hb6⟩
                    go_wp2_with fail
                    exact ⟨rfl, OrdPost.w HRW.out (HF.out.trans (Fr.under (fun _ => False) hb6) (fun _ _ e => e.elim))⟩
                · have q1 : ¬ (i : Int) < (m : Int) := by omega
                  obtain rfl : i = m := by omega
                  have HRF : Hid (R = finO l (q.withL i) (pairsL vs) a4) := HRS2.out vs a4 HST.out.done
                  have hpl := pairsL_len i vs hvl
                  have hown := HO.out
                  rw [← hpl] at hown
                  have HRD : Hid (RdA wr oa (pairsL vs) ∧ ∀ a, oa = some a → Bz ≤ a.block) := (own_rda (by rw [hpl] at hown ⊢; exact hown)).2
                  have HPL := Lib.hid hpl
                  clear h hvl hpl hown hi
                  go_upto_region 27 with (fail)
                  have hi0 : wr.cell? ⟨ib, 0, none⟩ = some (.string s) := KI.out.cell 0
                  have hi1 : wr.cell? ⟨ib, 1, none⟩ = some (.int .i64 a4) := KI.out.cell 1
                  have HKE := Lib.hid KB.out.drew
                  have HKF := Lib.hid KA.out.drew
                  have HFD := Lib.hid HF.out.drew
                  have HRD2 : Hid (RdA wr.drew oa (pairsL vs)) := HRD.out.1
                  by_cases ha : a4 = (s.size : Int)
                  · have hne : (a4 != (s.size : Int)) = false := by rw [ha]; simp
                    have HRO := Lib.hid (HRF.out.trans (finO_ok (by rw [← HLS.out]; exact ha)))
                    have HR9 := Lib.hid HKE.out.range
                    have HO1 : Hid ((q.withR oa i ca).l.toArray.all (·.oneCell') = true) := GOd.oneC _
                    have HO2 : Hid (zeroO.l.toArray.size = (q.withR oa i ca).l.toArray.size) := rfl
                    clear ha
                    refine wp_region_held_drew (S := fun W => W.cell? ⟨ib, 0, none⟩ = some (.string s) ∧ W.cell? ⟨ib, 1, none⟩ = some (.int .i64 a4)) (by kernel_rfl) ?_ (fun hHeld => ?_)
                    · exact ⟨hi0, hi1⟩
                    refine tk 0 (some 82) ?_
                    refine tk 1 (some 83) ?_
                    refine tk 2 (some 84) ?_
                    refine tk 3 (some 85) ?_
                    refine tk 4 (some 86) ?_
                    refine tk 5 (some 87) ?_
                    refine tk 6 (some 88) ?_
                    refine tk 7 (some 89) ?_
                    refine tk 8 (some 90) ?_
                    refine wpAnyH_take (i := 9) (oi := ⟨some 91, _, _, _, _, _⟩) (v := .bool false) rfl (by kernel_rfl) (by kernel_rfl) (by kernel_rfl) (fun _ _ _ h => h) (Or.inl ⟨by rfl, ?yt3a10⟩) (by assumption) ?rt3a10
                    case yt3a10 => (intro w hSw; (try dsimp only at hSw); go_simp; (first | done | (with_reducible rfl) | exact hne | simpa using hne))
                    try simp only [Act.put, List.setIfInBounds_toArray, List.set_cons_zero, List.set_cons_succ]
                    refine wpAnyH_done (by kernel_rfl) ?_ _
                    clear hHeld
                    generalize World.drew _ = wd at HKE HKF HFD HR9 HRD2 ⊢
                    go_wp2_with (first | (refine wpList_load_mid rfl 30 (.tmp 3) rfl (N + 1) 0 rfl (q.withR oa i ca).l _ HR9.out Tryz.underlying30 rfl HSZ.out ?_) | (refine wpList_store_row rfl 30 (.tmp 2) (.tmp 93) rfl N (q.withR oa i ca).l.toArray rfl rfl 30 _ HKF.out HSZ.out HO2.out HO1.out ?_))
                    refine bodyPost_ret (results_cell_row Tryz.results78 _ _ N 30 (q.withR oa i ca).l.toArray (0, 0) _ rfl (setRow_heap _ _ _ _ _ _ HKF.out) Tryz.underlying30 rfl HSZ.out) rfl ?_
                    rw [HRO.out]
                    refine ⟨HFD.out.setRow N _ (.inr (by rw [HNN.out]; exact Nat.le_refl _)), _, _, rfl, ?_, HPL.out.symm, fun a e => by have := HRD.out.2 a e; rw [HNN.out]; omega⟩
                    exact (HRD2.out.keptB (by rw [size_setRow]; exact Nat.le_refl _) (fun b o e hlt => heap_setRow_other _ _ _ _ (by have h9 := HRD.out.2 _ e; have h8 : Bz ≤ b := h9; omega)))
                  · have hne : (a4 != (s.size : Int)) = true := by rw [bne_iff_ne]; exact ha
                    have HRW : Hid (R = .wire) := HRF.out.trans (finO_no (by rw [← HLS.out]; exact ha))
                    have g0 := HGW.out _ HFD.out
                    clear ha
                    refine wp_region_held_drew (S := fun W => W.cell? ⟨ib, 0, none⟩ = some (.string s) ∧ W.cell? ⟨ib, 1, none⟩ = some (.int .i64 a4)) (by kernel_rfl) ?_ (fun hHeld => ?_)
                    · exact ⟨hi0, hi1⟩
                    refine tk 0 (some 82) ?_
                    refine tk 1 (some 83) ?_
                    refine tk 2 (some 84) ?_
                    refine tk 3 (some 85) ?_
                    refine tk 4 (some 86) ?_
                    refine tk 5 (some 87) ?_
                    refine tk 6 (some 88) ?_
                    refine tk 7 (some 89) ?_
                    refine tk 8 (some 90) ?_
                    refine wpAnyH_take (i := 9) (oi := ⟨some 91, _, _, _, _, _⟩) (v := .bool true) rfl (by kernel_rfl) (by kernel_rfl) (by kernel_rfl) (fun _ _ _ h => h) (Or.inl ⟨by rfl, ?yt3b10⟩) (by assumption) ?rt3b10
                    case yt3b10 => (intro w hSw; (try dsimp only at hSw); go_simp; (first | done | (with_reducible rfl) | exact hne | simpa using hne))
                    try simp only [Act.put, List.setIfInBounds_toArray, List.set_cons_zero, List.set_cons_succ]
                    refine wpAnyH_done (by kernel_rfl) ?_ _
                    clear hHeld
                    go_wp2_with fail
                    exact ⟨rfl, OrdPost.w HRW.out HFD.out⟩
            · have HRW : Hid (R = .wire) := HR3.out.symm.trans (ordC_3n k3 h0)
              have HC := Lib.hid (inum_bad ib s a2 wr er (HGW.out wr HF.out) HSM.out KI.out (by rw [HL.out]; exact h0))
              clear k3 h0
              go_wp2_with fail
              refine HC.out.mono ?_
              rintro e w6 ⟨rfl, hb6⟩
              go_wp2_with fail
              exact ⟨rfl, OrdPost.w HRW.out (HF.out.trans (Fr.under (fun _ => False) hb6) (fun _ _ e => e.elim))⟩
          have k3' : (q.k == 3) = false := beq_eq_false_iff_ne.2 k3
          by_cases k5 : q.k = 5
          · rw [k5] at c3
            by_cases h0 : (strR l a2).2.2 = 0
            · have HC := Lib.hid (itxt_ok ib s a2 wr HSM.out KI.out (by rw [HL.out]; exact h0))
              rw [HL.out] at HC
              have HRF : Hid (R = finO l (q.withT (strR l a2).1) [] (strR l a2).2.1) := HR3.out.symm.trans (ordC_5s k5 h0)
              obtain ⟨a3, ha3⟩ : ∃ a3, (strR l a2).2.1 = a3 := ⟨_, rfl⟩
              obtain ⟨t, ht⟩ : ∃ t : ByteArray, (⟨(strR l a2).1.toArray⟩ : ByteArray) = t := ⟨_, rfl⟩
              obtain ⟨q2, hq2⟩ : ∃ q2, q.withT (strR l a2).1 = q2 := ⟨_, rfl⟩
              have HQT : Hid (q2.l = q.l.set 25 (.string t)) := (by rw [← hq2, ← ht]; rfl : q2.l = q.l.set 25 (.string t))
              have HQ2 : Hid (q2.ao = none ∧ q2.an = 0 ∧ q2.ac = 0) := (by rw [← hq2]; exact HQA.out : q2.ao = none ∧ q2.an = 0 ∧ q2.ac = 0)
              rw [ha3, hq2] at HRF
              rw [ha3, ht] at HC
              clear k3 k3' k5 h0 ha3 ht hq2 HR3
              go_wp2_with fail
              refine HC.out.mono ?_
              rintro e w5 ⟨rfl, hk5, hf5⟩
              have KA5 := Lib.hid (KA.out.kept (hf5.block _ KA.out.lt (by omega)))
              have kb5 := KB.out.kept (hf5.block _ KB.out.lt (by omega))
              have HF5 := Lib.hid (HF.out.trans hf5 (fun _ _ h => h))
              have c25 : w5.cell? ⟨N + 1, 25, none⟩ = some (.string q.txt) := kb5.cell 25
              have f25 := kb5.frozen 25
              have KB6 : Hid (Blk (w5.setCell ⟨N + 1, 25, none⟩ (.string t)) (N + 1) 30 q2.l) := by rw [HQT.out]; exact kb5.set 25 (.string t)
              have KA6 := Lib.hid (KA5.out.other ⟨N + 1, 25, none⟩ (show N + 1 ≠ N by omega) (.string t))
              have KI6 := Lib.hid (hk5.other ⟨N + 1, 25, none⟩ (show N + 1 ≠ ib by omega) (.string t))
              have HF6 := Lib.hid (HF5.out.setCell ⟨N + 1, 25, none⟩ (.string t) (.inr (by rw [HNN.out]; show N ≤ N + 1; omega)))
              clear kb5 hk5 hf5 KA5 HF5 HC KA KB KI HF
              obtain ⟨wr, hwr⟩ : ∃ wr, w5.setCell ⟨N + 1, 25, none⟩ (.string t) = wr := ⟨_, rfl⟩
              rw [hwr] at KB6 KA6 KI6 HF6
              have KA := KA6
              have KB := KB6
              have KI := KI6
              have HF := HF6
              clear KA6 KB6 KI6 HF6
              go_upto_region 27 with (fail)
              have hi0 : wr.cell? ⟨ib, 0, none⟩ = some (.string s) := KI.out.cell 0
              have hi1 : wr.cell? ⟨ib, 1, none⟩ = some (.int .i64 a3) := KI.out.cell 1
              have HKE := Lib.hid KB.out.drew
              have HKF := Lib.hid KA.out.drew
              have HFD := Lib.hid HF.out.drew
              by_cases ha : a3 = (s.size : Int)
              · have hne : (a3 != (s.size : Int)) = false := by rw [ha]; simp
                have HRO := Lib.hid (HRF.out.trans (finO_ok (by rw [← HLS.out]; exact ha)))
                have HR9 := Lib.hid HKE.out.range
                have HO1 : Hid ((q2).l.toArray.all (·.oneCell') = true) := GOd.oneC _
                have HO2 : Hid (zeroO.l.toArray.size = (q2).l.toArray.size) := rfl
                clear ha
                refine wp_region_held_drew (S := fun W => W.cell? ⟨ib, 0, none⟩ = some (.string s) ∧ W.cell? ⟨ib, 1, none⟩ = some (.int .i64 a3)) (by kernel_rfl) ?_ (fun hHeld => ?_)
                · exact ⟨hi0, hi1⟩
                refine tk 0 (some 82) ?_
                refine tk 1 (some 83) ?_
                refine tk 2 (some 84) ?_
                refine tk 3 (some 85) ?_
                refine tk 4 (some 86) ?_
                refine tk 5 (some 87) ?_
                refine tk 6 (some 88) ?_
                refine tk 7 (some 89) ?_
                refine tk 8 (some 90) ?_
                refine wpAnyH_take (i := 9) (oi := ⟨some 91, _, _, _, _, _⟩) (v := .bool false) rfl (by kernel_rfl) (by kernel_rfl) (by kernel_rfl) (fun _ _ _ h => h) (Or.inl ⟨by rfl, ?yt5a10⟩) (by assumption) ?rt5a10
                case yt5a10 => (intro w hSw; (try dsimp only at hSw); go_simp; (first | done | (with_reducible rfl) | exact hne | simpa using hne))
                try simp only [Act.put, List.setIfInBounds_toArray, List.set_cons_zero, List.set_cons_succ]
                refine wpAnyH_done (by kernel_rfl) ?_ _
                clear hHeld
                generalize World.drew _ = wd at HKE HKF HFD HR9 ⊢
                go_wp2_with (first | (refine wpList_load_mid rfl 30 (.tmp 3) rfl (N + 1) 0 rfl (q2).l _ HR9.out Tryz.underlying30 rfl HSZ.out ?_) | (refine wpList_store_row rfl 30 (.tmp 2) (.tmp 93) rfl N (q2).l.toArray rfl rfl 30 _ HKF.out HSZ.out HO2.out HO1.out ?_))
                refine bodyPost_ret (results_cell_row Tryz.results78 _ _ N 30 (q2).l.toArray (0, 0) _ rfl (setRow_heap _ _ _ _ _ _ HKF.out) Tryz.underlying30 rfl HSZ.out) rfl ?_
                rw [HRO.out]
                refine ⟨HFD.out.setRow N _ (.inr (by rw [HNN.out]; exact Nat.le_refl _)), _, _, rfl, ?_, HQ2.out.2.1, fun a e => (by rw [HQ2.out.1] at e; cases e)⟩
                exact .inl rfl
              · have hne : (a3 != (s.size : Int)) = true := by rw [bne_iff_ne]; exact ha
                have HRW : Hid (R = .wire) := HRF.out.trans (finO_no (by rw [← HLS.out]; exact ha))
                have g0 := HGW.out _ HFD.out
                clear ha
                refine wp_region_held_drew (S := fun W => W.cell? ⟨ib, 0, none⟩ = some (.string s) ∧ W.cell? ⟨ib, 1, none⟩ = some (.int .i64 a3)) (by kernel_rfl) ?_ (fun hHeld => ?_)
                · exact ⟨hi0, hi1⟩
                refine tk 0 (some 82) ?_
                refine tk 1 (some 83) ?_
                refine tk 2 (some 84) ?_
                refine tk 3 (some 85) ?_
                refine tk 4 (some 86) ?_
                refine tk 5 (some 87) ?_
                refine tk 6 (some 88) ?_
                refine tk 7 (some 89) ?_
                refine tk 8 (some 90) ?_
                refine wpAnyH_take (i := 9) (oi := ⟨some 91, _, _, _, _, _⟩) (v := .bool true) rfl (by kernel_rfl) (by kernel_rfl) (by kernel_rfl) (fun _ _ _ h => h) (Or.inl ⟨by rfl, ?yt5b10⟩) (by assumption) ?rt5b10
                case yt5b10 => (intro w hSw; (try dsimp only at hSw); go_simp; (first | done | (with_reducible rfl) | exact hne | simpa using hne))
                try simp only [Act.put, List.setIfInBounds_toArray, List.set_cons_zero, List.set_cons_succ]
                refine wpAnyH_done (by kernel_rfl) ?_ _
                clear hHeld
                go_wp2_with fail
                exact ⟨rfl, OrdPost.w HRW.out HFD.out⟩
            · have HRW : Hid (R = .wire) := HR3.out.symm.trans (ordC_5n k5 h0)
              have HC := Lib.hid (itxt_bad ib s a2 wr er (HGW.out wr HF.out) HSM.out KI.out (by rw [HL.out]; exact h0))
              clear k3 k3' k5 h0
              go_wp2_with fail
              refine HC.out.mono ?_
              rintro e w6 ⟨rfl, hb6⟩
              go_wp2_with fail
              exact ⟨rfl, OrdPost.w HRW.out (HF.out.trans (Fr.under (fun _ => False) hb6) (fun _ _ e => e.elim))⟩
          have k5' : (q.k == 5) = false := beq_eq_false_iff_ne.2 k5
          have HRF : Hid (R = finO l q [] a2) := HR3.out.symm.trans (ordC_x k3 k5)
          clear k3 k5
          go_upto_region 27 with (fail)
          have hi0 : wr.cell? ⟨ib, 0, none⟩ = some (.string s) := KI.out.cell 0
          have hi1 : wr.cell? ⟨ib, 1, none⟩ = some (.int .i64 a2) := KI.out.cell 1
          have HKE := Lib.hid KB.out.drew
          have HKF := Lib.hid KA.out.drew
          have HFD := Lib.hid HF.out.drew
          by_cases ha : a2 = (s.size : Int)
          · have hne : (a2 != (s.size : Int)) = false := by rw [ha]; simp
            have HRO := Lib.hid (HRF.out.trans (finO_ok (by rw [← HLS.out]; exact ha)))
            have HR9 := Lib.hid HKE.out.range
            have HO1 : Hid ((q).l.toArray.all (·.oneCell') = true) := GOd.oneC _
            have HO2 : Hid (zeroO.l.toArray.size = (q).l.toArray.size) := rfl
            clear ha
            refine wp_region_held_drew (S := fun W => W.cell? ⟨ib, 0, none⟩ = some (.string s) ∧ W.cell? ⟨ib, 1, none⟩ = some (.int .i64 a2)) (by kernel_rfl) ?_ (fun hHeld => ?_)
            · exact ⟨hi0, hi1⟩
            refine tk 0 (some 82) ?_
            refine tk 1 (some 83) ?_
            refine tk 2 (some 84) ?_
            refine tk 3 (some 85) ?_
            refine tk 4 (some 86) ?_
            refine tk 5 (some 87) ?_
            refine tk 6 (some 88) ?_
            refine tk 7 (some 89) ?_
            refine tk 8 (some 90) ?_
            refine wpAnyH_take (i := 9) (oi := ⟨some 91, _, _, _, _, _⟩) (v := .bool false) rfl (by kernel_rfl) (by kernel_rfl) (by kernel_rfl) (fun _ _ _ h => h) (Or.inl ⟨by rfl, ?ytxa10⟩) (by assumption) ?rtxa10
            case ytxa10 => (intro w hSw; (try dsimp only at hSw); go_simp; (first | done | (with_reducible rfl) | exact hne | simpa using hne))
            try simp only [Act.put, List.setIfInBounds_toArray, List.set_cons_zero, List.set_cons_succ]
            refine wpAnyH_done (by kernel_rfl) ?_ _
            clear hHeld
            generalize World.drew _ = wd at HKE HKF HFD HR9 ⊢
            go_wp2_with (first | (refine wpList_load_mid rfl 30 (.tmp 3) rfl (N + 1) 0 rfl (q).l _ HR9.out Tryz.underlying30 rfl HSZ.out ?_) | (refine wpList_store_row rfl 30 (.tmp 2) (.tmp 93) rfl N (q).l.toArray rfl rfl 30 _ HKF.out HSZ.out HO2.out HO1.out ?_))
            refine bodyPost_ret (results_cell_row Tryz.results78 _ _ N 30 (q).l.toArray (0, 0) _ rfl (setRow_heap _ _ _ _ _ _ HKF.out) Tryz.underlying30 rfl HSZ.out) rfl ?_
            rw [HRO.out]
            refine ⟨HFD.out.setRow N _ (.inr (by rw [HNN.out]; exact Nat.le_refl _)), _, _, rfl, ?_, HQA.out.2.1, fun a e => (by rw [HQA.out.1] at e; cases e)⟩
            exact .inl rfl
          · have hne : (a2 != (s.size : Int)) = true := by rw [bne_iff_ne]; exact ha
            have HRW : Hid (R = .wire) := HRF.out.trans (finO_no (by rw [← HLS.out]; exact ha))
            have g0 := HGW.out _ HFD.out
            clear ha
            refine wp_region_held_drew (S := fun W => W.cell? ⟨ib, 0, none⟩ = some (.string s) ∧ W.cell? ⟨ib, 1, none⟩ = some (.int .i64 a2)) (by kernel_rfl) ?_ (fun hHeld => ?_)
            · exact ⟨hi0, hi1⟩
            refine tk 0 (some 82) ?_
            refine tk 1 (some 83) ?_
            refine tk 2 (some 84) ?_
            refine tk 3 (some 85) ?_
            refine tk 4 (some 86) ?_
            refine tk 5 (some 87) ?_
            refine tk 6 (some 88) ?_
            refine tk 7 (some 89) ?_
            refine tk 8 (some 90) ?_
            refine wpAnyH_take (i := 9) (oi := ⟨some 91, _, _, _, _, _⟩) (v := .bool true) rfl (by kernel_rfl) (by kernel_rfl) (by kernel_rfl) (fun _ _ _ h => h) (Or.inl ⟨by rfl, ?ytxb10⟩) (by assumption) ?rtxb10
            case ytxb10 => (intro w hSw; (try dsimp only at hSw); go_simp; (first | done | (with_reducible rfl) | exact hne | simpa using hne))
            try simp only [Act.put, List.setIfInBounds_toArray, List.set_cons_zero, List.set_cons_succ]
            refine wpAnyH_done (by kernel_rfl) ?_ _
            clear hHeld
            go_wp2_with fail
            exact ⟨rfl, OrdPost.w HRW.out HFD.out⟩
end Go.Proofs.YtjkiidhnmljmbaaGreatDoor
namespace Go.Proofs.YtjkiidhnmljmbaaGreatDoor
open Go.RowKit Go.Extern.Stop Go.Stop Go.Extern Onair
/-- Two sentinels that lie apart. -/
structure Apart (W : World) (a b : Addr) : Prop where
  ne : a ≠ b
  ha : ∃ ca ta, W.heap[a.block]? = some (.cells ca ta (0, 0))
  hb : ∃ cb tb, W.heap[b.block]? = some (.cells cb tb (0, 0))
theorem Apart.below {W W' : World} {a b : Addr} (h : Apart W a b) (hb : Below W.heap.size W W') : Apart W' a b := by
  obtain ⟨h1, ⟨ca, ta, h2⟩, ⟨cb, tb, h3⟩⟩ := h
  exact ⟨h1, ⟨ca, ta, (hb.block _ (Array.getElem?_eq_some_iff.1 h2).1).trans h2⟩, ⟨cb, tb, (hb.block _ (Array.getElem?_eq_some_iff.1 h3).1).trans h3⟩⟩
theorem Tryz.noIsE (v : Value) (xT : TypeId) (w : World) : (Instr.typeAssert (.iface 196 v) xT 174 true).run Tryz.prog w = .ok (.tuple #[.nilIface, .bool false]) w := run_typeAssert_lacksB Tryz.underlying174 (by kernel_rfl) (by kernel_rfl) v xT w
theorem Tryz.noUnwrapE (v : Value) (xT : TypeId) (w : World) : (Instr.typeAssert (.iface 196 v) xT 177 true).run Tryz.prog w = .ok (.tuple #[.nilIface, .bool false]) w := run_typeAssert_lacksB Tryz.underlying177 (by kernel_rfl) (by kernel_rfl) v xT w
theorem Tryz.noUnwrapsE (v : Value) (xT : TypeId) (w : World) : (Instr.typeAssert (.iface 196 v) xT 179 true).run Tryz.prog w = .ok (.tuple #[.nilIface, .bool false]) w := run_typeAssert_lacksB Tryz.underlying179 (by kernel_rfl) (by kernel_rfl) v xT w
set_option maxHeartbeats 2000000 in
set_option maxRecDepth 100000 in
theorem is_es_same (b : Addr) (w : World) :
    Calls Tryz.prog 39 #[.iface 196 (.pointer (some b)), .iface 196 (.pointer (some b))] w fun e w' => e = .returned (.bool true) ∧ Below w.heap.size w w' := by
  obtain ⟨i, hi, hcmp⟩ := Option.map_eq_some_iff.1 Tryz.isComp
  obtain ⟨j, hj, hjs⟩ := Option.map_eq_some_iff.1 Tryz.isSize
  have h8 := @run_callFunc_extern Tryz.prog 73 _ Extern.ReflectliteType.typeOf Tryz.func73 (by kernel_rfl) (by kernel_rfl) (by kernel_rfl) (by kernel_rfl)
  have h32 := @run_callFunc_extern Tryz.prog 136 _ compE Tryz.func136 (by kernel_rfl) (by kernel_rfl) (by kernel_rfl) (by kernel_rfl)
  have tT := Tryz.isTypeOf
  have cT := Tryz.isComparable
  have mR := Tryz.isMethodComparable
  have heq := fun w => run_eql_iface_ptr_same (P := Tryz.prog) w b Tryz.underlying81 Tryz.underlying196 hi hcmp hj
  go_enter Tryz.func39, Tryz.ntmps39
  go_wp2
  refine wp_loop_rounds 1 ?_
  rw [rounds_succ]
  go_wp2
  go_ret
  exact ⟨rfl, Below.refl _ _⟩
set_option maxHeartbeats 2000000 in
set_option maxRecDepth 100000 in
theorem is_es_other (a b : Addr) (w : World) (hab : Apart w a b) :
    Calls Tryz.prog 39 #[.iface 196 (.pointer (some a)), .iface 196 (.pointer (some b))] w fun e w' => e = .returned (.bool false) ∧ Below w.heap.size w w' := by
  obtain ⟨hne, ⟨ca, ta, ha⟩, ⟨cb, tb, hb⟩⟩ := hab
  obtain ⟨i, hi, hcmp⟩ := Option.map_eq_some_iff.1 Tryz.isComp
  obtain ⟨j, hj, hjs⟩ := Option.map_eq_some_iff.1 Tryz.isSize
  have h8 := @run_callFunc_extern Tryz.prog 73 _ Extern.ReflectliteType.typeOf Tryz.func73 (by kernel_rfl) (by kernel_rfl) (by kernel_rfl) (by kernel_rfl)
  have h32 := @run_callFunc_extern Tryz.prog 136 _ compE Tryz.func136 (by kernel_rfl) (by kernel_rfl) (by kernel_rfl) (by kernel_rfl)
  have tT := Tryz.isTypeOf
  have cT := Tryz.isComparable
  have mR := Tryz.isMethodComparable
  have nW := Tryz.noIsE
  have uW := Tryz.noUnwrapE
  have uS := Tryz.noUnwrapsE
  have heq := run_eql_iface_ptr_other (P := Tryz.prog) w (ti := 81) (tp := 196) Tryz.underlying81 Tryz.underlying196 hi hcmp hj (by rw [hjs]; decide) hne ha hb
  go_enter Tryz.func39, Tryz.ntmps39
  go_wp2
  refine wp_loop_rounds 1 ?_
  rw [rounds_succ]
  go_wp2
  go_ret
  exact ⟨rfl, Below.refl _ _⟩
set_option maxHeartbeats 2000000 in
set_option maxRecDepth 100000 in
theorem is_fault_other (x : Int) (a b : Addr) (w : World) (hab : Apart w a b) :
    Calls Tryz.prog 39 #[.iface 89 (.agg #[.int .i64 x, .iface 196 (.pointer (some a))]), .iface 196 (.pointer (some b))] w fun e w' => e = .returned (.bool false) ∧ Below w.heap.size w w' := by
  have hab2 := hab.below ((Below.refl w.heap.size w).alloc (Nat.le_refl _) (.cells #[.int .i64 x, .iface 196 (.pointer (some a))] 89))
  obtain ⟨hne, ⟨ca, ta, ha⟩, ⟨cb, tb, hb⟩⟩ := hab2
  obtain ⟨i, hi, hcmp⟩ := Option.map_eq_some_iff.1 Tryz.isComp
  obtain ⟨j, hj, hjs⟩ := Option.map_eq_some_iff.1 Tryz.isSize
  have h8 := @run_callFunc_extern Tryz.prog 73 _ Extern.ReflectliteType.typeOf Tryz.func73 (by kernel_rfl) (by kernel_rfl) (by kernel_rfl) (by kernel_rfl)
  have h32 := @run_callFunc_extern Tryz.prog 136 _ compE Tryz.func136 (by kernel_rfl) (by kernel_rfl) (by kernel_rfl) (by kernel_rfl)
  have tT := Tryz.isTypeOf
  have cT := Tryz.isComparable
  have mR := Tryz.isMethodComparable
  have nW := Tryz.noIsW
  have nE := Tryz.noIsE
  have uW := Tryz.hasUnwrapW
  have uE := Tryz.noUnwrapE
  have uS := Tryz.noUnwrapsE
  have mU := Tryz.methodUnwrap
  have heq := run_eql_iface_ptr_other (P := Tryz.prog) (w.alloc (.cells #[.int .i64 x, .iface 196 (.pointer (some a))] 89)) (ti := 81) (tp := 196) Tryz.underlying81 Tryz.underlying196 hi hcmp hj (by rw [hjs]; decide) hne ha hb
  have hty := fun w => run_eql_iface_types (P := Tryz.prog) 89 196 (.agg #[.int .i64 x, .iface 196 (.pointer (some a))]) (.pointer (some b)) Tryz.underlying81 (by decide) w
  go_enter Tryz.func39, Tryz.ntmps39
  go_wp2
  refine wp_loop_rounds 2 ?_
  rw [rounds_succ]
  go_wp2
  rw [rounds_succ]
  go_wp2
  go_ret
  exact ⟨rfl, (Below.refl _ _).alloc (Nat.le_refl _) _⟩
end Go.Proofs.YtjkiidhnmljmbaaGreatDoor
