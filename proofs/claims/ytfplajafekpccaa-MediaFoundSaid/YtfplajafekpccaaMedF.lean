/-
  The walk of media.Decode.
-/
import Derived.WalkKit
import Derived.LoopTactic
import Derived.WalkSpells
import Derived.WalkLawsBesides
import Derived.RegionTactic
import Derived.BigRegion
import Derived.Deep.QuietTactic
import Derived.BigQuiet
import Derived.IntWalk
import Derived.Outline
import Derived.Defers
import Derived.Recover
import Derived.Test.YtfplajafekpccaaMedE
set_option linter.unusedVariables false
set_option linter.unusedSimpArgs false
namespace Go.Proofs.Ytfplajafekpccaa
open Go.RowKit Onair
theorem nextInt_st {W : World} {r : Nat} {a i x b : Int} {v : Value} {l : List Pic} {w : World} (s : ByteArray) (hs : s.size ≤ maxLen) (h : DSt W r a i v l w) (hq : intR s.data.toList a = (x, b, 0)) :
    Calls Try.prog 45 #[.string s, .pointer (some ⟨r + 2, 0, none⟩), .func (.func 46) #[] #[]] w fun e w' => e = .returned (.int .i64 x) ∧ DSt W r b i v l w' ∧ Fr (fun k => k = r + 2) w w' := by
  refine (nextInt_ok s (r + 2) a w hs h.b3 (by rw [hq])).mono ?_
  rw [hq]
  rintro e w' ⟨rfl, rfl⟩
  exact ⟨rfl, h.setAt _, (Fr.refl _ w).setCell ⟨r + 2, 0, none⟩ _ (.inl rfl)⟩
theorem nextStr_st {W : World} {r : Nat} {a i b : Int} {x : List UInt8} {v : Value} {l : List Pic} {w : World} (s : ByteArray) (hs : s.size ≤ maxLen) (h : DSt W r a i v l w) (hq : strR s.data.toList a = (x, b, 0)) :
    Calls Try.prog 48 #[.string s, .pointer (some ⟨r + 2, 0, none⟩), .func (.func 49) #[] #[]] w fun e w' => e = .returned (.string ⟨x.toArray⟩) ∧ DSt W r b i v l w' ∧ Fr (fun k => k = r + 2) w w' := by
  refine (nextStr_ok s (r + 2) a w hs h.b3 (by rw [hq])).mono ?_
  rw [hq]
  rintro e w' ⟨rfl, rfl⟩
  exact ⟨rfl, h.setAt _, (Fr.refl _ w).setCell ⟨r + 2, 0, none⟩ _ (.inl rfl)⟩
theorem nextInt_no {W : World} {r : Nat} {a i x b z : Int} {v : Value} {l : List Pic} {w : World} (s : ByteArray) (hs : s.size ≤ maxLen) (h : DSt W r a i v l w) (hq : intR s.data.toList a = (x, b, z)) (hz : z ≠ 0) :
    Calls Try.prog 45 #[.string s, .pointer (some ⟨r + 2, 0, none⟩), .func (.func 46) #[] #[]] w fun e w' => e = .panicked [refusal 10] ∧ w = w' :=
  nextInt_bad s (r + 2) a w hs h.b3 (by rw [hq]; exact hz)
theorem nextStr_no {W : World} {r : Nat} {a i b z : Int} {x : List UInt8} {v : Value} {l : List Pic} {w : World} (s : ByteArray) (hs : s.size ≤ maxLen) (h : DSt W r a i v l w) (hq : strR s.data.toList a = (x, b, z)) (hz : z ≠ 0) :
    Calls Try.prog 48 #[.string s, .pointer (some ⟨r + 2, 0, none⟩), .func (.func 49) #[] #[]] w fun e w' => e = .panicked [refusal 10] ∧ w = w' :=
  nextStr_bad s (r + 2) a w hs h.b3 (by rw [hq]; exact hz)
theorem dst_new (W : World) (r : Nat) (hr : W.heap.size = r) : DSt W r 0 0 (.slice none 0 0) [] ((((W.alloc (.cells #[.int .i64 0, .slice none 0 0] 24)).alloc (.cells #[.int .i64 0] 32)).alloc (.cells #[.int .i64 0] 3)).alloc (.cells #[.int .i64 0, .slice none 0 0] 24)) := by
  subst hr
  obtain ⟨w1, h1⟩ : ∃ w1, W.alloc (.cells #[.int .i64 0, .slice none 0 0] 24) = w1 := ⟨_, rfl⟩
  have k1 : Blk w1 W.heap.size 24 [.int .i64 0, .slice none 0 0] := by rw [← h1]; exact Blk.new W _ _
  have s1 : w1.heap.size = W.heap.size + 1 := by rw [← h1]; simp
  have b1 : Below W.heap.size W w1 := by rw [← h1]; exact (Below.refl _ W).alloc (Nat.le_refl _) _
  rw [h1]
  obtain ⟨w2, h2⟩ : ∃ w2, w1.alloc (.cells #[.int .i64 0] 32) = w2 := ⟨_, rfl⟩
  have k2 : Blk w2 (W.heap.size + 1) 32 [.int .i64 0] := by rw [← h2, ← s1]; exact Blk.new w1 _ _
  have s2 : w2.heap.size = W.heap.size + 2 := by rw [← h2]; simp [s1]
  have b2 : Below W.heap.size W w2 := by rw [← h2]; exact b1.alloc (by omega) _
  have k1' : Blk w2 W.heap.size 24 [.int .i64 0, .slice none 0 0] := by rw [← h2]; exact k1.alloc _
  rw [h2]
  obtain ⟨w3, h3⟩ : ∃ w3, w2.alloc (.cells #[.int .i64 0] 3) = w3 := ⟨_, rfl⟩
  have k3 : Blk w3 (W.heap.size + 2) 3 [.int .i64 0] := by rw [← h3, ← s2]; exact Blk.new w2 _ _
  have s3 : w3.heap.size = W.heap.size + 3 := by rw [← h3]; simp [s2]
  have b3 : Below W.heap.size W w3 := by rw [← h3]; exact b2.alloc (by omega) _
  rw [h3]
  refine ⟨rfl, ?_, ?_, k3.alloc _, ?_, World.ownsRow_nil _ _ _ _, b3.alloc (by omega) _⟩
  · rw [← h3]; exact (k1'.alloc _).alloc _
  · rw [← h3]; exact (k2.alloc _).alloc _
  · rw [← s3]; exact Blk.new w3 _ _
/-- What is left to do behind two numbers. -/
theorem decR_go {s : List UInt8} {x a n b z y : Int} (h : intR s 0 = (x, a, 0)) (h2 : intR s a = (n, b, 0)) (h3 : 1 ≤ n) (h4 : n ≤ 2000) : decR s = decT s x n.toNat b [] := by
  have e1 : (intR s 0).2.1 = a := by rw [h]
  have e2 : (intR s a).1 = n := by rw [h2]
  have := decR_4 (s := s) (by rw [h]) (by rw [e1, h2]) (by rw [e1, e2]; omega)
  rw [e1, h, h2] at this
  exact this
theorem picR_ok {s : List UInt8} {x a n b c y : Int} {t : List UInt8} (h : intR s y = (x, a, 0)) (hx : x = 0 ∨ x = 1) (h2 : intR s a = (n, b, 0)) (h3 : strR s b = (t, c, 0)) : picR s y = .inr (⟨decide (x = 1), ⟨t.toArray⟩, n⟩, c) := by
  have e1 : (intR s y).2.1 = a := by rw [h]
  have e2 : (intR s a).2.1 = b := by rw [h2]
  have := picR_5 (s := s) (a := y) (by rw [h]) (by rw [h]; show ¬ (x ≠ 0 ∧ x ≠ 1); omega) (by rw [e1, h2]) (by rw [e1, e2, h3])
  rw [e1, e2, h, h2, h3] at this
  exact this
theorem POk_read {s : List UInt8} {n b c a : Int} {t : List UInt8} (k : Bool) (hs : s.length ≤ maxLen) (h2 : intR s a = (n, b, 0)) (h3 : strR s b = (t, c, 0)) : POk ⟨k, ⟨t.toArray⟩, n⟩ := by
  have h := intR_ok (l := s) (a := a) (by rw [h2])
  rw [h2] at h
  dsimp only at h
  have hb := strR_back s b.toNat (by rw [show ((b.toNat : Nat) : Int) = b by omega, h3])
  rw [show ((b.toNat : Nat) : Int) = b by omega, h3] at hb
  refine ⟨by show _ ≤ n; omega, by show n ≤ _; omega, ?_⟩
  show t.toArray.size ≤ maxLen
  have : t.length ≤ 65536 := hb.1
  rw [List.size_toArray]
  unfold maxLen
  omega
theorem app_picP {c : Pic} (_ : POk c) (wr : World) (B : Nat) (v : Value) (l : List Pic) (hown : wr.ownsRow B 42 3 v l.length (pcells l)) (hn : l.length ≤ 1000000) (hB : B ≤ wr.heap.size) (ty : TypeId) :
    ∃ oa cap w', (Builtin.append_ #[22, 22] ty #[v, .slice (some ⟨wr.heap.size, 0, none⟩) 1 1]).run Try.prog (wr.alloc (.cells #[.bool c.key, .string c.data, .int .i64 c.power] 42)) = .ok (.slice oa (l.length + 1) cap) w' ∧ w'.ownsRow B 42 3 (.slice oa (l.length + 1) cap) (l ++ [c]).length (pcells (l ++ [c])) ∧ Fr (fun k => v.ownBlock = some k) wr w' := by
  obtain ⟨oa, cap, w', h1, h2, h3, _⟩ := app_pic wr B v l c hown hn hB ty
  exact ⟨oa, cap, w', h1, by rw [List.length_append]; exact h2, h3⟩
theorem len_snoc {c : Pic} (_ : POk c) {l : List Pic} {j : Nat} (h : l.length = j) : (l ++ [c]).length = j + 1 := by rw [List.length_append, h]; rfl
theorem ok_snoc {c : Pic} (hc : POk c) {l : List Pic} (h : ∀ p ∈ l, POk p) : ∀ p ∈ l ++ [c], POk p := fun p hp => by
  rcases List.mem_append.1 hp with h' | h'
  · exact h p h'
  · rw [List.mem_singleton.1 h']; exact hc
set_option maxHeartbeats 16000000 in
set_option maxRecDepth 100000 in
theorem decode_any (s : ByteArray) (W : World) (hs : s.size ≤ maxLen) :
    Calls Try.prog 26 #[.string s] W (DecPost W (decR s.data.toList)) := by
  have hmf : ∀ (fn : Fn) (first cap : Array Value) (w : World), (Instr.makeFunc fn first cap).run Try.prog w = .ok (.func fn first cap) w := fun _ _ _ _ => rfl
  obtain ⟨D, hD⟩ : ∃ D, decR s.data.toList = D := ⟨_, rfl⟩
  rw [hD]
  have HD := Lib.hid hD
  clear hD
  obtain ⟨r, hr⟩ : ∃ r, W.heap.size = r := ⟨_, rfl⟩
  have HS0 := Lib.hid (dst_new W r hr)
  have HR := Lib.hid hr
  have HSL : Hid (s.data.toList.length = s.size) := blen s
  obtain ⟨S, hS⟩ : ∃ S, s.data.toList = S := ⟨_, rfl⟩
  rw [hS] at HD HSL
  have HSS := Lib.hid hS
  clear hr hS
  have hs' := hs
  unfold maxLen at hs'
  obtain ⟨⟨x0, a0, z0⟩, hq0⟩ : ∃ q, intR S 0 = q := ⟨_, rfl⟩
  have HQ0 : Hid (intR s.data.toList 0 = (x0, a0, z0)) := by show _ = _; rw [HSS.out]; exact hq0
  go_enter_defers Try.func26, Try.ntmps26
  go_wp2_with fail
  rw [HR.out]
  by_cases e0 : z0 = 0
  · subst e0
    refine (nextInt_st s hs HS0.out HQ0.out).mono ?_
    rintro e w1 ⟨rfl, hd1, -⟩
    have HS1 := Lib.hid (hd1.setItem x0)
    have c0 := hd1.b4.cell 0
    have f0 := hd1.b4.frozen 0
    simp only [List.getElem?_cons_zero] at c0
    clear hd1 HS0
    obtain ⟨⟨n, a1, z1⟩, hq1⟩ : ∃ q, intR S a0 = q := ⟨_, rfl⟩
    have HQ1 : Hid (intR s.data.toList a0 = (n, a1, z1)) := by show _ = _; rw [HSS.out]; exact hq1
    have HP0 := Lib.hid hq0
    have HP1 := Lib.hid hq1
    clear hq0 hq1
    go_wp2_with fail
    by_cases e1 : z1 = 0
    · subst e1
      refine (nextInt_st s hs HS1.out HQ1.out).mono ?_
      rintro e w2 ⟨rfl, hd2, -⟩
      have HS2 := Lib.hid hd2
      clear hd2 c0 f0 HS1
      have hn := intR_ok (l := S) (a := a0) (by rw [HP1.out])
      rw [HP1.out] at hn
      dsimp only at hn
      obtain ⟨-, -, -, hn1, hn2⟩ := hn
      by_cases hlo : n < 1
      · go_wp2_with fail
        refine (refuse_any 120 _).mono ?_
        rintro e w' ⟨rfl, rfl⟩
        go_wp2_with fail
        exact leave_bad HS2.out 120 (by rw [← HD.out]; exact decR_3 (by rw [HP0.out]) (by rw [HP0.out, HP1.out]) (.inl (by rw [HP0.out, HP1.out]; exact hlo))) _ rfl rfl
      · by_cases hhi : 2000 < n
        · go_wp2_with fail
          refine (refuse_any 120 _).mono ?_
          rintro e w' ⟨rfl, rfl⟩
          go_wp2_with fail
          exact leave_bad HS2.out 120 (by rw [← HD.out]; exact decR_3 (by rw [HP0.out]) (by rw [HP0.out, HP1.out]) (.inr (by rw [HP0.out, HP1.out]; exact hhi))) _ rfl rfl
        · have HT : Hid (D = decT S x0 n.toNat a1 []) := by
            show _ = _
            rw [← HD.out]
            exact decR_go (z := 0) (y := 0) HP0.out HP1.out (by omega) (by omega)
          obtain ⟨m, rfl⟩ : ∃ m : Nat, n = m := ⟨n.toNat, by omega⟩
          rw [Int.toNat_natCast] at HT
          clear HQ0 HQ1 HP0 HP1 HD
          go_wp2_with fail
          go_loopw [23] (fun x wr => ∃ (j : Nat) (a : Int) (v : Value) (l : List Pic), j ≤ m ∧ x = .int .i64 j ∧ Hid (D = decT S x0 (m - j) a l) ∧ Hid (DSt W r a x0 v l wr) ∧ Hid (l.length = j) ∧ Hid (∀ p ∈ l, POk p)) (fun x _ => m - (intOf x).toNat)
          case atStart => exact ⟨0, a1, _, [], Nat.zero_le _, rfl, HT, HS2, rfl, fun p hp => absurd hp (by simp)⟩
          case round =>
            clear HS2 HT
            obtain ⟨j, a, v, l, hj, rfl, HT, HS, HL, HOK⟩ := hrel
            by_cases hjm : j = m
            · have q1 : ¬ (j : Int) < m := by omega
              have HT0 : Hid (D = decT S x0 0 a l) := by
                have := HT.out
                rw [show m - j = 0 by omega] at this
                exact this
              clear hjm HT
              have c3 := HS.out.b3.cell 0
              simp only [List.getElem?_cons_zero] at c3
              obtain ⟨oa, cap, hv⟩ := own_slice HS.out.own
              subst hv
              by_cases e2 : a = s.size
              · subst e2
                have q2 : ((s.size : Int) != s.size) = false := by simp
                have c4 := HS.out.b4.cell 0
                have c5 := HS.out.b4.cell 1
                simp only [List.getElem?_cons_zero, List.getElem?_cons_succ] at c4 c5
                have HV := Lib.hid (valid_any x0 oa cap l wr (by rw [HL.out]; unfold maxLen; omega) HOK.out (own_rdp HS.out.own).2)
                go_wp2_with fail
                refine HV.out.mono ?_
                rintro e w3 ⟨rfl, hb3⟩
                have HS3 := Lib.hid (HS.out.below hb3)
                clear hb3 c3 c4 c5 HV q2
                cases hval : validA x0 l
                · have HE : Hid (D = .inl 120) := by
                    show _ = _
                    rw [HT0.out]
                    unfold decT
                    simp only [picsR]
                    rw [if_neg (by rw [HSL.out]; simp), if_pos hval]
                  clear hval
                  go_wp2_with fail
                  refine (refuse_any 120 _).mono ?_
                  rintro e w' ⟨rfl, rfl⟩
                  go_wp2_with fail
                  exact leave_bad HS3.out 120 HE.out _ rfl rfl
                · have HE : Hid (D = .inr (x0, l)) := by
                    show _ = _
                    rw [HT0.out]
                    unfold decT
                    simp only [picsR]
                    rw [if_neg (by rw [HSL.out]; simp), if_neg (by rw [hval]; simp)]
                  clear hval
                  have d4 := HS3.out.b4.cell 0
                  have d5 := HS3.out.b4.cell 1
                  have d0 := HS3.out.b1.cell 0
                  have d1 := (HS3.out.b1.set 0 (.int .i64 x0)).cell 1
                  have g0 := HS3.out.b1.frozen 0
                  have g1 := (HS3.out.b1.set 0 (.int .i64 x0)).frozen 1
                  have k1 := (HS3.out.b1.set 0 (.int .i64 x0)).set 1 (.slice oa l.length cap)
                  have k2 := (HS3.out.b2.other ⟨r, 0, none⟩ (by show r ≠ r + 1; omega) (.int .i64 x0)).other ⟨r, 1, none⟩ (by show r ≠ r + 1; omega) (.slice oa l.length cap)
                  have d2 := k2.cell 0
                  have g2 := k2.frozen 0
                  have K1 := Lib.hid (k1.other ⟨r + 1, 0, none⟩ (by show r + 1 ≠ r; omega) (.int .i64 0))
                  have K2 := Lib.hid (k2.set 0 (.int .i64 0))
                  have HRD : Hid (RdP (((w3.setCell ⟨r, 0, none⟩ (.int .i64 x0)).setCell ⟨r, 1, none⟩ (.slice oa l.length cap)).setCell ⟨r + 1, 0, none⟩ (.int .i64 0)) oa l) := by
                    refine (own_rdp (B := r + 4) (n := l.length) (cap := cap) (ownsRow_kept HS3.out.own (fun g hg => ?_))).2
                    have := own_ge HS3.out.own g hg
                    rw [Below.heap_setCell _ _ _ _ (by show g ≠ r + 1; omega), Below.heap_setCell _ _ _ _ (by show g ≠ r; omega), Below.heap_setCell _ _ _ _ (by show g ≠ r; omega)]
                  have HBB : Hid (Below r W (((w3.setCell ⟨r, 0, none⟩ (.int .i64 x0)).setCell ⟨r, 1, none⟩ (.slice oa l.length cap)).setCell ⟨r + 1, 0, none⟩ (.int .i64 0))) := ((HS3.out.bel.setCell (p := ⟨r, 0, none⟩) (Nat.le_refl _) _).setCell (p := ⟨r, 1, none⟩) (Nat.le_refl _) _).setCell (p := ⟨r + 1, 0, none⟩) (Nat.le_succ _) _
                  simp only [List.getElem?_cons_zero, List.getElem?_cons_succ, List.set_cons_zero, List.set_cons_succ] at d4 d5 d0 d1 d2 K1 K2
                  clear k1 k2
                  go_wp2_with fail
                  exact leave_ok HR.out K1.out K2.out oa cap rfl HRD.out HBB.out HE.out _ rfl rfl
              · have q2 : (a != (s.size : Int)) = true := by rw [bne_iff_ne]; exact e2
                have HE : Hid (D = .inl 10) := by
                  show _ = _
                  rw [HT0.out]
                  unfold decT
                  simp only [picsR]
                  rw [if_pos (by rw [HSL.out]; exact e2)]
                clear e2
                go_wp2_with fail
                refine (refuse_any 10 _).mono ?_
                rintro e w' ⟨rfl, rfl⟩
                go_wp2_with fail
                exact leave_bad HS.out 10 HE.out _ rfl rfl
            · have q1 : (j : Int) < m := by omega
              obtain ⟨k, hk⟩ : ∃ k, m - j = k + 1 := ⟨m - j - 1, by omega⟩
              rw [hk] at HT
              have HKJ : Hid (m - (j + 1) = k) := by show _ = _; omega
              clear hk hjm
              obtain ⟨kp, hkp⟩ : ∃ kp, wr.heap.size = kp := ⟨_, rfl⟩
              have HKP := Lib.hid hkp
              have hkr : r + 4 ≤ kp := by have := HS.out.b4.lt; omega
              have HVK : Hid (v.ownBlock ≠ some kp) := fun e => by have := (HS.out.own.lt kp e).2; omega
              have HA1 := Lib.hid (HS.out.alloc (.cells #[.bool false, .string ⟨#[]⟩, .int .i64 0] 42))
              have HB1 := Lib.hid (Blk.new wr 42 [.bool false, .string ⟨#[]⟩, .int .i64 0])
              rw [hkp] at HB1
              clear hkp
              obtain ⟨⟨x, b, z⟩, hq⟩ : ∃ q, intR S a = q := ⟨_, rfl⟩
              have HQ : Hid (intR s.data.toList a = (x, b, z)) := by show _ = _; rw [HSS.out]; exact hq
              have HP := Lib.hid hq
              clear hq
              go_wp2_with fail
              rw [HKP.out]
              by_cases ez : z = 0
              · subst ez
                refine (nextInt_st s hs HA1.out HQ.out).mono ?_
                rintro e w4 ⟨rfl, hd4, hf4⟩
                have HA4 := Lib.hid hd4
                have HB4 := Lib.hid (HB1.out.kept (hf4.block kp HB1.out.lt (by omega)))
                clear hd4 hf4 HA1 HB1
                by_cases hx : x = 0 ∨ x = 1
                · obtain ⟨⟨y, b2, z2⟩, hq2⟩ : ∃ q, intR S b = q := ⟨_, rfl⟩
                  have HQ2 : Hid (intR s.data.toList b = (y, b2, z2)) := by show _ = _; rw [HSS.out]; exact hq2
                  have HP2 := Lib.hid hq2
                  obtain ⟨⟨u, b3, z3⟩, hq3⟩ : ∃ q, strR S b2 = q := ⟨_, rfl⟩
                  have HQ3 : Hid (strR s.data.toList b2 = (u, b3, z3)) := by show _ = _; rw [HSS.out]; exact hq3
                  have HP3 := Lib.hid hq3
                  have HX := Lib.hid hx
                  clear hq2 hq3
                  have d0 := HB4.out.cell 0
                  have g0 := HB4.out.frozen 0
                  simp only [List.getElem?_cons_zero] at d0
                  obtain ⟨kx, hkx⟩ : ∃ kx, decide (x = 1) = kx := ⟨_, rfl⟩
                  have HKX := Lib.hid hkx
                  have HA5 := Lib.hid (HA4.out.setPic kp 0 hkr HVK.out (.bool kx))
                  have HB5 := Lib.hid (HB4.out.set 0 (.bool kx))
                  simp only [List.set_cons_zero] at HB5
                  have hk01 : (x = 0 ∧ kx = false) ∨ (x = 1 ∧ kx = true) := by
                    rcases hx with h | h
                    · left; refine ⟨h, ?_⟩; rw [← hkx, h]; rfl
                    · right; refine ⟨h, ?_⟩; rw [← hkx, h]; rfl
                  clear hkx hx HA4 HB4
                  by_cases ez2 : z2 = 0
                  · subst ez2
                    by_cases ez3 : z3 = 0
                    · subst ez3
                      have HPO : Hid (POk ⟨kx, ⟨u.toArray⟩, y⟩) := POk_read kx (by rw [HSL.out]; exact hs) HP2.out HP3.out
                      have HTN : Hid (D = decT S x0 k b3 (l ++ [⟨kx, ⟨u.toArray⟩, y⟩])) := by
                        show _ = _
                        rw [HT.out, ← HKX.out]
                        exact decT_ok (picR_ok HP.out HX.out HP2.out HP3.out)
                      rcases hk01 with ⟨rfl, rfl⟩ | ⟨rfl, rfl⟩
                      all_goals
                        go_wp2_with fail
                        refine (nextInt_st s hs HA5.out HQ2.out).mono ?_
                        rintro e w6 ⟨rfl, hd6, hf6⟩
                        have hb6 := HB5.out.kept (hf6.block kp HB5.out.lt (by omega))
                        have HA6 := Lib.hid (hd6.setPic kp 2 hkr HVK.out (.int .i64 y))
                        have HB6 := Lib.hid (hb6.set 2 (.int .i64 y))
                        simp only [List.set_cons_zero, List.set_cons_succ] at HB6
                        have d2 := hb6.cell 2
                        have g2 := hb6.frozen 2
                        simp only [List.getElem?_cons_zero, List.getElem?_cons_succ] at d2
                        clear hd6 hf6 hb6 d0 g0 HA5 HB5
                        go_wp2_with fail
                        refine (nextStr_st s hs HA6.out HQ3.out).mono ?_
                        rintro e w7 ⟨rfl, hd7, hf7⟩
                        have hb7 := HB6.out.kept (hf7.block kp HB6.out.lt (by omega))
                        have HA7 := Lib.hid (hd7.setPic kp 1 hkr HVK.out (.string ⟨u.toArray⟩))
                        have hb8 := hb7.set 1 (.string ⟨u.toArray⟩)
                        simp only [List.set_cons_zero, List.set_cons_succ] at hb8
                        have d1 := hb7.cell 1
                        have g1 := hb7.frozen 1
                        have d3 := hb8.cell 0
                        have d4 := hb8.cell 1
                        have d5 := hb8.cell 2
                        have d6 := HA7.out.b4.cell 1
                        simp only [List.getElem?_cons_zero, List.getElem?_cons_succ] at d1 d3 d4 d5 d6
                        clear d2 g2 hd7 hf7 hb7 hb8 HA6 HB6
                        obtain ⟨oN, cN, w8, hrun, ho, hf⟩ := app_picP HPO.out _ (r + 4) v l HA7.out.own (by rw [HL.out]; omega) (by have := HA7.out.b4.lt; omega) 22
                        have HN := Lib.hid (HA7.out.app ho hf)
                        have hb4 := HA7.out.b4.kept (hf.block (r + 3) HA7.out.b4.lt (fun e => by have := own_ge HA7.out.own _ e; omega))
                        have d7 := hb4.cell 1
                        have g7 := hb4.frozen 1
                        simp only [List.getElem?_cons_zero, List.getElem?_cons_succ] at d7
                        simp only [World.size_setCell] at hrun
                        have HL2 := Lib.hid (len_snoc HPO.out HL.out)
                        have HO2 := Lib.hid (ok_snoc HPO.out HOK.out)
                        clear ho hf hb4
                        go_wp2_with (at_builtin; refine wpList_append_run _ rfl _ _ 22 rfl _ _ _ _ rfl rfl hrun ?_)
                        go_roundw
                        case rel => exact ⟨j + 1, b3, _, _, by omega, by go_num, (by show _ = _; rw [HKJ.out]; exact HTN.out), HN, HL2, HO2⟩
                        case measure => simp [intOf]; omega
                    · have HE : Hid (D = .inl 10) := by
                        show _ = _
                        rw [HT.out]
                        exact decT_bad (picR_4 (by rw [HP.out]) (by rw [HP.out]; have := HX.out; show ¬ (x ≠ 0 ∧ x ≠ 1); omega) (by rw [HP.out, HP2.out]) (by rw [HP.out, HP2.out, HP3.out]; exact ez3))
                      rcases hk01 with ⟨rfl, rfl⟩ | ⟨rfl, rfl⟩
                      all_goals
                        go_wp2_with fail
                        refine (nextInt_st s hs HA5.out HQ2.out).mono ?_
                        rintro e w6 ⟨rfl, hd6, hf6⟩
                        have hb6 := HB5.out.kept (hf6.block kp HB5.out.lt (by omega))
                        have HA6 := Lib.hid (hd6.setPic kp 2 hkr HVK.out (.int .i64 y))
                        have d2 := hb6.cell 2
                        have g2 := hb6.frozen 2
                        simp only [List.getElem?_cons_zero, List.getElem?_cons_succ] at d2
                        clear hd6 hf6 hb6 d0 g0 HA5 HB5
                        go_wp2_with fail
                        refine (nextStr_no s hs HA6.out HQ3.out ez3).mono ?_
                        rintro e w' ⟨rfl, rfl⟩
                        go_wp2_with fail
                        exact leave_bad HA6.out 10 HE.out _ rfl rfl
                  · have HE : Hid (D = .inl 10) := by
                      show _ = _
                      rw [HT.out]
                      exact decT_bad (picR_3 (by rw [HP.out]) (by rw [HP.out]; have := HX.out; show ¬ (x ≠ 0 ∧ x ≠ 1); omega) (by rw [HP.out, HP2.out]; exact ez2))
                    rcases hk01 with ⟨rfl, rfl⟩ | ⟨rfl, rfl⟩
                    all_goals
                      go_wp2_with fail
                      refine (nextInt_no s hs HA5.out HQ2.out ez2).mono ?_
                      rintro e w' ⟨rfl, rfl⟩
                      go_wp2_with fail
                      exact leave_bad HA5.out 10 HE.out _ rfl rfl
                · have HE : Hid (D = .inl 120) := by
                    show _ = _
                    rw [HT.out]
                    exact decT_bad (picR_2 (by rw [HP.out]) (by rw [HP.out]; show x ≠ 0 ∧ x ≠ 1; omega))
                  have hx0 : (x != 0) = true := by rw [bne_iff_ne]; omega
                  have hx1 : (x != 1) = true := by rw [bne_iff_ne]; omega
                  clear hx
                  go_wp2_with fail
                  refine (refuse_any 120 _).mono ?_
                  rintro e w' ⟨rfl, rfl⟩
                  go_wp2_with fail
                  exact leave_bad HA4.out 120 HE.out _ rfl rfl
              · refine (nextInt_no s hs HA1.out HQ.out ez).mono ?_
                rintro e w' ⟨rfl, rfl⟩
                go_wp2_with fail
                exact leave_bad HA1.out 10 (by rw [HT.out]; exact decT_bad (picR_1 (by rw [HP.out]; exact ez))) _ rfl rfl
    · refine (nextInt_no s hs HS1.out HQ1.out e1).mono ?_
      rintro e w' ⟨rfl, rfl⟩
      go_wp2_with fail
      exact leave_bad HS1.out 10 (by rw [← HD.out]; exact decR_2 (by rw [HP0.out]) (by rw [HP0.out, HP1.out]; exact e1)) _ rfl rfl
  · refine (nextInt_no s hs HS0.out HQ0.out e0).mono ?_
    rintro e w' ⟨rfl, rfl⟩
    go_wp2_with fail
    exact leave_bad HS0.out 10 (by rw [← HD.out]; exact decR_1 (by rw [hq0]; exact e0)) _ rfl rfl
end Go.Proofs.Ytfplajafekpccaa
