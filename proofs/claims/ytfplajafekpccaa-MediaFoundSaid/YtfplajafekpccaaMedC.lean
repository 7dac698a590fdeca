/-
  The walk of media.Encode. (The laying of the builder's String: by the kit's tool lay-plain.)
-/
import Derived.WalkKit
import Derived.LoopTactic
import Derived.WalkSpells
import Derived.WalkLawsBesides
import Derived.RegionTactic
import Derived.BigRegion
import Derived.Deep.QuietTactic
import Derived.BigQuiet
import Derived.IntWalk
import Derived.Outline
import Derived.Test.YtfplajafekpccaaMedB
set_option linter.unusedVariables false
set_option linter.unusedSimpArgs false
namespace Go.Proofs.Ytfplajafekpccaa
open Go.RowKit Onair Go.Shelf
def lays169_ren : Go.Shelf.Ren := ⟨fun | 169 => 41 | n => n, fun | 70 => 52 | 9 => 9 | 0 => 0 | 72 => 55 | 37 => 53 | 127 => 82 | 3 => 3 | 5 => 5 | n => n, fun | n => n⟩
theorem lays169 : Go.Proofs.Lays.n169 Try.prog lays169_ren := {
  mixed := by kernel_rfl
  f169 := Try.func41.trans (congrArg some (by kernel_rfl))
  t0 := Try.underlying0
  a0 := Try.isAgg0
  z0 := Try.sizeOf0
  v0 := Try.zeroValue0
  t3 := Try.underlying3
  a3 := Try.isAgg3
  z3 := Try.sizeOf3
  v3 := Try.zeroValue3
  t9 := Try.underlying9
  a9 := Try.isAgg9
  z9 := Try.sizeOf9
  v9 := Try.zeroValue9
  t37 := Try.underlying53
  a37 := Try.isAgg53
  z37 := Try.sizeOf53
  v37 := Try.zeroValue53
  t70 := Try.underlying52
  a70 := Try.isAgg52
  z70 := Try.sizeOf52
  v70 := Try.zeroValue52
  t72 := Try.underlying55
  a72 := Try.isAgg55
  z72 := Try.sizeOf55
  v72 := Try.zeroValue55
  t127 := Try.underlying82
  a127 := Try.isAgg82
  z127 := Try.sizeOf82
  v127 := Try.zeroValue82 }
theorem extra169 : Go.Proofs.Builder.Extra Try.prog lays169_ren := {
  sizeBuilder := by kernel_rfl
  liesBuilder := by kernel_rfl
  t5 := Try.underlying5
  a5 := Try.isAgg5
  z5 := Try.sizeOf5
  v5 := Try.zeroValue5
  infoByte := by kernel_rfl
  cellsByte := by kernel_rfl
  sizeByte := by kernel_rfl
  neB5 := by decide }
theorem string_bld (B b : Nat) (l : List UInt8) (w : World) (h : Bld B b l w) (hBw : B ≤ w.heap.size) :
    Calls Try.prog 41 #[.pointer (some ⟨b, 0, none⟩)] w fun e w' => e = .returned (.string ⟨l.toArray⟩) ∧ Below B w w' := Any.Builder_String_any lays169 extra169 B b l w h hBw
theorem ownsRow_kept {W W' : World} {B : Nat} {e : TypeId} {size : Nat} {v : Value} {n : Nat} {xs : List Value} (h : W.ownsRow B e size v n xs) (hk : ∀ g, v.ownBlock = some g → W'.heap[g]? = W.heap[g]?) : W'.ownsRow B e size v n xs := by
  refine ⟨h.1, ?_⟩
  rcases h.2 with h2 | ⟨g, cap, cur, q1, q2, q3, q4⟩
  · exact .inl h2
  · exact .inr ⟨g, cap, cur, q1, q2, (hk g (by rw [q1]; rfl)).trans q3, q4⟩
theorem BldAt.below {T e : TypeId} {B b : Nat} {p : Value} {bs : List Value} {w w' : World} (h : Lib.BuilderAt T e B b p bs w) (hb : Below w.heap.size w w') : Lib.BuilderAt T e B b p bs w' := by
  have hlt := h.lt
  obtain ⟨hB, v, hbk, hown, hne⟩ := h
  refine ⟨hB, v, (hb.block b hlt).trans hbk, ownsRow_kept hown (fun g hg => hb.block g ?_), hne⟩
  rcases hown.2 with ⟨rfl, _⟩ | ⟨g', cap, cur, rfl, _, h2, _⟩
  · simp [Value.ownBlock] at hg
  · simp [Value.ownBlock] at hg
    subst hg
    exact (Array.getElem?_eq_some_iff.1 h2).1
theorem Bld.below {B b : Nat} {l : List UInt8} {w w' : World} (h : Bld B b l w) (hb : Below w.heap.size w w') : Bld B b l w' := by
  rcases h with h | h
  · exact .inl (BldAt.below h hb)
  · exact .inr (BldAt.below h hb)
set_option maxRecDepth 100000 in
theorem number_any (B b : Nat) (l : List UInt8) (x : Int) (w : World) (h : Bld B b l w) (hlen : l.length ≤ 1000000000) (hBw : B ≤ w.heap.size) :
    Calls Try.prog 36 #[.int .i64 x, .pointer (some ⟨b, 0, none⟩)] w fun e w' => (∃ v, e = .returned v) ∧ Bld B b (l ++ putL x) w' ∧ Below B w w' ∧ Keeps b w w' := by
  have H := Lib.hid h
  clear h
  have hpl := putL_len x
  go_enter Try.func36, Try.ntmps36
  go_wp2_with fail
  refine (putInt_any x w).mono ?_
  rintro e w1 ⟨rfl, hb1⟩
  have H1 := Lib.hid (H.out.below hb1)
  have HB1 := Lib.hid hb1
  have hsz := hb1.size
  clear hb1
  go_wp2_with fail
  refine (writeString_any B b l ⟨(putL x).toArray⟩ w1 H1.out (by show l.length + (putL x).toArray.size ≤ _; rw [List.size_toArray]; omega) (by omega)).mono ?_
  rintro e w2 ⟨⟨v, rfl⟩, h2, hb2, hk2⟩
  have H2 := Lib.hid h2
  have HB2 : Hid (Below B w w2) := (HB1.out.mono hBw).trans hb2
  have HK2 : Hid (Keeps b w w2) := (Keeps.below HB1.out).trans hk2
  clear h2 hb2 hk2
  go_wp2_with fail
  go_end0
  exact ⟨⟨_, rfl⟩, H2.out, HB2.out, HK2.out⟩
/-- What Encode answers. -/
def encR (i : Int) (l : List Pic) : List UInt8 := if validA i l then encA i l else []
def encE (i : Int) (l : List Pic) : Int := if validA i l then 0 else 120
theorem encPs_snoc (l : List Pic) (j : Nat) (c : Pic) (h : l[j]? = some c) : encPs (l.take (j + 1)) = encPs (l.take j) ++ encP c := by
  rw [List.take_add_one, h, encPs_append]
  simp [encPs]
theorem encP_len (p : Pic) (h : p.data.size ≤ 400) : (encP p).length ≤ 450 := by
  unfold encP
  have h1 := putL_len (flagI p.key)
  have h2 := putL_len p.power
  have h3 := putSL_len p.data.data.toList (by rw [blen]; omega)
  rw [blen] at h3
  simp only [List.length_append]
  omega
set_option maxHeartbeats 4000000 in
set_option maxRecDepth 100000 in
theorem encode_any (i : Int) (oa : Option Addr) (cap : Nat) (l : List Pic) (W : World) (hl : l.length ≤ maxLen) (hok : ∀ p ∈ l, POk p) (h : RdP W oa l) :
    Calls Try.prog 24 #[.agg #[.int .i64 i, .slice oa l.length cap]] W fun e w' => e = .returned (.tuple #[.string ⟨(encR i l).toArray⟩, .int .i64 (encE i l)]) ∧ Below W.heap.size W w' := by
  have hmf : ∀ (fn : Fn) (first cap : Array Value) (w : World), (Instr.makeFunc fn first cap).run Try.prog w = .ok (.func fn first cap) w := fun _ _ _ _ => rfl
  have HB0 : Hid (Below W.heap.size W (W.alloc (.cells #[.int .i64 i, .slice oa l.length cap] 24))) := (Below.refl _ W).alloc (Nat.le_refl _) _
  have HK0 : Hid (Blk (W.alloc (.cells #[.int .i64 i, .slice oa l.length cap] 24)) W.heap.size 24 [.int .i64 i, .slice oa l.length cap]) := Blk.new W _ _
  have hl0 := hl
  unfold maxLen at hl
  have H0 := Lib.hid (h.kept HB0.out)
  have HOK := Lib.hid hok
  have HV := Lib.hid (valid_any i oa cap l (W.alloc (.cells #[.int .i64 i, .slice oa l.length cap] 24)) hl0 hok H0.out)
  obtain ⟨n, hn⟩ : ∃ n, l.length = n := ⟨_, rfl⟩
  rw [hn] at HB0 HK0 H0 HV hl ⊢
  have HN := Lib.hid hn
  clear h hok hn hl0
  obtain ⟨kb, hkb⟩ : ∃ kb, W.heap.size = kb := ⟨_, rfl⟩
  have HKB := Lib.hid hkb
  clear hkb
  go_enter Try.func24, Try.ntmps24
  go_wp2_with fail
  refine HV.out.mono ?_
  rintro e w2 ⟨rfl, hb2⟩
  have HK2 := Lib.hid (HK0.out.kept (hb2.block _ HK0.out.lt))
  have HB2 := Lib.hid (bstep HB0.out hb2)
  have H2 := Lib.hid (H0.out.kept hb2)
  rw [HKB.out] at HK2 ⊢
  clear hb2 HK0 HB0 H0 HV
  have c0 := HK2.out.cell 0
  have c1 := HK2.out.cell 1
  simp only [List.getElem?_cons_zero, List.getElem?_cons_succ] at c0 c1
  cases hv : validA i l
  · have e1 : encR i l = [] := by unfold encR; rw [hv]; rfl
    have e2 : encE i l = 120 := by unfold encE; rw [hv]; rfl
    have E1 := Lib.hid e1
    have E2 := Lib.hid e2
    clear e1 e2 hv
    go_wp2_with fail
    go_ret2
    rw [E1.out, E2.out]
    exact ⟨rfl, HB2.out⟩
  · have e1 : encR i l = encA i l := by unfold encR; rw [hv]; rfl
    have e2 : encE i l = 0 := by unfold encE; rw [hv]; rfl
    have E1 := Lib.hid e1
    have E2 := Lib.hid e2
    have hv' := (validA_iff i l).1 hv
    obtain ⟨_, hv1, _, hv2⟩ := hv'
    have HALL := Lib.hid hv2
    rw [HN.out] at hv1
    have hn2 : n ≤ 2000 := hv1.2
    clear e1 e2 hv hv1 hv2
    have HBL3 : Hid (Bld w2.heap.size w2.heap.size [] (w2.alloc (.cells #[.pointer none, .slice none 0 0] 55))) := Lib.fresh_isBuilder _ _ w2
    have HB3 : Hid (Below w2.heap.size w2 (w2.alloc (.cells #[.pointer none, .slice none 0 0] 55))) := (Below.refl _ w2).alloc (Nat.le_refl _) _
    have hkbl := HK2.out.lt
    have k0 : ∀ w, Below w2.heap.size w2 w → w.cell? ⟨kb, 0, none⟩ = some (.int .i64 i) ∧ w.cell? ⟨kb, 1, none⟩ = some (.slice oa n cap) := fun w hw => by
      rw [hw.cell (p := ⟨kb, 0, none⟩) hkbl, hw.cell (p := ⟨kb, 1, none⟩) hkbl]
      exact ⟨c0, c1⟩
    have HK := Lib.hid k0
    obtain ⟨c0', c1'⟩ := k0 _ HB3.out
    clear k0 c0 c1 HK2
    go_wp2_with fail
    obtain ⟨w3, hw3⟩ : ∃ w3, w2.alloc (.cells #[.pointer none, .slice none 0 0] 55) = w3 := ⟨_, rfl⟩
    obtain ⟨b, hb⟩ : ∃ b, w2.heap.size = b := ⟨_, rfl⟩
    rw [hw3] at HBL3 HB3 c0' c1' ⊢
    rw [hb] at HBL3 HB3 hkbl HK ⊢
    have HBZ := Lib.hid hb
    clear hw3 hb c0' c1'
    refine (number_any b b [] i w3 HBL3.out (by simp) (by rw [← HBZ.out]; exact HB3.out.size)).mono ?_
    rintro e w4 ⟨⟨v4, rfl⟩, hl4, hb4, _⟩
    have HBL4 := Lib.hid hl4
    have HB4 := Lib.hid (HB3.out.trans hb4)
    obtain ⟨c0, c1⟩ := HK.out w4 HB4.out
    clear hl4 hb4 HBL3 HB3
    go_wp2_with fail
    have hpl := putL_len i
    refine (number_any b b ([] ++ putL i) n w4 HBL4.out (by rw [List.nil_append]; omega) (by rw [← HBZ.out]; exact HB4.out.size)).mono ?_
    rintro e w5 ⟨⟨v5, rfl⟩, hl5, hb5, _⟩
    have HBL5 : Hid (Bld b b (putL i ++ putL n ++ encPs (l.take 0)) w5) := by
      rw [List.nil_append] at hl5
      show Bld b b (putL i ++ putL n ++ []) w5
      rw [List.append_nil]
      exact hl5
    have HB5 := Lib.hid (HB4.out.trans hb5)
    obtain ⟨c0, c1⟩ := HK.out w5 HB5.out
    clear hl5 hb5 HBL4 HB4
    have hpn := putL_len (n : Int)
    have HLEN : Hid ((putL i ++ putL n ++ encPs (l.take 0)).length ≤ 18 + 0 * 450) := by
      show (putL i ++ putL n ++ []).length ≤ _
      simp only [List.append_nil, List.length_append]
      omega
    go_wp2_with fail
    clear c0 c1
    go_loopw [26] (fun x wr => ∃ j : Nat, j ≤ n ∧ x = .int .i64 j ∧ Hid (Bld b b (putL i ++ putL n ++ encPs (l.take j)) wr) ∧ Hid ((putL i ++ putL n ++ encPs (l.take j)).length ≤ 18 + j * 450) ∧ Hid (Below b w2 wr)) (fun x _ => n - (intOf x).toNat)
    case atStart => exact ⟨0, Nat.zero_le _, rfl, HBL5, HLEN, HB5⟩
    case round =>
      clear HBL5 HB5 HLEN
      obtain ⟨j, hj, rfl, HBL, HLEN, HB⟩ := hrel
      have hsz : b ≤ wr.heap.size := by rw [← HBZ.out]; exact HB.out.size
      by_cases hjn : j = n
      · have q1 : ¬ (j : Int) < n := by omega
        have HE : Hid (Bld b b (encA i l) wr) := by
          have := HBL.out
          rw [hjn, ← HN.out, List.take_length] at this
          exact this
        clear hjn
        go_wp2_with fail
        refine (string_bld b b (encA i l) wr HE.out hsz).mono ?_
        rintro e w6 ⟨rfl, hb6⟩
        have HB6 : Hid (Below W.heap.size W w6) := HB2.out.trans ((HB.out.trans hb6).mono (by rw [← HBZ.out]; exact HB2.out.size))
        clear hb6
        go_wp2_with fail
        go_ret2
        rw [E1.out, E2.out]
        exact ⟨rfl, HB6.out⟩
      · have q1 : (j : Int) < n := by omega
        obtain ⟨c, hc⟩ : ∃ c, l[j]? = some c := ⟨_, List.getElem?_eq_getElem (by rw [HN.out]; omega)⟩
        obtain ⟨g', off', rfl, d0, d1, d2⟩ := (H2.out.kept (by rw [HBZ.out]; exact HB.out)).at j c hc
        have HS := Lib.hid (encPs_snoc l j c hc)
        have hcok := (okPic_iff c).1 (List.all_eq_true.1 HALL.out c (List.mem_of_getElem? hc))
        obtain ⟨hc1, hc2, hc3⟩ := hcok
        have HPL := Lib.hid (encP_len c hc1)
        clear hc hjn
        have HB6 : Hid (Below b w2 (wr.alloc (.cells #[.bool c.key, .string c.data, .int .i64 c.power] 42))) := HB.out.alloc hsz _
        have HK6 : Hid (Blk (wr.alloc (.cells #[.bool c.key, .string c.data, .int .i64 c.power] 42)) wr.heap.size 42 [.bool c.key, .string c.data, .int .i64 c.power]) := Blk.new wr _ _
        have HBL6 : Hid (Bld b b (putL i ++ putL n ++ encPs (l.take j)) (wr.alloc (.cells #[.bool c.key, .string c.data, .int .i64 c.power] 42))) := HBL.out.below ((Below.refl _ wr).alloc (Nat.le_refl _) _)
        obtain ⟨X, hX⟩ : ∃ X, putL i ++ putL n ++ encPs (l.take j) = X := ⟨_, rfl⟩
        rw [hX] at HBL6 HLEN
        have HXE := Lib.hid hX
        clear hX
        obtain ⟨w6, hw6⟩ : ∃ w6, wr.alloc (.cells #[.bool c.key, .string c.data, .int .i64 c.power] 42) = w6 := ⟨_, rfl⟩
        obtain ⟨kp, hkp⟩ : ∃ kp, wr.heap.size = kp := ⟨_, rfl⟩
        have HW6 := Lib.hid hw6
        have HKP := Lib.hid hkp
        rw [hw6, hkp] at HK6
        rw [hw6] at HB6 HBL6
        have hsz6 : b ≤ w6.heap.size := by rw [← HBZ.out]; exact HB6.out.size
        have hkp6 : kp < w6.heap.size := HK6.out.lt
        have hkpb : b ≤ kp := by omega
        clear hw6 hkp
        have c0 := HK6.out.cell 0
        simp only [List.getElem?_cons_zero] at c0
        go_wp2_with fail
        rw [HW6.out, HKP.out]
        refine (flag_any c.key w6).mono ?_
        rintro e w' ⟨rfl, rfl⟩
        go_wp2_with fail
        have hlen6 := HLEN.out
        have hnk : kp ≠ b := by
          intro e
          have := HBL6.out
          rcases this with h | h
          · obtain ⟨_, v, hbk, _⟩ := h
            have h2 := HK6.out
            unfold Blk at h2
            rw [e, hbk] at h2
            simp at h2
          · obtain ⟨_, v, hbk, _⟩ := h
            have h2 := HK6.out
            unfold Blk at h2
            rw [e, hbk] at h2
            simp at h2
        refine (number_any b b X (flagI c.key) w6 HBL6.out (by omega) hsz6).mono ?_
        rintro e w7 ⟨⟨v7, rfl⟩, hl7, hb7, hk7⟩
        have HBL7 := Lib.hid hl7
        have HB7 := Lib.hid (HB6.out.trans hb7)
        have HK7 := Lib.hid (hk7 kp _ _ (by decide) hnk HK6.out)
        have hsz7 : b ≤ w7.heap.size := by rw [← HBZ.out]; exact HB7.out.size
        have c2 := HK7.out.cell 2
        simp only [List.getElem?_cons_zero, List.getElem?_cons_succ] at c2
        clear hl7 hb7 hk7
        go_wp2_with fail
        have hp1 := putL_len (flagI c.key)
        refine (number_any b b (X ++ putL (flagI c.key)) c.power w7 HBL7.out (by rw [List.length_append]; omega) hsz7).mono ?_
        rintro e w8 ⟨⟨v8, rfl⟩, hl8, hb8, hk8⟩
        have HBL8 := Lib.hid hl8
        have HB8 := Lib.hid (HB7.out.trans hb8)
        have HK8 := Lib.hid (hk8 kp _ _ (by decide) hnk HK7.out)
        have hsz8 : b ≤ w8.heap.size := by rw [← HBZ.out]; exact HB8.out.size
        have c1 := HK8.out.cell 1
        simp only [List.getElem?_cons_zero, List.getElem?_cons_succ] at c1
        clear hl8 hb8 hk8 c2
        go_wp2_with fail
        refine (putString_any c.data w8 (by unfold maxLen; omega)).mono ?_
        rintro e w9 ⟨rfl, hb9⟩
        have HBL9 := Lib.hid (HBL8.out.below hb9)
        have HB9 := Lib.hid (HB8.out.trans (hb9.mono hsz8))
        have hsz9 : b ≤ w9.heap.size := by rw [← HBZ.out]; exact HB9.out.size
        clear hb9 c1
        go_wp2_with fail
        have hp2 := putL_len c.power
        have hp3 := putSL_len c.data.data.toList (by rw [blen]; omega)
        rw [blen] at hp3
        refine (writeString_any b b (X ++ putL (flagI c.key) ++ putL c.power) ⟨(putSL c.data.data.toList).toArray⟩ w9 HBL9.out (by show _ + (putSL c.data.data.toList).toArray.size ≤ _; rw [List.size_toArray, List.length_append, List.length_append]; omega) hsz9).mono ?_
        rintro e w10 ⟨⟨v10, rfl⟩, hl10, hb10, _⟩
        have HBL10 : Hid (Bld b b (putL i ++ putL n ++ encPs (l.take (j + 1))) w10) := by
          show Bld _ _ _ _
          rw [HS.out, ← List.append_assoc, HXE.out]
          rw [show X ++ encP c = X ++ putL (flagI c.key) ++ putL c.power ++ putSL c.data.data.toList by unfold encP; simp [List.append_assoc]]
          exact hl10
        have HLEN10 : Hid ((putL i ++ putL n ++ encPs (l.take (j + 1))).length ≤ 18 + (j + 1) * 450) := by
          show _ ≤ _
          rw [HS.out, ← List.append_assoc, HXE.out, List.length_append]
          have := HPL.out
          omega
        have HB10 := Lib.hid (HB9.out.trans hb10)
        clear hl10 hb10
        go_wp2_with fail
        go_roundw
        case rel => exact ⟨j + 1, by omega, by go_num, HBL10, HLEN10, HB10⟩
        case measure => simp [intOf]; omega
end Go.Proofs.Ytfplajafekpccaa
