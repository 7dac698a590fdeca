/-
  The walk of the law MediaColumns.
-/
import Derived.WalkKit
import Derived.LoopTactic
import Derived.WalkSpells
import Derived.WalkLawsBesides
import Derived.RegionTactic
import Derived.BigRegion
import Derived.Deep.QuietTactic
import Derived.Deep.RegionHeld3
import Derived.BigQuiet
import Derived.IntWalk
import Derived.Outline
import Derived.Test.YtfplajafekpccaaMedN
set_option linter.unusedVariables false
set_option linter.unusedSimpArgs false
namespace Go.Proofs.Ytfplajafekpccaa
open Go.RowKit Onair
theorem keysF_hit (l : List Pic) (j : Nat) (c : Pic) (h : l[j]? = some c) (hc : c.key = true) : (keysF 0 l)[(keysF 0 (l.take j)).length]? = some (j : Int) := by
  have h1 := keysF_snoc l j c h
  rw [if_pos hc] at h1
  have h2 := keysF_append (l.take (j + 1)) (l.drop (j + 1)) 0
  rw [List.take_append_drop, h1, List.append_assoc] at h2
  rw [h2, List.getElem?_append_right (Nat.le_refl _), Nat.sub_self]
  rfl
theorem keysF_keyed (l : List Pic) (h : keyed l = true) : (keysF 0 l)[0]? = some 0 := by
  cases l with
  | nil => exact absurd h (by decide)
  | cons p l =>
    have h' : p.key = true := h
    simp [keysF, h']
set_option maxHeartbeats 8000000 in
set_option maxRecDepth 100000 in
theorem walkColumns (W : World) (i : Int) (oa : Option Addr) (cap : Nat) (l : List Pic) (hl : l.length ≤ maxLen) (hok : ∀ p ∈ l, POk p) (hr : RdP W oa l) :
    Calls Try.prog 10 #[.agg #[.int .i64 i, .slice oa l.length cap]] W fun e w' => e = .returned (.bool true) ∧ Below W.heap.size W w' := by
  obtain ⟨r, hr0⟩ : ∃ r, W.heap.size = r := ⟨_, rfl⟩
  have H0 := Lib.hid (AM.new W r i oa cap l hr0 hr)
  have HR0 := Lib.hid hr0
  have HOK := Lib.hid hok
  have HL := Lib.hid hl
  obtain ⟨n, hn⟩ : ∃ n, l.length = n := ⟨_, rfl⟩
  rw [hn] at H0 ⊢
  have HN := Lib.hid hn
  clear hr hr0 hok hl hn
  go_enter Try.func10, Try.ntmps10
  go_wp2_with fail
  rw [HR0.out]
  refine (sane_any _).mono ?_
  rintro e w1 ⟨rfl, hb1⟩
  have H1 := Lib.hid (H0.out.below hb1)
  have c0 := H1.out.blk.cell 0
  have c1 := H1.out.blk.cell 1
  simp only [List.getElem?_cons_zero, List.getElem?_cons_succ, HN.out] at c0 c1
  clear hb1 H0
  go_wp2_with fail
  rw [← HN.out]
  refine (short_any w1 i oa cap l HL.out HOK.out H1.out.rd).mono ?_
  have hll := cutP_len l
  have hko := cutP_ok l HOK.out
  generalize cutP l = L at hll hko ⊢
  have HKO := Lib.hid hko
  rintro e w2 ⟨oL, cL, rfl, ho2, hb2⟩
  have H2 := Lib.hid (H1.out.put HR0.out ho2 hb2)
  have hk2 := (H1.out.below hb2).blk
  have d0 := hk2.cell 0
  have f0 := hk2.frozen 0
  have d1 := (hk2.set 0 (.int .i64 i)).cell 1
  have f1 := (hk2.set 0 (.int .i64 i)).frozen 1
  have e0 := H2.out.blk.cell 0
  have e1 := H2.out.blk.cell 1
  simp only [List.getElem?_cons_zero, List.getElem?_cons_succ, List.set_cons_zero, List.set_cons_succ, HN.out] at d0 d1 e0 e1
  clear hk2 ho2 hb2 hko c0 c1 H1
  go_wp2_with fail
  refine (keys_any _ i oL cL L (by omega) HKO.out H2.out.rd).mono ?_
  rintro e w3 ⟨oK, cK, rfl, hk3, hb3⟩
  have H3 := Lib.hid (H2.out.below hb3)
  have HK3 := Lib.hid hk3
  clear d0 d1 f0 f1 e0 e1 hb3 hk3 H2
  have c0 := H3.out.blk.cell 0
  have c1 := H3.out.blk.cell 1
  simp only [List.getElem?_cons_zero, List.getElem?_cons_succ] at c0 c1
  go_wp2_with fail
  refine (sizes_any w3 i oL cL L (by omega) HKO.out H3.out.rd).mono ?_
  rintro e w4 ⟨oS, cS, rfl, hs4, hb4⟩
  have H4 := Lib.hid (H3.out.below hb4)
  have HK4 := Lib.hid (HK3.out.kept hb4)
  have HS4 := Lib.hid hs4
  clear c0 c1 hb4 hs4 H3 HK3
  have c0 := H4.out.blk.cell 0
  have c1 := H4.out.blk.cell 1
  simp only [List.getElem?_cons_zero, List.getElem?_cons_succ] at c0 c1
  go_wp2_with fail
  refine (powers_any w4 i oL cL L (by omega) HKO.out H4.out.rd).mono ?_
  rintro e w5 ⟨oP, cP, rfl, hp5, hb5⟩
  have H5 := Lib.hid (H4.out.below hb5)
  have HK5 := Lib.hid (HK4.out.kept hb5)
  have HS5 := Lib.hid (HS4.out.kept hb5)
  have HP5 := Lib.hid hp5
  clear c0 c1 hb5 hp5 H4 HK4 HS4
  have c0 := H5.out.blk.cell 0
  have c1 := H5.out.blk.cell 1
  simp only [List.getElem?_cons_zero, List.getElem?_cons_succ] at c0 c1
  go_wp2_with fail
  refine (valid_any i oL cL L w5 (by unfold maxLen; omega) HKO.out H5.out.rd).mono ?_
  rintro e w6 ⟨rfl, hb6⟩
  have H6 := Lib.hid (H5.out.below hb6)
  have HK6 := Lib.hid (HK5.out.kept hb6)
  have HS6 := Lib.hid (HS5.out.kept hb6)
  have HP6 := Lib.hid (HP5.out.kept hb6)
  clear c0 c1 hb6 H5 HK5 HS5 HP5
  obtain ⟨va, hva⟩ : ∃ va, validA i L = va := ⟨_, rfl⟩
  rw [hva]
  have HVA := Lib.hid hva
  clear hva
  have hkl := keysF_len L 0
  obtain ⟨nk, hnk⟩ : ∃ nk, (keysF 0 L).length = nk := ⟨_, rfl⟩
  rw [hnk] at hkl ⊢
  have HNK := Lib.hid hnk
  clear hnk
  go_wp2_with fail
  go_loopw [8, 9] (fun k x wr => ∃ (j m : Nat), j ≤ L.length ∧ x = .int .i64 j ∧ k = .int .i64 m ∧ m ≤ j ∧ Hid ((keysF 0 (L.take j)).length = m) ∧ Hid (Below w6.heap.size w6 wr)) (fun _ x _ => L.length - (intOf x).toNat)
  case atStart => exact ⟨0, 0, Nat.zero_le _, rfl, rfl, Nat.le_refl _, rfl, Below.refl _ _⟩
  case round =>
    obtain ⟨j, m, hj, rfl, rfl, hmj, HM, HB⟩ := hrel
    have H7 := Lib.hid (H6.out.below HB.out)
    have c0 := H7.out.blk.cell 0
    have c1 := H7.out.blk.cell 1
    simp only [List.getElem?_cons_zero, List.getElem?_cons_succ] at c0 c1
    by_cases hjn : j = L.length
    · have q1 : ¬ (j : Int) < L.length := by omega
      have hmk : m = nk := by
        rw [← HM.out, ← HNK.out, hjn, List.take_length]
      subst hmk
      cases va
      · clear hjn
        go_wp2_with fail
        go_ret
        exact ⟨rfl, H7.out.bel⟩
      · obtain ⟨_, _, hky, _⟩ := (validA_iff i L).1 HVA.out
        have hk0 := keysF_keyed L hky
        have hk1 : 0 < m := by rw [← HNK.out]; exact (List.getElem?_eq_some_iff.1 hk0).1
        obtain ⟨gk, fk, e, ck⟩ := (HK6.out.kept HB.out).at 0 (.int .i64 0) (by unfold ints; rw [List.getElem?_map, hk0]; rfl)
        subst e
        rw [Nat.add_zero] at ck
        clear hjn hk0 hky
        have hk2 : (0 : Int) < m := by omega
        go_wp2_with fail
        go_ret
        exact ⟨rfl, H7.out.bel⟩
    · have q1 : (j : Int) < L.length := by omega
      obtain ⟨c, hc⟩ : ∃ c, L[j]? = some c := ⟨_, List.getElem?_eq_getElem (by omega)⟩
      have HC := Lib.hid hc
      obtain ⟨g, off, e', d0, d1, d2⟩ := H7.out.rd.at j c hc
      obtain ⟨gs, fs, es, cs⟩ := (HS6.out.kept HB.out).at j (.int .i64 c.data.size) (by rw [List.getElem?_map, hc]; rfl)
      obtain ⟨gp, fp, ep, cp⟩ := (HP6.out.kept HB.out).at j (.int .i64 c.power) (by rw [List.getElem?_map, hc]; rfl)
      have hpo := HKO.out c (List.mem_of_getElem? hc)
      have hsz := hpo.sz
      unfold maxLen at hsz
      have hpo0 := hpo.p0
      have hpo1 := hpo.p1
      have hlim : va = true → c.data.size ≤ 400 ∧ 0 ≤ c.power ∧ c.power ≤ 1000000 := fun e => by
        rw [e] at HVA
        exact (okPic_iff c).1 (List.all_eq_true.1 (validA_parts HVA.out).2.2.2.2 c (List.mem_of_getElem? hc))
      have HLIM := Lib.hid hlim
      have hgl : g < wr.heap.size := block_lt d0
      have hgs : gs < wr.heap.size := block_lt cs
      have hgp : gp < wr.heap.size := block_lt cp
      have hrl : r < wr.heap.size := H7.out.blk.lt
      subst e' es ep
      have HB2 : Hid (Below w6.heap.size w6 (wr.alloc (.cells #[.bool c.key, .string c.data, .int .i64 c.power] 42))) := HB.out.alloc HB.out.size _
      have hq1 : ((c.data.size : Int) != c.data.size) = false := by simp
      have hq2 : (c.power != c.power) = false := by simp
      clear hlim hpo hc hjn
      cases hck : c.key
      · have HM2 : Hid ((keysF 0 (L.take (j + 1))).length = m) := by
          show _ = _
          rw [keysF_snoc L j c HC.out, if_neg (by rw [hck]; decide)]
          exact HM.out
        rw [hck] at d0 HB2
        clear hck
        cases va
        · go_wp2_with fail
          go_quiet (fail)
          go_wp2_with fail
          go_roundw
          case rel => exact ⟨j + 1, m, by omega, by go_num, rfl, by omega, HM2, drewN_below HB2.out _⟩
          case measure => simp [intOf]; omega
        · obtain ⟨l1, l2, l3⟩ := HLIM.out rfl
          have l1' : ¬ (400 : Int) < c.data.size := by omega
          have l2' : ¬ c.power < 0 := by omega
          have l3' : ¬ (1000000 : Int) < c.power := by omega
          go_wp2_with fail
          go_quiet (fail)
          go_wp2_with fail
          go_roundw
          case rel => exact ⟨j + 1, m, by omega, by go_num, rfl, by omega, HM2, drewN_below HB2.out _⟩
          case measure => simp [intOf]; omega
      · have HM2 : Hid ((keysF 0 (L.take (j + 1))).length = m + 1) := by
          show _ = _
          rw [keysF_snoc L j c HC.out, if_pos hck, List.length_append, HM.out]
          rfl
        have hkj := keysF_hit L j c HC.out hck
        rw [HM.out] at hkj
        have hmk : m < nk := by rw [← HNK.out]; exact (List.getElem?_eq_some_iff.1 hkj).1
        have hmk' : ¬ (nk : Int) ≤ m := by omega
        have hmk2 : (m : Int) < nk := by omega
        obtain ⟨gk, fk, ek, ck⟩ := (HK6.out.kept HB.out).at m (.int .i64 j) (by unfold ints; rw [List.getElem?_map, hkj]; rfl)
        have hgk : gk < wr.heap.size := block_lt ck
        subst ek
        rw [hck] at d0 HB2
        have hq3 : ((j : Int) != j) = false := by simp
        clear hck hkj
        cases va
        · go_wp2_with fail
          go_quiet (fail)
          go_wp2_with fail
          go_roundw
          case rel => exact ⟨j + 1, m + 1, by omega, by go_num, by go_num, by omega, HM2, drewN_below HB2.out _⟩
          case measure => simp [intOf]; omega
        · obtain ⟨l1, l2, l3⟩ := HLIM.out rfl
          have l1' : ¬ (400 : Int) < c.data.size := by omega
          have l2' : ¬ c.power < 0 := by omega
          have l3' : ¬ (1000000 : Int) < c.power := by omega
          go_wp2_with fail
          go_quiet (fail)
          go_wp2_with fail
          go_roundw
          case rel => exact ⟨j + 1, m + 1, by omega, by go_num, by go_num, by omega, HM2, drewN_below HB2.out _⟩
          case measure => simp [intOf]; omega
end Go.Proofs.Ytfplajafekpccaa
