/-
  log of package asrun's laws: a log with records on a large disk.
-/
import Derived.Test.YtfpcdlpfmlaakaaDoorAsRc
import Derived.Test.YtfpcdlpfmlaakaaDoorAsSane
set_option linter.unusedVariables false
set_option linter.unusedSimpArgs false
namespace Go.Proofs.YtfpcdlpfmlaakaaDoor
open Go.RowKit Onair
attribute [local go_sem ↓] Go.wp_at_zero Go.wp_at_succ
theorem log_app (all : List Rec) (hv : ∀ r ∈ all, validR r = true) (hl : all.length ≤ 14) : ∃ D', appC ⟨newD 4000, [], false⟩ all = (0, ⟨D', all, false⟩) ∧ Cln D' all := by
  have hz : (newD 4000).vis.length = 4000 := zeroL_len 4000
  rcases (Cln.new 4000).app all with ⟨h, _⟩ | ⟨_, h, _⟩ | ⟨_, _, D1, h1, h2, h3⟩
  · rw [(allV_iff all).2 hv] at h; cases h
  · have := (outL'_bd [] all).1
    rw [hz] at h
    have e : endN [] = 0 := rfl
    omega
  · exact ⟨D1, h1, h2⟩
def LogP (w : World) (all : List Rec) (e : Ending) (w' : World) : Prop := ∃ b bl F G D on cn, e = .returned (.tuple #[.pointer (some ⟨bl, 0, none⟩), .slice on all.length cn]) ∧ LX w' w.heap.size b bl F G ⟨D, all, false⟩ ∧ Cln D all ∧ w'.ownsRow w.heap.size 34 6 (.slice on all.length cn) all.length (rcells all) ∧ Below w.heap.size w w'
theorem valid_I {l : List Rec} (h : ∀ r ∈ l, validR r = true) : ∀ r ∈ l, RecI r := fun r hr => validR_I (h r hr)
set_option maxHeartbeats 4000000 in
set_option maxRecDepth 100000 in
theorem log_any (oa : Option Addr) (c : Nat) (l : List Qd) (w : World) (hlm : l.length ≤ maxLen) (hI : ∀ q ∈ l, QdI q) (hr : RdQ w oa l) (ht : TabAt w) (hg : 0 < w.heap.size) :
    Calls Tryd.prog 19 #[.slice oa l.length c] w (LogP w (manyL l)) := by
  unfold maxLen at hlm
  obtain ⟨N, hN⟩ : ∃ N, w.heap.size = N := ⟨_, rfl⟩
  have HTB : Hid (∀ W, Below N w W → TabAt W) := fun W hW => ht.below (by rw [hN]; exact hW)
  have HG : Hid (0 < N) := hN ▸ hg
  have HR := Lib.hid hr
  have HI := Lib.hid hI
  have HNN := Lib.hid hN
  obtain ⟨n, hn⟩ : ∃ n, l.length = n := ⟨_, rfl⟩
  rw [hn] at hlm ⊢
  have HN := Lib.hid hn
  clear hr hI hn ht hg hN
  go_enter Tryd.func19, Tryd.ntmps19
  go_wp2_with fail
  refine (new_x 4000 w N (by rw [HNN.out]; exact Nat.le_refl _) (by decide) (by decide)).mono ?_
  rintro e w1 ⟨b, F, rfl, hd, hb, hF⟩
  rw [HNN.out] at hb hF
  have HD := Lib.hid hd
  have HB1 := Lib.hid hb
  clear hd hb hF
  go_wp2_with fail
  refine (open_x w1 N b F (newD 4000) (HTB.out _ HB1.out) (Nat.zero_le _) (Nat.zero_le _) HD.out (Cln.new 4000).openE).mono ?_
  rw [(Cln.new 4000).openD, (Cln.new 4000).openR]
  rintro e w2 ⟨bl, F1, G1, rfl, hlx, hfr, hG, hF1⟩
  have HB2 : Hid (Below N w w2) := HB1.out.trans (HD.out.below' hfr)
  have HX := Lib.hid hlx
  clear hlx hfr hG hF1 HD HB1
  have HNM : Hid (N ≤ w2.heap.size) := HX.out.le
  go_wp2_with fail
  go_loopw [8, 9] (fun v i wr => ∃ (k : Nat) (ob : Option Addr) (cb : Nat), k ≤ n ∧ k ≤ 14 ∧ i = .int .i64 k ∧ v = .slice ob k cb ∧ Hid (wr.ownsRow w2.heap.size 34 6 (.slice ob k cb) ((l.take k).map mkR).length (rcells ((l.take k).map mkR))) ∧ Hid (Below w2.heap.size w2 wr)) (fun _ i _ => n - (intOf i).toNat)
  case atStart => exact ⟨0, none, 0, Nat.zero_le _, Nat.zero_le _, rfl, rfl, World.ownsRow_nil _ _ _ _, Below.refl _ _⟩
  case round =>
    obtain ⟨k, ob, cb, hkl, hk, rfl, rfl, HO, HB⟩ := hrel
    by_cases h : k < n ∧ k < 14
    · obtain ⟨h1, h2⟩ := h
      have q1 : (k : Int) < (n : Int) := by omega
      have q2 : (k : Int) < 14 := by omega
      obtain ⟨q, hq⟩ : ∃ q, l[k]? = some q := ⟨l[k]'(by rw [HN.out]; exact h1), List.getElem?_eq_getElem _⟩
      obtain ⟨b', off, rfl, hb, hc⟩ := (HR.out).resolve_left (by intro e; rw [e] at hq; simp at hq)
      obtain ⟨c0, c1, c2, c3⟩ := hc k q hq
      have u := fun j => (HB2.out.trans (HB.out.mono HNM.out)).cell (p := ⟨b', j, none⟩) (by rw [← HNN.out]; exact hb)
      rw [← u] at c0 c1 c2 c3
      rw [← Nat.add_assoc] at c1 c2 c3
      have hm := make_any q wr (HI.out q (List.mem_of_getElem? hq))
      obtain ⟨⟨a0, a1, a2, a3, a4, a5⟩, hR⟩ : ∃ r, mkR q = r := ⟨_, rfl⟩
      rw [hR] at hm
      dsimp only [recA, Qd.arr] at hm
      have htk : (l.take (k + 1)).map mkR = (l.take k).map mkR ++ [⟨a0, a1, a2, a3, a4, a5⟩] := by
        rw [take_snoc l k q hq, List.map_append, ← hR]
        rfl
      have hlk : ((l.take k).map mkR).length = k := by rw [List.length_map, List.length_take, HN.out]; omega
      obtain ⟨L, hL⟩ : ∃ L, (l.take k).map mkR = L := ⟨_, rfl⟩
      rw [hL] at htk HO hlk
      rw [hlk] at HO
      have HTK := Lib.hid htk
      have HLK := Lib.hid hlk
      have HM := Lib.hid hm
      have hWr := HB.out.size
      obtain ⟨i0, hi, hz0, hz1, hz2⟩ := info_parts Tryd.infoRec
      clear u hc hq hR hm htk hlk hL
      go_wp2_with fail
      refine HM.out.mono ?_
      rintro e W9 ⟨rfl, hbm⟩
      have own9 : W9.ownsRow w2.heap.size 34 6 (.slice ob k cb) k (rcells L) := ownsRow_keptF HO.out (fun k e => hbm.block k (own_lt HO.out k e))
      have HB9 : Hid (Below w2.heap.size w2 W9) := HB.out.trans (hbm.mono hWr)
      have hW9 := HB9.out.size
      clear HM HO hbm HB c0 c1 c2 c3
      go_wp2_with (at_builtin; refine wpList_append_own _ rfl _ _ 24 rfl w2.heap.size 34 i0 (.agg #[.int .i64 0, .int .i64 0, .int .i64 0, .int .i64 0, .int .i64 0, .int .i64 0]) 6 48 Tryd.underlying24 hi hz0 hz1 hz2 rfl (by decide) _ _ _ rfl (own9.alloc _) ⟨W9.heap.size, 0, none⟩ 1 1 [.int .i64 a0, .int .i64 a1, .int .i64 a2, .int .i64 a3, .int .i64 a4, .int .i64 a5] rfl ?qa1 ?qa2 ?qa3 ?qa4 ?qa5 ?qa6 ?_)
      all_goals first | (unfold maxLen; omega) | omega | (refine ⟨rfl, rfl, rfl, rfl, ?_⟩; rfl) | (refine ⟨rfl, rfl, rfl, rfl, rfl, ?_⟩; rfl) | rfl | (intro j u hj; rw [add_at, (Blk.new W9 34 [.int .i64 a0, .int .i64 a1, .int .i64 a2, .int .i64 a3, .int .i64 a4, .int .i64 a5]).cell]; exact hj) | (rw [World.size_alloc]; omega) | (intro u hu; simp only [List.mem_cons, List.not_mem_nil, or_false] at hu; rcases hu with rfl | rfl | rfl | rfl | rfl | rfl <;> rfl) | skip
      rintro v' w3 hown3 hgrow3 hnil3
      have HB3 : Hid (Below w2.heap.size w2 w3) := (HB9.out.alloc hW9 _).grown hgrow3 (by simp; omega) (fun k e => by have := own_ge own9 k e; omega)
      obtain ⟨oa3, cap3, rfl⟩ := own_slice hown3
      have HO3 := Lib.hid hown3
      clear hown3 hgrow3 hnil3 own9
      go_wp2_with fail
      go_roundw
      case rel => exact ⟨k + 1, oa3, cap3, by omega, by omega, by go_num, rfl, by rw [HTK.out, List.length_append, HLK.out, ← rcells_snoc]; exact HO3.out, HB3⟩
      case measure => simp [intOf]; omega
    · rcases (show (¬ (k : Int) < (n : Int)) ∨ ((k : Int) < (n : Int) ∧ ¬ (k : Int) < 14) from by omega) with h1 | ⟨h1, h2⟩
      all_goals
        have e : (l.take k).map mkR = manyL l := by
          unfold manyL
          congr 1
          first
            | rw [List.take_of_length_le (by rw [HN.out]; omega), List.take_of_length_le (by rw [HN.out]; omega)]
            | rw [show k = 14 by omega]
        have hl : (manyL l).length = k := by rw [← e, List.length_map, List.length_take, HN.out]; omega
        rw [e] at HO
        have hv := manyL_valid l
        obtain ⟨L, hL⟩ : ∃ L, manyL l = L := ⟨_, rfl⟩
        rw [hL] at HO hl hv
        have HLL := Lib.hid hL
        obtain ⟨D1, hA1, hC1⟩ := log_app L hv (by omega)
        have HXr : Hid (LX wr N b bl F1 G1 ⟨newD 4000, [], false⟩) := HX.out.below HB.out
        have HBr : Hid (Below N w wr) := HB2.out.trans (HB.out.mono HNM.out)
        obtain ⟨hkk, hkc, hcm, hrd⟩ := own_rdr HO.out
        have hap := append_x L ob k cb wr N b bl F1 G1 (newD 4000) [] false hl (by omega) hkc hcm (valid_I hv) (by decide) hrd (HTB.out _ HBr.out) HG.out (fun _ => rfl) (Nat.zero_le _) (Nat.zero_le _) HXr.out
        rw [hA1] at hap
        have HAP := Lib.hid hap
        have HL := Lib.hid hl
        have HC1 := Lib.hid hC1
        clear h e hl hap hA1 hC1 hkk hkc hcm hrd hv hL
        go_wp2_with fail
        refine HAP.out.mono ?_
        rintro e w5 ⟨rfl, F2, G2, hlx, hfr, _, _⟩
        have HX5 := Lib.hid hlx
        have HB5 : Hid (Below N w w5) := HBr.out.trans (HXr.out.below' hfr)
        have HO5 : Hid (w5.ownsRow w2.heap.size 34 6 (.slice ob k cb) L.length (rcells L)) := ownsRow_keptF HO.out (fun j e => hfr.block j (own_lt HO.out j e) (fun h => by
          have h1 := own_ge HO.out j e
          rcases h with h | h
          · have := HX.out.ltF j h; omega
          · have := HX.out.ltG j h; omega))
        clear hlx hfr HO HAP HXr HBr
        go_wp2_with fail
        refine bodyPost_ret (v := .tuple #[.pointer (some ⟨bl, 0, none⟩), .slice ob k cb]) (by simp [results, Tryd.results19, go_sem]) rfl ?_
        rw [HLL.out]
        exact ⟨b, bl, F2, G2, D1, ob, cb, by rw [HL.out], by rw [HNN.out]; exact HX5.out, HC1.out, by rw [HNN.out]; have := HO5.out; rw [HL.out] at this ⊢; exact own_base this HNM.out, by rw [HNN.out]; exact HB5.out⟩
end Go.Proofs.YtfpcdlpfmlaakaaDoor
