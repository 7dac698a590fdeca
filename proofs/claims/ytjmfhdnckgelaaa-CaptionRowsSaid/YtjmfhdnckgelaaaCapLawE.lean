/-
  The walk of the law CaptionRows.
-/
import Derived.WalkKit
import Derived.LoopTactic
import Derived.WalkSpells
import Derived.WalkLawsBesides
import Derived.RegionTactic
import Derived.BigRegion
import Derived.Deep.QuietTactic
import Derived.BigQuiet
import Derived.IntWalk
import Derived.Outline
import Derived.Test.YtjmfhdnckgelaaaCapSane
set_option linter.unusedVariables false
set_option linter.unusedSimpArgs false
namespace Go.Proofs.Ytjmfhdnckgelaaa
open Go.RowKit
/-- The rows so far, each with a space ahead. -/
def joinedAt (gs : List (List (List UInt8))) (i : Nat) : List UInt8 := ((gs.take i).map fun g => 32 :: joinSp g).flatten
theorem joinedAt_succ (gs : List (List (List UInt8))) (i : Nat) (h : i < gs.length) : joinedAt gs (i + 1) = joinedAt gs i ++ 32 :: joinSp gs[i] := by
  unfold joinedAt
  rw [List.take_succ_eq_append_getElem h, List.map_append, List.flatten_append]
  simp
theorem joined_all (gs : List (List (List UInt8))) (h : gs ≠ []) (hg : ∀ g ∈ gs, g ≠ []) : ((gs.map fun g => 32 :: joinSp g).flatten) = 32 :: joinSp (gs.map joinSp) := by
  induction gs using snocRec with
  | h0 => exact absurd rfl h
  | hs gs g ih =>
    by_cases e : gs = []
    · subst e
      simp [joinSp]
    · rw [List.map_append, List.flatten_append, ih e (fun x hx => hg x (by simp [hx])), List.map_append]
      show _ = 32 :: joinSp (gs.map joinSp ++ [joinSp g])
      rw [joinSp_snoc _ _ (by simpa using e)]
      simp
theorem joinedAt_len (gs : List (List (List UInt8))) (i : Nat) (h : ∀ g ∈ gs, (joinSp g).length ≤ 32) : (joinedAt gs i).length ≤ i * 33 := by
  induction i with
  | zero => simp [joinedAt]
  | succ i ih =>
    by_cases hi : i < gs.length
    · rw [joinedAt_succ gs i hi, List.length_append, List.length_cons]
      have := h _ (List.getElem_mem hi)
      omega
    · unfold joinedAt at *
      rw [List.take_of_length_le (by omega)] at *
      omega
/-- How many words lie ahead of row i. -/
def before (gs : List (List (List UInt8))) (i : Nat) : Nat := (gs.take i).flatten.length
theorem before_succ (gs : List (List (List UInt8))) (i : Nat) (h : i < gs.length) : before gs (i + 1) = before gs i + (gs[i]).length := by
  unfold before
  rw [List.take_succ_eq_append_getElem h, List.flatten_append, List.length_append]
  simp
theorem before_word (gs : List (List (List UInt8))) (i n : Nat) (h : i < gs.length) (hn : n < (gs[i]).length) : gs.flatten[before gs i + n]? = some (gs[i][n]) := by
  have e : gs.flatten = (gs.take i).flatten ++ (gs[i] ++ (gs.drop (i + 1)).flatten) := by
    conv => lhs; rw [← List.take_append_drop i gs]
    rw [List.flatten_append, List.drop_eq_getElem_cons h, List.flatten_cons]
  rw [e]
  unfold before
  rw [List.getElem?_append_right (by omega), Nat.add_sub_cancel_left, List.getElem?_append_left hn, List.getElem?_eq_getElem hn]
/-- The rows and the words in memory. -/
structure Rw (W wr : World) (orr : Option Addr) (R : List (List UInt8)) (oal : Option Addr) (A : List (List UInt8)) : Prop where
  rs : RdS wr orr R
  al : RdS wr oal A
  bel : Below W.heap.size W wr
theorem Rw.below {W wr w' : World} {orr : Option Addr} {R : List (List UInt8)} {oal : Option Addr} {A : List (List UInt8)} (h : Rw W wr orr R oal A) (hb : Below wr.heap.size wr w') : Rw W w' orr R oal A := ⟨h.rs.kept hb, h.al.kept hb, bstep h.bel hb⟩
theorem Rw.drewN {W wr : World} {orr : Option Addr} {R : List (List UInt8)} {oal : Option Addr} {A : List (List UInt8)} (h : Rw W wr orr R oal A) (n : Nat) : Rw W (wr.drewN n) orr R oal A := h.below (drewN_below (Below.refl _ _) n)
theorem word_len (l : List UInt8) : ∀ w ∈ wordsL l, w.length ≤ l.length := by
  intro w hw
  have h1 := join_len l
  have h2 : w.length ≤ (joinSp (wordsL l)).length := by
    clear h1
    generalize wordsL l = ws at hw
    induction ws using snocRec with
    | h0 => simp at hw
    | hs ws v ih =>
      by_cases e : ws = []
      · subst e
        simp at hw
        subst hw
        exact Nat.le_refl _
      · rw [joinSp_snoc _ _ e, List.length_append, List.length_cons]
        rcases List.mem_append.1 hw with h | h
        · have := ih h
          omega
        · simp at h
          subst h
          omega
  omega
theorem head_byte (s : ByteArray) (h : 0 < s.size) (hh : s.data.toList.head? ≠ some 32) : ((s[0].toNat : Int) == 32) = false := by
  rw [byte_eq, decide_eq_false_iff_not]
  intro e
  apply hh
  have h' : 0 < s.data.toList.length := by rw [dlen]; exact h
  rw [List.head?_eq_getElem?, List.getElem?_eq_getElem h']
  congr 1
theorem last_byte (s : ByteArray) (m : Nat) (h : m < s.size) (hm : s.size = m + 1) (hh : s.data.toList.getLast? ≠ some 32) : ((s[m].toNat : Int) == 32) = false := by
  rw [byte_eq, decide_eq_false_iff_not]
  intro e
  apply hh
  have h' : m < s.data.toList.length := by rw [dlen]; exact h
  rw [List.getLast?_eq_getElem?, dlen, hm, Nat.add_sub_cancel, List.getElem?_eq_getElem h']
  congr 1
set_option maxHeartbeats 8000000 in
set_option maxRecDepth 100000 in
theorem walkRows (s0 : ByteArray) (W : World) (hs0 : s0.size ≤ maxLen) :
    Calls Try.prog 5 #[.string s0] W fun e w' => e = .returned (.bool true) ∧ Below W.heap.size W w' := by
  unfold maxLen at hs0
  obtain ⟨m, T, h1, h2, h3, h4, h5⟩ : ∃ (m : Nat) (T : ByteArray), m ≤ s0.size ∧ m ≤ 300 ∧ (if (300 : Int) < (s0.size : Int) then (300 : Int) else (s0.size : Int)) = (m : Int) ∧ s0.extract 0 m = T ∧ T.size ≤ 300 := ⟨min 300 s0.size, _, by omega, by omega, by split <;> omega, rfl, by rw [ByteArray.size_extract]; omega⟩
  go_enter Try.func5, Try.ntmps5
  go_wp2_with fail
  refine (sane_any _).mono ?_
  rintro e w1 ⟨rfl, hb1⟩
  have HB1 := Lib.hid hb1
  clear hb1
  go_wp2_with fail
  clear h1 h2 h3 h4
  refine (rows_any T _ (small_len T (by omega))).mono ?_
  cases hf : fitsB T.data.toList
  · rw [show rowsR T.data.toList = [] from by unfold rowsR; rw [if_neg (by rw [hf]; decide)]]
    clear hf
    rintro e w2 ⟨v, rfl, ho2, hb2⟩
    have HB2 := Lib.hid (bstep HB1.out hb2)
    obtain ⟨o2, c2, rfl⟩ := own_slice ho2
    clear ho2 hb2
    go_wp2_with fail
    go_ret
    exact ⟨rfl, HB2.out⟩
  · have hfp := hf
    unfold fitsB at hfp
    simp only [Bool.and_eq_true, decide_eq_true_eq] at hfp
    obtain ⟨⟨⟨f1, f2⟩, f3⟩, f4, f5⟩ := hfp
    have hnar : ∀ w ∈ wordsL T.data.toList, w.length ≤ 32 := by
      intro w hw
      unfold narrowB at f3
      rw [List.all_eq_true] at f3
      exact of_decide_eq_true (f3 w hw)
    obtain ⟨gs, hgs⟩ := laid_of _ hnar
    have hww := wordsL_words T.data.toList
    obtain ⟨hfj, hrj⟩ := fits_join T.data.toList hf
    have hrr : rowsR T.data.toList = gs.map joinSp := by unfold rowsR; rw [if_pos hf, hgs.rows]
    have hjl := join_len T.data.toList
    rw [dlen] at hjl
    have hwn : (wordsL T.data.toList).length ≤ 300 := by
      have h1 := wscan_count T.data.toList
      rw [dlen] at h1
      unfold wordsL wfin
      split
      · omega
      · rename_i h2
        rw [if_neg h2] at h1
        rw [List.length_append]
        simp
        omega
    rw [hgs.rows, List.length_map] at f4 f5
    rw [hrr]
    obtain ⟨A, hA⟩ : ∃ A, wordsL T.data.toList = A := ⟨_, rfl⟩
    rw [hA] at hgs hww hwn hfj hrj hjl hnar
    have HGS := Lib.hid hgs
    have HWW := Lib.hid hww
    have HFJ := Lib.hid hfj
    have HRJ : Hid (rowsR (joinSp A) = gs.map joinSp) := by
      show _ = _
      unfold rowsR
      rw [if_pos hfj, hrj, hgs.rows]
    have HA := Lib.hid hA
    have HFL := Lib.hid hgs.flat
    clear hgs hww hfj hrj hA hrr hf f1 f2 f3 hnar
    rintro e w2 ⟨v, rfl, ho2, hb2⟩
    have HB2 := Lib.hid (bstep HB1.out hb2)
    obtain ⟨orr, cr, rfl⟩ := own_slice ho2
    have HR2 := Lib.hid (own_rds ho2).2
    clear ho2 hb2 HB1
    rw [List.length_map]
    go_wp2_with fail
    refine (split_any w2 T (by omega)).mono ?_
    rw [HA.out]
    rintro e w3 ⟨oal, cal, rfl, ho3, hb3⟩
    have HS : Hid (Rw W w3 orr (gs.map joinSp) oal A) := ⟨HR2.out.kept hb3, (own_rds ho3).2, bstep HB2.out hb3⟩
    clear ho3 hb3 HB2 HR2
    go_wp2_with fail
    go_loopw [7, 8, 9] (fun j k i wr => ∃ (n : Nat) (S : ByteArray), n ≤ gs.length ∧ i = .int .i64 n ∧ k = .int .i64 (before gs n : Int) ∧ j = .string S ∧ Hid (S.data.toList = joinedAt gs n) ∧ Hid (Rw W wr orr (gs.map joinSp) oal A)) (fun _ _ i _ => gs.length - (intOf i).toNat)
    case atStart => exact ⟨0, _, Nat.zero_le _, rfl, rfl, rfl, by show _ = _; rfl, HS⟩
    case round =>
      clear HS
      obtain ⟨n, S, hn, rfl, rfl, rfl, HJ, HS⟩ := hrel
      have hSl : S.size ≤ 200 := by
        rw [← dlen, HJ.out]
        have := joinedAt_len gs n HGS.out.wide
        omega
      by_cases hng : n = gs.length
      · have hn' : ¬ (n : Int) < gs.length := by omega
        have hJ : S.data.toList = 32 :: joinSp A := by
          rw [HJ.out, hng]
          unfold joinedAt
          rw [List.take_length, joined_all gs (fun e => by rw [e] at f4; simp at f4) HGS.out.full, join_flat gs HGS.out.full, HFL.out]
        have hbe : before gs n = A.length := by
          unfold before
          rw [hng, List.take_length, HFL.out]
        rw [hbe]
        obtain ⟨J, hJx⟩ : ∃ J, S.extract 1 S.size = J := ⟨_, rfl⟩
        have hJd : J.data.toList = joinSp A := by
          rw [← hJx, ByteArray.data_extract, Array.toList_extract, hJ, List.extract_eq_take_drop]
          have : S.size = (joinSp A).length + 1 := by rw [← dlen, hJ]; rfl
          rw [this]
          simp
        have hSs : S.size = (joinSp A).length + 1 := by rw [← dlen, hJ]; rfl
        have hS1 : 1 ≤ S.size := by omega
        have hS1' : (1 : Int) ≤ S.size := by omega
        have hJs : J.size ≤ 300 := by rw [← dlen, hJd]; omega
        have hE1 : ¬ S.toList = [] := by rw [ByteArray.toList_eq, hJ]; simp
        have hE2 : (S.toList == ([] : List UInt8)) = false := by rw [beq_eq_false_iff_ne]; exact hE1
        have hE3 : S.toList.isEmpty = false := by rw [List.isEmpty_eq_false_iff]; exact hE1
        have HJD := Lib.hid hJd
        have hq : ((A.length : Int) == A.length) = true := beq_self_eq_true _
        clear hJ hbe hng hJd hSs HJ
        go_wp2_with fail
        refine (rows_any J _ (small_len J (by omega))).mono ?_
        rw [HJD.out, HFJ.out, HRJ.out]
        rintro e w5 ⟨v, rfl, ho5, hb5⟩
        have HS5 := Lib.hid (HS.out.below hb5)
        obtain ⟨o5, c5, rfl⟩ := own_slice ho5
        have HR5 := Lib.hid (own_rds ho5).2
        rw [List.length_map]
        clear ho5 hb5 HS
        have f4' : (1 : Int) ≤ gs.length := by omega
        have f5' : (gs.length : Int) ≤ 4 := by omega
        go_wp2_with fail
        have hgl : gs.length = (gs.map joinSp).length := (List.length_map _).symm
        rw [hgl]
        refine (sameStrings_any w5 orr o5 cr c5 (gs.map joinSp) (gs.map joinSp) (by omega) (by omega) HS5.out.rs HR5.out).mono ?_
        rw [decide_eq_true rfl]
        rintro e w6 ⟨rfl, hb6⟩
        have HB6 := Lib.hid (bstep HS5.out.bel hb6)
        clear hb6 hgl
        go_wp2_with fail
        go_ret
        exact ⟨rfl, HB6.out⟩
      · have hn' : (n : Int) < gs.length := by omega
        have hn2 : n < gs.length := by omega
        have hgm : n < (gs.map joinSp).length := by rw [List.length_map]; exact hn2
        obtain ⟨g, off, rfl, c0⟩ := HS.out.rs.at n hgm
        rw [List.getElem_map] at c0
        have hgne := HGS.out.full _ (List.getElem_mem hn2)
        have hgwi := HGS.out.wide _ (List.getElem_mem hn2)
        have hgw : ∀ w ∈ gs[n], isWord w := fun w hw => HWW.out w (by rw [← HFL.out]; exact List.mem_flatten.2 ⟨_, List.getElem_mem hn2, hw⟩)
        obtain ⟨he1, he2, he3⟩ := join_ends _ hgne hgw
        have hwj := words_join _ hgw
        have HBS := Lib.hid (before_succ gs n hn2)
        have HBW := Lib.hid (fun q hq => before_word gs n q hn2 hq)
        have HJS := Lib.hid (joinedAt_succ gs n hn2)
        have HTI : Hid (∀ i, n = i + 1 → 32 < (joinSp (gs[i]?.getD [])).length + 1 + ((gs[n]).head?.getD []).length) := fun i e => by
          subst e
          have := HGS.out.tight i hn2
          rw [List.getElem?_eq_getElem (by omega)]
          exact this
        rw [HFL.out] at HBW
        obtain ⟨G, hG⟩ : ∃ G, gs[n] = G := ⟨_, rfl⟩
        have HGG := Lib.hid hG
        rw [hG] at c0 hgne hgwi he1 he2 he3 hwj HBS HJS HTI
        have HBW2 : Hid (∀ q (hq : q < G.length), A[before gs n + q]? = some G[q]) := fun q hq => by
          have := HBW.out q (by rw [hG]; exact hq)
          rw [this]
          congr 1
          subst hG
          rfl
        clear HBW hgw hng
        obtain ⟨X, hX⟩ : ∃ X : ByteArray, (⟨(joinSp G).toArray⟩ : ByteArray) = X := ⟨_, rfl⟩
        have hXd : X.data.toList = joinSp G := by rw [← hX]
        rw [hX] at c0
        have hXs : X.size = (joinSp G).length := by rw [← dlen, hXd]
        have hXpos : 0 < X.size := by
          rw [hXs]
          exact List.length_pos_iff.2 he1
        have hX32 : X.size ≤ 32 := by omega
        rw [← hXd] at he2 he3
        have HXD := Lib.hid hXd
        have HWJ := Lib.hid hwj
        have HGN : Hid (1 ≤ G.length) := List.length_pos_iff.2 hgne
        clear hX hXd hwj hG he1 hgne
        go_wp2_with fail
        refine (split_any wr X (by omega)).mono ?_
        rw [HXD.out, HWJ.out]
        rintro e w4 ⟨oo, co, rfl, ho4, hb4⟩
        have HO4 := Lib.hid (own_rds ho4).2
        have HS4 := Lib.hid (HS.out.below hb4)
        have hg4 := block_lt c0
        have d0 : w4.cell? ⟨g, off + n, none⟩ = some (.string X) := (hb4.cell (p := ⟨g, off + n, none⟩) hg4).trans c0
        clear ho4 hb4 HS c0 hg4
        obtain ⟨m, hm⟩ : ∃ m, X.size = m + 1 := ⟨X.size - 1, by omega⟩
        have hmX : m < X.size := by omega
        have b0 := head_byte X hXpos he2
        have b1 := last_byte X m hmX hm he3
        have hm' : IntKind.i64.wrap ((X.size : Int) - 1) = (m : Int) := by rw [IntWalk.i64_in _ (by omega)]; omega
        have hXp' : ¬ (X.size : Int) < 1 := by omega
        have hX32' : ¬ (32 : Int) < X.size := by omega
        have hG0 : ((G.length : Int) == 0) = false := by rw [beq_eq_false_iff_ne]; have := HGN.out; omega
        have hm0 : (0 : Int) ≤ m := by omega
        have hmlt : (m : Int) < X.size := by omega
        have hX0 : (0 : Int) < X.size := by omega
        clear hm he2 he3 hXs hgwi
        go_wp2_with fail
        go_quiet (fail)
        have HS5 := Lib.hid (HS4.out.drewN nq)
        have HO5 : Hid (RdS (w4.drewN nq) oo G) := HO4.out.kept (drewN_below (Below.refl _ _) nq)
        generalize w4.drewN nq = w5 at HS5 HO5 ⊢
        clear HS4 HO4 d0
        try clear b0
        try clear b1
        try clear hm'
        try clear hXp'
        try clear hX32'
        try clear hG0
        by_cases hn0 : n = 0
        · have hd : decide (0 < n) = false := by rw [decide_eq_false_iff_not]; omega
          clear hn0
          go_wp2_with fail
          go_quiet (fail)
          have HS6 := Lib.hid (HS5.out.drewN nq)
          have HO6 : Hid (RdS (w5.drewN nq) oo G) := HO5.out.kept (drewN_below (Below.refl _ _) nq)
          generalize w5.drewN nq = w6 at HS6 HO6 ⊢
          clear HS5 HO5 hd
          go_wp2_with fail
          go_loopw [8, 11] (fun k i wr => ∃ q : Nat, q ≤ G.length ∧ i = .int .i64 q ∧ k = .int .i64 ((before gs n + q : Nat) : Int) ∧ Hid (Rw W wr (some ⟨g, off, none⟩) (gs.map joinSp) oal A) ∧ Hid (RdS wr oo G)) (fun _ i _ => G.length - (intOf i).toNat)
          case atStart => exact ⟨0, Nat.zero_le _, rfl, rfl, HS6, HO6⟩
          case round =>
            clear HS6 HO6
            obtain ⟨q, hq, rfl, rfl, HS7, HO7⟩ := hrel
            have hGA : before gs n + G.length ≤ 300 := by
              by_cases hz : G.length = 0
              · have := HGN.out; omega
              · have := (List.getElem?_eq_some_iff.1 (HBW2.out (G.length - 1) (by omega))).1
                omega
            by_cases hqG : q < G.length
            · have hqG' : (q : Int) < G.length := by omega
              obtain ⟨hAl, hAe⟩ := List.getElem?_eq_some_iff.1 (HBW2.out q hqG)
              obtain ⟨gc, offc, rfl, a0⟩ := HS7.out.al.at _ hAl
              obtain ⟨gd, offd, ed, o0⟩ := HO7.out.at q hqG
              subst ed
              rw [hAe] at a0
              generalize (⟨(G[q]).toArray⟩ : ByteArray) = V at a0 o0
              have hkA : ¬ (A.length : Int) ≤ ((before gs n + q : Nat) : Int) := by omega
              have hkA2 : ((before gs n + q : Nat) : Int) < A.length := by omega
              have hk0 : (0 : Int) ≤ ((before gs n + q : Nat) : Int) := by omega
              have HKQ : Hid (before gs n + (q + 1) = before gs n + q + 1) := by show _ = _; omega
              clear hAe
              generalize before gs n + q = kk at a0 hAl hkA hkA2 hk0 HKQ hGA ⊢
              have hkk : kk ≤ 300 := by omega
              go_wp2_with fail
              go_quiet (fail)
              have HS8 := Lib.hid (HS7.out.drewN nq)
              have HO8 : Hid (RdS _ _ G) := HO7.out.kept (drewN_below (Below.refl _ _) nq)
              clear a0 o0 HS7 HO7
              go_wp2_with fail
              go_roundw
              case rel => exact ⟨q + 1, by omega, by go_num, by rw [HKQ.out]; go_num, HS8, HO8⟩
              case measure => simp [intOf]; omega
            · obtain rfl : q = G.length := by omega
              have hqG' : ¬ (G.length : Int) < G.length := by omega
              obtain ⟨ge, offe, ee, r0⟩ := HS7.out.rs.at n (by rw [List.length_map]; exact hn2)
              simp only [Option.some.injEq, Addr.mk.injEq, and_true] at ee
              obtain ⟨rfl, rfl⟩ := ee
              have hrX : (⟨((gs.map joinSp)[n]'(by rw [List.length_map]; exact hn2)).toArray⟩ : ByteArray) = X := by
                apply ByteArray.ext
                apply Array.ext'
                rw [HXD.out, List.getElem_map]
                show joinSp gs[n] = joinSp G
                rw [HGG.out]
              rw [hrX] at r0
              have HJ2 : Hid ((S ++ ⟨#[32]⟩ ++ X).data.toList = joinedAt gs (n + 1)) := by
                show _ = _
                rw [HJS.out, ← HJ.out, ← HXD.out]
                simp
              have HBS2 : Hid (before gs n + G.length = before gs (n + 1)) := HBS.out.symm
              clear hrX
              go_wp2_with fail
              go_roundw
              case rel => exact ⟨n + 1, _, by omega, by go_num, by rw [HBS2.out], rfl, HJ2, HS7⟩
              case measure => simp [intOf]; omega
        · obtain ⟨i, hi⟩ : ∃ i, n = i + 1 := ⟨n - 1, by omega⟩
          have hti := HTI.out i hi
          have hil : i < (gs.map joinSp).length := by omega
          obtain ⟨ga, offa, ea, y0⟩ := HS5.out.rs.at i hil
          simp only [Option.some.injEq, Addr.mk.injEq, and_true] at ea
          obtain ⟨rfl, rfl⟩ := ea
          rw [List.getElem_map] at y0
          rw [List.getElem?_eq_getElem (by omega), Option.getD_some] at hti
          obtain ⟨Y, hY⟩ : ∃ Y : ByteArray, (⟨(joinSp gs[i]).toArray⟩ : ByteArray) = Y := ⟨_, rfl⟩
          have hYs : Y.size = (joinSp gs[i]).length := by rw [← hY]; rfl
          rw [hY] at y0
          obtain ⟨gb, offb, rfl, z0⟩ := HO5.out.at 0 (by have := HGN.out; omega)
          obtain ⟨Z, hZ⟩ : ∃ Z : ByteArray, (⟨(G[0]'(by have := HGN.out; omega)).toArray⟩ : ByteArray) = Z := ⟨_, rfl⟩
          have hZs : Z.size = (G[0]'(by have := HGN.out; omega)).length := by rw [← hZ]; rfl
          rw [hZ, Nat.add_zero] at z0
          have hhd : G.head?.getD [] = G[0]'(by have := HGN.out; omega) := by
            rw [List.head?_eq_getElem?, List.getElem?_eq_getElem (by have := HGN.out; omega)]
            rfl
          rw [hhd, ← hYs, ← hZs] at hti
          have hYw : Y.size ≤ 32 := by rw [hYs]; exact HGS.out.wide _ (List.getElem_mem (by omega))
          have hZw : Z.size ≤ 300 := by
            rw [hZs]
            have hmem : G[0]'(by have := HGN.out; omega) ∈ A := List.mem_of_getElem? (HBW2.out 0 (by have := HGN.out; omega))
            have := wordsL_mem T.data.toList _ (by rw [HA.out]; exact hmem)
            have h2 := word_len T.data.toList _ (by rw [HA.out]; exact hmem)
            rw [dlen] at h2
            omega
          have hlt1 : (i : Int) < gs.length := by omega
          have hi0 : (0 : Int) ≤ i := by omega
          have hw1 : IntKind.i64.wrap ((n : Int) - 1) = (i : Int) := by rw [IntWalk.i64_in _ (by omega)]; omega
          have hw2 : IntKind.i64.wrap ((Y.size : Int) + 1) = (Y.size : Int) + 1 := IntWalk.i64_in _ (by omega)
          have hw3 : IntKind.i64.wrap ((Y.size : Int) + 1 + (Z.size : Int)) = (Y.size : Int) + 1 + (Z.size : Int) := IntWalk.i64_in _ (by omega)
          have hle : ¬ (Y.size : Int) + 1 + (Z.size : Int) ≤ 32 := by omega
          have hle2 : decide ((Y.size : Int) + 1 + (Z.size : Int) ≤ 32) = false := decide_eq_false hle
          have hd : decide (0 < n) = true := by rw [decide_eq_true_iff]; omega
          have hGN : 0 < G.length := HGN.out
          have hGl : (0 : Int) < G.length := by have := HGN.out; omega
          clear hn0 hi hti hil hY hYs hZ hZs hhd hYw hZw
          go_wp2_with fail
          go_quiet (fail)
          have HS6 := Lib.hid (HS5.out.drewN nq)
          have HO6 : Hid (RdS (w5.drewN nq) (some ⟨gb, offb, none⟩) G) := HO5.out.kept (drewN_below (Below.refl _ _) nq)
          generalize w5.drewN nq = w6 at HS6 HO6 ⊢
          clear HS5 HO5 hd y0 z0
          try clear hw1
          try clear hw2
          try clear hw3
          try clear hle
          try clear hle2
          try clear hGN
          go_wp2_with fail
          go_loopw [8, 11] (fun k i wr => ∃ q : Nat, q ≤ G.length ∧ i = .int .i64 q ∧ k = .int .i64 ((before gs n + q : Nat) : Int) ∧ Hid (Rw W wr (some ⟨g, off, none⟩) (gs.map joinSp) oal A) ∧ Hid (RdS wr (some ⟨gb, offb, none⟩) G)) (fun _ i _ => G.length - (intOf i).toNat)
          case atStart => exact ⟨0, Nat.zero_le _, rfl, rfl, HS6, HO6⟩
          case round =>
            clear HS6 HO6
            obtain ⟨q, hq, rfl, rfl, HS7, HO7⟩ := hrel
            have hGA : before gs n + G.length ≤ 300 := by
              by_cases hz : G.length = 0
              · have := HGN.out; omega
              · have := (List.getElem?_eq_some_iff.1 (HBW2.out (G.length - 1) (by omega))).1
                omega
            by_cases hqG : q < G.length
            · have hqG' : (q : Int) < G.length := by omega
              obtain ⟨hAl, hAe⟩ := List.getElem?_eq_some_iff.1 (HBW2.out q hqG)
              obtain ⟨gc, offc, rfl, a0⟩ := HS7.out.al.at _ hAl
              obtain ⟨gd, offd, ed, o0⟩ := HO7.out.at q hqG
              simp only [Option.some.injEq, Addr.mk.injEq, and_true] at ed
              obtain ⟨rfl, rfl⟩ := ed
              rw [hAe] at a0
              generalize (⟨(G[q]).toArray⟩ : ByteArray) = V at a0 o0
              have hkA : ¬ (A.length : Int) ≤ ((before gs n + q : Nat) : Int) := by omega
              have hkA2 : ((before gs n + q : Nat) : Int) < A.length := by omega
              have hk0 : (0 : Int) ≤ ((before gs n + q : Nat) : Int) := by omega
              have HKQ : Hid (before gs n + (q + 1) = before gs n + q + 1) := by show _ = _; omega
              clear hAe
              generalize before gs n + q = kk at a0 hAl hkA hkA2 hk0 HKQ hGA ⊢
              have hkk : kk ≤ 300 := by omega
              go_wp2_with fail
              go_quiet (fail)
              have HS8 := Lib.hid (HS7.out.drewN nq)
              have HO8 : Hid (RdS _ _ G) := HO7.out.kept (drewN_below (Below.refl _ _) nq)
              clear a0 o0 HS7 HO7
              go_wp2_with fail
              go_roundw
              case rel => exact ⟨q + 1, by omega, by go_num, by rw [HKQ.out]; go_num, HS8, HO8⟩
              case measure => simp [intOf]; omega
            · obtain rfl : q = G.length := by omega
              have hqG' : ¬ (G.length : Int) < G.length := by omega
              obtain ⟨ge, offe, ee, r0⟩ := HS7.out.rs.at n (by rw [List.length_map]; exact hn2)
              simp only [Option.some.injEq, Addr.mk.injEq, and_true] at ee
              obtain ⟨rfl, rfl⟩ := ee
              have hrX : (⟨((gs.map joinSp)[n]'(by rw [List.length_map]; exact hn2)).toArray⟩ : ByteArray) = X := by
                apply ByteArray.ext
                apply Array.ext'
                rw [HXD.out, List.getElem_map]
                show joinSp gs[n] = joinSp G
                rw [HGG.out]
              rw [hrX] at r0
              have HJ2 : Hid ((S ++ ⟨#[32]⟩ ++ X).data.toList = joinedAt gs (n + 1)) := by
                show _ = _
                rw [HJS.out, ← HJ.out, ← HXD.out]
                simp
              have HBS2 : Hid (before gs n + G.length = before gs (n + 1)) := HBS.out.symm
              clear hrX
              go_wp2_with fail
              go_roundw
              case rel => exact ⟨n + 1, _, by omega, by go_num, by rw [HBS2.out], rfl, HJ2, HS7⟩
              case measure => simp [intOf]; omega
end Go.Proofs.Ytjmfhdnckgelaaa
