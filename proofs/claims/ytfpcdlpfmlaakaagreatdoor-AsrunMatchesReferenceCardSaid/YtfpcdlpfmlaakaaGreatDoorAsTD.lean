/-
  The reference's decoded.
-/
import Derived.Test.YtfpcdlpfmlaakaaGreatDoorAsTC
import Derived.Test.YtfpcdlpfmlaakaaGreatDoorWrR
import Derived.Test.YtfpcdlpfmlaakaaGreatDoorAsC
set_option linter.unusedVariables false
set_option linter.unusedSimpArgs false
namespace Go.Proofs.YtfpcdlpfmlaakaaGreatDoor
open Go.RowKit Onair
attribute [local go_sem ↓] Go.wp_at_zero Go.wp_at_succ
theorem Tryz.infoIntR : (Tryz.prog.info? 3).map (fun i => (i.zero, i.size, i.bytes)) = some (some (.int .i64 0), 1, 8) := by kernel_rfl
def icL (l : List Int) : List Value := l.map fun x => Value.int .i64 x
/-- A row of the call's own that holds six numbers: where it lies. -/
theorem own_six {W : World} {B n cap : Nat} {oa : Option Addr} {x0 x1 x2 x3 x4 x5 : Int} (h : OwnV 3 B (.slice oa n cap) (icL [x0, x1, x2, x3, x4, x5]) W) :
    ∃ g, oa = some ⟨g, 0, none⟩ ∧ n = 6 ∧ 6 ≤ cap ∧ cap ≤ 9223372036854775807 ∧ B ≤ g ∧ W.cell? ⟨g, 0, none⟩ = some (.int .i64 x0) ∧ W.cell? ⟨g, 1, none⟩ = some (.int .i64 x1) ∧ W.cell? ⟨g, 2, none⟩ = some (.int .i64 x2) ∧ W.cell? ⟨g, 3, none⟩ = some (.int .i64 x3) ∧ W.cell? ⟨g, 4, none⟩ = some (.int .i64 x4) ∧ W.cell? ⟨g, 5, none⟩ = some (.int .i64 x5) ∧ g < W.heap.size := by
  have h' := h.1
  obtain ⟨q0, q1, q2, q3⟩ := h.rd
  rcases h.1.2 with ⟨he, h0⟩ | ⟨g, cap', cur, he, p1, p2, p3⟩
  · simp [icL] at h0
  · simp at he
    obtain ⟨rfl, rfl, rfl⟩ := he
    have c : ∀ i v, (icL [x0, x1, x2, x3, x4, x5])[i]? = some v → W.cell? ⟨g, i, none⟩ = some v := fun i v hi => by
      have hil : i < (icL [x0, x1, x2, x3, x4, x5]).length := (List.getElem?_eq_some_iff.1 hi).1
      rw [h'.cellAt i (by simpa using hil)]
      simp [hi]
    refine ⟨g, rfl, by simp [icL], by simpa [icL] using q2, q3, p1, c 0 _ rfl, c 1 _ rfl, c 2 _ rfl, c 3 _ rfl, c 4 _ rfl, c 5 _ rfl, (Array.getElem?_eq_some_iff.1 p2).1⟩
def RDecP (s : ByteArray) (w : World) (e : Ending) (w' : World) : Prop := ∃ r : Rec, e = .returned (.tuple #[.agg (recA r), .bool (decP s.data.toList).isSome]) ∧ (∀ r', decP s.data.toList = some r' → r = r') ∧ Below w.heap.size w w'
/-- The head of a round of decoded. -/
structure RdI (w : World) (N : Nat) (s : List UInt8) (k : Nat) (l : List Int) (a : Int) (v : Value) (W : World) : Prop where
  dec : decS s k = some (l, a)
  res : Blk W N 62 zero6
  row : OwnV 3 (N + 1) v (icL l) W
  bel : Below N w W
theorem RdI.err {w : World} {N : Nat} {s : List UInt8} {k : Nat} {l : List Int} {a : Int} {v : Value} {W : World} (h : RdI w N s k l a v W) (hk : k < 6) (he : (intR s a).2.2 ≠ 0) : decP s = none := by
  have : decS s 6 = none := decS_none s (k + 1) 6 (by unfold decS; rw [h.dec]; dsimp only; rw [if_neg he]) (by omega)
  unfold decP
  rw [this]
set_option maxHeartbeats 4000000 in
set_option maxRecDepth 100000 in
theorem refDecoded_any (s : ByteArray) (w : World) (hs : s.size ≤ maxLen) :
    Calls Tryz.prog 82 #[.string s] w (RDecP s w) := by
  obtain ⟨N, hN⟩ : ∃ N, w.heap.size = N := ⟨_, rfl⟩
  have HN := Lib.hid hN
  have hb1 : Below N w (w.alloc (.cells #[.int .i64 0, .int .i64 0, .int .i64 0, .int .i64 0, .int .i64 0, .int .i64 0] 62)) := by rw [← hN]; exact (Below.refl _ w).alloc (Nat.le_refl _) _
  have hk1 : Blk (w.alloc (.cells #[.int .i64 0, .int .i64 0, .int .i64 0, .int .i64 0, .int .i64 0, .int .i64 0] 62)) N 62 zero6 := by rw [← hN]; exact Blk.new w _ _
  have hz1 : (w.alloc (.cells #[.int .i64 0, .int .i64 0, .int .i64 0, .int .i64 0, .int .i64 0, .int .i64 0] 62)).heap.size = N + 1 := by rw [← hN]; simp
  have HD0 : Hid (RdI w N s.data.toList 0 [] 0 (.slice none 0 0) (w.alloc (.cells #[.int .i64 0, .int .i64 0, .int .i64 0, .int .i64 0, .int .i64 0, .int .i64 0] 62))) := (show RdI _ _ _ _ _ _ _ _ from ⟨rfl, hk1, ⟨by exact ⟨rfl, .inl ⟨rfl, rfl⟩⟩, by omega⟩, hb1⟩)
  have HF : Hid (∀ (e : Ending) (w' : World) (r : Rec), e = .returned (.tuple #[.agg (recA r), .bool (decP s.data.toList).isSome]) → (∀ r', decP s.data.toList = some r' → r = r') → Below N w w' → RDecP s w e w') := fun e w' r h1 h2 h4 => ⟨r, h1, h2, by rw [HN.out]; exact h4⟩
  have hs9 := hs
  unfold maxLen at hs9
  clear hb1 hk1 hz1
  go_enter Tryz.func82, Tryz.ntmps82
  go_upto_region 1 with (fail)
  generalize w.alloc (.cells #[.int .i64 0, .int .i64 0, .int .i64 0, .int .i64 0, .int .i64 0, .int .i64 0] 62) = w1 at HD0 ⊢
  clear hN
  go_wp2_with fail
  go_loopw [4, 5] (fun lv av wr => ∃ (k : Nat) (l : List Int) (a : Int) (oa : Option Addr) (cap : Nat), k ≤ 6 ∧ lv = .slice oa k cap ∧ av = .int .i64 a ∧ Hid (RdI w N s.data.toList k l a (.slice oa k cap) wr)) (fun lv _ _ => match lv with | .slice _ n _ => 6 - n | _ => 0)
  case atStart => exact ⟨0, [], 0, none, 0, Nat.zero_le _, rfl, rfl, HD0⟩
  case round =>
    clear HD0
    obtain ⟨k, l, a, oa, cap, hk, rfl, rfl, HD⟩ := hrel
    have hwB : N < wr.heap.size := HD.out.res.lt
    by_cases hk6 : k = 6
    · subst hk6
      have q1 : ¬ ((6 : Nat) : Int) < 6 := by omega
      obtain ⟨dl, dx, da, dt, dz⟩ := decS_some _ _ _ _ HD.out.dec
      obtain ⟨x0, x1, x2, x3, x4, x5, rfl⟩ : ∃ x0 x1 x2 x3 x4 x5, l = [x0, x1, x2, x3, x4, x5] := by
        match l, dl with
        | [x0, x1, x2, x3, x4, x5], _ => exact ⟨x0, x1, x2, x3, x4, x5, rfl⟩
      obtain ⟨g, rfl, _, hc6, hcm, hgN, c0, c1, c2, c3, c4, c5, hgl⟩ := own_six HD.out.row
      have HK := Lib.hid HD.out.res
      have HB := Lib.hid HD.out.bel
      have HDL := Lib.hid HD.out.dec
      have HRI : Hid (RecI ⟨x0, x1, x2, x3, x4, x5⟩) := by
        have : ∀ x ∈ [x0, x1, x2, x3, x4, x5], -4611686018427387903 ≤ x ∧ x ≤ 4611686018427387903 := fun x hx => (okInt_iff x).1 (dx x hx)
        simp only [List.mem_cons, List.not_mem_nil, or_false, forall_eq_or_imp, forall_eq] at this
        show RecI _
        constructor <;> (dsimp only; omega)
      clear dl dx da dt dz HD
      obtain ⟨R, hR⟩ : ∃ R, wr.heap.size = R := ⟨_, rfl⟩
      have HRR := Lib.hid hR
      have hNR : N < R := by omega
      have hgR : g < R := by omega
      -- the new record
      clear hR
      go_wp2_with fail
      go_region
      all_goals
        go_upto_region 10 with (fail)
        rw [HRR.out]
        refine gen_world (fun W9 => Blk W9 R 62 [.int .i64 x0, .int .i64 x1, .int .i64 x2, .int .i64 x3, .int .i64 x4, .int .i64 x5] ∧ Blk W9 N 62 [.int .i64 0, .int .i64 0, .int .i64 0, .int .i64 0, .int .i64 0, .int .i64 0] ∧ Below N w W9) ⟨?_, ?_, ?_⟩ ?_
        · have hnew : ∀ W : World, W.heap.size = R → Blk (W.alloc (.cells #[.int .i64 x0, .int .i64 x1, .int .i64 x2, .int .i64 x3, .int .i64 x4, .int .i64 x5] 62)) R 62 [.int .i64 x0, .int .i64 x1, .int .i64 x2, .int .i64 x3, .int .i64 x4, .int .i64 x5] := fun W h => by rw [← h]; exact Blk.new W _ _
          repeat (first | (with_reducible refine Blk.drew ?_) | exact hnew _ HRR.out)
        · have hk9 : Blk wr N 62 [.int .i64 0, .int .i64 0, .int .i64 0, .int .i64 0, .int .i64 0, .int .i64 0] := HK.out
          repeat (first | (with_reducible exact hk9) | (with_reducible refine Blk.drew ?_) | (with_reducible refine Blk.other ?_ _ (by show R ≠ N; omega) _) | (with_reducible refine Blk.alloc ?_ _))
        · repeat (first | (with_reducible exact HB.out) | (with_reducible refine drew_up ?_) | (with_reducible refine alloc_up ?_ (by first | (simp; omega) | omega) _))
        rintro w5 ⟨hkR, hkN, hbN⟩
        clear c0 c1 c2 c3 c4 c5
        have c0 := hkR.cell 0
        have c1 := hkR.cell 1
        have c2 := hkR.cell 2
        have c3 := hkR.cell 3
        have c4 := hkR.cell 4
        have c5 := hkR.cell 5
        simp only [zero6, decV, List.getElem?_cons_zero, List.getElem?_cons_succ] at c0 c1 c2 c3 c4 c5
        have HKN := Lib.hid hkN
        have HBN := Lib.hid hbN
        have HKR := Lib.hid hkR
        clear hkR hkN hbN HK HB
        obtain ⟨vb, hvb⟩ : ∃ vb, validR ⟨x0, x1, x2, x3, x4, x5⟩ = vb := ⟨_, rfl⟩
        have HV : Hid (∀ W, Calls Tryz.prog 52 #[.agg #[.int .i64 x0, .int .i64 x1, .int .i64 x2, .int .i64 x3, .int .i64 x4, .int .i64 x5]] W fun e w' => e = .returned (.bool vb) ∧ Below W.heap.size W w') := fun W => by
          rw [← hvb]
          exact refValid25_any ⟨x0, x1, x2, x3, x4, x5⟩ W HRI.out
        have HX : Hid (decP s.data.toList = if a = (s.size : Int) ∧ vb = true then some ⟨x0, x1, x2, x3, x4, x5⟩ else none) := by
          show _ = _
          unfold decP
          rw [HDL.out]
          dsimp only
          rw [show recOf [x0, x1, x2, x3, x4, x5] = ⟨x0, x1, x2, x3, x4, x5⟩ from rfl, hvb, blen]
        clear hvb HDL
        have HY : Hid (∀ r', decP s.data.toList = some r' → (⟨x0, x1, x2, x3, x4, x5⟩ : Rec) = r') := fun r' h => by
          rw [HX.out] at h
          split at h
          · exact Option.some.inj h
          · cases h
        go_wp2_with fail
        refine (HV.out _).mono ?_
        rintro e w6 ⟨rfl, hb6⟩
        have HKN6 := Lib.hid (HKN.out.kept (hb6.block N HKN.out.lt))
        have HKR6 := Lib.hid (HKR.out.kept (hb6.block R HKR.out.lt))
        have HBN6 : Hid (Below N w w6) := HBN.out.trans (hb6.mono (bnl HN.out HBN.out))
        clear hb6 HKN HBN HKR HV c0 c1 c2 c3 c4 c5
        clear hwB hgN hc6 hcm hgl
        have c0 := HKR6.out.cell 0
        have c1 := HKR6.out.cell 1
        have c2 := HKR6.out.cell 2
        have c3 := HKR6.out.cell 3
        have c4 := HKR6.out.cell 4
        have c5 := HKR6.out.cell 5
        simp only [zero6, decV, List.getElem?_cons_zero, List.getElem?_cons_succ] at c0 c1 c2 c3 c4 c5
        have d0 := HKN6.out.cell 0
        have d1 := HKN6.out.cell 1
        have d2 := HKN6.out.cell 2
        have d3 := HKN6.out.cell 3
        have d4 := HKN6.out.cell 4
        have d5 := HKN6.out.cell 5
        simp only [zero6, decV, List.getElem?_cons_zero, List.getElem?_cons_succ] at d0 d1 d2 d3 d4 d5
        have fd0 := HKN6.out.frozen 0
        have fd1 := HKN6.out.frozen 1
        have fd2 := HKN6.out.frozen 2
        have fd3 := HKN6.out.frozen 3
        have fd4 := HKN6.out.frozen 4
        have fd5 := HKN6.out.frozen 5
        have hRz := HKR6.out.lt
        have hNz := HKN6.out.lt
        have hNR2 : ¬ N = R := by omega
        have hNR3 : ¬ R = N := by omega
        cases vb with
        | false =>
          have HZ : Hid ((decP s.data.toList).isSome = false) := by
            show _ = _
            rw [HX.out, if_neg (fun h => by cases h.2)]
            rfl
          clear HX
          go_wp2_with fail
          refine gen_world (fun W9 => Blk W9 N 62 [.int .i64 x0, .int .i64 x1, .int .i64 x2, .int .i64 x3, .int .i64 x4, .int .i64 x5] ∧ Below N w W9) ⟨?_, ?_⟩ ?_
          · repeat (first | (with_reducible exact HKN6.out) | (with_reducible refine Blk.drew ?_) | (with_reducible refine blk6 ?_ _ _ _ _ _ _) | (with_reducible refine Blk.alloc ?_ _))
          · repeat (first | (with_reducible exact HBN6.out) | (with_reducible refine drew_up ?_) | (with_reducible refine below6 ?_ (Nat.le_refl _) _ _ _ _ _ _) | (with_reducible refine alloc_up ?_ (by simp; omega) _))
          · rintro W9 ⟨hb9, he9⟩
            have g0 := hb9.cell 0
            have g1 := hb9.cell 1
            have g2 := hb9.cell 2
            have g3 := hb9.cell 3
            have g4 := hb9.cell 4
            have g5 := hb9.cell 5
            simp only [List.getElem?_cons_zero, List.getElem?_cons_succ] at g0 g1 g2 g3 g4 g5
            refine bodyPost_ret (v := .tuple #[.agg #[.int .i64 x0, .int .i64 x1, .int .i64 x2, .int .i64 x3, .int .i64 x4, .int .i64 x5], .bool false]) (by simp [results, Tryz.results82, go_sem, g0, g1, g2, g3, g4, g5]) rfl (HF.out _ _ ⟨x0, x1, x2, x3, x4, x5⟩ (by rw [HZ.out]; rfl) HY.out he9)
        | true =>
          by_cases hal : a = (s.size : Int)
          · have qa : (a == (s.size : Int)) = true := by rw [beq_iff_eq]; exact hal
            have HZ : Hid ((decP s.data.toList).isSome = true) := by
              show _ = _
              rw [HX.out, if_pos ⟨hal, rfl⟩]
              rfl
            clear HX hal
            go_wp2_with fail
            refine gen_world (fun W9 => Blk W9 N 62 [.int .i64 x0, .int .i64 x1, .int .i64 x2, .int .i64 x3, .int .i64 x4, .int .i64 x5] ∧ Below N w W9) ⟨?_, ?_⟩ ?_
            · repeat (first | (with_reducible exact HKN6.out) | (with_reducible refine Blk.drew ?_) | (with_reducible refine blk6 ?_ _ _ _ _ _ _) | (with_reducible refine Blk.alloc ?_ _))
            · repeat (first | (with_reducible exact HBN6.out) | (with_reducible refine drew_up ?_) | (with_reducible refine below6 ?_ (Nat.le_refl _) _ _ _ _ _ _) | (with_reducible refine alloc_up ?_ (by simp; omega) _))
            · rintro W9 ⟨hb9, he9⟩
              have g0 := hb9.cell 0
              have g1 := hb9.cell 1
              have g2 := hb9.cell 2
              have g3 := hb9.cell 3
              have g4 := hb9.cell 4
              have g5 := hb9.cell 5
              simp only [List.getElem?_cons_zero, List.getElem?_cons_succ] at g0 g1 g2 g3 g4 g5
              refine bodyPost_ret (v := .tuple #[.agg #[.int .i64 x0, .int .i64 x1, .int .i64 x2, .int .i64 x3, .int .i64 x4, .int .i64 x5], .bool true]) (by simp [results, Tryz.results82, go_sem, g0, g1, g2, g3, g4, g5]) rfl (HF.out _ _ ⟨x0, x1, x2, x3, x4, x5⟩ (by rw [HZ.out]; rfl) HY.out he9)
          · have qa : (a == (s.size : Int)) = false := by rw [beq_eq_false_iff_ne]; exact hal
            have HZ : Hid ((decP s.data.toList).isSome = false) := by
              show _ = _
              rw [HX.out, if_neg (fun h => hal h.1)]
              rfl
            clear HX hal
            go_wp2_with fail
            refine gen_world (fun W9 => Blk W9 N 62 [.int .i64 x0, .int .i64 x1, .int .i64 x2, .int .i64 x3, .int .i64 x4, .int .i64 x5] ∧ Below N w W9) ⟨?_, ?_⟩ ?_
            · repeat (first | (with_reducible exact HKN6.out) | (with_reducible refine Blk.drew ?_) | (with_reducible refine blk6 ?_ _ _ _ _ _ _) | (with_reducible refine Blk.alloc ?_ _))
            · repeat (first | (with_reducible exact HBN6.out) | (with_reducible refine drew_up ?_) | (with_reducible refine below6 ?_ (Nat.le_refl _) _ _ _ _ _ _) | (with_reducible refine alloc_up ?_ (by simp; omega) _))
            · rintro W9 ⟨hb9, he9⟩
              have g0 := hb9.cell 0
              have g1 := hb9.cell 1
              have g2 := hb9.cell 2
              have g3 := hb9.cell 3
              have g4 := hb9.cell 4
              have g5 := hb9.cell 5
              simp only [List.getElem?_cons_zero, List.getElem?_cons_succ] at g0 g1 g2 g3 g4 g5
              refine bodyPost_ret (v := .tuple #[.agg #[.int .i64 x0, .int .i64 x1, .int .i64 x2, .int .i64 x3, .int .i64 x4, .int .i64 x5], .bool false]) (by simp [results, Tryz.results82, go_sem, g0, g1, g2, g3, g4, g5]) rfl (HF.out _ _ ⟨x0, x1, x2, x3, x4, x5⟩ (by rw [HZ.out]; rfl) HY.out he9)
    · have q1 : (k : Int) < 6 := by omega
      have hk7 : k < 6 := by omega
      obtain ⟨n, x, er, hr⟩ : ∃ n x er, intR s.data.toList a = (n, x, er) := ⟨_, _, _, rfl⟩
      have HI := Lib.hid (refInt_any s a wr hs)
      rw [hr] at HI
      dsimp only at HI
      by_cases he : er = 0
      · subst he
        have hll : l.length = k := (decS_some _ _ _ _ HD.out.dec).1
        have HDE : Hid (decS s.data.toList (k + 1) = some (l ++ [n], x)) := by
          show _ = _
          unfold decS
          rw [HD.out.dec]
          dsimp only
          rw [hr, if_pos rfl]
        clear hk6 hr
        go_wp2_with fail
        refine HI.out.mono ?_
        rintro e w4 ⟨rfl, hb4⟩
        have HO4 := Lib.hid (HD.out.row.kept hb4)
        have HK4 := Lib.hid (HD.out.res.kept (hb4.block N HD.out.res.lt))
        have HB4 : Hid (Below N w w4) := HD.out.bel.trans (hb4.mono (bnl HN.out HD.out.bel))
        clear hb4 HD HI
        obtain ⟨oa2, cap2, w5, hrun, hown5, hfr⟩ := app_one (st := 53) Tryz.underlying53 Tryz.infoIntR rfl (by decide) w4 (N + 1) (.slice oa k cap) _ (.int .i64 n) HO4.out (by show (icL l).length ≤ _; unfold icL; rw [List.length_map]; omega) rfl 53
        have hil : (icL l).length = k := by unfold icL; rw [List.length_map]; exact hll
        rw [hil] at hrun hown5
        have HD5 : Hid (RdI w N s.data.toList (k + 1) (l ++ [n]) x (.slice oa2 (k + 1) cap2) w5) := (show RdI _ _ _ _ _ _ _ _ from ⟨HDE.out, HK4.out.kept (hfr.block N HK4.out.lt (by omega)), by unfold icL; rw [List.map_append]; exact hown5, HB4.out.trans (hfr.below N (bnl HN.out HB4.out) (fun j hj => by omega))⟩)
        clear hown5 hfr HO4 HK4 HB4 HDE hil hll
        go_wp2_with (at_builtin; refine wpList_append_run _ rfl _ _ 53 rfl _ _ _ _ rfl rfl hrun ?_)
        clear hrun
        go_roundw
        case rel => exact ⟨k + 1, l ++ [n], x, oa2, cap2, by omega, by go_num, rfl, HD5⟩
        case measure => simp; omega
      · have HE : Hid (decP s.data.toList = none) := HD.out.err hk7 (by rw [hr]; exact he)
        have ene : (er != 0) = true := by rw [bne_iff_ne]; exact he
        clear hk6 hr he
        go_wp2_with fail
        refine HI.out.mono ?_
        rintro e w4 ⟨rfl, hb4⟩
        have HK4 : Hid (Blk w4 N 62 [.int .i64 0, .int .i64 0, .int .i64 0, .int .i64 0, .int .i64 0, .int .i64 0]) := HD.out.res.kept (hb4.block N HD.out.res.lt)
        have HB4 : Hid (Below N w w4) := HD.out.bel.trans (hb4.mono (bnl HN.out HD.out.bel))
        clear hb4 HD HI
        have d0 := HK4.out.cell 0
        have d1 := HK4.out.cell 1
        have d2 := HK4.out.cell 2
        have d3 := HK4.out.cell 3
        have d4 := HK4.out.cell 4
        have d5 := HK4.out.cell 5
        simp only [zero6, decV, List.getElem?_cons_zero, List.getElem?_cons_succ] at d0 d1 d2 d3 d4 d5
        have fd0 := HK4.out.frozen 0
        have fd1 := HK4.out.frozen 1
        have fd2 := HK4.out.frozen 2
        have fd3 := HK4.out.frozen 3
        have fd4 := HK4.out.frozen 4
        have fd5 := HK4.out.frozen 5
        have hNz := HK4.out.lt
        have HZ : Hid ((decP s.data.toList).isSome = false) := by
          show _ = _
          rw [HE.out]
          rfl
        have HY : Hid (∀ r', decP s.data.toList = some r' → (⟨0, 0, 0, 0, 0, 0⟩ : Rec) = r') := fun r' h => by
          rw [HE.out] at h
          cases h
        go_wp2_with fail
        refine gen_world (fun W9 => Blk W9 N 62 [.int .i64 0, .int .i64 0, .int .i64 0, .int .i64 0, .int .i64 0, .int .i64 0] ∧ Below N w W9) ⟨?_, ?_⟩ ?_
        · repeat (first | (with_reducible exact HK4.out) | (with_reducible refine Blk.drew ?_) | (with_reducible refine blk6 ?_ _ _ _ _ _ _) | (with_reducible refine Blk.alloc ?_ _))
        · repeat (first | (with_reducible exact HB4.out) | (with_reducible refine drew_up ?_) | (with_reducible refine below6 ?_ (Nat.le_refl _) _ _ _ _ _ _) | (with_reducible refine alloc_up ?_ (by simp; omega) _))
        · rintro W9 ⟨hb9, he9⟩
          have g0 := hb9.cell 0
          have g1 := hb9.cell 1
          have g2 := hb9.cell 2
          have g3 := hb9.cell 3
          have g4 := hb9.cell 4
          have g5 := hb9.cell 5
          simp only [List.getElem?_cons_zero, List.getElem?_cons_succ] at g0 g1 g2 g3 g4 g5
          refine bodyPost_ret (v := .tuple #[.agg #[.int .i64 0, .int .i64 0, .int .i64 0, .int .i64 0, .int .i64 0, .int .i64 0], .bool false]) (by simp [results, Tryz.results82, go_sem, g0, g1, g2, g3, g4, g5]) rfl (HF.out _ _ ⟨0, 0, 0, 0, 0, 0⟩ (by rw [HZ.out]; rfl) HY.out he9)
end Go.Proofs.YtfpcdlpfmlaakaaGreatDoor
