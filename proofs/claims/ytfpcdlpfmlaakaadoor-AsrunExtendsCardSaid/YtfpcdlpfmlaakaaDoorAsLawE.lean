/-
  The walk of the law AsrunExtends.
-/
import Derived.Deep.CutRange
import Derived.Laws.StructEq
import Derived.Test.YtfpcdlpfmlaakaaDoorAsEx
import Derived.Test.YtfpcdlpfmlaakaaDoorAsRb
import Derived.Test.YtfpcdlpfmlaakaaDoorAsA
set_option linter.unusedVariables false
set_option linter.unusedSimpArgs false
namespace Go.Proofs.YtfpcdlpfmlaakaaDoor
open Go.RowKit Onair
attribute [local go_sem ↓] Go.wp_at_zero Go.wp_at_succ
theorem bn_le3 {N : Nat} {w W : World} (hN : w.heap.size = N) (hb : Below N w W) : N ≤ W.heap.size := hN ▸ hb.size
theorem blk3 {W : World} {g : Nat} {t : TypeId} {a b c : Value} (h : Blk W g t [a, b, c]) (x y z : Value) : Blk (((W.setCell ⟨g, 0, none⟩ x).setCell ⟨g, 1, none⟩ y).setCell ⟨g, 2, none⟩ z) g t [x, y, z] := ((h.set 0 x).set 1 y).set 2 z
theorem below3 {B : Nat} {w W : World} {g : Nat} (h : Below B w W) (hg : B ≤ g) (x y z : Value) : Below B w (((W.setCell ⟨g, 0, none⟩ x).setCell ⟨g, 1, none⟩ y).setCell ⟨g, 2, none⟩ z) :=
  ((h.setCell (p := ⟨g, 0, none⟩) hg _).setCell (p := ⟨g, 1, none⟩) hg _).setCell (p := ⟨g, 2, none⟩) hg _
set_option maxHeartbeats 16000000 in
set_option maxRecDepth 100000 in
theorem walkExtends (w : World) (oa : Option Addr) (c : Nat) (l : List (Int × Int)) (hlc : l.length ≤ c) (hcm : c ≤ maxLen) (hI : ∀ q ∈ l, PrI q) (hr : RdP w oa l) (ht : TabAt w) :
    Calls Tryd.prog 3 #[.slice oa l.length c] w fun e w' => e = .returned (.bool true) ∧ Below w.heap.size w w' := by
  unfold maxLen at hcm
  have HSN := Lib.hid (sane_any w ht ht.lt)
  obtain ⟨N, hN⟩ : ∃ N, w.heap.size = N := ⟨_, rfl⟩
  have HNN := Lib.hid hN
  obtain ⟨n, hn⟩ : ∃ n, l.length = n := ⟨_, rfl⟩
  obtain ⟨xs, hxs⟩ : ∃ xs, l.take 80 = xs := ⟨_, rfl⟩
  have hxl : xs.length ≤ 80 := by rw [← hxs, List.length_take]; omega
  have hS := runS_ok xs hxl
  have HS := Lib.hid hS
  have HXN : Hid (xs.length = min n 80) := (show xs.length = min n 80 from by rw [← hxs, List.length_take, hn]; omega)
  have HC : Hid (∀ k, k < n → k < 80 → ∃ b off, oa = some ⟨b, off, none⟩ ∧ b < N ∧ ∀ r, r < 2 → w.cell? ⟨b, off + k * 2 + r, none⟩ = some (.int .i64 (colS xs r k)) ∧ -9223372036854775808 ≤ colS xs r k ∧ colS xs r k ≤ 9223372036854775807) := fun k h1 h2 => by
    have hk : l[k]? = some l[k] := List.getElem?_eq_getElem (by omega)
    obtain ⟨b, off, e, hb, hc⟩ := hr.resolve_left (by intro e; rw [e] at hn; simp at hn; omega)
    refine ⟨b, off, e, hN ▸ hb, fun r hr2 => ?_⟩
    have hq := hI _ (List.mem_of_getElem? hk)
    obtain ⟨q1, q2⟩ := hc k _ hk
    have hx : xs.getD k (0, 0) = l[k] := by
      rw [List.getD_eq_getElem?_getD, ← hxs, List.getElem?_take, if_pos h2, hk]
      rfl
    have : r = 0 ∨ r = 1 := by omega
    rcases this with rfl | rfl
    · have ec : colS xs 0 k = l[k].1 := by unfold colS; rw [if_pos rfl, hx]
      rw [ec]
      exact ⟨q1, hq.1, hq.2.1⟩
    · have ec : colS xs 1 k = l[k].2 := by unfold colS; rw [if_neg (by decide), hx]
      rw [ec]
      exact ⟨by rw [Nat.add_assoc]; exact q2, hq.2.2.1, hq.2.2.2⟩
  rw [hn] at hlc ⊢
  clear hI hr hn hxs ht hN hS
  go_enter Tryd.func3, Tryd.ntmps3
  go_wp2_with fail
  refine HSN.out.mono ?_
  rintro e w1 ⟨rfl, hb1⟩
  have HB1 : Hid (Below N w w1) := by rw [← HNN.out]; exact hb1
  clear hb1 HSN
  have hmk := mkShown w1
  go_upto_region 5 with (fail)
  clear hmk
  obtain ⟨g6, hg6⟩ : ∃ g6, w1.heap.size = g6 := ⟨_, rfl⟩
  have HG6 := Lib.hid hg6
  clear hg6
  rw [HG6.out]
  refine gen_world (fun W => ExW xs w N g6 0 0 none (.slice none 0 0) [] W) ?_ ?_
  · have hk := Blk.new w1 28 [.int .i64 0, .int .i64 0, .int .i64 0, .int .i64 0, .int .i64 0, .int .i64 0]
    rw [HG6.out] at hk
    have hle := bn_le3 HNN.out HB1.out
    exact ⟨.inl rfl, .inl rfl, hk, ⟨World.ownsRow_nil _ _ _ _, fun i hi => by omega, fun e => by simp [Value.ownBlock] at e⟩, HB1.out.alloc hle _, by rw [← HG6.out]; exact hle⟩
  intro w2 hx2
  have HX2 := Lib.hid hx2
  clear hx2 HB1 HG6
  go_wp2_with fail
  go_loopw [4, 5, 7, 8] (fun vl vs vr vf wr => ∃ (k lk cL cS : Nat) (oL oS : Option Addr) (cs : List Value), k ≤ n ∧ k ≤ 80 ∧ vf = .int .i64 k ∧ vl = .slice oL lk cL ∧ vs = .slice oS k cS ∧ vr = .int .i64 lk ∧ Hid (lk = cX (runS xs) k 0) ∧ Hid (ExW xs w N g6 k 0 oL (.slice oS k cS) cs wr)) (fun _ _ _ f _ => n - (intOf f).toNat)
  case atStart => exact ⟨0, 0, 0, 0, none, none, [], Nat.zero_le _, Nat.zero_le _, rfl, rfl, rfl, rfl, rfl, HX2⟩
  case round =>
    obtain ⟨k, lk, cL, cS, oL, oS, cs, hkn, hk80, rfl, rfl, rfl, rfl, HLK, HXk⟩ := hrel
    clear HX2
    by_cases h : k < n ∧ k < 80
    · obtain ⟨h1, h2⟩ := h
      have q1 : (k : Int) < (n : Int) := by omega
      have q2 : (k : Int) < 80 := by omega
      have q3 : (0 : Int) ≤ (k : Int) := by omega
      obtain ⟨b', off, rfl, hb', hc⟩ := HC.out k h1 h2
      have HCC := Lib.hid hc
      clear hc
      go_wp2_with fail
      go_loopw [4, 7, 9] (fun vl vr vi wr => ∃ (r lr cL : Nat) (oL : Option Addr), r ≤ 2 ∧ vi = .int .i64 r ∧ vl = .slice oL lr cL ∧ vr = .int .i64 lr ∧ Hid (lr = cX (runS xs) k r) ∧ Hid (ExW xs w N g6 k r oL (.slice oS k cS) cs wr)) (fun _ _ i _ => 2 - (intOf i).toNat)
      case atStart => exact ⟨0, lk, cL, oL, Nat.zero_le _, rfl, rfl, rfl, HLK, HXk⟩
      case round =>
        clear HLK HXk
        obtain ⟨r, lr, cR, oR, hr2, rfl, rfl, rfl, HLR, HXr⟩ := hrel
        by_cases hrr : r < 2
        · -- INNER BEGIN
          have q4 : (r : Int) < 2 := by omega
          have q5 : (0 : Int) ≤ (r : Int) := by omega
          obtain ⟨e0, e1, e2⟩ := HXr.out.at hrr
          have hbd := runS_bd xs r k
          have hld : 0 ≤ (lastS xs r k).1 ∧ (lastS xs r k).1 ≤ 2 ∧ 0 ≤ (lastS xs r k).2 ∧ (lastS xs r k).2 ≤ 400 := by
            cases k with
            | zero =>
              show (0 : Int) ≤ 0 ∧ (0 : Int) ≤ 2 ∧ (0 : Int) ≤ 0 ∧ (0 : Int) ≤ 400
              exact ⟨by decide, by decide, by decide, by decide⟩
            | succ j =>
              have := runS_bd xs r j
              exact ⟨this.1, this.2.1, this.2.2.1, by have := this.2.2.2.1; show (runS xs r j).2 ≤ _; omega⟩
          have hst := runS_step xs r k
          have hcc := HCC.out r hrr
          have hnr := nr_iff xs k r
          obtain ⟨p1, hp1⟩ : ∃ p1, (lastS xs r k).1 = p1 := ⟨_, rfl⟩
          obtain ⟨p2, hp2⟩ : ∃ p2, (lastS xs r k).2 = p2 := ⟨_, rfl⟩
          obtain ⟨cc, hcv⟩ : ∃ cc, colS xs r k = cc := ⟨_, rfl⟩
          unfold stepS at hst
          rw [hp1, hp2, hcv] at hst
          rw [hp1, hp2] at hnr hld
          rw [hp1] at e0
          rw [hp2] at e1
          rw [hcv] at hcc
          obtain ⟨cc1, cc2, cc3⟩ := hcc
          obtain ⟨hld1, hld2, hld3, hld4⟩ := hld
          have HST := Lib.hid hst
          have HNR := Lib.hid hnr
          have HCK : Hid (∀ W, Below N w W → W.cell? ⟨b', off + k * 2 + r, none⟩ = some (.int .i64 cc)) := fun W hW => (hW.cell (p := ⟨b', off + k * 2 + r, none⟩) hb').trans cc1
          have hgl : g6 < wr.heap.size := HXr.out.la.lt
          have HPP1 := Lib.hid hp1
          have HPP2 := Lib.hid hp2
          clear hst hnr hp1 hp2 hcv cc1 hbd
          go_upto_region 13 with (fail)
          obtain ⟨M, hM⟩ : ∃ M, wr.heap.size = M := ⟨_, rfl⟩
          rw [hM] at hgl
          have HM := Lib.hid hM
          clear hM
          rw [HM.out]
          refine gen_world (fun W => Blk W M 28 [.int .i64 p1, .int .i64 p2, .int .i64 0] ∧ Below M wr W) ⟨?_, ?_⟩ ?_
          · have := Blk.new wr 28 [.int .i64 p1, .int .i64 p2, .int .i64 0]
            rw [HM.out] at this
            exact this
          · exact (Below.refl M wr).alloc (Nat.le_of_eq HM.out.symm) _
          rintro wa ⟨hka, hba⟩
          obtain ⟨p3, hp3⟩ : ∃ p3, (if p1 = 0 then p2 else p2 + 1) = p3 := ⟨_, rfl⟩
          have HP3 := Lib.hid hp3
          have HKA := Lib.hid hka
          have HBA := Lib.hid hba
          have ka0 := hka.cell 0
          have ka1 := hka.cell 1
          have za1 := hka.frozen 1
          simp only [List.getElem?_cons_zero, List.getElem?_cons_succ] at ka0 ka1
          clear hka hba hp3
          go_upto_if 39 with (fail)
          go_cut [10] from 29 to 112 (fun v10 wx => v10 = .pointer (some ⟨M, 0, none⟩) ∧ Hid (Blk wx M 28 [.int .i64 p1, .int .i64 p3, .int .i64 0]) ∧ Hid (Below M wr wx))
          case first =>
            by_cases hz : p1 = 0
            · have b1 : (p1 != 0) = false := by simp [hz]
              have hp : p2 = p3 := by rw [← HP3.out, if_pos hz]
              have HBK : Hid (Blk wa M 28 [.int .i64 p1, .int .i64 p3, .int .i64 0]) := by rw [← hp]; exact HKA
              clear hz hp
              go_wp2_with fail
              go_meet
              exact ⟨rfl, HBK, HBA⟩
            · have b1 : (p1 != 0) = true := by simp [hz]
              have hp : p2 + 1 = p3 := by rw [← HP3.out, if_neg hz]
              have HBK : Hid (Blk (wa.setCell ⟨M, 1, none⟩ (.int .i64 (p2 + 1))) M 28 [.int .i64 p1, .int .i64 p3, .int .i64 0]) := by rw [← hp]; exact HKA.out.set 1 _
              have HBB : Hid (Below M wr (wa.setCell ⟨M, 1, none⟩ (.int .i64 (p2 + 1)))) := HBA.out.setCell (p := ⟨M, 1, none⟩) (Nat.le_refl _) _
              clear hz hp
              go_wp2_with fail
              go_meet
              exact ⟨rfl, HBK, HBB⟩
          case rest =>
            obtain ⟨rfl, HKB, HBB⟩ := hcut
            obtain ⟨wb, rfl⟩ : ∃ wb : World, wb = wc := ⟨_, rfl⟩
            clear HKA HBA ka0 ka1 za1 e0 e1 e2
            have HBN : Hid (∀ W, Below M wr W → Below N w W) := fun W hW => HXr.out.bel.trans (hW.mono (by have := HM.out; have := bn_le3 HNN.out HXr.out.bel; omega))
            have hcx := HCK.out wb (HBN.out wb HBB.out)
            have hpb := pickI_bd cc 5 (by decide)
            have hpb3 := pickI_bd cc 3 (by decide)
            have hpb4 := pickI_bd (cc.tdiv 3) 4 (by decide)
            have htd := tdiv_bd cc 3 (by decide) cc2 cc3
            have HPA := Lib.hid (fun W => pick_any cc 5 W cc2 cc3 (by decide) (by decide))
            have HPB := Lib.hid (fun W => pick_any cc 3 W cc2 cc3 (by decide) (by decide))
            have HPD : Hid (∀ W, Calls Tryd.prog 12 #[.int .i64 (IntKind.i64.wrap (cc.tdiv 3)), .int .i64 4] W fun e w' => e = .returned (.int .i64 (pickI (cc.tdiv 3) 4)) ∧ W = w') := fun W => by rw [IntWalk.i64_in _ (by omega)]; exact pick_any _ _ W htd.1 htd.2 (by decide) (by decide)
            obtain ⟨j5, hj5⟩ : ∃ j, pickI cc 5 = j := ⟨_, rfl⟩
            obtain ⟨j3, hj3⟩ : ∃ j, pickI cc 3 = j := ⟨_, rfl⟩
            obtain ⟨j4, hj4⟩ : ∃ j, pickI (cc.tdiv 3) 4 = j := ⟨_, rfl⟩
            rw [hj5] at hpb
            rw [hj3] at hpb3
            rw [hj4] at hpb4
            simp only [hj5] at HPA
            simp only [hj3] at HPB
            simp only [hj4] at HPD
            rw [hj5, hj3, hj4] at HST
            clear hj5 hj3 hj4 htd
            go_wp2_with fail
            refine (HPA.out _).mono ?_
            rintro e w' ⟨rfl, rfl⟩
            obtain ⟨u1, hu1⟩ : ∃ u1, (if j5 = 0 then j3 else p1) = u1 := ⟨_, rfl⟩
            obtain ⟨u2, hu2⟩ : ∃ u2, (if j5 = 0 then j4 else p3) = u2 := ⟨_, rfl⟩
            have HU1 := Lib.hid hu1
            have HU2 := Lib.hid hu2
            have kb0 := HKB.out.cell 0
            have kb1 := HKB.out.cell 1
            have kb2 := HKB.out.cell 2
            have zb0 := HKB.out.frozen 0
            have zb1 := HKB.out.frozen 1
            have zb2 := HKB.out.frozen 2
            simp only [List.getElem?_cons_zero, List.getElem?_cons_succ] at kb0 kb1 kb2
            have hbM : b' ≠ M := by have := bn_le3 HNN.out HXr.out.bel; have := HM.out; omega
            have hbM2 : M ≠ b' := fun e => hbM e.symm
            clear hu1 hu2 HPA
            go_upto_if 52 with (fail)
            go_cut [10, 11] from 29 to 112 (fun v10 v11 wx => v10 = .pointer (some ⟨M, 0, none⟩) ∧ Hid (Blk wx M 28 [.int .i64 u1, .int .i64 u2, .int .i64 0]) ∧ Hid (Below M wr wx))
            case first =>
              by_cases hz : j5 = 0
              · have b1 : (j5 == 0) = true := by simp [hz]
                have hp1 : j3 = u1 := by rw [← HU1.out, if_pos hz]
                have hp2 : j4 = u2 := by rw [← HU2.out, if_pos hz]
                have HBK : Hid (∀ W, Blk W M 28 [.int .i64 j3, .int .i64 j4, .int .i64 0] → Blk W M 28 [.int .i64 u1, .int .i64 u2, .int .i64 0]) := fun W hW => by rw [← hp1, ← hp2]; exact hW
                clear hz hp1 hp2
                go_wp2_with fail
                go_region_held3 (fun W => W.cell? ⟨b', off + k * 2 + r, none⟩ = some (.int .i64 cc)) (first | go_keep | assumption | (show World.cell? (World.setCell _ _ _) _ = _; iterate 3 rw [World.cell?_setCell_other _ _ _ _ (by simp; omega)]; assumption)) (first
                  | ((with_reducible refine (HPB.out _).mono ?_); rintro e w' ⟨rfl, rfl⟩)
                  | ((with_reducible refine (HPD.out _).mono ?_); rintro e w' ⟨rfl, rfl⟩))
                all_goals
                  go_wp2_with fail
                  go_meet
                  refine ⟨rfl, Lib.hid (HBK.out _ ?_), Lib.hid ?_⟩
                  · repeat (first | (with_reducible exact HKB.out) | (with_reducible refine Blk.drew ?_) | (with_reducible refine blk3 (a := .int .i64 p1) (b := .int .i64 p3) (c := .int .i64 0) ?_ _ _ _))
                  · repeat (first | (with_reducible exact HBB.out) | (with_reducible refine drew_up ?_) | (with_reducible refine below3 ?_ (Nat.le_refl _) _ _ _))
              · have b1 : (j5 == 0) = false := by simp [hz]
                have hp1 : p1 = u1 := by rw [← HU1.out, if_neg hz]
                have hp2 : p3 = u2 := by rw [← HU2.out, if_neg hz]
                have HBK : Hid (Blk wb M 28 [.int .i64 u1, .int .i64 u2, .int .i64 0]) := by rw [← hp1, ← hp2]; exact HKB
                clear hz hp1 hp2
                go_wp2_with fail
                go_meet
                exact ⟨rfl, HBK, HBB⟩
            case rest =>
              obtain ⟨rfl, HKD, HBD⟩ := hcut
              obtain ⟨wd, rfl⟩ : ∃ wd : World, wd = wc := ⟨_, rfl⟩
              clear kb0 kb1 kb2 zb0 zb1 zb2 HKB HBB hcx HPB HPD
              -- the last part of the step
              obtain ⟨v1, hv1⟩ : ∃ v1, (runS xs r k).1 = v1 := ⟨_, rfl⟩
              obtain ⟨v2, hv2⟩ : ∃ v2, (runS xs r k).2 = v2 := ⟨_, rfl⟩
              have hvu : v1 = u1 ∧ v2 = if u1 = 0 then 0 else u2 := by
                rw [← hv1, ← hv2, HST.out]
                dsimp only
                rw [← HU1.out, ← HU2.out, ← HP3.out]
                refine ⟨rfl, ?_⟩
                by_cases hz : j5 = 0
                · simp only [if_pos hz]
                · simp only [if_neg hz]
                  by_cases hy : p1 = 0
                  · simp only [if_pos hy]
                  · simp only [if_neg hy]
              rw [hv1, hv2] at HNR
              obtain ⟨hvu1, hvu2⟩ := hvu
              have HV1 := Lib.hid hv1
              have HV2 := Lib.hid hv2
              have HVU2 := Lib.hid hvu2
              have hvb := runS_bd xs r k
              rw [hv1, hv2] at hvb
              obtain ⟨vb1, vb2, vb3, vb4, _⟩ := hvb
              subst hvu1
              have kd0 := HKD.out.cell 0
              have kd1 := HKD.out.cell 1
              have zd1 := HKD.out.frozen 1
              simp only [List.getElem?_cons_zero, List.getElem?_cons_succ] at kd0 kd1
              clear hv1 hv2 hvu2 HU1 HU2 HST HP3
              go_upto_if 71 with (fail)
              go_cut [10] from 29 to 112 (fun v10 wx => v10 = .pointer (some ⟨M, 0, none⟩) ∧ Hid (Blk wx M 28 [.int .i64 v1, .int .i64 v2, .int .i64 0]) ∧ Hid (Below M wr wx))
              case first =>
                by_cases hz : v1 = 0
                · have b1 : (v1 == 0) = true := by simp [hz]
                  have hp : (0 : Int) = v2 := by rw [HVU2.out, if_pos hz]
                  have HBK : Hid (Blk (wd.setCell ⟨M, 1, none⟩ (.int .i64 0)) M 28 [.int .i64 v1, .int .i64 v2, .int .i64 0]) := by
                    have := HKD.out.set 1 (.int .i64 0)
                    rw [show ([.int .i64 v1, .int .i64 u2, .int .i64 0] : List Value).set 1 (.int .i64 0) = [.int .i64 v1, .int .i64 v2, .int .i64 0] from by rw [← hp]; rfl] at this
                    exact this
                  have HBE : Hid (Below M wr (wd.setCell ⟨M, 1, none⟩ (.int .i64 0))) := HBD.out.setCell (p := ⟨M, 1, none⟩) (Nat.le_refl _) _
                  clear hz hp
                  go_wp2_with fail
                  go_meet
                  exact ⟨rfl, HBK, HBE⟩
                · have b1 : (v1 == 0) = false := by simp [hz]
                  have hp : u2 = v2 := by rw [HVU2.out, if_neg hz]
                  have HBK : Hid (Blk wd M 28 [.int .i64 v1, .int .i64 v2, .int .i64 0]) := by rw [← hp]; exact HKD
                  clear hz hp
                  go_wp2_with fail
                  go_meet
                  exact ⟨rfl, HBK, HBD⟩
              case rest =>
                obtain ⟨rfl, HKE, HBE⟩ := hcut
                obtain ⟨we, rfl⟩ : ∃ we : World, we = wc := ⟨_, rfl⟩
                clear kd0 kd1 zd1 HKD HBD HVU2
                obtain ⟨e0, e1, e2⟩ := HXr.out.at hrr
                obtain ⟨nb, hnb⟩ : ∃ nb : Bool, decide (k = 0 ∨ v1 ≠ p1 ∨ (v1 ≠ 0 ∧ v2 ≠ p2 + 1)) = nb := ⟨_, rfl⟩
                have HNB := Lib.hid hnb
                rw [HPP1.out] at e0
                rw [HPP2.out] at e1
                have kf0 := HKE.out.cell 0
                have kf1 := HKE.out.cell 1
                have kf2 := HKE.out.cell 2
                simp only [List.getElem?_cons_zero, List.getElem?_cons_succ] at kf0 kf1 kf2
                have hgl2 : g6 < wr.heap.size := by rw [HM.out]; exact hgl
                have f0 := (HBE.out.cell (p := ⟨g6, r * 3, none⟩) hgl).trans e0
                have f1 := (HBE.out.cell (p := ⟨g6, r * 3 + 1, none⟩) hgl).trans e1
                have HS20 : Hid (we.cell? ⟨M, 0, none⟩ = some (.int .i64 v1) ∧ we.cell? ⟨M, 1, none⟩ = some (.int .i64 v2) ∧ we.cell? ⟨g6, r * 3, none⟩ = some (.int .i64 p1) ∧ we.cell? ⟨g6, r * 3 + 1, none⟩ = some (.int .i64 p2)) := ⟨kf0, kf1, f0, f1⟩
                clear hnb e0 e1 e2 kf0 kf1 kf2 f0 f1 hgl2
                go_upto_region 20 with (fail)
                go_cut [100] from 29 to 112 (fun v wx => v = .bool nb ∧ Hid (Blk wx M 28 [.int .i64 v1, .int .i64 v2, .int .i64 0]) ∧ Hid (Below M wr wx))
                case first =>
                  have HKE2 : Hid (Blk we.drew M 28 [.int .i64 v1, .int .i64 v2, .int .i64 0]) := HKE.out.drew
                  have HBE2 : Hid (Below M wr we.drew) := HBE.out.drew
                  by_cases hk0 : k = 0
                  · have b1 : ((k : Int) == 0) = true := by rw [beq_iff_eq]; omega
                    have hb : true = nb := by rw [← HNB.out]; exact (decide_eq_true (.inl hk0)).symm
                    have HB := Lib.hid hb
                    clear hk0 hb
                    refine wp_region_held_drew (S := fun W => W.cell? ⟨M, 0, none⟩ = some (.int .i64 v1) ∧ W.cell? ⟨M, 1, none⟩ = some (.int .i64 v2) ∧ W.cell? ⟨g6, r * 3, none⟩ = some (.int .i64 p1) ∧ W.cell? ⟨g6, r * 3 + 1, none⟩ = some (.int .i64 p2)) (by kernel_rfl) ?_ (fun hHeld => ?_)
                    · exact HS20.out
                    refine wpAnyH_take (i := 0) (oi := ⟨some 73, _, _, _, _, _⟩) (v := ?vqa10) rfl (by kernel_rfl) (by kernel_rfl) (by kernel_rfl) (fun _ _ _ h => h) (Or.inl ⟨by rfl, ?yqa10⟩) (by assumption) ?rqa10
                    case yqa10 => (intro w hSw; (try dsimp only at hSw); go_simp; (try (with_reducible rfl)))
                    try simp only [Act.put, List.setIfInBounds_toArray, List.set_cons_zero, List.set_cons_succ]
                    refine wpAnyH_take (i := 1) (oi := ⟨some 74, _, _, _, _, _⟩) (v := .bool true) rfl (by kernel_rfl) (by kernel_rfl) (by kernel_rfl) (fun _ _ _ h => h) (Or.inl ⟨by rfl, ?yqa11⟩) (by assumption) ?rqa11
                    case yqa11 => (intro w hSw; (try dsimp only at hSw); go_simp; (first | done | (with_reducible rfl) | exact b1 | simpa using b1))
                    try simp only [Act.put, List.setIfInBounds_toArray, List.set_cons_zero, List.set_cons_succ]
                    refine wpAnyH_take (i := 2) (oi := ⟨some 75, _, _, _, _, _⟩) (v := ?vqa12) rfl (by kernel_rfl) (by kernel_rfl) (by kernel_rfl) (fun _ _ _ h => h) (Or.inl ⟨by rfl, ?yqa12⟩) (by assumption) ?rqa12
                    case yqa12 => (intro w hSw; (try dsimp only at hSw); go_simp; (try (with_reducible rfl)))
                    try simp only [Act.put, List.setIfInBounds_toArray, List.set_cons_zero, List.set_cons_succ]
                    refine wpAnyH_take (i := 3) (oi := ⟨some 76, _, _, _, _, _⟩) (v := undef) rfl (by kernel_rfl) (by kernel_rfl) (by kernel_rfl) (fun _ _ _ h => h) (Or.inr ⟨by rfl, rfl⟩) (by assumption) ?_
                    try simp only [Act.put, List.setIfInBounds_toArray, List.set_cons_zero, List.set_cons_succ]
                    refine wpAnyH_take (i := 4) (oi := ⟨some 77, _, _, _, _, _⟩) (v := undef) rfl (by kernel_rfl) (by kernel_rfl) (by kernel_rfl) (fun _ _ _ h => h) (Or.inr ⟨by rfl, rfl⟩) (by assumption) ?_
                    try simp only [Act.put, List.setIfInBounds_toArray, List.set_cons_zero, List.set_cons_succ]
                    refine wpAnyH_take (i := 5) (oi := ⟨some 78, _, _, _, _, _⟩) (v := undef) rfl (by kernel_rfl) (by kernel_rfl) (by kernel_rfl) (fun _ _ _ h => h) (Or.inr ⟨by rfl, rfl⟩) (by assumption) ?_
                    try simp only [Act.put, List.setIfInBounds_toArray, List.set_cons_zero, List.set_cons_succ]
                    refine wpAnyH_take (i := 6) (oi := ⟨some 79, _, _, _, _, _⟩) (v := undef) rfl (by kernel_rfl) (by kernel_rfl) (by kernel_rfl) (fun _ _ _ h => h) (Or.inr ⟨by rfl, rfl⟩) (by assumption) ?_
                    try simp only [Act.put, List.setIfInBounds_toArray, List.set_cons_zero, List.set_cons_succ]
                    refine wpAnyH_take (i := 7) (oi := ⟨some 80, _, _, _, _, _⟩) (v := undef) rfl (by kernel_rfl) (by kernel_rfl) (by kernel_rfl) (fun _ _ _ h => h) (Or.inr ⟨by rfl, rfl⟩) (by assumption) ?_
                    try simp only [Act.put, List.setIfInBounds_toArray, List.set_cons_zero, List.set_cons_succ]
                    refine wpAnyH_take (i := 8) (oi := ⟨some 81, _, _, _, _, _⟩) (v := undef) rfl (by kernel_rfl) (by kernel_rfl) (by kernel_rfl) (fun _ _ _ h => h) (Or.inr ⟨by rfl, rfl⟩) (by assumption) ?_
                    try simp only [Act.put, List.setIfInBounds_toArray, List.set_cons_zero, List.set_cons_succ]
                    refine wpAnyH_take (i := 9) (oi := ⟨some 82, _, _, _, _, _⟩) (v := undef) rfl (by kernel_rfl) (by kernel_rfl) (by kernel_rfl) (fun _ _ _ h => h) (Or.inr ⟨by rfl, rfl⟩) (by assumption) ?_
                    try simp only [Act.put, List.setIfInBounds_toArray, List.set_cons_zero, List.set_cons_succ]
                    refine wpAnyH_take (i := 10) (oi := ⟨some 83, _, _, _, _, _⟩) (v := undef) rfl (by kernel_rfl) (by kernel_rfl) (by kernel_rfl) (fun _ _ _ h => h) (Or.inr ⟨by rfl, rfl⟩) (by assumption) ?_
                    try simp only [Act.put, List.setIfInBounds_toArray, List.set_cons_zero, List.set_cons_succ]
                    refine wpAnyH_take (i := 11) (oi := ⟨some 84, _, _, _, _, _⟩) (v := ?vqa111) rfl (by kernel_rfl) (by kernel_rfl) (by kernel_rfl) (fun _ _ _ h => h) (Or.inl ⟨by rfl, ?yqa111⟩) (by assumption) ?rqa111
                    case yqa111 => (intro w hSw; (try dsimp only at hSw); go_simp; (try (with_reducible rfl)))
                    try simp only [Act.put, List.setIfInBounds_toArray, List.set_cons_zero, List.set_cons_succ]
                    refine wpAnyH_take (i := 12) (oi := ⟨some 85, _, _, _, _, _⟩) (v := ?vqa112) rfl (by kernel_rfl) (by kernel_rfl) (by kernel_rfl) (fun _ _ _ h => h) (Or.inl ⟨by rfl, ?yqa112⟩) (by assumption) ?rqa112
                    case yqa112 => (intro w hSw; (try dsimp only at hSw); go_simp; (try (with_reducible rfl)))
                    try simp only [Act.put, List.setIfInBounds_toArray, List.set_cons_zero, List.set_cons_succ]
                    refine wpAnyH_take (i := 13) (oi := ⟨some 86, _, _, _, _, _⟩) (v := undef) rfl (by kernel_rfl) (by kernel_rfl) (by kernel_rfl) (fun _ _ _ h => h) (Or.inr ⟨by rfl, rfl⟩) (by assumption) ?_
                    try simp only [Act.put, List.setIfInBounds_toArray, List.set_cons_zero, List.set_cons_succ]
                    refine wpAnyH_take (i := 14) (oi := ⟨some 87, _, _, _, _, _⟩) (v := undef) rfl (by kernel_rfl) (by kernel_rfl) (by kernel_rfl) (fun _ _ _ h => h) (Or.inr ⟨by rfl, rfl⟩) (by assumption) ?_
                    try simp only [Act.put, List.setIfInBounds_toArray, List.set_cons_zero, List.set_cons_succ]
                    refine wpAnyH_take (i := 15) (oi := ⟨some 88, _, _, _, _, _⟩) (v := undef) rfl (by kernel_rfl) (by kernel_rfl) (by kernel_rfl) (fun _ _ _ h => h) (Or.inr ⟨by rfl, rfl⟩) (by assumption) ?_
                    try simp only [Act.put, List.setIfInBounds_toArray, List.set_cons_zero, List.set_cons_succ]
                    refine wpAnyH_take (i := 16) (oi := ⟨some 89, _, _, _, _, _⟩) (v := undef) rfl (by kernel_rfl) (by kernel_rfl) (by kernel_rfl) (fun _ _ _ h => h) (Or.inr ⟨by rfl, rfl⟩) (by assumption) ?_
                    try simp only [Act.put, List.setIfInBounds_toArray, List.set_cons_zero, List.set_cons_succ]
                    refine wpAnyH_take (i := 17) (oi := ⟨some 90, _, _, _, _, _⟩) (v := undef) rfl (by kernel_rfl) (by kernel_rfl) (by kernel_rfl) (fun _ _ _ h => h) (Or.inr ⟨by rfl, rfl⟩) (by assumption) ?_
                    try simp only [Act.put, List.setIfInBounds_toArray, List.set_cons_zero, List.set_cons_succ]
                    refine wpAnyH_take (i := 18) (oi := ⟨some 91, _, _, _, _, _⟩) (v := undef) rfl (by kernel_rfl) (by kernel_rfl) (by kernel_rfl) (fun _ _ _ h => h) (Or.inr ⟨by rfl, rfl⟩) (by assumption) ?_
                    try simp only [Act.put, List.setIfInBounds_toArray, List.set_cons_zero, List.set_cons_succ]
                    refine wpAnyH_take (i := 19) (oi := ⟨some 92, _, _, _, _, _⟩) (v := undef) rfl (by kernel_rfl) (by kernel_rfl) (by kernel_rfl) (fun _ _ _ h => h) (Or.inr ⟨by rfl, rfl⟩) (by assumption) ?_
                    try simp only [Act.put, List.setIfInBounds_toArray, List.set_cons_zero, List.set_cons_succ]
                    refine wpAnyH_take (i := 20) (oi := ⟨some 93, _, _, _, _, _⟩) (v := undef) rfl (by kernel_rfl) (by kernel_rfl) (by kernel_rfl) (fun _ _ _ h => h) (Or.inr ⟨by rfl, rfl⟩) (by assumption) ?_
                    try simp only [Act.put, List.setIfInBounds_toArray, List.set_cons_zero, List.set_cons_succ]
                    refine wpAnyH_take (i := 21) (oi := ⟨some 94, _, _, _, _, _⟩) (v := undef) rfl (by kernel_rfl) (by kernel_rfl) (by kernel_rfl) (fun _ _ _ h => h) (Or.inr ⟨by rfl, rfl⟩) (by assumption) ?_
                    try simp only [Act.put, List.setIfInBounds_toArray, List.set_cons_zero, List.set_cons_succ]
                    refine wpAnyH_take (i := 22) (oi := ⟨some 95, _, _, _, _, _⟩) (v := undef) rfl (by kernel_rfl) (by kernel_rfl) (by kernel_rfl) (fun _ _ _ h => h) (Or.inr ⟨by rfl, rfl⟩) (by assumption) ?_
                    try simp only [Act.put, List.setIfInBounds_toArray, List.set_cons_zero, List.set_cons_succ]
                    refine wpAnyH_take (i := 23) (oi := ⟨some 96, _, _, _, _, _⟩) (v := undef) rfl (by kernel_rfl) (by kernel_rfl) (by kernel_rfl) (fun _ _ _ h => h) (Or.inr ⟨by rfl, rfl⟩) (by assumption) ?_
                    try simp only [Act.put, List.setIfInBounds_toArray, List.set_cons_zero, List.set_cons_succ]
                    refine wpAnyH_take (i := 24) (oi := ⟨some 97, _, _, _, _, _⟩) (v := undef) rfl (by kernel_rfl) (by kernel_rfl) (by kernel_rfl) (fun _ _ _ h => h) (Or.inr ⟨by rfl, rfl⟩) (by assumption) ?_
                    try simp only [Act.put, List.setIfInBounds_toArray, List.set_cons_zero, List.set_cons_succ]
                    refine wpAnyH_take (i := 25) (oi := ⟨some 98, _, _, _, _, _⟩) (v := undef) rfl (by kernel_rfl) (by kernel_rfl) (by kernel_rfl) (fun _ _ _ h => h) (Or.inr ⟨by rfl, rfl⟩) (by assumption) ?_
                    try simp only [Act.put, List.setIfInBounds_toArray, List.set_cons_zero, List.set_cons_succ]
                    refine wpAnyH_take (i := 26) (oi := ⟨some 99, _, _, _, _, _⟩) (v := undef) rfl (by kernel_rfl) (by kernel_rfl) (by kernel_rfl) (fun _ _ _ h => h) (Or.inr ⟨by rfl, rfl⟩) (by assumption) ?_
                    try simp only [Act.put, List.setIfInBounds_toArray, List.set_cons_zero, List.set_cons_succ]
                    refine wpAnyH_take (i := 27) (oi := ⟨some 100, _, _, _, _, _⟩) (v := ?vqa127) rfl (by kernel_rfl) (by kernel_rfl) (by kernel_rfl) (fun _ _ _ h => h) (Or.inl ⟨by rfl, ?yqa127⟩) (by assumption) ?rqa127
                    case yqa127 => (intro w hSw; (try dsimp only at hSw); go_simp; (try (with_reducible rfl)))
                    try simp only [Act.put, List.setIfInBounds_toArray, List.set_cons_zero, List.set_cons_succ]
                    refine wpAnyH_done (by kernel_rfl) ?_ _
                    clear hHeld
                    go_wp2_with fail
                    go_meet
                    exact ⟨by rw [← HB.out], HKE2, HBE2⟩
                  · have b1 : ((k : Int) == 0) = false := by rw [beq_eq_false_iff_ne]; omega
                    by_cases hv : v1 = p1
                    · have b2 : (v1 != p1) = false := by simp [hv]
                      by_cases hv0 : v1 = 0
                      · have b3 : (v1 != 0) = false := by simp [hv0]
                        have hb : false = nb := by
                          rw [← HNB.out]
                          exact (decide_eq_false (fun h => h.elim hk0 (fun h => h.elim (fun h => h hv) (fun h => h.1 hv0)))).symm
                        have HB := Lib.hid hb
                        clear hk0 hb hv hv0
                        refine wp_region_held_drew (S := fun W => W.cell? ⟨M, 0, none⟩ = some (.int .i64 v1) ∧ W.cell? ⟨M, 1, none⟩ = some (.int .i64 v2) ∧ W.cell? ⟨g6, r * 3, none⟩ = some (.int .i64 p1) ∧ W.cell? ⟨g6, r * 3 + 1, none⟩ = some (.int .i64 p2)) (by kernel_rfl) ?_ (fun hHeld => ?_)
                        · exact HS20.out
                        refine wpAnyH_take (i := 0) (oi := ⟨some 73, _, _, _, _, _⟩) (v := ?vqc10) rfl (by kernel_rfl) (by kernel_rfl) (by kernel_rfl) (fun _ _ _ h => h) (Or.inl ⟨by rfl, ?yqc10⟩) (by assumption) ?rqc10
                        case yqc10 => (intro w hSw; (try dsimp only at hSw); go_simp; (try (with_reducible rfl)))
                        try simp only [Act.put, List.setIfInBounds_toArray, List.set_cons_zero, List.set_cons_succ]
                        refine wpAnyH_take (i := 1) (oi := ⟨some 74, _, _, _, _, _⟩) (v := .bool false) rfl (by kernel_rfl) (by kernel_rfl) (by kernel_rfl) (fun _ _ _ h => h) (Or.inl ⟨by rfl, ?yqc11⟩) (by assumption) ?rqc11
                        case yqc11 => (intro w hSw; (try dsimp only at hSw); go_simp; (first | done | (with_reducible rfl) | exact b1 | simpa using b1))
                        try simp only [Act.put, List.setIfInBounds_toArray, List.set_cons_zero, List.set_cons_succ]
                        refine wpAnyH_take (i := 2) (oi := ⟨some 75, _, _, _, _, _⟩) (v := ?vqc12) rfl (by kernel_rfl) (by kernel_rfl) (by kernel_rfl) (fun _ _ _ h => h) (Or.inl ⟨by rfl, ?yqc12⟩) (by assumption) ?rqc12
                        case yqc12 => (intro w hSw; (try dsimp only at hSw); go_simp; (try (with_reducible rfl)))
                        try simp only [Act.put, List.setIfInBounds_toArray, List.set_cons_zero, List.set_cons_succ]
                        refine wpAnyH_take (i := 3) (oi := ⟨some 76, _, _, _, _, _⟩) (v := ?vqc13) rfl (by kernel_rfl) (by kernel_rfl) (by kernel_rfl) (fun _ _ _ h => h) (Or.inl ⟨by rfl, ?yqc13⟩) (by assumption) ?rqc13
                        case yqc13 => (intro w hSw; (try dsimp only at hSw); go_simp; (try (with_reducible rfl)))
                        try simp only [Act.put, List.setIfInBounds_toArray, List.set_cons_zero, List.set_cons_succ]
                        refine wpAnyH_take (i := 4) (oi := ⟨some 77, _, _, _, _, _⟩) (v := ?vqc14) rfl (by kernel_rfl) (by kernel_rfl) (by kernel_rfl) (fun _ _ _ h => h) (Or.inl ⟨by rfl, ?yqc14⟩) (by assumption) ?rqc14
                        case yqc14 => (intro w hSw; (try dsimp only at hSw); go_simp; (try (with_reducible rfl)))
                        try simp only [Act.put, List.setIfInBounds_toArray, List.set_cons_zero, List.set_cons_succ]
                        refine wpAnyH_take (i := 5) (oi := ⟨some 78, _, _, _, _, _⟩) (v := ?vqc15) rfl (by kernel_rfl) (by kernel_rfl) (by kernel_rfl) (fun _ _ _ h => h) (Or.inl ⟨by rfl, ?yqc15⟩) (by assumption) ?rqc15
                        case yqc15 => (intro w hSw; (try dsimp only at hSw); go_simp; (try (with_reducible rfl)))
                        try simp only [Act.put, List.setIfInBounds_toArray, List.set_cons_zero, List.set_cons_succ]
                        refine wpAnyH_take (i := 6) (oi := ⟨some 79, _, _, _, _, _⟩) (v := ?vqc16) rfl (by kernel_rfl) (by kernel_rfl) (by kernel_rfl) (fun _ _ _ h => h) (Or.inl ⟨by rfl, ?yqc16⟩) (by assumption) ?rqc16
                        case yqc16 => (intro w hSw; (try dsimp only at hSw); go_simp; (try (with_reducible rfl)))
                        try simp only [Act.put, List.setIfInBounds_toArray, List.set_cons_zero, List.set_cons_succ]
                        refine wpAnyH_take (i := 7) (oi := ⟨some 80, _, _, _, _, _⟩) (v := ?vqc17) rfl (by kernel_rfl) (by kernel_rfl) (by kernel_rfl) (fun _ _ _ h => h) (Or.inl ⟨by rfl, ?yqc17⟩) (by assumption) ?rqc17
                        case yqc17 => (intro w hSw; (try dsimp only at hSw); go_simp; (try (with_reducible rfl)))
                        try simp only [Act.put, List.setIfInBounds_toArray, List.set_cons_zero, List.set_cons_succ]
                        refine wpAnyH_take (i := 8) (oi := ⟨some 81, _, _, _, _, _⟩) (v := ?vqc18) rfl (by kernel_rfl) (by kernel_rfl) (by kernel_rfl) (fun _ _ _ h => h) (Or.inl ⟨by rfl, ?yqc18⟩) (by assumption) ?rqc18
                        case yqc18 => (intro w hSw; (try dsimp only at hSw); go_simp; (try (with_reducible rfl)))
                        try simp only [Act.put, List.setIfInBounds_toArray, List.set_cons_zero, List.set_cons_succ]
                        refine wpAnyH_take (i := 9) (oi := ⟨some 82, _, _, _, _, _⟩) (v := ?vqc19) rfl (by kernel_rfl) (by kernel_rfl) (by kernel_rfl) (fun _ _ _ h => h) (Or.inl ⟨by rfl, ?yqc19⟩) (by assumption) ?rqc19
                        case yqc19 => (intro w hSw; (try dsimp only at hSw); go_simp; (try (with_reducible rfl)))
                        try simp only [Act.put, List.setIfInBounds_toArray, List.set_cons_zero, List.set_cons_succ]
                        refine wpAnyH_take (i := 10) (oi := ⟨some 83, _, _, _, _, _⟩) (v := .bool false) rfl (by kernel_rfl) (by kernel_rfl) (by kernel_rfl) (fun _ _ _ h => h) (Or.inl ⟨by rfl, ?yqc110⟩) (by assumption) ?rqc110
                        case yqc110 => (intro w hSw; (try dsimp only at hSw); go_simp; (first | done | (with_reducible rfl) | exact b2 | simpa using b2))
                        try simp only [Act.put, List.setIfInBounds_toArray, List.set_cons_zero, List.set_cons_succ]
                        refine wpAnyH_take (i := 11) (oi := ⟨some 84, _, _, _, _, _⟩) (v := ?vqc111) rfl (by kernel_rfl) (by kernel_rfl) (by kernel_rfl) (fun _ _ _ h => h) (Or.inl ⟨by rfl, ?yqc111⟩) (by assumption) ?rqc111
                        case yqc111 => (intro w hSw; (try dsimp only at hSw); go_simp; (try (with_reducible rfl)))
                        try simp only [Act.put, List.setIfInBounds_toArray, List.set_cons_zero, List.set_cons_succ]
                        refine wpAnyH_take (i := 12) (oi := ⟨some 85, _, _, _, _, _⟩) (v := ?vqc112) rfl (by kernel_rfl) (by kernel_rfl) (by kernel_rfl) (fun _ _ _ h => h) (Or.inl ⟨by rfl, ?yqc112⟩) (by assumption) ?rqc112
                        case yqc112 => (intro w hSw; (try dsimp only at hSw); go_simp; (try (with_reducible rfl)))
                        try simp only [Act.put, List.setIfInBounds_toArray, List.set_cons_zero, List.set_cons_succ]
                        refine wpAnyH_take (i := 13) (oi := ⟨some 86, _, _, _, _, _⟩) (v := ?vqc113) rfl (by kernel_rfl) (by kernel_rfl) (by kernel_rfl) (fun _ _ _ h => h) (Or.inl ⟨by rfl, ?yqc113⟩) (by assumption) ?rqc113
                        case yqc113 => (intro w hSw; (try dsimp only at hSw); go_simp; (try (with_reducible rfl)))
                        try simp only [Act.put, List.setIfInBounds_toArray, List.set_cons_zero, List.set_cons_succ]
                        refine wpAnyH_take (i := 14) (oi := ⟨some 87, _, _, _, _, _⟩) (v := ?vqc114) rfl (by kernel_rfl) (by kernel_rfl) (by kernel_rfl) (fun _ _ _ h => h) (Or.inl ⟨by rfl, ?yqc114⟩) (by assumption) ?rqc114
                        case yqc114 => (intro w hSw; (try dsimp only at hSw); go_simp; (try (with_reducible rfl)))
                        try simp only [Act.put, List.setIfInBounds_toArray, List.set_cons_zero, List.set_cons_succ]
                        refine wpAnyH_take (i := 15) (oi := ⟨some 88, _, _, _, _, _⟩) (v := .bool false) rfl (by kernel_rfl) (by kernel_rfl) (by kernel_rfl) (fun _ _ _ h => h) (Or.inl ⟨by rfl, ?yqc115⟩) (by assumption) ?rqc115
                        case yqc115 => (intro w hSw; (try dsimp only at hSw); go_simp; (first | done | (with_reducible rfl) | exact b3 | simpa using b3))
                        try simp only [Act.put, List.setIfInBounds_toArray, List.set_cons_zero, List.set_cons_succ]
                        refine wpAnyH_take (i := 16) (oi := ⟨some 89, _, _, _, _, _⟩) (v := ?vqc116) rfl (by kernel_rfl) (by kernel_rfl) (by kernel_rfl) (fun _ _ _ h => h) (Or.inl ⟨by rfl, ?yqc116⟩) (by assumption) ?rqc116
                        case yqc116 => (intro w hSw; (try dsimp only at hSw); go_simp; (try (with_reducible rfl)))
                        try simp only [Act.put, List.setIfInBounds_toArray, List.set_cons_zero, List.set_cons_succ]
                        refine wpAnyH_take (i := 17) (oi := ⟨some 90, _, _, _, _, _⟩) (v := undef) rfl (by kernel_rfl) (by kernel_rfl) (by kernel_rfl) (fun _ _ _ h => h) (Or.inr ⟨by rfl, rfl⟩) (by assumption) ?_
                        try simp only [Act.put, List.setIfInBounds_toArray, List.set_cons_zero, List.set_cons_succ]
                        refine wpAnyH_take (i := 18) (oi := ⟨some 91, _, _, _, _, _⟩) (v := undef) rfl (by kernel_rfl) (by kernel_rfl) (by kernel_rfl) (fun _ _ _ h => h) (Or.inr ⟨by rfl, rfl⟩) (by assumption) ?_
                        try simp only [Act.put, List.setIfInBounds_toArray, List.set_cons_zero, List.set_cons_succ]
                        refine wpAnyH_take (i := 19) (oi := ⟨some 92, _, _, _, _, _⟩) (v := undef) rfl (by kernel_rfl) (by kernel_rfl) (by kernel_rfl) (fun _ _ _ h => h) (Or.inr ⟨by rfl, rfl⟩) (by assumption) ?_
                        try simp only [Act.put, List.setIfInBounds_toArray, List.set_cons_zero, List.set_cons_succ]
                        refine wpAnyH_take (i := 20) (oi := ⟨some 93, _, _, _, _, _⟩) (v := undef) rfl (by kernel_rfl) (by kernel_rfl) (by kernel_rfl) (fun _ _ _ h => h) (Or.inr ⟨by rfl, rfl⟩) (by assumption) ?_
                        try simp only [Act.put, List.setIfInBounds_toArray, List.set_cons_zero, List.set_cons_succ]
                        refine wpAnyH_take (i := 21) (oi := ⟨some 94, _, _, _, _, _⟩) (v := undef) rfl (by kernel_rfl) (by kernel_rfl) (by kernel_rfl) (fun _ _ _ h => h) (Or.inr ⟨by rfl, rfl⟩) (by assumption) ?_
                        try simp only [Act.put, List.setIfInBounds_toArray, List.set_cons_zero, List.set_cons_succ]
                        refine wpAnyH_take (i := 22) (oi := ⟨some 95, _, _, _, _, _⟩) (v := undef) rfl (by kernel_rfl) (by kernel_rfl) (by kernel_rfl) (fun _ _ _ h => h) (Or.inr ⟨by rfl, rfl⟩) (by assumption) ?_
                        try simp only [Act.put, List.setIfInBounds_toArray, List.set_cons_zero, List.set_cons_succ]
                        refine wpAnyH_take (i := 23) (oi := ⟨some 96, _, _, _, _, _⟩) (v := undef) rfl (by kernel_rfl) (by kernel_rfl) (by kernel_rfl) (fun _ _ _ h => h) (Or.inr ⟨by rfl, rfl⟩) (by assumption) ?_
                        try simp only [Act.put, List.setIfInBounds_toArray, List.set_cons_zero, List.set_cons_succ]
                        refine wpAnyH_take (i := 24) (oi := ⟨some 97, _, _, _, _, _⟩) (v := undef) rfl (by kernel_rfl) (by kernel_rfl) (by kernel_rfl) (fun _ _ _ h => h) (Or.inr ⟨by rfl, rfl⟩) (by assumption) ?_
                        try simp only [Act.put, List.setIfInBounds_toArray, List.set_cons_zero, List.set_cons_succ]
                        refine wpAnyH_take (i := 25) (oi := ⟨some 98, _, _, _, _, _⟩) (v := undef) rfl (by kernel_rfl) (by kernel_rfl) (by kernel_rfl) (fun _ _ _ h => h) (Or.inr ⟨by rfl, rfl⟩) (by assumption) ?_
                        try simp only [Act.put, List.setIfInBounds_toArray, List.set_cons_zero, List.set_cons_succ]
                        refine wpAnyH_take (i := 26) (oi := ⟨some 99, _, _, _, _, _⟩) (v := ?vqc126) rfl (by kernel_rfl) (by kernel_rfl) (by kernel_rfl) (fun _ _ _ h => h) (Or.inl ⟨by rfl, ?yqc126⟩) (by assumption) ?rqc126
                        case yqc126 => (intro w hSw; (try dsimp only at hSw); go_simp; (try (with_reducible rfl)))
                        try simp only [Act.put, List.setIfInBounds_toArray, List.set_cons_zero, List.set_cons_succ]
                        refine wpAnyH_take (i := 27) (oi := ⟨some 100, _, _, _, _, _⟩) (v := ?vqc127) rfl (by kernel_rfl) (by kernel_rfl) (by kernel_rfl) (fun _ _ _ h => h) (Or.inl ⟨by rfl, ?yqc127⟩) (by assumption) ?rqc127
                        case yqc127 => (intro w hSw; (try dsimp only at hSw); go_simp; (try (with_reducible rfl)))
                        try simp only [Act.put, List.setIfInBounds_toArray, List.set_cons_zero, List.set_cons_succ]
                        refine wpAnyH_done (by kernel_rfl) ?_ _
                        clear hHeld
                        go_wp2_with fail
                        go_meet
                        exact ⟨by rw [← HB.out], HKE2, HBE2⟩
                      · have b3 : (v1 != 0) = true := by simp [hv0]
                        have hb : (v2 != p2 + 1) = nb := by
                          rw [← HNB.out]
                          by_cases hv2 : v2 = p2 + 1
                          · rw [show (v2 != p2 + 1) = false by simp [hv2]]
                            exact (decide_eq_false (fun h => h.elim hk0 (fun h => h.elim (fun h => h hv) (fun h => h.2 hv2)))).symm
                          · rw [show (v2 != p2 + 1) = true by simp [hv2]]
                            exact (decide_eq_true (.inr (.inr ⟨hv0, hv2⟩))).symm
                        obtain ⟨bb, hbb⟩ : ∃ bb, (v2 != p2 + 1) = bb := ⟨_, rfl⟩
                        have hw : IntKind.i64.wrap (p2 + 1) = p2 + 1 := IntWalk.i64_in _ (by omega)
                        have HB : Hid (bb = nb) := by rw [← hbb]; exact hb
                        clear hk0 hb hv hv0
                        refine wp_region_held_drew (S := fun W => W.cell? ⟨M, 0, none⟩ = some (.int .i64 v1) ∧ W.cell? ⟨M, 1, none⟩ = some (.int .i64 v2) ∧ W.cell? ⟨g6, r * 3, none⟩ = some (.int .i64 p1) ∧ W.cell? ⟨g6, r * 3 + 1, none⟩ = some (.int .i64 p2)) (by kernel_rfl) ?_ (fun hHeld => ?_)
                        · exact HS20.out
                        refine wpAnyH_take (i := 0) (oi := ⟨some 73, _, _, _, _, _⟩) (v := ?vqd10) rfl (by kernel_rfl) (by kernel_rfl) (by kernel_rfl) (fun _ _ _ h => h) (Or.inl ⟨by rfl, ?yqd10⟩) (by assumption) ?rqd10
                        case yqd10 => (intro w hSw; (try dsimp only at hSw); go_simp; (try (with_reducible rfl)))
                        try simp only [Act.put, List.setIfInBounds_toArray, List.set_cons_zero, List.set_cons_succ]
                        refine wpAnyH_take (i := 1) (oi := ⟨some 74, _, _, _, _, _⟩) (v := .bool false) rfl (by kernel_rfl) (by kernel_rfl) (by kernel_rfl) (fun _ _ _ h => h) (Or.inl ⟨by rfl, ?yqd11⟩) (by assumption) ?rqd11
                        case yqd11 => (intro w hSw; (try dsimp only at hSw); go_simp; (first | done | (with_reducible rfl) | exact b1 | simpa using b1))
                        try simp only [Act.put, List.setIfInBounds_toArray, List.set_cons_zero, List.set_cons_succ]
                        refine wpAnyH_take (i := 2) (oi := ⟨some 75, _, _, _, _, _⟩) (v := ?vqd12) rfl (by kernel_rfl) (by kernel_rfl) (by kernel_rfl) (fun _ _ _ h => h) (Or.inl ⟨by rfl, ?yqd12⟩) (by assumption) ?rqd12
                        case yqd12 => (intro w hSw; (try dsimp only at hSw); go_simp; (try (with_reducible rfl)))
                        try simp only [Act.put, List.setIfInBounds_toArray, List.set_cons_zero, List.set_cons_succ]
                        refine wpAnyH_take (i := 3) (oi := ⟨some 76, _, _, _, _, _⟩) (v := ?vqd13) rfl (by kernel_rfl) (by kernel_rfl) (by kernel_rfl) (fun _ _ _ h => h) (Or.inl ⟨by rfl, ?yqd13⟩) (by assumption) ?rqd13
                        case yqd13 => (intro w hSw; (try dsimp only at hSw); go_simp; (try (with_reducible rfl)))
                        try simp only [Act.put, List.setIfInBounds_toArray, List.set_cons_zero, List.set_cons_succ]
                        refine wpAnyH_take (i := 4) (oi := ⟨some 77, _, _, _, _, _⟩) (v := ?vqd14) rfl (by kernel_rfl) (by kernel_rfl) (by kernel_rfl) (fun _ _ _ h => h) (Or.inl ⟨by rfl, ?yqd14⟩) (by assumption) ?rqd14
                        case yqd14 => (intro w hSw; (try dsimp only at hSw); go_simp; (try (with_reducible rfl)))
                        try simp only [Act.put, List.setIfInBounds_toArray, List.set_cons_zero, List.set_cons_succ]
                        refine wpAnyH_take (i := 5) (oi := ⟨some 78, _, _, _, _, _⟩) (v := ?vqd15) rfl (by kernel_rfl) (by kernel_rfl) (by kernel_rfl) (fun _ _ _ h => h) (Or.inl ⟨by rfl, ?yqd15⟩) (by assumption) ?rqd15
                        case yqd15 => (intro w hSw; (try dsimp only at hSw); go_simp; (try (with_reducible rfl)))
                        try simp only [Act.put, List.setIfInBounds_toArray, List.set_cons_zero, List.set_cons_succ]
                        refine wpAnyH_take (i := 6) (oi := ⟨some 79, _, _, _, _, _⟩) (v := ?vqd16) rfl (by kernel_rfl) (by kernel_rfl) (by kernel_rfl) (fun _ _ _ h => h) (Or.inl ⟨by rfl, ?yqd16⟩) (by assumption) ?rqd16
                        case yqd16 => (intro w hSw; (try dsimp only at hSw); go_simp; (try (with_reducible rfl)))
                        try simp only [Act.put, List.setIfInBounds_toArray, List.set_cons_zero, List.set_cons_succ]
                        refine wpAnyH_take (i := 7) (oi := ⟨some 80, _, _, _, _, _⟩) (v := ?vqd17) rfl (by kernel_rfl) (by kernel_rfl) (by kernel_rfl) (fun _ _ _ h => h) (Or.inl ⟨by rfl, ?yqd17⟩) (by assumption) ?rqd17
                        case yqd17 => (intro w hSw; (try dsimp only at hSw); go_simp; (try (with_reducible rfl)))
                        try simp only [Act.put, List.setIfInBounds_toArray, List.set_cons_zero, List.set_cons_succ]
                        refine wpAnyH_take (i := 8) (oi := ⟨some 81, _, _, _, _, _⟩) (v := ?vqd18) rfl (by kernel_rfl) (by kernel_rfl) (by kernel_rfl) (fun _ _ _ h => h) (Or.inl ⟨by rfl, ?yqd18⟩) (by assumption) ?rqd18
                        case yqd18 => (intro w hSw; (try dsimp only at hSw); go_simp; (try (with_reducible rfl)))
                        try simp only [Act.put, List.setIfInBounds_toArray, List.set_cons_zero, List.set_cons_succ]
                        refine wpAnyH_take (i := 9) (oi := ⟨some 82, _, _, _, _, _⟩) (v := ?vqd19) rfl (by kernel_rfl) (by kernel_rfl) (by kernel_rfl) (fun _ _ _ h => h) (Or.inl ⟨by rfl, ?yqd19⟩) (by assumption) ?rqd19
                        case yqd19 => (intro w hSw; (try dsimp only at hSw); go_simp; (try (with_reducible rfl)))
                        try simp only [Act.put, List.setIfInBounds_toArray, List.set_cons_zero, List.set_cons_succ]
                        refine wpAnyH_take (i := 10) (oi := ⟨some 83, _, _, _, _, _⟩) (v := .bool false) rfl (by kernel_rfl) (by kernel_rfl) (by kernel_rfl) (fun _ _ _ h => h) (Or.inl ⟨by rfl, ?yqd110⟩) (by assumption) ?rqd110
                        case yqd110 => (intro w hSw; (try dsimp only at hSw); go_simp; (first | done | (with_reducible rfl) | exact b2 | simpa using b2))
                        try simp only [Act.put, List.setIfInBounds_toArray, List.set_cons_zero, List.set_cons_succ]
                        refine wpAnyH_take (i := 11) (oi := ⟨some 84, _, _, _, _, _⟩) (v := ?vqd111) rfl (by kernel_rfl) (by kernel_rfl) (by kernel_rfl) (fun _ _ _ h => h) (Or.inl ⟨by rfl, ?yqd111⟩) (by assumption) ?rqd111
                        case yqd111 => (intro w hSw; (try dsimp only at hSw); go_simp; (try (with_reducible rfl)))
                        try simp only [Act.put, List.setIfInBounds_toArray, List.set_cons_zero, List.set_cons_succ]
                        refine wpAnyH_take (i := 12) (oi := ⟨some 85, _, _, _, _, _⟩) (v := ?vqd112) rfl (by kernel_rfl) (by kernel_rfl) (by kernel_rfl) (fun _ _ _ h => h) (Or.inl ⟨by rfl, ?yqd112⟩) (by assumption) ?rqd112
                        case yqd112 => (intro w hSw; (try dsimp only at hSw); go_simp; (try (with_reducible rfl)))
                        try simp only [Act.put, List.setIfInBounds_toArray, List.set_cons_zero, List.set_cons_succ]
                        refine wpAnyH_take (i := 13) (oi := ⟨some 86, _, _, _, _, _⟩) (v := ?vqd113) rfl (by kernel_rfl) (by kernel_rfl) (by kernel_rfl) (fun _ _ _ h => h) (Or.inl ⟨by rfl, ?yqd113⟩) (by assumption) ?rqd113
                        case yqd113 => (intro w hSw; (try dsimp only at hSw); go_simp; (try (with_reducible rfl)))
                        try simp only [Act.put, List.setIfInBounds_toArray, List.set_cons_zero, List.set_cons_succ]
                        refine wpAnyH_take (i := 14) (oi := ⟨some 87, _, _, _, _, _⟩) (v := ?vqd114) rfl (by kernel_rfl) (by kernel_rfl) (by kernel_rfl) (fun _ _ _ h => h) (Or.inl ⟨by rfl, ?yqd114⟩) (by assumption) ?rqd114
                        case yqd114 => (intro w hSw; (try dsimp only at hSw); go_simp; (try (with_reducible rfl)))
                        try simp only [Act.put, List.setIfInBounds_toArray, List.set_cons_zero, List.set_cons_succ]
                        refine wpAnyH_take (i := 15) (oi := ⟨some 88, _, _, _, _, _⟩) (v := .bool true) rfl (by kernel_rfl) (by kernel_rfl) (by kernel_rfl) (fun _ _ _ h => h) (Or.inl ⟨by rfl, ?yqd115⟩) (by assumption) ?rqd115
                        case yqd115 => (intro w hSw; (try dsimp only at hSw); go_simp; (first | done | (with_reducible rfl) | exact b3 | simpa using b3))
                        try simp only [Act.put, List.setIfInBounds_toArray, List.set_cons_zero, List.set_cons_succ]
                        refine wpAnyH_take (i := 16) (oi := ⟨some 89, _, _, _, _, _⟩) (v := ?vqd116) rfl (by kernel_rfl) (by kernel_rfl) (by kernel_rfl) (fun _ _ _ h => h) (Or.inl ⟨by rfl, ?yqd116⟩) (by assumption) ?rqd116
                        case yqd116 => (intro w hSw; (try dsimp only at hSw); go_simp; (try (with_reducible rfl)))
                        try simp only [Act.put, List.setIfInBounds_toArray, List.set_cons_zero, List.set_cons_succ]
                        refine wpAnyH_take (i := 17) (oi := ⟨some 90, _, _, _, _, _⟩) (v := ?vqd117) rfl (by kernel_rfl) (by kernel_rfl) (by kernel_rfl) (fun _ _ _ h => h) (Or.inl ⟨by rfl, ?yqd117⟩) (by assumption) ?rqd117
                        case yqd117 => (intro w hSw; (try dsimp only at hSw); go_simp; (try (with_reducible rfl)))
                        try simp only [Act.put, List.setIfInBounds_toArray, List.set_cons_zero, List.set_cons_succ]
                        refine wpAnyH_take (i := 18) (oi := ⟨some 91, _, _, _, _, _⟩) (v := ?vqd118) rfl (by kernel_rfl) (by kernel_rfl) (by kernel_rfl) (fun _ _ _ h => h) (Or.inl ⟨by rfl, ?yqd118⟩) (by assumption) ?rqd118
                        case yqd118 => (intro w hSw; (try dsimp only at hSw); go_simp; (try (with_reducible rfl)))
                        try simp only [Act.put, List.setIfInBounds_toArray, List.set_cons_zero, List.set_cons_succ]
                        refine wpAnyH_take (i := 19) (oi := ⟨some 92, _, _, _, _, _⟩) (v := ?vqd119) rfl (by kernel_rfl) (by kernel_rfl) (by kernel_rfl) (fun _ _ _ h => h) (Or.inl ⟨by rfl, ?yqd119⟩) (by assumption) ?rqd119
                        case yqd119 => (intro w hSw; (try dsimp only at hSw); go_simp; (try (with_reducible rfl)))
                        try simp only [Act.put, List.setIfInBounds_toArray, List.set_cons_zero, List.set_cons_succ]
                        refine wpAnyH_take (i := 20) (oi := ⟨some 93, _, _, _, _, _⟩) (v := ?vqd120) rfl (by kernel_rfl) (by kernel_rfl) (by kernel_rfl) (fun _ _ _ h => h) (Or.inl ⟨by rfl, ?yqd120⟩) (by assumption) ?rqd120
                        case yqd120 => (intro w hSw; (try dsimp only at hSw); go_simp; (try (with_reducible rfl)))
                        try simp only [Act.put, List.setIfInBounds_toArray, List.set_cons_zero, List.set_cons_succ]
                        refine wpAnyH_take (i := 21) (oi := ⟨some 94, _, _, _, _, _⟩) (v := ?vqd121) rfl (by kernel_rfl) (by kernel_rfl) (by kernel_rfl) (fun _ _ _ h => h) (Or.inl ⟨by rfl, ?yqd121⟩) (by assumption) ?rqd121
                        case yqd121 => (intro w hSw; (try dsimp only at hSw); go_simp; (try (with_reducible rfl)))
                        try simp only [Act.put, List.setIfInBounds_toArray, List.set_cons_zero, List.set_cons_succ]
                        refine wpAnyH_take (i := 22) (oi := ⟨some 95, _, _, _, _, _⟩) (v := ?vqd122) rfl (by kernel_rfl) (by kernel_rfl) (by kernel_rfl) (fun _ _ _ h => h) (Or.inl ⟨by rfl, ?yqd122⟩) (by assumption) ?rqd122
                        case yqd122 => (intro w hSw; (try dsimp only at hSw); go_simp; (try (with_reducible rfl)))
                        try simp only [Act.put, List.setIfInBounds_toArray, List.set_cons_zero, List.set_cons_succ]
                        refine wpAnyH_take (i := 23) (oi := ⟨some 96, _, _, _, _, _⟩) (v := ?vqd123) rfl (by kernel_rfl) (by kernel_rfl) (by kernel_rfl) (fun _ _ _ h => h) (Or.inl ⟨by rfl, ?yqd123⟩) (by assumption) ?rqd123
                        case yqd123 => (intro w hSw; (try dsimp only at hSw); go_simp; (try (with_reducible rfl)))
                        try simp only [Act.put, List.setIfInBounds_toArray, List.set_cons_zero, List.set_cons_succ]
                        refine wpAnyH_take (i := 24) (oi := ⟨some 97, _, _, _, _, _⟩) (v := ?vqd124) rfl (by kernel_rfl) (by kernel_rfl) (by kernel_rfl) (fun _ _ _ h => h) (Or.inl ⟨by rfl, ?yqd124⟩) (by assumption) ?rqd124
                        case yqd124 => (intro w hSw; (try dsimp only at hSw); go_simp; (try (with_reducible rfl)))
                        try simp only [Act.put, List.setIfInBounds_toArray, List.set_cons_zero, List.set_cons_succ]
                        refine wpAnyH_take (i := 25) (oi := ⟨some 98, _, _, _, _, _⟩) (v := .bool bb) rfl (by kernel_rfl) (by kernel_rfl) (by kernel_rfl) (fun _ _ _ h => h) (Or.inl ⟨by rfl, ?yqd125⟩) (by assumption) ?rqd125
                        case yqd125 => (intro w hSw; (try dsimp only at hSw); go_simp; (first | done | (with_reducible rfl) | exact hbb | simpa using hbb))
                        try simp only [Act.put, List.setIfInBounds_toArray, List.set_cons_zero, List.set_cons_succ]
                        refine wpAnyH_take (i := 26) (oi := ⟨some 99, _, _, _, _, _⟩) (v := ?vqd126) rfl (by kernel_rfl) (by kernel_rfl) (by kernel_rfl) (fun _ _ _ h => h) (Or.inl ⟨by rfl, ?yqd126⟩) (by assumption) ?rqd126
                        case yqd126 => (intro w hSw; (try dsimp only at hSw); go_simp; (try (with_reducible rfl)))
                        try simp only [Act.put, List.setIfInBounds_toArray, List.set_cons_zero, List.set_cons_succ]
                        refine wpAnyH_take (i := 27) (oi := ⟨some 100, _, _, _, _, _⟩) (v := ?vqd127) rfl (by kernel_rfl) (by kernel_rfl) (by kernel_rfl) (fun _ _ _ h => h) (Or.inl ⟨by rfl, ?yqd127⟩) (by assumption) ?rqd127
                        case yqd127 => (intro w hSw; (try dsimp only at hSw); go_simp; (try (with_reducible rfl)))
                        try simp only [Act.put, List.setIfInBounds_toArray, List.set_cons_zero, List.set_cons_succ]
                        refine wpAnyH_done (by kernel_rfl) ?_ _
                        clear hHeld
                        go_wp2_with fail
                        go_meet
                        exact ⟨by rw [← HB.out], HKE2, HBE2⟩
                    · have b2 : (v1 != p1) = true := by simp [hv]
                      have hb : true = nb := by rw [← HNB.out]; exact (decide_eq_true (.inr (.inl hv))).symm
                      have HB := Lib.hid hb
                      clear hk0 hb hv
                      refine wp_region_held_drew (S := fun W => W.cell? ⟨M, 0, none⟩ = some (.int .i64 v1) ∧ W.cell? ⟨M, 1, none⟩ = some (.int .i64 v2) ∧ W.cell? ⟨g6, r * 3, none⟩ = some (.int .i64 p1) ∧ W.cell? ⟨g6, r * 3 + 1, none⟩ = some (.int .i64 p2)) (by kernel_rfl) ?_ (fun hHeld => ?_)
                      · exact HS20.out
                      refine wpAnyH_take (i := 0) (oi := ⟨some 73, _, _, _, _, _⟩) (v := ?vqb10) rfl (by kernel_rfl) (by kernel_rfl) (by kernel_rfl) (fun _ _ _ h => h) (Or.inl ⟨by rfl, ?yqb10⟩) (by assumption) ?rqb10
                      case yqb10 => (intro w hSw; (try dsimp only at hSw); go_simp; (try (with_reducible rfl)))
                      try simp only [Act.put, List.setIfInBounds_toArray, List.set_cons_zero, List.set_cons_succ]
                      refine wpAnyH_take (i := 1) (oi := ⟨some 74, _, _, _, _, _⟩) (v := .bool false) rfl (by kernel_rfl) (by kernel_rfl) (by kernel_rfl) (fun _ _ _ h => h) (Or.inl ⟨by rfl, ?yqb11⟩) (by assumption) ?rqb11
                      case yqb11 => (intro w hSw; (try dsimp only at hSw); go_simp; (first | done | (with_reducible rfl) | exact b1 | simpa using b1))
                      try simp only [Act.put, List.setIfInBounds_toArray, List.set_cons_zero, List.set_cons_succ]
                      refine wpAnyH_take (i := 2) (oi := ⟨some 75, _, _, _, _, _⟩) (v := ?vqb12) rfl (by kernel_rfl) (by kernel_rfl) (by kernel_rfl) (fun _ _ _ h => h) (Or.inl ⟨by rfl, ?yqb12⟩) (by assumption) ?rqb12
                      case yqb12 => (intro w hSw; (try dsimp only at hSw); go_simp; (try (with_reducible rfl)))
                      try simp only [Act.put, List.setIfInBounds_toArray, List.set_cons_zero, List.set_cons_succ]
                      refine wpAnyH_take (i := 3) (oi := ⟨some 76, _, _, _, _, _⟩) (v := ?vqb13) rfl (by kernel_rfl) (by kernel_rfl) (by kernel_rfl) (fun _ _ _ h => h) (Or.inl ⟨by rfl, ?yqb13⟩) (by assumption) ?rqb13
                      case yqb13 => (intro w hSw; (try dsimp only at hSw); go_simp; (try (with_reducible rfl)))
                      try simp only [Act.put, List.setIfInBounds_toArray, List.set_cons_zero, List.set_cons_succ]
                      refine wpAnyH_take (i := 4) (oi := ⟨some 77, _, _, _, _, _⟩) (v := ?vqb14) rfl (by kernel_rfl) (by kernel_rfl) (by kernel_rfl) (fun _ _ _ h => h) (Or.inl ⟨by rfl, ?yqb14⟩) (by assumption) ?rqb14
                      case yqb14 => (intro w hSw; (try dsimp only at hSw); go_simp; (try (with_reducible rfl)))
                      try simp only [Act.put, List.setIfInBounds_toArray, List.set_cons_zero, List.set_cons_succ]
                      refine wpAnyH_take (i := 5) (oi := ⟨some 78, _, _, _, _, _⟩) (v := ?vqb15) rfl (by kernel_rfl) (by kernel_rfl) (by kernel_rfl) (fun _ _ _ h => h) (Or.inl ⟨by rfl, ?yqb15⟩) (by assumption) ?rqb15
                      case yqb15 => (intro w hSw; (try dsimp only at hSw); go_simp; (try (with_reducible rfl)))
                      try simp only [Act.put, List.setIfInBounds_toArray, List.set_cons_zero, List.set_cons_succ]
                      refine wpAnyH_take (i := 6) (oi := ⟨some 79, _, _, _, _, _⟩) (v := ?vqb16) rfl (by kernel_rfl) (by kernel_rfl) (by kernel_rfl) (fun _ _ _ h => h) (Or.inl ⟨by rfl, ?yqb16⟩) (by assumption) ?rqb16
                      case yqb16 => (intro w hSw; (try dsimp only at hSw); go_simp; (try (with_reducible rfl)))
                      try simp only [Act.put, List.setIfInBounds_toArray, List.set_cons_zero, List.set_cons_succ]
                      refine wpAnyH_take (i := 7) (oi := ⟨some 80, _, _, _, _, _⟩) (v := ?vqb17) rfl (by kernel_rfl) (by kernel_rfl) (by kernel_rfl) (fun _ _ _ h => h) (Or.inl ⟨by rfl, ?yqb17⟩) (by assumption) ?rqb17
                      case yqb17 => (intro w hSw; (try dsimp only at hSw); go_simp; (try (with_reducible rfl)))
                      try simp only [Act.put, List.setIfInBounds_toArray, List.set_cons_zero, List.set_cons_succ]
                      refine wpAnyH_take (i := 8) (oi := ⟨some 81, _, _, _, _, _⟩) (v := ?vqb18) rfl (by kernel_rfl) (by kernel_rfl) (by kernel_rfl) (fun _ _ _ h => h) (Or.inl ⟨by rfl, ?yqb18⟩) (by assumption) ?rqb18
                      case yqb18 => (intro w hSw; (try dsimp only at hSw); go_simp; (try (with_reducible rfl)))
                      try simp only [Act.put, List.setIfInBounds_toArray, List.set_cons_zero, List.set_cons_succ]
                      refine wpAnyH_take (i := 9) (oi := ⟨some 82, _, _, _, _, _⟩) (v := ?vqb19) rfl (by kernel_rfl) (by kernel_rfl) (by kernel_rfl) (fun _ _ _ h => h) (Or.inl ⟨by rfl, ?yqb19⟩) (by assumption) ?rqb19
                      case yqb19 => (intro w hSw; (try dsimp only at hSw); go_simp; (try (with_reducible rfl)))
                      try simp only [Act.put, List.setIfInBounds_toArray, List.set_cons_zero, List.set_cons_succ]
                      refine wpAnyH_take (i := 10) (oi := ⟨some 83, _, _, _, _, _⟩) (v := .bool true) rfl (by kernel_rfl) (by kernel_rfl) (by kernel_rfl) (fun _ _ _ h => h) (Or.inl ⟨by rfl, ?yqb110⟩) (by assumption) ?rqb110
                      case yqb110 => (intro w hSw; (try dsimp only at hSw); go_simp; (first | done | (with_reducible rfl) | exact b2 | simpa using b2))
                      try simp only [Act.put, List.setIfInBounds_toArray, List.set_cons_zero, List.set_cons_succ]
                      refine wpAnyH_take (i := 11) (oi := ⟨some 84, _, _, _, _, _⟩) (v := ?vqb111) rfl (by kernel_rfl) (by kernel_rfl) (by kernel_rfl) (fun _ _ _ h => h) (Or.inl ⟨by rfl, ?yqb111⟩) (by assumption) ?rqb111
                      case yqb111 => (intro w hSw; (try dsimp only at hSw); go_simp; (try (with_reducible rfl)))
                      try simp only [Act.put, List.setIfInBounds_toArray, List.set_cons_zero, List.set_cons_succ]
                      refine wpAnyH_take (i := 12) (oi := ⟨some 85, _, _, _, _, _⟩) (v := ?vqb112) rfl (by kernel_rfl) (by kernel_rfl) (by kernel_rfl) (fun _ _ _ h => h) (Or.inl ⟨by rfl, ?yqb112⟩) (by assumption) ?rqb112
                      case yqb112 => (intro w hSw; (try dsimp only at hSw); go_simp; (try (with_reducible rfl)))
                      try simp only [Act.put, List.setIfInBounds_toArray, List.set_cons_zero, List.set_cons_succ]
                      refine wpAnyH_take (i := 13) (oi := ⟨some 86, _, _, _, _, _⟩) (v := undef) rfl (by kernel_rfl) (by kernel_rfl) (by kernel_rfl) (fun _ _ _ h => h) (Or.inr ⟨by rfl, rfl⟩) (by assumption) ?_
                      try simp only [Act.put, List.setIfInBounds_toArray, List.set_cons_zero, List.set_cons_succ]
                      refine wpAnyH_take (i := 14) (oi := ⟨some 87, _, _, _, _, _⟩) (v := undef) rfl (by kernel_rfl) (by kernel_rfl) (by kernel_rfl) (fun _ _ _ h => h) (Or.inr ⟨by rfl, rfl⟩) (by assumption) ?_
                      try simp only [Act.put, List.setIfInBounds_toArray, List.set_cons_zero, List.set_cons_succ]
                      refine wpAnyH_take (i := 15) (oi := ⟨some 88, _, _, _, _, _⟩) (v := undef) rfl (by kernel_rfl) (by kernel_rfl) (by kernel_rfl) (fun _ _ _ h => h) (Or.inr ⟨by rfl, rfl⟩) (by assumption) ?_
                      try simp only [Act.put, List.setIfInBounds_toArray, List.set_cons_zero, List.set_cons_succ]
                      refine wpAnyH_take (i := 16) (oi := ⟨some 89, _, _, _, _, _⟩) (v := undef) rfl (by kernel_rfl) (by kernel_rfl) (by kernel_rfl) (fun _ _ _ h => h) (Or.inr ⟨by rfl, rfl⟩) (by assumption) ?_
                      try simp only [Act.put, List.setIfInBounds_toArray, List.set_cons_zero, List.set_cons_succ]
                      refine wpAnyH_take (i := 17) (oi := ⟨some 90, _, _, _, _, _⟩) (v := undef) rfl (by kernel_rfl) (by kernel_rfl) (by kernel_rfl) (fun _ _ _ h => h) (Or.inr ⟨by rfl, rfl⟩) (by assumption) ?_
                      try simp only [Act.put, List.setIfInBounds_toArray, List.set_cons_zero, List.set_cons_succ]
                      refine wpAnyH_take (i := 18) (oi := ⟨some 91, _, _, _, _, _⟩) (v := undef) rfl (by kernel_rfl) (by kernel_rfl) (by kernel_rfl) (fun _ _ _ h => h) (Or.inr ⟨by rfl, rfl⟩) (by assumption) ?_
                      try simp only [Act.put, List.setIfInBounds_toArray, List.set_cons_zero, List.set_cons_succ]
                      refine wpAnyH_take (i := 19) (oi := ⟨some 92, _, _, _, _, _⟩) (v := undef) rfl (by kernel_rfl) (by kernel_rfl) (by kernel_rfl) (fun _ _ _ h => h) (Or.inr ⟨by rfl, rfl⟩) (by assumption) ?_
                      try simp only [Act.put, List.setIfInBounds_toArray, List.set_cons_zero, List.set_cons_succ]
                      refine wpAnyH_take (i := 20) (oi := ⟨some 93, _, _, _, _, _⟩) (v := undef) rfl (by kernel_rfl) (by kernel_rfl) (by kernel_rfl) (fun _ _ _ h => h) (Or.inr ⟨by rfl, rfl⟩) (by assumption) ?_
                      try simp only [Act.put, List.setIfInBounds_toArray, List.set_cons_zero, List.set_cons_succ]
                      refine wpAnyH_take (i := 21) (oi := ⟨some 94, _, _, _, _, _⟩) (v := undef) rfl (by kernel_rfl) (by kernel_rfl) (by kernel_rfl) (fun _ _ _ h => h) (Or.inr ⟨by rfl, rfl⟩) (by assumption) ?_
                      try simp only [Act.put, List.setIfInBounds_toArray, List.set_cons_zero, List.set_cons_succ]
                      refine wpAnyH_take (i := 22) (oi := ⟨some 95, _, _, _, _, _⟩) (v := undef) rfl (by kernel_rfl) (by kernel_rfl) (by kernel_rfl) (fun _ _ _ h => h) (Or.inr ⟨by rfl, rfl⟩) (by assumption) ?_
                      try simp only [Act.put, List.setIfInBounds_toArray, List.set_cons_zero, List.set_cons_succ]
                      refine wpAnyH_take (i := 23) (oi := ⟨some 96, _, _, _, _, _⟩) (v := undef) rfl (by kernel_rfl) (by kernel_rfl) (by kernel_rfl) (fun _ _ _ h => h) (Or.inr ⟨by rfl, rfl⟩) (by assumption) ?_
                      try simp only [Act.put, List.setIfInBounds_toArray, List.set_cons_zero, List.set_cons_succ]
                      refine wpAnyH_take (i := 24) (oi := ⟨some 97, _, _, _, _, _⟩) (v := undef) rfl (by kernel_rfl) (by kernel_rfl) (by kernel_rfl) (fun _ _ _ h => h) (Or.inr ⟨by rfl, rfl⟩) (by assumption) ?_
                      try simp only [Act.put, List.setIfInBounds_toArray, List.set_cons_zero, List.set_cons_succ]
                      refine wpAnyH_take (i := 25) (oi := ⟨some 98, _, _, _, _, _⟩) (v := undef) rfl (by kernel_rfl) (by kernel_rfl) (by kernel_rfl) (fun _ _ _ h => h) (Or.inr ⟨by rfl, rfl⟩) (by assumption) ?_
                      try simp only [Act.put, List.setIfInBounds_toArray, List.set_cons_zero, List.set_cons_succ]
                      refine wpAnyH_take (i := 26) (oi := ⟨some 99, _, _, _, _, _⟩) (v := undef) rfl (by kernel_rfl) (by kernel_rfl) (by kernel_rfl) (fun _ _ _ h => h) (Or.inr ⟨by rfl, rfl⟩) (by assumption) ?_
                      try simp only [Act.put, List.setIfInBounds_toArray, List.set_cons_zero, List.set_cons_succ]
                      refine wpAnyH_take (i := 27) (oi := ⟨some 100, _, _, _, _, _⟩) (v := ?vqb127) rfl (by kernel_rfl) (by kernel_rfl) (by kernel_rfl) (fun _ _ _ h => h) (Or.inl ⟨by rfl, ?yqb127⟩) (by assumption) ?rqb127
                      case yqb127 => (intro w hSw; (try dsimp only at hSw); go_simp; (try (with_reducible rfl)))
                      try simp only [Act.put, List.setIfInBounds_toArray, List.set_cons_zero, List.set_cons_succ]
                      refine wpAnyH_done (by kernel_rfl) ?_ _
                      clear hHeld
                      go_wp2_with fail
                      go_meet
                      exact ⟨by rw [← HB.out], HKE2, HBE2⟩
                case rest =>
                  obtain ⟨rfl, HKF, HBF⟩ := hcut
                  obtain ⟨wf, rfl⟩ : ∃ wf : World, wf = wc := ⟨_, rfl⟩
                  clear HKE HBE HS20
                  have hnr2 : nrX (runS xs) r k = if nb = true then 1 else 0 := by
                    rw [HNR.out, ← HNB.out]
                    simp only [decide_eq_true_iff]
                  have hcl : lr ≤ 2 * k + 2 := by rw [HLR.out]; exact cX_le _ _ _ (by omega)
                  obtain ⟨lr2, hlr2⟩ : ∃ lr2, lr + nrX (runS xs) r k = lr2 := ⟨_, rfl⟩
                  have HLR2 : Hid (lr2 = cX (runS xs) k (r + 1)) := (show lr2 = _ from by rw [cX_step _ _ _ hrr, ← HLR.out, hlr2])
                  rw [hnr2] at hlr2
                  have HL2 := Lib.hid hlr2
                  clear hnr2 hlr2
                  go_upto_if 100 with (fail)
                  go_cut [7] from 29 to 112 (fun v7 wx => v7 = .int .i64 (lr2 : Int) ∧ Hid (Blk wx M 28 [.int .i64 v1, .int .i64 v2, .int .i64 0]) ∧ Hid (Below M wr wx))
                  case first =>
                    cases nb with
                    | true =>
                      have h7 : lr + 1 = lr2 := HL2.out
                      have h7i : (lr : Int) + 1 = (lr2 : Int) := by omega
                      clear h7
                      go_wp2_with fail
                      go_meet
                      exact ⟨by rw [← h7i], HKF, HBF⟩
                    | false =>
                      have h7 : lr = lr2 := HL2.out
                      have HH7 := Lib.hid h7
                      clear h7
                      go_wp2_with fail
                      go_meet
                      exact ⟨by rw [← HH7.out], HKF, HBF⟩
                  case rest =>
                    obtain ⟨rfl, HKG, HBG⟩ := hcut
                    obtain ⟨wg, rfl⟩ : ∃ wg : World, wg = wc := ⟨_, rfl⟩
                    clear HKF HBF HL2 HNB HNR
                    have hXg := HXr.out.below (by rw [HM.out]; exact HBG.out : Below wr.heap.size wr wg)
                    have hok := lX_ok HS.out k r (by omega)
                    have hlen : (lX (runS xs) k r).length = lr := hok.len.trans HLR.out.symm
                    have hext := extend_any (lX (runS xs) k r) oR cR 2 (r : Int) (10 + (k : Int)) v1 v2 0 wg (by rw [hlen]; omega) (fun q hq => run_recS (hok.ok.each q hq) (fun g _ => by unfold nX; split <;> omega)) hXg.li
                    have hstep : extendL (lX (runS xs) k r) 2 (r : Int) (10 + (k : Int)) v1 v2 = lX (runS xs) k (r + 1) := by
                      rw [lX_step _ _ _ hrr]
                      unfold oneX
                      rw [HV1.out, HV2.out]
                    have hok2 := lX_ok HS.out k (r + 1) (by omega)
                    have hlen2 : (lX (runS xs) k (r + 1)).length = lr2 := hok2.len.trans HLR2.out.symm
                    rw [hstep, hlen] at hext
                    have HEXT := Lib.hid hext
                    have HXg := Lib.hid hXg
                    have HLEN2 := Lib.hid hlen2
                    have hMg : M ≤ wg.heap.size := by have := HKG.out.lt; omega
                    have kg0 := HKG.out.cell 0
                    have kg1 := HKG.out.cell 1
                    have kg2 := HKG.out.cell 2
                    simp only [List.getElem?_cons_zero, List.getElem?_cons_succ] at kg0 kg1 kg2
                    clear hXg hok hlen hext hstep hok2 hlen2
                    go_wp2_with fail
                    refine HEXT.out.mono ?_
                    rintro e wh ⟨oH, cH, rfl, how, hbh⟩
                    rw [HLEN2.out]
                    have HKH := HKG.out.kept (hbh.block M HKG.out.lt)
                    have hXh := HXg.out.below hbh
                    have HSTEP := Lib.hid (HXg.out.step hrr hbh (Nat.le_refl _) how)
                    rw [HV1.out, HV2.out] at HSTEP
                    have kh0 := HKH.cell 0
                    have kh1 := HKH.cell 1
                    have kh2 := HKH.cell 2
                    simp only [List.getElem?_cons_zero, List.getElem?_cons_succ] at kh0 kh1 kh2
                    obtain ⟨e0, e1, e2⟩ := hXh.at hrr
                    have z0 := hXh.la.frozen (r * 3)
                    have z1 := hXh.la.frozen (r * 3 + 1)
                    have z2 := hXh.la.frozen (r * 3 + 2)
                    clear HEXT HKG HBG HXg how hbh HKH hXh kg0 kg1 kg2
                    go_wp2_with fail
                    go_roundw
                    case rel => exact ⟨r + 1, lr2, cH, oH, by omega, by go_num, rfl, rfl, HLR2, HSTEP⟩
                    case measure => simp [intOf]; omega
          -- INNER END
        · have q4 : ¬ (r : Int) < 2 := by omega
          have hr2' : r = 2 := by omega
          have hx2 := HXr.out
          have hl2 := HLR.out
          rw [hr2'] at hx2 hl2
          have HLR' : Hid (lr = cX (runS xs) (k + 1) 0) := hl2
          obtain ⟨h', c', w3, oS', cS', w4, hrun1, hrun2, hx⟩ := push_shown hx2 (by omega) HNN.out
          have HX := Lib.hid hx
          have tok1 : True := trivial
          clear hr2' hx2 hl2 hx HLR HXr
          go_wp2_with (first | (at_builtin; have _t := tok1; refine wpList_append_run _ rfl _ _ 26 rfl _ _ _ _ rfl rfl hrun1 ?_; clear _t tok1) | (at_builtin; refine wpList_append_run _ rfl _ _ 25 rfl _ _ _ _ rfl rfl hrun2 ?_))
          clear hrun1 hrun2
          go_wp2_with fail
          go_roundw
          case rel => exact ⟨k + 1, lr, cR, cS', oR, oS', _, by omega, by omega, by go_num, rfl, rfl, rfl, HLR', HX⟩
          case measure => simp [intOf]; omega
    · have hK : k = xs.length := by have := HXN.out; omega
      have hok := lst_ok HS.out k
      have hlen : (lstX (runS xs) k).length = lk := hok.len.trans HLK.out.symm
      have hsum := hok.ok.sum
      have hli : RdR wr oL (lstX (runS xs) k) := HXk.out.li
      have hsh := HXk.out.sh
      have hbel := HXk.out.bel
      obtain ⟨LL, hLL⟩ : ∃ LL, lstX (runS xs) k = LL := ⟨_, rfl⟩
      rw [hLL] at hok hlen hsum hli
      have HKX := Lib.hid hK
      have HOK := Lib.hid hok
      have HLEN := Lib.hid hlen
      have HSUM := Lib.hid hsum
      have HLI := Lib.hid hli
      have HSH := Lib.hid hsh
      have HBL := Lib.hid hbel
      obtain ⟨w0, rfl⟩ : ∃ w0 : World, w0 = wr := ⟨_, rfl⟩
      have hlk : lk ≤ 162 := by
        rw [HLK.out]
        have := cX_le (runS xs) k 0 (by omega)
        have := HXN.out
        omega
      have HUP : Hid (∀ W, Below w0.heap.size w0 W → RdR W oL LL ∧ ShI xs W N g6 k (.slice oS k cS) cs ∧ Below N w W) := fun W hW => ⟨HLI.out.kept hW, HSH.out.below hW, HBL.out.trans (hW.mono (bn_le3 HNN.out HBL.out))⟩
      go_upto_region 7 with (fail)
      go_cut [26] from 19 to 118 (fun v wx => v = .bool false ∧ wx = w0)
      case first =>
        rcases (show (¬ (k : Int) < (n : Int)) ∨ ((k : Int) < (n : Int) ∧ ¬ (k : Int) < 80) from by omega) with h1 | ⟨h1, h2⟩
        all_goals
          clear h hK hok hlen hsum hli hsh hbel hLL HLI HSH HBL HLK HXk
          go_wp2_with fail
          go_meet
          exact ⟨rfl, rfl⟩
      case rest =>
        obtain ⟨rfl, hw0⟩ := hcut
        subst hw0
        obtain ⟨w0, rfl⟩ : ∃ w0 : World, w0 = wc := ⟨_, rfl⟩
        clear h hK hok hlen hsum hli hsh hbel hLL HLI HSH HBL HLK HXk
        go_wp2_with fail
        go_loopw [12, 13] (fun vc vi wr => ∃ (i cn : Nat), i ≤ lk ∧ cn ≤ 200 * i ∧ vi = .int .i64 i ∧ vc = .int .i64 cn ∧ Hid ((cn : Int) = sumFs (LL.take i)) ∧ Hid (Below w0.heap.size w0 wr)) (fun _ i _ => lk - (intOf i).toNat)
        case atStart => exact ⟨0, 0, Nat.zero_le _, Nat.zero_le _, rfl, rfl, rfl, Below.refl _ _⟩
        case round =>
          obtain ⟨i, cn, hi, hcn, rfl, rfl, HCN, HB0⟩ := hrel
          by_cases hil : i < lk
          · have q5 : (i : Int) < (lk : Int) := by omega
            have q6 : (0 : Int) ≤ (i : Int) := by omega
            obtain ⟨r, hr⟩ : ∃ r, LL[i]? = some r := ⟨LL[i]'(by rw [HLEN.out]; exact hil), List.getElem?_eq_getElem _⟩
            have hrun := HOK.out.ok.each r (List.mem_of_getElem? hr)
            have hval := run_valid hrun (fun _ _ => by have := HXN.out; have := HKX.out; omega)
            obtain ⟨g, p, q, hg2, erg, efr, efs, hq1, hpq, hshow⟩ := hrun.rg
            have hit := hrun.it
            have hix := hrun.ix
            have hzero := hrun.zero
            have hch := hrun.ch
            have hpk : p + q ≤ k := hpq
            have hk80' : k ≤ 80 := hk80
            obtain ⟨bl, ol, rfl, hbl, c0', c1', c2', c3', c4', c5'⟩ := (HUP.out _ (Below.refl _ _)).1.at i r hr
            have hsn : sumFs (LL.take (i + 1)) = sumFs (LL.take i) + r.fs := by
              have e : LL.take (i + 1) = LL.take i ++ [r] := by rw [List.take_add_one, hr]; rfl
              rw [e, sumFs_append]
              simp [sumFs]
            obtain ⟨r0, r1, r2, r3, r4, r5⟩ := r
            dsimp only at erg efr efs hit hix hzero hch c0' c1' c2' c3' c4' c5' hsn hshow
            subst hch erg efr efs
            have HCL : Hid (∀ W, Below w0.heap.size w0 W → W.cell? ⟨bl, ol + i * 6, none⟩ = some (.int .i64 2) ∧ W.cell? ⟨bl, ol + i * 6 + 1, none⟩ = some (.int .i64 (g : Int)) ∧ W.cell? ⟨bl, ol + i * 6 + 2, none⟩ = some (.int .i64 (10 + (p : Int))) ∧ W.cell? ⟨bl, ol + i * 6 + 3, none⟩ = some (.int .i64 (q : Int)) ∧ W.cell? ⟨bl, ol + i * 6 + 4, none⟩ = some (.int .i64 r4) ∧ W.cell? ⟨bl, ol + i * 6 + 5, none⟩ = some (.int .i64 r5)) := fun W hW => by
              have u := fun j => hW.cell (p := ⟨bl, j, none⟩) hbl
              rw [u, u, u, u, u, u]
              exact ⟨c0', c1', c2', c3', c4', c5'⟩
            obtain ⟨c0, c1, c2, c3, c4, c5⟩ := HCL.out _ HB0.out
            clear c0' c1' c2' c3' c4' c5'
            obtain ⟨hit0, hit1⟩ := hit
            obtain ⟨hix0, hix1⟩ := hix
            have hvi := valid_any ⟨2, (g : Int), 10 + (p : Int), (q : Int), r4, r5⟩ wr (validR_I hval)
            rw [hval] at hvi
            dsimp only [recA] at hvi
            have HVI := Lib.hid hvi
            have HSN2 := Lib.hid hsn
            have HSHOW := Lib.hid hshow
            have HZERO := Lib.hid hzero
            clear hr hrun hval hshow hzero hsn hvi hpq hil
            go_wp2_with fail
            refine HVI.out.mono ?_
            rintro e wv ⟨rfl, hwv⟩
            have hbv : Below w0.heap.size w0 wv := HB0.out.trans (by rw [hwv]; exact (Below.refl _ wr).alloc HB0.out.size _)
            have HBV := Lib.hid hbv
            clear HVI hwv hbv c0 c1 c2 c3 c4 c5 HB0
            obtain ⟨c0, c1, c2, c3, c4, c5⟩ := HCL.out _ HBV.out
            have q7 : ¬ (g : Int) > 1 := by omega
            go_wp2_with fail
            clear c0 c1 c2 c3 c4 c5
            go_loopw [12, 14] (fun vc vq wr => ∃ (kk cm : Nat), kk ≤ q ∧ vq = .int .i64 kk ∧ vc = .int .i64 cm ∧ cm = cn + kk ∧ Hid (Below w0.heap.size w0 wr)) (fun _ v _ => q - (intOf v).toNat)
            case atStart => exact ⟨0, cn, Nat.zero_le _, rfl, rfl, rfl, HBV⟩
            case round =>
              clear HBV
              obtain ⟨kk, cm, hkk, rfl, rfl, hcm', HBW⟩ := hrel
              obtain ⟨c0, c1, c2, c3, c4, c5⟩ := HCL.out _ HBW.out
              have HCM := Lib.hid hcm'
              have hcm2 : cm ≤ 100000 := by omega
              clear hcm'
              by_cases hkq : kk < q
              · have q8 : (kk : Int) < (q : Int) := by omega
                have q9 : (kk : Int) < 100 := by omega
                obtain ⟨bs, hh, ch, rfl, hbs, d0, hhl, hd⟩ := (HUP.out _ (Below.refl _ _)).2.1.cell (p + kk) (by omega)
                obtain ⟨d1, d2, d3⟩ := hd g hg2
                rw [HSHOW.out kk hkq] at d1 d2
                dsimp only at d1 d2
                by_cases hz : r4 = 0
                · have b4 : (r4 == 0) = true := by simp [hz]
                  rw [if_pos hz] at d2
                  rw [← HBW.out.cell (p := ⟨bs, p + kk, none⟩) hbs] at d0
                  rw [← HBW.out.cell (p := ⟨hh, g * 3, none⟩) hhl] at d1
                  rw [← HBW.out.cell (p := ⟨hh, g * 3 + 1, none⟩) hhl] at d2
                  rw [← HBW.out.cell (p := ⟨hh, g * 3 + 2, none⟩) hhl] at d3
                  clear hd hkq hz
                  go_upto_region 40 with (fail)
                  rw [show (10 + (p : Int) + (kk : Int) - 10) = ((p + kk : Nat) : Int) from by omega]
                  obtain ⟨f, hf⟩ : ∃ f, p + kk = f := ⟨_, rfl⟩
                  rw [hf] at d0 ⊢
                  have hfk : f < k := by omega
                  have fA : decide ((f : Int) < 0) = false := decide_eq_false (by omega)
                  have fB : decide ((f : Int) ≥ (k : Int)) = false := decide_eq_false (by omega)
                  have f1 : (0 : Int) ≤ (f : Int) := by omega
                  have f2 : (f : Int) < (k : Int) := by omega
                  have f3 : (0 : Int) ≤ (g : Int) := by omega
                  have f4 : (g : Int) < 2 := by omega
                  have f5 : (k : Int) ≤ (f : Int) ↔ False := ⟨fun h => by omega, False.elim⟩
                  have HS40 : Hid (wr.cell? ⟨bs, f, none⟩ = some (.slice (some ⟨hh, 0, none⟩) 2 ch) ∧ wr.cell? ⟨bl, ol + i * 6 + 1, none⟩ = some (.int .i64 (g : Int)) ∧ wr.cell? ⟨bl, ol + i * 6 + 4, none⟩ = some (.int .i64 r4) ∧ wr.cell? ⟨hh, g * 3, none⟩ = some (.int .i64 r4) ∧ wr.cell? ⟨hh, g * 3 + 1, none⟩ = some (.int .i64 (0)) ∧ wr.cell? ⟨hh, g * 3 + 2, none⟩ = some (.int .i64 0)) := ⟨d0, c1, c4, d1, d2, d3⟩
                  have HBW2 : Hid (Below w0.heap.size w0 wr.drew) := HBW.out.drew
                  clear hf d0 d1 d2 d3 c0 c1 c2 c3 c4 c5
                  refine wp_region_held_drew (S := fun W => W.cell? ⟨bs, f, none⟩ = some (.slice (some ⟨hh, 0, none⟩) 2 ch) ∧ W.cell? ⟨bl, ol + i * 6 + 1, none⟩ = some (.int .i64 (g : Int)) ∧ W.cell? ⟨bl, ol + i * 6 + 4, none⟩ = some (.int .i64 r4) ∧ W.cell? ⟨hh, g * 3, none⟩ = some (.int .i64 r4) ∧ W.cell? ⟨hh, g * 3 + 1, none⟩ = some (.int .i64 (0)) ∧ W.cell? ⟨hh, g * 3 + 2, none⟩ = some (.int .i64 0)) (by kernel_rfl) ?_ (fun hHeld => ?_)
                  · exact HS40.out
                  refine wpAnyH_take (i := 0) (oi := ⟨some 185, _, _, _, _, _⟩) (v := ?vpz0) rfl (by kernel_rfl) (by kernel_rfl) (by kernel_rfl) (fun _ _ _ h => h) (Or.inl ⟨by rfl, ?ypz0⟩) (by assumption) ?rpz0
                  case ypz0 => (intro w hSw; (try dsimp only at hSw); go_simp; (try (with_reducible rfl)))
                  try simp only [Act.put, List.setIfInBounds_toArray, List.set_cons_zero, List.set_cons_succ]
                  refine wpAnyH_take (i := 1) (oi := ⟨some 186, _, _, _, _, _⟩) (v := .bool false) rfl (by kernel_rfl) (by kernel_rfl) (by kernel_rfl) (fun _ _ _ h => h) (Or.inl ⟨by rfl, ?ypz1⟩) (by assumption) ?rpz1
                  case ypz1 => (intro w hSw; (try dsimp only at hSw); go_simp; (first | done | (with_reducible rfl) | exact fA | simpa using fA))
                  try simp only [Act.put, List.setIfInBounds_toArray, List.set_cons_zero, List.set_cons_succ]
                  refine wpAnyH_take (i := 2) (oi := ⟨some 187, _, _, _, _, _⟩) (v := ?vpz2) rfl (by kernel_rfl) (by kernel_rfl) (by kernel_rfl) (fun _ _ _ h => h) (Or.inl ⟨by rfl, ?ypz2⟩) (by assumption) ?rpz2
                  case ypz2 => (intro w hSw; (try dsimp only at hSw); go_simp; (try (with_reducible rfl)))
                  try simp only [Act.put, List.setIfInBounds_toArray, List.set_cons_zero, List.set_cons_succ]
                  refine wpAnyH_take (i := 3) (oi := ⟨some 188, _, _, _, _, _⟩) (v := ?vpz3) rfl (by kernel_rfl) (by kernel_rfl) (by kernel_rfl) (fun _ _ _ h => h) (Or.inl ⟨by rfl, ?ypz3⟩) (by assumption) ?rpz3
                  case ypz3 => (intro w hSw; (try dsimp only at hSw); go_simp; (try (with_reducible rfl)))
                  try simp only [Act.put, List.setIfInBounds_toArray, List.set_cons_zero, List.set_cons_succ]
                  refine wpAnyH_take (i := 4) (oi := ⟨some 189, _, _, _, _, _⟩) (v := ?vpz4) rfl (by kernel_rfl) (by kernel_rfl) (by kernel_rfl) (fun _ _ _ h => h) (Or.inl ⟨by rfl, ?ypz4⟩) (by assumption) ?rpz4
                  case ypz4 => (intro w hSw; (try dsimp only at hSw); go_simp; (try (with_reducible rfl)))
                  try simp only [Act.put, List.setIfInBounds_toArray, List.set_cons_zero, List.set_cons_succ]
                  refine wpAnyH_take (i := 5) (oi := ⟨some 190, _, _, _, _, _⟩) (v := ?vpz5) rfl (by kernel_rfl) (by kernel_rfl) (by kernel_rfl) (fun _ _ _ h => h) (Or.inl ⟨by rfl, ?ypz5⟩) (by assumption) ?rpz5
                  case ypz5 => (intro w hSw; (try dsimp only at hSw); go_simp; (try (with_reducible rfl)))
                  try simp only [Act.put, List.setIfInBounds_toArray, List.set_cons_zero, List.set_cons_succ]
                  refine wpAnyH_take (i := 6) (oi := ⟨some 191, _, _, _, _, _⟩) (v := .bool false) rfl (by kernel_rfl) (by kernel_rfl) (by kernel_rfl) (fun _ _ _ h => h) (Or.inl ⟨by rfl, ?ypz6⟩) (by assumption) ?rpz6
                  case ypz6 => (intro w hSw; (try dsimp only at hSw); go_simp; (first | done | (with_reducible rfl) | exact fB | simpa using fB))
                  try simp only [Act.put, List.setIfInBounds_toArray, List.set_cons_zero, List.set_cons_succ]
                  refine wpAnyH_take (i := 7) (oi := ⟨some 192, _, _, _, _, _⟩) (v := ?vpz7) rfl (by kernel_rfl) (by kernel_rfl) (by kernel_rfl) (fun _ _ _ h => h) (Or.inl ⟨by rfl, ?ypz7⟩) (by assumption) ?rpz7
                  case ypz7 => (intro w hSw; (try dsimp only at hSw); go_simp; (try (with_reducible rfl)))
                  try simp only [Act.put, List.setIfInBounds_toArray, List.set_cons_zero, List.set_cons_succ]
                  refine wpAnyH_take (i := 8) (oi := ⟨some 193, _, _, _, _, _⟩) (v := ?vpz8) rfl (by kernel_rfl) (by kernel_rfl) (by kernel_rfl) (fun _ _ _ h => h) (Or.inl ⟨by rfl, ?ypz8⟩) (by assumption) ?rpz8
                  case ypz8 => (intro w hSw; (try dsimp only at hSw); go_simp; (try (with_reducible rfl)))
                  try simp only [Act.put, List.setIfInBounds_toArray, List.set_cons_zero, List.set_cons_succ]
                  refine wpAnyH_take (i := 9) (oi := ⟨some 194, _, _, _, _, _⟩) (v := ?vpz9) rfl (by kernel_rfl) (by kernel_rfl) (by kernel_rfl) (fun _ _ _ h => h) (Or.inl ⟨by rfl, ?ypz9⟩) (by assumption) ?rpz9
                  case ypz9 => (intro w hSw; (try dsimp only at hSw); go_simp; (try (with_reducible rfl)))
                  try simp only [Act.put, List.setIfInBounds_toArray, List.set_cons_zero, List.set_cons_succ]
                  refine wpAnyH_take (i := 10) (oi := ⟨some 195, _, _, _, _, _⟩) (v := ?vpz10) rfl (by kernel_rfl) (by kernel_rfl) (by kernel_rfl) (fun _ _ _ h => h) (Or.inl ⟨by rfl, ?ypz10⟩) (by assumption) ?rpz10
                  case ypz10 => (intro w hSw; (try dsimp only at hSw); go_simp; (try (with_reducible rfl)))
                  try simp only [Act.put, List.setIfInBounds_toArray, List.set_cons_zero, List.set_cons_succ]
                  refine wpAnyH_take (i := 11) (oi := ⟨some 196, _, _, _, _, _⟩) (v := ?vpz11) rfl (by kernel_rfl) (by kernel_rfl) (by kernel_rfl) (fun _ _ _ h => h) (Or.inl ⟨by rfl, ?ypz11⟩) (by assumption) ?rpz11
                  case ypz11 => (intro w hSw; (try dsimp only at hSw); go_simp; (try (with_reducible rfl)))
                  try simp only [Act.put, List.setIfInBounds_toArray, List.set_cons_zero, List.set_cons_succ]
                  refine wpAnyH_take (i := 12) (oi := ⟨some 197, _, _, _, _, _⟩) (v := ?vpz12) rfl (by kernel_rfl) (by kernel_rfl) (by kernel_rfl) (fun _ _ _ h => h) (Or.inl ⟨by rfl, ?ypz12⟩) (by assumption) ?rpz12
                  case ypz12 => (intro w hSw; (try dsimp only at hSw); go_simp; (try (with_reducible rfl)))
                  try simp only [Act.put, List.setIfInBounds_toArray, List.set_cons_zero, List.set_cons_succ]
                  refine wpAnyH_take (i := 13) (oi := ⟨some 198, _, _, _, _, _⟩) (v := ?vpz13) rfl (by kernel_rfl) (by kernel_rfl) (by kernel_rfl) (fun _ _ _ h => h) (Or.inl ⟨by rfl, ?ypz13⟩) (by assumption) ?rpz13
                  case ypz13 => (intro w hSw; (try dsimp only at hSw); go_simp; (try (with_reducible rfl)))
                  try simp only [Act.put, List.setIfInBounds_toArray, List.set_cons_zero, List.set_cons_succ]
                  refine wpAnyH_take (i := 14) (oi := ⟨some 199, _, _, _, _, _⟩) (v := ?vpz14) rfl (by kernel_rfl) (by kernel_rfl) (by kernel_rfl) (fun _ _ _ h => h) (Or.inl ⟨by rfl, ?ypz14⟩) (by assumption) ?rpz14
                  case ypz14 => (intro w hSw; (try dsimp only at hSw); go_simp; (try (with_reducible rfl)))
                  try simp only [Act.put, List.setIfInBounds_toArray, List.set_cons_zero, List.set_cons_succ]
                  refine wpAnyH_take (i := 15) (oi := ⟨some 200, _, _, _, _, _⟩) (v := ?vpz15) rfl (by kernel_rfl) (by kernel_rfl) (by kernel_rfl) (fun _ _ _ h => h) (Or.inl ⟨by rfl, ?ypz15⟩) (by assumption) ?rpz15
                  case ypz15 => (intro w hSw; (try dsimp only at hSw); go_simp; (try (with_reducible rfl)))
                  try simp only [Act.put, List.setIfInBounds_toArray, List.set_cons_zero, List.set_cons_succ]
                  refine wpAnyH_take (i := 16) (oi := ⟨some 201, _, _, _, _, _⟩) (v := ?vpz16) rfl (by kernel_rfl) (by kernel_rfl) (by kernel_rfl) (fun _ _ _ h => h) (Or.inl ⟨by rfl, ?ypz16⟩) (by assumption) ?rpz16
                  case ypz16 => (intro w hSw; (try dsimp only at hSw); go_simp; (try (with_reducible rfl)))
                  try simp only [Act.put, List.setIfInBounds_toArray, List.set_cons_zero, List.set_cons_succ]
                  refine wpAnyH_take (i := 17) (oi := ⟨some 202, _, _, _, _, _⟩) (v := ?vpz17) rfl (by kernel_rfl) (by kernel_rfl) (by kernel_rfl) (fun _ _ _ h => h) (Or.inl ⟨by rfl, ?ypz17⟩) (by assumption) ?rpz17
                  case ypz17 => (intro w hSw; (try dsimp only at hSw); go_simp; (try (with_reducible rfl)))
                  try simp only [Act.put, List.setIfInBounds_toArray, List.set_cons_zero, List.set_cons_succ]
                  refine wpAnyH_take (i := 18) (oi := ⟨some 203, _, _, _, _, _⟩) (v := ?vpz18) rfl (by kernel_rfl) (by kernel_rfl) (by kernel_rfl) (fun _ _ _ h => h) (Or.inl ⟨by rfl, ?ypz18⟩) (by assumption) ?rpz18
                  case ypz18 => (intro w hSw; (try dsimp only at hSw); go_simp; (try (with_reducible rfl)))
                  try simp only [Act.put, List.setIfInBounds_toArray, List.set_cons_zero, List.set_cons_succ]
                  refine wpAnyH_take (i := 19) (oi := ⟨some 204, _, _, _, _, _⟩) (v := ?vpz19) rfl (by kernel_rfl) (by kernel_rfl) (by kernel_rfl) (fun _ _ _ h => h) (Or.inl ⟨by rfl, ?ypz19⟩) (by assumption) ?rpz19
                  case ypz19 => (intro w hSw; (try dsimp only at hSw); go_simp; (try (with_reducible rfl)))
                  try simp only [Act.put, List.setIfInBounds_toArray, List.set_cons_zero, List.set_cons_succ]
                  refine wpAnyH_take (i := 20) (oi := ⟨some 205, _, _, _, _, _⟩) (v := ?vpz20) rfl (by kernel_rfl) (by kernel_rfl) (by kernel_rfl) (fun _ _ _ h => h) (Or.inl ⟨by rfl, ?ypz20⟩) (by assumption) ?rpz20
                  case ypz20 => (intro w hSw; (try dsimp only at hSw); go_simp; (try (with_reducible rfl)))
                  try simp only [Act.put, List.setIfInBounds_toArray, List.set_cons_zero, List.set_cons_succ]
                  refine wpAnyH_take (i := 21) (oi := ⟨some 206, _, _, _, _, _⟩) (v := ?vpz21) rfl (by kernel_rfl) (by kernel_rfl) (by kernel_rfl) (fun _ _ _ h => h) (Or.inl ⟨by rfl, ?ypz21⟩) (by assumption) ?rpz21
                  case ypz21 => (intro w hSw; (try dsimp only at hSw); go_simp; (try (with_reducible rfl)))
                  try simp only [Act.put, List.setIfInBounds_toArray, List.set_cons_zero, List.set_cons_succ]
                  refine wpAnyH_take (i := 22) (oi := ⟨some 207, _, _, _, _, _⟩) (v := ?vpz22) rfl (by kernel_rfl) (by kernel_rfl) (by kernel_rfl) (fun _ _ _ h => h) (Or.inl ⟨by rfl, ?ypz22⟩) (by assumption) ?rpz22
                  case ypz22 => (intro w hSw; (try dsimp only at hSw); go_simp; (try (with_reducible rfl)))
                  try simp only [Act.put, List.setIfInBounds_toArray, List.set_cons_zero, List.set_cons_succ]
                  refine wpAnyH_take (i := 23) (oi := ⟨some 208, _, _, _, _, _⟩) (v := ?vpz23) rfl (by kernel_rfl) (by kernel_rfl) (by kernel_rfl) (fun _ _ _ h => h) (Or.inl ⟨by rfl, ?ypz23⟩) (by assumption) ?rpz23
                  case ypz23 => (intro w hSw; (try dsimp only at hSw); go_simp; (try (with_reducible rfl)))
                  try simp only [Act.put, List.setIfInBounds_toArray, List.set_cons_zero, List.set_cons_succ]
                  refine wpAnyH_take (i := 24) (oi := ⟨some 209, _, _, _, _, _⟩) (v := ?vpz24) rfl (by kernel_rfl) (by kernel_rfl) (by kernel_rfl) (fun _ _ _ h => h) (Or.inl ⟨by rfl, ?ypz24⟩) (by assumption) ?rpz24
                  case ypz24 => (intro w hSw; (try dsimp only at hSw); go_simp; (try (with_reducible rfl)))
                  try simp only [Act.put, List.setIfInBounds_toArray, List.set_cons_zero, List.set_cons_succ]
                  refine wpAnyH_take (i := 25) (oi := ⟨some 210, _, _, _, _, _⟩) (v := ?vpz25) rfl (by kernel_rfl) (by kernel_rfl) (by kernel_rfl) (fun _ _ _ h => h) (Or.inl ⟨by rfl, ?ypz25⟩) (by assumption) ?rpz25
                  case ypz25 => (intro w hSw; (try dsimp only at hSw); go_simp; (try (with_reducible rfl)))
                  try simp only [Act.put, List.setIfInBounds_toArray, List.set_cons_zero, List.set_cons_succ]
                  refine wpAnyH_take (i := 26) (oi := ⟨some 211, _, _, _, _, _⟩) (v := ?vpz26) rfl (by kernel_rfl) (by kernel_rfl) (by kernel_rfl) (fun _ _ _ h => h) (Or.inl ⟨by rfl, ?ypz26⟩) (by assumption) ?rpz26
                  case ypz26 => (intro w hSw; (try dsimp only at hSw); go_simp; (try (with_reducible rfl)))
                  try simp only [Act.put, List.setIfInBounds_toArray, List.set_cons_zero, List.set_cons_succ]
                  refine wpAnyH_take (i := 27) (oi := ⟨some 212, _, _, _, _, _⟩) (v := .bool false) rfl (by kernel_rfl) (by kernel_rfl) (by kernel_rfl) (fun _ _ _ h => h) (Or.inl ⟨by rfl, ?ypz27⟩) (by assumption) ?rpz27
                  case ypz27 => (intro w hSw; (try dsimp only at hSw); go_simp; (first | done | (with_reducible rfl) | exact rfl | simpa using rfl))
                  try simp only [Act.put, List.setIfInBounds_toArray, List.set_cons_zero, List.set_cons_succ]
                  refine wpAnyH_take (i := 28) (oi := ⟨some 213, _, _, _, _, _⟩) (v := ?vpz28) rfl (by kernel_rfl) (by kernel_rfl) (by kernel_rfl) (fun _ _ _ h => h) (Or.inl ⟨by rfl, ?ypz28⟩) (by assumption) ?rpz28
                  case ypz28 => (intro w hSw; (try dsimp only at hSw); go_simp; (try (with_reducible rfl)))
                  try simp only [Act.put, List.setIfInBounds_toArray, List.set_cons_zero, List.set_cons_succ]
                  refine wpAnyH_done (by kernel_rfl) ?_ _
                  clear hHeld
                  go_wp2_with fail
                  go_roundw
                  case rel => exact ⟨kk + 1, cm + 1, by omega, by go_num, by go_num, by have := HCM.out; omega, HBW2⟩
                  case measure => simp [intOf]; omega
                · have b4 : (r4 == 0) = false := by simp [hz]
                  rw [if_neg hz] at d2
                  rw [← HBW.out.cell (p := ⟨bs, p + kk, none⟩) hbs] at d0
                  rw [← HBW.out.cell (p := ⟨hh, g * 3, none⟩) hhl] at d1
                  rw [← HBW.out.cell (p := ⟨hh, g * 3 + 1, none⟩) hhl] at d2
                  rw [← HBW.out.cell (p := ⟨hh, g * 3 + 2, none⟩) hhl] at d3
                  clear hd hkq hz
                  go_upto_region 40 with (fail)
                  rw [show (10 + (p : Int) + (kk : Int) - 10) = ((p + kk : Nat) : Int) from by omega]
                  obtain ⟨f, hf⟩ : ∃ f, p + kk = f := ⟨_, rfl⟩
                  rw [hf] at d0 ⊢
                  have hfk : f < k := by omega
                  have fA : decide ((f : Int) < 0) = false := decide_eq_false (by omega)
                  have fB : decide ((f : Int) ≥ (k : Int)) = false := decide_eq_false (by omega)
                  have f1 : (0 : Int) ≤ (f : Int) := by omega
                  have f2 : (f : Int) < (k : Int) := by omega
                  have f3 : (0 : Int) ≤ (g : Int) := by omega
                  have f4 : (g : Int) < 2 := by omega
                  have f5 : (k : Int) ≤ (f : Int) ↔ False := ⟨fun h => by omega, False.elim⟩
                  have HS40 : Hid (wr.cell? ⟨bs, f, none⟩ = some (.slice (some ⟨hh, 0, none⟩) 2 ch) ∧ wr.cell? ⟨bl, ol + i * 6 + 1, none⟩ = some (.int .i64 (g : Int)) ∧ wr.cell? ⟨bl, ol + i * 6 + 4, none⟩ = some (.int .i64 r4) ∧ wr.cell? ⟨hh, g * 3, none⟩ = some (.int .i64 r4) ∧ wr.cell? ⟨hh, g * 3 + 1, none⟩ = some (.int .i64 (r5 + (kk : Int))) ∧ wr.cell? ⟨hh, g * 3 + 2, none⟩ = some (.int .i64 0)) := ⟨d0, c1, c4, d1, d2, d3⟩
                  have HBW2 : Hid (Below w0.heap.size w0 wr.drew) := HBW.out.drew
                  clear hf d0 d1 d2 d3 c0 c1 c2 c3 c4 c5
                  refine wp_region_held_drew (S := fun W => W.cell? ⟨bs, f, none⟩ = some (.slice (some ⟨hh, 0, none⟩) 2 ch) ∧ W.cell? ⟨bl, ol + i * 6 + 1, none⟩ = some (.int .i64 (g : Int)) ∧ W.cell? ⟨bl, ol + i * 6 + 4, none⟩ = some (.int .i64 r4) ∧ W.cell? ⟨hh, g * 3, none⟩ = some (.int .i64 r4) ∧ W.cell? ⟨hh, g * 3 + 1, none⟩ = some (.int .i64 (r5 + (kk : Int))) ∧ W.cell? ⟨hh, g * 3 + 2, none⟩ = some (.int .i64 0)) (by kernel_rfl) ?_ (fun hHeld => ?_)
                  · exact HS40.out
                  refine wpAnyH_take (i := 0) (oi := ⟨some 185, _, _, _, _, _⟩) (v := ?vpn0) rfl (by kernel_rfl) (by kernel_rfl) (by kernel_rfl) (fun _ _ _ h => h) (Or.inl ⟨by rfl, ?ypn0⟩) (by assumption) ?rpn0
                  case ypn0 => (intro w hSw; (try dsimp only at hSw); go_simp; (try (with_reducible rfl)))
                  try simp only [Act.put, List.setIfInBounds_toArray, List.set_cons_zero, List.set_cons_succ]
                  refine wpAnyH_take (i := 1) (oi := ⟨some 186, _, _, _, _, _⟩) (v := .bool false) rfl (by kernel_rfl) (by kernel_rfl) (by kernel_rfl) (fun _ _ _ h => h) (Or.inl ⟨by rfl, ?ypn1⟩) (by assumption) ?rpn1
                  case ypn1 => (intro w hSw; (try dsimp only at hSw); go_simp; (first | done | (with_reducible rfl) | exact fA | simpa using fA))
                  try simp only [Act.put, List.setIfInBounds_toArray, List.set_cons_zero, List.set_cons_succ]
                  refine wpAnyH_take (i := 2) (oi := ⟨some 187, _, _, _, _, _⟩) (v := ?vpn2) rfl (by kernel_rfl) (by kernel_rfl) (by kernel_rfl) (fun _ _ _ h => h) (Or.inl ⟨by rfl, ?ypn2⟩) (by assumption) ?rpn2
                  case ypn2 => (intro w hSw; (try dsimp only at hSw); go_simp; (try (with_reducible rfl)))
                  try simp only [Act.put, List.setIfInBounds_toArray, List.set_cons_zero, List.set_cons_succ]
                  refine wpAnyH_take (i := 3) (oi := ⟨some 188, _, _, _, _, _⟩) (v := ?vpn3) rfl (by kernel_rfl) (by kernel_rfl) (by kernel_rfl) (fun _ _ _ h => h) (Or.inl ⟨by rfl, ?ypn3⟩) (by assumption) ?rpn3
                  case ypn3 => (intro w hSw; (try dsimp only at hSw); go_simp; (try (with_reducible rfl)))
                  try simp only [Act.put, List.setIfInBounds_toArray, List.set_cons_zero, List.set_cons_succ]
                  refine wpAnyH_take (i := 4) (oi := ⟨some 189, _, _, _, _, _⟩) (v := ?vpn4) rfl (by kernel_rfl) (by kernel_rfl) (by kernel_rfl) (fun _ _ _ h => h) (Or.inl ⟨by rfl, ?ypn4⟩) (by assumption) ?rpn4
                  case ypn4 => (intro w hSw; (try dsimp only at hSw); go_simp; (try (with_reducible rfl)))
                  try simp only [Act.put, List.setIfInBounds_toArray, List.set_cons_zero, List.set_cons_succ]
                  refine wpAnyH_take (i := 5) (oi := ⟨some 190, _, _, _, _, _⟩) (v := ?vpn5) rfl (by kernel_rfl) (by kernel_rfl) (by kernel_rfl) (fun _ _ _ h => h) (Or.inl ⟨by rfl, ?ypn5⟩) (by assumption) ?rpn5
                  case ypn5 => (intro w hSw; (try dsimp only at hSw); go_simp; (try (with_reducible rfl)))
                  try simp only [Act.put, List.setIfInBounds_toArray, List.set_cons_zero, List.set_cons_succ]
                  refine wpAnyH_take (i := 6) (oi := ⟨some 191, _, _, _, _, _⟩) (v := .bool false) rfl (by kernel_rfl) (by kernel_rfl) (by kernel_rfl) (fun _ _ _ h => h) (Or.inl ⟨by rfl, ?ypn6⟩) (by assumption) ?rpn6
                  case ypn6 => (intro w hSw; (try dsimp only at hSw); go_simp; (first | done | (with_reducible rfl) | exact fB | simpa using fB))
                  try simp only [Act.put, List.setIfInBounds_toArray, List.set_cons_zero, List.set_cons_succ]
                  refine wpAnyH_take (i := 7) (oi := ⟨some 192, _, _, _, _, _⟩) (v := ?vpn7) rfl (by kernel_rfl) (by kernel_rfl) (by kernel_rfl) (fun _ _ _ h => h) (Or.inl ⟨by rfl, ?ypn7⟩) (by assumption) ?rpn7
                  case ypn7 => (intro w hSw; (try dsimp only at hSw); go_simp; (try (with_reducible rfl)))
                  try simp only [Act.put, List.setIfInBounds_toArray, List.set_cons_zero, List.set_cons_succ]
                  refine wpAnyH_take (i := 8) (oi := ⟨some 193, _, _, _, _, _⟩) (v := ?vpn8) rfl (by kernel_rfl) (by kernel_rfl) (by kernel_rfl) (fun _ _ _ h => h) (Or.inl ⟨by rfl, ?ypn8⟩) (by assumption) ?rpn8
                  case ypn8 => (intro w hSw; (try dsimp only at hSw); go_simp; (try (with_reducible rfl)))
                  try simp only [Act.put, List.setIfInBounds_toArray, List.set_cons_zero, List.set_cons_succ]
                  refine wpAnyH_take (i := 9) (oi := ⟨some 194, _, _, _, _, _⟩) (v := ?vpn9) rfl (by kernel_rfl) (by kernel_rfl) (by kernel_rfl) (fun _ _ _ h => h) (Or.inl ⟨by rfl, ?ypn9⟩) (by assumption) ?rpn9
                  case ypn9 => (intro w hSw; (try dsimp only at hSw); go_simp; (try (with_reducible rfl)))
                  try simp only [Act.put, List.setIfInBounds_toArray, List.set_cons_zero, List.set_cons_succ]
                  refine wpAnyH_take (i := 10) (oi := ⟨some 195, _, _, _, _, _⟩) (v := ?vpn10) rfl (by kernel_rfl) (by kernel_rfl) (by kernel_rfl) (fun _ _ _ h => h) (Or.inl ⟨by rfl, ?ypn10⟩) (by assumption) ?rpn10
                  case ypn10 => (intro w hSw; (try dsimp only at hSw); go_simp; (try (with_reducible rfl)))
                  try simp only [Act.put, List.setIfInBounds_toArray, List.set_cons_zero, List.set_cons_succ]
                  refine wpAnyH_take (i := 11) (oi := ⟨some 196, _, _, _, _, _⟩) (v := ?vpn11) rfl (by kernel_rfl) (by kernel_rfl) (by kernel_rfl) (fun _ _ _ h => h) (Or.inl ⟨by rfl, ?ypn11⟩) (by assumption) ?rpn11
                  case ypn11 => (intro w hSw; (try dsimp only at hSw); go_simp; (try (with_reducible rfl)))
                  try simp only [Act.put, List.setIfInBounds_toArray, List.set_cons_zero, List.set_cons_succ]
                  refine wpAnyH_take (i := 12) (oi := ⟨some 197, _, _, _, _, _⟩) (v := ?vpn12) rfl (by kernel_rfl) (by kernel_rfl) (by kernel_rfl) (fun _ _ _ h => h) (Or.inl ⟨by rfl, ?ypn12⟩) (by assumption) ?rpn12
                  case ypn12 => (intro w hSw; (try dsimp only at hSw); go_simp; (try (with_reducible rfl)))
                  try simp only [Act.put, List.setIfInBounds_toArray, List.set_cons_zero, List.set_cons_succ]
                  refine wpAnyH_take (i := 13) (oi := ⟨some 198, _, _, _, _, _⟩) (v := ?vpn13) rfl (by kernel_rfl) (by kernel_rfl) (by kernel_rfl) (fun _ _ _ h => h) (Or.inl ⟨by rfl, ?ypn13⟩) (by assumption) ?rpn13
                  case ypn13 => (intro w hSw; (try dsimp only at hSw); go_simp; (try (with_reducible rfl)))
                  try simp only [Act.put, List.setIfInBounds_toArray, List.set_cons_zero, List.set_cons_succ]
                  refine wpAnyH_take (i := 14) (oi := ⟨some 199, _, _, _, _, _⟩) (v := ?vpn14) rfl (by kernel_rfl) (by kernel_rfl) (by kernel_rfl) (fun _ _ _ h => h) (Or.inl ⟨by rfl, ?ypn14⟩) (by assumption) ?rpn14
                  case ypn14 => (intro w hSw; (try dsimp only at hSw); go_simp; (try (with_reducible rfl)))
                  try simp only [Act.put, List.setIfInBounds_toArray, List.set_cons_zero, List.set_cons_succ]
                  refine wpAnyH_take (i := 15) (oi := ⟨some 200, _, _, _, _, _⟩) (v := ?vpn15) rfl (by kernel_rfl) (by kernel_rfl) (by kernel_rfl) (fun _ _ _ h => h) (Or.inl ⟨by rfl, ?ypn15⟩) (by assumption) ?rpn15
                  case ypn15 => (intro w hSw; (try dsimp only at hSw); go_simp; (try (with_reducible rfl)))
                  try simp only [Act.put, List.setIfInBounds_toArray, List.set_cons_zero, List.set_cons_succ]
                  refine wpAnyH_take (i := 16) (oi := ⟨some 201, _, _, _, _, _⟩) (v := ?vpn16) rfl (by kernel_rfl) (by kernel_rfl) (by kernel_rfl) (fun _ _ _ h => h) (Or.inl ⟨by rfl, ?ypn16⟩) (by assumption) ?rpn16
                  case ypn16 => (intro w hSw; (try dsimp only at hSw); go_simp; (try (with_reducible rfl)))
                  try simp only [Act.put, List.setIfInBounds_toArray, List.set_cons_zero, List.set_cons_succ]
                  refine wpAnyH_take (i := 17) (oi := ⟨some 202, _, _, _, _, _⟩) (v := ?vpn17) rfl (by kernel_rfl) (by kernel_rfl) (by kernel_rfl) (fun _ _ _ h => h) (Or.inl ⟨by rfl, ?ypn17⟩) (by assumption) ?rpn17
                  case ypn17 => (intro w hSw; (try dsimp only at hSw); go_simp; (try (with_reducible rfl)))
                  try simp only [Act.put, List.setIfInBounds_toArray, List.set_cons_zero, List.set_cons_succ]
                  refine wpAnyH_take (i := 18) (oi := ⟨some 203, _, _, _, _, _⟩) (v := ?vpn18) rfl (by kernel_rfl) (by kernel_rfl) (by kernel_rfl) (fun _ _ _ h => h) (Or.inl ⟨by rfl, ?ypn18⟩) (by assumption) ?rpn18
                  case ypn18 => (intro w hSw; (try dsimp only at hSw); go_simp; (try (with_reducible rfl)))
                  try simp only [Act.put, List.setIfInBounds_toArray, List.set_cons_zero, List.set_cons_succ]
                  refine wpAnyH_take (i := 19) (oi := ⟨some 204, _, _, _, _, _⟩) (v := ?vpn19) rfl (by kernel_rfl) (by kernel_rfl) (by kernel_rfl) (fun _ _ _ h => h) (Or.inl ⟨by rfl, ?ypn19⟩) (by assumption) ?rpn19
                  case ypn19 => (intro w hSw; (try dsimp only at hSw); go_simp; (try (with_reducible rfl)))
                  try simp only [Act.put, List.setIfInBounds_toArray, List.set_cons_zero, List.set_cons_succ]
                  refine wpAnyH_take (i := 20) (oi := ⟨some 205, _, _, _, _, _⟩) (v := ?vpn20) rfl (by kernel_rfl) (by kernel_rfl) (by kernel_rfl) (fun _ _ _ h => h) (Or.inl ⟨by rfl, ?ypn20⟩) (by assumption) ?rpn20
                  case ypn20 => (intro w hSw; (try dsimp only at hSw); go_simp; (try (with_reducible rfl)))
                  try simp only [Act.put, List.setIfInBounds_toArray, List.set_cons_zero, List.set_cons_succ]
                  refine wpAnyH_take (i := 21) (oi := ⟨some 206, _, _, _, _, _⟩) (v := ?vpn21) rfl (by kernel_rfl) (by kernel_rfl) (by kernel_rfl) (fun _ _ _ h => h) (Or.inl ⟨by rfl, ?ypn21⟩) (by assumption) ?rpn21
                  case ypn21 => (intro w hSw; (try dsimp only at hSw); go_simp; (try (with_reducible rfl)))
                  try simp only [Act.put, List.setIfInBounds_toArray, List.set_cons_zero, List.set_cons_succ]
                  refine wpAnyH_take (i := 22) (oi := ⟨some 207, _, _, _, _, _⟩) (v := ?vpn22) rfl (by kernel_rfl) (by kernel_rfl) (by kernel_rfl) (fun _ _ _ h => h) (Or.inl ⟨by rfl, ?ypn22⟩) (by assumption) ?rpn22
                  case ypn22 => (intro w hSw; (try dsimp only at hSw); go_simp; (try (with_reducible rfl)))
                  try simp only [Act.put, List.setIfInBounds_toArray, List.set_cons_zero, List.set_cons_succ]
                  refine wpAnyH_take (i := 23) (oi := ⟨some 208, _, _, _, _, _⟩) (v := ?vpn23) rfl (by kernel_rfl) (by kernel_rfl) (by kernel_rfl) (fun _ _ _ h => h) (Or.inl ⟨by rfl, ?ypn23⟩) (by assumption) ?rpn23
                  case ypn23 => (intro w hSw; (try dsimp only at hSw); go_simp; (try (with_reducible rfl)))
                  try simp only [Act.put, List.setIfInBounds_toArray, List.set_cons_zero, List.set_cons_succ]
                  refine wpAnyH_take (i := 24) (oi := ⟨some 209, _, _, _, _, _⟩) (v := ?vpn24) rfl (by kernel_rfl) (by kernel_rfl) (by kernel_rfl) (fun _ _ _ h => h) (Or.inl ⟨by rfl, ?ypn24⟩) (by assumption) ?rpn24
                  case ypn24 => (intro w hSw; (try dsimp only at hSw); go_simp; (try (with_reducible rfl)))
                  try simp only [Act.put, List.setIfInBounds_toArray, List.set_cons_zero, List.set_cons_succ]
                  refine wpAnyH_take (i := 25) (oi := ⟨some 210, _, _, _, _, _⟩) (v := ?vpn25) rfl (by kernel_rfl) (by kernel_rfl) (by kernel_rfl) (fun _ _ _ h => h) (Or.inl ⟨by rfl, ?ypn25⟩) (by assumption) ?rpn25
                  case ypn25 => (intro w hSw; (try dsimp only at hSw); go_simp; (try (with_reducible rfl)))
                  try simp only [Act.put, List.setIfInBounds_toArray, List.set_cons_zero, List.set_cons_succ]
                  refine wpAnyH_take (i := 26) (oi := ⟨some 211, _, _, _, _, _⟩) (v := ?vpn26) rfl (by kernel_rfl) (by kernel_rfl) (by kernel_rfl) (fun _ _ _ h => h) (Or.inl ⟨by rfl, ?ypn26⟩) (by assumption) ?rpn26
                  case ypn26 => (intro w hSw; (try dsimp only at hSw); go_simp; (try (with_reducible rfl)))
                  try simp only [Act.put, List.setIfInBounds_toArray, List.set_cons_zero, List.set_cons_succ]
                  refine wpAnyH_take (i := 27) (oi := ⟨some 212, _, _, _, _, _⟩) (v := .bool false) rfl (by kernel_rfl) (by kernel_rfl) (by kernel_rfl) (fun _ _ _ h => h) (Or.inl ⟨by rfl, ?ypn27⟩) (by assumption) ?rpn27
                  case ypn27 => (intro w hSw; (try dsimp only at hSw); go_simp; (first | done | (with_reducible rfl) | exact rfl | simpa using rfl))
                  try simp only [Act.put, List.setIfInBounds_toArray, List.set_cons_zero, List.set_cons_succ]
                  refine wpAnyH_take (i := 28) (oi := ⟨some 213, _, _, _, _, _⟩) (v := ?vpn28) rfl (by kernel_rfl) (by kernel_rfl) (by kernel_rfl) (fun _ _ _ h => h) (Or.inl ⟨by rfl, ?ypn28⟩) (by assumption) ?rpn28
                  case ypn28 => (intro w hSw; (try dsimp only at hSw); go_simp; (try (with_reducible rfl)))
                  try simp only [Act.put, List.setIfInBounds_toArray, List.set_cons_zero, List.set_cons_succ]
                  refine wpAnyH_done (by kernel_rfl) ?_ _
                  clear hHeld
                  go_wp2_with fail
                  go_roundw
                  case rel => exact ⟨kk + 1, cm + 1, by omega, by go_num, by go_num, by have := HCM.out; omega, HBW2⟩
                  case measure => simp [intOf]; omega
              · have q8 : ¬ (kk : Int) < (q : Int) := by omega
                have hkk2 : kk = q := by omega
                have HKK := Lib.hid hkk2
                clear hkq hkk2
                go_wp2_with fail
                go_roundw
                case rel => exact ⟨i + 1, cm, by omega, by have := HCM.out; omega, by go_num, rfl, by show (cm : Int) = _; rw [HSN2.out, ← HCN.out, HCM.out, HKK.out]; omega, HBW⟩
                case measure => simp [intOf]; omega
          · have q5 : ¬ (i : Int) < (lk : Int) := by omega
            have hfin : cn = 2 * k := by
              have h := HCN.out
              have e := HSUM.out
              rw [List.take_of_length_le (by rw [HLEN.out]; omega), e] at h
              omega
            have hfi : (cn : Int) = 2 * (k : Int) := by omega
            have hb9 := (HUP.out _ HB0.out).2.2
            have HBZ := Lib.hid hb9
            clear hfin hb9
            go_wp2_with fail
            go_ret
            exact ⟨rfl, by rw [HNN.out]; exact HBZ.out⟩
end Go.Proofs.YtfpcdlpfmlaakaaDoor
