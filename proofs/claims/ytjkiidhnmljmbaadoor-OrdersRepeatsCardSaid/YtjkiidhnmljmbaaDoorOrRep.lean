/-
  Orders: the walk of the law OrdersRepeats.
-/
import Derived.OwnWalk
import Derived.Test.YtjkiidhnmljmbaaDoorOrRq
import Derived.Deep.CutRange
set_option linter.unusedVariables false
set_option linter.unusedSimpArgs false
namespace Go.Proofs.YtjkiidhnmljmbaaDoor
open Go.RowKit
theorem Tryd.infoInt : (Tryd.prog.info? 3).map (fun i => (i.zero, i.size, i.bytes)) = some (some (.int .i64 0), 1, 8) := by kernel_rfl
set_option maxHeartbeats 16000000 in
set_option maxRecDepth 100000 in
theorem walkRepeats (W : World) (c : Int) (o1 : Option Addr) (l1 c1 : Nat) (zs : Nat → Int) (hc0 : -9223372036854775808 ≤ c) (hc1 : c ≤ 9223372036854775807) (hl1 : l1 ≤ c1) (hcm : c1 ≤ maxLen)
    (hz : ∀ i, -9223372036854775808 ≤ zs i ∧ zs i ≤ 9223372036854775807)
    (x1 : l1 = 0 ∨ ∃ b off, o1 = some ⟨b, off, none⟩ ∧ b < W.heap.size ∧ ∀ i, i < l1 → W.cell? ⟨b, off + i, none⟩ = some (.int .i64 (zs i)))
    (hg : ∃ er, W.cell? ⟨0, 0, none⟩ = some (.iface 169 (.pointer (some er)))) :
    Calls Tryd.prog 7 #[.int .i64 c, .slice o1 l1 c1] W fun e w' => e = .returned (.bool true) ∧ Below W.heap.size W w' := by
  obtain ⟨er, hg⟩ := hg
  have HX := Lib.hid x1
  have HZ := Lib.hid hz
  have HSA := Lib.hid (sane_any er W hg)
  obtain ⟨m, hm⟩ : ∃ m : Nat, pickO c 20 = (m : Int) := ⟨(pickO c 20).toNat, by have := pickO_bd c 20 (by decide); omega⟩
  have hm20 : m < 20 := by have := pickO_bd c 20 (by decide); omega
  have HPK : Hid (∀ w, Calls Tryd.prog 13 #[.int .i64 c, .int .i64 20] w fun e w' => e = .returned (.int .i64 (m : Nat)) ∧ w = w') := fun w => by
    have := pickO_any c 20 w hc0 hc1 (by decide) (by decide)
    rw [hm] at this
    exact this
  obtain ⟨n, hn⟩ : ∃ n : Nat, 1 + (m : Int) = (n : Int) := ⟨m + 1, by omega⟩
  have hn20 : n ≤ 20 := by omega
  have hn1 : 1 ≤ n := by omega
  obtain ⟨i0, hi, hz0, hz1, hz2⟩ := info_parts Tryd.infoInt
  have HI := Lib.hid hi
  have HI0 := Lib.hid hz0
  have HI1 := Lib.hid hz1
  have HI2 := Lib.hid hz2
  clear x1 hg hm hz hi hz0 hz1 hz2
  go_enter Tryd.func7, Tryd.ntmps7
  go_wp2_with fail
  refine HSA.out.mono ?_
  rintro e ws ⟨rfl, hb0⟩
  clear HSA
  have HB0 := Lib.hid hb0
  clear hb0
  go_wp2_with fail
  refine (HPK.out _).mono ?_
  rintro e w' ⟨rfl, rfl⟩
  clear HPK
  go_wp2_with fail
  clear hn hm20
  refine (newSender_ok 2 ws (by decide) (by decide)).mono ?_
  rintro e w1 ⟨bs, rfl, hk1, hge1, hb1⟩
  have HS1 : Hid (SnAt w1 W.heap.size bs 2 (.slice none 0 0) (P0 0) 0) := ⟨hk1, World.ownsRow_nil _ _ _ _, by have := HB0.out.size; omega, fun g e => by simp [Value.ownBlock] at e⟩
  have HB1 : Hid (Below W.heap.size W w1) := HB0.out.trans (hb1.mono HB0.out.size)
  clear hk1 hge1 hb1 HB0
  go_wp2_with fail
  go_loopw [7] (fun vi wr => ∃ (i : Nat) (vp : Value), i ≤ n ∧ vi = .int .i64 ((i : Int) + 1) ∧ Hid (SnAt wr W.heap.size bs 2 vp (P0 i) 0) ∧ Hid (Below W.heap.size W wr)) (fun v _ => n + 1 - (intOf v).toNat)
  case atStart => exact ⟨0, _, Nat.zero_le _, rfl, HS1, HB1⟩
  case round =>
    clear HS1 HB1
    obtain ⟨i, vp, hin, rfl, HS, HB⟩ := hrel
    by_cases h : i < n
    · have q1 : (i : Int) + 1 ≤ (n : Int) := by omega
      go_wp2_with fail
      refine (drop_any ((i : Int) + 1) ((i : Int) + 1) wr).mono ?_
      rintro e w2 ⟨rfl, hb2⟩
      have HS2 := Lib.hid (HS.out.below hb2)
      have HB2 : Hid (Below W.heap.size W w2) := HB.out.trans (hb2.mono HB.out.size)
      clear hb2 HS HB
      go_wp2_with fail
      refine (add_ok w2 W.heap.size bs 2 vp (P0 i) 0 ((i : Int) + 1) ((i : Int) + 1) HS2.out (by rw [P0_len]) (by rw [P0_len]; omega) (by omega) (by omega) (fun j p hj _ => by obtain ⟨h1, rfl⟩ := P0_at i j p hj; show (j : Int) + 1 ≤ _; omega)).mono ?_
      rintro e w3 ⟨rfl, vp', hs3, hf3, hn3⟩
      rw [P0_succ] at hs3
      have HS3 := Lib.hid hs3
      have HB3 : Hid (Below W.heap.size W w3) := HB2.out.trans (hf3.below _ HB2.out.size (fun c hc => HS2.out.bge c hc))
      clear hs3 hf3 hn3 HS2 HB2
      go_wp2_with fail
      go_roundw
      case rel => exact ⟨i + 1, vp', by omega, by go_num, HS3, HB3⟩
      case measure => simp [intOf]; omega
    · have q1 : ¬ ((i : Int) + 1 ≤ (n : Int)) := by omega
      have e : i = n := by omega
      subst e
      clear h
      have q3 : (0 : Int) ≤ (i : Int) + 1 := by omega
      go_wp2_with (refine wpList_make_full _ rfl _ _ 44 rfl W.heap.size 3 i0 (.int .i64 0) 1 Tryd.underlying44 HI.out HI0.out HI1.out .i64 .i64 _ _ (i + 1) rfl rfl ?c1 ?c2 ?c3 ?c4 ?c5 ?_)
      case c3 => rw [HI2.out]; omega
      case c4 => unfold maxLen; omega
      case c5 => exact HB.out.size
      intro w3 hown hgrow
      obtain ⟨ov, cv, hv⟩ : ∃ ov cv, vp = .slice ov i cv := by
        obtain ⟨a, b, h⟩ := own_slice HS.out.own
        exact ⟨a, b, by rw [h, P0_len]⟩
      subst hv
      obtain ⟨n, rfl⟩ : ∃ n, n = i := ⟨_, rfl⟩
      obtain ⟨lb, hlb⟩ : ∃ lb, wr.heap.size = lb := ⟨_, rfl⟩
      have hbw : Below wr.heap.size wr w3 := (Below.refl _ wr).grown hgrow (Nat.le_refl _) (fun k e => by cases e)
      have hmd : (madeCells #[Value.int .i64 0] (n + 1)).toList = intC (List.replicate (n + 1) 0) := (toList_madeCells_one _ _).trans (by simp [intC])
      rw [hmd, hlb] at hown
      have HR3 : Hid (RpS W w3 bs (.slice ov n cv) (P0 n) 0 lb n (List.replicate (n + 1) 0)) := ⟨HS.out.below hbw, hown, by have := HS.out.blk.lt; omega, fun g e => by have := own_lt HS.out.own g e; omega, HB.out.trans (hbw.mono HB.out.size)⟩
      simp only [hlb]
      clear hown hgrow hbw hmd HS HB q3 q1 hin hlb HI HI0 HI1 HI2
      go_wp2_with fail
      go_loopw [9, 10] (fun va vn wr => ∃ (t k : Nat) (L : List Pst) (C : List Int), t ≤ 40 ∧ t ≤ l1 ∧ k ≤ n ∧ va = .int .i64 k ∧ vn = .int .i64 t ∧ Hid (RpS W wr bs (.slice ov n cv) L k lb n C) ∧ Hid (RepI L C n t)) (fun _ v _ => 40 - (intOf v).toNat)
      case atStart => exact ⟨0, 0, P0 n, _, Nat.zero_le _, Nat.zero_le _, Nat.zero_le _, rfl, rfl, HR3, RepI.start n⟩
      case round =>
        clear HR3
        obtain ⟨t, k, L, C, ht40, htl, hkn, rfl, rfl, HR, HN⟩ := hrel
        by_cases h : t < l1 ∧ t < 40
        · obtain ⟨h1, h2⟩ := h
          have q1 : (t : Int) < (l1 : Int) := by omega
          have q2 : (0 : Int) ≤ (t : Int) := by omega
          have q3 : (t : Int) < 40 := by omega
          obtain ⟨gb, off, rfl, hlt, hcs⟩ : ∃ b off, o1 = some ⟨b, off, none⟩ ∧ b < W.heap.size ∧ ∀ i, i < l1 → W.cell? ⟨b, off + i, none⟩ = some (.int .i64 (zs i)) := by
            rcases HX.out with h | h
            · omega
            · exact h
          have HC1 : Hid (∀ W', Below W.heap.size W W' → W'.cell? ⟨gb, off + t, none⟩ = some (.int .i64 (zs t))) := fun W' hW => (hW.cell (p := ⟨gb, off + t, none⟩) hlt).trans (hcs t h1)
          have hzt := HZ.out t
          obtain ⟨z, hzz⟩ : ∃ z, zs t = z := ⟨_, rfl⟩
          rw [hzz] at HC1 hzt
          obtain ⟨a, ha⟩ : ∃ a : Nat, pickO z ((n : Int) + 1) = (a : Int) := ⟨(pickO z ((n : Int) + 1)).toNat, by have := pickO_bd z ((n : Int) + 1) (by omega); omega⟩
          have han : a ≤ n := by have := pickO_bd z ((n : Int) + 1) (by omega); omega
          have HPK : Hid (∀ w, Calls Tryd.prog 13 #[.int .i64 z, .int .i64 ((n : Int) + 1)] w fun e w' => e = .returned (.int .i64 (a : Nat)) ∧ w = w') := fun w => by
            have := pickO_any z ((n : Int) + 1) w hzt.1 hzt.2 (by omega) (by omega)
            rw [ha] at this
            exact this
          have hlL : L.length = n := HN.out.ll
          have HTK := Lib.hid (tick_any wr W.heap.size bs 2 (.slice ov n cv) L k (t : Int) HR.out.sn (by rw [hlL]; exact hkn) (by omega) (by omega) (by omega) (fun p hp => by
            obtain ⟨j, hj⟩ := List.getElem?_of_mem hp
            obtain ⟨_, _, _, _, _, _, h6, h7⟩ := HN.out.rel j p hj
            exact ⟨h6, by omega⟩))
          have HLL := Lib.hid hlL
          clear hlt hcs hzt hzz ha h1 h2 hlL
          go_wp2_with fail
          refine HTK.out.mono ?_
          rintro e w2 ⟨vl, rfl, hom, hs2, hf2⟩
          rw [HLL.out] at hom hs2
          obtain ⟨f, hf⟩ : ∃ f, firstW k n = f := ⟨_, rfl⟩
          rw [hf] at hom hs2
          have hff : (k = n ∧ f + 1 = n) ∨ (k < n ∧ f = k) := by
            unfold firstW at hf
            split at hf <;> omega
          have HR2 := Lib.hid (HR.out.send hs2 hf2 (fun c hc => .inr hc))
          have hlbw : lb < wr.heap.size := own_lt HR.out.la lb rfl
          obtain ⟨og, cap, rfl, hms⟩ := MsAt.of hom hlbw
          have hnl : (sentL L f t n).length ≤ n := sentL_len L f t n
          obtain ⟨Ms, hMs⟩ : ∃ Ms, sentL L f t n = Ms := ⟨_, rfl⟩
          rw [hMs] at hms hnl
          simp only [hMs]
          obtain ⟨nm, hnm⟩ : ∃ nm, Ms.length = nm := ⟨_, rfl⟩
          rw [hnm] at hnl
          simp only [hnm]
          have HMS := Lib.hid hms
          have HNM := Lib.hid hnm
          have HMSE := Lib.hid hMs
          have HFF := Lib.hid hff
          clear hom hs2 hf2 hf hlbw hms hMs hnm HTK HR hff
          go_wp2_with fail
          go_loopw [12] (fun vi wr => ∃ i : Nat, i ≤ nm ∧ vi = .int .i64 i ∧ Hid (RpS W wr bs (.slice ov n cv) (updL L f n t) k lb n (stampL C (Ms.take i) ((t : Int) + 1))) ∧ Hid (∀ mg, MsAt w2 lb mg Ms → MsAt wr lb mg Ms)) (fun v _ => nm - (intOf v).toNat)
          case atStart => exact ⟨0, Nat.zero_le _, rfl, HR2, fun _ h => h⟩
          case round =>
            clear HR2
            obtain ⟨i, hin, rfl, HRz, HMz⟩ := hrel
            by_cases h : i < nm
            · skip
              obtain ⟨x, hx⟩ : ∃ x, Ms[i]? = some x := ⟨Ms[i]'(by rw [HNM.out]; exact h), List.getElem?_eq_getElem _⟩
              obtain ⟨mg, rfl, hma⟩ : ∃ mg, og = some ⟨mg, 0, none⟩ ∧ MsAt w2 lb mg Ms := by
                rcases HMS.out with h | h
                · rw [h] at hx; cases hx
                · exact h
              have hmz := HMz.out mg hma
              obtain ⟨cto, csq⟩ := hmz.2 i x hx
              obtain ⟨tt, ht1, ht2, ht3, ht4⟩ := HN.out.msg f i x (by rw [HMSE.out]; exact hx)
              rw [HMSE.out] at ht1
              obtain ⟨hxf, hxn, _⟩ := sentL_mem L f t x n (by rw [HMSE.out]; exact List.mem_of_getElem? hx)
              have cla := HRz.out.at ht1
              have cfz := HRz.out.frz (x.1 + 1)
              have hprev : ∀ d, i = d + 1 → ∃ kp : Nat, wr.cell? ⟨mg, d * 31 + 2, none⟩ = some (.int .i64 kp) ∧ kp ≤ x.1 := by
                intro d hd
                obtain ⟨y, hy⟩ : ∃ y, Ms[d]? = some y := ⟨Ms[d]'(by rw [HNM.out]; omega), List.getElem?_eq_getElem _⟩
                have hs := sentL_sorted L f t n
                rw [HMSE.out] at hs
                have := List.pairwise_iff_getElem.1 hs d i (List.getElem?_eq_some_iff.1 hy).1 (List.getElem?_eq_some_iff.1 hx).1 (by omega)
                rw [(List.getElem?_eq_some_iff.1 hy).2, (List.getElem?_eq_some_iff.1 hx).2] at this
                exact ⟨y.1 + 1, (hmz.2 d y hy).2, by omega⟩
              have HSN2 : Hid (stampL C (Ms.take (i + 1)) ((t : Int) + 1) = (stampL C (Ms.take i) ((t : Int) + 1)).set (x.1 + 1) ((t : Int) + 1)) := by
                rw [List.take_add_one, hx]
                exact stampL_snoc _ _ _ _
              obtain ⟨kk, hkk⟩ : ∃ kk, x.1 + 1 = kk := ⟨_, rfl⟩
              have hp2 : ∀ d, i = d + 1 → ∃ kp : Nat, wr.cell? ⟨mg, d * 31 + 2, none⟩ = some (.int .i64 kp) ∧ kp < kk := fun d hd => by
                obtain ⟨kp, h1, h2⟩ := hprev d hd
                exact ⟨kp, h1, by omega⟩
              rw [hkk] at csq cla cfz HSN2
              have e1 : 1 ≤ kk := by omega
              have e2 : kk ≤ n := by omega
              have e3 : f < kk := by omega
              have HP2 := Lib.hid hp2
              have HT4 := Lib.hid ht4
              clear hx hma hmz ht1 ht4 hxf hxn hprev hp2 hkk
              have q6 : (i : Int) < (nm : Int) := by omega
              have q7 : (0 : Int) ≤ (i : Int) := by omega
              have q8 : ¬ ((kk : Int) < 1) := by omega
              have q9 : (kk : Int) ≤ (n : Int) := by omega
              have q10 : ¬ ((n : Int) < (kk : Int)) := by omega
              have q11 : (0 : Int) ≤ (kk : Int) := by omega
              have q12 : (kk : Int) < (n : Int) + 1 := by omega
              go_upto_region 19 with (fail)
              go_cut [114] from 59 to 114 (fun v wx => v = .bool false ∧ wx = wr)
              case first =>
                clear HSN2 HMS HNM HMSE HN HC1 HPK HLL HZ HX
                rcases HFF.out with ⟨hk, hf⟩ | ⟨hk, hf⟩
                · obtain rfl : kk = n := by omega
                  obtain rfl : kk = k := hk.symm
                  clear hf e3 HFF
                  rcases Nat.eq_zero_or_pos i with hi0 | hi0
                  · have q13 : ¬ ((0 : Int) < (i : Int)) := by omega
                    clear hi0 HP2
                    rcases (show tt = 0 ∨ (0 < tt ∧ ¬ ((t : Int) - (tt - 1) < 6)) from by rcases Int.lt_or_eq_of_le ht2 with h | h; exact .inr ⟨h, by have := HT4.out h; omega⟩; exact .inl h.symm) with htt | ⟨htt, htu⟩
                    · subst htt
                      clear HT4 ht2 ht3
                      go_wp2_with fail
                      go_meet
                      exact ⟨by first | rfl | (simp; omega), rfl⟩
                    · have q19 : ¬ ((t : Int) - (tt - 1) < 6) := htu
                      clear HT4
                      go_wp2_with fail
                      go_meet
                      exact ⟨by first | rfl | (simp; omega), rfl⟩
                  · have q13 : (0 : Int) < (i : Int) := by omega
                    obtain ⟨d, hd⟩ : ∃ d, i = d + 1 := ⟨i - 1, by omega⟩
                    obtain ⟨kp, cpv, hkp⟩ := HP2.out d hd
                    have q15 : (i : Int) - 1 = (d : Int) := by omega
                    have q16 : (0 : Int) ≤ (d : Int) := by omega
                    have q17 : (d : Int) < (nm : Int) := by omega
                    have q18 : ¬ ((kk : Int) ≤ (kp : Int)) := by omega
                    clear hd hi0 HP2 hkp
                    rcases (show tt = 0 ∨ (0 < tt ∧ ¬ ((t : Int) - (tt - 1) < 6)) from by rcases Int.lt_or_eq_of_le ht2 with h | h; exact .inr ⟨h, by have := HT4.out h; omega⟩; exact .inl h.symm) with htt | ⟨htt, htu⟩
                    · subst htt
                      clear HT4 ht2 ht3
                      go_wp2_with fail
                      go_meet
                      exact ⟨by first | rfl | (simp; omega), rfl⟩
                    · have q19 : ¬ ((t : Int) - (tt - 1) < 6) := htu
                      clear HT4
                      go_wp2_with fail
                      go_meet
                      exact ⟨by first | rfl | (simp; omega), rfl⟩
                · have q14 : ¬ ((kk : Int) ≤ (k : Int)) := by omega
                  clear hf hk e3 HFF
                  rcases Nat.eq_zero_or_pos i with hi0 | hi0
                  · have q13 : ¬ ((0 : Int) < (i : Int)) := by omega
                    clear hi0 HP2
                    rcases (show tt = 0 ∨ (0 < tt ∧ ¬ ((t : Int) - (tt - 1) < 6)) from by rcases Int.lt_or_eq_of_le ht2 with h | h; exact .inr ⟨h, by have := HT4.out h; omega⟩; exact .inl h.symm) with htt | ⟨htt, htu⟩
                    · subst htt
                      clear HT4 ht2 ht3
                      go_wp2_with fail
                      go_meet
                      exact ⟨by first | rfl | (simp; omega), rfl⟩
                    · have q19 : ¬ ((t : Int) - (tt - 1) < 6) := htu
                      clear HT4
                      go_wp2_with fail
                      go_meet
                      exact ⟨by first | rfl | (simp; omega), rfl⟩
                  · have q13 : (0 : Int) < (i : Int) := by omega
                    obtain ⟨d, hd⟩ : ∃ d, i = d + 1 := ⟨i - 1, by omega⟩
                    obtain ⟨kp, cpv, hkp⟩ := HP2.out d hd
                    have q15 : (i : Int) - 1 = (d : Int) := by omega
                    have q16 : (0 : Int) ≤ (d : Int) := by omega
                    have q17 : (d : Int) < (nm : Int) := by omega
                    have q18 : ¬ ((kk : Int) ≤ (kp : Int)) := by omega
                    clear hd hi0 HP2 hkp
                    rcases (show tt = 0 ∨ (0 < tt ∧ ¬ ((t : Int) - (tt - 1) < 6)) from by rcases Int.lt_or_eq_of_le ht2 with h | h; exact .inr ⟨h, by have := HT4.out h; omega⟩; exact .inl h.symm) with htt | ⟨htt, htu⟩
                    · subst htt
                      clear HT4 ht2 ht3
                      go_wp2_with fail
                      go_meet
                      exact ⟨by first | rfl | (simp; omega), rfl⟩
                    · have q19 : ¬ ((t : Int) - (tt - 1) < 6) := htu
                      clear HT4
                      go_wp2_with fail
                      go_meet
                      exact ⟨by first | rfl | (simp; omega), rfl⟩
              case rest =>
                obtain ⟨rfl, hwx⟩ := hcut
                subst hwx
                go_wp2_with fail
                go_roundw
                case rel => exact ⟨i + 1, by omega, by go_num, by rw [HSN2.out]; exact HRz.out.put kk _, fun mg h => (HMz.out mg h).put _ _⟩
                case measure => simp [intOf]; omega
            · have q5 : ¬ ((i : Int) < (nm : Int)) := by omega
              have e : i = nm := by omega
              subst e
              clear h
              have htk : Ms.take i = Ms := List.take_of_length_le (by rw [HNM.out]; exact Nat.le_refl _)
              rw [htk] at HRz
              have HN2 : Hid (RepI (updL L f n t) (stampL C Ms ((t : Int) + 1)) n ((t : Int) + 1)) := by rw [← HMSE.out]; exact HN.out.tick (by omega) f
              obtain ⟨L2, hL2⟩ : ∃ L2, updL L f n t = L2 := ⟨_, rfl⟩
              obtain ⟨C2, hC2⟩ : ∃ C2, stampL C Ms ((t : Int) + 1) = C2 := ⟨_, rfl⟩
              rw [hL2, hC2] at HRz HN2
              have cz := HC1.out _ HRz.out.bel
              clear htk hL2 hC2 HMS HNM HMSE HN HC1 HLL HFF HMz
              go_wp2_with fail
              refine (HPK.out _).mono ?_
              rintro e w' ⟨rfl, rfl⟩
              clear cz
              go_wp2_with fail
              by_cases ha : a < k
              · refine (srecv_down wr W.heap.size bs 2 _ L2 k a HRz.out.sn (by decide) (by decide) ha (by rw [HN2.out.ll]; exact hkn) (by rw [HN2.out.ll]; omega)).mono ?_
                rintro e w5 ⟨⟨v5, rfl⟩, hs5, hf5⟩
                rw [HN2.out.ll] at hs5
                have HR5 := Lib.hid (HRz.out.send hs5 hf5 (fun c h => h))
                have q6 : (a : Int) < (k : Int) := by omega
                clear hs5 hf5 HRz ha
                go_wp2_with fail
                go_loopw [15] (fun vq wr => ∃ q : Nat, a < q ∧ q ≤ n + 1 ∧ vq = .int .i64 q ∧ Hid (RpS W wr bs (.slice ov n cv) (clrL L2 a n) a lb n (clrC C2 a q))) (fun v _ => n + 1 - (intOf v).toNat)
                case atStart => exact ⟨a + 1, by omega, by omega, by go_num, by rw [clrC_start]; exact HR5⟩
                case round =>
                  clear HR5
                  obtain ⟨q, hq1, hq2, rfl, HRy⟩ := hrel
                  by_cases h : q ≤ n
                  · have q7 : (q : Int) ≤ (n : Int) := by omega
                    have q8 : (0 : Int) ≤ (q : Int) := by omega
                    have q9 : (q : Int) < (n : Int) + 1 := by omega
                    obtain ⟨u, hu⟩ : ∃ u, (clrC C2 a q)[q]? = some u := ⟨_, List.getElem?_eq_getElem (by rw [clrC_len, HN2.out.cl]; omega)⟩
                    have cu := HRy.out.at hu
                    have cf := HRy.out.frz q
                    have HSU := Lib.hid (clrC_succ C2 a q hq1 (by rw [HN2.out.cl]; omega))
                    clear hu
                    go_wp2_with fail
                    go_roundw
                    case rel => exact ⟨q + 1, by omega, by omega, by go_num, by rw [HSU.out]; exact HRy.out.put q 0⟩
                    case measure => simp [intOf]; omega
                  · have q7 : ¬ ((q : Int) ≤ (n : Int)) := by omega
                    have e : q = n + 1 := by omega
                    subst e
                    have HN5 := Lib.hid (HN2.out.clear (by omega) a)
                    clear h
                    go_wp2_with fail
                    refine (done_any bs n cv ov (.int .i64 2) (a : Int) wr HRy.out.sn.blk).mono ?_
                    rintro e w7 ⟨rfl, hb7⟩
                    have HR7 := Lib.hid (HRy.out.below hb7)
                    clear hb7
                    go_wp2_with fail
                    go_roundw
                    case rel => exact ⟨t + 1, a, _, _, by omega, by omega, han, rfl, by go_num, HR7, HN5⟩
                    case measure => simp [intOf]; omega
              · refine (srecv_up wr W.heap.size bs 2 _ L2 k a HRz.out.sn (by decide) (by decide) (by omega) (by rw [HN2.out.ll]; exact han) (by rw [HN2.out.ll]; omega)).mono ?_
                rintro e w5 ⟨⟨v5, rfl⟩, hs5, hf5⟩
                have HR5 := Lib.hid (HRz.out.send hs5 hf5 (fun c h => .inl h))
                have q6 : ¬ ((a : Int) < (k : Int)) := by omega
                clear hs5 hf5 HRz ha
                go_wp2_with fail
                refine (done_any bs n cv ov (.int .i64 2) (a : Int) w5 HR5.out.sn.blk).mono ?_
                rintro e w7 ⟨rfl, hb7⟩
                have HR7 := Lib.hid (HR5.out.below hb7)
                clear hb7
                go_wp2_with fail
                go_roundw
                case rel => exact ⟨t + 1, a, _, _, by omega, by omega, han, rfl, by go_num, HR7, HN2⟩
                case measure => simp [intOf]; omega
        · rcases (show ¬ ((t : Int) < (l1 : Int)) ∨ ((t : Int) < (l1 : Int) ∧ ¬ ((t : Int) < 40)) from by omega) with h1 | ⟨h1, h2⟩
          all_goals
            clear h
            go_wp2_with fail
            go_ret
            exact ⟨rfl, HR.out.bel⟩
end Go.Proofs.YtjkiidhnmljmbaaDoor
