/-
  Orders: the walk of the law OrdersPrefix.
-/
import Derived.Test.YtjkiidhnmljmbaaDoorOrPs
import Derived.Deep.CutRange
set_option linter.unusedVariables false
set_option linter.unusedSimpArgs false
namespace Go.Proofs.YtjkiidhnmljmbaaDoor
open Go.RowKit
theorem PstI.mono {zs : Nat → Int} {L : List Pst} {i : Nat} {now now' : Int} (h : PstI zs L i now) (h1 : now ≤ now') : PstI zs L i now' :=
  ⟨h.len, fun j p hp => by obtain ⟨a1, a2, a3⟩ := h.rel j p hp; exact ⟨a1, a2, by omega⟩⟩
set_option maxHeartbeats 16000000 in
set_option maxRecDepth 100000 in
theorem walkPrefix (W : World) (o0 : Option Addr) (l0 c0 : Nat) (zs : Nat → Int) (o1 : Option Addr) (l1 c1 : Nat) (ys : Nat → Int) (hl0 : l0 ≤ c0) (hc0 : c0 ≤ maxLen) (hl1 : l1 ≤ c1) (hc1 : c1 ≤ maxLen)
    (hz : ∀ i, -9223372036854775808 ≤ zs i ∧ zs i ≤ 9223372036854775807)
    (x0 : l0 = 0 ∨ ∃ b off, o0 = some ⟨b, off, none⟩ ∧ b < W.heap.size ∧ ∀ i, i < l0 → W.cell? ⟨b, off + i, none⟩ = some (.int .i64 (zs i)))
    (x1 : l1 = 0 ∨ ∃ b off, o1 = some ⟨b, off, none⟩ ∧ b < W.heap.size ∧ ∀ i, i < l1 → W.cell? ⟨b, off + i, none⟩ = some (.int .i64 (ys i)))
    (hg : ∃ er, W.cell? ⟨0, 0, none⟩ = some (.iface 169 (.pointer (some er)))) :
    Calls Tryd.prog 6 #[.slice o0 l0 c0, .slice o1 l1 c1] W fun e w' => e = .returned (.bool true) ∧ Below W.heap.size W w' := by
  obtain ⟨er, hg⟩ := hg
  have HX0 := Lib.hid x0
  have HX1 := Lib.hid x1
  have HZ := Lib.hid hz
  have HSA := Lib.hid (sane_any er W hg)
  have HSZ := Lib.hid (show (Tryd.prog.info? 30).map (·.size) = some 26 from by kernel_rfl)
  have HSM := Lib.hid (show (Tryd.prog.info? 32).map (·.size) = some 31 from by kernel_rfl)
  clear x0 x1 hg hz
  go_enter Tryd.func6, Tryd.ntmps6
  go_wp2_with fail
  refine HSA.out.mono ?_
  rintro e ws ⟨rfl, hb0⟩
  clear HSA
  have HB0 := Lib.hid hb0
  clear hb0
  go_wp2_with fail
  refine (newSender_ok 0 ws (by decide) (by decide)).mono ?_
  rintro e w1 ⟨bs, rfl, hk1, hge1, hb1⟩
  have HK1 := Lib.hid hk1
  have HB1 := Lib.hid hb1
  have HGE := Lib.hid hge1
  clear hk1 hge1 hb1
  go_wp2_with fail
  refine (newReceiver_ok 0 w1 (by decide) (by decide)).mono ?_
  rintro e w2 ⟨br, m, rfl, hk2, hm2, hge2, hlt2, hb2⟩
  have hl2 : LnS W w2 bs br 0 (.slice none 0 0) [] 0 (.slice none 0 0) [] m [] [] := by
    have hs0 := HB0.out.size
    have hs := HB1.out.size
    have hk := HK1.out.lt
    have hge := HGE.out
    refine ⟨⟨HK1.out.kept (hb2.block _ HK1.out.lt), World.ownsRow_nil _ _ _ _, by omega, fun g e => by simp [Value.ownBlock] at e⟩, ⟨hk2, World.ownsRow_nil _ _ _ _, ⟨_, _, hm2, rfl⟩, by omega, by omega, fun g e => by simp [Value.ownBlock] at e⟩, fun c h1 h2 => ?_, HB0.out.trans ((HB1.out.mono hs0).trans (hb2.mono (Nat.le_trans hs0 hs))), fun p hp => by cases hp⟩
    simp only [FtS, FtR, Value.ownBlock] at h1 h2
    rcases h1 with rfl | h1
    · rcases h2 with rfl | rfl | h2
      · omega
      · omega
      · cases h2
    · cases h1
  have HP2 : Hid (PxS W w2 bs br (.slice none 0 0) [] (.slice none 0 0) [] m [] (.slice none 0 0) (addO zs 0) (.slice none 0 0) []) := ⟨hl2, World.ownsRow_nil _ _ _ _, World.ownsRow_nil _ _ _ _, fun c e => by simp [Value.ownBlock] at e, fun c e => by simp [Value.ownBlock] at e⟩
  clear hk2 hm2 hge2 hlt2 hb2 hl2 HK1 HB1 HGE HB0
  go_wp2_with fail
  go_loopw [8, 9, 10, 11] (fun va vs vt vi wr => ∃ (i ca cs ns : Nat) (oa os : Option Addr) (vp vo : Value) (L : List Pst) (l : List Od) (E : List (Int × Od)) (S : List (Nat × Int)), i ≤ 12 ∧ i ≤ l0 ∧ ns ≤ 12 * i ∧ vi = .int .i64 i ∧ vt = .int .i64 (atF zs i) ∧ va = .slice oa i ca ∧ vs = .slice os ns cs ∧ Hid (S.length = ns) ∧ Hid (PxS W wr bs br vp L vo l m E (.slice oa i ca) (addO zs i) (.slice os ns cs) S) ∧ Hid (PstI zs L i (7 * (i : Int))) ∧ Hid (SndI zs S i) ∧ Hid (RcvI zs i l E ∧ E.length ≤ 21 * i)) (fun _ _ _ v _ => 12 - (intOf v).toNat)
  case atStart => exact ⟨0, 0, 0, 0, none, none, _, _, [], [], [], [], Nat.zero_le _, Nat.zero_le _, Nat.le_refl _, rfl, rfl, rfl, rfl, rfl, HP2, ⟨rfl, fun j p hp => by cases hp⟩, (show SndI zs [] 0 from fun x hx => (by cases hx)), ⟨⟨rfl, Nat.le_refl _, fun p hp => by cases hp⟩, Nat.le_refl _⟩⟩
  case round =>
    clear HP2
    obtain ⟨i, ca, cs, ns, oa, os, vp, vo, L, l, E, S, hi12, hil, hns, rfl, rfl, rfl, rfl, HNS, HP, HL, HSN, HRC⟩ := hrel
    by_cases h : i < l0 ∧ i < 12
    · obtain ⟨h1, h2⟩ := h
      have q1 : (i : Int) < (l0 : Int) := by omega
      have q2 : (0 : Int) ≤ (i : Int) := by omega
      have q3 : (i : Int) < 12 := by omega
      obtain ⟨gb, off, rfl, hlt, hcs⟩ : ∃ b off, o0 = some ⟨b, off, none⟩ ∧ b < W.heap.size ∧ ∀ i, i < l0 → W.cell? ⟨b, off + i, none⟩ = some (.int .i64 (zs i)) := by
        rcases HX0.out with h | h
        · omega
        · exact h
      have cz : wr.cell? ⟨gb, off + i, none⟩ = some (.int .i64 (zs i)) := (HP.out.ln.bel.cell (p := ⟨gb, off + i, none⟩) hlt).trans (hcs i h1)
      have hbd := atF_bd zs (i + 1)
      have hal := atF_le zs i
      have hbd0 := atF_bd zs i
      obtain ⟨pk, hpk⟩ : ∃ pk, pickO (zs i) 100 = pk := ⟨_, rfl⟩
      have hadd : atF zs i + pk = atF zs (i + 1) := by rw [← hpk]; rfl
      have HPK : Hid (∀ w, Calls Tryd.prog 13 #[.int .i64 (zs i), .int .i64 100] w fun e w' => e = .returned (.int .i64 pk) ∧ w = w') := fun w => by
        have := pickO_any (zs i) 100 w (HZ.out i).1 (HZ.out i).2 (by decide) (by decide)
        rw [hpk] at this
        exact this
      have HLA : Hid (∀ j p, L[j]? = some p → j + 1 = L.length → p.fr ≤ atF zs (i + 1)) := fun j p hj he => by
        rw [(HL.out.rel j p hj).1, show j + 1 = i from by rw [he]; exact HL.out.len]
        exact hal
      obtain ⟨a0, ha0⟩ : ∃ a0, atF zs i = a0 := ⟨_, rfl⟩
      obtain ⟨a1, ha1⟩ : ∃ a1, atF zs (i + 1) = a1 := ⟨_, rfl⟩
      obtain ⟨z0, hz0⟩ : ∃ z0, zs i = z0 := ⟨_, rfl⟩
      rw [ha1] at HLA
      simp only [ha0, ha1] at hadd hbd hbd0 hal
      rw [hz0] at cz HPK
      simp only [ha0]
      have HA1 := Lib.hid ha1
      have b1 : 0 ≤ a1 := hbd.1
      have b2 : a1 ≤ 1200 := by omega
      clear hlt hcs hpk hbd hbd0 hal ha0 ha1 hz0 h1 h2
      go_wp2_with fail
      refine (HPK.out _).mono ?_
      rintro e w' ⟨rfl, rfl⟩
      go_wp2_with fail
      clear cz hadd HPK
      refine (drop_any ((i : Int) + 1) a1 wr).mono ?_
      rintro e w1 ⟨rfl, hb1⟩
      have hp1 := HP.out.below hb1
      obtain ⟨ob, hob⟩ : ∃ ob, w1.heap.size = ob := ⟨_, rfl⟩
      obtain ⟨y1, hy1⟩ : ∃ y1, w1.alloc (.cells (ordA 0 0 0 0 0) 30) = y1 := ⟨_, rfl⟩
      have kx : Blk y1 ob 30 (ordA 0 0 0 0 0).toList := by rw [← hy1, ← hob]; exact Blk.new w1 _ _
      obtain ⟨w2, hw2⟩ : ∃ w2, y1.setRow ob (drA ((i : Int) + 1) a1) = w2 := ⟨_, rfl⟩
      have ky : Blk w2 ob 30 (drA ((i : Int) + 1) a1).toList := by rw [← hw2]; exact kx.setRow _
      have hbw : Below w1.heap.size w1 w2 := by
        rw [← hw2, ← hy1, ← hob]
        exact below_setRow ((Below.refl _ w1).alloc (Nat.le_refl _) _) (Nat.le_refl _) _
      have hfs : ∀ c, FtS bs vp c → c < ob := fun c hc => by have := hp1.ln.sn.lt c hc; omega
      have HFS := Lib.hid hfs
      have HKX := Lib.hid kx
      have HYX := Lib.hid hw2
      have HKY : Hid (Blk w2 ob 30 [.int .i64 ((i : Int) + 1), .int .i64 (-1), .int .i64 a1, .int .i64 2, .int .i64 1, .int .i64 0, .int .i64 0, .int .i64 0, .int .i64 0, .int .i64 0, .int .i64 0, .int .i64 0, .slice none 0 0, .int .i64 0, .int .i64 0, .int .i64 0, .int .i64 0, .int .i64 0, .int .i64 0, .int .i64 0, .int .i64 0, .int .i64 0, .int .i64 0, .int .i64 0, .int .i64 0, .string ⟨#[]⟩]) := ky
      have HP2 := Lib.hid (hp1.below hbw)
      have HOX : Hid ((drA ((i : Int) + 1) a1).all (·.oneCell') = true) := (by first | rfl | (simp [drA, ordA, Value.oneCell']) : (drA ((i : Int) + 1) a1).all (·.oneCell') = true)
      have HZX : Hid ((ordA 0 0 0 0 0).toList.toArray.size = (drA ((i : Int) + 1) a1).size) := rfl
      have HR2 := Lib.hid HKY.out.range
      dsimp only [ordA] at hy1
      clear hb1 hp1 kx hw2 ky hbw hfs HP
      go_wp2_with (first | (refine wpList_store_row rfl 30 (.tmp 12) (.tmp 39) rfl ob (drA ((i : Int) + 1) a1) rfl rfl 30 _ HKX.out HSZ.out HZX.out HOX.out ?_; rw [HYX.out]) | (refine wpList_load_mid rfl 30 (.tmp 12) rfl ob 0 rfl [.int .i64 ((i : Int) + 1), .int .i64 (-1), .int .i64 a1, .int .i64 2, .int .i64 1, .int .i64 0, .int .i64 0, .int .i64 0, .int .i64 0, .int .i64 0, .int .i64 0, .int .i64 0, .slice none 0 0, .int .i64 0, .int .i64 0, .int .i64 0, .int .i64 0, .int .i64 0, .int .i64 0, .int .i64 0, .int .i64 0, .int .i64 0, .int .i64 0, .int .i64 0, .int .i64 0, .string ⟨#[]⟩] _ HR2.out Tryd.underlying30 rfl HSZ.out ?_))
      refine (add_ok w2 W.heap.size bs 0 vp L 0 a1 ((i : Int) + 1) HP2.out.ln.sn (by rw [HL.out.len]) (by rw [HL.out.len]; omega) b1 (by omega) HLA.out).mono ?_
      rintro e w3 ⟨rfl, vp3, hs3, hf3, hn3⟩
      have HP3 := Lib.hid (HP2.out.send hs3 hf3 (fun c h => h) hn3)
      have HK3 := Lib.hid (HKY.out.kept (hf3.block ob HKY.out.lt (fun hs => by have := HFS.out ob hs; omega)))
      have HR3 := Lib.hid HK3.out.range
      have hL3 := HL.out.add (by omega)
      rw [HA1.out] at hL3
      obtain ⟨L3, hL3e⟩ : ∃ L3, L ++ [(⟨a1, false, 0⟩ : Pst)] = L3 := ⟨_, rfl⟩
      have hTn : ∀ f now, f ≤ i → sentL L3 f now (i + 1) ≠ [] := fun f now hf => by rw [← hL3e]; exact sentL_last L a1 i f now HL.out.len hf
      rw [hL3e] at hL3 HP3
      have HL3 := Lib.hid hL3
      have HTN := Lib.hid hTn
      obtain ⟨oa4, ca4, w4, hrun4, ho4, hf4, hk4⟩ := app_ord w3 W.heap.size (.slice oa i ca) i (oCells (addO zs i)) [.int .i64 ((i : Int) + 1), .int .i64 (-1), .int .i64 a1, .int .i64 2, .int .i64 1, .int .i64 0, .int .i64 0, .int .i64 0, .int .i64 0, .int .i64 0, .int .i64 0, .int .i64 0, .slice none 0 0, .int .i64 0, .int .i64 0, .int .i64 0, .int .i64 0, .int .i64 0, .int .i64 0, .int .i64 0, .int .i64 0, .int .i64 0, .int .i64 0, .int .i64 0, .int .i64 0, .string ⟨#[]⟩] (by have := HP3.out.la; rw [addO_len] at this; exact this) (by omega) HP3.out.ln.bel.size 45 rfl (by simp [Value.oneCell'])
      have ho4' : w4.ownsRow W.heap.size 30 26 (.slice oa4 (i + 1) ca4) (addO zs (i + 1)).length (oCells (addO zs (i + 1))) := by
        rw [addO_len, addO_succ, show oCells (addO zs i ++ [ordO zs i]) = oCells (addO zs i) ++ [.int .i64 ((i : Int) + 1), .int .i64 (-1), .int .i64 a1, .int .i64 2, .int .i64 1, .int .i64 0, .int .i64 0, .int .i64 0, .int .i64 0, .int .i64 0, .int .i64 0, .int .i64 0, .slice none 0 0, .int .i64 0, .int .i64 0, .int .i64 0, .int .i64 0, .int .i64 0, .int .i64 0, .int .i64 0, .int .i64 0, .int .i64 0, .int .i64 0, .int .i64 0, .int .i64 0, .string ⟨#[]⟩] from by simp only [oCells, List.flatMap_append, List.flatMap_cons, List.flatMap_nil, List.append_nil]; unfold ordO Od.A; rw [HA1.out]; rfl]
        exact ho4
      have HP4 := Lib.hid (HP3.out.appA ho4' hf4 hk4)
      clear hs3 hf3 hn3 hL3 hL3e hTn ho4 ho4' hf4 hk4 HP2 HKX HYX HKY HR2 HFS HOX HZX HL HLA HK3
      go_wp2_with (first | (refine wpList_load_mid rfl 30 (.tmp 12) rfl ob 0 rfl [.int .i64 ((i : Int) + 1), .int .i64 (-1), .int .i64 a1, .int .i64 2, .int .i64 1, .int .i64 0, .int .i64 0, .int .i64 0, .int .i64 0, .int .i64 0, .int .i64 0, .int .i64 0, .slice none 0 0, .int .i64 0, .int .i64 0, .int .i64 0, .int .i64 0, .int .i64 0, .int .i64 0, .int .i64 0, .int .i64 0, .int .i64 0, .int .i64 0, .int .i64 0, .int .i64 0, .string ⟨#[]⟩] _ HR3.out Tryd.underlying30 rfl HSZ.out ?_) | (at_builtin; refine wpList_append_run _ rfl _ _ 45 rfl _ _ _ _ rfl rfl hrun4 ?_))
      clear hrun4 HP3 HR3 hob hy1
      have hlen3 : L3.length = i + 1 := HL3.out.len
      refine (tick_any w4 W.heap.size bs 0 vp3 L3 0 (7 * (i : Int)) HP4.out.ln.sn (Nat.zero_le _) (by omega) (by omega) (by omega) (fun p hp => by
        obtain ⟨j, hj⟩ := List.getElem?_of_mem hp
        obtain ⟨_, h6, h7⟩ := HL3.out.rel j p hj
        exact ⟨h6, by omega⟩)).mono ?_
      rintro e w5 ⟨vl, rfl, hom, hs5, hf5⟩
      rw [hlen3, show firstW 0 (i + 1) = 0 from by unfold firstW; rw [if_neg (by omega)]] at hom hs5
      have hp5 := HP4.out.send hs5 hf5 (fun c h => .inr h) (fun g e => .inl e)
      have HL5 := Lib.hid (HL3.out.tick 0 (i + 1) (7 * (i : Int)) (Int.le_refl _) (by omega))
      have HSN5 := Lib.hid (HSN.out.app (Nat.le_succ i) HL3.out 0 (7 * (i : Int)))
      have hnT : (sentL L3 0 (7 * (i : Int)) (i + 1)).length ≤ i + 1 := sentL_len _ _ _ _
      obtain ⟨os6, cs6, w6, hrun6, ho6, hf6, hk6⟩ := app_msgs w5 W.heap.size w4.heap.size (.slice os ns cs) vl S (sentL L3 0 (7 * (i : Int)) (i + 1)) hp5.ls hom (HTN.out 0 _ (Nat.zero_le _)) (by rw [HNS.out]; omega) hp5.ln.bel.size 52
      have HP6 := Lib.hid (hp5.appS ho6 hf6 hk6)
      have hn6 : 0 < (S ++ sentL L3 0 (7 * (i : Int)) (i + 1)).length := by
        have := List.length_pos_iff.2 (HTN.out 0 (7 * (i : Int)) (Nat.zero_le _))
        rw [List.length_append]
        omega
      have hn62 : (S ++ sentL L3 0 (7 * (i : Int)) (i + 1)).length ≤ 12 * (i + 1) := by
        rw [List.length_append, HNS.out]
        omega
      obtain ⟨S6, hS6⟩ : ∃ S6, S ++ sentL L3 0 (7 * (i : Int)) (i + 1) = S6 := ⟨_, rfl⟩
      obtain ⟨L6, hL6⟩ : ∃ L6, updL L3 0 (i + 1) (7 * (i : Int)) = L6 := ⟨_, rfl⟩
      rw [hS6] at HP6 HSN5 hn6 hn62 hrun6
      rw [hL6] at HP6 HL5
      obtain ⟨n6, hn6e⟩ : ∃ n6, S6.length = n6 := ⟨_, rfl⟩
      rw [hn6e] at HP6 hn6 hn62 hrun6
      have HNS6 := Lib.hid hn6e
      clear hom hs5 hf5 hp5 hnT ho6 hf6 hk6 hS6 hL6 hn6e hlen3 HL3 HTN HP4 HNS HSN
      have q4 : ((n6 : Int) == 0) = false := beq_eq_false_iff_ne.2 (by omega)
      have q4b : ¬ ((n6 : Int) = 0) := by omega
      go_wp2_with (at_builtin; refine wpList_append_run _ rfl _ _ 52 rfl _ _ _ _ rfl rfl hrun6 ?_)
      clear hrun6
      have HRC6 : Hid (RcvI zs (i + 1) l E ∧ E.length ≤ 21 * i + 0) := ⟨HRC.out.1.mono (Nat.le_succ i), HRC.out.2⟩
      clear HRC
      go_loopw [13] (fun vk wr => ∃ (k : Nat) (vo : Value) (l : List Od) (E : List (Int × Od)), k ≤ 20 ∧ vk = .int .i64 k ∧ Hid (PxS W wr bs br vp3 L6 vo l m E (.slice oa4 (i + 1) ca4) (addO zs (i + 1)) (.slice os6 n6 cs6) S6) ∧ Hid (RcvI zs (i + 1) l E ∧ E.length ≤ 21 * i + k)) (fun v _ => 20 - (intOf v).toNat)
      case atStart => exact ⟨0, _, _, _, Nat.zero_le _, rfl, HP6, HRC6⟩
      case round =>
        clear HP6 HRC6
        obtain ⟨k, vo, l, E, hk20, rfl, HP, HRC⟩ := hrel
        by_cases h : k < l1 ∧ k < 20 ∧ k ≤ 2 * i
        · obtain ⟨h1, h2, h3⟩ := h
          have q5 : (k : Int) < (l1 : Int) := by omega
          have q6 : (0 : Int) ≤ (k : Int) := by omega
          have q7 : (k : Int) < 20 := by omega
          have q8 : (k : Int) ≤ 2 * (i : Int) := by omega
          obtain ⟨yb, yo, rfl, hlt, hcs⟩ : ∃ b off, o1 = some ⟨b, off, none⟩ ∧ b < W.heap.size ∧ ∀ i, i < l1 → W.cell? ⟨b, off + i, none⟩ = some (.int .i64 (ys i)) := by
            rcases HX1.out with h | h
            · omega
            · exact h
          have cy : wr.cell? ⟨yb, yo + k, none⟩ = some (.int .i64 (ys k)) := (HP.out.ln.bel.cell (p := ⟨yb, yo + k, none⟩) hlt).trans (hcs k h1)
          obtain ⟨y, hy⟩ : ∃ y, ys k = y := ⟨_, rfl⟩
          rw [hy] at cy
          obtain ⟨v, hv⟩ : ∃ v, wrap64 (y + (i : Int)) = v := ⟨_, rfl⟩
          have hv0 : -9223372036854775808 ≤ v ∧ v ≤ 9223372036854775807 := by
            rw [← hv]
            unfold wrap64
            omega
          obtain ⟨jx, hjx⟩ : ∃ jx : Nat, pickO v (n6 : Int) = (jx : Int) := ⟨(pickO v (n6 : Int)).toNat, by have := pickO_bd v (n6 : Int) (by omega); omega⟩
          have hjn : jx < n6 := by have := pickO_bd v (n6 : Int) (by omega); omega
          have HPK : Hid (∀ w, Calls Tryd.prog 13 #[.int .i64 v, .int .i64 (n6 : Int)] w fun e w' => e = .returned (.int .i64 (jx : Nat)) ∧ w = w') := fun w => by
            have := pickO_any v (n6 : Int) w hv0.1 hv0.2 (by omega) (by omega)
            rw [hjx] at this
            exact this
          obtain ⟨x, hx⟩ : ∃ x, S6[jx]? = some x := ⟨S6[jx]'(by rw [HNS6.out]; exact hjn), List.getElem?_eq_getElem _⟩
          obtain ⟨hx1, hx2⟩ := HSN5.out x (List.mem_of_getElem? hx)
          have hls := HP.out.ls
          rw [HNS6.out] at hls
          obtain ⟨sg, rfl, hrg⟩ : ∃ sg, os6 = some ⟨sg, 0, none⟩ ∧ wr.rangeAt sg (jx * 31) (msgA 1 0 ((x.1 : Int) + 1) 0 0 ((x.1 : Int) + 1) (-1) x.2 2 1).toList := by
            rcases hls.2 with ⟨_, hz⟩ | ⟨g, cap, cur, he, _⟩
            · omega
            · simp only [Value.slice.injEq] at he
              obtain ⟨rfl, _, _⟩ := he
              refine ⟨g, rfl, fun j u hj => ?_⟩
              have hj31 : j < 31 := (List.getElem?_eq_some_iff.1 hj).1
              rw [hls.cellAt _ (by omega), mCells_at 0 S6 jx x j hx hj31]
              exact hj
          have HRG := Lib.hid hrg
          have hfb := atF_bd zs (x.1 + 1)
          rw [← hx2] at hfb
          have HRV := Lib.hid (recv_ord wr W.heap.size br 0 vo l m E ((x.1 : Int) + 1) x.2 HP.out.ln.rc (by decide) (by decide) (by omega) (by omega) hfb.1 (by omega) (by have := HRC.out.1.le; have := HRC.out.2; omega))
          have hog : (⟨(x.1 : Int) + 1, -1, x.2, 2, 1⟩ : Od) = ordO zs x.1 := by unfold ordO; rw [hx2]
          have HOG := Lib.hid hog
          have HX1' := Lib.hid hx1
          have q9 : (0 : Int) ≤ (jx : Int) := by omega
          have q10 : (jx : Int) < (n6 : Int) := by omega
          obtain ⟨xs, hxs⟩ : ∃ xs : Int, (x.1 : Int) + 1 = xs := ⟨_, rfl⟩
          obtain ⟨xf, hxf⟩ : ∃ xf, x.2 = xf := ⟨_, rfl⟩
          rw [hxs, hxf] at HRG HRV HOG
          have HXS := Lib.hid hxs
          clear hlt hcs hy hv0 hjx hjn hx hx1 hx2 hls hrg hfb hog h1 h2 h3 hxs hxf
          go_wp2_with fail
          refine (HPK.out _).mono ?_
          rintro e w' ⟨rfl, rfl⟩
          clear hv cy HPK
          go_wp2_with (refine wpList_load_mid rfl 32 (.tmp 84) rfl sg (jx * 31) rfl (msgA 1 0 xs 0 0 xs (-1) xf 2 1).toList _ HRG.out Tryd.underlying32 rfl HSM.out ?_)
          refine HRV.out.mono ?_
          rintro e w7 ⟨vo7, ob7, l7, E7, hadv, rfl, hk7, hge7, hrc7, hf7, hn7⟩
          have hp7 := HP.out.recv hrc7 hf7 (fun c h => h) hn7
          rw [HOG.out, ← HXS.out] at hadv
          have hrv : RcvI zs (i + 1) l7 E7 ∧ E7.length ≤ 21 * i + (k + 1) := by
            obtain ⟨r1, r2⟩ := HRC.out.1.put HX1'.out
            obtain ⟨r3, r4⟩ := RcvI.adv (putE l E ((x.1 : Int) + 1) (ordO zs x.1)).length l _ r1
            rw [← hadv] at r3 r4
            simp only [] at r3 r4
            exact ⟨r3, by have := HRC.out.2; omega⟩
          have HRC7 := Lib.hid hrv
          obtain ⟨ovo, cvo, rfl⟩ := own_slice hp7.ln.rc.own
          have hn7l : l7.length ≤ i + 1 := hrv.1.le
          obtain ⟨n7, hn7e⟩ : ∃ n7, l7.length = n7 := ⟨_, rfl⟩
          have HP7 := Lib.hid hp7
          have HOW7 := Lib.hid (rdo_of hp7.ln.rc.own)
          rw [hn7e] at HP7 hn7l hk7
          try simp only [hn7e]
          have HN7 := Lib.hid hn7e
          have HK7 := Lib.hid hk7
          clear hadv hk7 hge7 hrc7 hf7 hn7 hp7 hrv hn7e HRC HP HRG HRV HOG HXS HX1'
          go_wp2_with fail
          refine (orders_any w7 br n7 cvo _ _ ovo l7 HP7.out.ln.rc.blk HN7.out (by omega) HOW7.out).mono ?_
          rintro e w8 ⟨og, cg, rfl, hog, hb8⟩
          have hp8 := HP7.out.below hb8
          have hla := hp8.la
          obtain ⟨ag, rfl, hca⟩ : ∃ ag, oa4 = some ⟨ag, 0, none⟩ ∧ i + 1 ≤ ca4 := by
            rcases hla.2 with ⟨_, hz⟩ | ⟨g, cap, cur, he, _, _, hcap, _⟩
            · rw [addO_len] at hz; omega
            · simp only [Value.slice.injEq] at he
              obtain ⟨rfl, _, rfl⟩ := he
              exact ⟨g, rfl, by rw [addO_len] at hcap; exact hcap⟩
          have HA8 : Hid (RdO w8 (some ⟨ag, 0, none⟩) l7) := by
            have h1 := RdO.take (rdo_of (l := addO zs (i + 1)) (by rw [addO_len] at hla ⊢; exact hla)) n7
            rw [addO_take zs n7 (i + 1) hn7l] at h1
            have h2 := HRC7.out.1.eq
            rw [HN7.out] at h2
            rw [h2]
            exact h1
          have HG8 : Hid (RdO w8 og l7) := rdo_of (l := l7) (by rw [HN7.out]; exact hog)
          have HK8 := Lib.hid (HK7.out.kept (hb8.block _ HK7.out.lt))
          have HP8 := Lib.hid hp8
          have q11 : ¬ ((i : Int) + 1 < (n7 : Int)) := by omega
          have q12 : (n7 : Int) ≤ (ca4 : Int) := by omega
          have q13 : (n7 : Int) ≤ (i : Int) + 1 := by omega
          clear hog hb8 hp8 hla hca hn7l HK7 HP7 HOW7
          go_wp2_with fail
          refine (sameOrders_eq l7 og _ n7 cg _ w8 HN7.out (by omega) HG8.out HA8.out).mono ?_
          rintro e w9 ⟨rfl, hb9⟩
          have hk9 := HK8.out.kept (hb9.block _ HK8.out.lt)
          have k0 := hk9.cell 0
          have k2 := hk9.cell 2
          simp only [msgA, List.getElem?_cons_zero, List.getElem?_cons_succ] at k0 k2
          have HP9 := Lib.hid (HP8.out.below hb9)
          clear hk9 hb9 HK8 HP8 HA8 HG8
          go_wp2_with fail
          clear k0 k2
          go_roundw
          case rel =>
            first
              | exact ⟨k + 1, _, l7, E7, by omega, by go_num, HP9, HRC7⟩
              | ((repeat apply Exists.intro); refine ⟨?_, rfl⟩; exact ⟨k + 1, _, l7, E7, by omega, by go_num, HP9, HRC7⟩)
          case measure => simp [intOf]; omega
        · rcases (show ¬ ((k : Int) < (l1 : Int)) ∨ ((k : Int) < (l1 : Int) ∧ ¬ ((k : Int) < 20)) ∨ ((k : Int) < (l1 : Int) ∧ ((k : Int) < 20) ∧ ¬ ((k : Int) ≤ 2 * (i : Int))) from by omega) with h1 | ⟨h1, h2⟩ | ⟨h1, h2, h3⟩
          all_goals
            clear h
            go_wp2_with fail
            go_roundw
            case rel => exact ⟨i + 1, ca4, cs6, n6, oa4, os6, vp3, vo, L6, l, E, S6, by omega, by omega, hn62, by go_num, by rw [HA1.out], rfl, rfl, HNS6, HP, HL5.out.mono (by omega), HSN5, ⟨HRC.out.1, by have := HRC.out.2; omega⟩⟩
            case measure => simp [intOf]; omega
    · rcases (show ¬ ((i : Int) < (l0 : Int)) ∨ ((i : Int) < (l0 : Int) ∧ ¬ ((i : Int) < 12)) from by omega) with h1 | ⟨h1, h2⟩
      all_goals
        clear h
        go_wp2_with fail
        go_ret
        exact ⟨rfl, HP.out.ln.bel⟩
end Go.Proofs.YtjkiidhnmljmbaaDoor
