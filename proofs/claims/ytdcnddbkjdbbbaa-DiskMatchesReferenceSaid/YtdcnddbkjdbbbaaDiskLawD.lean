/-
  Lists of numbers that grow; the crash that all writes survive.
-/
import Derived.WalkKit
import Derived.LoopTactic
import Derived.WalkSpells
import Derived.WalkLawsBesides
import Derived.RegionTactic
import Derived.BigRegion
import Derived.Deep.QuietTactic
import Derived.BigQuiet
import Derived.IntWalk
import Derived.Test.YtdcnddbkjdbbbaaDiskLawC
set_option linter.unusedVariables false
set_option linter.unusedSimpArgs false
namespace Go.Proofs.Ytdcnddbkjdbbbaa
open Go.RowKit
theorem Try.infoI64 : (Try.prog.info? 3).map (fun i => (i.zero, i.size, i.bytes)) = some (some (.int .i64 0), 1, 8) := by kernel_rfl
/-- The cells of numbers. -/
def icells (ks : Nat → Int) (n : Nat) : List Value := (List.range n).map fun i => .int .i64 (ks i)
theorem icells_succ (ks : Nat → Int) (n : Nat) : icells ks (n + 1) = icells ks n ++ [.int .i64 (ks n)] := by simp [icells, List.range_succ]
theorem icells_get (ks : Nat → Int) (n i : Nat) (h : i < n) : (icells ks n)[i]? = some (.int .i64 (ks i)) := by simp [icells, h]
theorem icells_len (ks : Nat → Int) (n : Nat) : (icells ks n).length = n := by simp [icells]
theorem app_int (wr : World) (B : Nat) (v : Value) (n : Nat) (xs : List Value) (x : Int) (hown : wr.ownsRow B 3 1 v n xs) (hn : n ≤ 1000000) (hB : B ≤ wr.heap.size) (ty : TypeId) :
    ∃ v' w', (Builtin.append_ #[37, 37] ty #[v, .slice (some ⟨wr.heap.size, 0, none⟩) 1 1]).run Try.prog (wr.alloc (.cells #[.int .i64 x] 3)) = .ok v' w' ∧ w'.ownsRow B 3 1 v' (n + 1) (xs ++ [.int .i64 x]) ∧ Fr (fun k => v.ownBlock = some k) wr w' ∧ (∀ k, v'.ownBlock = some k → v.ownBlock = some k ∨ wr.heap.size ≤ k) := by
  obtain ⟨i0, hi, hz0, hz1, hz2⟩ := info_parts Try.infoI64
  have hnew : Blk (wr.alloc (.cells #[.int .i64 x] 3)) wr.heap.size 3 [.int .i64 x] := Blk.new wr _ _
  obtain ⟨v', w', hrun, h1, h2, h3⟩ := app_own (P := Try.prog) (W := wr.alloc (.cells #[.int .i64 x] 3)) B 37 ty 3 i0 (.int .i64 0) 1 8 Try.underlying37 hi hz0 hz1 hz2 rfl (by decide) v n xs (hown.alloc _) ⟨wr.heap.size, 0, none⟩ 1 1 [.int .i64 x] rfl (fun j u hj => by
      rw [show ((⟨wr.heap.size, 0, none⟩ : Addr).add j) = ⟨wr.heap.size, j, none⟩ from by unfold Addr.add; split <;> simp_all, hnew.cell]
      exact hj) (by intro u hu; simp at hu; subst hu; rfl) (by unfold maxLen; omega) (by omega) (by simp; omega)
  exact ⟨v', w', hrun, h1, ((Fr.refl _ wr).alloc _).trans h2 (fun _ _ h => h), fun k hk => (h3 k hk).imp_right (fun h => by simp at h; omega)⟩
/-- The same, the new number ahead of the old list. -/
theorem own_slice {wr : World} {B : Nat} {t : TypeId} {size : Nat} {v : Value} {n : Nat} {xs : List Value} (h : wr.ownsRow B t size v n xs) : ∃ oa cap, v = .slice oa n cap := by
  rcases h.2 with ⟨rfl, rfl⟩ | ⟨g, cap, _, rfl, _⟩
  · exact ⟨_, _, rfl⟩
  · exact ⟨_, _, rfl⟩
theorem own_ints {wr : World} {B : Nat} {oa : Option Addr} {cap n : Nat} {ks : Nat → Int} {S : Nat → Prop} (h : wr.ownsRow B 3 1 (.slice oa n cap) n (icells ks n)) (hn : ∀ k, (Value.slice oa n cap).ownBlock = some k → ¬ S k) : IntsAt wr oa n ks S := by
  by_cases h0 : n = 0
  · exact .inl h0
  refine .inr ?_
  have h' := h
  rcases h.2 with ⟨he, hz⟩ | ⟨g, cap', cur, he, q1, q2, q3⟩
  · omega
  · simp at he
    obtain ⟨rfl, rfl⟩ := he
    have hc : ∀ i, i < n → wr.cell? ⟨g, i, none⟩ = some (.int .i64 (ks i)) := fun i hi => by
      rw [h'.cellAt i (by omega), icells_get ks n i hi]
    refine ⟨g, 0, rfl, block_lt (hc 0 (by omega)), hn g rfl, fun i hi => ?_⟩
    rw [Nat.zero_add]
    exact hc i hi
/-- All writes, one after the other. -/
def appl (pend : List (Nat × ByteArray)) (dur : List UInt8) : List UInt8 := pend.foldl (fun l p => splice l p.1 p.2.data.toList) dur
theorem appl_snoc (pend : List (Nat × ByteArray)) (o : Nat) (s : ByteArray) (dur : List UInt8) : appl (pend ++ [(o, s)]) dur = splice (appl pend dur) o s.data.toList := by simp [appl]
theorem cutW_whole (last : Int) (i : Nat) (s : ByteArray) : cutW last (-1) i s = s := by
  unfold cutW
  rw [if_neg (by omega)]
theorem crashL_all (sv : List Bool) (last : Int) (pend : List (Nat × ByteArray)) (dur : List UInt8) (j : Nat) (hj : j ≤ pend.length) (hs : ∀ i, i < j → sv[i]?.getD false = true) : crashL sv last (-1) pend dur j = appl (pend.take j) dur := by
  induction j with
  | zero => simp [crashL, appl]
  | succ j ih =>
    have ih := ih (by omega) (fun i hi => hs i (by omega))
    unfold crashL
    rw [if_pos (hs j (by omega)), ih, cutW_whole, List.take_add_one, List.getElem?_eq_getElem (show j < pend.length by omega)]
    simp only [appl, List.foldl_append, Option.toList_some, List.foldl_cons, List.foldl_nil, Option.getD_some]
theorem survL_upto (n j : Nat) (hj : j ≤ n) : ∀ i, i < j → (survL (fun i => (i : Int)) n j)[i]?.getD false = true := by
  induction j with
  | zero => intro i hi; omega
  | succ j ih =>
    intro i hi
    unfold survL
    rw [if_pos (by omega), Int.toNat_natCast]
    by_cases e : i = j
    · subst e
      rw [List.getElem?_set_self (by rw [survL_len]; omega)]
      rfl
    · rw [List.getElem?_set_ne (by omega)]
      exact ih (by omega) i (by omega)
theorem own_ge {wr : World} {B : Nat} {t : TypeId} {size : Nat} {v : Value} {n : Nat} {xs : List Value} (h : wr.ownsRow B t size v n xs) : ∀ k, v.ownBlock = some k → B ≤ k := fun k hk => by
  rcases h.2 with ⟨rfl, rfl⟩ | ⟨g, cap, cur, rfl, q2, q3⟩
  · simp [Value.ownBlock] at hk
  · simp [Value.ownBlock] at hk
    omega
theorem icells_congr {ks ks' : Nat → Int} {n : Nat} (h : ∀ i, i < n → ks i = ks' i) : icells ks n = icells ks' n := by
  unfold icells
  apply List.map_congr_left
  intro i hi
  rw [h i (List.mem_range.1 hi)]
theorem own_ints2 {wr : World} {B : Nat} {oa : Option Addr} {cap n : Nat} {S : Nat → Prop} (h : wr.ownsRow B 3 1 (.slice oa n cap) n (icells (fun i => (i : Int)) n)) (hn : ∀ k, (Value.slice oa n cap).ownBlock = some k → ¬ S k) : IntsAt wr oa n (fun i => if i < n then (i : Int) else 0) S := by
  rw [icells_congr (ks' := fun i => if i < n then (i : Int) else 0) (fun i hi => by rw [if_pos hi])] at h
  exact own_ints h hn
theorem survL_upto2 (n : Nat) (j : Nat) (hj : j ≤ n) : survL (fun i => if i < n then (i : Int) else 0) n j = survL (fun i => (i : Int)) n j := by
  induction j with
  | zero => rfl
  | succ j ih =>
    unfold survL
    rw [ih (by omega), if_pos (show j < n by omega)]
theorem crashD_all (D : DS) (h : D.vis = appl D.pend D.dur) : crashD D (fun i => (i : Int)) D.pend.length (-1) = { lost := false, cut := 0, dur := D.vis, vis := D.vis, pend := [] } := by
  unfold crashD
  rw [crashL_all _ _ _ _ _ (Nat.le_refl _) (survL_upto _ _ (Nat.le_refl _)), List.take_length, ← h]
theorem crashD_all2 (D : DS) (h : D.vis = appl D.pend D.dur) : crashD D (fun i => if i < D.pend.length then (i : Int) else 0) D.pend.length (-1) = { lost := false, cut := 0, dur := D.vis, vis := D.vis, pend := [] } := by
  unfold crashD
  rw [crashL_all _ _ _ _ _ (Nat.le_refl _) (by rw [survL_upto2 _ _ (Nat.le_refl _)]; exact survL_upto _ _ (Nat.le_refl _)), List.take_length, ← h]
theorem DkOk.box {W wr w3 : World} {b bd bv : Nat} {vp : Value} {D : DS} {n i : Nat} (h : DkOk W wr b bd bv vp D n i) (hb : Below wr.heap.size wr w3) (t : TypeId) (cs : List Value) :
    DkOk W (w3.alloc (.cells cs.toArray t)) b bd bv vp D n i ∧ Blk (w3.alloc (.cells cs.toArray t)) w3.heap.size t cs ∧ ¬ Foot b bd bv vp w3.heap.size := by
  have hB : Below wr.heap.size wr (w3.alloc (.cells cs.toArray t)) := hb.alloc hb.size _
  have hz := hb.size
  have hlt := h.d.lt
  refine ⟨h.below hB, Blk.new w3 t cs, fun hk => ?_⟩
  have := hlt _ hk
  omega
set_option maxHeartbeats 1000000 in
set_option maxRecDepth 100000 in
theorem walkAllSurvive (size : Int) (oa : Option Addr) (len cap : Nat) (of : Nat → Int) (ss : Nat → ByteArray) (sy : Nat → Bool) (W : World) (hs0 : -9223372036854775808 ≤ size) (hs1 : size ≤ 9223372036854775807)
    (hlc : len ≤ cap) (hcm : cap ≤ maxLen) (hof : ∀ i, -9223372036854775808 ≤ of i ∧ of i ≤ 9223372036854775807) (hss : ∀ i, (ss i).size ≤ maxLen) (hw : WpAt W oa len of ss sy) :
    Calls Try.prog 9 #[.int .i64 size, .slice oa len cap] W fun e w' => e = .returned (.bool true) ∧ Below W.heap.size W w' := by
  have HW := Lib.hid hw
  clear hw
  unfold maxLen at hcm
  have hp := pickD_bd size 300 (by omega)
  obtain ⟨n, hn⟩ : ∃ n : Nat, 1 + pickD size 300 = (n : Int) := ⟨(1 + pickD size 300).toNat, by omega⟩
  have hn1 : 1 ≤ n := by omega
  have hn2 : n ≤ 300 := by omega
  have HN := Lib.hid hn
  obtain ⟨hp1, hp2⟩ := hp
  clear hn
  go_enter Try.func9, Try.ntmps9
  go_wp2_with fail
  refine (sane_any _).mono ?_
  rintro e w1 ⟨rfl, hb1⟩
  have HB1 := Lib.hid hb1
  clear hb1
  go_wp2_with fail
  refine (pick_any _ _ _ hs0 hs1 (by omega) (by omega)).mono ?_
  rintro e w' ⟨rfl, rfl⟩
  go_wp2_with fail
  rw [HN.out]
  refine (new_dk n W w1 HB1.out.size hn1 (by omega)).mono ?_
  rintro e w2 ⟨b, bd, bv, rfl, hd2, hb2, hq⟩
  have HD2 := Lib.hid hd2
  have HB2 := Lib.hid (bstep HB1.out hb2)
  clear hd2 hb2 hq HB1
  go_wp2_with fail
  go_loopw [8] (fun i wr => ∃ j : Nat, j ≤ 60 ∧ i = .int .i64 j ∧ ∃ vp D, Hid (D.vis = appl D.pend D.dur) ∧ Hid (DkOk W wr b bd bv vp D n j) ∧ Hid (Below W.heap.size W wr)) (fun i _ => 60 - (intOf i).toNat)
  case atStart => exact ⟨0, Nat.zero_le _, rfl, _, newD n, rfl, HD2, HB2⟩
  case round =>
    obtain ⟨j, hj, rfl, vp, D, HV, HD, HL⟩ := hrel
    by_cases hend : len ≤ j ∨ j = 60
    · rcases (show ((j : Int) < len ∧ ¬ (j : Int) < 60) ∨ (¬ (j : Int) < len ∧ True) from by
        by_cases h : (j : Int) < len
        · exact .inl ⟨h, by omega⟩
        · exact .inr ⟨h, trivial⟩) with ⟨hjl, hj60⟩ | ⟨hjl, hj60⟩
      all_goals
        clear hend
        go_wp2_with fail
        refine (read_dk W wr b bd bv vp D n j HD.out).mono ?_
        obtain ⟨T, hT⟩ : ∃ T : ByteArray, (⟨D.vis.toArray⟩ : ByteArray) = T := ⟨_, rfl⟩
        rw [hT]
        have HT := Lib.hid hT
        clear hT
        rintro e w' ⟨rfl, rfl⟩
        have hpl := HD.out.pl
        go_wp2_with fail
        go_loopw [12, 13] (fun v i w => ∃ m : Nat, m ≤ D.pend.length ∧ i = .int .i64 m ∧ Hid (w.ownsRow W.heap.size 3 1 v m (icells (fun i => (i : Int)) m)) ∧ Hid (∀ k, v.ownBlock = some k → ¬ Foot b bd bv vp k) ∧ Hid (DkOk W w b bd bv vp D n j) ∧ Hid (Below W.heap.size W w)) (fun _ i _ => D.pend.length - (intOf i).toNat)
        case atStart => exact ⟨0, Nat.zero_le _, rfl, World.ownsRow_nil _ _ _ _, (fun k hk => by simp [Value.ownBlock] at hk), HD, HL⟩
        case round =>
          obtain ⟨m, hm, rfl, HO, HF, HD3, HL3⟩ := hrel
          go_wp2_with fail
          refine (pending_dk W wr b bd bv vp D n j HD3.out).mono ?_
          rintro e w' ⟨rfl, rfl⟩
          by_cases hmp : m = D.pend.length
          · subst hmp
            obtain ⟨oa2, cap2, rfl⟩ := own_slice HO.out
            have hmp' : ¬ (D.pend.length : Int) < (D.pend.length : Int) := by omega
            go_wp2_with fail
            refine (crash_dk W wr b bd bv vp D n j oa2 D.pend.length cap2 (fun i => if i < D.pend.length then (i : Int) else 0) (-1) HL3.out.size (by omega) (by unfold maxLen; omega) (fun i => by split <;> omega) (by decide) (by decide) (own_ints2 HO.out HF.out) HD3.out).mono ?_
            rw [crashD_all2 D HV.out]
            rintro e w7 ⟨rfl, vp7, hd7, ho7, hf7⟩
            have HL7 : Hid (Below W.heap.size W w7) := HL3.out.trans (hf7.below _ HL3.out.size HD3.out.d.ge)
            have HD7 := Lib.hid hd7
            clear hd7 ho7 hf7
            go_wp2_with fail
            refine (read_dk W w7 b bd bv vp7 _ n 0 HD7.out).mono ?_
            rw [HT.out]
            rintro e w' ⟨rfl, rfl⟩
            go_wp2_with fail
            refine (crash_dk W w7 b bd bv vp7 _ n 0 none 0 0 (fun _ => 0) 0 HL7.out.size (by omega) (Nat.zero_le _) (fun _ => ⟨by decide, by decide⟩) (by decide) (by decide) (.inl rfl) HD7.out).mono ?_
            rw [crashD_none]
            rintro e w8 ⟨rfl, vp8, hd8, ho8, hf8⟩
            have HL8 : Hid (Below W.heap.size W w8) := HL7.out.trans (hf8.below _ HL7.out.size HD7.out.d.ge)
            have HD8 := Lib.hid hd8
            clear hd8 ho8 hf8
            go_wp2_with fail
            refine (read_dk W w8 b bd bv vp8 _ n 0 HD8.out).mono ?_
            rw [HT.out]
            rintro e w' ⟨rfl, rfl⟩
            go_wp2_with fail
            go_ret
            exact ⟨rfl, HL8.out⟩
          · have hmp' : (m : Int) < (D.pend.length : Int) := by omega
            obtain ⟨v', w9, hrun, ho9, hf9, hk9⟩ := app_int wr W.heap.size _ m _ m HO.out (by omega) HL3.out.size 37
            have HO9 : Hid (w9.ownsRow W.heap.size 3 1 v' (m + 1) (icells (fun i => (i : Int)) (m + 1))) := by
              show World.ownsRow _ _ _ _ _ _ _
              rw [icells_succ]
              exact ho9
            have HL9 : Hid (Below W.heap.size W w9) := HL3.out.trans (hf9.below _ HL3.out.size (fun k hk => own_ge HO.out k hk))
            have HD9 : Hid (DkOk W w9 b bd bv vp D n j) := HD3.out.fr hf9 (fun k hk e => HF.out k e hk)
            have HF9 : Hid (∀ k, v'.ownBlock = some k → ¬ Foot b bd bv vp k) := fun k hk hf => by
              rcases hk9 k hk with h | h
              · exact HF.out k h hf
              · have := HD3.out.d.lt k hf
                omega
            clear ho9 hf9 hk9 HO HF HD3 HL3
            go_wp2_with (at_builtin; refine wpList_append_run _ rfl _ _ 37 rfl _ _ _ _ rfl rfl hrun ?_)
            go_roundw
            case rel => exact ⟨m + 1, by omega, by go_num, HO9, HF9, HD9, HL9⟩
            case measure => simp [intOf]; omega
    · have hjl' : (j : Int) < len := by omega
      have hj60' : (j : Int) < 60 := by omega
      clear hend
      obtain ⟨q, off, rfl, c0, c1, c2⟩ := HW.out.kept HL.out j (by omega)
      go_wp2_with fail
      refine (fits_any (of j) (ss j) (sy j) n wr (hof j).1 (hof j).2 (hss j) (by omega)).mono ?_
      have hfit := fit_le (of j) (ss j) n
      generalize fitO (of j) n = o at hfit ⊢
      generalize fitS (of j) (ss j) n = s at hfit ⊢
      generalize sy j = y at c2 ⊢
      rintro e w3 ⟨rfl, hb3⟩
      have HB3 := Lib.hid hb3
      clear hb3 c0 c1 c2
      go_wp2_with fail
      have hbox := HD.out.box HB3.out 53 [.int .i64 (o : Int), .string s, .bool y]
      rw [show [Value.int .i64 (o : Int), .string s, .bool y].toArray = #[Value.int .i64 (o : Int), .string s, .bool y] from rfl] at hbox
      have HL4 := Lib.hid (bstep HL.out (HB3.out.alloc HB3.out.size (.cells #[Value.int .i64 (o : Int), .string s, .bool y] 53)))
      generalize w3.alloc (.cells #[Value.int .i64 (o : Int), .string s, .bool y] 53) = w4 at hbox HL4 ⊢
      generalize w3.heap.size = k at hbox ⊢
      obtain ⟨hd4, hk4, hkf⟩ := hbox
      have HD4 := Lib.hid hd4
      have HK4 := Lib.hid hk4
      have HKF := Lib.hid hkf
      clear hd4 hk4 hkf HB3 HD HL
      refine (write_dk W w4 b bd bv vp D n j o s HL4.out.size (by omega) (by omega) HD4.out).mono ?_
      rintro e w6 ⟨rfl, vp6, hd6, ho6, hf6⟩
      have HD6 := Lib.hid hd6
      have HK6 : Hid (Blk w6 k _ _) := HK4.out.kept (hf6.block k HK4.out.lt HKF.out)
      have HL6 : Hid (Below W.heap.size W w6) := HL4.out.trans (hf6.below _ HL4.out.size HD4.out.d.ge)
      have HV6 : Hid ((wrD D o s).vis = appl (wrD D o s).pend (wrD D o s).dur) := by
        show splice D.vis o s.data.toList = appl (D.pend ++ [(o, s)]) D.dur
        rw [appl_snoc, ← HV.out]
      clear hd6 ho6 hf6 HK4 HL4 HKF HD4
      generalize wrD D o s = D6 at HD6 HV6
      have c2 := HK6.out.cell 2
      simp only [List.getElem?_cons_zero, List.getElem?_cons_succ] at c2
      cases y
      · go_wp2_with fail
        go_roundw
        case rel => exact ⟨j + 1, by omega, by go_num, vp6, D6, HV6, HD6, HL6⟩
        case measure => simp [intOf]; omega
      · go_wp2_with fail
        refine (sync_dk W w6 b bd bv vp6 D6 n (j + 1) HD6.out).mono ?_
        rintro e w7 ⟨rfl, vp7, hd7, ho7, hf7⟩
        have HD7 := Lib.hid hd7
        have HL7 : Hid (Below W.heap.size W w7) := HL6.out.trans (hf7.below _ HL6.out.size HD6.out.d.ge)
        clear hd7 ho7 hf7
        go_wp2_with fail
        go_roundw
        case rel => exact ⟨j + 1, by omega, by go_num, vp7, { D6 with dur := D6.vis, pend := [] }, rfl, HD7, HL7⟩
        case measure => simp [intOf]; omega
end Go.Proofs.Ytdcnddbkjdbbbaa
