/-
  The walk of the law DiskMatchesReference.
-/
import Derived.WalkKit
import Derived.LoopTactic
import Derived.WalkSpells
import Derived.WalkLawsBesides
import Derived.RegionTactic
import Derived.BigRegion
import Derived.Deep.QuietTactic
import Derived.Deep.RegionHeld
import Derived.BigQuiet
import Derived.IntWalk
import Derived.Test.YtdcnddbkjdbbbaaDiskRG
set_option linter.unusedVariables false
set_option linter.unusedSimpArgs false
namespace Go.Proofs.Ytdcnddbkjdbbbaa
open Go.RowKit
theorem StAt.kept {W wr : World} {oa : Option Addr} {len : Nat} {F : Nat → SP} (h : StAt W oa len F) (hb : Below W.heap.size W wr) (i : Nat) (hi : i < len) :
    ∃ g off, oa = some ⟨g, off, none⟩ ∧ wr.cell? ⟨g, off + i * 5, none⟩ = some (.int .i64 (F i).call) ∧ wr.cell? ⟨g, off + i * 5 + 1, none⟩ = some (.int .i64 (F i).off) ∧ wr.cell? ⟨g, off + i * 5 + 2, none⟩ = some (.int .i64 (F i).n) ∧ wr.cell? ⟨g, off + i * 5 + 3, none⟩ = some (.string (F i).s) ∧ wr.cell? ⟨g, off + i * 5 + 4, none⟩ = some (.slice (F i).ko (F i).kl (F i).kc) := by
  rcases h with h0 | ⟨g, off, rfl, hg, hc⟩
  · omega
  · obtain ⟨c0, c1, c2, c3, c4⟩ := hc i hi
    exact ⟨g, off, rfl, by rw [hb.cell hg]; exact c0, by rw [hb.cell hg]; exact c1, by rw [hb.cell hg]; exact c2, by rw [hb.cell hg]; exact c3, by rw [hb.cell hg]; exact c4⟩
theorem newD_inv (n : Nat) : Inv (newD n) n 0 := ⟨rfl, zeroL_len n, zeroL_len n, fun p hp => (List.not_mem_nil hp).elim, Nat.zero_le _, by show (0 : Nat) ≤ _; omega⟩
set_option maxHeartbeats 4000000 in
set_option maxRecDepth 100000 in
theorem walkDiskMatches (size : Int) (oa : Option Addr) (len cap : Nat) (F : Nat → SP) (W : World) (hs0 : -9223372036854775808 ≤ size) (hs1 : size ≤ 9223372036854775807)
    (hlc : len ≤ cap) (hcm : cap ≤ maxLen) (hok : ∀ i, (F i).Ok W) (hw : StAt W oa len F) :
    Calls Try.prog 4 #[.int .i64 size, .slice oa len cap] W fun e w' => e = .returned (.bool true) ∧ Below W.heap.size W w' := by
  have HW := Lib.hid hw
  have HOK := Lib.hid hok
  clear hw hok
  unfold maxLen at hcm
  have hp := pickD_bd size 400 (by omega)
  obtain ⟨n, hn⟩ : ∃ n : Nat, 1 + pickD size 400 = (n : Int) := ⟨(1 + pickD size 400).toNat, by omega⟩
  have hn1 : 1 ≤ n := by omega
  have hn2 : n ≤ 400 := by omega
  have HN := Lib.hid hn
  obtain ⟨hp1, hp2⟩ := hp
  clear hn
  go_enter Try.func4, Try.ntmps4
  go_wp2_with fail
  refine (sane_any _).mono ?_
  rintro e w1 ⟨rfl, hb1⟩
  have HB1 := Lib.hid hb1
  clear hb1
  go_wp2_with fail
  refine (pick_any _ _ _ hs0 hs1 (by omega) (by omega)).mono ?_
  rintro e w' ⟨rfl, rfl⟩
  go_wp2_with fail
  rw [HN.out]
  refine (new_ok n w1 W.heap.size HB1.out.size hn1 (by omega)).mono ?_
  rintro e w2 ⟨b, bd, bv, rfl, hd2, hb2, hq⟩
  have HD2 := Lib.hid hd2
  have HB2 := Lib.hid (bstep HB1.out hb2)
  clear hd2 hb2 hq HB1
  go_wp2_with fail
  refine (refNew_ok n w2 W.heap.size HB2.out.size hn1 (by omega)).mono ?_
  rintro e w3 ⟨b', gs, rfl, hr3, hb3, hq1, hq2⟩
  have HP3 : Hid (Pr W w3 b bd bv (.slice none 0 0) b' gs n [] (.slice none 0 0) (newD n) n 0) :=
    ⟨HD2.out.fr (Fr.of_below hb3) (fun k hk hs => by have := HD2.out.lt k hk; omega), hr3, fun k hk hs => by
      have := HD2.out.lt k hk
      rcases hs with rfl | rfl | hs
      · omega
      · omega
      · simp [Value.ownBlock] at hs, bstep HB2.out hb3, newD_inv n⟩
  clear hr3 hb3 hq1 hq2 HD2 HB2
  go_wp2_with fail
  go_loopw [10] (fun i wr => ∃ j : Nat, j ≤ len ∧ j ≤ 60 ∧ i = .int .i64 j ∧ ∃ vp gs cs rest vl D, Hid (Pr W wr b bd bv vp b' gs cs rest vl D n j)) (fun i _ => 60 - (intOf i).toNat)
  case atStart => exact ⟨0, Nat.zero_le _, by omega, rfl, _, _, _, _, _, _, HP3⟩
  case round =>
    clear HP3
    obtain ⟨j, hj1, hj2, rfl, vp, gs, cs, rest, vl, D, HP⟩ := hrel
    by_cases hend : j = len
    · have q1 : ¬ (j : Int) < (len : Int) := by omega
      clear hend
      go_wp2_with fail
      go_ret
      exact ⟨rfl, HP.out.bel⟩
    · have q1 : (j : Int) < (len : Int) := by omega
      by_cases h60 : j = 60
      · have q2 : ¬ (j : Int) < 60 := by omega
        clear hend h60
        go_wp2_with fail
        go_ret
        exact ⟨rfl, HP.out.bel⟩
      · have q2 : (j : Int) < 60 := by omega
        obtain ⟨g, off, rfl, d0, d1, d2, d3, d4⟩ := HW.out.kept HP.out.bel j (by omega)
        have HYOK := Lib.hid (HOK.out j)
        have HWJ : Hid (∀ wr, Below W.heap.size W wr → wr.cell? ⟨g, off + j * 5, none⟩ = some (.int .i64 (F j).call) ∧ wr.cell? ⟨g, off + j * 5 + 1, none⟩ = some (.int .i64 (F j).off) ∧ wr.cell? ⟨g, off + j * 5 + 2, none⟩ = some (.int .i64 (F j).n) ∧ wr.cell? ⟨g, off + j * 5 + 3, none⟩ = some (.string (F j).s) ∧ wr.cell? ⟨g, off + j * 5 + 4, none⟩ = some (.slice (F j).ko (F j).kl (F j).kc)) := fun wr hb => by
          obtain ⟨g', off', e, r⟩ := HW.out.kept hb j (by omega)
          simp at e
          obtain ⟨rfl, rfl⟩ := e
          exact r
        obtain ⟨y, hy⟩ : ∃ y, F j = y := ⟨_, rfl⟩
        rw [hy] at d0 d1 d2 d3 d4 HYOK HWJ
        clear hy hend h60
        go_wp2_with fail
        refine wp_region_held_drew (S := fun w' => w'.cell? ⟨g, off + j * 5, none⟩ = some (.int .i64 y.call) ∧ w'.cell? ⟨g, off + j * 5 + 1, none⟩ = some (.int .i64 y.off) ∧ w'.cell? ⟨g, off + j * 5 + 2, none⟩ = some (.int .i64 y.n) ∧ w'.cell? ⟨g, off + j * 5 + 3, none⟩ = some (.string y.s) ∧ w'.cell? ⟨g, off + j * 5 + 4, none⟩ = some (.slice y.ko y.kl y.kc)) (by kernel_rfl) ?_ (fun hHeld => ?_)
        · exact ⟨d0, d1, d2, d3, d4⟩
        clear d0 d1 d2 d3 d4
        refine wpAnyH_take (i := 0) (oi := ⟨some 45, _, _, _, _, _⟩) (v := ?va0) rfl (by kernel_rfl) (by kernel_rfl) (by kernel_rfl) (fun _ _ _ h => h) (Or.inl ⟨by rfl, ?ya0⟩) (by assumption) ?ra0
        case ya0 => (intro w hSw; (try dsimp only at hSw); go_simp; (try (with_reducible rfl)))
        try simp only [Act.put, List.setIfInBounds_toArray, List.set_cons_zero, List.set_cons_succ]
        refine wpAnyH_take (i := 1) (oi := ⟨some 46, _, _, _, _, _⟩) (v := ?va1) rfl (by kernel_rfl) (by kernel_rfl) (by kernel_rfl) (fun _ _ _ h => h) (Or.inl ⟨by rfl, ?ya1⟩) (by assumption) ?ra1
        case ya1 => (intro w hSw; (try dsimp only at hSw); go_simp; (try (with_reducible rfl)))
        try simp only [Act.put, List.setIfInBounds_toArray, List.set_cons_zero, List.set_cons_succ]
        refine wpAnyH_take (i := 2) (oi := ⟨some 47, _, _, _, _, _⟩) (v := ?va2) rfl (by kernel_rfl) (by kernel_rfl) (by kernel_rfl) (fun _ _ _ h => h) (Or.inl ⟨by rfl, ?ya2⟩) (by assumption) ?ra2
        case ya2 => (intro w hSw; (try dsimp only at hSw); go_simp; (try (with_reducible rfl)))
        try simp only [Act.put, List.setIfInBounds_toArray, List.set_cons_zero, List.set_cons_succ]
        refine wpAnyH_take (i := 3) (oi := ⟨some 48, _, _, _, _, _⟩) (v := ?va3) rfl (by kernel_rfl) (by kernel_rfl) (by kernel_rfl) (fun _ _ _ h => h) (Or.inl ⟨by rfl, ?ya3⟩) (by assumption) ?ra3
        case ya3 => (intro w hSw; (try dsimp only at hSw); go_simp; (try (with_reducible rfl)))
        try simp only [Act.put, List.setIfInBounds_toArray, List.set_cons_zero, List.set_cons_succ]
        refine wpAnyH_take (i := 4) (oi := ⟨some 49, _, _, _, _, _⟩) (v := ?va4) rfl (by kernel_rfl) (by kernel_rfl) (by kernel_rfl) (fun _ _ _ h => h) (Or.inl ⟨by rfl, ?ya4⟩) (by assumption) ?ra4
        case ya4 => (intro w hSw; (try dsimp only at hSw); go_simp; (try (with_reducible rfl)))
        try simp only [Act.put, List.setIfInBounds_toArray, List.set_cons_zero, List.set_cons_succ]
        refine wpAnyH_take (i := 5) (oi := ⟨some 50, _, _, _, _, _⟩) (v := ?va5) rfl (by kernel_rfl) (by kernel_rfl) (by kernel_rfl) (fun _ _ _ h => h) (Or.inl ⟨by rfl, ?ya5⟩) (by assumption) ?ra5
        case ya5 => (intro w hSw; (try dsimp only at hSw); go_simp; (try (with_reducible rfl)))
        try simp only [Act.put, List.setIfInBounds_toArray, List.set_cons_zero, List.set_cons_succ]
        refine wpAnyH_ready (rs := [6]) (by kernel_rfl) (by simp) (AllReadyH.cons (o := ⟨some 51, _, _, _, _, _⟩) rfl (fun K hK => ?_) AllReadyH.nil)
        go_simp
        refine (step_any W wr.drew b bd bv vp b' gs cs rest vl D n j y HYOK.out (by omega) (by omega) (HP.out.below (drew_below'' wr _))).mono ?_
        rintro e w4 ⟨rfl, vp4, gs4, cs4, rest4, vl4, D4, hp4⟩
        have HP4 := Lib.hid hp4
        clear hp4
        go_simp
        refine hK.out _ _ ?_ (fun hHeld2 => ?_)
        · exact HWJ.out w4 HP4.out.bel
        clear hK K hHeld
        rename _ => hHeld
        try simp only [Act.put, List.setIfInBounds_toArray, List.set_cons_zero, List.set_cons_succ]
        refine wpAnyH_take (i := 7) (oi := ⟨some 52, _, _, _, _, _⟩) (v := ?va7) rfl (by kernel_rfl) (by kernel_rfl) (by kernel_rfl) (fun _ _ _ h => h) (Or.inl ⟨by rfl, ?ya7⟩) (by assumption) ?ra7
        case ya7 => (intro w hSw; (try dsimp only at hSw); go_simp; (try (with_reducible rfl)))
        try simp only [Act.put, List.setIfInBounds_toArray, List.set_cons_zero, List.set_cons_succ]
        refine wpAnyH_take (i := 8) (oi := ⟨some 53, _, _, _, _, _⟩) (v := ?va8) rfl (by kernel_rfl) (by kernel_rfl) (by kernel_rfl) (fun _ _ _ h => h) (Or.inl ⟨by rfl, ?ya8⟩) (by assumption) ?ra8
        case ya8 => (intro w hSw; (try dsimp only at hSw); go_simp; (try (with_reducible rfl)))
        try simp only [Act.put, List.setIfInBounds_toArray, List.set_cons_zero, List.set_cons_succ]
        obtain ⟨ol4, cl4, rfl⟩ := chg_slice HP4.out.r.own
        have c1 := HP4.out.r.blk.cell 1
        simp only [List.getElem?_cons_zero, List.getElem?_cons_succ] at c1
        have hipl := HP4.out.inv.pl
        have hpm : (D4.pend.length : Int) ≤ 1000000 := by omega
        refine wpAnyH_swap (S' := fun w' => w'.cell? ⟨b', 1, none⟩ = some (.slice ol4 D4.pend.length cl4) ∧ (fun w' => w'.cell? ⟨g, off + j * 5, none⟩ = some (.int .i64 y.call) ∧ w'.cell? ⟨g, off + j * 5 + 1, none⟩ = some (.int .i64 y.off) ∧ w'.cell? ⟨g, off + j * 5 + 2, none⟩ = some (.int .i64 y.n) ∧ w'.cell? ⟨g, off + j * 5 + 3, none⟩ = some (.string y.s) ∧ w'.cell? ⟨g, off + j * 5 + 4, none⟩ = some (.slice y.ko y.kl y.kc)) w') (fun w h => h.2) _ _ _ _ ?_
        replace hHeld := And.intro c1 hHeld
        clear c1
        refine wpAnyH_take (i := 9) (oi := ⟨some 54, _, _, _, _, _⟩) (v := ?va9) rfl (by kernel_rfl) (by kernel_rfl) (by kernel_rfl) (fun _ _ _ h => h) (Or.inl ⟨by rfl, ?ya9⟩) (by assumption) ?ra9
        case ya9 => (intro w hSw; (try dsimp only at hSw); go_simp; (try (with_reducible rfl)))
        try simp only [Act.put, List.setIfInBounds_toArray, List.set_cons_zero, List.set_cons_succ]
        refine wpAnyH_take (i := 11) (oi := ⟨some 56, _, _, _, _, _⟩) (v := ?va11) rfl (by kernel_rfl) (by kernel_rfl) (by kernel_rfl) (fun _ _ _ h => h) (Or.inl ⟨by rfl, ?ya11⟩) (by assumption) ?ra11
        case ya11 => (intro w hSw; (try dsimp only at hSw); go_simp; (try (with_reducible rfl)))
        try simp only [Act.put, List.setIfInBounds_toArray, List.set_cons_zero, List.set_cons_succ]
        refine wpAnyH_take (i := 12) (oi := ⟨some 57, _, _, _, _, _⟩) (v := ?va12) rfl (by kernel_rfl) (by kernel_rfl) (by kernel_rfl) (fun _ _ _ h => h) (Or.inl ⟨by rfl, ?ya12⟩) (by assumption) ?ra12
        case ya12 => (intro w hSw; (try dsimp only at hSw); go_simp; (try (with_reducible rfl)))
        try simp only [Act.put, List.setIfInBounds_toArray, List.set_cons_zero, List.set_cons_succ]
        refine wpAnyH_take (i := 13) (oi := ⟨some 58, _, _, _, _, _⟩) (v := ?va13) rfl (by kernel_rfl) (by kernel_rfl) (by kernel_rfl) (fun _ _ _ h => h) (Or.inl ⟨by rfl, ?ya13⟩) (by assumption) ?ra13
        case ya13 => (intro w hSw; (try dsimp only at hSw); go_simp; (try (with_reducible rfl)))
        try simp only [Act.put, List.setIfInBounds_toArray, List.set_cons_zero, List.set_cons_succ]
        refine wpAnyH_take (i := 14) (oi := ⟨some 59, _, _, _, _, _⟩) (v := ?va14) rfl (by kernel_rfl) (by kernel_rfl) (by kernel_rfl) (fun _ _ _ h => h) (Or.inl ⟨by rfl, ?ya14⟩) (by assumption) ?ra14
        case ya14 => (intro w hSw; (try dsimp only at hSw); go_simp; (try (with_reducible rfl)))
        try simp only [Act.put, List.setIfInBounds_toArray, List.set_cons_zero, List.set_cons_succ]
        refine wpAnyH_take (i := 15) (oi := ⟨some 60, _, _, _, _, _⟩) (v := ?va15) rfl (by kernel_rfl) (by kernel_rfl) (by kernel_rfl) (fun _ _ _ h => h) (Or.inl ⟨by rfl, ?ya15⟩) (by assumption) ?ra15
        case ya15 => (intro w hSw; (try dsimp only at hSw); go_simp; (try (with_reducible rfl)))
        try simp only [Act.put, List.setIfInBounds_toArray, List.set_cons_zero, List.set_cons_succ]
        refine wpAnyH_ready (rs := [10]) (by kernel_rfl) (by simp) (AllReadyH.cons (o := ⟨some 55, _, _, _, _, _⟩) rfl (fun K hK => ?_) AllReadyH.nil)
        go_simp
        refine (pending_any w4 W.heap.size b bd bv vp4 D4 HP4.out.d).mono ?_
        rintro e w' ⟨rfl, rfl⟩
        go_simp
        refine hK.out _ _ ?_ (fun hHeld2 => ?_)
        · exact hHeld
        clear hK K hHeld
        rename _ => hHeld
        try simp only [Act.put, List.setIfInBounds_toArray, List.set_cons_zero, List.set_cons_succ]
        refine wpAnyH_take (i := 16) (oi := ⟨some 61, _, _, _, _, _⟩) (v := ?va16) rfl (by kernel_rfl) (by kernel_rfl) (by kernel_rfl) (fun _ _ _ h => h) (Or.inl ⟨by rfl, ?ya16⟩) (by assumption) ?ra16
        case ya16 => (intro w hSw; (try dsimp only at hSw); go_simp; (try (with_reducible rfl)))
        try simp only [Act.put, List.setIfInBounds_toArray, List.set_cons_zero, List.set_cons_succ]
        refine wpAnyH_take (i := 17) (oi := ⟨some 62, _, _, _, _, _⟩) (v := ?va17) rfl (by kernel_rfl) (by kernel_rfl) (by kernel_rfl) (fun _ _ _ h => h) (Or.inl ⟨by rfl, ?ya17⟩) (by assumption) ?ra17
        case ya17 => (intro w hSw; (try dsimp only at hSw); go_simp; (try (with_reducible rfl)))
        try simp only [Act.put, List.setIfInBounds_toArray, List.set_cons_zero, List.set_cons_succ]
        refine wpAnyH_take (i := 18) (oi := ⟨some 63, _, _, _, _, _⟩) (v := ?va18) rfl (by kernel_rfl) (by kernel_rfl) (by kernel_rfl) (fun _ _ _ h => h) (Or.inl ⟨by rfl, ?ya18⟩) (by assumption) ?ra18
        case ya18 => (intro w hSw; (try dsimp only at hSw); go_simp; (try (with_reducible rfl)))
        try simp only [Act.put, List.setIfInBounds_toArray, List.set_cons_zero, List.set_cons_succ]
        refine wpAnyH_take (i := 19) (oi := ⟨some 64, _, _, _, _, _⟩) (v := ?va19) rfl (by kernel_rfl) (by kernel_rfl) (by kernel_rfl) (fun _ _ _ h => h) (Or.inl ⟨by rfl, ?ya19⟩) (by assumption) ?ra19
        case ya19 => (intro w hSw; (try dsimp only at hSw); go_simp; (try (with_reducible rfl)))
        try simp only [Act.put, List.setIfInBounds_toArray, List.set_cons_zero, List.set_cons_succ]
        refine wpAnyH_take (i := 21) (oi := ⟨some 66, _, _, _, _, _⟩) (v := ?va21) rfl (by kernel_rfl) (by kernel_rfl) (by kernel_rfl) (fun _ _ _ h => h) (Or.inl ⟨by rfl, ?ya21⟩) (by assumption) ?ra21
        case ya21 => (intro w hSw; (try dsimp only at hSw); go_simp; (try (with_reducible rfl)))
        try simp only [Act.put, List.setIfInBounds_toArray, List.set_cons_zero, List.set_cons_succ]
        refine wpAnyH_ready (rs := [20]) (by kernel_rfl) (by simp) (AllReadyH.cons (o := ⟨some 65, _, _, _, _, _⟩) rfl (fun K hK => ?_) AllReadyH.nil)
        go_simp
        refine (size_any w4 W.heap.size b bd bv vp4 D4 HP4.out.d).mono ?_
        rw [show (D4.vis.length : Int) = (n : Int) from by rw [HP4.out.inv.len]]
        rintro e w' ⟨rfl, rfl⟩
        go_simp
        refine hK.out _ _ ?_ (fun hHeld2 => ?_)
        · exact hHeld
        clear hK K hHeld
        rename _ => hHeld
        try simp only [Act.put, List.setIfInBounds_toArray, List.set_cons_zero, List.set_cons_succ]
        refine wpAnyH_take (i := 22) (oi := ⟨some 67, _, _, _, _, _⟩) (v := ?va22) rfl (by kernel_rfl) (by kernel_rfl) (by kernel_rfl) (fun _ _ _ h => h) (Or.inl ⟨by rfl, ?ya22⟩) (by assumption) ?ra22
        case ya22 => (intro w hSw; (try dsimp only at hSw); go_simp; (try (with_reducible rfl)))
        try simp only [Act.put, List.setIfInBounds_toArray, List.set_cons_zero, List.set_cons_succ]
        refine wpAnyH_take (i := 23) (oi := ⟨some 68, _, _, _, _, _⟩) (v := ?va23) rfl (by kernel_rfl) (by kernel_rfl) (by kernel_rfl) (fun _ _ _ h => h) (Or.inl ⟨by rfl, ?ya23⟩) (by assumption) ?ra23
        case ya23 => (intro w hSw; (try dsimp only at hSw); go_simp; (try (with_reducible rfl)))
        try simp only [Act.put, List.setIfInBounds_toArray, List.set_cons_zero, List.set_cons_succ]
        refine wpAnyH_done (by kernel_rfl) ?_ _
        clear hHeld
        go_wp2_with fail
        refine (read_any w4 W.heap.size b bd bv vp4 D4 0 n (by decide) (by decide) (by omega) (by omega) HP4.out.d).mono ?_
        rintro e w' ⟨rfl, rfl⟩
        go_wp2_with fail
        refine (refRead_any w4 W.heap.size b' gs4 cs4 rest4 _ D4 0 n (by decide) (by decide) (by omega) (by omega) HP4.out.bel.size HP4.out.inv.vis (by rw [HP4.out.inv.len, HP4.out.inv.lend]) (by omega) (by rw [HP4.out.inv.lend]; exact HP4.out.inv.fit) HP4.out.r).mono ?_
        rintro e w5 ⟨rfl, hb5⟩
        have HP5 := Lib.hid (HP4.out.below hb5)
        clear hb5 HP4
        generalize (⟨(readL D4 0 n).toArray⟩ : ByteArray) = rs
        generalize readE D4 0 n = re
        go_wp2_with fail
        go_roundw
        case rel => exact ⟨j + 1, by omega, by omega, by go_num, _, _, _, _, _, _, HP5⟩
        case measure => simp [intOf]; omega
end Go.Proofs.Ytdcnddbkjdbbbaa
