/-
  The helper step of the disk's laws: one call on both disks.
-/
import Derived.WalkKit
import Derived.LoopTactic
import Derived.WalkSpells
import Derived.WalkLawsBesides
import Derived.RegionTactic
import Derived.BigRegion
import Derived.Deep.QuietTactic
import Derived.Deep.RegionHeld
import Derived.BigQuiet
import Derived.IntWalk
import Derived.Test.YtdcnddbkjdbbbaaDiskRF
set_option linter.unusedVariables false
set_option linter.unusedSimpArgs false
namespace Go.Proofs.Ytdcnddbkjdbbbaa
open Go.RowKit
/-- The cells of a step. -/
def spc (y : SP) : List Value := [.int .i64 y.call, .int .i64 y.off, .int .i64 y.n, .string y.s, .slice y.ko y.kl y.kc]
theorem ints_up {W wr : World} {oa : Option Addr} {len : Nat} {ks : Nat → Int} (h : IntsAt W oa len ks (fun _ => False)) (hb : Below W.heap.size W wr) : IntsAt wr oa len ks (fun _ => False) := h.below hb
theorem ints_off {W wr : World} {oa : Option Addr} {len : Nat} {ks : Nat → Int} {S : Nat → Prop} (h : IntsAt W oa len ks (fun _ => False)) (hb : Below W.heap.size W wr) (hS : ∀ k, S k → W.heap.size ≤ k) : IntsAt wr oa len ks S := by
  rcases h with h0 | ⟨g, off, e, h1, h2, h3⟩
  · exact .inl h0
  · exact .inr ⟨g, off, e, Nat.lt_of_lt_of_le h1 hb.size, fun hs => by have := hS g hs; omega, fun i hi => (World.cell?_of_block (w := W) (hb.block g h1)).trans (h3 i hi)⟩
set_option maxHeartbeats 4000000 in
set_option maxRecDepth 100000 in
theorem step_any (W wr : World) (b bd bv : Nat) (vp : Value) (b' gs cs : Nat) (rest : List Value) (vl : Value) (D : DS) (n i : Nat) (y : SP) (hy : y.Ok W) (hi : i ≤ 1000000) (hn : n ≤ 4194304) (h : Pr W wr b bd bv vp b' gs cs rest vl D n i) :
    Calls Try.prog 19 #[.pointer (some ⟨b, 0, none⟩), .pointer (some ⟨b', 0, none⟩), .agg #[.int .i64 y.call, .int .i64 y.off, .int .i64 y.n, .string y.s, .slice y.ko y.kl y.kc]] wr fun e w' => e = .returned (.bool true) ∧ ∃ vp' gs' cs' rest' vl' D', Pr W w' b bd bv vp' b' gs' cs' rest' vl' D' n (i + 1) := by
  have HI := Lib.hid h.inv
  have HT : Hid (Two W (wr.alloc (.cells #[Value.int .i64 y.call, .int .i64 y.off, .int .i64 y.n, .string y.s, .slice y.ko y.kl y.kc] 39)) b bd bv vp D b' gs cs rest vl D wr.heap.size 39 (spc y)) := h.two 39 (spc y)
  have HB := Lib.hid h.bel
  have HY := Lib.hid hy
  have hp := pickD_bd y.call 6 (by omega)
  have hc6 : pickD y.call 6 = 0 ∨ pickD y.call 6 = 1 ∨ pickD y.call 6 = 2 ∨ pickD y.call 6 = 3 ∨ pickD y.call 6 = 4 ∨ pickD y.call 6 = 5 := by omega
  have k0 := HT.out.box.cell 0
  simp only [spc, List.getElem?_cons_zero, List.getElem?_cons_succ] at k0
  clear h hy hp
  go_enter Try.func19, Try.ntmps19
  go_wp2_with fail
  obtain ⟨w0, hw0⟩ : ∃ w0, wr.alloc (.cells #[Value.int .i64 y.call, .int .i64 y.off, .int .i64 y.n, .string y.s, .slice y.ko y.kl y.kc] 39) = w0 := ⟨_, rfl⟩
  rw [hw0] at HT k0 ⊢
  obtain ⟨kb, hkb⟩ : ∃ kb, wr.heap.size = kb := ⟨_, rfl⟩
  rw [hkb] at HT k0 ⊢
  clear hw0 hkb
  refine (pick_any _ _ _ HY.out.call0 HY.out.call1 (by omega) (by omega)).mono ?_
  rintro e w' ⟨rfl, rfl⟩
  have k1 := HT.out.box.cell 1
  have k2 := HT.out.box.cell 2
  have k3 := HT.out.box.cell 3
  have k4 := HT.out.box.cell 4
  simp only [spc, List.getElem?_cons_zero, List.getElem?_cons_succ] at k1 k2 k3 k4
  have hbs := HT.out.bel.size
  have hipl := HI.out.pl
  have hpl : D.pend.length ≤ 1000000 := by omega
  rcases hc6 with hc | hc | hc | hc | hc | hc
  · rw [hc]
    clear hc
    go_wp2_with fail
    refine (cutstr_any y.s 300 _ HY.out.s1 (by decide)).mono ?_
    rintro e w' ⟨rfl, rfl⟩
    have hcs : (cutS y.s 300).size ≤ maxLen := by rw [cutS_size]; unfold maxLen; omega
    go_wp2_with fail
    refine wp_region_held_drew (S := fun w' => w'.cell? ⟨kb, 1, none⟩ = some (.int .i64 y.off)) (by kernel_rfl) ?_ (fun hHeld => ?_)
    · exact k1
    refine wpAnyH_take (i := 0) (oi := ⟨some 22, _, _, _, _, _⟩) (v := ?va0) rfl (by kernel_rfl) (by kernel_rfl) (by kernel_rfl) (fun _ _ _ h => h) (Or.inl ⟨by rfl, ?ya0⟩) (by assumption) ?ra0
    case ya0 => (intro w hSw; (try dsimp only at hSw); go_simp; (try (with_reducible rfl)))
    try simp only [Act.put, List.setIfInBounds_toArray, List.set_cons_zero, List.set_cons_succ]
    refine wpAnyH_take (i := 1) (oi := ⟨some 23, _, _, _, _, _⟩) (v := ?va1) rfl (by kernel_rfl) (by kernel_rfl) (by kernel_rfl) (fun _ _ _ h => h) (Or.inl ⟨by rfl, ?ya1⟩) (by assumption) ?ra1
    case ya1 => (intro w hSw; (try dsimp only at hSw); go_simp; (try (with_reducible rfl)))
    try simp only [Act.put, List.setIfInBounds_toArray, List.set_cons_zero, List.set_cons_succ]
    refine wpAnyH_take (i := 2) (oi := ⟨some 24, _, _, _, _, _⟩) (v := ?va2) rfl (by kernel_rfl) (by kernel_rfl) (by kernel_rfl) (fun _ _ _ h => h) (Or.inl ⟨by rfl, ?ya2⟩) (by assumption) ?ra2
    case ya2 => (intro w hSw; (try dsimp only at hSw); go_simp; (try (with_reducible rfl)))
    try simp only [Act.put, List.setIfInBounds_toArray, List.set_cons_zero, List.set_cons_succ]
    refine wpAnyH_take (i := 3) (oi := ⟨some 25, _, _, _, _, _⟩) (v := ?va3) rfl (by kernel_rfl) (by kernel_rfl) (by kernel_rfl) (fun _ _ _ h => h) (Or.inl ⟨by rfl, ?ya3⟩) (by assumption) ?ra3
    case ya3 => (intro w hSw; (try dsimp only at hSw); go_simp; (try (with_reducible rfl)))
    try simp only [Act.put, List.setIfInBounds_toArray, List.set_cons_zero, List.set_cons_succ]
    refine wpAnyH_take (i := 5) (oi := ⟨some 27, _, _, _, _, _⟩) (v := ?va5) rfl (by kernel_rfl) (by kernel_rfl) (by kernel_rfl) (fun _ _ _ h => h) (Or.inl ⟨by rfl, ?ya5⟩) (by assumption) ?ra5
    case ya5 => (intro w hSw; (try dsimp only at hSw); go_simp; (try (with_reducible rfl)))
    try simp only [Act.put, List.setIfInBounds_toArray, List.set_cons_zero, List.set_cons_succ]
    refine wpAnyH_take (i := 6) (oi := ⟨some 28, _, _, _, _, _⟩) (v := ?va6) rfl (by kernel_rfl) (by kernel_rfl) (by kernel_rfl) (fun _ _ _ h => h) (Or.inl ⟨by rfl, ?ya6⟩) (by assumption) ?ra6
    case ya6 => (intro w hSw; (try dsimp only at hSw); go_simp; (try (with_reducible rfl)))
    try simp only [Act.put, List.setIfInBounds_toArray, List.set_cons_zero, List.set_cons_succ]
    refine wpAnyH_take (i := 7) (oi := ⟨some 29, _, _, _, _, _⟩) (v := ?va7) rfl (by kernel_rfl) (by kernel_rfl) (by kernel_rfl) (fun _ _ _ h => h) (Or.inl ⟨by rfl, ?ya7⟩) (by assumption) ?ra7
    case ya7 => (intro w hSw; (try dsimp only at hSw); go_simp; (try (with_reducible rfl)))
    try simp only [Act.put, List.setIfInBounds_toArray, List.set_cons_zero, List.set_cons_succ]
    refine wpAnyH_take (i := 8) (oi := ⟨some 30, _, _, _, _, _⟩) (v := ?va8) rfl (by kernel_rfl) (by kernel_rfl) (by kernel_rfl) (fun _ _ _ h => h) (Or.inl ⟨by rfl, ?ya8⟩) (by assumption) ?ra8
    case ya8 => (intro w hSw; (try dsimp only at hSw); go_simp; (try (with_reducible rfl)))
    try simp only [Act.put, List.setIfInBounds_toArray, List.set_cons_zero, List.set_cons_succ]
    refine wpAnyH_ready (rs := [4]) (by kernel_rfl) (by simp) (AllReadyH.cons (o := ⟨some 26, _, _, _, _, _⟩) rfl (fun K hK => ?_) AllReadyH.nil)
    go_simp
    refine (write_any w0.drew W.heap.size b bd bv vp D y.off (cutS y.s 300) HY.out.off0 HY.out.off1 hcs hbs hpl HI.out.cut HT.out.drew.d).mono ?_
    rintro e w2 ⟨rfl, vp2, hd2, hk2, hf2⟩
    have HT2 := Lib.hid (HT.out.drew.dk hd2 hk2 hf2)
    have c2 := HT2.out.box.cell 1
    simp only [spc, List.getElem?_cons_zero, List.getElem?_cons_succ] at c2
    have hbs2 := HT2.out.bel.size
    clear hd2 hk2 hf2
    go_simp
    refine hK.out _ _ ?_ (fun hHeld2 => ?_)
    · exact c2
    clear hK K hHeld
    rename _ => hHeld
    try simp only [Act.put, List.setIfInBounds_toArray, List.set_cons_zero, List.set_cons_succ]
    refine wpAnyH_ready (rs := [9]) (by kernel_rfl) (by simp) (AllReadyH.cons (o := ⟨some 31, _, _, _, _, _⟩) rfl (fun K hK => ?_) AllReadyH.nil)
    go_simp
    refine (refWrite_any w2 W.heap.size b' gs cs rest vl D y.off (cutS y.s 300) HY.out.off0 HY.out.off1 hcs hbs2 (by rw [HI.out.len, HI.out.lend]) hpl HI.out.cut HT2.out.r).mono ?_
    rintro e w3 ⟨rfl, vl3, hr3, hk3, hf3⟩
    obtain ⟨gs3, cs3, rest3, vl3', hT3⟩ := HT2.out.rk ⟨gs, cs, rest, vl3, hr3, fun k hk => (by rcases hk with rfl | rfl | hk; exact .inl (.inl rfl); exact .inl (.inr (.inl rfl)); exact (hk3 k hk).imp_left (fun h => .inr (.inr h))), hf3⟩
    have HT3 := Lib.hid hT3
    have c3 := HT3.out.box.cell 1
    simp only [spc, List.getElem?_cons_zero, List.getElem?_cons_succ] at c3
    clear hr3 hk3 hf3 hT3
    go_simp
    refine hK.out _ _ ?_ (fun hHeld2 => ?_)
    · exact c3
    clear hK K hHeld
    rename _ => hHeld
    try simp only [Act.put, List.setIfInBounds_toArray, List.set_cons_zero, List.set_cons_succ]
    refine wpAnyH_take (i := 10) (oi := ⟨some 32, _, _, _, _, _⟩) (v := ?va10) rfl (by kernel_rfl) (by kernel_rfl) (by kernel_rfl) (fun _ _ _ h => h) (Or.inl ⟨by rfl, ?ya10⟩) (by assumption) ?ra10
    case ya10 => (intro w hSw; (try dsimp only at hSw); go_simp; (try (with_reducible rfl)))
    try simp only [Act.put, List.setIfInBounds_toArray, List.set_cons_zero, List.set_cons_succ]
    refine wpAnyH_take (i := 11) (oi := ⟨some 6, _, _, _, _, _⟩) (v := ?va11) rfl (by kernel_rfl) (by kernel_rfl) (by kernel_rfl) (fun _ _ _ h => h) (Or.inl ⟨by rfl, ?ya11⟩) (by assumption) ?ra11
    case ya11 => (intro w hSw; (try dsimp only at hSw); go_simp; (try (with_reducible rfl)))
    try simp only [Act.put, List.setIfInBounds_toArray, List.set_cons_zero, List.set_cons_succ]
    refine wpAnyH_done (by kernel_rfl) ?_ _
    clear hHeld
    go_wp2_with fail
    go_ret
    exact ⟨by first | rfl | simp, _, _, _, _, _, _, HT3.out.pr (HI.out.write y.off (cutS y.s 300))⟩
  · rw [hc]
    clear hc
    go_wp2_with fail
    refine (cutstr_any y.s 300 _ HY.out.s1 (by decide)).mono ?_
    rintro e w' ⟨rfl, rfl⟩
    have hcs : (cutS y.s 300).size ≤ maxLen := by rw [cutS_size]; unfold maxLen; omega
    go_wp2_with fail
    refine wp_region_held_drew (S := fun w' => w'.cell? ⟨kb, 1, none⟩ = some (.int .i64 y.off)) (by kernel_rfl) ?_ (fun hHeld => ?_)
    · exact k1
    refine wpAnyH_take (i := 0) (oi := ⟨some 22, _, _, _, _, _⟩) (v := ?vb0) rfl (by kernel_rfl) (by kernel_rfl) (by kernel_rfl) (fun _ _ _ h => h) (Or.inl ⟨by rfl, ?yb0⟩) (by assumption) ?rb0
    case yb0 => (intro w hSw; (try dsimp only at hSw); go_simp; (try (with_reducible rfl)))
    try simp only [Act.put, List.setIfInBounds_toArray, List.set_cons_zero, List.set_cons_succ]
    refine wpAnyH_take (i := 1) (oi := ⟨some 23, _, _, _, _, _⟩) (v := ?vb1) rfl (by kernel_rfl) (by kernel_rfl) (by kernel_rfl) (fun _ _ _ h => h) (Or.inl ⟨by rfl, ?yb1⟩) (by assumption) ?rb1
    case yb1 => (intro w hSw; (try dsimp only at hSw); go_simp; (try (with_reducible rfl)))
    try simp only [Act.put, List.setIfInBounds_toArray, List.set_cons_zero, List.set_cons_succ]
    refine wpAnyH_take (i := 2) (oi := ⟨some 24, _, _, _, _, _⟩) (v := ?vb2) rfl (by kernel_rfl) (by kernel_rfl) (by kernel_rfl) (fun _ _ _ h => h) (Or.inl ⟨by rfl, ?yb2⟩) (by assumption) ?rb2
    case yb2 => (intro w hSw; (try dsimp only at hSw); go_simp; (try (with_reducible rfl)))
    try simp only [Act.put, List.setIfInBounds_toArray, List.set_cons_zero, List.set_cons_succ]
    refine wpAnyH_take (i := 3) (oi := ⟨some 25, _, _, _, _, _⟩) (v := ?vb3) rfl (by kernel_rfl) (by kernel_rfl) (by kernel_rfl) (fun _ _ _ h => h) (Or.inl ⟨by rfl, ?yb3⟩) (by assumption) ?rb3
    case yb3 => (intro w hSw; (try dsimp only at hSw); go_simp; (try (with_reducible rfl)))
    try simp only [Act.put, List.setIfInBounds_toArray, List.set_cons_zero, List.set_cons_succ]
    refine wpAnyH_take (i := 5) (oi := ⟨some 27, _, _, _, _, _⟩) (v := ?vb5) rfl (by kernel_rfl) (by kernel_rfl) (by kernel_rfl) (fun _ _ _ h => h) (Or.inl ⟨by rfl, ?yb5⟩) (by assumption) ?rb5
    case yb5 => (intro w hSw; (try dsimp only at hSw); go_simp; (try (with_reducible rfl)))
    try simp only [Act.put, List.setIfInBounds_toArray, List.set_cons_zero, List.set_cons_succ]
    refine wpAnyH_take (i := 6) (oi := ⟨some 28, _, _, _, _, _⟩) (v := ?vb6) rfl (by kernel_rfl) (by kernel_rfl) (by kernel_rfl) (fun _ _ _ h => h) (Or.inl ⟨by rfl, ?yb6⟩) (by assumption) ?rb6
    case yb6 => (intro w hSw; (try dsimp only at hSw); go_simp; (try (with_reducible rfl)))
    try simp only [Act.put, List.setIfInBounds_toArray, List.set_cons_zero, List.set_cons_succ]
    refine wpAnyH_take (i := 7) (oi := ⟨some 29, _, _, _, _, _⟩) (v := ?vb7) rfl (by kernel_rfl) (by kernel_rfl) (by kernel_rfl) (fun _ _ _ h => h) (Or.inl ⟨by rfl, ?yb7⟩) (by assumption) ?rb7
    case yb7 => (intro w hSw; (try dsimp only at hSw); go_simp; (try (with_reducible rfl)))
    try simp only [Act.put, List.setIfInBounds_toArray, List.set_cons_zero, List.set_cons_succ]
    refine wpAnyH_take (i := 8) (oi := ⟨some 30, _, _, _, _, _⟩) (v := ?vb8) rfl (by kernel_rfl) (by kernel_rfl) (by kernel_rfl) (fun _ _ _ h => h) (Or.inl ⟨by rfl, ?yb8⟩) (by assumption) ?rb8
    case yb8 => (intro w hSw; (try dsimp only at hSw); go_simp; (try (with_reducible rfl)))
    try simp only [Act.put, List.setIfInBounds_toArray, List.set_cons_zero, List.set_cons_succ]
    refine wpAnyH_ready (rs := [4]) (by kernel_rfl) (by simp) (AllReadyH.cons (o := ⟨some 26, _, _, _, _, _⟩) rfl (fun K hK => ?_) AllReadyH.nil)
    go_simp
    refine (write_any w0.drew W.heap.size b bd bv vp D y.off (cutS y.s 300) HY.out.off0 HY.out.off1 hcs hbs hpl HI.out.cut HT.out.drew.d).mono ?_
    rintro e w2 ⟨rfl, vp2, hd2, hk2, hf2⟩
    have HT2 := Lib.hid (HT.out.drew.dk hd2 hk2 hf2)
    have c2 := HT2.out.box.cell 1
    simp only [spc, List.getElem?_cons_zero, List.getElem?_cons_succ] at c2
    have hbs2 := HT2.out.bel.size
    clear hd2 hk2 hf2
    go_simp
    refine hK.out _ _ ?_ (fun hHeld2 => ?_)
    · exact c2
    clear hK K hHeld
    rename _ => hHeld
    try simp only [Act.put, List.setIfInBounds_toArray, List.set_cons_zero, List.set_cons_succ]
    refine wpAnyH_ready (rs := [9]) (by kernel_rfl) (by simp) (AllReadyH.cons (o := ⟨some 31, _, _, _, _, _⟩) rfl (fun K hK => ?_) AllReadyH.nil)
    go_simp
    refine (refWrite_any w2 W.heap.size b' gs cs rest vl D y.off (cutS y.s 300) HY.out.off0 HY.out.off1 hcs hbs2 (by rw [HI.out.len, HI.out.lend]) hpl HI.out.cut HT2.out.r).mono ?_
    rintro e w3 ⟨rfl, vl3, hr3, hk3, hf3⟩
    obtain ⟨gs3, cs3, rest3, vl3', hT3⟩ := HT2.out.rk ⟨gs, cs, rest, vl3, hr3, fun k hk => (by rcases hk with rfl | rfl | hk; exact .inl (.inl rfl); exact .inl (.inr (.inl rfl)); exact (hk3 k hk).imp_left (fun h => .inr (.inr h))), hf3⟩
    have HT3 := Lib.hid hT3
    have c3 := HT3.out.box.cell 1
    simp only [spc, List.getElem?_cons_zero, List.getElem?_cons_succ] at c3
    clear hr3 hk3 hf3 hT3
    go_simp
    refine hK.out _ _ ?_ (fun hHeld2 => ?_)
    · exact c3
    clear hK K hHeld
    rename _ => hHeld
    try simp only [Act.put, List.setIfInBounds_toArray, List.set_cons_zero, List.set_cons_succ]
    refine wpAnyH_take (i := 10) (oi := ⟨some 32, _, _, _, _, _⟩) (v := ?vb10) rfl (by kernel_rfl) (by kernel_rfl) (by kernel_rfl) (fun _ _ _ h => h) (Or.inl ⟨by rfl, ?yb10⟩) (by assumption) ?rb10
    case yb10 => (intro w hSw; (try dsimp only at hSw); go_simp; (try (with_reducible rfl)))
    try simp only [Act.put, List.setIfInBounds_toArray, List.set_cons_zero, List.set_cons_succ]
    refine wpAnyH_take (i := 11) (oi := ⟨some 6, _, _, _, _, _⟩) (v := ?vb11) rfl (by kernel_rfl) (by kernel_rfl) (by kernel_rfl) (fun _ _ _ h => h) (Or.inl ⟨by rfl, ?yb11⟩) (by assumption) ?rb11
    case yb11 => (intro w hSw; (try dsimp only at hSw); go_simp; (try (with_reducible rfl)))
    try simp only [Act.put, List.setIfInBounds_toArray, List.set_cons_zero, List.set_cons_succ]
    refine wpAnyH_done (by kernel_rfl) ?_ _
    clear hHeld
    go_wp2_with fail
    go_ret
    exact ⟨by first | rfl | simp, _, _, _, _, _, _, HT3.out.pr (HI.out.write y.off (cutS y.s 300))⟩
  · rw [hc]
    clear hc
    go_wp2_with fail
    refine (sync_any w0 W.heap.size b bd bv vp D HT.out.d).mono ?_
    rintro e w2 ⟨rfl, vp2, hd2, hk2, hf2⟩
    have HT2 := Lib.hid (HT.out.dk hd2 (fun k hk => .inl (hk2 ▸ hk)) hf2)
    have hbs2 := HT2.out.bel.size
    clear hd2 hk2 hf2
    go_wp2_with fail
    refine (refSync_any w2 W.heap.size b' gs cs rest vl D hbs2 HI.out.vis (by rw [HI.out.len, HI.out.lend]) hpl (by rw [HI.out.lend]; exact HI.out.fit) HT2.out.r).mono ?_
    rintro e w3 ⟨rfl, hr3⟩
    obtain ⟨gs3, cs3, rest3, vl3, hT3⟩ := HT2.out.rk hr3
    have HT3 := Lib.hid hT3
    clear hr3 hT3
    go_wp2_with fail
    go_ret
    exact ⟨by first | rfl | simp, _, _, _, _, _, _, HT3.out.pr HI.out.sync⟩
  · rw [hc]
    clear hc
    go_wp2_with fail
    refine (read_any w0 W.heap.size b bd bv vp D y.off y.n HY.out.off0 HY.out.off1 HY.out.n0 HY.out.n1 HT.out.d).mono ?_
    rintro e w' ⟨rfl, rfl⟩
    go_wp2_with fail
    refine (refRead_any w0 W.heap.size b' gs cs rest vl D y.off y.n HY.out.off0 HY.out.off1 HY.out.n0 HY.out.n1 hbs HI.out.vis (by rw [HI.out.len, HI.out.lend]) hpl (by rw [HI.out.lend]; exact HI.out.fit) HT.out.r).mono ?_
    rintro e w2 ⟨rfl, hb2⟩
    have HT2 := Lib.hid (HT.out.below hb2)
    clear hb2
    generalize (⟨(readL D y.off y.n).toArray⟩ : ByteArray) = rs
    generalize readE D y.off y.n = re
    go_wp2_with fail
    go_ret
    exact ⟨by first | rfl | simp, _, _, _, _, _, _, HT2.out.pr HI.out.up⟩
  · rw [hc]
    clear hc
    go_wp2_with fail
    refine wp_region_held_drew (S := fun w' => w'.cell? ⟨kb, 2, none⟩ = some (.int .i64 y.n)) (by kernel_rfl) ?_ (fun hHeld => ?_)
    · exact k2
    refine wpAnyH_take (i := 0) (oi := ⟨some 70, _, _, _, _, _⟩) (v := ?ve0) rfl (by kernel_rfl) (by kernel_rfl) (by kernel_rfl) (fun _ _ _ h => h) (Or.inl ⟨by rfl, ?ye0⟩) (by assumption) ?re0
    case ye0 => (intro w hSw; (try dsimp only at hSw); go_simp; (try (with_reducible rfl)))
    try simp only [Act.put, List.setIfInBounds_toArray, List.set_cons_zero, List.set_cons_succ]
    refine wpAnyH_take (i := 1) (oi := ⟨some 71, _, _, _, _, _⟩) (v := ?ve1) rfl (by kernel_rfl) (by kernel_rfl) (by kernel_rfl) (fun _ _ _ h => h) (Or.inl ⟨by rfl, ?ye1⟩) (by assumption) ?re1
    case ye1 => (intro w hSw; (try dsimp only at hSw); go_simp; (try (with_reducible rfl)))
    try simp only [Act.put, List.setIfInBounds_toArray, List.set_cons_zero, List.set_cons_succ]
    refine wpAnyH_take (i := 2) (oi := ⟨some 72, _, _, _, _, _⟩) (v := ?ve2) rfl (by kernel_rfl) (by kernel_rfl) (by kernel_rfl) (fun _ _ _ h => h) (Or.inl ⟨by rfl, ?ye2⟩) (by assumption) ?re2
    case ye2 => (intro w hSw; (try dsimp only at hSw); go_simp; (try (with_reducible rfl)))
    try simp only [Act.put, List.setIfInBounds_toArray, List.set_cons_zero, List.set_cons_succ]
    refine wpAnyH_take (i := 4) (oi := ⟨some 74, _, _, _, _, _⟩) (v := ?ve4) rfl (by kernel_rfl) (by kernel_rfl) (by kernel_rfl) (fun _ _ _ h => h) (Or.inl ⟨by rfl, ?ye4⟩) (by assumption) ?re4
    case ye4 => (intro w hSw; (try dsimp only at hSw); go_simp; (try (with_reducible rfl)))
    try simp only [Act.put, List.setIfInBounds_toArray, List.set_cons_zero, List.set_cons_succ]
    refine wpAnyH_take (i := 5) (oi := ⟨some 75, _, _, _, _, _⟩) (v := ?ve5) rfl (by kernel_rfl) (by kernel_rfl) (by kernel_rfl) (fun _ _ _ h => h) (Or.inl ⟨by rfl, ?ye5⟩) (by assumption) ?re5
    case ye5 => (intro w hSw; (try dsimp only at hSw); go_simp; (try (with_reducible rfl)))
    try simp only [Act.put, List.setIfInBounds_toArray, List.set_cons_zero, List.set_cons_succ]
    refine wpAnyH_take (i := 6) (oi := ⟨some 76, _, _, _, _, _⟩) (v := ?ve6) rfl (by kernel_rfl) (by kernel_rfl) (by kernel_rfl) (fun _ _ _ h => h) (Or.inl ⟨by rfl, ?ye6⟩) (by assumption) ?re6
    case ye6 => (intro w hSw; (try dsimp only at hSw); go_simp; (try (with_reducible rfl)))
    try simp only [Act.put, List.setIfInBounds_toArray, List.set_cons_zero, List.set_cons_succ]
    refine wpAnyH_ready (rs := [3]) (by kernel_rfl) (by simp) (AllReadyH.cons (o := ⟨some 73, _, _, _, _, _⟩) rfl (fun K hK => ?_) AllReadyH.nil)
    go_simp
    refine (cut_any w0.drew W.heap.size b bd bv vp D y.n HT.out.drew.d).mono ?_
    rintro e w2 ⟨rfl, hd2, hf2⟩
    have HT2 := Lib.hid (HT.out.drew.dk hd2 (fun k hk => .inl hk) (hf2.mono (fun k hk => .inl hk)))
    have c2 := HT2.out.box.cell 2
    simp only [spc, List.getElem?_cons_zero, List.getElem?_cons_succ] at c2
    clear hd2 hf2
    go_simp
    refine hK.out _ _ ?_ (fun hHeld2 => ?_)
    · exact c2
    clear hK K hHeld
    rename _ => hHeld
    try simp only [Act.put, List.setIfInBounds_toArray, List.set_cons_zero, List.set_cons_succ]
    refine wpAnyH_ready (rs := [7]) (by kernel_rfl) (by simp) (AllReadyH.cons (o := ⟨some 77, _, _, _, _, _⟩) rfl (fun K hK => ?_) AllReadyH.nil)
    go_simp
    refine (refCut_any w2 W.heap.size b' gs cs rest vl D y.n HT2.out.r).mono ?_
    rintro e w3 ⟨rfl, hr3, hf3⟩
    obtain ⟨gs3, cs3, rest3, vl3', hT3⟩ := HT2.out.rk ⟨gs, cs, rest, vl, hr3, fun k hk => .inl hk, hf3.mono (fun k hk => .inl hk)⟩
    have HT3 := Lib.hid hT3
    have c3 := HT3.out.box.cell 2
    simp only [spc, List.getElem?_cons_zero, List.getElem?_cons_succ] at c3
    clear hr3 hf3 hT3
    go_simp
    refine hK.out _ _ ?_ (fun hHeld2 => ?_)
    · exact c3
    clear hK K hHeld
    rename _ => hHeld
    try simp only [Act.put, List.setIfInBounds_toArray, List.set_cons_zero, List.set_cons_succ]
    refine wpAnyH_take (i := 8) (oi := ⟨some 78, _, _, _, _, _⟩) (v := ?ve8) rfl (by kernel_rfl) (by kernel_rfl) (by kernel_rfl) (fun _ _ _ h => h) (Or.inl ⟨by rfl, ?ye8⟩) (by assumption) ?re8
    case ye8 => (intro w hSw; (try dsimp only at hSw); go_simp; (try (with_reducible rfl)))
    try simp only [Act.put, List.setIfInBounds_toArray, List.set_cons_zero, List.set_cons_succ]
    refine wpAnyH_take (i := 9) (oi := ⟨some 6, _, _, _, _, _⟩) (v := ?ve9) rfl (by kernel_rfl) (by kernel_rfl) (by kernel_rfl) (fun _ _ _ h => h) (Or.inl ⟨by rfl, ?ye9⟩) (by assumption) ?re9
    case ye9 => (intro w hSw; (try dsimp only at hSw); go_simp; (try (with_reducible rfl)))
    try simp only [Act.put, List.setIfInBounds_toArray, List.set_cons_zero, List.set_cons_succ]
    refine wpAnyH_done (by kernel_rfl) ?_ _
    clear hHeld
    go_wp2_with fail
    go_ret
    exact ⟨by first | rfl | simp, _, _, _, _, _, _, HT3.out.pr (HI.out.cutn y.n HY.out.n1)⟩
  · rw [hc]
    clear hc
    obtain ⟨m, hm1, hm2, hm3⟩ : ∃ m : Nat, m ≤ y.kl ∧ m ≤ 100 ∧ (if (100 : Int) < (y.kl : Int) then (100 : Int) else (y.kl : Int)) = (m : Int) := ⟨min y.kl 100, by omega, by omega, by split <;> omega⟩
    have hlc := HY.out.lc
    have hcm := HY.out.cm
    unfold maxLen at hcm
    have hmc : (m : Int) ≤ y.kc := by omega
    have hka0 := Lib.hid HY.out.ka
    obtain ⟨ko, hko⟩ : ∃ ko, y.ko = ko := ⟨_, rfl⟩
    obtain ⟨kl, hkl⟩ : ∃ kl, y.kl = kl := ⟨_, rfl⟩
    obtain ⟨kc, hkc⟩ : ∃ kc, y.kc = kc := ⟨_, rfl⟩
    rw [hko, hkl, hkc] at k4
    rw [hko, hkl] at hka0
    rw [hkl] at hm1 hm3
    rw [hkc] at hmc hcm
    have hm4 : min (kl : Int) 100 = (m : Int) := by rw [← hm3]; split <;> omega
    clear hlc hko hkl hkc hm3
    rcases hka0.out with h0 | ⟨g, off, rfl, hg1, hg2, hg3⟩
    · subst h0
      obtain rfl : m = 0 := by omega
      have hka : ∀ o, IntsAt W o 0 y.ks (fun _ => False) := fun o => .inl rfl
      go_wp2_with fail
      all_goals
        refine (refCrash_any w0 W.heap.size b' gs cs rest vl D _ 0 _ y.ks y.n hbs (by unfold maxLen; omega) hpl (by rw [HI.out.lend]; exact HI.out.fit) HY.out.n0 HY.out.n1 (ints_up (hka _) HT.out.bel) HT.out.r).mono ?_
        rintro e w2 ⟨⟨v, rfl⟩, hr2⟩
        obtain ⟨gs2, cs2, rest2, vl2, hT2⟩ := HT.out.rk hr2
        have HT2 := Lib.hid hT2
        have hbs2 := HT2.out.bel.size
        have c2 := HT2.out.box.cell 2
        simp only [spc, List.getElem?_cons_zero, List.getElem?_cons_succ] at c2
        clear hr2 hT2 k1 k2 k3 k4
        go_wp2_with fail
        refine (crash_walk w2 W.heap.size b bd bv vp D _ 0 _ y.ks y.n hbs2 (by unfold maxLen; omega) hpl (by rw [HI.out.len]; exact HI.out.fit) HY.out.kb HY.out.n0 HY.out.n1 (fun p hp => by have := HI.out.fit p hp; unfold maxLen; omega) (ints_off (hka _) HT2.out.bel HT2.out.d.ge) HT2.out.d).mono ?_
        rintro e w3 ⟨rfl, vp3, hd3, hk3, hf3⟩
        have HT3 := Lib.hid (HT2.out.dk hd3 (fun k hk => .inl (hk3 ▸ hk)) hf3)
        clear hd3 hk3 hf3
        go_wp2_with fail
        go_ret
        exact ⟨by first | rfl | simp, _, _, _, _, _, _, HT3.out.pr (HI.out.crash y.ks 0 y.n)⟩
    · have hka : IntsAt W (some ⟨g, off, none⟩) m y.ks (fun _ => False) := .inr ⟨g, off, rfl, hg1, hg2, fun i hi => hg3 i (by omega)⟩
      clear hg3
      go_wp2_with fail
      all_goals
        refine (refCrash_any w0 W.heap.size b' gs cs rest vl D _ m _ y.ks y.n hbs (by unfold maxLen; omega) hpl (by rw [HI.out.lend]; exact HI.out.fit) HY.out.n0 HY.out.n1 (ints_up hka HT.out.bel) HT.out.r).mono ?_
        rintro e w2 ⟨⟨v, rfl⟩, hr2⟩
        obtain ⟨gs2, cs2, rest2, vl2, hT2⟩ := HT.out.rk hr2
        have HT2 := Lib.hid hT2
        have hbs2 := HT2.out.bel.size
        have c2 := HT2.out.box.cell 2
        simp only [spc, List.getElem?_cons_zero, List.getElem?_cons_succ] at c2
        clear hr2 hT2 k1 k2 k3 k4
        go_wp2_with fail
        refine (crash_walk w2 W.heap.size b bd bv vp D _ m _ y.ks y.n hbs2 (by unfold maxLen; omega) hpl (by rw [HI.out.len]; exact HI.out.fit) HY.out.kb HY.out.n0 HY.out.n1 (fun p hp => by have := HI.out.fit p hp; unfold maxLen; omega) (ints_off hka HT2.out.bel HT2.out.d.ge) HT2.out.d).mono ?_
        rintro e w3 ⟨rfl, vp3, hd3, hk3, hf3⟩
        have HT3 := Lib.hid (HT2.out.dk hd3 (fun k hk => .inl (hk3 ▸ hk)) hf3)
        clear hd3 hk3 hf3
        go_wp2_with fail
        go_ret
        exact ⟨by first | rfl | simp, _, _, _, _, _, _, HT3.out.pr (HI.out.crash y.ks m y.n)⟩
end Go.Proofs.Ytdcnddbkjdbbbaa
