/-
  The walk of the law DiskTwins.
-/
import Derived.WalkKit
import Derived.LoopTactic
import Derived.WalkSpells
import Derived.WalkLawsBesides
import Derived.RegionTactic
import Derived.BigRegion
import Derived.Deep.QuietTactic
import Derived.Deep.RegionHeld3
import Derived.BigQuiet
import Derived.IntWalk
import Derived.Test.YtdcnddbkjdbbbaaDiskLawC
set_option linter.unusedVariables false
set_option linter.unusedSimpArgs false
namespace Go.Proofs.Ytdcnddbkjdbbbaa
open Go.RowKit
theorem DkOk.drew {W wr : World} {b bd bv : Nat} {vp : Value} {D : DS} {n i : Nat} (h : DkOk W wr b bd bv vp D n i) : DkOk W wr.drew b bd bv vp D n i := ⟨h.d.drew, h.lost, h.cut, h.len, h.pl, h.pk⟩
theorem DkOk.raise {W wr : World} {b bd bv : Nat} {vp : Value} {D : DS} {n i j : Nat} (h : DkOk W wr b bd bv vp D n i) (hj : i ≤ j) : DkOk W wr b bd bv vp D n j := ⟨h.d, h.lost, h.cut, h.len, Nat.le_trans h.pl hj, h.pk⟩
/-- Three disks of one size beside each other. -/
structure Tw (W wr : World) (b1 d1 v1 : Nat) (p1 : Value) (D1 : DS) (b2 d2 v2 : Nat) (p2 : Value) (D2 : DS) (b3 d3 v3 : Nat) (p3 : Value) (D3 : DS) (n j : Nat) : Prop where
  c : DkOk W wr b1 d1 v1 p1 D1 n j
  d : DkOk W wr b2 d2 v2 p2 D2 n j
  a : DkOk W wr b3 d3 v3 p3 D3 n j
  x12 : ∀ k, Foot b1 d1 v1 p1 k → ¬ Foot b2 d2 v2 p2 k
  x13 : ∀ k, Foot b1 d1 v1 p1 k → ¬ Foot b3 d3 v3 p3 k
  x23 : ∀ k, Foot b2 d2 v2 p2 k → ¬ Foot b3 d3 v3 p3 k
  bel : Below W.heap.size W wr
theorem sep_grow {b bd bv : Nat} {vp vp' : Value} {n : Nat} {G : Nat → Prop} (hk : ∀ k, vp'.ownBlock = some k → vp.ownBlock = some k ∨ n ≤ k) (hG : ∀ k, G k → k < n) (hs : ∀ k, Foot b bd bv vp k → ¬ G k) : ∀ k, Foot b bd bv vp' k → ¬ G k := fun k hf hg => hs k (Foot.mono hk k (hG k hg) hf) hg
section
variable {W wr w' : World} {b1 d1 v1 : Nat} {p1 : Value} {D1 : DS} {b2 d2 v2 : Nat} {p2 : Value} {D2 : DS} {b3 d3 v3 : Nat} {p3 : Value} {D3 : DS} {n j : Nat}
theorem Tw.step1 {p1' : Value} {D1' : DS} (h : Tw W wr b1 d1 v1 p1 D1 b2 d2 v2 p2 D2 b3 d3 v3 p3 D3 n j) (h1 : DkOk W w' b1 d1 v1 p1' D1' n j) (hk : ∀ k, p1'.ownBlock = some k → p1.ownBlock = some k ∨ wr.heap.size ≤ k) (hf : Fr (Foot b1 d1 v1 p1) wr w') :
    Tw W w' b1 d1 v1 p1' D1' b2 d2 v2 p2 D2 b3 d3 v3 p3 D3 n j :=
  ⟨h1, h.d.fr hf (fun k hk hs => h.x12 k hs hk), h.a.fr hf (fun k hk hs => h.x13 k hs hk), sep_grow hk h.d.d.lt h.x12, sep_grow hk h.a.d.lt h.x13, h.x23, h.bel.trans (hf.below _ h.bel.size h.c.d.ge)⟩
theorem Tw.step2 {p2' : Value} {D2' : DS} (h : Tw W wr b1 d1 v1 p1 D1 b2 d2 v2 p2 D2 b3 d3 v3 p3 D3 n j) (h1 : DkOk W w' b2 d2 v2 p2' D2' n j) (hk : ∀ k, p2'.ownBlock = some k → p2.ownBlock = some k ∨ wr.heap.size ≤ k) (hf : Fr (Foot b2 d2 v2 p2) wr w') :
    Tw W w' b1 d1 v1 p1 D1 b2 d2 v2 p2' D2' b3 d3 v3 p3 D3 n j :=
  ⟨h.c.fr hf (fun k hk hs => h.x12 k hk hs), h1, h.a.fr hf (fun k hk hs => h.x23 k hs hk), fun k h1 h2 => sep_grow hk h.c.d.lt (fun k a b => h.x12 k b a) k h2 h1, h.x13, sep_grow hk h.a.d.lt h.x23, h.bel.trans (hf.below _ h.bel.size h.d.d.ge)⟩
theorem Tw.step3 {p3' : Value} {D3' : DS} (h : Tw W wr b1 d1 v1 p1 D1 b2 d2 v2 p2 D2 b3 d3 v3 p3 D3 n j) (h1 : DkOk W w' b3 d3 v3 p3' D3' n j) (hk : ∀ k, p3'.ownBlock = some k → p3.ownBlock = some k ∨ wr.heap.size ≤ k) (hf : Fr (Foot b3 d3 v3 p3) wr w') :
    Tw W w' b1 d1 v1 p1 D1 b2 d2 v2 p2 D2 b3 d3 v3 p3' D3' n j :=
  ⟨h.c.fr hf (fun k hk hs => h.x13 k hk hs), h.d.fr hf (fun k hk hs => h.x23 k hk hs), h1, h.x12, fun k h1 h2 => sep_grow hk h.c.d.lt (fun k a b => h.x13 k b a) k h2 h1, fun k h1 h2 => sep_grow hk h.d.d.lt (fun k a b => h.x23 k b a) k h2 h1, h.bel.trans (hf.below _ h.bel.size h.a.d.ge)⟩
theorem Tw.x31 (h : Tw W wr b1 d1 v1 p1 D1 b2 d2 v2 p2 D2 b3 d3 v3 p3 D3 n j) : ∀ k, Foot b3 d3 v3 p3 k → ¬ Foot b1 d1 v1 p1 k := fun k hk hs => h.x13 k hs hk
theorem Tw.drew (h : Tw W wr b1 d1 v1 p1 D1 b2 d2 v2 p2 D2 b3 d3 v3 p3 D3 n j) : Tw W wr.drew b1 d1 v1 p1 D1 b2 d2 v2 p2 D2 b3 d3 v3 p3 D3 n j := ⟨h.c.drew, h.d.drew, h.a.drew, h.x12, h.x13, h.x23, h.bel.drew⟩
theorem Tw.raise {i : Nat} (h : Tw W wr b1 d1 v1 p1 D1 b2 d2 v2 p2 D2 b3 d3 v3 p3 D3 n j) (hj : j ≤ i) : Tw W wr b1 d1 v1 p1 D1 b2 d2 v2 p2 D2 b3 d3 v3 p3 D3 n i := ⟨h.c.raise hj, h.d.raise hj, h.a.raise hj, h.x12, h.x13, h.x23, h.bel⟩
theorem Tw.box {w3 : World} (h : Tw W wr b1 d1 v1 p1 D1 b2 d2 v2 p2 D2 b3 d3 v3 p3 D3 n j) (hb : Below wr.heap.size wr w3) (t : TypeId) (cs : List Value) :
    Tw W (w3.alloc (.cells cs.toArray t)) b1 d1 v1 p1 D1 b2 d2 v2 p2 D2 b3 d3 v3 p3 D3 n j ∧ Blk (w3.alloc (.cells cs.toArray t)) w3.heap.size t cs ∧ ¬ Foot b1 d1 v1 p1 w3.heap.size ∧ ¬ Foot b2 d2 v2 p2 w3.heap.size ∧ ¬ Foot b3 d3 v3 p3 w3.heap.size := by
  have hB : Below wr.heap.size wr (w3.alloc (.cells cs.toArray t)) := hb.alloc hb.size _
  have hz := hb.size
  have l1 := h.c.d.lt
  have l2 := h.d.d.lt
  have l3 := h.a.d.lt
  exact ⟨⟨h.c.below hB, h.d.below hB, h.a.below hB, h.x12, h.x13, h.x23, bstep h.bel hB⟩, Blk.new w3 t cs, fun hk => by have := l1 _ hk; omega, fun hk => by have := l2 _ hk; omega, fun hk => by have := l3 _ hk; omega⟩
/-- A write that adds one, under a bound that has room. -/
theorem write_tw (W wr : World) (b bd bv : Nat) (vp : Value) (D : DS) (n i : Nat) (o : Nat) (s : ByteArray) (hB : W.heap.size ≤ wr.heap.size) (hi : i ≤ 1000000) (hin : o + s.size ≤ n) (h : DkOk W wr b bd bv vp D n i) (k : Nat) (t : TypeId) (l : List Value) (hx : Blk wr k t l) (hxf : ¬ Foot b bd bv vp k) :
    Calls Try.prog 21 #[.pointer (some ⟨b, 0, none⟩), .int .i64 o, .string s] wr fun e w' => e = .returned (.int .i64 0) ∧ ∃ vp', DkOk W w' b bd bv vp' (wrD D o s) n (i + 1) ∧ (∀ k, vp'.ownBlock = some k → vp.ownBlock = some k ∨ wr.heap.size ≤ k) ∧ Fr (Foot b bd bv vp) wr w' ∧ Blk w' k t l ∧ ¬ Foot b bd bv vp' k :=
  (write_dk W wr b bd bv vp D n i o s hB hi hin h).mono fun e w' ⟨he, vp', hd, hk, hf⟩ => ⟨he, vp', hd, hk, hf, hx.kept (hf.block k hx.lt hxf), fun hz => hxf (Foot.mono hk k hx.lt hz)⟩
theorem sync_tw (W wr : World) (b bd bv : Nat) (vp : Value) (D : DS) (n i : Nat) (h : DkOk W wr b bd bv vp D n i) (k : Nat) (t : TypeId) (l : List Value) (hx : Blk wr k t l) (hxf : ¬ Foot b bd bv vp k) :
    Calls Try.prog 23 #[.pointer (some ⟨b, 0, none⟩)] wr fun e w' => e = .returned (.int .i64 0) ∧ ∃ vp', DkOk W w' b bd bv vp' { D with dur := D.vis, pend := [] } n i ∧ (∀ k, vp'.ownBlock = some k → vp.ownBlock = some k ∨ wr.heap.size ≤ k) ∧ Fr (Foot b bd bv vp) wr w' ∧ Blk w' k t l :=
  (sync_dk W wr b bd bv vp D n i h).mono fun e w' ⟨he, vp', hd, hk, hf⟩ => ⟨he, vp', hd, fun k h => .inl (hk ▸ h), hf, hx.kept (hf.block k hx.lt hxf)⟩
end
set_option maxHeartbeats 4000000 in
set_option maxRecDepth 100000 in
theorem walkTwins (size : Int) (oa : Option Addr) (len cap : Nat) (of : Nat → Int) (ss : Nat → ByteArray) (sy : Nat → Bool) (W : World) (hs0 : -9223372036854775808 ≤ size) (hs1 : size ≤ 9223372036854775807)
    (hlc : len ≤ cap) (hcm : cap ≤ maxLen) (hof : ∀ i, -9223372036854775808 ≤ of i ∧ of i ≤ 9223372036854775807) (hss : ∀ i, (ss i).size ≤ maxLen) (hw : WpAt W oa len of ss sy) :
    Calls Try.prog 11 #[.int .i64 size, .slice oa len cap] W fun e w' => e = .returned (.bool true) ∧ Below W.heap.size W w' := by
  have HW := Lib.hid hw
  clear hw
  unfold maxLen at hcm
  have hp := pickD_bd size 100 (by omega)
  obtain ⟨n, hn⟩ : ∃ n : Nat, 1 + pickD size 100 = (n : Int) := ⟨(1 + pickD size 100).toNat, by omega⟩
  have hn1 : 1 ≤ n := by omega
  have hn2 : n ≤ 100 := by omega
  have HN := Lib.hid hn
  obtain ⟨hp1, hp2⟩ := hp
  clear hn
  go_enter Try.func11, Try.ntmps11
  go_wp2_with fail
  refine (sane_any _).mono ?_
  rintro e w1 ⟨rfl, hb1⟩
  have HB1 := Lib.hid hb1
  clear hb1
  go_wp2_with fail
  refine (pick_any _ _ _ hs0 hs1 (by omega) (by omega)).mono ?_
  rintro e w' ⟨rfl, rfl⟩
  go_wp2_with fail
  rw [HN.out]
  refine (new_dk n W w1 HB1.out.size hn1 (by omega)).mono ?_
  rintro e w2 ⟨b1, d1, v1, rfl, hd2, hb2, hq2⟩
  have HD2 := Lib.hid hd2
  have HB2 := Lib.hid (bstep HB1.out hb2)
  clear hd2 hb2 hq2 HB1
  go_wp2_with fail
  refine (new_dk n W w2 HB2.out.size hn1 (by omega)).mono ?_
  rintro e w3 ⟨b2, d2, v2, rfl, hd3, hb3, hq3⟩
  have HB3 := Lib.hid (bstep HB2.out hb3)
  have HD13 := Lib.hid (HD2.out.below hb3)
  have HD23 := Lib.hid hd3
  have HX12 : Hid (∀ k, Foot b1 d1 v1 (.slice none 0 0) k → ¬ Foot b2 d2 v2 (.slice none 0 0) k) := fun k h1 h2 => by
    have := HD2.out.d.lt k h1
    have := hq3 k h2
    omega
  clear hd3 hb3 hq3 HB2 HD2
  go_wp2_with fail
  refine (new_dk n W w3 HB3.out.size hn1 (by omega)).mono ?_
  rintro e w4 ⟨b3, d3, v3, rfl, hd4, hb4, hq4⟩
  have HT : Hid (Tw W w4 b1 d1 v1 (.slice none 0 0) (newD n) b2 d2 v2 (.slice none 0 0) (newD n) b3 d3 v3 (.slice none 0 0) (newD n) n 0) := by
    refine ⟨HD13.out.below hb4, HD23.out.below hb4, hd4, HX12.out, fun k h1 h2 => ?_, fun k h1 h2 => ?_, bstep HB3.out hb4⟩
    · have := HD13.out.d.lt k h1
      have := hq4 k h2
      omega
    · have := HD23.out.d.lt k h1
      have := hq4 k h2
      omega
  clear hd4 hb4 hq4 HX12 HD13 HD23 HB3
  go_wp2_with fail
  generalize newD n = D0 at HT
  go_loopw [12] (fun i wr => ∃ j : Nat, j ≤ 30 ∧ i = .int .i64 j ∧ ∃ p1 D p2 E p3, Hid (Tw W wr b1 d1 v1 p1 D b2 d2 v2 p2 E b3 d3 v3 p3 D n j)) (fun i _ => 30 - (intOf i).toNat)
  case atStart => exact ⟨0, Nat.zero_le _, rfl, _, _, _, _, _, HT⟩
  case round =>
    clear HT D0
    obtain ⟨j, hj, rfl, p1, D, p2, E, p3, HT⟩ := hrel
    by_cases hend : len ≤ j ∨ j = 30
    · rcases (show ((j : Int) < len ∧ ¬ (j : Int) < 30) ∨ (¬ (j : Int) < len ∧ True) from by
        by_cases h : (j : Int) < len
        · exact .inl ⟨h, by omega⟩
        · exact .inr ⟨h, trivial⟩) with ⟨hjl, hj60⟩ | ⟨hjl, hj60⟩
      all_goals
        clear hend
        go_wp2_with fail
        refine (read_dk W wr b1 d1 v1 p1 D n j HT.out.c).mono ?_
        obtain ⟨T, hT⟩ : ∃ T : ByteArray, (⟨D.vis.toArray⟩ : ByteArray) = T := ⟨_, rfl⟩
        rw [hT]
        have HTT := Lib.hid hT
        clear hT
        rintro e w' ⟨rfl, rfl⟩
        go_wp2_with fail
        refine (read_dk W wr b3 d3 v3 p3 D n j HT.out.a).mono ?_
        rw [HTT.out]
        rintro e w' ⟨rfl, rfl⟩
        go_wp2_with fail
        refine (pending_dk W wr b1 d1 v1 p1 D n j HT.out.c).mono ?_
        rintro e w' ⟨rfl, rfl⟩
        go_wp2_with fail
        refine (pending_dk W wr b3 d3 v3 p3 D n j HT.out.a).mono ?_
        rintro e w' ⟨rfl, rfl⟩
        go_wp2_with fail
        go_ret
        exact ⟨rfl, HT.out.bel⟩
    · have hjl' : (j : Int) < len := by omega
      have hj40' : (j : Int) < 30 := by omega
      clear hend
      obtain ⟨q, off, rfl, c0, c1, c2⟩ := HW.out.kept HT.out.bel j (by omega)
      go_wp2_with fail
      refine (fits_any (of j) (ss j) (sy j) n wr (hof j).1 (hof j).2 (hss j) (by omega)).mono ?_
      have hfit := fit_le (of j) (ss j) n
      generalize fitO (of j) n = o at hfit ⊢
      generalize fitS (of j) (ss j) n = s at hfit ⊢
      generalize sy j = y at c2 ⊢
      rintro e w3 ⟨rfl, hb3⟩
      have HB3 := Lib.hid hb3
      clear hb3 c0 c1 c2
      by_cases hodd : (j : Int) % 2 = 1
      · have hodd' : ((j : Int) % 2 == 1) = true := by rw [hodd]; rfl
        clear hodd
        go_wp2_with fail
        have hbox := HT.out.box HB3.out 53 [.int .i64 (o : Int), .string s, .bool y]
        rw [show [Value.int .i64 (o : Int), .string s, .bool y].toArray = #[Value.int .i64 (o : Int), .string s, .bool y] from rfl] at hbox
        generalize w3.alloc (.cells #[Value.int .i64 (o : Int), .string s, .bool y] 53) = w4 at hbox ⊢
        generalize w3.heap.size = k at hbox ⊢
        obtain ⟨ht4, hk4, hf1, hf2, hf3⟩ := hbox
        have HT4 := Lib.hid (ht4.raise (Nat.le_succ j))
        have HK4 := Lib.hid hk4
        have HKF := Lib.hid hf2
        have HDD := Lib.hid ht4.d
        clear ht4 hk4 hf1 hf2 hf3 HB3 HT
        refine (write_tw W w4 b2 d2 v2 p2 E n j o s HT4.out.bel.size (by omega) (by omega) HDD.out k _ _ HK4.out HKF.out).mono ?_
        rintro e w5 ⟨rfl, p5, hd5, hk5, hf5, hx5, hy5⟩
        have HT5 := Lib.hid (HT4.out.step2 hd5 hk5 hf5)
        have HK5 := Lib.hid hx5
        have HKF5 := Lib.hid hy5
        clear hd5 hk5 hf5 hx5 hy5 HT4 HK4 HKF HDD
        generalize wrD E o s = E5 at HT5
        have c0 := HK5.out.cell 0
        have c2 := HK5.out.cell 2
        simp only [List.getElem?_cons_zero, List.getElem?_cons_succ] at c0 c2
        by_cases ho7 : (o : Int) % 7 = 3
        · have ho7' : ((o : Int) % 7 == 3) = true := by rw [ho7]; rfl
          clear ho7
          cases y
          · go_wp2_with fail
            refine (crash_dk W w5 b2 d2 v2 p5 E5 n (j + 1) none 0 0 (fun _ => 0) 1 HT5.out.bel.size (by omega) (Nat.zero_le _) (fun _ => ⟨by decide, by decide⟩) (by decide) (by decide) (.inl rfl) HT5.out.d).mono ?_
            rintro e w7 ⟨rfl, p7, hd7, ho7, hf7⟩
            have HT7 := Lib.hid (HT5.out.step2 (hd7.raise (Nat.zero_le _)) (fun k hk => .inl (ho7 ▸ hk)) hf7)
            clear hd7 ho7 hf7 HT5 HK5 HKF5 c0 c2
            go_wp2_with fail
            go_roundw
            case rel => exact ⟨j + 1, by omega, by go_num, _, _, _, _, _, HT7⟩
            case measure => simp [intOf]; omega
          · go_wp2_with fail
            refine (sync_dk W w5 b2 d2 v2 p5 E5 n (j + 1) HT5.out.d).mono ?_
            rintro e w6 ⟨rfl, p6, hd6, ho6, hf6⟩
            have HT6 := Lib.hid (HT5.out.step2 hd6 (fun k hk => .inl (ho6 ▸ hk)) hf6)
            have HK6 : Hid (Blk w6 k _ _) := HK5.out.kept (hf6.block k HK5.out.lt HKF5.out)
            clear hd6 ho6 hf6 HT5 HK5 HKF5 c0 c2
            have c0 := HK6.out.cell 0
            simp only [List.getElem?_cons_zero, List.getElem?_cons_succ] at c0
            go_wp2_with fail
            refine (crash_dk W w6 b2 d2 v2 p6 _ n (j + 1) none 0 0 (fun _ => 0) 1 HT6.out.bel.size (by omega) (Nat.zero_le _) (fun _ => ⟨by decide, by decide⟩) (by decide) (by decide) (.inl rfl) HT6.out.d).mono ?_
            rintro e w7 ⟨rfl, p7, hd7, ho7, hf7⟩
            have HT7 := Lib.hid (HT6.out.step2 (hd7.raise (Nat.zero_le _)) (fun k hk => .inl (ho7 ▸ hk)) hf7)
            clear hd7 ho7 hf7 HT6 HK6 c0
            go_wp2_with fail
            go_roundw
            case rel => exact ⟨j + 1, by omega, by go_num, _, _, _, _, _, HT7⟩
            case measure => simp [intOf]; omega
        · have ho7' : ((o : Int) % 7 == 3) = false := by rw [beq_eq_false_iff_ne]; exact ho7
          clear ho7
          cases y
          · go_wp2_with fail
            go_roundw
            case rel => exact ⟨j + 1, by omega, by go_num, _, _, _, _, _, HT5⟩
            case measure => simp [intOf]; omega
          · go_wp2_with fail
            refine (sync_dk W w5 b2 d2 v2 p5 E5 n (j + 1) HT5.out.d).mono ?_
            rintro e w6 ⟨rfl, p6, hd6, ho6, hf6⟩
            have HT6 := Lib.hid (HT5.out.step2 hd6 (fun k hk => .inl (ho6 ▸ hk)) hf6)
            have HK6 : Hid (Blk w6 k _ _) := HK5.out.kept (hf6.block k HK5.out.lt HKF5.out)
            clear hd6 ho6 hf6 HT5 HK5 HKF5 c0 c2
            have c0 := HK6.out.cell 0
            simp only [List.getElem?_cons_zero, List.getElem?_cons_succ] at c0
            go_wp2_with fail
            go_roundw
            case rel => exact ⟨j + 1, by omega, by go_num, _, _, _, _, _, HT6⟩
            case measure => simp [intOf]; omega
      · have hodd' : ((j : Int) % 2 == 1) = false := by rw [beq_eq_false_iff_ne]; exact hodd
        clear hodd
        go_wp2_with fail
        have hbox := HT.out.box HB3.out 53 [.int .i64 (o : Int), .string s, .bool y]
        rw [show [Value.int .i64 (o : Int), .string s, .bool y].toArray = #[Value.int .i64 (o : Int), .string s, .bool y] from rfl] at hbox
        generalize w3.alloc (.cells #[Value.int .i64 (o : Int), .string s, .bool y] 53) = w4 at hbox ⊢
        generalize w3.heap.size = k at hbox ⊢
        obtain ⟨ht4, hk4, hf1, hf2, hf3⟩ := hbox
        have HT4 := Lib.hid (ht4.drew.raise (Nat.le_succ j))
        have HD1 := Lib.hid ht4.drew.c
        have HD3 := Lib.hid ht4.drew.a
        have HK4 := Lib.hid hk4.drew
        have HF1 := Lib.hid hf1
        have HF3 := Lib.hid hf3
        have c0 := hk4.cell 0
        have c1 := hk4.cell 1
        have c2 := hk4.cell 2
        simp only [List.getElem?_cons_zero, List.getElem?_cons_succ] at c0 c1 c2
        clear ht4 hk4 hf1 hf2 hf3 HB3 HT
        cases y
        · refine wp_region_held_drew (S := fun w' => w'.cell? ⟨k, 0, none⟩ = some (.int .i64 (o : Int)) ∧ w'.cell? ⟨k, 1, none⟩ = some (.string s) ∧ w'.cell? ⟨k, 2, none⟩ = some (.bool false)) (by kernel_rfl) ?_ (fun hHeld => ?_)
          · exact ⟨c0, c1, c2⟩
          refine wpAnyH_take (i := 0) (oi := ⟨some 93, _, _, _, _, _⟩) (v := ?va0) rfl (by kernel_rfl) (by kernel_rfl) (by kernel_rfl) (fun _ _ _ h => h) (Or.inl ⟨by rfl, ?ya0⟩) (by assumption) ?ra0
          case ya0 => (intro w hSw; (try dsimp only at hSw); go_simp; (try (with_reducible rfl)))
          try simp only [Act.put, List.setIfInBounds_toArray, List.set_cons_zero, List.set_cons_succ]
          refine wpAnyH_take (i := 1) (oi := ⟨some 94, _, _, _, _, _⟩) (v := ?va1) rfl (by kernel_rfl) (by kernel_rfl) (by kernel_rfl) (fun _ _ _ h => h) (Or.inl ⟨by rfl, ?ya1⟩) (by assumption) ?ra1
          case ya1 => (intro w hSw; (try dsimp only at hSw); go_simp; (try (with_reducible rfl)))
          try simp only [Act.put, List.setIfInBounds_toArray, List.set_cons_zero, List.set_cons_succ]
          refine wpAnyH_take (i := 2) (oi := ⟨some 95, _, _, _, _, _⟩) (v := ?va2) rfl (by kernel_rfl) (by kernel_rfl) (by kernel_rfl) (fun _ _ _ h => h) (Or.inl ⟨by rfl, ?ya2⟩) (by assumption) ?ra2
          case ya2 => (intro w hSw; (try dsimp only at hSw); go_simp; (try (with_reducible rfl)))
          try simp only [Act.put, List.setIfInBounds_toArray, List.set_cons_zero, List.set_cons_succ]
          refine wpAnyH_take (i := 3) (oi := ⟨some 96, _, _, _, _, _⟩) (v := ?va3) rfl (by kernel_rfl) (by kernel_rfl) (by kernel_rfl) (fun _ _ _ h => h) (Or.inl ⟨by rfl, ?ya3⟩) (by assumption) ?ra3
          case ya3 => (intro w hSw; (try dsimp only at hSw); go_simp; (try (with_reducible rfl)))
          try simp only [Act.put, List.setIfInBounds_toArray, List.set_cons_zero, List.set_cons_succ]
          refine wpAnyH_take (i := 4) (oi := ⟨some 97, _, _, _, _, _⟩) (v := ?va4) rfl (by kernel_rfl) (by kernel_rfl) (by kernel_rfl) (fun _ _ _ h => h) (Or.inl ⟨by rfl, ?ya4⟩) (by assumption) ?ra4
          case ya4 => (intro w hSw; (try dsimp only at hSw); go_simp; (try (with_reducible rfl)))
          try simp only [Act.put, List.setIfInBounds_toArray, List.set_cons_zero, List.set_cons_succ]
          refine wpAnyH_take (i := 6) (oi := ⟨some 99, _, _, _, _, _⟩) (v := ?va6) rfl (by kernel_rfl) (by kernel_rfl) (by kernel_rfl) (fun _ _ _ h => h) (Or.inl ⟨by rfl, ?ya6⟩) (by assumption) ?ra6
          case ya6 => (intro w hSw; (try dsimp only at hSw); go_simp; (try (with_reducible rfl)))
          try simp only [Act.put, List.setIfInBounds_toArray, List.set_cons_zero, List.set_cons_succ]
          refine wpAnyH_take (i := 7) (oi := ⟨some 100, _, _, _, _, _⟩) (v := ?va7) rfl (by kernel_rfl) (by kernel_rfl) (by kernel_rfl) (fun _ _ _ h => h) (Or.inl ⟨by rfl, ?ya7⟩) (by assumption) ?ra7
          case ya7 => (intro w hSw; (try dsimp only at hSw); go_simp; (try (with_reducible rfl)))
          try simp only [Act.put, List.setIfInBounds_toArray, List.set_cons_zero, List.set_cons_succ]
          refine wpAnyH_take (i := 8) (oi := ⟨some 101, _, _, _, _, _⟩) (v := ?va8) rfl (by kernel_rfl) (by kernel_rfl) (by kernel_rfl) (fun _ _ _ h => h) (Or.inl ⟨by rfl, ?ya8⟩) (by assumption) ?ra8
          case ya8 => (intro w hSw; (try dsimp only at hSw); go_simp; (try (with_reducible rfl)))
          try simp only [Act.put, List.setIfInBounds_toArray, List.set_cons_zero, List.set_cons_succ]
          refine wpAnyH_take (i := 9) (oi := ⟨some 102, _, _, _, _, _⟩) (v := ?va9) rfl (by kernel_rfl) (by kernel_rfl) (by kernel_rfl) (fun _ _ _ h => h) (Or.inl ⟨by rfl, ?ya9⟩) (by assumption) ?ra9
          case ya9 => (intro w hSw; (try dsimp only at hSw); go_simp; (try (with_reducible rfl)))
          try simp only [Act.put, List.setIfInBounds_toArray, List.set_cons_zero, List.set_cons_succ]
          refine wpAnyH_take (i := 10) (oi := ⟨some 103, _, _, _, _, _⟩) (v := ?va10) rfl (by kernel_rfl) (by kernel_rfl) (by kernel_rfl) (fun _ _ _ h => h) (Or.inl ⟨by rfl, ?ya10⟩) (by assumption) ?ra10
          case ya10 => (intro w hSw; (try dsimp only at hSw); go_simp; (try (with_reducible rfl)))
          try simp only [Act.put, List.setIfInBounds_toArray, List.set_cons_zero, List.set_cons_succ]
          refine wpAnyH_ready (rs := [5]) (by kernel_rfl) (by simp) (AllReadyH.cons (o := ⟨some 98, _, _, _, _, _⟩) rfl (fun K hK => ?_) AllReadyH.nil)
          go_simp
          refine (write_tw W _ b1 d1 v1 p1 D n j o s HT4.out.bel.size (by omega) (by omega) HD1.out k _ _ HK4.out HF1.out).mono ?_
          rintro e w5 ⟨rfl, p5, hd5, hk5, hf5, hx5, hy5⟩
          go_simp
          refine hK.out _ _ ?_ (fun hHeld2 => ?_)
          · exact ⟨hx5.cell 0, hx5.cell 1, hx5.cell 2⟩
          clear hK K hHeld
          rename _ => hHeld
          try simp only [Act.put, List.setIfInBounds_toArray, List.set_cons_zero, List.set_cons_succ]
          refine wpAnyH_ready (rs := [11]) (by kernel_rfl) (by simp) (AllReadyH.cons (o := ⟨some 104, _, _, _, _, _⟩) rfl (fun K hK => ?_) AllReadyH.nil)
          go_simp
          refine (write_tw W _ b3 d3 v3 p3 D n j o s (Nat.le_trans HT4.out.bel.size hf5.size) (by omega) (by omega) (HD3.out.fr hf5 HT4.out.x31) k _ _ hx5 HF3.out).mono ?_
          rintro e w6 ⟨rfl, p6, hd6, hk6, hf6, hx6, hy6⟩
          go_simp
          refine hK.out _ _ ?_ (fun hHeld2 => ?_)
          · exact ⟨hx6.cell 0, hx6.cell 1, hx6.cell 2⟩
          clear hK K hHeld
          rename _ => hHeld
          try simp only [Act.put, List.setIfInBounds_toArray, List.set_cons_zero, List.set_cons_succ]
          refine wpAnyH_take (i := 12) (oi := ⟨some 105, _, _, _, _, _⟩) (v := ?va12) rfl (by kernel_rfl) (by kernel_rfl) (by kernel_rfl) (fun _ _ _ h => h) (Or.inl ⟨by rfl, ?ya12⟩) (by assumption) ?ra12
          case ya12 => (intro w hSw; (try dsimp only at hSw); go_simp; (try (with_reducible rfl)))
          try simp only [Act.put, List.setIfInBounds_toArray, List.set_cons_zero, List.set_cons_succ]
          refine wpAnyH_take (i := 13) (oi := ⟨some 106, _, _, _, _, _⟩) (v := ?va13) rfl (by kernel_rfl) (by kernel_rfl) (by kernel_rfl) (fun _ _ _ h => h) (Or.inl ⟨by rfl, ?ya13⟩) (by assumption) ?ra13
          case ya13 => (intro w hSw; (try dsimp only at hSw); go_simp; (try (with_reducible rfl)))
          try simp only [Act.put, List.setIfInBounds_toArray, List.set_cons_zero, List.set_cons_succ]
          refine wpAnyH_take (i := 14) (oi := ⟨some 107, _, _, _, _, _⟩) (v := ?va14) rfl (by kernel_rfl) (by kernel_rfl) (by kernel_rfl) (fun _ _ _ h => h) (Or.inl ⟨by rfl, ?ya14⟩) (by assumption) ?ra14
          case ya14 => (intro w hSw; (try dsimp only at hSw); go_simp; (try (with_reducible rfl)))
          try simp only [Act.put, List.setIfInBounds_toArray, List.set_cons_zero, List.set_cons_succ]
          refine wpAnyH_take (i := 15) (oi := ⟨some 108, _, _, _, _, _⟩) (v := ?va15) rfl (by kernel_rfl) (by kernel_rfl) (by kernel_rfl) (fun _ _ _ h => h) (Or.inl ⟨by rfl, ?ya15⟩) (by assumption) ?ra15
          case ya15 => (intro w hSw; (try dsimp only at hSw); go_simp; (try (with_reducible rfl)))
          try simp only [Act.put, List.setIfInBounds_toArray, List.set_cons_zero, List.set_cons_succ]
          refine wpAnyH_take (i := 16) (oi := ⟨some 109, _, _, _, _, _⟩) (v := ?va16) rfl (by kernel_rfl) (by kernel_rfl) (by kernel_rfl) (fun _ _ _ h => h) (Or.inl ⟨by rfl, ?ya16⟩) (by assumption) ?ra16
          case ya16 => (intro w hSw; (try dsimp only at hSw); go_simp; (try (with_reducible rfl)))
          try simp only [Act.put, List.setIfInBounds_toArray, List.set_cons_zero, List.set_cons_succ]
          refine wpAnyH_take (i := 17) (oi := ⟨some 110, _, _, _, _, _⟩) (v := undef) rfl (by kernel_rfl) (by kernel_rfl) (by kernel_rfl) (fun _ _ _ h => h) (Or.inr ⟨by rfl, rfl⟩) (by assumption) ?_
          try simp only [Act.put, List.setIfInBounds_toArray, List.set_cons_zero, List.set_cons_succ]
          refine wpAnyH_take (i := 18) (oi := ⟨some 111, _, _, _, _, _⟩) (v := undef) rfl (by kernel_rfl) (by kernel_rfl) (by kernel_rfl) (fun _ _ _ h => h) (Or.inr ⟨by rfl, rfl⟩) (by assumption) ?_
          try simp only [Act.put, List.setIfInBounds_toArray, List.set_cons_zero, List.set_cons_succ]
          refine wpAnyH_take (i := 19) (oi := ⟨some 112, _, _, _, _, _⟩) (v := undef) rfl (by kernel_rfl) (by kernel_rfl) (by kernel_rfl) (fun _ _ _ h => h) (Or.inr ⟨by rfl, rfl⟩) (by assumption) ?_
          try simp only [Act.put, List.setIfInBounds_toArray, List.set_cons_zero, List.set_cons_succ]
          refine wpAnyH_take (i := 20) (oi := ⟨some 113, _, _, _, _, _⟩) (v := undef) rfl (by kernel_rfl) (by kernel_rfl) (by kernel_rfl) (fun _ _ _ h => h) (Or.inr ⟨by rfl, rfl⟩) (by assumption) ?_
          try simp only [Act.put, List.setIfInBounds_toArray, List.set_cons_zero, List.set_cons_succ]
          refine wpAnyH_take (i := 21) (oi := ⟨some 114, _, _, _, _, _⟩) (v := undef) rfl (by kernel_rfl) (by kernel_rfl) (by kernel_rfl) (fun _ _ _ h => h) (Or.inr ⟨by rfl, rfl⟩) (by assumption) ?_
          try simp only [Act.put, List.setIfInBounds_toArray, List.set_cons_zero, List.set_cons_succ]
          refine wpAnyH_take (i := 22) (oi := ⟨some 115, _, _, _, _, _⟩) (v := ?va22) rfl (by kernel_rfl) (by kernel_rfl) (by kernel_rfl) (fun _ _ _ h => h) (Or.inl ⟨by rfl, ?ya22⟩) (by assumption) ?ra22
          case ya22 => (intro w hSw; (try dsimp only at hSw); go_simp; (try (with_reducible rfl)))
          try simp only [Act.put, List.setIfInBounds_toArray, List.set_cons_zero, List.set_cons_succ]
          refine wpAnyH_take (i := 23) (oi := ⟨some 116, _, _, _, _, _⟩) (v := ?va23) rfl (by kernel_rfl) (by kernel_rfl) (by kernel_rfl) (fun _ _ _ h => h) (Or.inl ⟨by rfl, ?ya23⟩) (by assumption) ?ra23
          case ya23 => (intro w hSw; (try dsimp only at hSw); go_simp; (try (with_reducible rfl)))
          try simp only [Act.put, List.setIfInBounds_toArray, List.set_cons_zero, List.set_cons_succ]
          refine wpAnyH_done (by kernel_rfl) ?_ _
          clear hHeld
          have HT6 := Lib.hid ((HT4.out.step1 hd5 hk5 hf5).step3 hd6 hk6 hf6)
          clear hd5 hk5 hf5 hx5 hy5 hd6 hk6 hf6 hx6 hy6 HT4 HD1 HD3 HK4 HF1 HF3 c0 c1 c2
          go_wp2_with fail
          go_roundw
          case rel => exact ⟨j + 1, by omega, by go_num, _, _, _, _, _, HT6⟩
          case measure => simp [intOf]; omega
        · go_region_held3 (fun w' => w'.cell? ⟨k, 0, none⟩ = some (.int .i64 (o : Int)) ∧ w'.cell? ⟨k, 1, none⟩ = some (.string s) ∧ w'.cell? ⟨k, 2, none⟩ = some (.bool true))
            (first | go_keep | exact ⟨hx8.cell 0, hx8.cell 1, hx8.cell 2⟩ | exact ⟨hx7.cell 0, hx7.cell 1, hx7.cell 2⟩ | exact ⟨hx6.cell 0, hx6.cell 1, hx6.cell 2⟩ | exact ⟨hx5.cell 0, hx5.cell 1, hx5.cell 2⟩)
            (first
              | (go_at_call 21; (with_reducible refine (write_tw W _ b1 d1 v1 p1 D n j o s HT4.out.bel.size (by omega) (by omega) HD1.out k _ _ HK4.out HF1.out).mono ?_); rintro e w5 ⟨rfl, p5, hd5, hk5, hf5, hx5, hy5⟩)
              | (go_at_call 21; (with_reducible refine (write_tw W _ b3 d3 v3 p3 D n j o s (Nat.le_trans HT4.out.bel.size hf5.size) (by omega) (by omega) (HD3.out.fr hf5 HT4.out.x31) k _ _ hx5 HF3.out).mono ?_); rintro e w6 ⟨rfl, p6, hd6, hk6, hf6, hx6, hy6⟩)
              | (go_at_call 23; (with_reducible refine (sync_tw W _ b1 d1 v1 p5 _ n (j + 1) ((HT4.out.step1 hd5 hk5 hf5).step3 hd6 hk6 hf6).c k _ _ hx6 hy5).mono ?_); rintro e w7 ⟨rfl, p7, hd7, hk7, hf7, hx7⟩)
              | (go_at_call 23; (with_reducible refine (sync_tw W _ b3 d3 v3 p6 _ n (j + 1) (((HT4.out.step1 hd5 hk5 hf5).step3 hd6 hk6 hf6).step1 hd7 hk7 hf7).a k _ _ hx7 hy6).mono ?_); rintro e w8 ⟨rfl, p8, hd8, hk8, hf8, hx8⟩))
          have HT8 := Lib.hid ((((HT4.out.step1 hd5 hk5 hf5).step3 hd6 hk6 hf6).step1 hd7 hk7 hf7).step3 hd8 hk8 hf8)
          clear hd5 hk5 hf5 hx5 hy5 hd6 hk6 hf6 hx6 hy6 HT4 HD1 HD3 HK4 HF1 HF3 c0 c1 c2 hd7 hk7 hf7 hx7 hd8 hk8 hf8 hx8
          go_wp2_with fail
          go_roundw
          case rel => exact ⟨j + 1, by omega, by go_num, _, _, _, _, _, HT8⟩
          case measure => simp [intOf]; omega
end Go.Proofs.Ytdcnddbkjdbbbaa
