/-
  The walk of the law DiskReadsBack.
-/
import Derived.WalkKit
import Derived.LoopTactic
import Derived.WalkSpells
import Derived.WalkLawsBesides
import Derived.RegionTactic
import Derived.BigRegion
import Derived.Deep.QuietTactic
import Derived.BigQuiet
import Derived.IntWalk
import Derived.Test.YtdcnddbkjdbbbaaDiskWrites
set_option linter.unusedVariables false
set_option linter.unusedSimpArgs false
namespace Go.Proofs.Ytdcnddbkjdbbbaa
open Go.RowKit
theorem WpAt.kept {W wr : World} {oa : Option Addr} {len : Nat} {of : Nat → Int} {ss : Nat → ByteArray} {sy : Nat → Bool} (h : WpAt W oa len of ss sy) (hb : Below W.heap.size W wr) (i : Nat) (hi : i < len) :
    ∃ g off, oa = some ⟨g, off, none⟩ ∧ wr.cell? ⟨g, off + i * 3, none⟩ = some (.int .i64 (of i)) ∧ wr.cell? ⟨g, off + i * 3 + 1, none⟩ = some (.string (ss i)) ∧ wr.cell? ⟨g, off + i * 3 + 2, none⟩ = some (.bool (sy i)) := by
  rcases h with h0 | ⟨g, off, rfl, hg, hc⟩
  · omega
  · obtain ⟨c0, c1, c2⟩ := hc i hi
    exact ⟨g, off, rfl, by rw [hb.cell hg]; exact c0, by rw [hb.cell hg]; exact c1, by rw [hb.cell hg]; exact c2⟩
/-- A disk with power, no cut scheduled, and at most i pending writes that lie on it. -/
structure DkOk (W wr : World) (b bd bv : Nat) (vp : Value) (D : DS) (n i : Nat) : Prop where
  d : DkAt wr W.heap.size b bd bv vp D
  lost : D.lost = false
  cut : D.cut = 0
  len : D.vis.length = n
  pl : D.pend.length ≤ i
  pk : ∀ p ∈ D.pend, p.1 + p.2.size ≤ n
theorem DkOk.fr {W wr w' : World} {b bd bv : Nat} {vp : Value} {D : DS} {n i : Nat} {S : Nat → Prop} (h : DkOk W wr b bd bv vp D n i) (hf : Fr S wr w') (hs : ∀ k, Foot b bd bv vp k → ¬ S k) : DkOk W w' b bd bv vp D n i :=
  ⟨h.d.fr hf hs, h.lost, h.cut, h.len, h.pl, h.pk⟩
theorem DkOk.below {W wr w' : World} {b bd bv : Nat} {vp : Value} {D : DS} {n i : Nat} (h : DkOk W wr b bd bv vp D n i) (hb : Below wr.heap.size wr w') : DkOk W w' b bd bv vp D n i :=
  h.fr (Fr.of_below hb) (fun k hk hs => by have := h.d.lt k hk; omega)
/-- The disk after a write that lies on it. -/
def wrD (D : DS) (o : Nat) (s : ByteArray) : DS := { D with vis := splice D.vis o s.data.toList, pend := D.pend ++ [(o, s)] }
theorem wrD_wrote (D : DS) (o : Nat) (s : ByteArray) (h : D.cut = 0) : wroteD { D with vis := splice D.vis o s.data.toList, pend := D.pend ++ [(o, s)] } = wrD D o s := by
  unfold wroteD
  rw [if_pos h]
  rfl
theorem write_dk (W wr : World) (b bd bv : Nat) (vp : Value) (D : DS) (n i : Nat) (o : Nat) (s : ByteArray) (hB : W.heap.size ≤ wr.heap.size) (hi : i ≤ 1000000) (hin : o + s.size ≤ n) (h : DkOk W wr b bd bv vp D n i) :
    Calls Try.prog 21 #[.pointer (some ⟨b, 0, none⟩), .int .i64 o, .string s] wr fun e w' => e = .returned (.int .i64 0) ∧ ∃ vp', DkOk W w' b bd bv vp' (wrD D o s) n (i + 1) ∧ (∀ k, vp'.ownBlock = some k → vp.ownBlock = some k ∨ wr.heap.size ≤ k) ∧ Fr (Foot b bd bv vp) wr w' := by
  have hpl := h.pl
  refine (write_ok wr W.heap.size b bd bv vp D o s hB h.lost (by rw [h.len]; exact hin) (by omega) (by rw [h.cut]; decide) h.d).mono ?_
  rintro e w' ⟨rfl, vp', hd, hk, hf⟩
  rw [wrD_wrote D o s h.cut] at hd
  refine ⟨rfl, vp', ⟨hd, h.lost, h.cut, ?_, ?_, ?_⟩, hk, hf⟩
  · show (splice D.vis o s.data.toList).length = n
    rw [splice_len _ _ _ (by rw [blen, h.len]; exact hin), h.len]
  · show (D.pend ++ [(o, s)]).length ≤ i + 1
    simp
    exact hpl
  · intro p hp
    rcases List.mem_append.1 hp with hp | hp
    · exact h.pk p hp
    · simp at hp
      subst hp
      exact hin
theorem sync_dk (W wr : World) (b bd bv : Nat) (vp : Value) (D : DS) (n i : Nat) (h : DkOk W wr b bd bv vp D n i) :
    Calls Try.prog 23 #[.pointer (some ⟨b, 0, none⟩)] wr fun e w' => e = .returned (.int .i64 0) ∧ ∃ vp', DkOk W w' b bd bv vp' { D with dur := D.vis, pend := [] } n i ∧ vp'.ownBlock = vp.ownBlock ∧ Fr (Foot b bd bv vp) wr w' := by
  refine (sync_any wr W.heap.size b bd bv vp D h.d).mono ?_
  rw [show stE D = 0 from by unfold stE; rw [h.lost]; rfl, show syncD D = { D with dur := D.vis, pend := [] } from by unfold syncD; rw [h.lost]; rfl]
  rintro e w' ⟨rfl, vp', hd, hk, hf⟩
  exact ⟨rfl, vp', ⟨hd, h.lost, h.cut, h.len, Nat.zero_le _, fun p hp => absurd hp (by simp)⟩, hk, hf⟩
theorem read_dk (W wr : World) (b bd bv : Nat) (vp : Value) (D : DS) (n i : Nat) (h : DkOk W wr b bd bv vp D n i) :
    Calls Try.prog 14 #[.pointer (some ⟨b, 0, none⟩), .int .i64 0, .int .i64 n] wr fun e w' => e = .returned (.tuple #[.string ⟨D.vis.toArray⟩, .int .i64 0]) ∧ wr = w' := by
  have hm := h.d.max
  have hl := h.len
  have hi : insB D 0 n = true := decide_eq_true (by omega)
  have h1 : readL D 0 n = D.vis := by
    unfold readL
    rw [h.lost, hi]
    show (D.vis.drop 0).take n = D.vis
    rw [List.drop_zero, List.take_of_length_le (by omega)]
  have h2 : readE D 0 n = 0 := by unfold readE; rw [h.lost, hi]; rfl
  have := read_any wr W.heap.size b bd bv vp D 0 n (by decide) (by decide) (by omega) (by omega) h.d
  rw [h1, h2] at this
  exact this
theorem new_dk (n : Nat) (W wr : World) (hB : W.heap.size ≤ wr.heap.size) (h1 : 1 ≤ n) (h2 : n ≤ 4194304) :
    Calls Try.prog 13 #[.int .i64 n] wr fun e w' => ∃ b bd bv, e = .returned (.tuple #[.pointer (some ⟨b, 0, none⟩), .int .i64 0]) ∧ DkOk W w' b bd bv (.slice none 0 0) (newD n) n 0 ∧ Below wr.heap.size wr w' ∧ (∀ k, Foot b bd bv (.slice none 0 0) k → wr.heap.size ≤ k) := by
  refine (new_ok n wr W.heap.size hB h1 h2).mono ?_
  rintro e w' ⟨b, bd, bv, rfl, hd, hb, q1, q2, q3⟩
  refine ⟨b, bd, bv, rfl, ⟨hd, rfl, rfl, zeroL_len n, Nat.le_refl _, fun p hp => absurd hp (by simp [newD])⟩, hb, fun k hk => ?_⟩
  rcases hk with rfl | rfl | rfl | hk
  · exact q1
  · exact q2
  · exact q3
  · simp [Value.ownBlock] at hk
theorem conv_vis {W : World} {g n : Nat} {l : List UInt8} (h : Blk W g 5 (cellsB l)) (hl : l.length = n) : (convert 40 9 (.slice (some ⟨g, 0, none⟩) n n)).run Try.prog W = .ok (.string ⟨l.toArray⟩) W := by
  have := conv_blk h 0 n n (by omega)
  rwa [List.drop_zero, List.take_of_length_le (by omega)] at this
/-- What holds at the head of the loop. -/
structure RB (W wr : World) (b bd bv g : Nat) (vp : Value) (D : DS) (n i : Nat) : Prop where
  dk : DkOk W wr b bd bv vp D n i
  bl : Blk wr g 5 (cellsB D.vis)
  gn : ¬ Foot b bd bv vp g
  gB : W.heap.size ≤ g
  bel : Below W.heap.size W wr
/-- A box of new memory beside the disk. -/
theorem RB.box {W wr w3 : World} {b bd bv g : Nat} {vp : Value} {D : DS} {n i : Nat} (h : RB W wr b bd bv g vp D n i) (hb : Below wr.heap.size wr w3) (t : TypeId) (cs : List Value) :
    RB W (w3.alloc (.cells cs.toArray t)) b bd bv g vp D n i ∧ Blk (w3.alloc (.cells cs.toArray t)) w3.heap.size t cs ∧ w3.heap.size ≠ g ∧ ¬ Foot b bd bv vp w3.heap.size := by
  have hB : Below wr.heap.size wr (w3.alloc (.cells cs.toArray t)) := hb.alloc hb.size _
  have hz := hb.size
  have hg := h.bl.lt
  have hlt := h.dk.d.lt
  refine ⟨⟨h.dk.below hB, h.bl.kept (hB.block g hg), h.gn, h.gB, bstep h.bel hB⟩, Blk.new w3 t cs, by omega, fun hk => ?_⟩
  have := hlt _ hk
  omega
set_option maxHeartbeats 1000000 in
set_option maxRecDepth 100000 in
theorem walkReadsBack (size : Int) (oa : Option Addr) (len cap : Nat) (of : Nat → Int) (ss : Nat → ByteArray) (sy : Nat → Bool) (W : World) (hs0 : -9223372036854775808 ≤ size) (hs1 : size ≤ 9223372036854775807)
    (hlc : len ≤ cap) (hcm : cap ≤ maxLen) (hof : ∀ i, -9223372036854775808 ≤ of i ∧ of i ≤ 9223372036854775807) (hss : ∀ i, (ss i).size ≤ maxLen) (hw : WpAt W oa len of ss sy) :
    Calls Try.prog 6 #[.int .i64 size, .slice oa len cap] W fun e w' => e = .returned (.bool true) ∧ Below W.heap.size W w' := by
  have HW := Lib.hid hw
  clear hw
  unfold maxLen at hcm
  have hp := pickD_bd size 300 (by omega)
  obtain ⟨n, hn⟩ : ∃ n : Nat, 1 + pickD size 300 = (n : Int) := ⟨(1 + pickD size 300).toNat, by omega⟩
  have hn1 : 1 ≤ n := by omega
  have hn2 : n ≤ 300 := by omega
  have HN := Lib.hid hn
  obtain ⟨hp1, hp2⟩ := hp
  clear hn
  have hmk := run_make_bytes n (by omega)
  go_enter Try.func6, Try.ntmps6
  go_wp2_with fail
  refine (sane_any _).mono ?_
  rintro e w1 ⟨rfl, hb1⟩
  have HB1 := Lib.hid hb1
  clear hb1
  go_wp2_with fail
  refine (pick_any _ _ _ hs0 hs1 (by omega) (by omega)).mono ?_
  rintro e w' ⟨rfl, rfl⟩
  go_wp2_with fail
  rw [HN.out]
  refine (new_dk n W w1 HB1.out.size hn1 (by omega)).mono ?_
  rintro e w2 ⟨b, bd, bv, rfl, hd2, hb2, hq⟩
  have HD2 := Lib.hid hd2
  have HB2 := Lib.hid (bstep HB1.out hb2)
  have HQ := Lib.hid hq
  clear hd2 hb2 hq
  go_wp2_with fail
  have HS : Hid (RB W (w2.alloc (.cells (zcells n) 5)) b bd bv w2.heap.size (.slice none 0 0) (newD n) n 0) := by
    have hlt := HD2.out.d.lt
    exact ⟨HD2.out.fr ((Fr.refl (fun _ => False) w2).alloc _) (fun _ _ h => h), Blk.new w2 _ _, fun h => by have := hlt _ h; omega, HB2.out.size, HB2.out.alloc HB2.out.size _⟩
  clear HD2 HB2 HQ HB1
  generalize w2.heap.size = g at HS ⊢
  go_loopw [9] (fun i wr => ∃ j : Nat, j ≤ 60 ∧ i = .int .i64 j ∧ ∃ vp D, Hid (RB W wr b bd bv g vp D n j)) (fun i _ => 60 - (intOf i).toNat)
  case atStart => exact ⟨0, Nat.zero_le _, rfl, _, _, HS⟩
  case round =>
    obtain ⟨j, hj, rfl, vp, D, HR⟩ := hrel
    by_cases hjl : len ≤ j
    · have hjl' : ¬ (j : Int) < len := by omega
      go_wp2_with fail
      go_ret
      exact ⟨rfl, HR.out.bel⟩
    · by_cases hj60 : j = 60
      · subst hj60
        have hjl' : (60 : Int) < len := by omega
        go_wp2_with fail
        go_ret
        exact ⟨rfl, HR.out.bel⟩
      · have hjl' : (j : Int) < len := by omega
        have hj60' : (j : Int) < 60 := by omega
        obtain ⟨q, off, rfl, c0, c1, c2⟩ := HW.out.kept HR.out.bel j (by omega)
        go_wp2_with fail
        refine (fits_any (of j) (ss j) (sy j) n wr (hof j).1 (hof j).2 (hss j) (by omega)).mono ?_
        have hfit := fit_le (of j) (ss j) n
        generalize fitO (of j) n = o at hfit ⊢
        generalize fitS (of j) (ss j) n = s at hfit ⊢
        generalize sy j = y at c2 ⊢
        rintro e w3 ⟨rfl, hb3⟩
        have HB3 := Lib.hid hb3
        clear hb3 c0 c1 c2
        go_wp2_with fail
        have hbox := HR.out.box HB3.out 53 [.int .i64 (o : Int), .string s, .bool y]
        rw [show [Value.int .i64 (o : Int), .string s, .bool y].toArray = #[Value.int .i64 (o : Int), .string s, .bool y] from rfl] at hbox
        generalize w3.alloc (.cells #[Value.int .i64 (o : Int), .string s, .bool y] 53) = w4 at hbox ⊢
        generalize w3.heap.size = k at hbox ⊢
        obtain ⟨hr4, hk4, hkg, hkf⟩ := hbox
        have HR4 := Lib.hid hr4
        have HK4 := Lib.hid hk4
        have HKF := Lib.hid hkf
        clear hr4 hk4 hkf HB3 HR
        have hlen4 := HR4.out.dk.len
        refine (put_any w4 g n D.vis o s HR4.out.bl hlen4 (by omega) (by omega)).mono ?_
        rintro e w5 ⟨⟨v5, rfl⟩, hb5, hf5⟩
        have HD5 : Hid (DkOk W w5 b bd bv vp D n j) := HR4.out.dk.fr hf5 (fun x hx e => HR4.out.gn (e ▸ hx))
        have HB5 := Lib.hid hb5
        have HK5 : Hid (Blk w5 k _ _) := HK4.out.kept (hf5.block k HK4.out.lt hkg)
        have HL5 : Hid (Below W.heap.size W w5) := HR4.out.bel.trans (hf5.below _ HR4.out.bel.size (fun x e => e ▸ HR4.out.gB))
        have HG5 := Lib.hid HR4.out.gn
        have HGB := Lib.hid HR4.out.gB
        clear hb5 hf5 HK4 HR4
        have c0 := HK5.out.cell 0
        have c1 := HK5.out.cell 1
        simp only [List.getElem?_cons_zero, List.getElem?_cons_succ] at c0 c1
        go_wp2_with fail
        refine (write_dk W w5 b bd bv vp D n j o s HL5.out.size (by omega) (by omega) HD5.out).mono ?_
        rintro e w6 ⟨rfl, vp6, hd6, ho6, hf6⟩
        have HD6 := Lib.hid hd6
        have HB6 : Hid (Blk w6 g 5 (cellsB (wrD D o s).vis)) := HB5.out.kept (hf6.block g HB5.out.lt HG5.out)
        have HK6 : Hid (Blk w6 k _ _) := HK5.out.kept (hf6.block k HK5.out.lt HKF.out)
        have HL6 : Hid (Below W.heap.size W w6) := HL5.out.trans (hf6.below _ HL5.out.size HD5.out.d.ge)
        have HG6 : Hid (¬ Foot b bd bv vp6 g) := fun hx => HG5.out (Foot.mono ho6 g HB5.out.lt hx)
        have HKF6 : Hid (¬ Foot b bd bv vp6 k) := fun hx => HKF.out (Foot.mono ho6 k HK5.out.lt hx)
        clear hd6 ho6 hf6 HB5 HK5 HL5 HG5 HKF c0 c1 HD5
        generalize wrD D o s = D6 at HD6 HB6
        have c2 := HK6.out.cell 2
        simp only [List.getElem?_cons_zero, List.getElem?_cons_succ] at c2
        cases y
        · go_wp2_with fail
          refine (read_dk W w6 b bd bv vp6 D6 n (j + 1) HD6.out).mono ?_
          have hconv := conv_vis HB6.out HD6.out.len
          rintro e w' ⟨rfl, rfl⟩
          generalize (⟨D6.vis.toArray⟩ : ByteArray) = T at hconv ⊢
          go_wp2_with fail
          go_roundw
          case rel => exact ⟨j + 1, by omega, by go_num, vp6, D6, ⟨HD6.out, HB6.out, HG6.out, HGB.out, HL6.out⟩⟩
          case measure => simp [intOf]; omega
        · go_wp2_with fail
          refine (sync_dk W w6 b bd bv vp6 D6 n (j + 1) HD6.out).mono ?_
          rintro e w7 ⟨rfl, vp7, hd7, ho7, hf7⟩
          have HD7 := Lib.hid hd7
          have HB7 : Hid (Blk w7 g 5 (cellsB D6.vis)) := HB6.out.kept (hf7.block g HB6.out.lt HG6.out)
          have HL7 : Hid (Below W.heap.size W w7) := HL6.out.trans (hf7.below _ HL6.out.size HD6.out.d.ge)
          have HG7 : Hid (¬ Foot b bd bv vp7 g) := fun hx => HG6.out (by unfold Foot at hx ⊢; rw [ho7] at hx; exact hx)
          clear hd7 ho7 hf7 HB6 HK6 HL6 HG6 HKF6
          go_wp2_with fail
          refine (read_dk W w7 b bd bv vp7 _ n (j + 1) HD7.out).mono ?_
          have hconv := conv_vis HB7.out HD6.out.len
          rintro e w' ⟨rfl, rfl⟩
          generalize (⟨D6.vis.toArray⟩ : ByteArray) = T at hconv ⊢
          go_wp2_with fail
          go_roundw
          case rel => exact ⟨j + 1, by omega, by go_num, vp7, _, ⟨HD7.out, HB7.out, HG7.out, HGB.out, HL7.out⟩⟩
          case measure => simp [intOf]; omega
end Go.Proofs.Ytdcnddbkjdbbbaa
