/-
  The walk of the law DiskCut.
-/
import Derived.WalkKit
import Derived.LoopTactic
import Derived.WalkSpells
import Derived.WalkLawsBesides
import Derived.RegionTactic
import Derived.BigRegion
import Derived.Deep.QuietTactic
import Derived.BigQuiet
import Derived.IntWalk
import Derived.Test.YtdcnddbkjdbbbaaDiskLawD
set_option linter.unusedVariables false
set_option linter.unusedSimpArgs false
namespace Go.Proofs.Ytdcnddbkjdbbbaa
open Go.RowKit
/-- What holds at the head of the loop: the disk, the content beside it, and the numbers of the writes that succeeded. -/
structure CutSt (W wr : World) (b bd bv g : Nat) (vp v : Value) (D : DS) (N n j : Nat) : Prop where
  d : DkAt wr W.heap.size b bd bv vp D
  len : D.vis.length = N
  pl : D.pend.length = min j n
  pk : ∀ p ∈ D.pend, p.1 + p.2.size ≤ N
  lost : D.lost = decide (n ≤ j)
  cut : D.cut = n - j
  ap : D.vis = appl D.pend D.dur
  bl : Blk wr g 5 (cellsB D.vis)
  gn : ¬ Foot b bd bv vp g
  gB : W.heap.size ≤ g
  own : wr.ownsRow W.heap.size 3 1 v (min j n) (icells (fun i => (i : Int)) (min j n))
  vf : ∀ k, v.ownBlock = some k → ¬ Foot b bd bv vp k ∧ k ≠ g
  bel : Below W.heap.size W wr
theorem own_lt {wr : World} {B : Nat} {t : TypeId} {size : Nat} {v : Value} {n : Nat} {xs : List Value} (h : wr.ownsRow B t size v n xs) : ∀ k, v.ownBlock = some k → k < wr.heap.size := fun k hk => by
  rcases h.2 with ⟨rfl, rfl⟩ | ⟨g, cap, cur, rfl, q2, q3⟩
  · simp [Value.ownBlock] at hk
  · simp [Value.ownBlock] at hk
    subst hk
    exact (Array.getElem?_eq_some_iff.1 q3.1).1
theorem CutSt.box {W wr w3 : World} {b bd bv g : Nat} {vp v : Value} {D : DS} {N n j : Nat} (h : CutSt W wr b bd bv g vp v D N n j) (hb : Below wr.heap.size wr w3) (t : TypeId) (cs : List Value) :
    CutSt W (w3.alloc (.cells cs.toArray t)) b bd bv g vp v D N n j ∧ Blk (w3.alloc (.cells cs.toArray t)) w3.heap.size t cs ∧ ¬ Foot b bd bv vp w3.heap.size ∧ w3.heap.size ≠ g := by
  have hB : Below wr.heap.size wr (w3.alloc (.cells cs.toArray t)) := hb.alloc hb.size _
  have hz := hb.size
  have hg := h.bl.lt
  have hlt := h.d.lt
  refine ⟨⟨h.d.fr (Fr.of_below hB) (fun k hk hs => by have := hlt k hk; omega), h.len, h.pl, h.pk, h.lost, h.cut, h.ap, h.bl.kept (hB.block g hg), h.gn, h.gB, ownsRow_kept h.own (fun k hk => hB.block k (own_lt h.own k hk)), h.vf, bstep h.bel hB⟩, Blk.new w3 t cs, fun hk => ?_, by omega⟩
  have := hlt _ hk
  omega
/-- The disk after the write that succeeds. -/
def cutWr (D : DS) (o : Nat) (s : ByteArray) : DS := wroteD { D with vis := splice D.vis o s.data.toList, pend := D.pend ++ [(o, s)] }
theorem cutWr_parts (D : DS) (o : Nat) (s : ByteArray) (n j : Nat) (hl : D.lost = decide (n ≤ j)) (hc : D.cut = n - j) (hj : j < n) :
    (cutWr D o s).vis = splice D.vis o s.data.toList ∧ (cutWr D o s).pend = D.pend ++ [(o, s)] ∧ (cutWr D o s).dur = D.dur ∧ (cutWr D o s).lost = decide (n ≤ j + 1) ∧ (cutWr D o s).cut = n - (j + 1) := by
  unfold cutWr wroteD
  have h0 : ¬ D.cut = 0 := by omega
  rw [if_neg h0]
  by_cases h1 : D.cut = 1
  · rw [if_pos h1]
    refine ⟨rfl, rfl, rfl, ?_, ?_⟩
    · show true = _
      rw [eq_comm, decide_eq_true_iff]
      omega
    · show 0 = _
      omega
  · rw [if_neg h1]
    refine ⟨rfl, rfl, rfl, ?_, ?_⟩
    · show D.lost = _
      rw [hl, decide_eq_decide]
      omega
    · show D.cut - 1 = _
      omega
theorem CutSt.ownAt {W w4 w5 w6 : World} {b bd bv g : Nat} {vp v : Value} {D : DS} {N n j : Nat} (h : CutSt W w4 b bd bv g vp v D N n j) (hj : j < n) (hf5 : Fr (Foot b bd bv vp) w4 w5) (hf6 : Fr (fun k => k = g) w5 w6) :
    w6.ownsRow W.heap.size 3 1 v j (icells (fun i => (i : Int)) j) := by
  have ho := h.own
  rw [show min j n = j by omega] at ho
  refine ownsRow_kept ho (fun k hk => ?_)
  have hlt := own_lt h.own k hk
  have hs := hf5.size
  rw [hf6.block k (by omega) (h.vf k hk).2, hf5.block k hlt (h.vf k hk).1]
theorem CutSt.step {W w4 w5 w6 w7 : World} {b bd bv g : Nat} {vp v vp5 v' : Value} {D : DS} {N n j o : Nat} {s : ByteArray} (h : CutSt W w4 b bd bv g vp v D N n j) (hj : j < n) (hfit : o + s.size ≤ N)
    (hd5 : DkAt w5 W.heap.size b bd bv vp5 (cutWr D o s)) (hk5 : ∀ k, vp5.ownBlock = some k → vp.ownBlock = some k ∨ w4.heap.size ≤ k) (hf5 : Fr (Foot b bd bv vp) w4 w5)
    (hb6 : Blk w6 g 5 (cellsB (splice D.vis o s.data.toList))) (hf6 : Fr (fun k => k = g) w5 w6)
    (ho7 : w7.ownsRow W.heap.size 3 1 v' (j + 1) (icells (fun i => (i : Int)) j ++ [.int .i64 (j : Int)])) (hf7 : Fr (fun k => v.ownBlock = some k) w6 w7) (hk7 : ∀ k, v'.ownBlock = some k → v.ownBlock = some k ∨ w6.heap.size ≤ k) :
    CutSt W w7 b bd bv g vp5 v' (cutWr D o s) N n (j + 1) := by
  obtain ⟨e1, e2, e3, e4, e5⟩ := cutWr_parts D o s n j h.lost h.cut hj
  have hgl := h.bl.lt
  have hs5 := hf5.size
  have hs6 := hf6.size
  have hlt5 := hd5.lt
  have hg5 : ¬ Foot b bd bv vp5 g := fun hx => h.gn (Foot.mono hk5 g hgl hx)
  have hvo := fun k hk => own_lt h.own k hk
  have hv5 : ∀ k, v.ownBlock = some k → ¬ Foot b bd bv vp5 k := fun k hk hx => (h.vf k hk).1 (Foot.mono hk5 k (hvo k hk) hx)
  refine ⟨(hd5.fr hf6 (fun k hk e => hg5 (e ▸ hk))).fr hf7 (fun k hk e => hv5 k e hk), ?_, ?_, ?_, e4, e5, ?_, ?_, hg5, h.gB, ?_, ?_, ?_⟩
  · rw [e1, splice_len _ _ _ (by rw [blen, h.len]; exact hfit), h.len]
  · rw [e2, List.length_append, h.pl]
    simp
    omega
  · intro p hp
    rw [e2] at hp
    rcases List.mem_append.1 hp with hp | hp
    · exact h.pk p hp
    · simp at hp
      subst hp
      exact hfit
  · rw [e1, e2, e3, appl_snoc, ← h.ap]
  · rw [e1]
    exact hb6.kept (hf7.block g hb6.lt (fun e => (h.vf g e).2 rfl))
  · rw [show min (j + 1) n = j + 1 by omega, icells_succ]
    exact ho7
  · intro k hk
    rcases hk7 k hk with hk' | hk'
    · exact ⟨hv5 k hk', (h.vf k hk').2⟩
    · refine ⟨fun hx => ?_, by omega⟩
      have := hlt5 k hx
      omega
  · refine ((h.bel.trans (hf5.below _ h.bel.size h.d.ge)).trans (hf6.below _ ?_ (fun k e => e ▸ h.gB))).trans (hf7.below _ ?_ (fun k e => own_ge h.own k e))
    · have := h.bel.size; omega
    · have := h.bel.size; omega
theorem CutSt.after {W w4 : World} {b bd bv g : Nat} {vp v : Value} {D : DS} {N n j : Nat} (h : CutSt W w4 b bd bv g vp v D N n j) (hj : n ≤ j) : CutSt W w4 b bd bv g vp v D N n (j + 1) :=
  ⟨h.d, h.len, by rw [h.pl]; omega, h.pk, by rw [h.lost, decide_eq_decide]; omega, by rw [h.cut]; omega, h.ap, h.bl, h.gn, h.gB, by have := h.own; rwa [show min j n = min (j + 1) n by omega] at this, h.vf, h.bel⟩
theorem cut_dk (W wr : World) (b bd bv : Nat) (vp : Value) (D : DS) (n : Nat) (hl : D.lost = false) (h : DkAt wr W.heap.size b bd bv vp D) :
    Calls Try.prog 24 #[.pointer (some ⟨b, 0, none⟩), .int .i64 n] wr fun e w' => e = .returned (.int .i64 0) ∧ DkAt w' W.heap.size b bd bv vp (cutD D n) ∧ Fr (fun k => k = b) wr w' := by
  refine (cut_any wr W.heap.size b bd bv vp D n h).mono ?_
  rw [show cutE D n = 0 from by unfold cutE; rw [hl, if_neg (by decide), if_neg (by omega)], hl]
  exact fun _ _ h => h
/-- A disk without power. -/
theorem sync_lost (W wr : World) (b bd bv : Nat) (vp : Value) (D : DS) (hl : D.lost = true) (h : DkAt wr W.heap.size b bd bv vp D) :
    Calls Try.prog 23 #[.pointer (some ⟨b, 0, none⟩)] wr fun e w' => e = .returned (.int .i64 241) ∧ ∃ vp', DkAt w' W.heap.size b bd bv vp' D ∧ vp'.ownBlock = vp.ownBlock ∧ Fr (Foot b bd bv vp) wr w' := by
  refine (sync_any wr W.heap.size b bd bv vp D h).mono ?_
  rw [show stE D = 241 from by unfold stE; rw [hl]; rfl, show syncD D = D from by unfold syncD; rw [hl]; rfl]
  exact fun _ _ h => h
theorem cut_lost (W wr : World) (b bd bv : Nat) (vp : Value) (D : DS) (n : Int) (hl : D.lost = true) (h : DkAt wr W.heap.size b bd bv vp D) :
    Calls Try.prog 24 #[.pointer (some ⟨b, 0, none⟩), .int .i64 n] wr fun e w' => e = .returned (.int .i64 241) ∧ DkAt w' W.heap.size b bd bv vp D ∧ Fr (fun k => k = b) wr w' := by
  refine (cut_any wr W.heap.size b bd bv vp D n h).mono ?_
  rw [show cutE D n = 241 from by unfold cutE; rw [hl]; rfl, hl]
  exact fun _ _ h => h
theorem write_lost (W wr : World) (b bd bv : Nat) (vp : Value) (D : DS) (o : Nat) (s : ByteArray) (hB : W.heap.size ≤ wr.heap.size) (ho : o ≤ 1000000) (hs : s.size ≤ 1000000) (hpl : D.pend.length ≤ 1000000) (hc : D.cut ≤ 1000000) (hl : D.lost = true) (h : DkAt wr W.heap.size b bd bv vp D) :
    Calls Try.prog 21 #[.pointer (some ⟨b, 0, none⟩), .int .i64 o, .string s] wr fun e w' => e = .returned (.int .i64 241) ∧ ∃ vp', DkAt w' W.heap.size b bd bv vp' D ∧ (∀ k, vp'.ownBlock = some k → vp.ownBlock = some k ∨ wr.heap.size ≤ k) ∧ Fr (Foot b bd bv vp) wr w' := by
  refine (write_any wr W.heap.size b bd bv vp D o s (by omega) (by omega) (small_len s (by omega)) hB hpl (by omega) h).mono ?_
  rw [show writeE D o s = 241 from by unfold writeE; rw [hl]; rfl, show writeD D o s = D from by unfold writeD; rw [hl]; rfl]
  exact fun _ _ h => h
theorem read_lost (W wr : World) (b bd bv : Nat) (vp : Value) (D : DS) (hl : D.lost = true) (h : DkAt wr W.heap.size b bd bv vp D) :
    Calls Try.prog 14 #[.pointer (some ⟨b, 0, none⟩), .int .i64 0, .int .i64 0] wr fun e w' => e = .returned (.tuple #[.string ⟨#[]⟩, .int .i64 241]) ∧ wr = w' := by
  have := read_any wr W.heap.size b bd bv vp D 0 0 (by decide) (by decide) (by decide) (by decide) h
  rwa [show readL D 0 0 = [] from by unfold readL; rw [hl]; rfl, show readE D 0 0 = 241 from by unfold readE; rw [hl]; rfl] at this
/-- Another slice for the pending writes, the same disk. -/
theorem CutSt.turn {W w4 w5 : World} {b bd bv g : Nat} {vp v vp5 : Value} {D : DS} {N n j : Nat} (h : CutSt W w4 b bd bv g vp v D N n j)
    (hd5 : DkAt w5 W.heap.size b bd bv vp5 D) (hk5 : ∀ k, vp5.ownBlock = some k → vp.ownBlock = some k ∨ w4.heap.size ≤ k) (hf5 : Fr (Foot b bd bv vp) w4 w5) : CutSt W w5 b bd bv g vp5 v D N n j := by
  have hgl := h.bl.lt
  have hs5 := hf5.size
  have hvo := fun k hk => own_lt h.own k hk
  exact ⟨hd5, h.len, h.pl, h.pk, h.lost, h.cut, h.ap, h.bl.kept (hf5.block g hgl h.gn), fun hx => h.gn (Foot.mono hk5 g hgl hx), h.gB,
    ownsRow_kept h.own (fun k hk => hf5.block k (hvo k hk) (h.vf k hk).1), fun k hk => ⟨fun hx => (h.vf k hk).1 (Foot.mono hk5 k (hvo k hk) hx), (h.vf k hk).2⟩, h.bel.trans (hf5.below _ h.bel.size h.d.ge)⟩
theorem CutSt.ownLt {W wr : World} {b bd bv g : Nat} {vp v : Value} {D : DS} {N n j : Nat} (h : CutSt W wr b bd bv g vp v D N n j) (hj : j < n) : wr.ownsRow W.heap.size 3 1 v j (icells (fun i => (i : Int)) j) := by
  have := h.own
  rwa [show min j n = j by omega] at this
theorem CutSt.ownGe {W wr : World} {b bd bv g : Nat} {vp v : Value} {D : DS} {N n j : Nat} (h : CutSt W wr b bd bv g vp v D N n j) (hj : n ≤ j) : wr.ownsRow W.heap.size 3 1 v n (icells (fun i => (i : Int)) n) := by
  have := h.own
  rwa [show min j n = n by omega] at this
theorem CutSt.start {W w3 : World} {b bd bv : Nat} {N n m : Nat} (hd : DkAt w3 W.heap.size b bd bv (.slice none 0 0) (cutD (cutD (newD N) m) n)) (hb : Below W.heap.size W w3) (hm : 1 ≤ m) :
    CutSt W (w3.alloc (.cells (zcells N) 5)) b bd bv w3.heap.size (.slice none 0 0) (.slice none 0 0) (cutD (cutD (newD N) m) n) N n 0 := by
  have hlt := hd.lt
  have e1 : (cutD (cutD (newD N) m) n).vis = zeroL N ∧ (cutD (cutD (newD N) m) n).dur = zeroL N ∧ (cutD (cutD (newD N) m) n).pend = [] := by
    unfold cutD
    by_cases h0 : n = 0
    · subst h0
      rw [if_neg (by omega), if_pos (by omega), if_neg (by omega), if_neg (by omega)]
      exact ⟨rfl, rfl, rfl⟩
    · rw [if_neg (by omega), if_neg (by omega), if_neg (by omega), if_neg (by omega)]
      exact ⟨rfl, rfl, rfl⟩
  have e2 : (cutD (cutD (newD N) m) n).lost = decide (n ≤ 0) ∧ (cutD (cutD (newD N) m) n).cut = n := by
    unfold cutD
    by_cases h0 : n = 0
    · subst h0
      rw [if_neg (by omega), if_pos (by omega), if_neg (by omega), if_neg (by omega)]
      exact ⟨rfl, rfl⟩
    · rw [if_neg (by omega), if_neg (by omega), if_neg (by omega), if_neg (by omega)]
      refine ⟨?_, by simp⟩
      show false = _
      rw [eq_comm, decide_eq_false_iff_not]
      omega
  obtain ⟨e3, e4, e5⟩ := e1
  refine ⟨hd.fr ((Fr.refl (fun _ => False) w3).alloc _) (fun _ _ h => h), by rw [e3, zeroL_len], by rw [e5]; simp, by rw [e5]; intro p hp; simp at hp, e2.1, e2.2, by rw [e3, e4, e5]; rfl, ?_, fun h => by have := hlt _ h; omega, hb.size, by rw [Nat.zero_min]; exact World.ownsRow_nil _ _ _ _, (fun k hk => by simp [Value.ownBlock] at hk), hb.alloc hb.size _⟩
  rw [e3]
  exact Blk.new w3 _ _
set_option maxHeartbeats 2000000 in
set_option maxRecDepth 100000 in
theorem walkCut (size n0 : Int) (oa : Option Addr) (len cap : Nat) (of : Nat → Int) (ss : Nat → ByteArray) (sy : Nat → Bool) (W : World) (hs0 : -9223372036854775808 ≤ size) (hs1 : size ≤ 9223372036854775807) (hn0 : -9223372036854775808 ≤ n0) (hn1 : n0 ≤ 9223372036854775807)
    (hlc : len ≤ cap) (hcm : cap ≤ maxLen) (hof : ∀ i, -9223372036854775808 ≤ of i ∧ of i ≤ 9223372036854775807) (hss : ∀ i, (ss i).size ≤ maxLen) (hw : WpAt W oa len of ss sy) :
    Calls Try.prog 10 #[.int .i64 size, .int .i64 n0, .slice oa len cap] W fun e w' => e = .returned (.bool true) ∧ Below W.heap.size W w' := by
  have HW := Lib.hid hw
  clear hw
  unfold maxLen at hcm
  have hp := pickD_bd size 100 (by omega)
  obtain ⟨N, hN⟩ : ∃ N : Nat, 1 + pickD size 100 = (N : Int) := ⟨(1 + pickD size 100).toNat, by omega⟩
  have hN1 : 1 ≤ N := by omega
  have hN2 : N ≤ 100 := by omega
  have HN := Lib.hid hN
  obtain ⟨hp1, hp2⟩ := hp
  clear hN
  have hq := pickD_bd n0 20 (by omega)
  obtain ⟨n, hn⟩ : ∃ n : Nat, pickD n0 20 = (n : Int) := ⟨(pickD n0 20).toNat, by omega⟩
  have hn2 : n < 20 := by omega
  have Hn := Lib.hid hn
  clear hn hq
  have HM : Hid (((n + 5 : Nat) : Int) = (n : Int) + 5) := by show _ = _; omega
  have hmk := run_make_bytes N (by omega)
  go_enter Try.func10, Try.ntmps10
  go_wp2_with fail
  refine (sane_any _).mono ?_
  rintro e w1 ⟨rfl, hb1⟩
  have HB1 := Lib.hid hb1
  clear hb1
  go_wp2_with fail
  refine (pick_any _ _ _ hs0 hs1 (by omega) (by omega)).mono ?_
  rintro e w' ⟨rfl, rfl⟩
  go_wp2_with fail
  rw [HN.out]
  refine (pick_any _ _ _ hn0 hn1 (by omega) (by omega)).mono ?_
  rw [Hn.out]
  rintro e w' ⟨rfl, rfl⟩
  go_wp2_with fail
  refine (new_dk N W w1 HB1.out.size hN1 (by omega)).mono ?_
  rintro e w2 ⟨b, bd, bv, rfl, hd2, hb2, hq⟩
  have HD2 := Lib.hid hd2.d
  have HB2 := Lib.hid (bstep HB1.out hb2)
  clear hd2 hb2 hq HB1
  go_wp2_with fail
  rw [← HM.out]
  refine (cut_dk W w2 b bd bv _ (newD N) (n + 5) rfl HD2.out).mono ?_
  rintro e w3 ⟨rfl, hd3, hf3⟩
  have HB3 : Hid (Below W.heap.size W w3) := HB2.out.trans (hf3.below _ HB2.out.size (fun k e => e ▸ HD2.out.hb))
  have HD3 := Lib.hid hd3
  clear hd3 hf3 HD2 HB2
  go_wp2_with fail
  refine (cut_dk W w3 b bd bv _ _ n (by unfold cutD; rw [if_neg (by omega), if_neg (by omega)]; rfl) HD3.out).mono ?_
  rintro e w4 ⟨rfl, hd4, hf4⟩
  have HB4 : Hid (Below W.heap.size W w4) := HB3.out.trans (hf4.below _ HB3.out.size (fun k e => e ▸ HD3.out.hb))
  have HS : Hid (CutSt W (w4.alloc (.cells (zcells N) 5)) b bd bv w4.heap.size (.slice none 0 0) (.slice none 0 0) (cutD (cutD (newD N) (n + 5 : Nat)) n) N n 0) := CutSt.start hd4 HB4.out (by omega)
  clear hd4 hf4 HD3 HB3 HB4
  go_wp2_with fail
  generalize w4.heap.size = g at HS ⊢
  generalize cutD (cutD (newD N) (n + 5 : Nat)) n = D0 at HS
  go_loopw [11, 12] (fun v i wr => ∃ j : Nat, j ≤ 40 ∧ i = .int .i64 j ∧ ∃ vp D, Hid (CutSt W wr b bd bv g vp v D N n j)) (fun _ i _ => 40 - (intOf i).toNat)
  case atStart => exact ⟨0, Nat.zero_le _, rfl, _, _, HS⟩
  case round =>
    obtain ⟨j, hj, rfl, vp, D, HC⟩ := hrel
    by_cases hend : len ≤ j ∨ j = 40
    · rcases (show ((j : Int) < len ∧ ¬ (j : Int) < 40) ∨ (¬ (j : Int) < len ∧ True) from by
        by_cases h : (j : Int) < len
        · exact .inl ⟨h, by omega⟩
        · exact .inr ⟨h, trivial⟩) with ⟨hjl, hj60⟩ | ⟨hjl, hj60⟩
      all_goals
        clear hend
        by_cases hjn : j < n
        · have hjn' : (j : Int) < n := by omega
          have HO := Lib.hid (HC.out.ownLt hjn)
          have HL4 : Hid (D.lost = false) := by
            show _ = _
            rw [HC.out.lost, decide_eq_false_iff_not]
            omega
          obtain ⟨oa2, cap2, rfl⟩ := own_slice HO.out
          go_wp2_with fail
          refine (sync_any wr W.heap.size b bd bv vp D HC.out.d).mono ?_
          rw [show stE D = 0 from by unfold stE; rw [HL4.out]; rfl]
          rintro e w5 ⟨rfl, vp5, hd5, hk5, hf5⟩
          have HL5 : Hid (Below W.heap.size W w5) := HC.out.bel.trans (hf5.below _ HC.out.bel.size HC.out.d.ge)
          clear hd5 hk5 hf5 HC HO HL4
          go_wp2_with fail
          go_ret
          exact ⟨rfl, HL5.out⟩
        · have hjn' : ¬ (n : Int) < n := by omega
          have HO := Lib.hid (HC.out.ownGe (by omega))
          have HP : Hid (D.pend.length = n) := by
            have := HC.out.pl
            rwa [show min j n = n by omega] at this
          have HL4 : Hid (D.lost = true) := by
            show _ = _
            rw [HC.out.lost, decide_eq_true_iff]
            omega
          obtain ⟨oa2, cap2, rfl⟩ := own_slice HO.out
          go_wp2_with fail
          refine (read_lost W wr b bd bv vp D HL4.out HC.out.d).mono ?_
          rintro e w' ⟨rfl, rfl⟩
          go_wp2_with fail
          refine (sync_lost W wr b bd bv vp D HL4.out HC.out.d).mono ?_
          rintro e w5 ⟨rfl, vp5, hd5, hk5, hf5⟩
          have HC5 : Hid (CutSt W w5 b bd bv g vp5 _ D N n j) := HC.out.turn hd5 (fun k hk => .inl (hk5 ▸ hk)) hf5
          clear hd5 hk5 hf5
          have HO5 : Hid (w5.ownsRow W.heap.size 3 1 (.slice oa2 n cap2) n (icells (fun i => (i : Int)) n)) := by
            have := HC5.out.own
            rwa [show min j n = n by omega] at this
          clear HC HO
          go_wp2_with fail
          refine (cut_lost W w5 b bd bv vp5 D 3 HL4.out HC5.out.d).mono ?_
          rintro e w6 ⟨rfl, hd6, hf6⟩
          have HC6 : Hid (CutSt W w6 b bd bv g vp5 _ D N n j) := HC5.out.turn hd6 (fun k hk => .inl hk) (hf6.mono (fun k e => .inl e))
          clear hd6 hf6
          have HO6 : Hid (w6.ownsRow W.heap.size 3 1 (.slice oa2 n cap2) n (icells (fun i => (i : Int)) n)) := by
            have := HC6.out.own
            rwa [show min j n = n by omega] at this
          clear HC5 HO5
          go_wp2_with fail
          refine (pending_any w6 W.heap.size b bd bv vp5 D HC6.out.d).mono ?_
          rw [HP.out]
          rintro e w' ⟨rfl, rfl⟩
          go_wp2_with fail
          refine (size_any w6 W.heap.size b bd bv vp5 D HC6.out.d).mono ?_
          rw [HC6.out.len]
          rintro e w' ⟨rfl, rfl⟩
          go_wp2_with fail
          refine (crash_walk w6 W.heap.size b bd bv vp5 D oa2 n cap2 (fun i => if i < n then (i : Int) else 0) (-1) HC6.out.bel.size (by unfold maxLen; omega) (by rw [HP.out]; omega) (fun p hp => by rw [HC6.out.len]; exact HC6.out.pk p hp) (fun i => by split <;> omega) (by decide) (by decide) (fun p hp => by have := HC6.out.pk p hp; unfold maxLen; omega) (own_ints2 HO6.out (fun k hk => (HC6.out.vf k hk).1)) HC6.out.d).mono ?_
          have hcr := crashD_all2 D HC6.out.ap
          rw [HP.out] at hcr
          rw [hcr]
          clear hcr
          rintro e w7 ⟨rfl, vp7, hd7, hk7, hf7⟩
          have HG7 : Hid (Blk w7 g 5 (cellsB D.vis)) := HC6.out.bl.kept (hf7.block g HC6.out.bl.lt HC6.out.gn)
          have HL7 : Hid (Below W.heap.size W w7) := HC6.out.bel.trans (hf7.below _ HC6.out.bel.size HC6.out.d.ge)
          have HD7 : Hid (DkOk W w7 b bd bv vp7 { lost := false, cut := 0, dur := D.vis, vis := D.vis, pend := [] } N 0) := ⟨hd7, rfl, rfl, HC6.out.len, Nat.le_refl _, fun p hp => absurd hp (by simp)⟩
          have hconv := conv_vis HG7.out HC6.out.len
          obtain ⟨T, hT⟩ : ∃ T : ByteArray, (⟨D.vis.toArray⟩ : ByteArray) = T := ⟨_, rfl⟩
          rw [hT] at hconv
          have HT := Lib.hid hT
          clear hT hd7 hk7 hf7 HC6 HO6
          go_wp2_with fail
          refine (read_dk W w7 b bd bv vp7 _ N 0 HD7.out).mono ?_
          rw [HT.out]
          rintro e w' ⟨rfl, rfl⟩
          go_wp2_with fail
          clear hconv
          refine (write_dk W w7 b bd bv vp7 _ N 0 0 ⟨#[120]⟩ HL7.out.size (by omega) (by show 0 + 1 ≤ N; omega) HD7.out).mono ?_
          rintro e w8 ⟨rfl, vp8, hd8, hk8, hf8⟩
          have HL8 : Hid (Below W.heap.size W w8) := HL7.out.trans (hf8.below _ HL7.out.size HD7.out.d.ge)
          have HD8 := Lib.hid hd8
          clear hd8 hk8 hf8
          go_wp2_with fail
          refine (sync_dk W w8 b bd bv vp8 _ N _ HD8.out).mono ?_
          rintro e w9 ⟨rfl, vp9, hd9, hk9, hf9⟩
          have HL9 : Hid (Below W.heap.size W w9) := HL8.out.trans (hf9.below _ HL8.out.size HD8.out.d.ge)
          clear hd9 hk9 hf9
          go_wp2_with fail
          go_ret
          exact ⟨rfl, HL9.out⟩
    · have hjl' : (j : Int) < len := by omega
      have hj40' : (j : Int) < 40 := by omega
      clear hend
      obtain ⟨q, off, rfl, c0, c1, c2⟩ := HW.out.kept HC.out.bel j (by omega)
      go_wp2_with fail
      refine (fits_any (of j) (ss j) (sy j) N wr (hof j).1 (hof j).2 (hss j) (by omega)).mono ?_
      have hfit := fit_le (of j) (ss j) N
      generalize fitO (of j) N = o at hfit ⊢
      generalize fitS (of j) (ss j) N = s at hfit ⊢
      generalize sy j = y at c2 ⊢
      rintro e w3 ⟨rfl, hb3⟩
      have HB3 := Lib.hid hb3
      clear hb3 c0 c1 c2
      go_wp2_with fail
      have hbox := HC.out.box HB3.out 53 [.int .i64 (o : Int), .string s, .bool y]
      rw [show [Value.int .i64 (o : Int), .string s, .bool y].toArray = #[Value.int .i64 (o : Int), .string s, .bool y] from rfl] at hbox
      generalize w3.alloc (.cells #[Value.int .i64 (o : Int), .string s, .bool y] 53) = w4 at hbox ⊢
      generalize w3.heap.size = k at hbox ⊢
      obtain ⟨hc4, hk4, hkf, hkg⟩ := hbox
      have HC4 := Lib.hid hc4
      have HK4 := Lib.hid hk4
      have HKF := Lib.hid hkf
      clear hc4 hk4 hkf HB3 HC
      have hpl : D.pend.length ≤ 1000000 := by have := HC4.out.pl; omega
      have hcut : D.cut ≤ 1000000 := by have := HC4.out.cut; omega
      by_cases hjn : j < n
      · have hjn' : (j : Int) < n := by omega
        have HL4 : Hid (D.lost = false) := by
          show _ = _
          rw [HC4.out.lost, decide_eq_false_iff_not]
          omega
        refine (write_ok w4 W.heap.size b bd bv vp D o s HC4.out.bel.size HL4.out (by rw [HC4.out.len]; exact hfit) hpl (by omega) HC4.out.d).mono ?_
        rintro e w5 ⟨rfl, vp5, hd5, hk5, hf5⟩
        have HD5 : Hid (DkAt w5 W.heap.size b bd bv vp5 (cutWr D o s)) := hd5
        have HK5 := Lib.hid hk5
        have HF5 := Lib.hid hf5
        have HX5 : Hid (Blk w5 k _ _) := HK4.out.kept (hf5.block k HK4.out.lt HKF.out)
        have HG5 : Hid (Blk w5 g 5 (cellsB D.vis)) := HC4.out.bl.kept (hf5.block g HC4.out.bl.lt HC4.out.gn)
        clear hd5 hk5 hf5
        have c0 := HX5.out.cell 0
        have c1 := HX5.out.cell 1
        simp only [List.getElem?_cons_zero, List.getElem?_cons_succ] at c0 c1
        go_wp2_with fail
        refine (put_any w5 g N D.vis o s HG5.out HC4.out.len (by omega) (by rw [HC4.out.len]; exact hfit)).mono ?_
        rintro e w6 ⟨⟨ve, rfl⟩, hb6, hf6⟩
        clear c0 c1
        have HB6 := Lib.hid hb6
        have HF6 := Lib.hid hf6
        clear hb6 hf6
        have ho6 := HC4.out.ownAt hjn HF5.out HF6.out
        have hB6 : W.heap.size ≤ w6.heap.size := by
          have h1 := HF5.out.size
          have h2 := HF6.out.size
          have h3 := HC4.out.bel.size
          omega
        obtain ⟨v', w7, hrun, ho7, hf7, hk7⟩ := app_int w6 W.heap.size _ j _ j ho6 (by omega) hB6 37
        have HC7 : Hid (CutSt W w7 b bd bv g vp5 v' (cutWr D o s) N n (j + 1)) := HC4.out.step hjn hfit HD5.out HK5.out HF5.out HB6.out HF6.out ho7 hf7 hk7
        clear ho7 hf7 hk7 ho6 hB6 HB6 HF6 HX5 HG5 HK5 HF5 HD5 HC4 HK4 HKF
        go_wp2_with (at_builtin; refine wpList_append_run _ rfl _ _ 37 rfl _ _ _ _ rfl rfl hrun ?_)
        go_roundw
        case rel => exact ⟨j + 1, by omega, by go_num, vp5, _, HC7⟩
        case measure => simp [intOf]; omega
      · have hjn' : ¬ (j : Int) < n := by omega
        have HL4 : Hid (D.lost = true) := by
          show _ = _
          rw [HC4.out.lost, decide_eq_true_iff]
          omega
        refine (write_lost W w4 b bd bv vp D o s HC4.out.bel.size (by omega) (by omega) hpl hcut HL4.out HC4.out.d).mono ?_
        rintro e w5 ⟨rfl, vp5, hd5, hk5, hf5⟩
        have HC5 : Hid (CutSt W w5 b bd bv g vp5 _ D N n (j + 1)) := (HC4.out.turn hd5 hk5 hf5).after (by omega)
        clear hd5 hk5 hf5 HC4 HK4 HKF
        go_wp2_with fail
        go_roundw
        case rel => exact ⟨j + 1, by omega, by go_num, vp5, _, HC5⟩
        case measure => simp [intOf]; omega
end Go.Proofs.Ytdcnddbkjdbbbaa
