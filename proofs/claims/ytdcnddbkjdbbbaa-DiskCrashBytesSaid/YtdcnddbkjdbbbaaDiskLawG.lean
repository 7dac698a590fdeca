/-
  The walk of the law DiskCrashBytes.
-/
import Derived.WalkKit
import Derived.LoopTactic
import Derived.WalkSpells
import Derived.WalkLawsBesides
import Derived.RegionTactic
import Derived.BigRegion
import Derived.Deep.QuietTactic
import Derived.BigQuiet
import Derived.IntWalk
import Derived.Laws.OwnMore
import Derived.Test.YtdcnddbkjdbbbaaDiskCB
set_option linter.unusedVariables false
set_option linter.unusedSimpArgs false
namespace Go.Proofs.Ytdcnddbkjdbbbaa
open Go.RowKit
section
open Go.ChangeShapes Go.WideShapes Go.Deep
/-- A slice of Booleans that came in, nil included. -/
def BoolsAt (W : World) (oa : Option Addr) (len : Nat) (ks : Nat → Bool) : Prop :=
  len = 0 ∨ ∃ g off, oa = some ⟨g, off, none⟩ ∧ g < W.heap.size ∧ ∀ i, i < len → W.cell? ⟨g, off + i, none⟩ = some (.bool (ks i))
theorem open_bools_any {H : Type} {enc : TypeId × Value → H} {W : World} {base : Nat} {v : Value} {d : DataW H} {ps : List MemPlace}
    (hv : Value.okWide Try.prog W .any base 58 v) (h : DataW.Trod enc Try.prog W 0 (fun _ => true) true 58 v d ps) :
    ∃ (oa : Option Addr) (len cap : Nat) (ks : Nat → Bool), v = .slice oa len cap ∧ len ≤ cap ∧ cap ≤ maxLen ∧ BoolsAt W oa len ks := by
  obtain ⟨a0, len, cap, rfl⟩ := okWide_slice Try.underlying58 hv
  obtain ⟨fuel, hf⟩ := h
  rcases open_slice Try.underlying58 hf with ⟨hcs, _⟩ | ⟨a, len', cap', m, n, D, Pl, hcs, hb, hl, hm, hmm, hx, hi⟩
  · simp [Value.cells] at hcs
    obtain ⟨rfl, rfl, rfl⟩ := hcs
    exact ⟨none, 0, 0, fun _ => false, rfl, Nat.le_refl _, Nat.zero_le _, .inl rfl⟩
  · simp [Value.cells] at hcs
    obtain ⟨rfl, rfl, rfl⟩ := hcs
    simp at hmm
    subst hmm
    have key : ∀ i, i < m → ∃ y : Bool, W.cell? (a.add i) = some (.bool y) := by
      intro i him
      obtain ⟨cs', hc, ht'⟩ := hi i him
      rw [show Try.prog.cellsOf 4 = 1 from by kernel_rfl] at hc
      obtain ⟨_, hcl, hat⟩ := World.cells?_some hc
      obtain ⟨y, e, _⟩ := DataW.trod_bool Try.underlying4 ht'
      subst e
      have := hat 0 (by decide)
      rw [Nat.mul_one] at this
      refine ⟨y, ?_⟩
      rw [Go.Deep.add_add] at this
      exact this
    have key2 : ∀ i : Nat, ∃ y : Bool, i < m → W.cell? (a.add i) = some (.bool y) := by
      intro i
      by_cases hi' : i < m
      · obtain ⟨y, h⟩ := key i hi'
        exact ⟨y, fun _ => h⟩
      · exact ⟨false, fun h => absurd h hi'⟩
    obtain ⟨F, hF⟩ := Classical.axiomOfChoice key2
    refine ⟨some a, len, m, F, rfl, hl, hm, ?_⟩
    by_cases hp : 0 < len
    · obtain ⟨b, off, spot⟩ := a
      have h0 := hF 0 (by omega)
      have hspot : spot = none := by simpa [Addr.add] using World.cell?_spot h0
      subst hspot
      refine .inr ⟨b, off, rfl, ?_, fun i hi => ?_⟩
      · exact block_lt (p := ⟨b, off + 0, none⟩) (by rw [Go.WideShapes.add_plain] at h0; exact h0)
      · have h3 := hF i (by omega)
        rw [Go.WideShapes.add_plain] at h3
        exact h3
    · exact .inl (by omega)
end
/-- cut, whatever the number. -/
theorem cutstr_big (s : ByteArray) (n : Int) (w : World) (hs : s.size ≤ maxLen) (h0 : 0 ≤ n) (hn : n ≤ 9223372036854775807) :
    Calls Try.prog 22 #[.string s, .int .i64 n] w fun e w' => e = .returned (.string (cutS s n.toNat)) ∧ w = w' := by
  obtain ⟨k, rfl⟩ : ∃ k : Nat, n = (k : Int) := ⟨n.toNat, by omega⟩
  rw [Int.toNat_natCast]
  unfold maxLen at hs
  obtain ⟨m, T, h1, h2, h3, h4, h5⟩ : ∃ (m : Nat) (T : ByteArray), m ≤ s.size ∧ m ≤ k ∧ (if k < s.size then (k : Int) else (s.size : Int)) = (m : Int) ∧ s.extract 0 m = T ∧ cutS s k = T := by
    refine ⟨min k s.size, cutS s k, by omega, by omega, ?_, rfl, rfl⟩
    split <;> omega
  rw [h5]
  clear h5
  have h3' : min (s.size : Int) (k : Int) = (m : Int) := by rw [← h3]; split <;> omega
  clear h3
  go_enter Try.func22, Try.ntmps22
  go_wp2
  go_ret
  exact ⟨rfl, rfl⟩
def ncells (l : List Nat) : List Value := l.map fun i : Nat => Value.int .i64 (i : Int)
/-- append([]int{x}, v...) for a v of the call's own. -/
theorem app_front (wr : World) (B : Nat) (v : Value) (l : List Nat) (x : Nat) (hown : wr.ownsRow B 3 1 v l.length (ncells l)) (hn : l.length ≤ 1000000) (hB : B ≤ wr.heap.size) (ty : TypeId) :
    ∃ v' w', (Builtin.append_ #[37, 37] ty #[.slice (some ⟨wr.heap.size, 0, none⟩) 1 1, v]).run Try.prog (wr.alloc (.cells #[.int .i64 (x : Int)] 3)) = .ok v' w' ∧ w'.ownsRow B 3 1 v' (x :: l).length (ncells (x :: l)) ∧ Below wr.heap.size wr w' ∧ (∀ k, v'.ownBlock = some k → wr.heap.size ≤ k) := by
  obtain ⟨i0, hi, hz0, hz1, hz2⟩ := info_parts Try.infoI64
  have hnew : Blk (wr.alloc (.cells #[.int .i64 (x : Int)] 3)) wr.heap.size 3 [.int .i64 (x : Int)] := Blk.new wr _ _
  have hone : (wr.alloc (.cells #[.int .i64 (x : Int)] 3)).ownsRow B 3 1 (.slice (some ⟨wr.heap.size, 0, none⟩) 1 1) 1 [.int .i64 (x : Int)] := by
    exact ⟨rfl, .inr ⟨wr.heap.size, 1, _, rfl, hB, hnew, Nat.le_refl _, by decide, rfl, rfl⟩⟩
  rcases hown.2 with ⟨rfl, hl0⟩ | ⟨g, cap, cur, rfl, q1, q2, q3⟩
  · have hl : l = [] := List.eq_nil_of_length_eq_zero hl0
    subst hl
    have hrun := run_append_owned_none (P := Try.prog) (w := wr.alloc (.cells #[.int .i64 (x : Int)] 3)) B 37 ty 3 i0 1 Try.underlying37 hi _ 1 _ hone
    exact ⟨_, _, hrun, hone, (Below.refl _ wr).alloc (Nat.le_refl _) _, fun k hk => by simp [Value.ownBlock] at hk; omega⟩
  · obtain ⟨v', w', hrun, h1, h2, h3⟩ := app_own (P := Try.prog) (W := wr.alloc (.cells #[.int .i64 (x : Int)] 3)) B 37 ty 3 i0 (.int .i64 0) 1 8 Try.underlying37 hi hz0 hz1 hz2 rfl (by decide) _ 1 _ hone ⟨g, 0, none⟩ l.length cap (ncells l) (by simp [ncells]) (fun j u hj => by
        have hj' : j < l.length * 1 := by
          have := (List.getElem?_eq_some_iff.1 hj).1
          simpa [ncells] using this
        rw [show ((⟨g, 0, none⟩ : Addr).add j) = ⟨g, j, none⟩ from by unfold Addr.add; split <;> simp_all, (hown.alloc _).cellAt j hj']
        exact hj) (by intro u hu; simp [ncells] at hu; obtain ⟨i, _, rfl⟩ := hu; rfl) (by unfold maxLen; omega) (by omega) (by simp; omega)
    refine ⟨v', w', hrun, ?_, ?_, fun k hk => ?_⟩
    · rw [show (x :: l).length = 1 + l.length by simp; omega]
      exact h1
    · refine ((Below.refl _ wr).alloc (Nat.le_refl _) _).trans (h2.below _ (by simp) (fun k hk => ?_))
      simp [Value.ownBlock] at hk
      omega
    · rcases h3 k hk with h | h
      · simp [Value.ownBlock] at h
        omega
      · simp at h
        omega
theorem BoolsAt.kept {W wr : World} {oa : Option Addr} {len : Nat} {ks : Nat → Bool} (h : BoolsAt W oa len ks) (hb : Below W.heap.size W wr) (i : Nat) (hi : i < len) :
    ∃ g off, oa = some ⟨g, off, none⟩ ∧ wr.cell? ⟨g, off + i, none⟩ = some (.bool (ks i)) := by
  rcases h with h0 | ⟨g, off, rfl, hg, hc⟩
  · omega
  · exact ⟨g, off, rfl, by rw [hb.cell hg]; exact hc i hi⟩
/-- The content beside a disk, while it is filled. -/
structure I1 (W wr : World) (b bd bv g : Nat) (vp : Value) (D : DS) (n i : Nat) (l : List UInt8) : Prop where
  dk : DkOk W wr b bd bv vp D n i
  bl : Blk wr g 5 (cellsB l)
  gn : ¬ Foot b bd bv vp g
  gB : W.heap.size ≤ g
  bel : Below W.heap.size W wr
theorem I1.set {W wr : World} {b bd bv g : Nat} {vp : Value} {D : DS} {n i : Nat} {l : List UInt8} (h : I1 W wr b bd bv g vp D n i l) (j : Nat) (x : UInt8) : I1 W (wr.setCell ⟨g, j, none⟩ (.int .u8 (x.toNat : Int))) b bd bv g vp D n i (l.set j x) := by
  have hF : Fr (fun k => k = g) wr (wr.setCell ⟨g, j, none⟩ (.int .u8 (x.toNat : Int))) := (Fr.refl _ wr).setCell _ _ (.inl rfl)
  refine ⟨h.dk.fr hF (fun k hk e => h.gn (e ▸ hk)), ?_, h.gn, h.gB, h.bel.trans (hF.below _ h.bel.size (fun k e => e ▸ h.gB))⟩
  have := h.bl.set j (.int .u8 (x.toNat : Int))
  rwa [show (cellsB l).set j (.int .u8 (x.toNat : Int)) = cellsB (l.set j x) from by simp [cellsB, List.map_set]] at this
/-- What holds at the head of the loop over the writes. -/
structure CB (W wr : World) (b bd bv g : Nat) (vp v : Value) (D : DS) (n : Nat) (K : Nat → Bool) (last torn : Int) (os : Nat → Nat) (ss : Nat → ByteArray) (j : Nat) : Prop where
  dk : DkOk W wr b bd bv vp D n j
  pend : D.pend = pendL os ss j
  dur : D.dur = initL n
  bl : Blk wr g 5 (cellsB (wantL K last torn os ss n j))
  gn : ¬ Foot b bd bv vp g
  gB : W.heap.size ≤ g
  own : wr.ownsRow W.heap.size 3 1 v (keptL K j).length (ncells (keptL K j))
  vf : ∀ k, v.ownBlock = some k → ¬ Foot b bd bv vp k ∧ k ≠ g
  bel : Below W.heap.size W wr
section
variable {W wr : World} {b bd bv g : Nat} {vp v : Value} {D : DS} {n : Nat} {K : Nat → Bool} {last torn : Int} {os : Nat → Nat} {ss : Nat → ByteArray} {j : Nat}
theorem own_lt' {wr : World} {B : Nat} {t : TypeId} {size : Nat} {v : Value} {n : Nat} {xs : List Value} (h : wr.ownsRow B t size v n xs) : ∀ k, v.ownBlock = some k → k < wr.heap.size := fun k hk => by
  rcases h.2 with ⟨rfl, rfl⟩ | ⟨g, cap, cur, rfl, q2, q3⟩
  · simp [Value.ownBlock] at hk
  · simp [Value.ownBlock] at hk
    subst hk
    exact (Array.getElem?_eq_some_iff.1 q3.1).1
theorem CB.below {w' : World} (h : CB W wr b bd bv g vp v D n K last torn os ss j) (hB : Below wr.heap.size wr w') : CB W w' b bd bv g vp v D n K last torn os ss j :=
  ⟨h.dk.below hB, h.pend, h.dur, h.bl.kept (hB.block g h.bl.lt), h.gn, h.gB, ownsRow_kept h.own (fun k hk => hB.block k (own_lt' h.own k hk)), h.vf, bstep h.bel hB⟩
theorem CB.box {w3 : World} (h : CB W wr b bd bv g vp v D n K last torn os ss j) (hb : Below wr.heap.size wr w3) (t : TypeId) (cs : List Value) :
    CB W (w3.alloc (.cells cs.toArray t)) b bd bv g vp v D n K last torn os ss j ∧ Blk (w3.alloc (.cells cs.toArray t)) w3.heap.size t cs ∧ ¬ Foot b bd bv vp w3.heap.size ∧ w3.heap.size ≠ g := by
  have hB : Below wr.heap.size wr (w3.alloc (.cells cs.toArray t)) := hb.alloc hb.size _
  have hz := hb.size
  have hg := h.bl.lt
  have hlt := h.dk.d.lt
  refine ⟨h.below hB, Blk.new w3 t cs, fun hk => ?_, by omega⟩
  have := hlt _ hk
  omega
/-- A write that is not kept. -/
theorem CB.stepNo {w5 : World} {vp5 : Value} (h : CB W wr b bd bv g vp v D n K last torn os ss j) (hK : K j = false)
    (hd5 : DkOk W w5 b bd bv vp5 (wrD D (os j) (ss j)) n (j + 1)) (hk5 : ∀ k, vp5.ownBlock = some k → vp.ownBlock = some k ∨ wr.heap.size ≤ k) (hf5 : Fr (Foot b bd bv vp) wr w5) : CB W w5 b bd bv g vp5 v (wrD D (os j) (ss j)) n K last torn os ss (j + 1) := by
  have hgl := h.bl.lt
  have hvo := fun k hk => own_lt' h.own k hk
  have hK' : ¬ K j = true := by rw [hK]; decide
  refine ⟨hd5, ?_, h.dur, ?_, fun hx => h.gn (Foot.mono hk5 g hgl hx), h.gB, ?_, fun k hk => ⟨fun hx => (h.vf k hk).1 (Foot.mono hk5 k (hvo k hk) hx), (h.vf k hk).2⟩, h.bel.trans (hf5.below _ h.bel.size h.dk.d.ge)⟩
  · show D.pend ++ [(os j, ss j)] = _
    rw [pendL_succ, h.pend]
  · unfold wantL
    rw [if_neg hK']
    exact h.bl.kept (hf5.block g hgl h.gn)
  · unfold keptL
    rw [if_neg hK']
    exact ownsRow_kept h.own (fun k hk => hf5.block k (hvo k hk) (h.vf k hk).1)
/-- A write that is kept: the write, the number, the content. -/
theorem CB.stepYes {w5 w6 w7 : World} {vp5 v' : Value} (h : CB W wr b bd bv g vp v D n K last torn os ss j) (hK : K j = true)
    (hd5 : DkOk W w5 b bd bv vp5 (wrD D (os j) (ss j)) n (j + 1)) (hk5 : ∀ k, vp5.ownBlock = some k → vp.ownBlock = some k ∨ wr.heap.size ≤ k) (hf5 : Fr (Foot b bd bv vp) wr w5)
    (ho6 : w6.ownsRow W.heap.size 3 1 v' (j :: keptL K j).length (ncells (j :: keptL K j))) (hb6 : Below w5.heap.size w5 w6) (hk6 : ∀ k, v'.ownBlock = some k → w5.heap.size ≤ k)
    (hb7 : Blk w7 g 5 (cellsB (splice (wantL K last torn os ss n j) (os j) (cutL last torn j (ss j)).data.toList))) (hf7 : Fr (fun k => k = g) w6 w7) : CB W w7 b bd bv g vp5 v' (wrD D (os j) (ss j)) n K last torn os ss (j + 1) := by
  have hgl := h.bl.lt
  have hs5 := hf5.size
  have hs6 := hb6.size
  have hlt5 := hd5.d.lt
  have hB := h.bel.size
  have hg5 : ¬ Foot b bd bv vp5 g := fun hx => h.gn (Foot.mono hk5 g hgl hx)
  refine ⟨(hd5.below hb6).fr hf7 (fun k hk e => hg5 (e ▸ hk)), ?_, h.dur, ?_, hg5, h.gB, ?_, fun k hk => ⟨fun hx => ?_, ?_⟩, ?_⟩
  · show D.pend ++ [(os j, ss j)] = _
    rw [pendL_succ, h.pend]
  · unfold wantL
    rw [if_pos hK]
    exact hb7
  · unfold keptL
    rw [if_pos hK]
    refine ownsRow_kept ho6 (fun k hk => hf7.block k (own_lt' ho6 k hk) ?_)
    have := hk6 k hk
    intro e
    omega
  · have h1 := hk6 k hk
    have h2 := hlt5 k hx
    omega
  · have h1 := hk6 k hk
    omega
  · exact ((h.bel.trans (hf5.below _ hB h.dk.d.ge)).trans (hb6.mono (by omega))).trans (hf7.below _ (by omega) (fun k e => e ▸ h.gB))
end
theorem own_nums {wr : World} {B : Nat} {oa : Option Addr} {cap m : Nat} {K : Nat → Bool} {S : Nat → Prop} (h : wr.ownsRow B 3 1 (.slice oa (keptL K m).length cap) (keptL K m).length (ncells (keptL K m))) (hn : ∀ k, (Value.slice oa (keptL K m).length cap).ownBlock = some k → ¬ S k) : IntsAt wr oa (keptL K m).length (keptK K m) S := by
  have e : ncells (keptL K m) = icells (keptK K m) (keptL K m).length := by
    apply List.ext_getElem
    · simp [ncells, icells]
    · intro i h1 h2
      have h3 : i < (keptL K m).length := by simpa [ncells] using h1
      simp [ncells, icells, keptK, List.getElem?_eq_getElem h3]
  rw [e] at h
  exact own_ints h hn
theorem keptK_bd (K : Nat → Bool) (m : Nat) (hm : m ≤ 1000000) (i : Nat) : -9223372036854775808 ≤ keptK K m i ∧ keptK K m i ≤ 9223372036854775807 := by
  by_cases hi : i < (keptL K m).length
  · have := keptK_spec K m i hi
    omega
  · unfold keptK
    rw [List.getElem?_eq_none (by omega)]
    simp
/-- Which writes the law keeps. -/
def keepB (kl : Nat) (kp : Nat → Bool) (i : Nat) : Bool := decide (i < kl) && kp i
set_option maxHeartbeats 4000000 in
set_option maxRecDepth 100000 in
theorem walkCrashBytes (size torn : Int) (oa : Option Addr) (len cap : Nat) (of : Nat → Int) (ss : Nat → ByteArray) (sy : Nat → Bool) (ka : Option Addr) (kl kc : Nat) (kp : Nat → Bool) (W : World) (hs0 : -9223372036854775808 ≤ size) (hs1 : size ≤ 9223372036854775807)
    (hlc : len ≤ cap) (hcm : cap ≤ maxLen) (hof : ∀ i, -9223372036854775808 ≤ of i ∧ of i ≤ 9223372036854775807) (hss : ∀ i, (ss i).size ≤ maxLen) (hw : WpAt W oa len of ss sy)
    (hkc : kl ≤ kc) (hkm : kc ≤ maxLen) (hkb : BoolsAt W ka kl kp) (ht0 : -9223372036854775808 ≤ torn) (ht1 : torn ≤ 9223372036854775807) :
    Calls Try.prog 8 #[.int .i64 size, .slice oa len cap, .slice ka kl kc, .int .i64 torn] W fun e w' => e = .returned (.bool true) ∧ Below W.heap.size W w' := by
  have HW := Lib.hid hw
  have HKB := Lib.hid hkb
  clear hw hkb
  unfold maxLen at hcm hkm
  have hp := pickD_bd size 100 (by omega)
  obtain ⟨n, hn⟩ : ∃ n : Nat, 1 + pickD size 100 = (n : Int) := ⟨(1 + pickD size 100).toNat, by omega⟩
  have hn1 : 1 ≤ n := by omega
  have hn2 : n ≤ 100 := by omega
  have HN := Lib.hid hn
  obtain ⟨hp1, hp2⟩ := hp
  clear hn
  have hmk := run_make_bytes n (by omega)
  obtain ⟨m, hm⟩ : ∃ m : Nat, min len 20 = m := ⟨_, rfl⟩
  have hm1 : m ≤ len := by omega
  have hm2 : m ≤ 20 := by omega
  have HM : Hid (m = len ∨ m = 20) := by show _ ∨ _; omega
  clear hm
  go_enter Try.func8, Try.ntmps8
  go_wp2_with fail
  refine (sane_any _).mono ?_
  rintro e w1 ⟨rfl, hb1⟩
  have HB1 := Lib.hid hb1
  clear hb1
  go_wp2_with fail
  refine (pick_any _ _ _ hs0 hs1 (by omega) (by omega)).mono ?_
  rintro e w' ⟨rfl, rfl⟩
  go_wp2_with fail
  rw [HN.out]
  refine (new_dk n W w1 HB1.out.size hn1 (by omega)).mono ?_
  rintro e w2 ⟨b, bd, bv, rfl, hd2, hb2, hq⟩
  have HD2 := Lib.hid hd2
  have HB2 := Lib.hid (bstep HB1.out hb2)
  clear hd2 hb2 hq HB1
  go_wp2_with fail
  have HS : Hid (I1 W (w2.alloc (.cells (zcells n) 5)) b bd bv w2.heap.size (.slice none 0 0) (newD n) n 0 (initP n 0)) := by
    have hlt := HD2.out.d.lt
    exact ⟨HD2.out.fr ((Fr.refl (fun _ => False) w2).alloc _) (fun _ _ h => h), by rw [initP_zero]; exact Blk.new w2 _ _, fun h => by have := hlt _ h; omega, HB2.out.size, HB2.out.alloc HB2.out.size _⟩
  clear HD2 HB2
  generalize w2.heap.size = g at HS ⊢
  go_loopw [13] (fun i wr => ∃ j : Nat, j ≤ n ∧ i = .int .i64 j ∧ Hid (I1 W wr b bd bv g (.slice none 0 0) (newD n) n 0 (initP n j))) (fun i _ => n - (intOf i).toNat)
  case atStart => exact ⟨0, Nat.zero_le _, rfl, HS⟩
  case round =>
    clear HS
    obtain ⟨j, hj, rfl, HI⟩ := hrel
    by_cases hjn : j < n
    · have hjn' : (j : Int) < n := by omega
      have hdig := digit_nat j
      have hst := initP_step n j hjn
      have HI2 := HI.out.set j (UInt8.ofNat (48 + j % 10))
      rw [hst, hdig] at HI2
      have HI3 := Lib.hid HI2
      have hc := HI.out.bl.cell j
      rw [cellsB_get _ j (by rw [initP_len]; exact hjn)] at hc
      obtain ⟨u0, hc0⟩ : ∃ u, wr.cell? ⟨g, j, none⟩ = some (.int .u8 u) := ⟨_, hc⟩
      have hfz := HI.out.bl.frozen j
      clear hc hdig hst HI2 HI
      go_wp2_with fail
      go_roundw
      case rel => exact ⟨j + 1, by omega, by go_num, HI3⟩
      case measure => simp [intOf]; omega
    · obtain rfl : j = n := by omega
      have hjn' : ¬ (j : Int) < j := by omega
      clear hjn
      obtain ⟨HI2⟩ : Nonempty (Hid (I1 W wr b bd bv g (.slice none 0 0) (newD j) j 0 (initL j))) := ⟨by have := HI.out; rwa [initP_full] at this⟩
      clear HI
      have hconv := conv_vis HI2.out.bl (initL_len j)
      obtain ⟨S0, hS0⟩ : ∃ S0 : ByteArray, (⟨(initL j).toArray⟩ : ByteArray) = S0 := ⟨_, rfl⟩
      rw [hS0] at hconv
      have HS0 : Hid (S0.data.toList = initL j) := by show _ = _; rw [← hS0]
      have HZ0 : Hid (S0.size = j) := by
        show _ = _
        rw [← hS0]
        show (initL j).toArray.size = j
        rw [List.size_toArray, initL_len]
      clear hS0
      go_wp2_with fail
      clear hconv
      refine (write_dk W wr b bd bv _ (newD j) j 0 0 S0 HI2.out.bel.size (by omega) (by rw [HZ0.out]; omega) HI2.out.dk).mono ?_
      rintro e w3 ⟨rfl, vp3, hd3, hk3, hf3⟩
      have HI3 : Hid (I1 W w3 b bd bv g vp3 (wrD (newD j) 0 S0) j 1 (initL j)) := ⟨hd3, HI2.out.bl.kept (hf3.block g HI2.out.bl.lt HI2.out.gn), fun hx => HI2.out.gn (Foot.mono hk3 g HI2.out.bl.lt hx), HI2.out.gB, HI2.out.bel.trans (hf3.below _ HI2.out.bel.size HI2.out.dk.d.ge)⟩
      clear hd3 hk3 hf3 HI2
      go_wp2_with fail
      refine (sync_dk W w3 b bd bv vp3 _ j 1 HI3.out.dk).mono ?_
      rintro e w4 ⟨rfl, vp4, hd4, hk4, hf4⟩
      have hvis : (wrD (newD j) 0 S0).vis = initL j := by
        show splice (zeroL j) 0 S0.data.toList = initL j
        rw [HS0.out, splice_whole _ _ (by rw [initL_len, zeroL_len])]
      have HC : ∀ (K : Nat → Bool) (last : Int) (os : Nat → Nat) (ss : Nat → ByteArray), Hid (CB W w4 b bd bv g vp4 (.slice none 0 0) { wrD (newD j) 0 S0 with dur := (wrD (newD j) 0 S0).vis, pend := [] } j K last torn os ss 0) := fun K last os ss =>
        ⟨⟨hd4.d, hd4.lost, hd4.cut, hd4.len, Nat.le_refl _, hd4.pk⟩, rfl, hvis, HI3.out.bl.kept (hf4.block g HI3.out.bl.lt HI3.out.gn), fun hx => HI3.out.gn (Foot.mono (fun k hk => .inl (hk4 ▸ hk)) g HI3.out.bl.lt hx), HI3.out.gB, World.ownsRow_nil _ _ _ _, (fun k hk => by simp [Value.ownBlock] at hk), HI3.out.bel.trans (hf4.below _ HI3.out.bel.size HI3.out.dk.d.ge)⟩
      have HL4 : Hid (Below W.heap.size W w4) := HI3.out.bel.trans (hf4.below _ HI3.out.bel.size HI3.out.dk.d.ge)
      have HC0 := Lib.hid HC
      clear HC hvis hd4 hk4 hf4 HI3 HS0 HZ0
      generalize wrD (newD j) 0 S0 = D0 at HC0
      generalize ({ D0 with dur := D0.vis, pend := [] } : DS) = D1 at HC0
      generalize j = n at *
      go_wp2_with fail
      go_loop [14, 15] (fun l i => ∃ j : Nat, j ≤ m ∧ i = .int .i64 j ∧ l = .int .i64 (lastB (keepB kl kp) j)) (fun _ i => m - (intOf i).toNat)
      case atStart => exact ⟨0, Nat.zero_le _, rfl, rfl⟩
      case round =>
        obtain ⟨j, hj, rfl, rfl⟩ := hrel
        have hlb := lastB_bd (keepB kl kp) j
        obtain ⟨hlb1, hlb2⟩ := hlb
        by_cases hjm : j < m
        · have h1 : (j : Int) < len := by omega
          have h2 : (j : Int) < 20 := by omega
          by_cases hjk : j < kl
          · have h3 : (j : Int) < kl := by omega
            obtain ⟨q, off, rfl, c0⟩ := HKB.out.kept HL4.out j hjk
            cases hkp : kp j
            · rw [hkp] at c0
              have HX : Hid (lastB (keepB kl kp) (j + 1) = lastB (keepB kl kp) j) := by
                show _ = _
                rw [lastB, show keepB kl kp j = false by unfold keepB; rw [hkp, Bool.and_false]]
                rfl
              clear hkp
              go_wp2_with fail
              go_round
              case rel => exact ⟨j + 1, by omega, by go_num, by rw [HX.out]⟩
              case measure => simp [intOf]; omega
            · rw [hkp] at c0
              have HX : Hid (lastB (keepB kl kp) (j + 1) = j) := by
                show _ = _
                rw [lastB, show keepB kl kp j = true by unfold keepB; rw [hkp, Bool.and_true]; exact decide_eq_true hjk]
                rfl
              clear hkp
              go_wp2_with fail
              go_round
              case rel => exact ⟨j + 1, by omega, by go_num, by rw [HX.out]⟩
              case measure => simp [intOf]; omega
          · have h3 : ¬ (j : Int) < kl := by omega
            have HX : Hid (lastB (keepB kl kp) (j + 1) = lastB (keepB kl kp) j) := by
              show _ = _
              rw [lastB, show keepB kl kp j = false by unfold keepB; rw [decide_eq_false hjk, Bool.false_and]]
              rfl
            go_wp2_with fail
            go_round
            case rel => exact ⟨j + 1, by omega, by go_num, by rw [HX.out]⟩
            case measure => simp [intOf]; omega
        · obtain rfl : j = m := by omega
          have HLL := Lib.hid (show lastB (keepB kl kp) j = lastB (keepB kl kp) j from rfl)
          have HC1 := Lib.hid (HC0.out (keepB kl kp) (lastB (keepB kl kp) j) (fun i => fitO (of i) n) (fun i => fitS (of i) (ss i) n)).out
          have HFI : Hid (∀ i, (fun i => fitO (of i) n) i + ((fun i => fitS (of i) (ss i) n) i).size ≤ n) := fun i => fit_le (of i) (ss i) n
          obtain ⟨L, hL⟩ : ∃ L : Int, lastB (keepB kl kp) j = L := ⟨_, rfl⟩
          rw [hL] at HC1 hlb1 hlb2
          have HEL := Lib.hid hL
          rcases (show ((j : Int) < len ∧ ¬ (j : Int) < 20) ∨ (¬ (j : Int) < len ∧ True) from by
            rcases HM.out with h | h
            · exact .inr ⟨by omega, trivial⟩
            · by_cases h' : (j : Int) < len
              · exact .inl ⟨h', by omega⟩
              · exact .inr ⟨h', trivial⟩) with ⟨hjl, hj60⟩ | ⟨hjl, hj60⟩
          all_goals
            rw [hL]
            clear hL HLL
            go_wp2_with fail
            go_loopw [16, 17] (fun v i wr => ∃ k : Nat, k ≤ j ∧ i = .int .i64 k ∧ ∃ vp D, Hid (CB W wr b bd bv g vp v D n (keepB kl kp) L torn (fun i => fitO (of i) n) (fun i => fitS (of i) (ss i) n) k)) (fun _ i _ => j - (intOf i).toNat)
            case atStart => exact ⟨0, Nat.zero_le _, rfl, _, _, HC1⟩
            case round =>
              clear HC1 HC0 HL4
              obtain ⟨k, hk, rfl, vp, D, HC⟩ := hrel
              by_cases hkj : k < j
              · have hkl : (k : Int) < len := by omega
                have hk20 : (k : Int) < 20 := by omega
                obtain ⟨q, off, rfl, c0, c1, c2⟩ := HW.out.kept HC.out.bel k (by omega)
                go_wp2_with fail
                refine (fits_any (of k) (ss k) (sy k) n wr (hof k).1 (hof k).2 (hss k) (by omega)).mono ?_
                have hfit := fit_le (of k) (ss k) n
                obtain ⟨o, ho⟩ : ∃ o, fitO (of k) n = o := ⟨_, rfl⟩
                obtain ⟨s, hs⟩ : ∃ s, fitS (of k) (ss k) n = s := ⟨_, rfl⟩
                rw [ho, hs] at hfit ⊢
                have HO := Lib.hid ho
                have HSS := Lib.hid hs
                generalize sy k = y at c2 ⊢
                clear ho hs
                rintro e w3 ⟨rfl, hb3⟩
                have HB3 := Lib.hid hb3
                clear hb3 c0 c1 c2
                go_wp2_with fail
                have hbox := HC.out.box HB3.out 53 [.int .i64 (o : Int), .string s, .bool y]
                rw [show [Value.int .i64 (o : Int), .string s, .bool y].toArray = #[Value.int .i64 (o : Int), .string s, .bool y] from rfl] at hbox
                generalize w3.alloc (.cells #[Value.int .i64 (o : Int), .string s, .bool y] 53) = w4 at hbox ⊢
                generalize w3.heap.size = kb at hbox ⊢
                obtain ⟨hc4, hk4, hkf, hkg⟩ := hbox
                have HC4 := Lib.hid hc4
                have HK4 := Lib.hid hk4
                have HKF := Lib.hid hkf
                clear hc4 hk4 hkf HB3 HC
                refine (write_dk W w4 b bd bv vp D n k o s HC4.out.bel.size (by omega) hfit HC4.out.dk).mono ?_
                rintro e w5 ⟨rfl, vp5, hd5, hk5, hf5⟩
                have HD5 := Lib.hid hd5
                have HK5 := Lib.hid hk5
                have HF5 := Lib.hid hf5
                have HX5 : Hid (Blk w5 kb _ _) := HK4.out.kept (hf5.block kb HK4.out.lt HKF.out)
                have HL5 : Hid (Below W.heap.size W w5) := HC4.out.bel.trans (hf5.below _ HC4.out.bel.size HC4.out.dk.d.ge)
                have hkl5 : (keptL (keepB kl kp) k).length ≤ 1000000 := by have := keptL_len (keepB kl kp) k; omega
                clear hd5 hk5 hf5 HK4 HKF
                by_cases hjk : k < kl
                · have h3 : (k : Int) < kl := by omega
                  obtain ⟨q2, off2, rfl, cb⟩ := HKB.out.kept HL5.out k hjk
                  cases hkp : kp k
                  · rw [hkp] at cb
                    have HKF2 : Hid (keepB kl kp k = false) := by show _ = _; unfold keepB; rw [hkp, Bool.and_false]
                    clear hkp
                    have HC5 := Lib.hid (HC4.out.stepNo HKF2.out (by show DkOk W w5 b bd bv vp5 (wrD D (fitO (of k) n) (fitS (of k) (ss k) n)) n (k + 1); rw [HO.out, HSS.out]; exact HD5.out) HK5.out HF5.out)
                    clear HC4 HD5 HK5 HF5 HX5
                    go_wp2_with fail
                    go_roundw
                    case rel => exact ⟨k + 1, by omega, by go_num, vp5, _, HC5⟩
                    case measure => simp [intOf]; omega
                  · rw [hkp] at cb
                    have HKT : Hid (keepB kl kp k = true) := by show _ = _; unfold keepB; rw [hkp, Bool.and_true]; exact decide_eq_true hjk
                    clear hkp
                    have HOW : Hid (w5.ownsRow W.heap.size 3 1 _ _ _) := ownsRow_kept HC4.out.own (fun x hx => HF5.out.block x (own_lt' HC4.out.own x hx) (HC4.out.vf x hx).1)
                    obtain ⟨v', w6, hrun, ho6, hb6, hk6⟩ := app_front w5 W.heap.size _ (keptL (keepB kl kp) k) k HOW.out hkl5 HL5.out.size 37
                    have HO6 := Lib.hid ho6
                    have HB6 := Lib.hid hb6
                    have HK6 := Lib.hid hk6
                    have HX6 := Lib.hid (HX5.out.kept (hb6.block kb HX5.out.lt))
                    have HG6 : Hid (Blk w6 g 5 (cellsB _)) := (HC4.out.bl.kept (HF5.out.block g HC4.out.bl.lt HC4.out.gn)).kept (hb6.block g (Nat.lt_of_lt_of_le HC4.out.bl.lt HF5.out.size))
                    have c0 := HX6.out.cell 0
                    have c1 := HX6.out.cell 1
                    simp only [List.getElem?_cons_zero, List.getElem?_cons_succ] at c0 c1
                    clear ho6 hb6 hk6 HOW HX5
                    by_cases hkL : (k : Int) = L
                    · have hkL' : ((k : Int) == L) = true := by rw [hkL]; exact beq_self_eq_true _
                      have HKL := Lib.hid hkL
                      clear hkL
                      by_cases htn : 0 ≤ torn
                      · go_wp2_with (at_builtin; refine wpList_append_run _ rfl _ _ 37 rfl _ _ _ _ rfl rfl hrun ?_)
                        refine (cutstr_big s torn _ (small_len s (by omega)) htn ht1).mono ?_
                        rintro e w' ⟨rfl, rfl⟩
                        have hcz : (cutS s torn.toNat).size ≤ s.size := by rw [cutS_size]; omega
                        obtain ⟨T, hT⟩ : ∃ T, cutS s torn.toNat = T := ⟨_, rfl⟩
                        rw [hT] at hcz ⊢
                        have HT := Lib.hid hT
                        clear hT
                        go_wp2_with fail
                        refine (put_any w6 g n _ o T HG6.out (wantL_len _ _ _ _ _ _ HFI.out k) (by omega) (by rw [wantL_len _ _ _ _ _ _ HFI.out k]; omega)).mono ?_
                        rintro e w7 ⟨⟨ve, rfl⟩, hb7, hf7⟩
                        have HC7 := Lib.hid (HC4.out.stepYes (w7 := w7) HKT.out (by show DkOk W w5 b bd bv vp5 (wrD D (fitO (of k) n) (fitS (of k) (ss k) n)) n (k + 1); rw [HO.out, HSS.out]; exact HD5.out) HK5.out HF5.out HO6.out HB6.out HK6.out (by show Blk w7 g 5 (cellsB (splice _ (fitO (of k) n) (cutL L torn k (fitS (of k) (ss k) n)).data.toList)); rw [HO.out, HSS.out, show cutL L torn k s = T from by unfold cutL; rw [if_pos ⟨HKL.out, htn⟩]; exact HT.out]; exact hb7) hf7)
                        clear hb7 hf7 HC4 HD5 HK5 HF5 HO6 HB6 HK6 HX6 HG6 c0 c1
                        go_wp2_with fail
                        go_roundw
                        case rel => exact ⟨k + 1, by omega, by go_num, vp5, _, HC7⟩
                        case measure => simp [intOf]; omega
                      · go_wp2_with (at_builtin; refine wpList_append_run _ rfl _ _ 37 rfl _ _ _ _ rfl rfl hrun ?_)
                        refine (put_any w6 g n _ o s HG6.out (wantL_len _ _ _ _ _ _ HFI.out k) (by omega) (by rw [wantL_len _ _ _ _ _ _ HFI.out k]; omega)).mono ?_
                        rintro e w7 ⟨⟨ve, rfl⟩, hb7, hf7⟩
                        have HC7 := Lib.hid (HC4.out.stepYes (w7 := w7) HKT.out (by show DkOk W w5 b bd bv vp5 (wrD D (fitO (of k) n) (fitS (of k) (ss k) n)) n (k + 1); rw [HO.out, HSS.out]; exact HD5.out) HK5.out HF5.out HO6.out HB6.out HK6.out (by show Blk w7 g 5 (cellsB (splice _ (fitO (of k) n) (cutL L torn k (fitS (of k) (ss k) n)).data.toList)); rw [HO.out, HSS.out, show cutL L torn k s = s from by unfold cutL; rw [if_neg (fun h => by have := h.2; omega)]]; exact hb7) hf7)
                        clear hb7 hf7 HC4 HD5 HK5 HF5 HO6 HB6 HK6 HX6 HG6 c0 c1
                        go_wp2_with fail
                        go_roundw
                        case rel => exact ⟨k + 1, by omega, by go_num, vp5, _, HC7⟩
                        case measure => simp [intOf]; omega
                    · have hkL' : ((k : Int) == L) = false := by rw [beq_eq_false_iff_ne]; exact hkL
                      have HKL := Lib.hid hkL
                      clear hkL
                      go_wp2_with (at_builtin; refine wpList_append_run _ rfl _ _ 37 rfl _ _ _ _ rfl rfl hrun ?_)
                      refine (put_any w6 g n _ o s HG6.out (wantL_len _ _ _ _ _ _ HFI.out k) (by omega) (by rw [wantL_len _ _ _ _ _ _ HFI.out k]; omega)).mono ?_
                      rintro e w7 ⟨⟨ve, rfl⟩, hb7, hf7⟩
                      have HC7 := Lib.hid (HC4.out.stepYes (w7 := w7) HKT.out (by show DkOk W w5 b bd bv vp5 (wrD D (fitO (of k) n) (fitS (of k) (ss k) n)) n (k + 1); rw [HO.out, HSS.out]; exact HD5.out) HK5.out HF5.out HO6.out HB6.out HK6.out (by show Blk w7 g 5 (cellsB (splice _ (fitO (of k) n) (cutL L torn k (fitS (of k) (ss k) n)).data.toList)); rw [HO.out, HSS.out, show cutL L torn k s = s from by unfold cutL; rw [if_neg (fun h => HKL.out h.1)]]; exact hb7) hf7)
                      clear hb7 hf7 HC4 HD5 HK5 HF5 HO6 HB6 HK6 HX6 HG6 c0 c1
                      go_wp2_with fail
                      go_roundw
                      case rel => exact ⟨k + 1, by omega, by go_num, vp5, _, HC7⟩
                      case measure => simp [intOf]; omega
                · have h3 : ¬ (k : Int) < kl := by omega
                  have HKF2 : Hid (keepB kl kp k = false) := by show _ = _; unfold keepB; rw [decide_eq_false hjk, Bool.false_and]
                  have HC5 := Lib.hid (HC4.out.stepNo HKF2.out (by show DkOk W w5 b bd bv vp5 (wrD D (fitO (of k) n) (fitS (of k) (ss k) n)) n (k + 1); rw [HO.out, HSS.out]; exact HD5.out) HK5.out HF5.out)
                  clear HC4 HD5 HK5 HF5 HX5
                  go_wp2_with fail
                  go_roundw
                  case rel => exact ⟨k + 1, by omega, by go_num, vp5, _, HC5⟩
                  case measure => simp [intOf]; omega
              · obtain rfl : k = j := by omega
                clear hkj
                obtain ⟨oa2, cap2, rfl⟩ := own_slice HC.out.own
                go_wp2_with fail
                refine (crash_dk W wr b bd bv vp D n k oa2 (keptL (keepB kl kp) k).length cap2 (keptK (keepB kl kp) k) torn HC.out.bel.size (by omega) (by have := keptL_len (keepB kl kp) k; unfold maxLen; omega) (fun i => keptK_bd _ _ (by omega) _) ht0 ht1 (own_nums HC.out.own (fun x hx => (HC.out.vf x hx).1)) HC.out.dk).mono ?_
                have hcr := crashD_want D (keepB kl kp) torn _ _ n k HC.out.pend HC.out.dur
                rw [HEL.out] at hcr
                rw [hcr]
                clear hcr
                rintro e w7 ⟨rfl, vp7, hd7, hk7, hf7⟩
                have HL7 : Hid (Below W.heap.size W w7) := HC.out.bel.trans (hf7.below _ HC.out.bel.size HC.out.dk.d.ge)
                have HG7 := HC.out.bl.kept (hf7.block g HC.out.bl.lt HC.out.gn)
                have hconv := conv_vis HG7 (wantL_len _ _ _ _ _ _ HFI.out k)
                have HD7 := Lib.hid hd7
                obtain ⟨T, hT⟩ : ∃ T : ByteArray, (⟨(wantL (keepB kl kp) L torn (fun i => fitO (of i) n) (fun i => fitS (of i) (ss i) n) n k).toArray⟩ : ByteArray) = T := ⟨_, rfl⟩
                rw [hT] at hconv
                have HT := Lib.hid hT
                clear hT hd7 hk7 hf7 HG7 HC
                go_wp2_with fail
                refine (read_dk W w7 b bd bv vp7 _ n 0 HD7.out).mono ?_
                rw [HT.out]
                rintro e w' ⟨rfl, rfl⟩
                go_wp2_with fail
                go_ret
                exact ⟨rfl, HL7.out⟩
end Go.Proofs.Ytdcnddbkjdbbbaa
