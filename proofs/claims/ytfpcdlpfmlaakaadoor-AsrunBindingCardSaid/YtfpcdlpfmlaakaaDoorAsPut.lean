/-
  The walk of the reference's PutInt (asrun's seat).
-/
import Derived.WalkKit
import Derived.LoopTactic
import Derived.OwnWalk
import Derived.WalkSpells
import Derived.WalkLawsBesides
import Derived.Laws.BitsAllLaws
import Derived.Laws.OwnMore
import Derived.Laws.IdiomStrings
import Derived.Maps.AppendAt
import Derived.RangeFuncBox
import Derived.Lib.Hide
import Derived.IntWalk
import Derived.Test.YtfpcdlpfmlaakaaDoorWaA
import Derived.Test.YtfpcdlpfmlaakaaDoorPlW
import Derived.Test.YtfpcdlpfmlaakaaDoorBas
set_option linter.unusedVariables false
set_option linter.unusedSimpArgs false
namespace Go.Proofs.YtfpcdlpfmlaakaaDoor
open Go.RowKit Onair
theorem Tryd.infoU8r : (Tryd.prog.info? 5).map (fun i => (i.zero, i.size, i.bytes)) = some (some (.int .u8 0), 1, 1) := by kernel_rfl
theorem zigzag_any (x : Int) (w : World) (h0 : -4611686018427387903 ≤ x) (h1 : x ≤ 4611686018427387903) :
    Calls Tryd.prog 92 #[.int .i64 x] w fun e w' => e = .returned (.int .u64 (zig x : Int)) ∧ w = w' := by
  by_cases h : x < 0
  · have e : (zig x : Int) = -x * 2 - 1 := by unfold zig; rw [if_pos h]; omega
    rw [e]
    clear e
    go_enter Tryd.func92, Tryd.ntmps92
    go_wp2
    go_ret
    exact ⟨rfl, rfl⟩
  · have e : (zig x : Int) = x * 2 := by unfold zig; rw [if_neg h]; omega
    rw [e]
    clear e
    have h' : 0 ≤ x := by omega
    go_enter Tryd.func92, Tryd.ntmps92
    go_wp2
    go_ret
    exact ⟨rfl, rfl⟩
/-- The cells of a list of bytes. -/
theorem cellsB_snoc (l : List UInt8) (b : UInt8) : cellsB l ++ [.int .u8 (b.toNat : Int)] = cellsB (l ++ [b]) := by simp [cellsB]
theorem conv_owns {W : World} {base : Nat} {v : Value} {l : List UInt8} (hl : 0 < l.length) (h : W.ownsRow base 5 1 v l.length (cellsB l)) : (convert 79 9 v).run Tryd.prog W = .ok (.string ⟨l.toArray⟩) W := by
  obtain ⟨n, hn⟩ : ∃ n, l.length = n + 1 := ⟨l.length - 1, by omega⟩
  have h' := h
  rw [hn] at h'
  obtain ⟨g, cap, rfl⟩ := ownsRow_succ h'
  rw [← hn]
  exact run_convert_bytes_back (P := Tryd.prog) W 79 9 5 ⟨g, 0, none⟩ cap l Tryd.underlying79 Tryd.underlying5 Tryd.underlying9 (fun j hj => by
    rw [show ((⟨g, 0, none⟩ : Addr).add j) = ⟨g, j, none⟩ from by unfold Addr.add; split <;> simp_all]
    rw [hn] at h
    rw [← hn] at h
    rw [h.cellAt j (by omega)]
    simp [cellsB, List.getElem?_eq_getElem hj])
theorem ownsRow_ge {W : World} {base : Nat} {e : TypeId} {size : Nat} {v : Value} {n : Nat} {xs : List Value} {b : Nat} (h : W.ownsRow base e size v n xs) (hb : v.ownBlock = some b) : base ≤ b := by
  rcases h.2 with ⟨rfl, _⟩ | ⟨g, cap, _, rfl, hge, _⟩
  · simp [Value.ownBlock] at hb
  · simp [Value.ownBlock] at hb
    subst hb
    omega
set_option maxHeartbeats 1000000 in
set_option maxRecDepth 100000 in
theorem refPut_ok (x : Int) (w : World) (hx0 : -4611686018427387903 ≤ x) (hx1 : x ≤ 4611686018427387903) :
    Calls Tryd.prog 53 #[.int .i64 x] w fun e w' => e = .returned (.tuple #[.string ⟨(putL x).toArray⟩, .int .i64 0]) ∧ Below w.heap.size w w' := by
  have hok : okInt x = true := (okInt_iff x).2 ⟨hx0, hx1⟩
  have hz := zig_lt x hok
  have HP := Lib.hid (putL_eq x hok)
  clear hok
  obtain ⟨z, hzz⟩ : ∃ z, zig x = z := ⟨_, rfl⟩
  obtain ⟨i0, hi, hz0, hz1, hz2⟩ := info_parts Tryd.infoU8r
  have d1 : decide (x < -4611686018427387903) = false := by simp; omega
  have d2 : decide (4611686018427387903 < x) = false := by simp; omega
  go_enter Tryd.func53, Tryd.ntmps53
  go_wp2_with fail
  refine (zigzag_any x _ hx0 hx1).mono ?_
  rw [hzz] at hz HP ⊢
  clear hzz
  rintro e w' ⟨rfl, rfl⟩
  go_wp2_with fail
  go_loopw [4, 5] (fun zv v wr => ∃ (k zz : Nat) (L : List UInt8), zv = .int .u64 zz ∧ Hid (putL x = L ++ (gF k zz).map gb) ∧ L.length + k = 8 ∧ zz < 128 ^ (k + 1) ∧ zz < 9223372036854775808 ∧ Hid (wr.ownsRow w.heap.size 5 1 v L.length (cellsB L)) ∧ Hid (Below w.heap.size w wr)) (fun zv _ _ => (intOf zv).toNat)
  case atStart => exact ⟨8, z, [], rfl, by show putL x = _; rw [HP.out]; rfl, rfl, by rw [pow9]; exact hz, hz, World.ownsRow_nil _ _ _ _, Below.refl _ _⟩
  case round =>
    obtain ⟨k, zz, L, rfl, HL, hLk, hzk, hz9, HO, HB⟩ := hrel
    by_cases hlt : zz < 128
    · have hlt' : ¬ (128 : Int) ≤ (zz : Int) := by omega
      have hown := HO.out
      go_wp2_with (at_builtin; refine wpList_append_own _ rfl _ _ 79 rfl w.heap.size 5 i0 (.int .u8 0) 1 1 Tryd.underlying79 hi hz0 hz1 hz2 rfl (by decide) _ _ _ rfl (hown.alloc _) ⟨wr.heap.size, 0, none⟩ 1 1 [.int .u8 (zz : Int)] rfl rfl ?c1 ?c2 ?c3 ?c4 ?c5 ?_)
      case c2 => rfl
      case c3 => unfold maxLen; omega
      case c4 => omega
      case c5 => have := HB.out.size; omega
      intro v' w1 hown' hgrow _
      have hbz : ((UInt8.ofNat zz).toNat : Int) = (zz : Int) := by rw [toNat_ofNat (by omega)]
      rw [← hbz, cellsB_snoc] at hown'
      have hcv := conv_owns (l := L ++ [UInt8.ofNat zz]) (by simp) (by rw [List.length_append]; exact hown')
      have HB1 : Hid (Below w.heap.size w w1) := ((HB.out.alloc HB.out.size _)).grown hgrow (by have := HB.out.size; simp; omega) (fun b e => ownsRow_ge hown e)
      have HF : Hid (putL x = L ++ [UInt8.ofNat zz]) := by
        show _ = _
        rw [HL.out]
        congr 1
        cases k with
        | zero => show [gb _] = _; congr 1; apply UInt8.toNat_inj.1; rw [gb_last, Nat.mod_eq_of_lt hlt, toNat_ofNat (by omega)]
        | succ k => rw [gF, if_pos hlt]; show [gb _] = _; congr 1; apply UInt8.toNat_inj.1; rw [gb_last, Nat.mod_eq_of_lt hlt, toNat_ofNat (by omega)]
      clear hown hown' hgrow hbz
      go_wp2_with fail
      go_ret2
      rw [HF.out]
      exact ⟨rfl, HB1.out⟩
    · have hlt' : (128 : Int) ≤ (zz : Int) := by omega
      have hown := HO.out
      go_wp2_with (at_builtin; refine wpList_append_own _ rfl _ _ 79 rfl w.heap.size 5 i0 (.int .u8 0) 1 1 Tryd.underlying79 hi hz0 hz1 hz2 rfl (by decide) _ _ _ rfl (hown.alloc _) ⟨wr.heap.size, 0, none⟩ 1 1 [.int .u8 ((zz : Int) % 128 + 128)] rfl rfl ?d1 ?d2 ?d3 ?d4 ?d5 ?_)
      case d1 => exact cell_one_new _ _ _
      case d2 => intro u hu; simp at hu; subst hu; rfl
      case d3 => unfold maxLen; omega
      case d4 => omega
      case d5 => have := HB.out.size; simp; omega
      intro v' w1 hown' hgrow _
      have hbz : ((UInt8.ofNat (zz % 128 + 128)).toNat : Int) = (zz : Int) % 128 + 128 := by rw [toNat_ofNat (by omega)]; omega
      rw [← hbz, cellsB_snoc] at hown'
      have HO1 : Hid (w1.ownsRow w.heap.size 5 1 v' (L ++ [UInt8.ofNat (zz % 128 + 128)]).length (cellsB (L ++ [UInt8.ofNat (zz % 128 + 128)]))) := by rw [List.length_append]; exact hown'
      have HB1 : Hid (Below w.heap.size w w1) := ((HB.out.alloc HB.out.size _)).grown hgrow (by have := HB.out.size; simp; omega) (fun b e => ownsRow_ge hown e)
      clear hown hown' hgrow hbz
      go_wp2_with fail
      go_roundw
      case rel =>
        cases k with
        | zero => exact absurd hzk hlt
        | succ k =>
          refine ⟨k, zz / 128, _, by go_num, ?_, by simp; omega, by rw [Nat.pow_succ] at hzk; exact Nat.div_lt_of_lt_mul (by rw [Nat.mul_comm]; exact hzk), by omega, HO1, HB1⟩
          show putL x = _
          rw [HL.out, gF, if_neg hlt, List.map_cons, List.append_assoc]
          congr 1
      case measure => simp [intOf]; omega
set_option maxRecDepth 100000 in
theorem refPut_bad (x : Int) (w : World) (h : x < -4611686018427387903 ∨ 4611686018427387903 < x) :
    Calls Tryd.prog 53 #[.int .i64 x] w fun e w' => e = .returned (.tuple #[.string ⟨#[]⟩, .int .i64 10]) ∧ w = w' := by
  by_cases h0 : x < -4611686018427387903
  · clear h
    go_enter Tryd.func53, Tryd.ntmps53
    go_wp2
    go_ret2
    exact ⟨rfl, rfl⟩
  · have h1 : 4611686018427387903 < x := by omega
    clear h
    go_enter Tryd.func53, Tryd.ntmps53
    go_wp2
    go_ret2
    exact ⟨rfl, rfl⟩
theorem refPut_any (x : Int) (w : World) :
    Calls Tryd.prog 53 #[.int .i64 x] w fun e w' => e = .returned (.tuple #[.string ⟨(putL x).toArray⟩, .int .i64 (putE x)]) ∧ Below w.heap.size w w' := by
  by_cases hok : -4611686018427387903 ≤ x ∧ x ≤ 4611686018427387903
  · rw [show putE x = 0 from by unfold putE; rw [if_pos ((okInt_iff x).2 hok)]]
    exact refPut_ok x w hok.1 hok.2
  · have hok' : okInt x = false := by rw [Bool.eq_false_iff]; intro h; exact hok ((okInt_iff x).1 h)
    rw [show putE x = 10 from by unfold putE; rw [hok']; rfl, show putL x = [] from by unfold putL; rw [hok']; rfl]
    exact (refPut_bad x w (by omega)).mono fun e w' ⟨he, hw⟩ => ⟨he, hw ▸ Below.refl _ _⟩
end Go.Proofs.YtfpcdlpfmlaakaaDoor
