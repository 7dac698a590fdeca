/-
  The walks of the reference implementation of package wire: zigzag, PutInt.
  The walks of the reference implementation of package wire: Int, String, Sum.
  The walks of the reference implementation of package wire: String, Sum.
-/
import Derived.WalkKit
import Derived.LoopTactic
import Derived.OwnWalk
import Derived.WalkSpells
import Derived.WalkLawsBesides
import Derived.Laws.BitsAllLaws
import Derived.Laws.OwnMore
import Derived.Laws.IdiomStrings
import Derived.Maps.AppendAt
import Derived.RangeFuncBox
import Derived.Lib.Hide
import Derived.IntWalk
import Derived.Test.YtjkiidhnmljmbaaGreatDoorWaA
import Derived.Test.YtjkiidhnmljmbaaGreatDoorPlW
import Derived.Test.YtjkiidhnmljmbaaGreatDoorBas
set_option linter.unusedVariables false
set_option linter.unusedSimpArgs false
namespace Go.Proofs.YtjkiidhnmljmbaaGreatDoor
open Go.RowKit Onair
theorem Tryz.infoU8r : (Tryz.prog.info? 5).map (fun i => (i.zero, i.size, i.bytes)) = some (some (.int .u8 0), 1, 1) := by kernel_rfl
theorem zigzag_any (x : Int) (w : World) (h0 : -4611686018427387903 ≤ x) (h1 : x ≤ 4611686018427387903) :
    Calls Tryz.prog 97 #[.int .i64 x] w fun e w' => e = .returned (.int .u64 (zig x : Int)) ∧ w = w' := by
  by_cases h : x < 0
  · have e : (zig x : Int) = -x * 2 - 1 := by unfold zig; rw [if_pos h]; omega
    rw [e]
    clear e
    go_enter Tryz.func97, Tryz.ntmps97
    go_wp2
    go_ret
    exact ⟨rfl, rfl⟩
  · have e : (zig x : Int) = x * 2 := by unfold zig; rw [if_neg h]; omega
    rw [e]
    clear e
    have h' : 0 ≤ x := by omega
    go_enter Tryz.func97, Tryz.ntmps97
    go_wp2
    go_ret
    exact ⟨rfl, rfl⟩
/-- The cells of a list of bytes. -/
theorem cellsB_snoc (l : List UInt8) (b : UInt8) : cellsB l ++ [.int .u8 (b.toNat : Int)] = cellsB (l ++ [b]) := by simp [cellsB]
theorem conv_owns {W : World} {base : Nat} {v : Value} {l : List UInt8} (hl : 0 < l.length) (h : W.ownsRow base 5 1 v l.length (cellsB l)) : (convert 75 9 v).run Tryz.prog W = .ok (.string ⟨l.toArray⟩) W := by
  obtain ⟨n, hn⟩ : ∃ n, l.length = n + 1 := ⟨l.length - 1, by omega⟩
  have h' := h
  rw [hn] at h'
  obtain ⟨g, cap, rfl⟩ := ownsRow_succ h'
  rw [← hn]
  exact run_convert_bytes_back (P := Tryz.prog) W 75 9 5 ⟨g, 0, none⟩ cap l Tryz.underlying75 Tryz.underlying5 Tryz.underlying9 (fun j hj => by
    rw [show ((⟨g, 0, none⟩ : Addr).add j) = ⟨g, j, none⟩ from by unfold Addr.add; split <;> simp_all]
    rw [hn] at h
    rw [← hn] at h
    rw [h.cellAt j (by omega)]
    simp [cellsB, List.getElem?_eq_getElem hj])
theorem ownsRow_ge {W : World} {base : Nat} {e : TypeId} {size : Nat} {v : Value} {n : Nat} {xs : List Value} {b : Nat} (h : W.ownsRow base e size v n xs) (hb : v.ownBlock = some b) : base ≤ b := by
  rcases h.2 with ⟨rfl, _⟩ | ⟨g, cap, _, rfl, hge, _⟩
  · simp [Value.ownBlock] at hb
  · simp [Value.ownBlock] at hb
    subst hb
    omega
set_option maxHeartbeats 1000000 in
set_option maxRecDepth 100000 in
theorem refPut_ok (x : Int) (w : World) (hx0 : -4611686018427387903 ≤ x) (hx1 : x ≤ 4611686018427387903) :
    Calls Tryz.prog 70 #[.int .i64 x] w fun e w' => e = .returned (.tuple #[.string ⟨(putL x).toArray⟩, .int .i64 0]) ∧ Below w.heap.size w w' := by
  have hok : okInt x = true := (okInt_iff x).2 ⟨hx0, hx1⟩
  have hz := zig_lt x hok
  have HP := Lib.hid (putL_eq x hok)
  clear hok
  obtain ⟨z, hzz⟩ : ∃ z, zig x = z := ⟨_, rfl⟩
  obtain ⟨i0, hi, hz0, hz1, hz2⟩ := info_parts Tryz.infoU8r
  have d1 : decide (x < -4611686018427387903) = false := by simp; omega
  have d2 : decide (4611686018427387903 < x) = false := by simp; omega
  go_enter Tryz.func70, Tryz.ntmps70
  go_wp2_with fail
  refine (zigzag_any x _ hx0 hx1).mono ?_
  rw [hzz] at hz HP ⊢
  clear hzz
  rintro e w' ⟨rfl, rfl⟩
  go_wp2_with fail
  go_loopw [4, 5] (fun zv v wr => ∃ (k zz : Nat) (L : List UInt8), zv = .int .u64 zz ∧ Hid (putL x = L ++ (gF k zz).map gb) ∧ L.length + k = 8 ∧ zz < 128 ^ (k + 1) ∧ zz < 9223372036854775808 ∧ Hid (wr.ownsRow w.heap.size 5 1 v L.length (cellsB L)) ∧ Hid (Below w.heap.size w wr)) (fun zv _ _ => (intOf zv).toNat)
  case atStart => exact ⟨8, z, [], rfl, by show putL x = _; rw [HP.out]; rfl, rfl, by rw [pow9]; exact hz, hz, World.ownsRow_nil _ _ _ _, Below.refl _ _⟩
  case round =>
    obtain ⟨k, zz, L, rfl, HL, hLk, hzk, hz9, HO, HB⟩ := hrel
    by_cases hlt : zz < 128
    · have hlt' : ¬ (128 : Int) ≤ (zz : Int) := by omega
      have hown := HO.out
      go_wp2_with (at_builtin; refine wpList_append_own _ rfl _ _ 75 rfl w.heap.size 5 i0 (.int .u8 0) 1 1 Tryz.underlying75 hi hz0 hz1 hz2 rfl (by decide) _ _ _ rfl (hown.alloc _) ⟨wr.heap.size, 0, none⟩ 1 1 [.int .u8 (zz : Int)] rfl rfl ?c1 ?c2 ?c3 ?c4 ?c5 ?_)
      case c2 => rfl
      case c3 => unfold maxLen; omega
      case c4 => omega
      case c5 => have := HB.out.size; omega
      intro v' w1 hown' hgrow _
      have hbz : ((UInt8.ofNat zz).toNat : Int) = (zz : Int) := by rw [toNat_ofNat (by omega)]
      rw [← hbz, cellsB_snoc] at hown'
      have hcv := conv_owns (l := L ++ [UInt8.ofNat zz]) (by simp) (by rw [List.length_append]; exact hown')
      have HB1 : Hid (Below w.heap.size w w1) := ((HB.out.alloc HB.out.size _)).grown hgrow (by have := HB.out.size; simp; omega) (fun b e => ownsRow_ge hown e)
      have HF : Hid (putL x = L ++ [UInt8.ofNat zz]) := by
        show _ = _
        rw [HL.out]
        congr 1
        cases k with
        | zero => show [gb _] = _; congr 1; apply UInt8.toNat_inj.1; rw [gb_last, Nat.mod_eq_of_lt hlt, toNat_ofNat (by omega)]
        | succ k => rw [gF, if_pos hlt]; show [gb _] = _; congr 1; apply UInt8.toNat_inj.1; rw [gb_last, Nat.mod_eq_of_lt hlt, toNat_ofNat (by omega)]
      clear hown hown' hgrow hbz
      go_wp2_with fail
      go_ret2
      rw [HF.out]
      exact ⟨rfl, HB1.out⟩
    · have hlt' : (128 : Int) ≤ (zz : Int) := by omega
      have hown := HO.out
      go_wp2_with (at_builtin; refine wpList_append_own _ rfl _ _ 75 rfl w.heap.size 5 i0 (.int .u8 0) 1 1 Tryz.underlying75 hi hz0 hz1 hz2 rfl (by decide) _ _ _ rfl (hown.alloc _) ⟨wr.heap.size, 0, none⟩ 1 1 [.int .u8 ((zz : Int) % 128 + 128)] rfl rfl ?d1 ?d2 ?d3 ?d4 ?d5 ?_)
      case d1 => exact cell_one_new _ _ _
      case d2 => intro u hu; simp at hu; subst hu; rfl
      case d3 => unfold maxLen; omega
      case d4 => omega
      case d5 => have := HB.out.size; simp; omega
      intro v' w1 hown' hgrow _
      have hbz : ((UInt8.ofNat (zz % 128 + 128)).toNat : Int) = (zz : Int) % 128 + 128 := by rw [toNat_ofNat (by omega)]; omega
      rw [← hbz, cellsB_snoc] at hown'
      have HO1 : Hid (w1.ownsRow w.heap.size 5 1 v' (L ++ [UInt8.ofNat (zz % 128 + 128)]).length (cellsB (L ++ [UInt8.ofNat (zz % 128 + 128)]))) := by rw [List.length_append]; exact hown'
      have HB1 : Hid (Below w.heap.size w w1) := ((HB.out.alloc HB.out.size _)).grown hgrow (by have := HB.out.size; simp; omega) (fun b e => ownsRow_ge hown e)
      clear hown hown' hgrow hbz
      go_wp2_with fail
      go_roundw
      case rel =>
        cases k with
        | zero => exact absurd hzk hlt
        | succ k =>
          refine ⟨k, zz / 128, _, by go_num, ?_, by simp; omega, by rw [Nat.pow_succ] at hzk; exact Nat.div_lt_of_lt_mul (by rw [Nat.mul_comm]; exact hzk), by omega, HO1, HB1⟩
          show putL x = _
          rw [HL.out, gF, if_neg hlt, List.map_cons, List.append_assoc]
          congr 1
      case measure => simp [intOf]; omega
set_option maxRecDepth 100000 in
theorem refPut_bad (x : Int) (w : World) (h : x < -4611686018427387903 ∨ 4611686018427387903 < x) :
    Calls Tryz.prog 70 #[.int .i64 x] w fun e w' => e = .returned (.tuple #[.string ⟨#[]⟩, .int .i64 10]) ∧ w = w' := by
  by_cases h0 : x < -4611686018427387903
  · clear h
    go_enter Tryz.func70, Tryz.ntmps70
    go_wp2
    go_ret2
    exact ⟨rfl, rfl⟩
  · have h1 : 4611686018427387903 < x := by omega
    clear h
    go_enter Tryz.func70, Tryz.ntmps70
    go_wp2
    go_ret2
    exact ⟨rfl, rfl⟩
theorem refPut_any (x : Int) (w : World) :
    Calls Tryz.prog 70 #[.int .i64 x] w fun e w' => e = .returned (.tuple #[.string ⟨(putL x).toArray⟩, .int .i64 (putE x)]) ∧ Below w.heap.size w w' := by
  by_cases hok : -4611686018427387903 ≤ x ∧ x ≤ 4611686018427387903
  · rw [show putE x = 0 from by unfold putE; rw [if_pos ((okInt_iff x).2 hok)]]
    exact refPut_ok x w hok.1 hok.2
  · have hok' : okInt x = false := by rw [Bool.eq_false_iff]; intro h; exact hok ((okInt_iff x).1 h)
    rw [show putE x = 10 from by unfold putE; rw [hok']; rfl, show putL x = [] from by unfold putL; rw [hok']; rfl]
    exact (refPut_bad x w (by omega)).mono fun e w' ⟨he, hw⟩ => ⟨he, hw ▸ Below.refl _ _⟩
set_option maxRecDepth 100000 in
theorem refPutString_any (s : ByteArray) (w : World) (hs : s.size ≤ maxLen) :
    Calls Tryz.prog 37 #[.string s] w fun e w' => e = .returned (.tuple #[.string ⟨(putSL s.data.toList).toArray⟩, .int .i64 (putSE s.data.toList)]) ∧ Below w.heap.size w w' := by
  unfold maxLen at hs
  have hl := len_data s
  by_cases h : 65536 < s.size
  · have e1 : putSL s.data.toList = [] := by unfold putSL; rw [hl, if_pos h]
    have e2 : putSE s.data.toList = 10 := by unfold putSE; rw [hl, if_pos h]
    rw [e1, e2]
    clear e1 e2 hl
    go_enter Tryz.func37, Tryz.ntmps37
    go_wp2
    go_ret2
    exact ⟨rfl, Below.refl _ _⟩
  · have e1 : putSL s.data.toList = putL (s.size : Int) ++ s.data.toList := by unfold putSL; rw [hl, if_neg h]
    have e2 : putSE s.data.toList = 0 := by unfold putSE; rw [hl, if_neg h]
    have hpl := putL_len (s.size : Int)
    rw [e1, e2]
    clear e1 e2 hl
    go_enter Tryz.func37, Tryz.ntmps37
    go_wp2_with (go_at_call 70; refine (refPut_any _ _).mono ?_; rintro e w' ⟨rfl, hb⟩)
    go_ret2
    exact ⟨by rw [append_list]; rfl, hb⟩
end Go.Proofs.YtjkiidhnmljmbaaGreatDoor
namespace Go.Proofs.YtjkiidhnmljmbaaGreatDoor
open Go.RowKit Onair
theorem shl_bits (k b c : Nat) (hk : k < 9) (hb : b < 128) (hc : b * 128 ^ k = c) : IntKind.u64.wrap ((b : Int) * 2 ^ (7 * k)) = (c : Int) := by
  have hp := pow_bound (b := b) hk (show 0 < 128 ^ k from Nat.pow_pos (by decide))
  rw [Nat.mod_eq_of_lt hb] at hp
  have e : (128 : Nat) ^ k = 2 ^ (7 * k) := by rw [Nat.pow_mul]
  have w2 : ((b : Int) * 2 ^ (7 * k)) = ((b * 2 ^ (7 * k) : Nat) : Int) := by simp
  rw [w2, ← e, hc, IntWalk.u64_in _ (by omega)]
/-- What the reference accepts at the end of an integer is what the program accepts. -/
theorem ref_accepts {l : List UInt8} {n : Int} {j : Nat} {D : Option (Int × Nat)} (hD : decI 9 0 0 l = D) (hj : j ≤ l.length) (h : D = none ∨ D = some (n, j)) :
    (decI 9 0 0 l = some (n, j) ∧ putE n = 0 ∧ putL n = l.take j) ∨ (decI 9 0 0 l = none ∧ (putE n ≠ 0 ∨ (putE n = 0 ∧ putL n ≠ l.take j))) := by
  rcases h with h | h
  · right
    refine ⟨hD.trans h, ?_⟩
    by_cases he : putE n = 0
    · refine .inr ⟨he, fun hp => ?_⟩
      have ok : okInt n = true := by
        unfold putE at he
        cases h' : okInt n with
        | true => rfl
        | false => rw [h'] at he; cases he
      have := dec_put n ok (l.drop j)
      rw [hp, List.take_append_drop, hD, h] at this
      cases this
    · exact .inl he
  · left
    rw [h] at hD
    obtain ⟨g1, g2, g3⟩ := dec_back l n j hD
    exact ⟨hD, by unfold putE; rw [g1]; rfl, g2.symm⟩
set_option maxHeartbeats 1000000 in
set_option maxRecDepth 100000 in
theorem refInt_at (s : ByteArray) (a : Nat) (w : World) (hs : s.size ≤ maxLen) (ha : a ≤ s.size) :
    Calls Tryz.prog 79 #[.string s, .int .i64 a] w fun e w' => e = .returned (.tuple #[.int .i64 (intR s.data.toList a).1, .int .i64 (intR s.data.toList a).2.1, .int .i64 (intR s.data.toList a).2.2]) ∧ Below w.heap.size w w' := by
  unfold maxLen at hs
  have hal : a ≤ s.data.toList.length := by rw [len_data]; exact ha
  have hd1 : decide ((a : Int) < 0) = false := by simp
  have hd2 : decide (s.size < a) = false := by simp; omega
  go_enter Tryz.func79, Tryz.ntmps79
  go_wp2
  go_loop [7, 8] (fun z i => ∃ k zz : Nat, k ≤ 9 ∧ a + k ≤ s.size ∧ i = .int .i64 k ∧ z = .int .u64 zz ∧ zz < 128 ^ k ∧ Hid (decI (9 - k) k zz (s.data.toList.drop (a + k)) = decI 9 0 0 (s.data.toList.drop a))) (fun _ i => 9 - (intOf i).toNat)
  case atStart => exact ⟨0, 0, by omega, by omega, rfl, rfl, by omega, Lib.hid rfl⟩
  case round =>
    obtain ⟨k, zz, hk, hak, rfl, rfl, hz, HD⟩ := hrel
    by_cases h9 : k = 9
    · subst h9
      go_wp2
      go_ret3
      rw [intR_none hal (by rw [← HD.out]; rfl)]
      exact ⟨rfl, Below.refl _ _⟩
    · by_cases he : a + k = s.size
      · have he' : ¬ ((a : Int) + k < s.size) := by omega
        have hk9 : (k : Int) < 9 := by omega
        have HN : Hid (intR s.data.toList a = (0, 0, 10)) := intR_none hal (by rw [← HD.out, he, List.drop_of_length_le (by simp), show 9 - k = (8 - k) + 1 from by omega, decI])
        clear he
        go_wp2
        go_ret3
        rw [HN.out]
        exact ⟨rfl, Below.refl _ _⟩
      · have he' : ((a : Int) + k < s.size) := by omega
        have hk9 : (k : Int) < 9 := by omega
        have hk9' : k < 9 := by omega
        have hlt : a + k < s.size := by omega
        obtain ⟨zn, hzn⟩ : ∃ zn, zz + s[a + k].toNat % 128 * 128 ^ k = zn := ⟨_, rfl⟩
        have hb := s[a + k].toNat_lt
        have hp := pow_bound (b := s[a + k].toNat) hk9' hz
        rw [hzn] at hp
        obtain ⟨hp1, hp2⟩ := hp
        obtain ⟨bm, hbm⟩ : ∃ bm : Nat, (s[a + k].toNat : Int) % 128 = (bm : Int) ∧ s[a + k].toNat % 128 = bm := ⟨s[a + k].toNat % 128, by omega, rfl⟩
        obtain ⟨hbm1, hbm2⟩ := hbm
        obtain ⟨c, hc⟩ : ∃ c, bm * 128 ^ k = c := ⟨_, rfl⟩
        have hsh : IntKind.u64.wrap ((s[a + k].toNat : Int) % 128 * 2 ^ (7 * k)) = (c : Int) := by rw [hbm1]; exact shl_bits k bm c hk9' (by omega) hc
        have hsum : (zz : Int) + c = (zn : Int) := by rw [← hzn, hbm2, hc]; simp
        have hd2' := decI_step k zz hk9' s[a + k] (s.data.toList.drop (a + k + 1)) zn hzn
        rw [← drop_cons s (a + k) hlt, HD.out] at hd2'
        have HD2 := Lib.hid hd2'
        have hrule : IntKind.u64.wrap ((zz : Int) + IntKind.u64.wrap ((s[a + k].toNat : Int) % 128 * 2 ^ (7 * k))) = (zn : Int) := by rw [hsh, hsum, IntWalk.u64_in _ (by omega)]
        clear hd2' hzn HD hz hbm2 hc hbm1 hsh hsum
        by_cases hb1 : 128 ≤ s[a + k].toNat
        · go_wp2
          go_round
          case rel => exact ⟨k + 1, zn, by omega, by omega, by go_num, rfl, hp1, by have := HD2.out; rw [if_pos hb1] at this; exact this.symm⟩
          case measure => simp [intOf]; omega
        · have hj : k + 1 ≤ (s.data.toList.drop a).length := by rw [List.length_drop, len_data]; omega
          have hacc := ref_accepts (n := unzig zn) (j := k + 1) HD2.out hj (by
            rw [if_neg hb1]
            split
            · exact .inl rfl
            · split
              · exact .inl rfl
              · exact .inr rfl)
          have hun : -9223372036854775808 ≤ unzig zn ∧ unzig zn ≤ 9223372036854775807 := by unfold unzig; split <;> omega
          have hext : (s.extract a (a + k + 1)).toList = (s.data.toList.drop a).take (k + 1) := by rw [Nat.add_assoc, extract_list, ByteArray.toList_eq]
          rcases Nat.mod_two_eq_zero_or_one zn with h | h
          · have hn : (zn : Int) / 2 = unzig zn := by rw [unzig_even h]; omega
            go_wp2_with fail
            refine (refPut_any _ _).mono ?_
            obtain ⟨n, hn2⟩ : ∃ n, unzig zn = n := ⟨_, rfl⟩
            rw [hn2] at hacc ⊢
            obtain ⟨pe, hpe⟩ : ∃ pe, putE n = pe := ⟨_, rfl⟩
            obtain ⟨A, hA⟩ : ∃ A : ByteArray, ByteArray.mk (putL n).toArray = A := ⟨_, rfl⟩
            have hAl : putL n = A.toList := by rw [← hA, ByteArray.toList_eq]
            rw [hA, hpe]
            rw [hpe, hAl, ← hext] at hacc
            clear hpe hA hAl hext hn hn2
            rintro e w2 ⟨rfl, hb2⟩
            rcases hacc with ⟨hD, rfl, hp⟩ | ⟨hD, hp | ⟨rfl, hp⟩⟩
            · have HN : Hid (intR s.data.toList a = (n, (a : Int) + ((k + 1 : Nat) : Int), 0)) := intR_some hal hD
              have q1 : (A.toList == (s.extract a (a + k + 1)).toList) = true := by rw [hp]; simp
              have q2 : (A.toList != (s.extract a (a + k + 1)).toList) = false := by rw [hp]; simp
              clear hD hp
              go_wp2_with fail
              go_ret3
              rw [HN.out]
              exact ⟨ret3_int rfl (by simp; omega) rfl, hb2⟩
            · have HN : Hid (intR s.data.toList a = (0, 0, 10)) := intR_none hal hD
              have q1 : (pe == 0) = false := by rw [beq_eq_false_iff_ne]; exact hp
              have q2 : (pe != 0) = true := by rw [bne_iff_ne]; exact hp
              clear hD hp
              go_wp2_with fail
              go_ret3
              rw [HN.out]
              exact ⟨rfl, hb2⟩
            · have HN : Hid (intR s.data.toList a = (0, 0, 10)) := intR_none hal hD
              have q1 : (A.toList == (s.extract a (a + k + 1)).toList) = false := by rw [beq_eq_false_iff_ne]; exact hp
              have q2 : (A.toList != (s.extract a (a + k + 1)).toList) = true := by rw [bne_iff_ne]; exact hp
              clear hD hp
              go_wp2_with fail
              go_ret3
              rw [HN.out]
              exact ⟨rfl, hb2⟩
          · have hn : -((zn : Int) / 2) - 1 = unzig zn := by rw [unzig_odd h]; omega
            go_wp2_with fail
            refine (refPut_any _ _).mono ?_
            obtain ⟨n, hn2⟩ : ∃ n, unzig zn = n := ⟨_, rfl⟩
            rw [hn2] at hacc ⊢
            obtain ⟨pe, hpe⟩ : ∃ pe, putE n = pe := ⟨_, rfl⟩
            obtain ⟨A, hA⟩ : ∃ A : ByteArray, ByteArray.mk (putL n).toArray = A := ⟨_, rfl⟩
            have hAl : putL n = A.toList := by rw [← hA, ByteArray.toList_eq]
            rw [hA, hpe]
            rw [hpe, hAl, ← hext] at hacc
            clear hpe hA hAl hext hn hn2
            rintro e w2 ⟨rfl, hb2⟩
            rcases hacc with ⟨hD, rfl, hp⟩ | ⟨hD, hp | ⟨rfl, hp⟩⟩
            · have HN : Hid (intR s.data.toList a = (n, (a : Int) + ((k + 1 : Nat) : Int), 0)) := intR_some hal hD
              have q1 : (A.toList == (s.extract a (a + k + 1)).toList) = true := by rw [hp]; simp
              have q2 : (A.toList != (s.extract a (a + k + 1)).toList) = false := by rw [hp]; simp
              clear hD hp
              go_wp2_with fail
              go_ret3
              rw [HN.out]
              exact ⟨ret3_int rfl (by simp; omega) rfl, hb2⟩
            · have HN : Hid (intR s.data.toList a = (0, 0, 10)) := intR_none hal hD
              have q1 : (pe == 0) = false := by rw [beq_eq_false_iff_ne]; exact hp
              have q2 : (pe != 0) = true := by rw [bne_iff_ne]; exact hp
              clear hD hp
              go_wp2_with fail
              go_ret3
              rw [HN.out]
              exact ⟨rfl, hb2⟩
            · have HN : Hid (intR s.data.toList a = (0, 0, 10)) := intR_none hal hD
              have q1 : (A.toList == (s.extract a (a + k + 1)).toList) = false := by rw [beq_eq_false_iff_ne]; exact hp
              have q2 : (A.toList != (s.extract a (a + k + 1)).toList) = true := by rw [bne_iff_ne]; exact hp
              clear hD hp
              go_wp2_with fail
              go_ret3
              rw [HN.out]
              exact ⟨rfl, hb2⟩
set_option maxRecDepth 100000 in
theorem refInt_arg (s : ByteArray) (a : Int) (w : World) (hs : s.size ≤ maxLen) (ha : a < 0 ∨ (s.size : Int) < a) :
    Calls Tryz.prog 79 #[.string s, .int .i64 a] w fun e w' => e = .returned (.tuple #[.int .i64 0, .int .i64 0, .int .i64 2]) ∧ w = w' := by
  unfold maxLen at hs
  by_cases h0 : a < 0
  · clear ha
    go_enter Tryz.func79, Tryz.ntmps79
    go_wp2
    go_ret3
    exact ⟨rfl, rfl⟩
  · have h1 : (s.size : Int) < a := by omega
    clear ha
    go_enter Tryz.func79, Tryz.ntmps79
    go_wp2
    go_ret3
    exact ⟨rfl, rfl⟩
theorem refInt_any (s : ByteArray) (a : Int) (w : World) (hs : s.size ≤ maxLen) :
    Calls Tryz.prog 79 #[.string s, .int .i64 a] w fun e w' => e = .returned (.tuple #[.int .i64 (intR s.data.toList a).1, .int .i64 (intR s.data.toList a).2.1, .int .i64 (intR s.data.toList a).2.2]) ∧ Below w.heap.size w w' := by
  by_cases h : a < 0 ∨ (s.size : Int) < a
  · rw [intR_arg (by rw [len_data]; exact h)]
    exact (refInt_arg s a w hs h).mono fun e w' ⟨he, hw⟩ => ⟨he, hw ▸ Below.refl _ _⟩
  · obtain ⟨n, rfl⟩ : ∃ n : Nat, a = n := ⟨a.toNat, by omega⟩
    exact refInt_at s n w hs (by omega)
end Go.Proofs.YtjkiidhnmljmbaaGreatDoor
namespace Go.Proofs.YtjkiidhnmljmbaaGreatDoor
open Go.RowKit Onair
set_option maxRecDepth 100000 in
theorem refString_any (s : ByteArray) (a : Int) (w : World) (hs : s.size ≤ maxLen) :
    Calls Tryz.prog 45 #[.string s, .int .i64 a] w fun e w' => e = .returned (.tuple #[.string ⟨(strR s.data.toList a).1.toArray⟩, .int .i64 (strR s.data.toList a).2.1, .int .i64 (strR s.data.toList a).2.2]) ∧ Below w.heap.size w w' := by
  have hs' := hs
  unfold maxLen at hs
  have hl := len_data s
  obtain ⟨n, x, e, hr⟩ : ∃ n x e, intR s.data.toList a = (n, x, e) := ⟨_, _, _, rfl⟩
  have hok : e = 0 → 0 ≤ a ∧ a < x ∧ x ≤ s.size ∧ -4611686018427387903 ≤ n ∧ n ≤ 4611686018427387903 := by
    have := intR_ok (l := s.data.toList) (a := a); rw [hr, hl] at this; exact this
  by_cases he : e = 0
  · subst he
    obtain ⟨h0, h1, h2, h3, h4⟩ := hok rfl
    by_cases hb : n < 0 ∨ 65536 < n ∨ (s.size : Int) - x < n
    · have e1 := strR_bad (l := s.data.toList) (a := a) (by rw [hr]) (by rw [hr, hl]; exact hb)
      rw [e1]
      clear e1 hl hok
      have HR := Lib.hid hr
      clear hr
      by_cases hb1 : n < 0
      · clear hb
        go_enter Tryz.func45, Tryz.ntmps45
        go_wp2_with (go_at_call 79; refine (refInt_any _ _ _ hs').mono ?_; rw [HR.out]; rintro e w' ⟨rfl, hb9⟩)
        go_ret3
        exact ⟨rfl, hb9⟩
      · by_cases hb2 : 65536 < n
        · clear hb
          go_enter Tryz.func45, Tryz.ntmps45
          go_wp2_with (go_at_call 79; refine (refInt_any _ _ _ hs').mono ?_; rw [HR.out]; rintro e w' ⟨rfl, hb9⟩)
          go_ret3
          exact ⟨rfl, hb9⟩
        · have hb3 : (s.size : Int) - x < n := by omega
          clear hb
          go_enter Tryz.func45, Tryz.ntmps45
          go_wp2_with (go_at_call 79; refine (refInt_any _ _ _ hs').mono ?_; rw [HR.out]; rintro e w' ⟨rfl, hb9⟩)
          go_ret3
          exact ⟨rfl, hb9⟩
    · have e1 := strR_good (l := s.data.toList) (a := a) (by rw [hr]) (by rw [hr, hl]; exact hb)
      rw [hr] at e1
      obtain ⟨nn, rfl⟩ : ∃ m : Nat, n = m := ⟨n.toNat, by omega⟩
      obtain ⟨xx, rfl⟩ : ∃ m : Nat, x = m := ⟨x.toNat, by omega⟩
      have hb1 : (nn : Int) ≤ 65536 := by omega
      have hb2 : (nn : Int) ≤ (s.size : Int) - xx := by omega
      have hb3 : (xx : Int) + nn ≤ (s.size : Int) := by omega
      simp only [Int.toNat_natCast] at e1
      rw [e1]
      clear e1 hl hok hb
      have HR := Lib.hid hr
      clear hr
      go_enter Tryz.func45, Tryz.ntmps45
      go_wp2_with (go_at_call 79; refine (refInt_any _ _ _ hs').mono ?_; rw [HR.out]; rintro e w' ⟨rfl, hb9⟩)
      go_ret3
      exact ⟨by rw [extract_list]; rfl, hb9⟩
  · rw [strR_err (by rw [hr]; exact he), hr]
    clear hok hl
    have HR := Lib.hid hr
    clear hr
    go_enter Tryz.func45, Tryz.ntmps45
    go_wp2_with (go_at_call 79; refine (refInt_any _ _ _ hs').mono ?_; rw [HR.out]; rintro e w' ⟨rfl, hb9⟩)
    go_ret3
    exact ⟨rfl, hb9⟩
end Go.Proofs.YtjkiidhnmljmbaaGreatDoor
