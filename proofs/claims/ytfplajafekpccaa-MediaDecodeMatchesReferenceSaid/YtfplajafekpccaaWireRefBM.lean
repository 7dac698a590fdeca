/-
  The walks of the reference implementation of package wire: Int, String, Sum.
-/
import Derived.WalkKit
import Derived.LoopTactic
import Derived.OwnWalk
import Derived.WalkSpells
import Derived.WalkLawsBesides
import Derived.Laws.BitsAllLaws
import Derived.Lib.Hide
import Derived.IntWalk
import Derived.Test.YtfplajafekpccaaWireRefM
set_option linter.unusedVariables false
set_option linter.unusedSimpArgs false
namespace Go.Proofs.Ytfplajafekpccaa
open Go.RowKit Onair
theorem shl_bits (k b c : Nat) (hk : k < 9) (hb : b < 128) (hc : b * 128 ^ k = c) : IntKind.u64.wrap ((b : Int) * 2 ^ (7 * k)) = (c : Int) := by
  have hp := pow_bound (b := b) hk (show 0 < 128 ^ k from Nat.pow_pos (by decide))
  rw [Nat.mod_eq_of_lt hb] at hp
  have e : (128 : Nat) ^ k = 2 ^ (7 * k) := by rw [Nat.pow_mul]
  have w2 : ((b : Int) * 2 ^ (7 * k)) = ((b * 2 ^ (7 * k) : Nat) : Int) := by simp
  rw [w2, ← e, hc, IntWalk.u64_in _ (by omega)]
/-- What the reference accepts at the end of an integer is what the program accepts. -/
theorem ref_accepts {l : List UInt8} {n : Int} {j : Nat} {D : Option (Int × Nat)} (hD : decI 9 0 0 l = D) (hj : j ≤ l.length) (h : D = none ∨ D = some (n, j)) :
    (decI 9 0 0 l = some (n, j) ∧ putE n = 0 ∧ putL n = l.take j) ∨ (decI 9 0 0 l = none ∧ (putE n ≠ 0 ∨ (putE n = 0 ∧ putL n ≠ l.take j))) := by
  rcases h with h | h
  · right
    refine ⟨hD.trans h, ?_⟩
    by_cases he : putE n = 0
    · refine .inr ⟨he, fun hp => ?_⟩
      have ok : okInt n = true := by
        unfold putE at he
        cases h' : okInt n with
        | true => rfl
        | false => rw [h'] at he; cases he
      have := dec_put n ok (l.drop j)
      rw [hp, List.take_append_drop, hD, h] at this
      cases this
    · exact .inl he
  · left
    rw [h] at hD
    obtain ⟨g1, g2, g3⟩ := dec_back l n j hD
    exact ⟨hD, by unfold putE; rw [g1]; rfl, g2.symm⟩
set_option maxHeartbeats 1000000 in
set_option maxRecDepth 100000 in
theorem refInt_at (s : ByteArray) (a : Nat) (w : World) (hs : s.size ≤ maxLen) (ha : a ≤ s.size) :
    Calls Try.prog 50 #[.string s, .int .i64 a] w fun e w' => e = .returned (.tuple #[.int .i64 (intR s.data.toList a).1, .int .i64 (intR s.data.toList a).2.1, .int .i64 (intR s.data.toList a).2.2]) ∧ Below w.heap.size w w' := by
  unfold maxLen at hs
  have hal : a ≤ s.data.toList.length := by rw [len_data]; exact ha
  have hd1 : decide ((a : Int) < 0) = false := by simp
  have hd2 : decide (s.size < a) = false := by simp; omega
  go_enter Try.func50, Try.ntmps50
  go_wp2
  go_loop [7, 8] (fun z i => ∃ k zz : Nat, k ≤ 9 ∧ a + k ≤ s.size ∧ i = .int .i64 k ∧ z = .int .u64 zz ∧ zz < 128 ^ k ∧ Hid (decI (9 - k) k zz (s.data.toList.drop (a + k)) = decI 9 0 0 (s.data.toList.drop a))) (fun _ i => 9 - (intOf i).toNat)
  case atStart => exact ⟨0, 0, by omega, by omega, rfl, rfl, by omega, Lib.hid rfl⟩
  case round =>
    obtain ⟨k, zz, hk, hak, rfl, rfl, hz, HD⟩ := hrel
    by_cases h9 : k = 9
    · subst h9
      go_wp2
      go_ret3
      rw [intR_none hal (by rw [← HD.out]; rfl)]
      exact ⟨rfl, Below.refl _ _⟩
    · by_cases he : a + k = s.size
      · have he' : ¬ ((a : Int) + k < s.size) := by omega
        have hk9 : (k : Int) < 9 := by omega
        have HN : Hid (intR s.data.toList a = (0, 0, 10)) := intR_none hal (by rw [← HD.out, he, List.drop_of_length_le (by simp), show 9 - k = (8 - k) + 1 from by omega, decI])
        clear he
        go_wp2
        go_ret3
        rw [HN.out]
        exact ⟨rfl, Below.refl _ _⟩
      · have he' : ((a : Int) + k < s.size) := by omega
        have hk9 : (k : Int) < 9 := by omega
        have hk9' : k < 9 := by omega
        have hlt : a + k < s.size := by omega
        obtain ⟨zn, hzn⟩ : ∃ zn, zz + s[a + k].toNat % 128 * 128 ^ k = zn := ⟨_, rfl⟩
        have hb := s[a + k].toNat_lt
        have hp := pow_bound (b := s[a + k].toNat) hk9' hz
        rw [hzn] at hp
        obtain ⟨hp1, hp2⟩ := hp
        obtain ⟨bm, hbm⟩ : ∃ bm : Nat, (s[a + k].toNat : Int) % 128 = (bm : Int) ∧ s[a + k].toNat % 128 = bm := ⟨s[a + k].toNat % 128, by omega, rfl⟩
        obtain ⟨hbm1, hbm2⟩ := hbm
        obtain ⟨c, hc⟩ : ∃ c, bm * 128 ^ k = c := ⟨_, rfl⟩
        have hsh : IntKind.u64.wrap ((s[a + k].toNat : Int) % 128 * 2 ^ (7 * k)) = (c : Int) := by rw [hbm1]; exact shl_bits k bm c hk9' (by omega) hc
        have hsum : (zz : Int) + c = (zn : Int) := by rw [← hzn, hbm2, hc]; simp
        have hd2' := decI_step k zz hk9' s[a + k] (s.data.toList.drop (a + k + 1)) zn hzn
        rw [← drop_cons s (a + k) hlt, HD.out] at hd2'
        have HD2 := Lib.hid hd2'
        have hrule : IntKind.u64.wrap ((zz : Int) + IntKind.u64.wrap ((s[a + k].toNat : Int) % 128 * 2 ^ (7 * k))) = (zn : Int) := by rw [hsh, hsum, IntWalk.u64_in _ (by omega)]
        clear hd2' hzn HD hz hbm2 hc hbm1 hsh hsum
        by_cases hb1 : 128 ≤ s[a + k].toNat
        · go_wp2
          go_round
          case rel => exact ⟨k + 1, zn, by omega, by omega, by go_num, rfl, hp1, by have := HD2.out; rw [if_pos hb1] at this; exact this.symm⟩
          case measure => simp [intOf]; omega
        · have hj : k + 1 ≤ (s.data.toList.drop a).length := by rw [List.length_drop, len_data]; omega
          have hacc := ref_accepts (n := unzig zn) (j := k + 1) HD2.out hj (by
            rw [if_neg hb1]
            split
            · exact .inl rfl
            · split
              · exact .inl rfl
              · exact .inr rfl)
          have hun : -9223372036854775808 ≤ unzig zn ∧ unzig zn ≤ 9223372036854775807 := by unfold unzig; split <;> omega
          have hext : (s.extract a (a + k + 1)).toList = (s.data.toList.drop a).take (k + 1) := by rw [Nat.add_assoc, extract_list, ByteArray.toList_eq]
          rcases Nat.mod_two_eq_zero_or_one zn with h | h
          · have hn : (zn : Int) / 2 = unzig zn := by rw [unzig_even h]; omega
            go_wp2_with fail
            refine (refPut_any _ _).mono ?_
            obtain ⟨n, hn2⟩ : ∃ n, unzig zn = n := ⟨_, rfl⟩
            rw [hn2] at hacc ⊢
            obtain ⟨pe, hpe⟩ : ∃ pe, putE n = pe := ⟨_, rfl⟩
            obtain ⟨A, hA⟩ : ∃ A : ByteArray, ByteArray.mk (putL n).toArray = A := ⟨_, rfl⟩
            have hAl : putL n = A.toList := by rw [← hA, ByteArray.toList_eq]
            rw [hA, hpe]
            rw [hpe, hAl, ← hext] at hacc
            clear hpe hA hAl hext hn hn2
            rintro e w2 ⟨rfl, hb2⟩
            rcases hacc with ⟨hD, rfl, hp⟩ | ⟨hD, hp | ⟨rfl, hp⟩⟩
            · have HN : Hid (intR s.data.toList a = (n, (a : Int) + ((k + 1 : Nat) : Int), 0)) := intR_some hal hD
              have q1 : (A.toList == (s.extract a (a + k + 1)).toList) = true := by rw [hp]; simp
              have q2 : (A.toList != (s.extract a (a + k + 1)).toList) = false := by rw [hp]; simp
              clear hD hp
              go_wp2_with fail
              go_ret3
              rw [HN.out]
              exact ⟨ret3_int rfl (by simp; omega) rfl, hb2⟩
            · have HN : Hid (intR s.data.toList a = (0, 0, 10)) := intR_none hal hD
              have q1 : (pe == 0) = false := by rw [beq_eq_false_iff_ne]; exact hp
              have q2 : (pe != 0) = true := by rw [bne_iff_ne]; exact hp
              clear hD hp
              go_wp2_with fail
              go_ret3
              rw [HN.out]
              exact ⟨rfl, hb2⟩
            · have HN : Hid (intR s.data.toList a = (0, 0, 10)) := intR_none hal hD
              have q1 : (A.toList == (s.extract a (a + k + 1)).toList) = false := by rw [beq_eq_false_iff_ne]; exact hp
              have q2 : (A.toList != (s.extract a (a + k + 1)).toList) = true := by rw [bne_iff_ne]; exact hp
              clear hD hp
              go_wp2_with fail
              go_ret3
              rw [HN.out]
              exact ⟨rfl, hb2⟩
          · have hn : -((zn : Int) / 2) - 1 = unzig zn := by rw [unzig_odd h]; omega
            go_wp2_with fail
            refine (refPut_any _ _).mono ?_
            obtain ⟨n, hn2⟩ : ∃ n, unzig zn = n := ⟨_, rfl⟩
            rw [hn2] at hacc ⊢
            obtain ⟨pe, hpe⟩ : ∃ pe, putE n = pe := ⟨_, rfl⟩
            obtain ⟨A, hA⟩ : ∃ A : ByteArray, ByteArray.mk (putL n).toArray = A := ⟨_, rfl⟩
            have hAl : putL n = A.toList := by rw [← hA, ByteArray.toList_eq]
            rw [hA, hpe]
            rw [hpe, hAl, ← hext] at hacc
            clear hpe hA hAl hext hn hn2
            rintro e w2 ⟨rfl, hb2⟩
            rcases hacc with ⟨hD, rfl, hp⟩ | ⟨hD, hp | ⟨rfl, hp⟩⟩
            · have HN : Hid (intR s.data.toList a = (n, (a : Int) + ((k + 1 : Nat) : Int), 0)) := intR_some hal hD
              have q1 : (A.toList == (s.extract a (a + k + 1)).toList) = true := by rw [hp]; simp
              have q2 : (A.toList != (s.extract a (a + k + 1)).toList) = false := by rw [hp]; simp
              clear hD hp
              go_wp2_with fail
              go_ret3
              rw [HN.out]
              exact ⟨ret3_int rfl (by simp; omega) rfl, hb2⟩
            · have HN : Hid (intR s.data.toList a = (0, 0, 10)) := intR_none hal hD
              have q1 : (pe == 0) = false := by rw [beq_eq_false_iff_ne]; exact hp
              have q2 : (pe != 0) = true := by rw [bne_iff_ne]; exact hp
              clear hD hp
              go_wp2_with fail
              go_ret3
              rw [HN.out]
              exact ⟨rfl, hb2⟩
            · have HN : Hid (intR s.data.toList a = (0, 0, 10)) := intR_none hal hD
              have q1 : (A.toList == (s.extract a (a + k + 1)).toList) = false := by rw [beq_eq_false_iff_ne]; exact hp
              have q2 : (A.toList != (s.extract a (a + k + 1)).toList) = true := by rw [bne_iff_ne]; exact hp
              clear hD hp
              go_wp2_with fail
              go_ret3
              rw [HN.out]
              exact ⟨rfl, hb2⟩
set_option maxRecDepth 100000 in
theorem refInt_arg (s : ByteArray) (a : Int) (w : World) (hs : s.size ≤ maxLen) (ha : a < 0 ∨ (s.size : Int) < a) :
    Calls Try.prog 50 #[.string s, .int .i64 a] w fun e w' => e = .returned (.tuple #[.int .i64 0, .int .i64 0, .int .i64 2]) ∧ w = w' := by
  unfold maxLen at hs
  by_cases h0 : a < 0
  · clear ha
    go_enter Try.func50, Try.ntmps50
    go_wp2
    go_ret3
    exact ⟨rfl, rfl⟩
  · have h1 : (s.size : Int) < a := by omega
    clear ha
    go_enter Try.func50, Try.ntmps50
    go_wp2
    go_ret3
    exact ⟨rfl, rfl⟩
theorem refInt_any (s : ByteArray) (a : Int) (w : World) (hs : s.size ≤ maxLen) :
    Calls Try.prog 50 #[.string s, .int .i64 a] w fun e w' => e = .returned (.tuple #[.int .i64 (intR s.data.toList a).1, .int .i64 (intR s.data.toList a).2.1, .int .i64 (intR s.data.toList a).2.2]) ∧ Below w.heap.size w w' := by
  by_cases h : a < 0 ∨ (s.size : Int) < a
  · rw [intR_arg (by rw [len_data]; exact h)]
    exact (refInt_arg s a w hs h).mono fun e w' ⟨he, hw⟩ => ⟨he, hw ▸ Below.refl _ _⟩
  · obtain ⟨n, rfl⟩ : ∃ n : Nat, a = n := ⟨a.toNat, by omega⟩
    exact refInt_at s n w hs (by omega)
end Go.Proofs.Ytfplajafekpccaa
