/-
  The law OrdersDecodedAgain: the walk.
-/
import Derived.Test.YtjkiidhnmljmbaaDoorOrX
import Derived.Test.YtjkiidhnmljmbaaDoorGpAB
set_option linter.unusedVariables false
set_option linter.unusedSimpArgs false
namespace Go.Proofs.YtjkiidhnmljmbaaDoor
open Go.RowKit Onair
theorem min_cutG (s : ByteArray) (b : Nat) : ∃ (m : Nat) (T : ByteArray), m ≤ s.size ∧ m ≤ b ∧ T.size = m ∧ min (s.size : Int) (b : Int) = (m : Int) ∧ (if (b : Int) < (s.size : Int) then (b : Int) else (s.size : Int)) = (m : Int) ∧ s.extract 0 m = T := by
  refine ⟨min s.size b, s.extract 0 (min s.size b), by omega, by omega, ?_, by omega, by split <;> omega, rfl⟩
  rw [ByteArray.size_extract]
  omega
set_option maxHeartbeats 8000000 in
set_option maxRecDepth 100000 in
theorem walkDec (W : World) (s : ByteArray) (hs : s.size ≤ maxLen) (hse : ∃ es em er eb, Sent W es em er eb) :
    Calls Tryd.prog 4 #[.string s] W fun e w' => e = .returned (.bool true) ∧ Below W.heap.size W w' := by
  obtain ⟨es, em, er, eb, hse⟩ := hse
  obtain ⟨m, T, m1, m2, m3, m4, m5, m6⟩ := min_cutG s 500
  have HSA := Lib.hid (sane_any es W hse.s)
  have HSE := Lib.hid hse
  have HT : Hid (T.size ≤ maxLen) := (by unfold maxLen; omega : T.size ≤ maxLen)
  have m4' : min (s.size : Int) 500 = (m : Int) := m4
  have m5' : (if (500 : Int) < (s.size : Int) then (500 : Int) else (s.size : Int)) = (m : Int) := m5
  have p1 : (0 : Int) ≤ (m : Int) := by omega
  have p2 : (m : Int) ≤ (s.size : Int) := by omega
  have HSZ := Lib.hid (show (Tryd.prog.info? 32).map (·.size) = some 31 from by kernel_rfl)
  clear hs hse m2 m3 m4 m5
  go_enter Tryd.func4, Tryd.ntmps4
  go_wp2_with fail
  refine HSA.out.mono ?_
  rintro e w1 ⟨rfl, hb1⟩
  have HB1 := Lib.hid hb1
  have HDE := Lib.hid (gODec T w1 es em er eb HT.out (HSE.out.below hb1))
  obtain ⟨l, hl⟩ : ∃ l, T.data.toList = l := ⟨_, rfl⟩
  rw [hl] at HDE
  have HL := Lib.hid hl
  clear hb1 hl HSA
  go_wp2_with fail
  refine HDE.out.mono ?_
  rintro e w2 ⟨hb2, he⟩
  have HB2 : Hid (Below W.heap.size W w2) := bstep HB1.out hb2
  clear hb2 HDE m4' m5' p1 p2 m1 m6
  cases hR : msgR l with
  | short =>
    rw [hR] at he
    dsimp only at he
    subst he
    obtain ⟨M, hM⟩ : ∃ M, w2.heap.size = M := ⟨_, rfl⟩
    obtain ⟨w3, hw3⟩ : ∃ w3, w2.alloc (.cells #[.int .i64 0, .int .i64 0, .int .i64 0, .int .i64 0, .int .i64 0, .int .i64 0, .int .i64 0, .int .i64 0, .int .i64 0, .int .i64 0, .int .i64 0, .int .i64 0, .int .i64 0, .int .i64 0, .int .i64 0, .int .i64 0, .int .i64 0, .slice none 0 0, .int .i64 0, .int .i64 0, .int .i64 0, .int .i64 0, .int .i64 0, .int .i64 0, .int .i64 0, .int .i64 0, .int .i64 0, .int .i64 0, .int .i64 0, .int .i64 0, .string ⟨#[]⟩] 32) = w3 := ⟨_, rfl⟩
    have hk3 : Blk w3 M 32 zeroM.l := by rw [← hw3, ← hM]; exact Blk.new w2 _ zeroM.l
    have hb3 : Below w2.heap.size w2 w3 := by rw [← hw3]; exact (Below.refl _ _).alloc (Nat.le_refl _) _
    obtain ⟨w4, hw4⟩ : ∃ w4, w3.setRow M zeroM.l.toArray = w4 := ⟨_, rfl⟩
    have hk4 : Blk w4 M 32 zeroM.l := by rw [← hw4]; exact hk3.setRow _
    have hb4 : Below w2.heap.size w2 w4 := by rw [← hw4]; exact below_setRow hb3 (by omega) _
    have HK3 := Lib.hid hk3
    have HR4 := Lib.hid hk4.range
    have HW4 := Lib.hid hw4
    have HO1 : Hid (zeroM.l.toArray.all (·.oneCell') = true) := zeroM.oneC
    have HO2 : Hid ((msgJ 0).toArray.size = zeroM.l.toArray.size) := rfl
    have HB4 : Hid (Below W.heap.size W w4) := bstep HB2.out hb4
    have HSM := Lib.hid (gSameMsg zeroM zeroM [] [] w4 rfl rfl (by decide) (by decide) (.inl rfl) (.inl rfl))
    have HTR : Hid (sameMB zeroM [] zeroM [] = true) := ((sameMB_iff zeroM zeroM [] [] rfl rfl).2 ⟨rfl, rfl⟩ : sameMB zeroM [] zeroM [] = true)
    clear hk3 hb3 hw4 hk4 hb4 hR
    go_wp2_with (first | (refine wpList_store_row rfl 32 (.tmp 4) (.tmp 17) rfl M zeroM.l.toArray rfl rfl 32 _ HK3.out HSZ.out HO2.out HO1.out ?_; rw [HW4.out]) | (refine wpList_load_midG rfl 32 (.tmp 4) rfl M 0 rfl zeroM.l _ HR4.out Tryd.underlying32 rfl HSZ.out ?_))
    refine HSM.out.mono ?_
    rintro e w5 ⟨rfl, hb5⟩
    rw [HTR.out]
    have HB5 : Hid (Below W.heap.size W w5) := bstep HB4.out hb5
    clear hb5
    go_wp2_with fail
    go_ret
    exact ⟨rfl, HB5.out⟩
  | mean =>
    rw [hR] at he
    dsimp only at he
    subst he
    obtain ⟨M, hM⟩ : ∃ M, w2.heap.size = M := ⟨_, rfl⟩
    obtain ⟨w3, hw3⟩ : ∃ w3, w2.alloc (.cells #[.int .i64 0, .int .i64 0, .int .i64 0, .int .i64 0, .int .i64 0, .int .i64 0, .int .i64 0, .int .i64 0, .int .i64 0, .int .i64 0, .int .i64 0, .int .i64 0, .int .i64 0, .int .i64 0, .int .i64 0, .int .i64 0, .int .i64 0, .slice none 0 0, .int .i64 0, .int .i64 0, .int .i64 0, .int .i64 0, .int .i64 0, .int .i64 0, .int .i64 0, .int .i64 0, .int .i64 0, .int .i64 0, .int .i64 0, .int .i64 0, .string ⟨#[]⟩] 32) = w3 := ⟨_, rfl⟩
    have hk3 : Blk w3 M 32 zeroM.l := by rw [← hw3, ← hM]; exact Blk.new w2 _ zeroM.l
    have hb3 : Below w2.heap.size w2 w3 := by rw [← hw3]; exact (Below.refl _ _).alloc (Nat.le_refl _) _
    obtain ⟨w4, hw4⟩ : ∃ w4, w3.setRow M zeroM.l.toArray = w4 := ⟨_, rfl⟩
    have hk4 : Blk w4 M 32 zeroM.l := by rw [← hw4]; exact hk3.setRow _
    have hb4 : Below w2.heap.size w2 w4 := by rw [← hw4]; exact below_setRow hb3 (by omega) _
    have HK3 := Lib.hid hk3
    have HR4 := Lib.hid hk4.range
    have HW4 := Lib.hid hw4
    have HO1 : Hid (zeroM.l.toArray.all (·.oneCell') = true) := zeroM.oneC
    have HO2 : Hid ((msgJ 0).toArray.size = zeroM.l.toArray.size) := rfl
    have HB4 : Hid (Below W.heap.size W w4) := bstep HB2.out hb4
    have HSM := Lib.hid (gSameMsg zeroM zeroM [] [] w4 rfl rfl (by decide) (by decide) (.inl rfl) (.inl rfl))
    have HTR : Hid (sameMB zeroM [] zeroM [] = true) := ((sameMB_iff zeroM zeroM [] [] rfl rfl).2 ⟨rfl, rfl⟩ : sameMB zeroM [] zeroM [] = true)
    clear hk3 hb3 hw4 hk4 hb4 hR
    go_wp2_with (first | (refine wpList_store_row rfl 32 (.tmp 4) (.tmp 17) rfl M zeroM.l.toArray rfl rfl 32 _ HK3.out HSZ.out HO2.out HO1.out ?_; rw [HW4.out]) | (refine wpList_load_midG rfl 32 (.tmp 4) rfl M 0 rfl zeroM.l _ HR4.out Tryd.underlying32 rfl HSZ.out ?_))
    refine HSM.out.mono ?_
    rintro e w5 ⟨rfl, hb5⟩
    rw [HTR.out]
    have HB5 : Hid (Below W.heap.size W w5) := bstep HB4.out hb5
    clear hb5
    go_wp2_with fail
    go_ret
    exact ⟨rfl, HB5.out⟩
  | ok k al =>
    rw [hR] at he
    dsimp only at he
    obtain ⟨oa, ac, rfl, hra, hfr⟩ := he
    obtain ⟨b1, b2, b3, b4, b5, b6, b7⟩ := msgR_back hR
    have HEN : Hid (encM (k.withA oa ac) al = l) := (by rw [encM_withA]; exact b1 : encM (k.withA oa ac) al = l)
    have hok : okM (k.withA oa ac) al = true := by rw [okM_withA]; exact b2
    have hn : al.length = (k.withA oa ac).o.an := b3.symm
    have ht : (k.withA oa ac).o.txt.size ≤ maxLen := by show k.o.txt.size ≤ _; unfold maxLen; omega
    have hao : (k.withA oa ac).o.ao = oa := rfl
    obtain ⟨q, hq⟩ : ∃ q, k.withA oa ac = q := ⟨_, rfl⟩
    rw [hq] at HEN hok hn ht hao ⊢
    obtain ⟨M, hM⟩ : ∃ M, w2.heap.size = M := ⟨_, rfl⟩
    obtain ⟨w3, hw3⟩ : ∃ w3, w2.alloc (.cells #[.int .i64 0, .int .i64 0, .int .i64 0, .int .i64 0, .int .i64 0, .int .i64 0, .int .i64 0, .int .i64 0, .int .i64 0, .int .i64 0, .int .i64 0, .int .i64 0, .int .i64 0, .int .i64 0, .int .i64 0, .int .i64 0, .int .i64 0, .slice none 0 0, .int .i64 0, .int .i64 0, .int .i64 0, .int .i64 0, .int .i64 0, .int .i64 0, .int .i64 0, .int .i64 0, .int .i64 0, .int .i64 0, .int .i64 0, .int .i64 0, .string ⟨#[]⟩] 32) = w3 := ⟨_, rfl⟩
    have hk3 : Blk w3 M 32 zeroM.l := by rw [← hw3, ← hM]; exact Blk.new w2 _ zeroM.l
    have hb3 : Below w2.heap.size w2 w3 := by rw [← hw3]; exact (Below.refl _ _).alloc (Nat.le_refl _) _
    obtain ⟨w4, hw4⟩ : ∃ w4, w3.setRow M q.l.toArray = w4 := ⟨_, rfl⟩
    have hk4 : Blk w4 M 32 q.l := by rw [← hw4]; exact hk3.setRow _
    have hb4 : Below w2.heap.size w2 w4 := by rw [← hw4]; exact below_setRow hb3 (by omega) _
    have HK3 := Lib.hid hk3
    have HR4 := Lib.hid hk4.range
    have HW4 := Lib.hid hw4
    have HO1 : Hid (q.l.toArray.all (·.oneCell') = true) := q.oneC
    have HO2 : Hid (zeroM.l.toArray.size = q.l.toArray.size) := rfl
    have HB4 : Hid (Below W.heap.size W w4) := bstep HB2.out hb4
    have HEC := Lib.hid (gOEnc_ok q al w4 hok hn (by omega) (by rw [hao]; exact hra.kept hb4) ht)
    rw [HEN.out] at HEC
    obtain ⟨Z, hZ⟩ : ∃ Z : ByteArray, (⟨l.toArray⟩ : ByteArray) = Z := ⟨_, rfl⟩
    have hZT : T = Z := by rw [← hZ, ← HL.out]
    have hZL : T.toList = Z.toList := by rw [hZT]
    rw [hZ] at HEC
    clear hk3 hb3 hw4 hk4 hb4 hR b1 b2 b3 b4 b5 b6 b7 hok hn ht hao hq hra hfr hZ
    subst hZT
    go_wp2_with (first | (refine wpList_store_row rfl 32 (.tmp 4) (.tmp 17) rfl M q.l.toArray rfl rfl 32 _ HK3.out HSZ.out HO2.out HO1.out ?_; rw [HW4.out]) | (refine wpList_load_midG rfl 32 (.tmp 4) rfl M 0 rfl q.l _ HR4.out Tryd.underlying32 rfl HSZ.out ?_))
    refine HEC.out.mono ?_
    rintro e w5 ⟨rfl, hb5⟩
    have HB5 : Hid (Below W.heap.size W w5) := bstep HB4.out hb5
    clear hb5
    go_wp2_with fail
    go_ret
    exact ⟨rfl, HB5.out⟩
end Go.Proofs.YtjkiidhnmljmbaaDoor
