/-
  Messages of every kind: orders.Encode.
-/
import Derived.Test.YtjkiidhnmljmbaaGreatDoorGoMN
import Derived.Test.YtjkiidhnmljmbaaGreatDoorLits
import Derived.Test.YtjkiidhnmljmbaaGreatDoorOrPQ
set_option linter.unusedVariables false
set_option linter.unusedSimpArgs false
namespace Go.Proofs.YtjkiidhnmljmbaaGreatDoor
open Go.RowKit Onair
/-- The encoding of a message. -/
def encM (m : MOd) (al : List (Int × Int)) : List UInt8 := encI [m.kd, m.tn, m.sq, m.fr, m.n] ++ (if m.kd = 1 then putSL (encG m.o al) else [])
theorem encG_len (o : GOd) (al : List (Int × Int)) (h : al.length ≤ 1000000) : (encG o al).length ≤ 18100000 := by
  have h1 := encI_len [o.s, o.ch, o.f, o.k]
  have h2 := encI_len (numsG o)
  rw [numsG_len] at h2
  have h3 := ofsK_len o.k
  have h4 : ([o.s, o.ch, o.f, o.k] : List Int).length = 4 := rfl
  have h5 : (tailG o al).length ≤ 18000009 + 65545 := by
    unfold tailG
    split
    · have h6 := altI_len al al.length
      rw [List.take_length] at h6
      have h7 := encI_len [(al.length : Int)]
      rw [List.length_append]
      simp only [List.length_cons, List.length_nil] at h7
      omega
    · split
      · have := putSL_any o.txt.data.toList; omega
      · simp
  unfold encG
  rw [List.length_append, List.length_append]
  omega
theorem okM_kind {m : MOd} {al : List (Int × Int)} (h : okM m al = true) : m.kd = 1 ∨ m.kd = 2 ∨ m.kd = 3 := by
  unfold okM at h
  simp only [Bool.and_eq_true] at h
  have h2 := h.2
  split at h2
  · omega
  split at h2
  · omega
  split at h2
  · omega
  · cases h2
theorem okM_ord {m : MOd} {al : List (Int × Int)} (h : okM m al = true) (hk : m.kd = 1) : okB m.o al = true ∧ m.o.s = m.sq := by
  unfold okM at h
  rw [if_pos hk] at h
  simp only [Bool.and_eq_true, beq_iff_eq] at h
  exact ⟨h.2.2.2.2.2.2, h.2.2.2.2.2.1⟩
theorem headM_ne (m : MOd) (t : List UInt8) (h : m.kd = 1 ∨ m.kd = 2 ∨ m.kd = 3) : encI [m.kd, m.tn, m.sq, m.fr, m.n] ++ t ≠ [] := by
  intro e
  have h1 := (List.append_eq_nil_iff.1 e).1
  have h2 : encI [m.kd] ++ encI [m.tn, m.sq, m.fr, m.n] = [] := by rw [← encI_app]; exact h1
  have h3 := (List.append_eq_nil_iff.1 h2).1
  rw [encI_one] at h3
  exact putK_ne m.kd (by omega) h3
set_option maxHeartbeats 8000000 in
set_option maxRecDepth 100000 in
theorem gOEnc_no (m : MOd) (al : List (Int × Int)) (W : World) (hok : okM m al = false) (hn : al.length = m.o.an) (hlm : m.o.an ≤ 1000000) (hr : RdA W m.o.ao al) (hts : m.o.txt.size ≤ maxLen) : Calls Tryz.prog 8 #[.agg m.l.toArray] W fun e w' => e = .returned (.tuple #[.string ⟨#[]⟩, .int .i64 200]) ∧ Below W.heap.size W w' := by
  obtain ⟨N, hN⟩ : ∃ N, W.heap.size = N := ⟨_, rfl⟩
  obtain ⟨w1, hw1⟩ : ∃ w1, W.alloc (.cells (aM m) 32) = w1 := ⟨_, rfl⟩
  have hb1 : Below N W w1 := by rw [← hw1, ← hN]; exact (Below.refl _ W).alloc (Nat.le_refl _) _
  have hk1 : Blk w1 N 32 m.l := by rw [← hw1, ← hN]; exact Blk.new W _ m.l
  have HSM := Lib.hid (show (Tryz.prog.info? 32).map (·.size) = some 31 from by kernel_rfl)
  have HSZ := Lib.hid (show (Tryz.prog.info? 30).map (·.size) = some 26 from by kernel_rfl)
  have HR1 := Lib.hid hk1.range
  have HK1 := Lib.hid hk1
  have HN := Lib.hid hN
  have HB1 := Lib.hid hb1
  have HVL := Lib.hid (gOValid m al w1 hn hlm (hr.kept (hN ▸ hb1)) hts)
  show Calls Tryz.prog 8 #[.agg (aM m)] W _
  rw [hok] at HVL
  clear hb1 hk1 hn hlm hr hts hok
  go_enter Tryz.func8, Tryz.ntmps8
  go_wp2_with (refine wpList_load_mid rfl 32 (.tmp 1) rfl N 0 rfl m.l _ HR1.out Tryz.underlying32 rfl HSM.out ?_)
  refine HVL.out.mono ?_
  rintro e w2 ⟨rfl, hb2⟩
  have HB2 : Hid (Below N W w2) := HB1.out.trans (hb2.mono (bnl9 HN.out HB1.out))
  clear hb2
  go_wp2_with fail
  go_ret2
  exact ⟨rfl, by rw [HN.out]; exact HB2.out⟩
set_option maxHeartbeats 8000000 in
set_option maxRecDepth 100000 in
theorem gOEnc_ok (m : MOd) (al : List (Int × Int)) (W : World) (hok : okM m al = true) (hn : al.length = m.o.an) (hlm : m.o.an ≤ 1000000) (hr : RdA W m.o.ao al) (hts : m.o.txt.size ≤ maxLen) : Calls Tryz.prog 8 #[.agg m.l.toArray] W fun e w' => e = .returned (.tuple #[.string ⟨(encM m al).toArray⟩, .int .i64 0]) ∧ Below W.heap.size W w' := by
  obtain ⟨N, hN⟩ : ∃ N, W.heap.size = N := ⟨_, rfl⟩
  obtain ⟨w1, hw1⟩ : ∃ w1, W.alloc (.cells (aM m) 32) = w1 := ⟨_, rfl⟩
  have hb1 : Below N W w1 := by rw [← hw1, ← hN]; exact (Below.refl _ W).alloc (Nat.le_refl _) _
  have hk1 : Blk w1 N 32 m.l := by rw [← hw1, ← hN]; exact Blk.new W _ m.l
  have HSM := Lib.hid (show (Tryz.prog.info? 32).map (·.size) = some 31 from by kernel_rfl)
  have HSZ := Lib.hid (show (Tryz.prog.info? 30).map (·.size) = some 26 from by kernel_rfl)
  have HR1 := Lib.hid hk1.range
  have HK1 := Lib.hid hk1
  have HN := Lib.hid hN
  have HB1 := Lib.hid hb1
  have HVL := Lib.hid (gOValid m al w1 hn hlm (hr.kept (hN ▸ hb1)) hts)
  show Calls Tryz.prog 8 #[.agg (aM m)] W _
  rw [hok] at HVL
  have HKR := Lib.hid (okM_kind hok)
  have HOK : Hid (m.kd = 1 → okB m.o al = true) := (fun h => (okM_ord hok h).1 : m.kd = 1 → okB m.o al = true)
  have HEGL := Lib.hid (encG_len m.o al (by rw [hn]; exact hlm))
  have HRA := Lib.hid (hr.kept (hN ▸ hb1))
  have HAL := Lib.hid hn
  have HTS := Lib.hid hts
  have HLM := Lib.hid hlm
  clear hb1 hk1 hn hlm hr hts hok
  go_enter Tryz.func8, Tryz.ntmps8
  go_wp2_with (refine wpList_load_mid rfl 32 (.tmp 1) rfl N 0 rfl m.l _ HR1.out Tryz.underlying32 rfl HSM.out ?_)
  refine HVL.out.mono ?_
  rintro e w2 ⟨rfl, hb2⟩
  have HK2 := Lib.hid (HK1.out.kept (hb2.block N HK1.out.lt))
  have HRA2 := Lib.hid (HRA.out.kept hb2)
  have HB2 : Hid (Below N W w2) := HB1.out.trans (hb2.mono (bnl9 HN.out HB1.out))
  obtain ⟨b, hb⟩ : ∃ b, w2.heap.size = b := ⟨_, rfl⟩
  have HNb : Hid (N < b) := (by rw [← hb]; exact HK2.out.lt : N < b)
  obtain ⟨w3, hw3⟩ : ∃ w3, w2.alloc (.cells #[.pointer none, .slice none 0 0] 77) = w3 := ⟨_, rfl⟩
  have hbl3 : Bld b b [] w3 := by rw [← hw3, ← hb]; exact Lib.fresh_isBuilder _ _ w2
  have hb3 : Below b w2 w3 := by rw [← hw3, ← hb]; exact (Below.refl _ w2).alloc (Nat.le_refl _) _
  have hz3 : b ≤ w3.heap.size := by rw [← hw3, World.size_alloc, hb]; omega
  have hk3 := HK2.out.kept (hb3.block N HNb.out)
  have c0 : w3.cell? ⟨N, 0, none⟩ = some (.int .i64 m.kd) := hk3.cell 0
  have c1 : w3.cell? ⟨N, 1, none⟩ = some (.int .i64 m.tn) := hk3.cell 1
  have c2 : w3.cell? ⟨N, 2, none⟩ = some (.int .i64 m.sq) := hk3.cell 2
  have c3 : w3.cell? ⟨N, 3, none⟩ = some (.int .i64 m.fr) := hk3.cell 3
  have c4 : w3.cell? ⟨N, 4, none⟩ = some (.int .i64 m.n) := hk3.cell 4
  have HBL3 : Hid (Bld b b (encI ([m.kd, m.tn, m.sq, m.fr, m.n].take 0)) w3) := hbl3
  have HB3 := Lib.hid hb3
  have HZ3 := Lib.hid hz3
  have HBB := Lib.hid hb
  clear hb2 HR1 HVL hbl3 hb3 hk3 hz3
  go_wp2_with fail
  clear c0 c1 c2 c3 c4 hw3 hb hw1
  go_loopw [27] (fun vi wr => ∃ (j : Nat), j ≤ 5 ∧ vi = .int .i64 j ∧ Hid (Bld b b (encI ([m.kd, m.tn, m.sq, m.fr, m.n].take j)) wr) ∧ Hid (b ≤ wr.heap.size) ∧ Hid (Below b w2 wr)) (fun v _ => 5 - (intOf v).toNat)
  case atStart => exact ⟨0, by omega, rfl, HBL3, HZ3, HB3⟩
  case round =>
    clear HBL3 HB3 HZ3
    obtain ⟨j, hj, rfl, HBL, HZ, HB⟩ := hrel
    have hle : (encI ([m.kd, m.tn, m.sq, m.fr, m.n].take j)).length ≤ 45 := by
      have := encI_len ([m.kd, m.tn, m.sq, m.fr, m.n].take j)
      have := List.length_take_le j ([m.kd, m.tn, m.sq, m.fr, m.n] : List Int)
      have h5 : ([m.kd, m.tn, m.sq, m.fr, m.n] : List Int).length = 5 := rfl
      omega
    by_cases h : j < 5
    · have q1 : (j : Int) < 5 := by omega
      rcases (show j = 0 ∨ j = 1 ∨ j = 2 ∨ j = 3 ∨ j = 4 from by omega) with rfl | rfl | rfl | rfl | rfl
      · have HX := Lib.hid (encI_snoc [m.kd, m.tn, m.sq, m.fr, m.n] 0 (m.kd) rfl)
        have hidx : ∀ W', (Instr.index 78 (.agg #[.int .i64 m.kd, .int .i64 m.tn, .int .i64 m.sq, .int .i64 m.fr, .int .i64 m.n]) (.int .i64 0)).run Tryz.prog W' = .ok (.int .i64 (m.kd)) W' := fun W' => by kernel_rfl
        go_wp2_with fail
        clear hidx
        refine (putInt_any (m.kd) wr).mono ?_
        rintro e w5 ⟨rfl, hb5⟩
        have HBL5 := Lib.hid (HBL.out.below hb5)
        have HB5 : Hid (Below b w2 w5) := HB.out.trans (hb5.mono HZ.out)
        have HZ5 : Hid (b ≤ w5.heap.size) := (by have := hb5.size; have := HZ.out; omega : b ≤ w5.heap.size)
        obtain ⟨y, hy⟩ : ∃ y : ByteArray, (⟨(putL (m.kd)).toArray⟩ : ByteArray) = y := ⟨_, rfl⟩
        have hyl : y.data.toList = putL (m.kd) := by rw [← hy]
        have hys : y.size ≤ 9 := by rw [← blen, hyl]; exact putL_len _
        rw [hy]
        have HYL := Lib.hid hyl
        clear hb5 hy hyl
        go_wp2_with fail
        refine (writeString_any b b _ y w5 HBL5.out (by omega) HZ5.out).mono ?_
        rintro e w6 ⟨⟨v, rfl⟩, h6, hb6, _⟩
        rw [HYL.out, ← HX.out] at h6
        have HBL6 := Lib.hid h6
        have HB6 := Lib.hid (HB5.out.trans hb6)
        have HZ6 : Hid (b ≤ w6.heap.size) := (by have := hb6.size; have := HZ5.out; omega : b ≤ w6.heap.size)
        clear h6 hb6 hle
        go_wp2_with fail
        go_roundw
        case rel => exact ⟨1, by omega, rfl, HBL6, HZ6, HB6⟩
        case measure => simp [intOf]
      · have HX := Lib.hid (encI_snoc [m.kd, m.tn, m.sq, m.fr, m.n] 1 (m.tn) rfl)
        have hidx : ∀ W', (Instr.index 78 (.agg #[.int .i64 m.kd, .int .i64 m.tn, .int .i64 m.sq, .int .i64 m.fr, .int .i64 m.n]) (.int .i64 1)).run Tryz.prog W' = .ok (.int .i64 (m.tn)) W' := fun W' => by kernel_rfl
        go_wp2_with fail
        clear hidx
        refine (putInt_any (m.tn) wr).mono ?_
        rintro e w5 ⟨rfl, hb5⟩
        have HBL5 := Lib.hid (HBL.out.below hb5)
        have HB5 : Hid (Below b w2 w5) := HB.out.trans (hb5.mono HZ.out)
        have HZ5 : Hid (b ≤ w5.heap.size) := (by have := hb5.size; have := HZ.out; omega : b ≤ w5.heap.size)
        obtain ⟨y, hy⟩ : ∃ y : ByteArray, (⟨(putL (m.tn)).toArray⟩ : ByteArray) = y := ⟨_, rfl⟩
        have hyl : y.data.toList = putL (m.tn) := by rw [← hy]
        have hys : y.size ≤ 9 := by rw [← blen, hyl]; exact putL_len _
        rw [hy]
        have HYL := Lib.hid hyl
        clear hb5 hy hyl
        go_wp2_with fail
        refine (writeString_any b b _ y w5 HBL5.out (by omega) HZ5.out).mono ?_
        rintro e w6 ⟨⟨v, rfl⟩, h6, hb6, _⟩
        rw [HYL.out, ← HX.out] at h6
        have HBL6 := Lib.hid h6
        have HB6 := Lib.hid (HB5.out.trans hb6)
        have HZ6 : Hid (b ≤ w6.heap.size) := (by have := hb6.size; have := HZ5.out; omega : b ≤ w6.heap.size)
        clear h6 hb6 hle
        go_wp2_with fail
        go_roundw
        case rel => exact ⟨2, by omega, rfl, HBL6, HZ6, HB6⟩
        case measure => simp [intOf]
      · have HX := Lib.hid (encI_snoc [m.kd, m.tn, m.sq, m.fr, m.n] 2 (m.sq) rfl)
        have hidx : ∀ W', (Instr.index 78 (.agg #[.int .i64 m.kd, .int .i64 m.tn, .int .i64 m.sq, .int .i64 m.fr, .int .i64 m.n]) (.int .i64 2)).run Tryz.prog W' = .ok (.int .i64 (m.sq)) W' := fun W' => by kernel_rfl
        go_wp2_with fail
        clear hidx
        refine (putInt_any (m.sq) wr).mono ?_
        rintro e w5 ⟨rfl, hb5⟩
        have HBL5 := Lib.hid (HBL.out.below hb5)
        have HB5 : Hid (Below b w2 w5) := HB.out.trans (hb5.mono HZ.out)
        have HZ5 : Hid (b ≤ w5.heap.size) := (by have := hb5.size; have := HZ.out; omega : b ≤ w5.heap.size)
        obtain ⟨y, hy⟩ : ∃ y : ByteArray, (⟨(putL (m.sq)).toArray⟩ : ByteArray) = y := ⟨_, rfl⟩
        have hyl : y.data.toList = putL (m.sq) := by rw [← hy]
        have hys : y.size ≤ 9 := by rw [← blen, hyl]; exact putL_len _
        rw [hy]
        have HYL := Lib.hid hyl
        clear hb5 hy hyl
        go_wp2_with fail
        refine (writeString_any b b _ y w5 HBL5.out (by omega) HZ5.out).mono ?_
        rintro e w6 ⟨⟨v, rfl⟩, h6, hb6, _⟩
        rw [HYL.out, ← HX.out] at h6
        have HBL6 := Lib.hid h6
        have HB6 := Lib.hid (HB5.out.trans hb6)
        have HZ6 : Hid (b ≤ w6.heap.size) := (by have := hb6.size; have := HZ5.out; omega : b ≤ w6.heap.size)
        clear h6 hb6 hle
        go_wp2_with fail
        go_roundw
        case rel => exact ⟨3, by omega, rfl, HBL6, HZ6, HB6⟩
        case measure => simp [intOf]
      · have HX := Lib.hid (encI_snoc [m.kd, m.tn, m.sq, m.fr, m.n] 3 (m.fr) rfl)
        have hidx : ∀ W', (Instr.index 78 (.agg #[.int .i64 m.kd, .int .i64 m.tn, .int .i64 m.sq, .int .i64 m.fr, .int .i64 m.n]) (.int .i64 3)).run Tryz.prog W' = .ok (.int .i64 (m.fr)) W' := fun W' => by kernel_rfl
        go_wp2_with fail
        clear hidx
        refine (putInt_any (m.fr) wr).mono ?_
        rintro e w5 ⟨rfl, hb5⟩
        have HBL5 := Lib.hid (HBL.out.below hb5)
        have HB5 : Hid (Below b w2 w5) := HB.out.trans (hb5.mono HZ.out)
        have HZ5 : Hid (b ≤ w5.heap.size) := (by have := hb5.size; have := HZ.out; omega : b ≤ w5.heap.size)
        obtain ⟨y, hy⟩ : ∃ y : ByteArray, (⟨(putL (m.fr)).toArray⟩ : ByteArray) = y := ⟨_, rfl⟩
        have hyl : y.data.toList = putL (m.fr) := by rw [← hy]
        have hys : y.size ≤ 9 := by rw [← blen, hyl]; exact putL_len _
        rw [hy]
        have HYL := Lib.hid hyl
        clear hb5 hy hyl
        go_wp2_with fail
        refine (writeString_any b b _ y w5 HBL5.out (by omega) HZ5.out).mono ?_
        rintro e w6 ⟨⟨v, rfl⟩, h6, hb6, _⟩
        rw [HYL.out, ← HX.out] at h6
        have HBL6 := Lib.hid h6
        have HB6 := Lib.hid (HB5.out.trans hb6)
        have HZ6 : Hid (b ≤ w6.heap.size) := (by have := hb6.size; have := HZ5.out; omega : b ≤ w6.heap.size)
        clear h6 hb6 hle
        go_wp2_with fail
        go_roundw
        case rel => exact ⟨4, by omega, rfl, HBL6, HZ6, HB6⟩
        case measure => simp [intOf]
      · have HX := Lib.hid (encI_snoc [m.kd, m.tn, m.sq, m.fr, m.n] 4 (m.n) rfl)
        have hidx : ∀ W', (Instr.index 78 (.agg #[.int .i64 m.kd, .int .i64 m.tn, .int .i64 m.sq, .int .i64 m.fr, .int .i64 m.n]) (.int .i64 4)).run Tryz.prog W' = .ok (.int .i64 (m.n)) W' := fun W' => by kernel_rfl
        go_wp2_with fail
        clear hidx
        refine (putInt_any (m.n) wr).mono ?_
        rintro e w5 ⟨rfl, hb5⟩
        have HBL5 := Lib.hid (HBL.out.below hb5)
        have HB5 : Hid (Below b w2 w5) := HB.out.trans (hb5.mono HZ.out)
        have HZ5 : Hid (b ≤ w5.heap.size) := (by have := hb5.size; have := HZ.out; omega : b ≤ w5.heap.size)
        obtain ⟨y, hy⟩ : ∃ y : ByteArray, (⟨(putL (m.n)).toArray⟩ : ByteArray) = y := ⟨_, rfl⟩
        have hyl : y.data.toList = putL (m.n) := by rw [← hy]
        have hys : y.size ≤ 9 := by rw [← blen, hyl]; exact putL_len _
        rw [hy]
        have HYL := Lib.hid hyl
        clear hb5 hy hyl
        go_wp2_with fail
        refine (writeString_any b b _ y w5 HBL5.out (by omega) HZ5.out).mono ?_
        rintro e w6 ⟨⟨v, rfl⟩, h6, hb6, _⟩
        rw [HYL.out, ← HX.out] at h6
        have HBL6 := Lib.hid h6
        have HB6 := Lib.hid (HB5.out.trans hb6)
        have HZ6 : Hid (b ≤ w6.heap.size) := (by have := hb6.size; have := HZ5.out; omega : b ≤ w6.heap.size)
        clear h6 hb6 hle
        go_wp2_with fail
        go_roundw
        case rel => exact ⟨5, by omega, rfl, HBL6, HZ6, HB6⟩
        case measure => simp [intOf]
    · have q1 : ¬ (j : Int) < 5 := by omega
      obtain rfl : j = 5 := by omega
      have hk9 := HK2.out.kept (HB.out.block N HNb.out)
      have c0 : wr.cell? ⟨N, 0, none⟩ = some (.int .i64 m.kd) := hk9.cell 0
      have HR9 : Hid (wr.rangeAt N 5 m.o.l) := hk9.rangeO 5 rfl
      clear h hk9
      by_cases hk : m.kd = 1
      · have HEG : Hid (encM m al = encI [m.kd, m.tn, m.sq, m.fr, m.n] ++ putSL (encG m.o al)) := (by rw [encM, if_pos hk] : encM m al = encI [m.kd, m.tn, m.sq, m.fr, m.n] ++ putSL (encG m.o al))
        have HEN := Lib.hid (gREnc_ok m.o al wr (HOK.out hk) HAL.out HLM.out (HRA2.out.kept (HBB.out.symm ▸ HB.out)) HTS.out)
        rw [hk] at c0
        clear hk
        go_wp2_with (refine wpList_load_mid rfl 30 (.tmp 42) rfl N 5 rfl m.o.l _ HR9.out Tryz.underlying30 rfl HSZ.out ?_)
        refine HEN.out.mono ?_
        rintro e w6 ⟨rfl, hb6⟩
        have HBL6 := Lib.hid (HBL.out.below hb6)
        have HB6 : Hid (Below b w2 w6) := HB.out.trans (hb6.mono HZ.out)
        have HZ6 : Hid (b ≤ w6.heap.size) := (by have := hb6.size; have := HZ.out; omega : b ≤ w6.heap.size)
        have HPS := Lib.hid (fun w => putString_any ⟨(encG m.o al).toArray⟩ w (by have := HEGL.out; unfold maxLen; show (encG m.o al).toArray.size ≤ _; rw [List.size_toArray]; omega))
        obtain ⟨z, hz⟩ : ∃ z : ByteArray, (⟨(encG m.o al).toArray⟩ : ByteArray) = z := ⟨_, rfl⟩
        have hzl : z.data.toList = encG m.o al := by rw [← hz]
        rw [hz] at HPS ⊢
        have HZL := Lib.hid hzl
        clear hb6 HBL HB HZ HEN hz hzl
        go_wp2_with fail
        refine (HPS.out _).mono ?_
        rintro e w7 ⟨rfl, hb7⟩
        have HBL7 := Lib.hid (HBL6.out.below hb7)
        have HB7 : Hid (Below b w2 w7) := HB6.out.trans (hb7.mono HZ6.out)
        have HZ7 : Hid (b ≤ w7.heap.size) := (by have := hb7.size; have := HZ6.out; omega : b ≤ w7.heap.size)
        rw [HZL.out]
        obtain ⟨y, hy⟩ : ∃ y : ByteArray, (⟨(putSL (encG m.o al)).toArray⟩ : ByteArray) = y := ⟨_, rfl⟩
        have hyl : y.data.toList = putSL (encG m.o al) := by rw [← hy]
        have hys : y.size ≤ 65545 := by rw [← blen, hyl]; exact putSL_any _
        rw [hy]
        have HYL := Lib.hid hyl
        clear hb7 HBL6 HB6 HZ6 hy hyl
        go_wp2_with fail
        refine (writeString_any b b _ y w7 HBL7.out (by omega) HZ7.out).mono ?_
        rintro e w8 ⟨⟨v, rfl⟩, h8, hb8, _⟩
        rw [HYL.out] at h8
        have HB8 := Lib.hid (HB7.out.trans hb8)
        have HST := Lib.hid (string_keeps b b (encI [m.kd, m.tn, m.sq, m.fr, m.n] ++ putSL (encG m.o al)) w8 h8 (headM_ne m _ HKR.out))
        clear h8 hb8 HBL7 HB7 HZ7 hle
        go_wp2_with fail
        refine HST.out.mono ?_
        rintro e w9 ⟨rfl, hb9, _⟩
        have HB9 : Hid (Below N W w9) := HB2.out.trans ((HB8.out.trans hb9).mono (Nat.le_of_lt HNb.out))
        clear hb9
        go_wp2_with fail
        go_ret2
        exact ⟨by rw [HEG.out]; first | rfl | (rw [List.append_nil]; rfl), by rw [HN.out]; exact HB9.out⟩
      · have hk' : (m.kd == 1) = false := beq_eq_false_iff_ne.2 hk
        have HEG : Hid (encM m al = encI [m.kd, m.tn, m.sq, m.fr, m.n] ++ []) := (by rw [encM, if_neg hk] : encM m al = encI [m.kd, m.tn, m.sq, m.fr, m.n] ++ [])
        have HB8 := HB
        have HST := Lib.hid (string_keeps b b (encI [m.kd, m.tn, m.sq, m.fr, m.n] ++ []) wr (by rw [List.append_nil]; exact HBL.out) (headM_ne m _ HKR.out))
        clear hk hle
        go_wp2_with fail
        refine HST.out.mono ?_
        rintro e w9 ⟨rfl, hb9, _⟩
        have HB9 : Hid (Below N W w9) := HB2.out.trans ((HB8.out.trans hb9).mono (Nat.le_of_lt HNb.out))
        clear hb9
        go_wp2_with fail
        go_ret2
        exact ⟨by rw [HEG.out]; first | rfl | (rw [List.append_nil]; rfl), by rw [HN.out]; exact HB9.out⟩
end Go.Proofs.YtjkiidhnmljmbaaGreatDoor
